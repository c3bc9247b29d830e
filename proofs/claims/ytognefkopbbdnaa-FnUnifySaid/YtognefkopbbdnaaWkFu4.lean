import Derived.Test.YtognefkopbbdnaaWkFu3
namespace Go.Proofs.Ytognefkopbbdnaa
open Go.Sx Go.Sy IntKind Try
attribute [local irreducible] Go.wpList Go.wpStill Go.wpQuiet Go.Code.wp
set_option maxRecDepth 100000
set_option maxHeartbeats 1000000
set_option linter.unusedVariables false
set_option linter.unusedSimpArgs false

/-! spec_Subsumes -/
mutual
def spec_Subsumes.l0 : Nat → (List Cell) → (List Cell) → (List Int) → (List (List Cell)) → Int → Int → Option Bool
  | 0, _, _, _, _, _, _ => none
  | k50 + 1, x1, x6, x27, x32, x37, x38 => (if x38 < (x1.length : Int) then (if x37 ≥ (x6.length : Int) then some false else (if 0 ≤ x38 then (if ((x1.getD ((x38).toNat) z65).kind) = 0 then ((spec_l2next.f k50 x6 x37).bind fun t68 => (if 0 ≤ x37 then (if x37 ≤ t68 then (if t68 ≤ (x6.length : Int) then ((spec_l2find.f k50 x27 ((x1.getD ((x38).toNat) z65).n)).bind fun t91 => (if t91 < 0 then (if x27.length + 1 ≤ 17592186044416 then (if x32.length + 1 ≤ 5864062014805 then (spec_Subsumes.l1 k50 x1 x6 x37 x38 t68 (x27 ++ [(x1.getD ((x38).toNat) z65).n]) (x32 ++ [((x6.drop ((x37 : Int).toNat)).take ((t68 : Int).toNat - (x37 : Int).toNat))])) else none) else none) else (if 0 ≤ t91 then (if t91 < (x32.length : Int) then (if ((x32.getD ((t91).toNat) ([] : List Cell)).length : Int) ≠ (((x6.drop ((x37 : Int).toNat)).take ((t68 : Int).toNat - (x37 : Int).toNat)).length : Int) then some false else ((spec_l2compare.f k50 (x32.getD ((t91).toNat) ([] : List Cell)) ((x6.drop ((x37 : Int).toNat)).take ((t68 : Int).toNat - (x37 : Int).toNat))).bind fun t200 => (if t200 ≠ 0 then some false else (spec_Subsumes.l1 k50 x1 x6 x37 x38 t68 x27 x32)))) else none) else none))) else none) else none) else none)) else (if x38 ≤ (i64.wrap (x38 + 1)) then (if (i64.wrap (x38 + 1)) ≤ (x1.length : Int) then (if 0 ≤ x37 then (if x37 ≤ (i64.wrap (x37 + 1)) then (if (i64.wrap (x37 + 1)) ≤ (x6.length : Int) then ((spec_l2compare.f k50 ((x1.drop ((x38 : Int).toNat)).take (((i64.wrap (x38 + 1)) : Int).toNat - (x38 : Int).toNat)) ((x6.drop ((x37 : Int).toNat)).take (((i64.wrap (x37 + 1)) : Int).toNat - (x37 : Int).toNat))).bind fun t221 => (if t221 ≠ 0 then some false else (spec_Subsumes.l0 k50 x1 x6 x27 x32 (i64.wrap (x37 + 1)) (i64.wrap (x38 + 1))))) else none) else none) else none) else none) else none)) else none)) else some (decide (x37 = (x6.length : Int))))
def spec_Subsumes.l1 : Nat → (List Cell) → (List Cell) → Int → Int → Int → (List Int) → (List (List Cell)) → Option Bool
  | 0, _, _, _, _, _, _, _ => none
  | k126 + 1, x1, x6, x37, x38, t68, x105, x110 => (spec_Subsumes.l0 k126 x1 x6 x105 x110 (i64.wrap (x37 + (((x6.drop ((x37 : Int).toNat)).take ((t68 : Int).toNat - (x37 : Int).toNat)).length : Int))) (i64.wrap (x38 + 1)))
end
def spec_Subsumes.f (k : Nat) (x1 : List Cell) (x6 : List Cell) : Option Bool := ((spec_ValidTerm.f k x1).bind fun t11 => (if ¬ (t11 = true) then some false else ((spec_ValidTerm.f k x6).bind fun t18 => (if ¬ (t18 = true) then some false else (spec_Subsumes.l0 k x1 x6 [] [] 0 0)))))
theorem spec_Subsumes.calls (k : Nat) (w : World) (H : Hp) (x1 : List Cell) (A2 : Option Addr) (c3 : Nat) (x6 : List Cell) (A7 : Option Addr) (c8 : Nat) (h4 : Rd st65 H A2 x1) (l5 : x1.length ≤ c3) (h9 : Rd st65 H A7 x6) (l10 : x6.length ≤ c8) (S : Own [] H w) (r : Bool) (M : spec_Subsumes.f k x1 x6 = some r) :
    Calls Try.prog 30 #[.slice A2 x1.length c3, .slice A7 x6.length c8] w (fun e e_w => e = .returned (.bool r) ∧ Chg no w e_w) := by
  rw [spec_Subsumes.f] at M
  refine enter (l := [.slice A2 x1.length c3, .slice A7 x6.length c8]) 101 func30 rfl rfl rfl ?_
  have S0_ := S.st
  refine wQ (wR (lV 4 (eA (.bool false)) (wN (tN (wQ (wQ (wR (lV 11 (eM (.slice A2 x1.length c3)) ?_))))))))
  obtain ⟨t11, u12, M⟩ := bnd M
  refine lC 12 (eC [.tmp 11] [.slice A2 x1.length c3] func15) (spec_ValidTerm.calls k w H x1 A2 c3 h4 l5 S0_.own0 t11 u12) ?_
  rintro _ w13 ⟨rfl, C14⟩
  refine ⟨_, rfl, ?_⟩
  obtain ⟨S15, K16⟩ := S0_.still C14
  refine lV 13 (e_notv (c := t11) kr) (lV 14 (eM (.bool (decide (¬ (t11 = true))))) ?_)
  by_cases q17 : ¬ (t11 = true)
  · replace M := ifp q17 M
    refine lK 14 true (bT q17) ?_
    refine lK 14 true (bT q17) ?_
    refine lK 14 true (bT q17) ?_
    refine lV 18 (eT (.bool true) (bT q17)) (wN (tN (cond_t rfl kr (wQ (wR (lV 4 (eA (.bool false)) (wN (tN (wT (tR ?_))))))))))
    obtain rfl := sj M
    exact ret1 rfl rfl  (show _ = .bool false from kr) ⟨rfl, S15.chg⟩
  replace M := ifn q17 M
  refine lG 15 14 (bF q17) (eM (.slice A7 x6.length c8)) ?_
  obtain ⟨t18, u19, M⟩ := bnd M
  refine lcallg (d := 16) (t := 14) rfl kr rfl (bF q17) rfl kr (eC [.tmp 15] [.slice A7 x6.length c8] func15) (spec_ValidTerm.calls k w13 H x6 A7 c8 h9 l10 S15.own0 t18 u19) ?_
  rintro _ w20 ⟨rfl, C21⟩
  refine ⟨_, rfl, ?_⟩
  obtain ⟨S22, K23⟩ := S15.still C21
  refine lG 17 14 (bF q17) (e_notv (c := t18) kr) (lV 18 (eF (.bool (decide (¬ (t18 = true)))) (bF q17)) (wN (tN ?_)))
  by_cases q24 : ¬ (t18 = true)
  · replace M := ifp q24 M
    refine cT (bT q24) (wQ (wR (lV 4 (eA (.bool false)) (wN (tN (wT (tR ?_)))))))
    obtain rfl := sj M
    exact ret1 rfl rfl  (show _ = .bool false from kr) ⟨rfl, S22.chg⟩
  replace M := ifn q24 M
  refine cF (bF q24) (wK (tN (wQ (wR (lV 5 (eA (.slice none 0 0)) (wN (tN (wQ (wR (lV 6 (eA (.slice none 0 0)) (wN (tN (wQ (wR (lV 7 (eA (.int .i64 0)) (wN (tN (wQ (wQ (wR (lV 8 (eA (.int .i64 0)) (wN (tN ?_)))))))))))))))))))))))
  refine wp_block ?_
  have S51 := S22.unit
  have S52 := S51.unit
  have S53 := S52.pulls [no, no] [1] rfl
  refine wp_loop_g (fun k48 a49 w25 => ∃ (f26 : Nat → Value) (x27 : List Int) (A28 : Option Addr) (c29 : Nat) (F30 : Foot) (x32 : List (List Cell)) (A33 : Option Addr) (c34 : Nat) (F35 : Foot) (x37 : Int) (x38 : Int), a49 = mk 101 f26 ∧ f26 0 = .slice A2 x1.length c3 ∧ f26 1 = .slice A7 x6.length c8 ∧ f26 5 = .slice A28 x27.length c29 ∧ f26 6 = .slice A33 x32.length c34 ∧ f26 7 = .int .i64 x37 ∧ f26 8 = .int .i64 x38 ∧ Row tInt 3 H (hp w25) F30 A28 c29 x27 ∧ Row (ro sl65) 25 H (hp w25) F35 A33 c34 x32 ∧ St (anyOf []) H w [F30, F35] H w25 ∧ spec_Subsumes.l0 k48 x1 x6 x27 x32 x37 x38 = some r) k ⟨_, [], none, 0, no, [], none, 0, no, 0, 0, rfl, kr, kr, kr, kr, kr, kr, (Row.nil _ _ _ _ _), (Row.nil _ _ _ _ _), S53, M⟩ ?_
  clear M
  rintro k48 a49 w25 ⟨f26, x27, A28, c29, F30, x32, A33, c34, F35, x37, x38, rfl, e39, e40, e41, e42, e43, e44, h31, h36, S45, M⟩
  rcases k48 with _ | k50
  · rw [spec_Subsumes.l0] at M
    cases M
  rw [spec_Subsumes.l0] at M
  refine wQ (wQ (wR (lV 19 (eM (.int .i64 x38) (by exact e44)) (lV 20 (eM (.slice A2 x1.length c3) (by exact e39)) (lV 21 (e_len (A := A2) (n := x1.length) (c := c3) underlying25 kr) (lV 22 (eLt .i64 x38 (x1.length : Int)) (wN (tN ?_))))))))
  by_cases q54 : x38 < (x1.length : Int)
  · replace M := ifp q54 M
    refine cT (bT q54) (wK (tN (wQ (wp_block (wQ (wQ (wR (lV 25 (eM (.int .i64 x37) (by exact e43)) (lV 26 (eM (.slice A7 x6.length c8) (by exact e40)) (lV 27 (e_len (A := A7) (n := x6.length) (c := c8) underlying25 kr) (lV 28 (e_geq (k := .i64) (a := x37) (b := (x6.length : Int)) kr kr) (wN (tN ?_)))))))))))))
    by_cases q55 : x37 ≥ (x6.length : Int)
    · replace M := ifp q55 M
      refine cT (bT q55) (wQ (wR (lV 4 (eA (.bool false)) (wN (tN (wT (tR ?_)))))))
      refine inb_r (tR (tR (inb_r (tR ?_))))
      obtain rfl := sj M
      exact ret1 rfl rfl  (show _ = .bool false from kr) ⟨rfl, S45.chg⟩
    replace M := ifn q55 M
    refine cF (bF q55) (wK (tN (wQ (wQ (wR (lV 29 (eM (.slice A2 x1.length c3) (by exact e39)) (lV 30 (eM (.int .i64 x38) (by exact e44)) ?_)))))))
    obtain ⟨q56, M⟩ := chk M
    obtain ⟨b57, o58, e59⟩ := Rd.addr h4 (show (x38).toNat < x1.length by omega)
    obtain ⟨y60, r61, k62⟩ := Rd.at h4 e59 (getD_some z65 (show (x38).toNat < x1.length by omega))
    obtain ⟨A63, c64, rfl, l65, h66⟩ := st65_open r61
    refine lV 31 (eI b57 o58 x1.length c3 3 x38 .i64 underlying25 e59 q56 q54) (lV 32 (eD b57 (o58 + (x38 : Int).toNat * 3) 0 1 underlying65) (lV 33 (eL ⟨b57, o58 + (x38 : Int).toNat * 3 + 0, none⟩ (.int .i64 ((x1.getD ((x38).toNat) z65).kind)) underlying3 (hpx (S45.inv.cell (k62 0 _ rfl)))) (lV 34 (eEq .i64 (x1.getD ((x38).toNat) z65).kind 0) (wN (tN ?_)))))
    by_cases q67 : ((x1.getD ((x38).toNat) z65).kind) = 0
    · replace M := ifp q67 M
      refine cT (bT q67) (wQ (wR (lV 35 (eM (.slice A7 x6.length c8) (by exact e40)) (lV 36 (eM (.int .i64 x37) (by exact e43)) (lV 37 (eM (.slice A7 x6.length c8) (by exact e40)) (lV 38 (eM (.int .i64 x37) (by exact e43)) ?_))))))
      obtain ⟨t68, u69, M⟩ := bnd M
      refine lC 39 (eC [.tmp 37, .tmp 38] [.slice A7 x6.length c8, .int .i64 x37] func70) (spec_l2next.calls k50 w25 H x6 A7 c8 x37 h9 l10 S45.own0 t68 u69) ?_
      rintro _ w70 ⟨rfl, C71⟩
      refine ⟨_, rfl, ?_⟩
      obtain ⟨S72, K73⟩ := S45.still C71
      replace h31 := h31.move (K73.at 0 rfl)
      replace h36 := h36.move (K73.at 1 rfl)
      obtain ⟨q74, M⟩ := chk M
      obtain ⟨q75, M⟩ := chk M
      obtain ⟨q76, M⟩ := chk M
      obtain ⟨A77, h80, l79, h78⟩ := Rd.sub2 (d := st65) (n := x6.length) (m := 3) (cap := c8) (a := x37) (b := t68) rfl h9 q74 q75 q76 rfl l10
      refine lV 40 (e_slice_lh (n := x6.length) (m := 3) (cap := c8) (A := A7) (a := x37) (b := t68) (k := .i64) (k2 := .i64) underlying25 kr kr kr kr q74 q75 q76 l10 h80) (lV 9 (eA (.slice A77 ((x6.drop ((x37 : Int).toNat)).take ((t68 : Int).toNat - (x37 : Int).toNat)).length (c8 - ((x37 : Int).toNat)))) (wN (tN (wQ (wR (lV 41 (eM (.slice A28 x27.length c29) (by exact e41)) (lV 42 (eM (.slice A2 x1.length c3) (by exact e39)) (lV 43 (eM (.int .i64 x38) (by exact e44)) ?_))))))))
      obtain ⟨b81, o82, e83⟩ := Rd.addr h4 (show (x38).toNat < x1.length by omega)
      obtain ⟨y84, r85, k86⟩ := Rd.at h4 e83 (getD_some z65 (show (x38).toNat < x1.length by omega))
      obtain ⟨A87, c88, rfl, l89, h90⟩ := st65_open r85
      refine lV 44 (eI b81 o82 x1.length c3 3 x38 .i64 underlying25 e83 q56 q54) (lV 45 (eD b81 (o82 + (x38 : Int).toNat * 3) 1 1 underlying65) (lV 46 (eL ⟨b81, o82 + (x38 : Int).toNat * 3 + 1, none⟩ (.int .i64 ((x1.getD ((x38).toNat) z65).n)) underlying3 (hpx (S72.inv.cell (k86 1 _ rfl)))) ?_))
      obtain ⟨t91, u92, M⟩ := bnd M
      refine lC 47 (eC [.tmp 41, .tmp 46] [.slice A28 x27.length c29, .int .i64 ((x1.getD ((x38).toNat) z65).n)] func71) (by have l93 := h31.le; obtain ⟨H94, S95, E96, h97, z98⟩ := S72.frzRow h31; replace h36 := h36.ext E96; exact (spec_l2find.calls k50 w70 H94 x27 A28 c29 ((x1.getD ((x38).toNat) z65).n) h97 l93 S95.own0 t91 u92)) ?_
      rintro _ w99 ⟨rfl, C100⟩
      refine ⟨_, rfl, ?_⟩
      obtain ⟨S101, K102⟩ := S72.still C100
      replace h31 := h31.move (K102.at 0 rfl)
      replace h36 := h36.move (K102.at 1 rfl)
      refine lV 10 (eA (.int .i64 t91)) (wN (tN ?_))
      refine wp_seq_cut (fun a125 w103 => ∃ (k127 : Nat), k127 ≤ k50 ∧ ∃ (f104 : Nat → Value) (x105 : List Int) (A106 : Option Addr) (c107 : Nat) (F108 : Foot) (x110 : List (List Cell)) (A111 : Option Addr) (c112 : Nat) (F113 : Foot), a125 = mk 101 f104 ∧ f104 0 = .slice A2 x1.length c3 ∧ f104 1 = .slice A7 x6.length c8 ∧ f104 5 = .slice A106 x105.length c107 ∧ f104 6 = .slice A111 x110.length c112 ∧ f104 7 = .int .i64 x37 ∧ f104 8 = .int .i64 x38 ∧ f104 9 = .slice A77 ((x6.drop ((x37 : Int).toNat)).take ((t68 : Int).toNat - (x37 : Int).toNat)).length (c8 - ((x37 : Int).toNat)) ∧ Row tInt 3 H (hp w103) F108 A106 c107 x105 ∧ Row (ro sl65) 25 H (hp w103) F113 A111 c112 x110 ∧ St (anyOf []) H w [F108, F113] H w103 ∧ spec_Subsumes.l1 k127 x1 x6 x37 x38 t68 x105 x110 = some r) ?_ ?_
      · refine wQ (wR (lV 48 (eM (.int .i64 t91)) (lV 49 (eLt .i64 t91 0) (wN (tN ?_)))))
        by_cases q128 : t91 < 0
        · replace M := ifp q128 M
          refine cT (bT q128) (wQ (wR (lV 50 (eM (.slice A28 x27.length c29) (by exact e41)) (lV 51 (eM (.slice A2 x1.length c3) (by exact e39)) (lV 52 (eM (.int .i64 x38) (by exact e44)) ?_)))))
          obtain ⟨b129, o130, e131⟩ := Rd.addr h4 (show (x38).toNat < x1.length by omega)
          obtain ⟨y132, r133, k134⟩ := Rd.at h4 e131 (getD_some z65 (show (x38).toNat < x1.length by omega))
          obtain ⟨A135, c136, rfl, l137, h138⟩ := st65_open r133
          refine lV 53 (eI b129 o130 x1.length c3 3 x38 .i64 underlying25 e131 q56 q54) (lV 54 (eD b129 (o130 + (x38 : Int).toNat * 3) 1 1 underlying65) (lV 55 (eL ⟨b129, o130 + (x38 : Int).toNat * 3 + 1, none⟩ (.int .i64 ((x1.getD ((x38).toNat) z65).n)) underlying3 (hpx (S101.inv.cell (k134 1 _ rfl)))) ?_))
          refine lW 56 (new_blk (v := fun g_ => .slice (some ⟨g_, 0, none⟩) 1 1) (cs := #[.int .i64 ((x1.getD ((x38).toNat) z65).n)]) (t := 3) S101 kr) ?_
          rintro _ w139 ⟨g140, rfl, b141, S142, K143⟩
          replace h31 := h31.move (K143.at 0 rfl)
          replace h36 := h36.move (K143.at 1 rfl)
          obtain ⟨q144, M⟩ := chk M
          have S145 := S142.pulls [F30, (is g140), F35] [1] rfl
          have S146 := S145.unit
          have S147 := S146.pulls [F30, no, (is g140), F35] [1] rfl
          refine lW 57 (e_append (d := tInt) (n := x27.length) (xs := x27) (cap := c29) (A := A28) (ys := [(x1.getD ((x38).toNat) z65).n]) (A2 := (some ⟨g140, 0, none⟩)) (c2 := 1) (z := .int .i64 0) (bytes := 8) S147 underlying32 kr rfl (by decide) kr rfl kr h31 (elsO_one1 rfl) (.inr (blk_news b141 rfl)) (show (x27.length + [(x1.getD ((x38).toNat) z65).n].length) * 8 ≤ _ by first | omega | (simp only [List.length_cons, List.length_nil]; omega)) (by decide)) ?_
          rintro _ w148 ⟨A149, c150, F151, rfl, h152, S153, K154⟩
          replace h36 := h36.move (K154.at 1 rfl)
          refine lV 5 (eA (.slice A149 ((x27 ++ [(x1.getD ((x38).toNat) z65).n]).length) c150)) (wN (tN (wR (lV 58 (eM (.slice A33 x32.length c34) (by exact e42)) (lV 59 (eM (.slice A77 ((x6.drop ((x37 : Int).toNat)).take ((t68 : Int).toNat - (x37 : Int).toNat)).length (c8 - ((x37 : Int).toNat)))) ?_)))))
          refine lW 60 (new_blk (v := fun g_ => .slice (some ⟨g_, 0, none⟩) 1 1) (cs := #[.slice A77 ((x6.drop ((x37 : Int).toNat)).take ((t68 : Int).toNat - (x37 : Int).toNat)).length (c8 - ((x37 : Int).toNat))]) (t := 25) S153 kr) ?_
          rintro _ w155 ⟨g156, rfl, b157, S158, K159⟩
          replace h152 := h152.move (K159.at 0 rfl)
          replace h36 := h36.move (K159.at 2 rfl)
          obtain ⟨q160, M⟩ := chk M
          have S161 := S158.pulls [F35, (is g156), F151, (is g140)] [3] rfl
          have S162 := S161.unit
          have S163 := S162.pulls [F35, no, (is g156), F151, (is g140)] [1] rfl
          refine lW 61 (e_append (d := (ro sl65)) (n := x32.length) (xs := x32) (cap := c34) (A := A33) (ys := [((x6.drop ((x37 : Int).toNat)).take ((t68 : Int).toNat - (x37 : Int).toNat))]) (A2 := (some ⟨g156, 0, none⟩)) (c2 := 1) (z := .slice none 0 0) (bytes := 24) S163 underlying38 kr rfl (by decide) kr rfl kr h36 (elsO_one1 ⟨A77, (c8 - ((x37 : Int).toNat)), rfl, l79, h78⟩) (.inr (blk_news b157 rfl)) (show (x32.length + [((x6.drop ((x37 : Int).toNat)).take ((t68 : Int).toNat - (x37 : Int).toNat))].length) * 24 ≤ _ by first | omega | (simp only [List.length_cons, List.length_nil]; omega)) (by decide)) ?_
          rintro _ w164 ⟨A165, c166, F167, rfl, h168, S169, K170⟩
          replace h152 := h152.move (K170.at 1 rfl)
          refine lV 6 (eA (.slice A165 ((x32 ++ [((x6.drop ((x37 : Int).toNat)).take ((t68 : Int).toNat - (x37 : Int).toNat))]).length) c166)) (wN (tN ?_))
          have S171 := S169.pulls [F151, F167, (is g156), (is g140)] [2] rfl
          have S172 := St.first (Fa := [F151, F167]) (Fr := [(is g156), (is g140)]) S171
          exact ⟨k50, (by omega), _, (x27 ++ [(x1.getD ((x38).toNat) z65).n]), A149, c150, F151, (x32 ++ [((x6.drop ((x37 : Int).toNat)).take ((t68 : Int).toNat - (x37 : Int).toNat))]), A165, c166, F167, rfl, (by exact e39), (by exact e40), kr, kr, (by exact e43), (by exact e44), kr, h152, h168, S172, M⟩
        replace M := ifn q128 M
        refine cF (bF q128) (wQ (wR (lV 62 (eM (.slice A33 x32.length c34) (by exact e42)) (lV 63 (eM (.int .i64 t91)) ?_))))
        obtain ⟨q173, M⟩ := chk M
        obtain ⟨q174, M⟩ := chk M
        obtain ⟨b175, e177⟩ := Row.addr h36 (show (t91).toNat < x32.length by omega)
        refine lV 64 (eI b175 0 x32.length c34 1 t91 .i64 underlying38 e177 q173 q174) ?_
        obtain ⟨y178, F179, r180, s181, k182⟩ := Row.at h36 e177 (getD_some ([] : List Cell) (show (t91).toNat < x32.length by omega))
        obtain ⟨A183, c184, rfl, l185, h186⟩ := r180
        refine lV 65 (eL ⟨b175, 0 + (t91 : Int).toNat * 1, none⟩ (.slice A183 (x32.getD ((t91).toNat) ([] : List Cell)).length c184) underlying25 (hpx (k182 0 _ rfl))) (lV 66 (e_len (A := A183) (n := (x32.getD ((t91).toNat) ([] : List Cell)).length) (c := c184) underlying25 kr) (lV 67 (eM (.slice A77 ((x6.drop ((x37 : Int).toNat)).take ((t68 : Int).toNat - (x37 : Int).toNat)).length (c8 - ((x37 : Int).toNat)))) (lV 68 (e_len (A := A77) (n := ((x6.drop ((x37 : Int).toNat)).take ((t68 : Int).toNat - (x37 : Int).toNat)).length) (c := (c8 - ((x37 : Int).toNat))) underlying25 kr) (lV 69 (eNe .i64 ((x32.getD ((t91).toNat) ([] : List Cell)).length : Int) (((x6.drop ((x37 : Int).toNat)).take ((t68 : Int).toNat - (x37 : Int).toNat)).length : Int)) (lV 70 (eM (.bool (decide (((x32.getD ((t91).toNat) ([] : List Cell)).length : Int) ≠ (((x6.drop ((x37 : Int).toNat)).take ((t68 : Int).toNat - (x37 : Int).toNat)).length : Int))))) ?_)))))
        by_cases q187 : ((x32.getD ((t91).toNat) ([] : List Cell)).length : Int) ≠ (((x6.drop ((x37 : Int).toNat)).take ((t68 : Int).toNat - (x37 : Int).toNat)).length : Int)
        · replace M := ifp q187 M
          refine lK 70 true (bT q187) ?_
          refine lK 70 true (bT q187) ?_
          refine lK 70 true (bT q187) ?_
          refine lK 70 true (bT q187) ?_
          refine lK 70 true (bT q187) ?_
          refine lK 70 true (bT q187) ?_
          refine lK 70 true (bT q187) ?_
          refine lV 78 (eT (.bool true) (bT q187)) (wN (tN (cond_t rfl kr (wQ (wR (lV 4 (eA (.bool false)) (wN (tN (wT (tR (tR (inb_r (tR (tR (inb_r (tR ?_))))))))))))))))
          obtain rfl := sj M
          exact ret1 rfl rfl  (show _ = .bool false from kr) ⟨rfl, S101.chg⟩
        replace M := ifn q187 M
        refine lG 71 70 (bF q187) (eM (.slice A33 x32.length c34) (by exact e42)) (lG 72 70 (bF q187) (eM (.int .i64 t91)) ?_)
        obtain ⟨b188, e190⟩ := Row.addr h36 (show (t91).toNat < x32.length by omega)
        refine lG 73 70 (bF q187) (eI b188 0 x32.length c34 1 t91 .i64 underlying38 e190 q173 q174) ?_
        obtain ⟨y191, F192, r193, s194, k195⟩ := Row.at h36 e190 (getD_some ([] : List Cell) (show (t91).toNat < x32.length by omega))
        obtain ⟨A196, c197, rfl, l198, h199⟩ := r193
        refine lG 74 70 (bF q187) (eL ⟨b188, 0 + (t91 : Int).toNat * 1, none⟩ (.slice A196 (x32.getD ((t91).toNat) ([] : List Cell)).length c197) underlying25 (hpx (k195 0 _ rfl))) (lG 75 70 (bF q187) (eM (.slice A77 ((x6.drop ((x37 : Int).toNat)).take ((t68 : Int).toNat - (x37 : Int).toNat)).length (c8 - ((x37 : Int).toNat)))) ?_)
        obtain ⟨t200, u201, M⟩ := bnd M
        refine lcallg (d := 76) (t := 70) rfl kr rfl (bF q187) rfl kr (eC [.tmp 74, .tmp 75] [.slice A196 (x32.getD ((t91).toNat) ([] : List Cell)).length c197, .slice A77 ((x6.drop ((x37 : Int).toNat)).take ((t68 : Int).toNat - (x37 : Int).toNat)).length (c8 - ((x37 : Int).toNat))] func60) (spec_l2compare.calls k50 w99 H (x32.getD ((t91).toNat) ([] : List Cell)) A196 c197 ((x6.drop ((x37 : Int).toNat)).take ((t68 : Int).toNat - (x37 : Int).toNat)) A77 (c8 - ((x37 : Int).toNat)) h199 l198 h78 l79 S101.own0 t200 u201) ?_
        rintro _ w202 ⟨rfl, C203⟩
        refine ⟨_, rfl, ?_⟩
        obtain ⟨S204, K205⟩ := S101.still C203
        replace h31 := h31.move (K205.at 0 rfl)
        replace h36 := h36.move (K205.at 1 rfl)
        refine lG 77 70 (bF q187) (eNe .i64 t200 0) (lV 78 (eF (.bool (decide (t200 ≠ 0))) (bF q187)) (wN (tN ?_)))
        by_cases q206 : t200 ≠ 0
        · replace M := ifp q206 M
          refine cT (bT q206) (wQ (wR (lV 4 (eA (.bool false)) (wN (tN (wT (tR (tR (inb_r (tR (tR (inb_r (tR ?_)))))))))))))
          obtain rfl := sj M
          exact ret1 rfl rfl  (show _ = .bool false from kr) ⟨rfl, S204.chg⟩
        replace M := ifn q206 M
        refine cF (bF q206) (wK (tN ?_))
        exact ⟨k50, (by omega), _, x27, A28, c29, F30, x32, A33, c34, F35, rfl, (by exact e39), (by exact e40), (by exact e41), (by exact e42), (by exact e43), (by exact e44), kr, h31, h36, S204, M⟩
      clear M
      rintro a125 w103 ⟨k127, z207, f104, x105, A106, c107, F108, x110, A111, c112, F113, rfl, e115, e116, e117, e118, e119, e120, e121, h109, h114, S122, M⟩
      rcases k127 with _ | k126
      · rw [spec_Subsumes.l1] at M
        cases M
      rw [spec_Subsumes.l1] at M
      refine wQ (wR (lV 79 (eM (.int .i64 x37) (by exact e119)) (lV 80 (eM (.slice A77 ((x6.drop ((x37 : Int).toNat)).take ((t68 : Int).toNat - (x37 : Int).toNat)).length (c8 - ((x37 : Int).toNat))) (by exact e121)) (lV 81 (e_len (A := A77) (n := ((x6.drop ((x37 : Int).toNat)).take ((t68 : Int).toNat - (x37 : Int).toNat)).length) (c := (c8 - ((x37 : Int).toNat))) underlying25 kr) (lV 82 (eAdd .i64 x37 (((x6.drop ((x37 : Int).toNat)).take ((t68 : Int).toNat - (x37 : Int).toNat)).length : Int)) (lV 7 (eA (.int .i64 (i64.wrap (x37 + (((x6.drop ((x37 : Int).toNat)).take ((t68 : Int).toNat - (x37 : Int).toNat)).length : Int))))) (wN (tN (wp_exit (tE (inb_hit (tN (wR (lV 23 (eM (.int .i64 x38) (by exact e120)) (lV 24 (eAdd .i64 x38 1) (lV 8 (eA (.int .i64 (i64.wrap (x38 + 1)))) (wN (tN ?_))))))))))))))))))
      exact ⟨k126, (by omega), _, x105, A106, c107, F108, x110, A111, c112, F113, (i64.wrap (x37 + (((x6.drop ((x37 : Int).toNat)).take ((t68 : Int).toNat - (x37 : Int).toNat)).length : Int))), (i64.wrap (x38 + 1)), rfl, (by exact e115), (by exact e116), (by exact e117), (by exact e118), kr, kr, h109, h114, S122, M⟩
    replace M := ifn q67 M
    refine cF (bF q67) (wK (tN (wQ (wQ ?_))))
    refine region_quiet kr kr (qV 83 (fun wq_ hq_ => eM (.slice A2 x1.length c3) (by exact e39)) (qV 84 (fun wq_ hq_ => eM (.int .i64 x38) (by exact e44)) (qV 85 (fun wq_ hq_ => eM (.int .i64 x38) (by exact e44)) (qV 86 (fun wq_ hq_ => eAdd .i64 x38 1) ?_))))
    obtain ⟨q208, M⟩ := chk M
    obtain ⟨q209, M⟩ := chk M
    obtain ⟨A210, h213, l212, h211⟩ := Rd.sub2 (d := st65) (n := x1.length) (m := 3) (cap := c3) (a := x38) (b := (i64.wrap (x38 + 1))) rfl h4 q56 q208 q209 rfl l5
    refine qV 87 (fun wq_ hq_ => e_slice_lh (n := x1.length) (m := 3) (cap := c3) (A := A2) (a := x38) (b := (i64.wrap (x38 + 1))) (k := .i64) (k2 := .i64) underlying25 kr kr kr kr q56 q208 q209 l5 h213) (qV 88 (fun wq_ hq_ => eM (.slice A7 x6.length c8) (by exact e40)) (qV 89 (fun wq_ hq_ => eM (.int .i64 x37) (by exact e43)) (qV 90 (fun wq_ hq_ => eM (.int .i64 x37) (by exact e43)) (qV 91 (fun wq_ hq_ => eAdd .i64 x37 1) ?_))))
    obtain ⟨q214, M⟩ := chk M
    obtain ⟨q215, M⟩ := chk M
    obtain ⟨q216, M⟩ := chk M
    obtain ⟨A217, h220, l219, h218⟩ := Rd.sub2 (d := st65) (n := x6.length) (m := 3) (cap := c8) (a := x37) (b := (i64.wrap (x37 + 1))) rfl h9 q214 q215 q216 rfl l10
    refine qV 92 (fun wq_ hq_ => e_slice_lh (n := x6.length) (m := 3) (cap := c8) (A := A7) (a := x37) (b := (i64.wrap (x37 + 1))) (k := .i64) (k2 := .i64) underlying25 kr kr kr kr q214 q215 q216 l10 h220) ?_
    obtain ⟨t221, u222, M⟩ := bnd M
    refine qcall (v := .int .i64 t221) (d := 93) rfl rfl kr (fun w_ => eC [.tmp 87, .tmp 92] [.slice A210 ((x1.drop ((x38 : Int).toNat)).take (((i64.wrap (x38 + 1)) : Int).toNat - (x38 : Int).toNat)).length (c3 - ((x38 : Int).toNat)), .slice A217 ((x6.drop ((x37 : Int).toNat)).take (((i64.wrap (x37 + 1)) : Int).toNat - (x37 : Int).toNat)).length (c8 - ((x37 : Int).toNat))] func60) (fun wq_ hq_ => (by obtain ⟨S_, K_⟩ := S45.still hq_; replace h31 := h31.move (K_.at 0 rfl); replace h36 := h36.move (K_.at 1 rfl); exact (spec_l2compare.calls k50 wq_ H ((x1.drop ((x38 : Int).toNat)).take (((i64.wrap (x38 + 1)) : Int).toNat - (x38 : Int).toNat)) A210 (c3 - ((x38 : Int).toNat)) ((x6.drop ((x37 : Int).toNat)).take (((i64.wrap (x37 + 1)) : Int).toNat - (x37 : Int).toNat)) A217 (c8 - ((x37 : Int).toNat)) h211 l212 h218 l219 S_.own0 t221 u222))) (qV 94 (fun wq_ hq_ => eNe .i64 t221 0) ?_)
    refine wpQuiet_nil ?_
    intro w223 C226
    obtain ⟨S224, K225⟩ := S45.still C226
    replace h31 := h31.move (K225.at 0 rfl)
    replace h36 := h36.move (K225.at 1 rfl)
    refine tN ?_
    by_cases q227 : t221 ≠ 0
    · replace M := ifp q227 M
      refine cT (bT q227) (wQ (wR (lV 4 (eA (.bool false)) (wN (tN (wT (tR ?_)))))))
      refine inb_r (tR (tR (inb_r (tR ?_))))
      obtain rfl := sj M
      exact ret1 rfl rfl  (show _ = .bool false from kr) ⟨rfl, S224.chg⟩
    replace M := ifn q227 M
    refine cF (bF q227) (wK (tN (wR (lV 95 (eM (.int .i64 x37) (by exact e43)) (lV 96 (eAdd .i64 x37 1) (lV 7 (eA (.int .i64 (i64.wrap (x37 + 1)))) (wN ?_)))))))
    refine inb_n (tN (wR (lV 23 (eM (.int .i64 x38) (by exact e44)) (lV 24 (eAdd .i64 x38 1) (lV 8 (eA (.int .i64 (i64.wrap (x38 + 1)))) (wN (tN ?_)))))))
    exact ⟨k50, (by omega), _, x27, A28, c29, F30, x32, A33, c34, F35, (i64.wrap (x37 + 1)), (i64.wrap (x38 + 1)), rfl, (by exact e39), (by exact e40), (by exact e41), (by exact e42), kr, kr, h31, h36, S224, M⟩
  replace M := ifn q54 M
  refine cF (bF q54) (wp_exit (tE (tE (inb_hit (tN (wQ (wR (lV 97 (eM (.int .i64 x37) (by exact e43)) (lV 98 (eM (.slice A7 x6.length c8) (by exact e40)) (lV 99 (e_len (A := A7) (n := x6.length) (c := c8) underlying25 kr) (lV 100 (eEq .i64 x37 (x6.length : Int)) (lV 4 (eA (.bool (decide (x37 = (x6.length : Int))))) (wN (tN (wT ?_)))))))))))))))
  obtain rfl := sj M
  exact ret1 rfl rfl  (show _ = .bool (decide (x37 = (x6.length : Int))) from kr) ⟨rfl, S45.chg⟩

/-! spec_DrawSubsumes -/
def spec_DrawSubsumes_2.f (k : Nat) (x1 : List UInt8) : Option ((List Cell) × (List Cell)) := ((spec_l4open.f x1).bind fun t6 => ((spec_l4rd_next_2.f t6).bind fun t20 => ((spec_l4any.f k t20.2).bind fun t33 => ((spec_ValidTerm.f k t33.1).bind fun t50 => (if ¬ (t50 = true) then none else ((spec_l13alike.f k t33.1 t33.2).bind fun t71 => (if (Int.tmod t20.1 4) = 0 then some (t33.1, t71.1) else some (t71.1, t33.1))))))))
theorem spec_DrawSubsumes_2.calls (k : Nat) (w : World) (H : Hp) (x1 : List UInt8) (A2 : Option Addr) (c3 : Nat) (h4 : Rd tByte H A2 x1) (l5 : x1.length ≤ c3) (S : Own [] H w) (r : (List Cell) × (List Cell)) (M : spec_DrawSubsumes_2.f k x1 = some r) :
    Calls Try.prog 54 #[.slice A2 x1.length c3] w (fun e e_w => ∃ (A_1 : Option Addr) (c_1 : Nat) (F_1 : Foot) (A_2 : Option Addr) (c_2 : Nat) (F_2 : Foot) (H_ : Hp), e = .returned (.tuple #[.slice A_1 r.1.length c_1, .slice A_2 r.2.length c_2]) ∧ Row (ro st65) 65 H_ (hp e_w) F_1 A_1 c_1 r.1 ∧ Row (ro st65) 65 H_ (hp e_w) F_2 A_2 c_2 r.2 ∧ St (anyOf []) H w [F_1, F_2] H_ e_w) := by
  rw [spec_DrawSubsumes_2.f] at M
  refine enter (l := [.slice A2 x1.length c3]) 29 func54 rfl rfl rfl ?_
  have S0_ := S.st
  refine wQ (wR (lV 2 (eA (.slice none 0 0)) (lV 3 (eA (.slice none 0 0)) (wN (tN (wQ (wR (lV 8 (eM (.slice A2 x1.length c3)) ?_))))))))
  obtain ⟨t6, u7, M⟩ := bnd M
  refine lC 9 (eC [.tmp 8] [.slice A2 x1.length c3] func95) (spec_l4open.calls w H x1 A2 c3 h4 l5 (St.own' (Fa := []) (Fr := []) S0_) t6 u7) ?_
  rintro _ w8 ⟨g11, A13, c14, H9, rfl, h15, l16, b12, T10⟩
  refine ⟨_, rfl, ?_⟩
  obtain ⟨S17, K18⟩ := St.call (Fa := []) (Fr := []) S0_ T10
  have E19 := T10.ext
  refine lV 4 (eA (.pointer (some ⟨g11, 0, none⟩))) (wN (tN (wQ (wR (lV 10 (eM (.pointer (some ⟨g11, 0, none⟩))) ?_)))))
  obtain ⟨t20, u21, M⟩ := bnd M
  refine lC 11 (eC [.tmp 10] [.pointer (some ⟨g11, 0, none⟩)] func96) (spec_l4rd_next_2.calls w8 H9 t6 g11 A13 c14 h15 l16 b12 (St.own' (Fa := [(is g11)]) (Fr := []) S17) t20 u21) ?_
  rintro _ w22 ⟨A25, c26, H23, rfl, h27, l28, b29, T24⟩
  refine ⟨_, rfl, ?_⟩
  obtain ⟨S30, K31⟩ := St.call (Fa := [(is g11)]) (Fr := []) S17 T24
  have E32 := T24.ext
  refine lV 5 (eA (.int .i64 t20.1)) (wN (tN (wQ (wR (lV 12 (eM (.pointer (some ⟨g11, 0, none⟩))) ?_)))))
  obtain ⟨t33, u34, M⟩ := bnd M
  refine lC 13 (eC [.tmp 12] [.pointer (some ⟨g11, 0, none⟩)] func97) (spec_l4any.calls k w22 H23 t20.2 g11 A25 c26 h27 l28 b29 (St.own' (Fa := [(is g11)]) (Fr := []) S30) t33 u34) ?_
  rintro _ w35 ⟨A38, c39, A43, c44, F46, H36, rfl, h40, l41, b42, h45, T37⟩
  refine ⟨_, rfl, ?_⟩
  obtain ⟨S47, K48⟩ := St.call (Fa := [(is g11)]) (Fr := []) S30 T37
  have E49 := T37.ext
  refine lV 6 (eA (.slice A43 t33.1.length c44)) (wN (tN (wQ (wQ (wR (lV 14 (eM (.slice A43 t33.1.length c44)) ?_))))))
  obtain ⟨t50, u51, M⟩ := bnd M
  refine lC 15 (eC [.tmp 14] [.slice A43 t33.1.length c44] func15) (by have l52 := h45.le; have S53 := S47.pull (F := F46) (Fr := [(is g11)]) 1 rfl rfl; obtain ⟨H54, S55, E56, h57, z58⟩ := S53.frzRow h45; replace h57 := h57.unro; exact (spec_ValidTerm.calls k w35 H54 t33.1 A43 c44 h57 l52 S55.own0 t50 u51)) ?_
  rintro _ w59 ⟨rfl, C60⟩
  refine ⟨_, rfl, ?_⟩
  obtain ⟨S61, K62⟩ := S47.still C60
  replace b42 := K62.blk 0 rfl b42
  replace h45 := h45.move (K62.at 1 rfl)
  refine lV 16 (e_notv (c := t50) kr) (wN (tN ?_))
  by_cases q63 : ¬ (t50 = true)
  · replace M := ifp q63 M
    refine cT (bT q63) (wQ (wR (lV 17 (eM (.slice A43 t33.1.length c44)) (lV 18 (eM (.slice A43 t33.1.length c44)) (lV 2 (eA (.slice A43 t33.1.length c44)) (lV 3 (eA (.slice A43 t33.1.length c44)) (wN (tN (wT (tR ?_))))))))))
    cases M
  replace M := ifn q63 M
  refine cF (bF q63) (wK (tN (wQ (wR (lV 19 (eM (.slice A43 t33.1.length c44)) (lV 20 (eM (.pointer (some ⟨g11, 0, none⟩))) ?_))))))
  have S64 := S61.pulls [F46, (is g11)] [1] rfl
  have l65 := h45.le
  obtain ⟨H66, S67, E68, h69, z70⟩ := S64.frzRow h45
  replace h69 := h69.unro
  obtain ⟨t71, u72, M⟩ := bnd M
  refine lC 21 (eC [.tmp 19, .tmp 20] [.slice A43 t33.1.length c44, .pointer (some ⟨g11, 0, none⟩)] func100) (spec_l13alike.calls k w59 H66 t33.1 A43 c44 t33.2 g11 A38 c39 h69 l65 (h40.ext E68) l41 b42 (St.own' (Fa := [(is g11)]) (Fr := []) S67) t71 u72) ?_
  rintro _ w73 ⟨A76, c77, A81, c82, F84, H74, rfl, h78, l79, b80, h83, T75⟩
  refine ⟨_, rfl, ?_⟩
  obtain ⟨S85, K86⟩ := St.call (Fa := [(is g11)]) (Fr := []) S67 T75
  obtain ⟨H87, S88, E89, v90⟩ := St.thaw2 S64 z70 S85 T75.ext E68
  replace h45 := h45.move v90
  replace h45 := h45.ext E89
  replace h83 := Row.free (H' := H87) (free_iso (free_pair (free_scal _ _) (free_pair (free_scal _ _) (free_slice (free_scal _ _))))) h83
  refine lV 7 (eA (.slice A81 t71.1.length c82)) (wN (tN (wQ (wQ (wR (lV 22 (eM (.int .i64 t20.1)) (lV 23 (e_rem (k := .i64) (a := t20.1) (b := 4) kr rfl (by decide)) (lV 24 (eEq .i64 (Int.tmod t20.1 4) 0) (wN (tN ?_))))))))))
  by_cases q91 : (Int.tmod t20.1 4) = 0
  · replace M := ifp q91 M
    refine cT (bT q91) (wQ (wR (lV 25 (eM (.slice A43 t33.1.length c44)) (lV 26 (eM (.slice A81 t71.1.length c82)) (lV 2 (eA (.slice A43 t33.1.length c44)) (lV 3 (eA (.slice A81 t71.1.length c82)) (wN (tN (wT (tR ?_))))))))))
    have S92 := S88.pulls [F84, F46, (is g11)] [2] rfl
    obtain ⟨H93, F94, S95, E96, h97⟩ := S92.share h83
    replace h45 := h45.ext E96
    obtain rfl := sj M
    have S98 := S95.pulls [F46, F94, (is g11)] [1] rfl
    have S99 := St.first (Fa := [F46, F94]) (Fr := [(is g11)]) S98
    exact ret2 rfl rfl rfl (show _ = .slice A43 t33.1.length c44 from kr) (show _ = .slice A81 t71.1.length c82 from kr) ⟨A43, c44, F46, A81, c82, F94, H93, rfl, h45, h97, S99⟩
  replace M := ifn q91 M
  refine cF (bF q91) (wK (tN (wQ (wR (lV 27 (eM (.slice A81 t71.1.length c82)) (lV 28 (eM (.slice A43 t33.1.length c44)) (lV 2 (eA (.slice A81 t71.1.length c82)) (lV 3 (eA (.slice A43 t33.1.length c44)) (wN (tN (wT ?_)))))))))))
  have S100 := S88.pulls [F84, F46, (is g11)] [2] rfl
  obtain ⟨H101, F102, S103, E104, h105⟩ := S100.share h83
  replace h45 := h45.ext E104
  obtain rfl := sj M
  have S107 := S103.pulls [F102, F46, (is g11)] [1, 1] rfl
  have S108 := St.first (Fa := [F102, F46]) (Fr := [(is g11)]) S107
  exact ret2 rfl rfl rfl (show _ = .slice A81 t71.1.length c82 from kr) (show _ = .slice A43 t33.1.length c44 from kr) ⟨A81, c82, F102, A43, c44, F46, H101, rfl, h105, h45, S108⟩

/-! impl_counter -/
def impl_counter.f (x1 : Int) : Option ((List (Int × Int)) × Int) := some ([], x1)
theorem impl_counter.calls (w : World) (H : Hp) (x1 : Int) (S : Own [] H w) (r : (List (Int × Int)) × Int) (M : impl_counter.f x1 = some r) :
    Calls Try.prog 111 #[.int .i64 x1] w (fun e e_w => ∃ (g_1 : Nat) (g_2 : Nat) (g_3 : Nat) (H_ : Hp), e = .returned (.func (.func 127) #[] #[.pointer (some ⟨g_1, 0, none⟩), .pointer (some ⟨g_3, 0, none⟩)]) ∧ MapO encI tInt H_ (hp e_w) g_2 r.1 ∧ e_w.heap[g_1]? = some (.cells #[.map (some g_2)] 153 (0, 0)) ∧ e_w.heap[g_3]? = some (.cells #[.int .i64 r.2] 3 (0, 0)) ∧ St (anyOf []) H w [(is g_1), (is g_2), (is g_3)] H_ e_w) := by
  rw [impl_counter.f] at M
  refine enter (l := [.int .i64 x1]) 6 func111 rfl rfl rfl ?_
  have S0_ := S.st
  refine wQ (wR ?_)
  refine lW 1 (nB #[.int .i64 x1] 3 S0_) ?_
  rintro _ w2 ⟨g3, rfl, b4, S5, K6⟩
  refine lV 2 (eA .nilFunc) (wN (tN (wQ (wR ?_))))
  refine lW 4 (e_makeMap S5 encI tInt) ?_
  rintro _ w7 ⟨g8, rfl, h9, S10, K11⟩
  replace b4 := K11.blk 0 rfl b4
  refine lW 3 (nB #[.map none] 153 S10) ?_
  rintro _ w12 ⟨g13, rfl, b14, S15, K16⟩
  replace h9 := h9.move (K16.at 0 rfl)
  replace b4 := K16.blk 1 rfl b4
  refine lE (eS g13 0 (.map (some g8)) #[.map (some g8)] [.map (some g8)] S15 b14) ?_
  rintro w17 ⟨b18, S19, K20⟩
  replace h9 := h9.move (K20.at 0 rfl)
  replace b4 := K20.blk 1 rfl b4
  clear b14
  refine wN (tN (wQ (wR (lV 5 (e_makeFunc (cs := [.tmp 3, .tmp 1]) (vs := [.pointer (some ⟨g13, 0, none⟩), .pointer (some ⟨g3, 0, none⟩)]) kr) (lV 2 (eA (.func (.func 127) #[] #[.pointer (some ⟨g13, 0, none⟩), .pointer (some ⟨g3, 0, none⟩)])) (wN (tN (wT ?_))))))))
  obtain rfl := sj M
  exact ret1 rfl rfl  (show _ = .func (.func 127) #[] #[.pointer (some ⟨g13, 0, none⟩), .pointer (some ⟨g3, 0, none⟩)] from kr) ⟨g13, g8, g3, H, rfl, h9, b18, b4, S19⟩

/-! impl_counter_c1 -/
def impl_counter_c1.f (x1 : Int) (x2 : List (Int × Int)) (x7 : Int) : Option (Tm × (List (Int × Int))) := (if (mget x2 x1).isSome = true then ((impl_variable.f ((mget x2 x1).getD (0 : Int))).bind fun t14 => some (t14, x2)) else ((impl_variable.f (i64.wrap (x7 + (x2.length : Int)))).bind fun t31 => some (t31, (mset x2 x1 (i64.wrap (x7 + (x2.length : Int)))))))
theorem impl_counter_c1.calls (w : World) (H : Hp) (x1 : Int) (x2 : List (Int × Int)) (g3 : Nat) (g5 : Nat) (x7 : Int) (g8 : Nat) (h6 : MapO encI tInt H (hp w) g5 x2) (b4 : w.heap[g3]? = some (.cells #[.map (some g5)] 153 (0, 0))) (b9 : w.heap[g8]? = some (.cells #[.int .i64 x7] 3 (0, 0))) (S : Own [(is g5), (is g3), (is g8)] H w) (r : Tm × (List (Int × Int))) (M : impl_counter_c1.f x1 x2 x7 = some r) :
    Calls Try.prog 127 #[.int .i64 x1, .pointer (some ⟨g3, 0, none⟩), .pointer (some ⟨g8, 0, none⟩)] w (fun e e_w => ∃ (g_1 : Nat) (H_ : Hp), e = .returned (.pointer (some ⟨g_1, 0, none⟩)) ∧ MapO encI tInt H_ (hp e_w) g5 r.2 ∧ e_w.heap[g3]? = some (.cells #[.map (some g5)] 153 (0, 0)) ∧ e_w.heap[g8]? = some (.cells #[.int .i64 x7] 3 (0, 0)) ∧ NodeR 125 H_ r.1 (.pointer (some ⟨g_1, 0, none⟩)) ∧ St (anyOf [(is g5), (is g3), (is g8)]) H w [(is g3), (is g5), (is g8)] H_ e_w) := by
  rw [impl_counter_c1.f] at M
  refine enter (l := [.int .i64 x1, .pointer (some ⟨g3, 0, none⟩), .pointer (some ⟨g8, 0, none⟩)]) 24 func127 rfl rfl rfl ?_
  have S0_ := S.st
  refine wQ (wR (lV 4 (eA (.pointer none)) (wN (tN (wQ (wR (lV 8 (eL ⟨g3, 0, none⟩ (.map (some g5)) underlying153 (blk_cell b4 rfl)) (lV 9 (eM (.int .i64 x1)) ?_))))))))
  by_cases q10 : (mget x2 x1).isSome = true
  · replace M := ifp q10 M
    obtain ⟨v11, r12, k13⟩ := MapO.look h6 keyI (some_getD q10 (0 : Int))
    obtain rfl := cons1 r12
    refine lV 10 (e_lookv (k := x1) k13 keyI underlying153 underlying3 kr kr (.int .i64 0) kr) (lV 7 (eM (.tuple #[.int .i64 ((mget x2 x1).getD (0 : Int)), .bool true])) (lV 11 (e_extract (vs := #[.int .i64 ((mget x2 x1).getD (0 : Int)), .bool true]) (v := .int .i64 ((mget x2 x1).getD (0 : Int))) kr rfl) (lV 12 (e_extract (vs := #[.int .i64 ((mget x2 x1).getD (0 : Int)), .bool true]) (v := .bool true) kr rfl) (lV 5 (eA (.int .i64 ((mget x2 x1).getD (0 : Int)))) (lV 6 (eA (.bool true)) (wN (tN (wQ (wQ (wR (lV 13 (eM (.bool true)) (lV 14 (e_not (c := true) kr) (wN (tN (cond_f rfl kr ?_)))))))))))))))
    refine wK (tN (wQ (wR (lV 22 (eM (.int .i64 ((mget x2 x1).getD (0 : Int)))) ?_))))
    obtain ⟨t14, u15, M⟩ := bnd M
    refine lC 23 (eC [.tmp 22] [.int .i64 ((mget x2 x1).getD (0 : Int))] func94) (impl_variable.calls w H ((mget x2 x1).getD (0 : Int))  (St.own' (Fa := []) (Fr := [(is g5), (is g3), (is g8)]) S0_) t14 u15) ?_
    rintro _ w16 ⟨g19, H17, rfl, h20, T18⟩
    refine ⟨_, rfl, ?_⟩
    obtain ⟨S21, K22⟩ := St.call (Fa := []) (Fr := [(is g5), (is g3), (is g8)]) S0_ T18
    replace h6 := h6.move (K22.at 0 rfl)
    replace b4 := K22.blk 1 rfl b4
    replace b9 := K22.blk 2 rfl b9
    have E23 := T18.ext
    replace h6 := h6.ext E23
    refine lV 4 (eA (.pointer (some ⟨g19, 0, none⟩))) (wN (tN (wT ?_)))
    obtain rfl := sj M
    have S26 := S21.pulls [(is g3), (is g5), (is g8)] [2, 1, 2] rfl
    exact ret1 rfl rfl  (show _ = .pointer (some ⟨g19, 0, none⟩) from kr) ⟨g19, H17, rfl, h6, b4, b9, h20, S26⟩
  replace M := ifn q10 M
  refine lV 10 (e_look_f (k := x1) h6 keyI underlying153 underlying3 kr kr (is_none q10) (.int .i64 0) kr) (lV 7 (eM (.tuple #[.int .i64 0, .bool false])) (lV 11 (e_extract (vs := #[.int .i64 0, .bool false]) (v := .int .i64 0) kr rfl) (lV 12 (e_extract (vs := #[.int .i64 0, .bool false]) (v := .bool false) kr rfl) (lV 5 (eA (.int .i64 0)) (lV 6 (eA (.bool false)) (wN (tN (wQ (wQ (wR (lV 13 (eM (.bool false)) (lV 14 (e_not (c := false) kr) (wN (tN (cond_t rfl kr (wQ (wR (lV 15 (eL ⟨g8, 0, none⟩ (.int .i64 x7) underlying3 (blk_cell b9 rfl)) (lV 16 (eL ⟨g3, 0, none⟩ (.map (some g5)) underlying153 (blk_cell b4 rfl)) (lV 17 (e_mapLen h6 underlying153 kr) (lV 18 (eAdd .i64 x7 (x2.length : Int)) (lV 5 (eA (.int .i64 (i64.wrap (x7 + (x2.length : Int))))) (wN (tN (wR (lV 19 (eL ⟨g3, 0, none⟩ (.map (some g5)) underlying153 (blk_cell b4 rfl)) (lV 20 (eM (.int .i64 x1)) (lV 21 (eM (.int .i64 (i64.wrap (x7 + (x2.length : Int))))) ?_))))))))))))))))))))))))))))
  refine lE (e_mapUpdate (k := x1) (a := (i64.wrap (x7 + (x2.length : Int)))) S0_ h6 keyI underlying153 underlying3 kr kr kr rfl) ?_
  rintro w27 ⟨h28, S29, K30⟩
  replace b4 := K30.blk 0 rfl b4
  replace b9 := K30.blk 1 rfl b9
  clear h6
  refine wN (tN (wQ (wR (lV 22 (eM (.int .i64 (i64.wrap (x7 + (x2.length : Int))))) ?_))))
  obtain ⟨t31, u32, M⟩ := bnd M
  refine lC 23 (eC [.tmp 22] [.int .i64 (i64.wrap (x7 + (x2.length : Int)))] func94) (impl_variable.calls w27 H (i64.wrap (x7 + (x2.length : Int)))  (St.own' (Fa := []) (Fr := [(is g5), (is g3), (is g8)]) S29) t31 u32) ?_
  rintro _ w33 ⟨g36, H34, rfl, h37, T35⟩
  refine ⟨_, rfl, ?_⟩
  obtain ⟨S38, K39⟩ := St.call (Fa := []) (Fr := [(is g5), (is g3), (is g8)]) S29 T35
  replace h28 := h28.move (K39.at 0 rfl)
  replace b4 := K39.blk 1 rfl b4
  replace b9 := K39.blk 2 rfl b9
  have E40 := T35.ext
  replace h28 := h28.ext E40
  refine lV 4 (eA (.pointer (some ⟨g36, 0, none⟩))) (wN (tN (wT ?_)))
  obtain rfl := sj M
  have S43 := S38.pulls [(is g3), (is g5), (is g8)] [2, 1, 2] rfl
  exact ret1 rfl rfl  (show _ = .pointer (some ⟨g36, 0, none⟩) from kr) ⟨g36, H34, rfl, h28, b4, b9, h37, S43⟩

/-! impl_node_mapped -/
mutual
def impl_node_mapped.l0 : Nat → Tm → Int → Int → (List (Int × Int)) → (List Tm) → Option (Tm × (List (Int × Int)))
  | 0, _, _, _, _, _ => none
  | k91 + 1, x1, x9, x74, x75, x76 => (if x74 < (x1.args.length : Int) then (if 0 ≤ x74 then ((impl_node_mapped.f k91 (x1.args.getD ((x74).toNat) (Tm.mk 0 0 [] [])) x75 x9).bind fun t131 => (if x76.length + 1 ≤ 17592186044416 then (impl_node_mapped.l0 k91 x1 x9 (i64.wrap (x74 + 1)) t131.2 (x76 ++ [t131.1])) else none)) else none) else some ((Tm.mk 3 x1.n x1.text x76), x75))
def impl_node_mapped.f : Nat → Tm → (List (Int × Int)) → Int → Option (Tm × (List (Int × Int)))
  | 0, _, _, _ => none
  | k1_ + 1, x1, x4, x9 => (if x1.kind = 0 then ((impl_counter_c1.f x1.n x4 x9).bind fun t24 => some (t24.1, t24.2)) else (if x1.kind = 3 then (impl_node_mapped.l0 k1_ x1 x9 0 x4 []) else some (x1, x4)))
end
theorem impl_node_mapped.all : ∀ (K : Nat), (∀ (k : Nat), k < K → ∀ (w : World) (H : Hp) (x1 : Tm) (g2 : Nat) (x4 : List (Int × Int)) (g5 : Nat) (g7 : Nat) (x9 : Int) (g10 : Nat) (h3 : NodeR 125 H x1 (.pointer (some ⟨g2, 0, none⟩))) (h8 : MapO encI tInt H (hp w) g7 x4) (b6 : w.heap[g5]? = some (.cells #[.map (some g7)] 153 (0, 0))) (b11 : w.heap[g10]? = some (.cells #[.int .i64 x9] 3 (0, 0))) (S : Own [(is g7), (is g5), (is g10)] H w) (r : Tm × (List (Int × Int))) (M : impl_node_mapped.f k x1 x4 x9 = some r), Calls Try.prog 110 #[.pointer (some ⟨g2, 0, none⟩), .func (.func 127) #[] #[.pointer (some ⟨g5, 0, none⟩), .pointer (some ⟨g10, 0, none⟩)]] w (fun e e_w => ∃ (g_1 : Nat) (H_ : Hp), e = .returned (.pointer (some ⟨g_1, 0, none⟩)) ∧ MapO encI tInt H_ (hp e_w) g7 r.2 ∧ e_w.heap[g5]? = some (.cells #[.map (some g7)] 153 (0, 0)) ∧ e_w.heap[g10]? = some (.cells #[.int .i64 x9] 3 (0, 0)) ∧ NodeR 125 H_ r.1 (.pointer (some ⟨g_1, 0, none⟩)) ∧ St (anyOf [(is g7), (is g5), (is g10)]) H w [(is g5), (is g7), (is g10)] H_ e_w)) := by
  intro K
  induction K with
  | zero => intro k hk; omega
  | succ K ih =>
    intro k hk w H x1 g2 x4 g5 g7 x9 g10 h3 h8 b6 b11 S r M
    rcases k with _ | k1_
    · rw [impl_node_mapped.f] at M
      cases M
    rw [impl_node_mapped.f] at M
    refine enter (l := [.pointer (some ⟨g2, 0, none⟩), .func (.func 127) #[] #[.pointer (some ⟨g5, 0, none⟩), .pointer (some ⟨g10, 0, none⟩)]]) 56 func110 rfl rfl rfl ?_
    have S0_ := S.st
    refine wQ (wR (lV 4 (eA (.pointer none)) (wN (tN (wQ (wQ (wR (lV 8 (eM (.pointer (some ⟨g2, 0, none⟩))) (lV 9 (eN ⟨g2, 0, none⟩) (lV 10 (eD g2 0 0 1 underlying125) ?_))))))))))
    obtain ⟨A12, c13, y14, q15, h16, h17, l18, h19⟩ := node_open h3
    refine lV 11 (eL ⟨g2, 0 + 0, none⟩ (.int .i64 x1.kind) underlying3 (blk_cells (S0_.inv _ _ h16) h17 0 _ rfl)) (wN (tN (wp_block (wQ (wR (lV 13 (eEq .i64 x1.kind 0) (lV 12 (eA (.bool (decide (x1.kind = 0)))) (wN (tN ?_)))))))))
    by_cases q20 : x1.kind = 0
    · replace M := ifp q20 M
      refine cT (bT q20) (wQ (wR (lV 14 (eM (.func (.func 127) #[] #[.pointer (some ⟨g5, 0, none⟩), .pointer (some ⟨g10, 0, none⟩)])) (lV 15 (eM (.pointer (some ⟨g2, 0, none⟩))) (lV 16 (eN ⟨g2, 0, none⟩) (lV 17 (eD g2 0 1 1 underlying125) (lV 18 (eL ⟨g2, 0 + 1, none⟩ (.int .i64 x1.n) underlying3 (blk_cells (S0_.inv _ _ h16) h17 1 _ rfl)) ?_)))))))
      have S23 := S0_.pulls [(is g7), (is g5), (is g10)] [2, 2, 2] rfl
      obtain ⟨t24, u25, M⟩ := bnd M
      refine lC 19 (e_callv (l := [.tmp 18]) (vs := [.int .i64 x1.n]) (cs := [.pointer (some ⟨g5, 0, none⟩), .pointer (some ⟨g10, 0, none⟩)]) func127 kr rfl kr kr) (impl_counter_c1.calls w H x1.n x4 g5 g7 x9 g10 h8 b6 b11 (St.own' (Fa := [(is g7), (is g5), (is g10)]) (Fr := []) S23) t24 u25) ?_
      rintro _ w26 ⟨g32, H27, rfl, h29, b30, b31, h33, T28⟩
      refine ⟨_, rfl, ?_⟩
      obtain ⟨S34, K35⟩ := St.call (Fa := [(is g7), (is g5), (is g10)]) (Fr := []) S23 T28
      have E36 := T28.ext
      refine lV 4 (eA (.pointer (some ⟨g32, 0, none⟩))) (wN (tN (wT (inb_r (tR ?_)))))
      obtain rfl := sj M
      exact ret1 rfl rfl  (show _ = .pointer (some ⟨g32, 0, none⟩) from kr) ⟨g32, H27, rfl, h29, b30, b31, h33, S34⟩
    replace M := ifn q20 M
    refine cF (bF q20) (wQ (wR (lV 21 (eEq .i64 x1.kind 3) (lV 20 (eA (.bool (decide (x1.kind = 3)))) (wN (tN ?_))))))
    by_cases q37 : x1.kind = 3
    · replace M := ifp q37 M
      refine cT (bT q37) (wQ ?_)
      refine region_mix (S := (fun (L_ : Array Bool) (w_ : World) => Ext H (hp w_) ∧ True)) kr S0_ ?_
      intro w38 S39 K40 hc41
      have hs42 : (fun (L_ : Array Bool) (w_ : World) => Ext H (hp w_) ∧ True) (Array.replicate 11 false) w38 := ⟨S39.inv, trivial⟩
      replace h8 := h8.move (K40.at 0 rfl)
      replace b6 := K40.blk 1 rfl b6
      replace b11 := K40.blk 2 rfl b11
      refine xV 0 22 rfl hc41 hs42 (fun L_ w_ hc_ hu_ hs_ => eM (.pointer (some ⟨g2, 0, none⟩))) ?_; intro hc43 hs44
      refine xV 1 23 rfl hc43 hs44 (fun L_ w_ hc_ hu_ hs_ => eN ⟨g2, 0, none⟩) ?_; intro hc45 hs46
      refine xV 2 24 rfl hc45 hs46 (fun L_ w_ hc_ hu_ hs_ => eD g2 0 1 1 underlying125) ?_; intro hc47 hs48
      refine xV 3 25 rfl hc47 hs48 (fun L_ w_ hc_ hu_ hs_ => eL ⟨g2, 0 + 1, none⟩ (.int .i64 x1.n) underlying3 (blk_cells (hs_.1 _ _ h16) h17 1 _ rfl)) ?_; intro hc49 hs50
      refine xO 4 hc49 ?_
      refine yO 4 26 rfl hs50 (eM (.pointer (some ⟨g2, 0, none⟩))) ?_; intro hc51 hs52
      refine xO 5 hc51 ?_
      refine yO 5 27 rfl hs52 (eN ⟨g2, 0, none⟩) ?_; intro hc53 hs54
      refine xO 6 hc53 ?_
      refine yO 6 28 rfl hs54 (eD g2 0 2 1 underlying125) ?_; intro hc55 hs56
      refine xO 7 hc55 ?_
      refine yO 7 29 rfl hs56 (eL ⟨g2, 0 + 2, none⟩ (str x1.text) underlying9 (blk_cells (S39.inv _ _ h16) h17 2 _ rfl)) ?_; intro hc57 hs58
      refine xO 8 hc57 ?_
      refine yO 8 30 rfl hs58 (show _ = Result.ok (Next.value (.agg #[.int .i64 3, .int .i64 x1.n, str x1.text, .slice none 0 0])) w38 from by kernel_rfl) ?_; intro hc59 hs60
      refine xO 9 hc59 ?_
      refine yE 9 31 rfl (nB #[.int .i64 3, .int .i64 x1.n, str x1.text, .slice none 0 0] 125 S39) ?_
      rintro hc66 _ w61 ⟨g62, rfl, b63, S64, K65⟩
      replace h8 := h8.move (K65.at 0 rfl)
      replace b6 := K65.blk 1 rfl b6
      replace b11 := K65.blk 2 rfl b11
      refine ⟨⟨S64.inv, trivial⟩, fun hs67 => ?_⟩
      refine xO 10 hc66 ?_
      refine yO 10 5 rfl hs67 (eA (.pointer (some ⟨g62, 0, none⟩))) ?_; intro hc68 hs69
      refine xn kr ?_ _
      refine tN (wQ (wQ (wR (lV 32 (eM (.pointer (some ⟨g2, 0, none⟩))) (lV 33 (eN ⟨g2, 0, none⟩) (lV 34 (eD g2 0 3 1 underlying125) (lV 35 (eL ⟨g2, 0 + 3, none⟩ (.slice A12 x1.args.length c13) underlying87 (blk_cells (S64.inv _ _ h16) h17 3 _ rfl)) (lV 36 (e_len (A := A12) (n := x1.args.length) (c := c13) underlying87 kr) (lV 37 (eM (.int .i64 0)) (wN (tN (wp_block ?_))))))))))))
      have S92 := S64.unit
      have S96 := S92.pulls [(is g62), (is g7), (is g5), (is g10), no] [4, 4, 4, 4] rfl
      refine wp_loop_g (fun k89 a90 w70 => ∃ (f71 : Nat → Value) (H72 : Hp) (x74 : Int) (x75 : List (Int × Int)) (x76 : List Tm) (A77 : Option Addr) (c78 : Nat) (F79 : Foot), k89 < K ∧ a90 = mk 56 f71 ∧ f71 1 = .func (.func 127) #[] #[.pointer (some ⟨g5, 0, none⟩), .pointer (some ⟨g10, 0, none⟩)] ∧ f71 5 = .pointer (some ⟨g62, 0, none⟩) ∧ f71 35 = .slice A12 x1.args.length c13 ∧ f71 36 = .int .i64 (x1.args.length : Int) ∧ f71 37 = .int .i64 x74 ∧ w70.heap[g62]? = some (.cells #[.int .i64 3, .int .i64 x1.n, str x1.text, .slice A77 x76.length c78] 125 (0, 0)) ∧ MapO encI tInt H72 (hp w70) g7 x75 ∧ w70.heap[g5]? = some (.cells #[.map (some g7)] 153 (0, 0)) ∧ w70.heap[g10]? = some (.cells #[.int .i64 x9] 3 (0, 0)) ∧ Row (node 125) 74 H72 (hp w70) F79 A77 c78 x76 ∧ Ext H H72 ∧ St (anyOf [(is g7), (is g5), (is g10)]) H w [(is g62), (is g7), (is g5), (is g10), F79] H72 w70 ∧ impl_node_mapped.l0 k89 x1 x9 x74 x75 x76 = some r) k1_ ⟨_, H, 0, x4, [], none, 0, no, (by omega), rfl, kr, kr, kr, kr, kr, b63, h8, b6, b11, (Row.nil _ _ _ _ _), (Ext.refl _), S96, M⟩ ?_
      clear M
      rintro k89 a90 w70 ⟨f71, H72, x74, x75, x76, A77, c78, F79, z87, rfl, e81, e82, e83, e84, e85, b63, h8, b6, b11, h80, Y73, S86, M⟩
      rcases k89 with _ | k91
      · rw [impl_node_mapped.l0] at M
        cases M
      rw [impl_node_mapped.l0] at M
      refine wQ (wR (lV 38 (eLt .i64 x74 (x1.args.length : Int) (by exact e85) (by exact e84)) (wN (tN (wQ ?_)))))
      by_cases q97 : x74 < (x1.args.length : Int)
      · replace M := ifp q97 M
        refine cT (bT q97) (wK (tN (wQ (wp_block (wQ (wR ?_))))))
        obtain ⟨q98, M⟩ := chk M
        obtain ⟨b99, o100, e101⟩ := Rd.addr h19 (show (x74).toNat < x1.args.length by omega)
        obtain ⟨y102, r103, k104⟩ := Rd.at h19 e101 (getD_some (Tm.mk 0 0 [] []) (show (x74).toNat < x1.args.length by omega))
        obtain ⟨v105, rfl, h106⟩ := r103
        obtain ⟨g107, rfl⟩ := node_ptr h106
        refine lV 39 (e_indexAddr (b := b99) (off := o100) (n := x1.args.length) (c := c13) (sz := 1) (i := x74) (k := .i64) underlying87 e101 kr (by exact e83) (by exact e85) q98 q97) (lV 40 (eL ⟨b99, o100 + (x74 : Int).toNat * 1, none⟩ (.pointer (some ⟨g107, 0, none⟩)) underlying74 (hpx (S86.inv.cell (Y73.cell (k104 0 _ rfl))))) (lV 7 (eA (.pointer (some ⟨g107, 0, none⟩))) (wN (tN ?_))))
        refine region_mix (S := (fun (L_ : Array Bool) (w_ : World) => Ext H72 (hp w_) ∧ (L_.getD 12 true = false → (∀ b_, (is g62) b_ → hp w_ b_ = hp w70 b_)))) kr S86 ?_
        intro w108 S109 K110 hc111
        have o112 := b63
        have hs113 : (fun (L_ : Array Bool) (w_ : World) => Ext H72 (hp w_) ∧ (L_.getD 12 true = false → (∀ b_, (is g62) b_ → hp w_ b_ = hp w70 b_))) (Array.replicate 13 false) w108 := ⟨S109.inv, (fun _ => (fun b_ h_ => K110.at 0 rfl b_ h_))⟩
        replace b63 := K110.blk 0 rfl b63
        replace h8 := h8.move (K110.at 1 rfl)
        replace b6 := K110.blk 2 rfl b6
        replace b11 := K110.blk 3 rfl b11
        replace h80 := h80.move (K110.at 4 rfl)
        refine xW 0 41 rfl (fun L_ w_ => by simp only [getD_set_ne true (show (0 : Nat) ≠ 12 by decide)]) hc111 hs113 (fun L_ w_ hc_ hu_ hs_ => eM (.pointer (some ⟨g62, 0, none⟩)) (by exact e82)) ?_; intro hc114 hs115
        refine xW 1 42 rfl (fun L_ w_ => by simp only [getD_set_ne true (show (1 : Nat) ≠ 12 by decide)]) hc114 hs115 (fun L_ w_ hc_ hu_ hs_ => eM (.pointer (some ⟨g62, 0, none⟩)) (by exact e82)) ?_; intro hc116 hs117
        refine xW 2 43 rfl (fun L_ w_ => by simp only [getD_set_ne true (show (2 : Nat) ≠ 12 by decide)]) hc116 hs117 (fun L_ w_ hc_ hu_ hs_ => eN ⟨g62, 0, none⟩) ?_; intro hc118 hs119
        refine xW 3 44 rfl (fun L_ w_ => by simp only [getD_set_ne true (show (3 : Nat) ≠ 12 by decide)]) hc118 hs119 (fun L_ w_ hc_ hu_ hs_ => eD g62 0 3 1 underlying125) ?_; intro hc120 hs121
        refine xW 4 45 rfl (fun L_ w_ => by simp only [getD_set_ne true (show (4 : Nat) ≠ 12 by decide)]) hc120 hs121 (fun L_ w_ hc_ hu_ hs_ => eL ⟨g62, 0 + 3, none⟩ (.slice A77 x76.length c78) underlying87 (blk_cell (((hs_.2 (unl 9 12 4 hc_ hu_ kr)) _ rfl).trans o112) rfl)) ?_; intro hc122 hs123
        refine xW 5 46 rfl (fun L_ w_ => by simp only [getD_set_ne true (show (5 : Nat) ≠ 12 by decide)]) hc122 hs123 (fun L_ w_ hc_ hu_ hs_ => eM (.pointer (some ⟨g107, 0, none⟩))) ?_; intro hc124 hs125
        refine xO 6 hc124 ?_
        refine yP 6 47 rfl (fun L_ w_ => by simp only [getD_set_ne true (show (6 : Nat) ≠ 12 by decide)]) hs125 (eM (.func (.func 127) #[] #[.pointer (some ⟨g5, 0, none⟩), .pointer (some ⟨g10, 0, none⟩)]) (by exact e81)) ?_; intro hc126 hs127
        have S130 := S109.pulls [(is g7), (is g5), (is g10), (is g62), F79] [3, 3, 3] rfl
        obtain ⟨t131, u132, M⟩ := bnd M
        refine xO 7 hc126 ?_
        refine yC 7 rfl (eC [.tmp 46, .tmp 47] [.pointer (some ⟨g107, 0, none⟩), .func (.func 127) #[] #[.pointer (some ⟨g5, 0, none⟩), .pointer (some ⟨g10, 0, none⟩)]] func110) (ih k91 (by omega) w108 H72 (x1.args.getD ((x74).toNat) (Tm.mk 0 0 [] [])) g107 x75 g5 g7 x9 g10 (h106.ext' Y73) h8 b6 b11 (St.own' (Fa := [(is g7), (is g5), (is g10)]) (Fr := [(is g62), F79]) S130) t131 u132) ?_
        rintro hc141 _ w133 ⟨g139, H134, rfl, h136, b137, b138, h140, T135⟩
        refine ⟨_, rfl, ?_⟩
        obtain ⟨S142, K143⟩ := St.call (Fa := [(is g7), (is g5), (is g10)]) (Fr := [(is g62), F79]) S130 T135
        replace b63 := K143.blk 0 rfl b63
        replace h80 := h80.move (K143.at 1 rfl)
        have E144 := T135.ext
        replace h80 := h80.ext E144
        refine ⟨⟨(Ext.trans E144 S142.inv), (fun q_ => (fun b_ h_ => (K143.at 0 rfl b_ h_).trans ((hs127.2 (by decide +kernel)) b_ h_)))⟩, fun hs145 => ?_⟩
        refine xO 8 hc141 ?_
        refine yE 8 49 rfl (new_blk (v := fun g_ => .slice (some ⟨g_, 0, none⟩) 1 1) (cs := #[.pointer (some ⟨g139, 0, none⟩)]) (t := 74) S142 kr) ?_
        rintro hc151 _ w146 ⟨g147, rfl, b148, S149, K150⟩
        replace b137 := K150.blk 0 rfl b137
        replace h136 := h136.move (K150.at 1 rfl)
        replace b138 := K150.blk 2 rfl b138
        replace b63 := K150.blk 3 rfl b63
        replace h80 := h80.move (K150.at 4 rfl)
        refine ⟨⟨(Ext.trans E144 S149.inv), (fun q_ => (fun b_ h_ => (K150.at 3 rfl b_ h_).trans ((hs145.2 (by decide +kernel)) b_ h_)))⟩, fun hs152 => ?_⟩
        obtain ⟨q153, M⟩ := chk M
        have S154 := S149.pulls [F79, (is g147), (is g5), (is g7), (is g10), (is g62)] [5] rfl
        have S155 := S154.unit
        have S156 := S155.pulls [F79, no, (is g147), (is g5), (is g7), (is g10), (is g62)] [1] rfl
        refine xO 9 hc151 ?_
        refine yE 9 50 rfl (e_append (d := (node 125)) (n := x76.length) (xs := x76) (cap := c78) (A := A77) (ys := [t131.1]) (A2 := (some ⟨g147, 0, none⟩)) (c2 := 1) (z := .pointer none) (bytes := 8) S156 underlying87 kr rfl (by decide) kr rfl kr h80 (elsO_one1 ⟨_, rfl, h140⟩) (.inr (blk_news b148 rfl)) (show (x76.length + [t131.1].length) * 8 ≤ _ by first | omega | (simp only [List.length_cons, List.length_nil]; omega)) (by decide)) ?_
        rintro hc164 _ w157 ⟨A158, c159, F160, rfl, h161, S162, K163⟩
        replace b137 := K163.blk 1 rfl b137
        replace h136 := h136.move (K163.at 2 rfl)
        replace b138 := K163.blk 3 rfl b138
        replace b63 := K163.blk 4 rfl b63
        refine ⟨⟨(Ext.trans E144 S162.inv), (fun q_ => (fun b_ h_ => (K163.at 4 rfl b_ h_).trans ((hs152.2 (by decide +kernel)) b_ h_)))⟩, fun hs165 => ?_⟩
        refine xO 10 hc164 ?_
        refine yP 10 51 rfl (fun L_ w_ => by simp only [getD_set_ne true (show (10 : Nat) ≠ 12 by decide)]) hs165 (eN ⟨g62, 0, none⟩) ?_; intro hc166 hs167
        refine xO 11 hc166 ?_
        refine yP 11 52 rfl (fun L_ w_ => by simp only [getD_set_ne true (show (11 : Nat) ≠ 12 by decide)]) hs167 (eD g62 0 3 1 underlying125) ?_; intro hc168 hs169
        have S170 := S162.pulls [(is g62), F160, (is g147), (is g5), (is g7), (is g10)] [5] rfl
        refine xO 12 hc168 ?_
        refine yS 12 rfl (eS g62 (0 + 3) (.slice A158 ((x76 ++ [t131.1]).length) c159) #[.int .i64 3, .int .i64 x1.n, str x1.text, .slice A158 ((x76 ++ [t131.1]).length) c159] [.slice A158 ((x76 ++ [t131.1]).length) c159] S170 b63) ?_
        rintro hc175 w171 ⟨b172, S173, K174⟩
        replace h161 := h161.move (K174.at 0 rfl)
        replace b137 := K174.blk 2 rfl b137
        replace h136 := h136.move (K174.at 3 rfl)
        replace b138 := K174.blk 4 rfl b138
        refine ⟨⟨(Ext.trans E144 S173.inv), (fun q_ => absurd q_ (by decide +kernel))⟩, fun hs176 => ?_⟩
        clear b63
        refine xn kr ?_ _
        refine inb_n (tN (wR (lV 53 (eAdd .i64 x74 1 (by exact e85)) (lV 37 (eM (.int .i64 (i64.wrap (x74 + 1)))) (wN (tN ?_))))))
        have S181 := S173.pulls [(is g62), (is g7), (is g5), (is g10), F160, (is g147)] [1, 5, 4, 5, 4] rfl
        have S182 := St.first (Fa := [(is g62), (is g7), (is g5), (is g10), F160]) (Fr := [(is g147)]) S181
        exact ⟨k91, (by omega), _, H134, (i64.wrap (x74 + 1)), t131.2, (x76 ++ [t131.1]), A158, c159, F160, (by omega), rfl, (by exact e81), (by exact e82), (by exact e83), (by exact e84), kr, b172, h136, b137, b138, h161, (Y73.trans E144), S182, M⟩
      replace M := ifn q97 M
      refine cF (bF q97) (wp_exit (tE (tE (inb_hit (tN (wQ (wR (lV 54 (eM (.pointer (some ⟨g62, 0, none⟩)) (by exact e82)) (lV 4 (eA (.pointer (some ⟨g62, 0, none⟩))) (wN (tN (wT (inb_r (tR ?_))))))))))))))
      have l183 := h80.le
      have S184 := S86.pulls [F79, (is g62), (is g7), (is g5), (is g10)] [4] rfl
      obtain ⟨H185, S186, E187, h188, z189⟩ := S184.frzRow h80
      replace h8 := h8.ext E187
      obtain ⟨H190, S191, E192, h193, z194⟩ := S186.frzBlk b63
      replace h8 := h8.ext E192
      have h195 : NodeR 125 H190 (Tm.mk 3 x1.n x1.text x76) (.pointer (some ⟨g62, 0, none⟩)) := node_mk (A := A77) (c := c78) h193 rfl l183 (h188.ext E192)
      obtain rfl := sj M
      have S198 := S191.pulls [(is g5), (is g7), (is g10)] [2, 1, 2] rfl
      exact ret1 rfl rfl  (show _ = .pointer (some ⟨g62, 0, none⟩) from kr) ⟨g62, H190, rfl, h8, b6, b11, h195, S198⟩
    replace M := ifn q37 M
    refine cF (bF q37) (wK (inb_n (tN (wQ (wR (lV 55 (eM (.pointer (some ⟨g2, 0, none⟩))) (lV 4 (eA (.pointer (some ⟨g2, 0, none⟩))) (wN (tN (wT ?_))))))))))
    obtain rfl := sj M
    have S201 := S0_.pulls [(is g5), (is g7), (is g10)] [2, 1, 2] rfl
    exact ret1 rfl rfl  (show _ = .pointer (some ⟨g2, 0, none⟩) from kr) ⟨g2, H, rfl, h8, b6, b11, h3, S201⟩
theorem impl_node_mapped.calls (k : Nat) (w : World) (H : Hp) (x1 : Tm) (g2 : Nat) (x4 : List (Int × Int)) (g5 : Nat) (g7 : Nat) (x9 : Int) (g10 : Nat) (h3 : NodeR 125 H x1 (.pointer (some ⟨g2, 0, none⟩))) (h8 : MapO encI tInt H (hp w) g7 x4) (b6 : w.heap[g5]? = some (.cells #[.map (some g7)] 153 (0, 0))) (b11 : w.heap[g10]? = some (.cells #[.int .i64 x9] 3 (0, 0))) (S : Own [(is g7), (is g5), (is g10)] H w) (r : Tm × (List (Int × Int))) (M : impl_node_mapped.f k x1 x4 x9 = some r) :
    Calls Try.prog 110 #[.pointer (some ⟨g2, 0, none⟩), .func (.func 127) #[] #[.pointer (some ⟨g5, 0, none⟩), .pointer (some ⟨g10, 0, none⟩)]] w (fun e e_w => ∃ (g_1 : Nat) (H_ : Hp), e = .returned (.pointer (some ⟨g_1, 0, none⟩)) ∧ MapO encI tInt H_ (hp e_w) g7 r.2 ∧ e_w.heap[g5]? = some (.cells #[.map (some g7)] 153 (0, 0)) ∧ e_w.heap[g10]? = some (.cells #[.int .i64 x9] 3 (0, 0)) ∧ NodeR 125 H_ r.1 (.pointer (some ⟨g_1, 0, none⟩)) ∧ St (anyOf [(is g7), (is g5), (is g10)]) H w [(is g5), (is g7), (is g10)] H_ e_w) := (impl_node_mapped.all (k + 1)) k (Nat.lt_succ_self k) w H x1 g2 x4 g5 g7 x9 g10 h3 h8 b6 b11 S r M

/-! impl_renumbered -/
def impl_renumbered.f (k : Nat) (x1 : Tm) : Option Tm := ((impl_counter.f 0).bind fun t4 => ((impl_node_mapped.f k x1 t4.1 t4.2).bind fun t21 => some t21.1))
theorem impl_renumbered.calls (k : Nat) (w : World) (H : Hp) (x1 : Tm) (g2 : Nat) (h3 : NodeR 125 H x1 (.pointer (some ⟨g2, 0, none⟩))) (S : Own [] H w) (r : Tm) (M : impl_renumbered.f k x1 = some r) :
    Calls Try.prog 67 #[.pointer (some ⟨g2, 0, none⟩)] w (fun e e_w => ∃ (g_1 : Nat) (H_ : Hp), e = .returned (.pointer (some ⟨g_1, 0, none⟩)) ∧ NodeR 125 H_ r (.pointer (some ⟨g_1, 0, none⟩)) ∧ St (anyOf []) H w [] H_ e_w) := by
  rw [impl_renumbered.f] at M
  refine enter (l := [.pointer (some ⟨g2, 0, none⟩)]) 6 func67 rfl rfl rfl ?_
  have S0_ := S.st
  refine wQ (wR (lV 2 (eA (.pointer none)) (wN (tN (wQ (wR (lV 3 (eM (.pointer (some ⟨g2, 0, none⟩))) ?_)))))))
  obtain ⟨t4, u5, M⟩ := bnd M
  refine lC 4 (eC [.const (.int .i64 0)] [.int .i64 0] func111) (impl_counter.calls w H 0  (St.own' (Fa := []) (Fr := []) S0_) t4 u5) ?_
  rintro _ w6 ⟨g9, g11, g13, H7, rfl, h12, b10, b14, T8⟩
  refine ⟨_, rfl, ?_⟩
  obtain ⟨S15, K16⟩ := St.call (Fa := []) (Fr := []) S0_ T8
  have E17 := T8.ext
  have S20 := S15.pulls [(is g11), (is g9), (is g13)] [2, 1, 2] rfl
  obtain ⟨t21, u22, M⟩ := bnd M
  refine lC 5 (eC [.tmp 3, .tmp 4] [.pointer (some ⟨g2, 0, none⟩), .func (.func 127) #[] #[.pointer (some ⟨g9, 0, none⟩), .pointer (some ⟨g13, 0, none⟩)]] func110) (impl_node_mapped.calls k w6 H7 x1 g2 t4.1 g9 g11 t4.2 g13 (h3.ext' E17) h12 b10 b14 (St.own' (Fa := [(is g11), (is g9), (is g13)]) (Fr := []) S20) t21 u22) ?_
  rintro _ w23 ⟨g29, H24, rfl, h26, b27, b28, h30, T25⟩
  refine ⟨_, rfl, ?_⟩
  obtain ⟨S31, K32⟩ := St.call (Fa := [(is g11), (is g9), (is g13)]) (Fr := []) S20 T25
  have E33 := T25.ext
  refine lV 2 (eA (.pointer (some ⟨g29, 0, none⟩))) (wN (tN (wT ?_)))
  obtain rfl := sj M
  have S34 := St.first (Fa := []) (Fr := [(is g9), (is g11), (is g13)]) S31
  exact ret1 rfl rfl  (show _ = .pointer (some ⟨g29, 0, none⟩) from kr) ⟨g29, H24, rfl, h30, S34⟩

/-! impl_Variant -/
def impl_Variant.f (k : Nat) (x1 : List Cell) (x6 : List Cell) : Option Bool := ((impl_ValidTerm.f k x1).bind fun t11 => (if ¬ (t11 = true) then some false else ((impl_ValidTerm.f k x6).bind fun t18 => (if ¬ (t18 = true) then some false else (if (x1.length : Int) ≠ (x6.length : Int) then some false else ((impl_tree.f k x1).bind fun t26 => ((impl_renumbered.f k t26).bind fun t36 => ((impl_tree.f k x6).bind fun t46 => ((impl_renumbered.f k t46).bind fun t56 => ((impl_compare.f k t36 t56).bind fun t66 => some (decide (t66 = 0))))))))))))
theorem impl_Variant.calls (k : Nat) (w : World) (H : Hp) (x1 : List Cell) (A2 : Option Addr) (c3 : Nat) (x6 : List Cell) (A7 : Option Addr) (c8 : Nat) (h4 : Rd st65 H A2 x1) (l5 : x1.length ≤ c3) (h9 : Rd st65 H A7 x6) (l10 : x6.length ≤ c8) (S : Own [] H w) (r : Bool) (M : impl_Variant.f k x1 x6 = some r) :
    Calls Try.prog 33 #[.slice A2 x1.length c3, .slice A7 x6.length c8] w (fun e e_w => e = .returned (.bool r) ∧ Chg no w e_w) := by
  rw [impl_Variant.f] at M
  refine enter (l := [.slice A2 x1.length c3, .slice A7 x6.length c8]) 28 func33 rfl rfl rfl ?_
  have S0_ := S.st
  refine wQ (wR (lV 4 (eA (.bool false)) (wN (tN (wQ (wQ (wR (lV 5 (eM (.slice A2 x1.length c3)) ?_))))))))
  obtain ⟨t11, u12, M⟩ := bnd M
  refine lC 6 (eC [.tmp 5] [.slice A2 x1.length c3] func17) (impl_ValidTerm.calls k w H x1 A2 c3 h4 l5 S0_.own0 t11 u12) ?_
  rintro _ w13 ⟨rfl, C14⟩
  refine ⟨_, rfl, ?_⟩
  obtain ⟨S15, K16⟩ := S0_.still C14
  refine lV 7 (e_notv (c := t11) kr) (lV 8 (eM (.bool (decide (¬ (t11 = true))))) ?_)
  by_cases q17 : ¬ (t11 = true)
  · replace M := ifp q17 M
    refine lK 8 true (bT q17) ?_
    refine lK 8 true (bT q17) ?_
    refine lK 8 true (bT q17) ?_
    refine lV 12 (eT (.bool true) (bT q17)) (lV 13 (eM (.bool true)) (lJ 13 true ?_))
    refine lJ 13 true ?_
    refine lJ 13 true ?_
    refine lJ 13 true ?_
    refine lJ 13 true ?_
    refine lV 19 (eT (.bool true)) (wN (tN (cond_t rfl kr (wQ (wR (lV 4 (eA (.bool false)) (wN (tN (wT (tR ?_))))))))))
    obtain rfl := sj M
    exact ret1 rfl rfl  (show _ = .bool false from kr) ⟨rfl, S15.chg⟩
  replace M := ifn q17 M
  refine lG 9 8 (bF q17) (eM (.slice A7 x6.length c8)) ?_
  obtain ⟨t18, u19, M⟩ := bnd M
  refine lcallg (d := 10) (t := 8) rfl kr rfl (bF q17) rfl kr (eC [.tmp 9] [.slice A7 x6.length c8] func17) (impl_ValidTerm.calls k w13 H x6 A7 c8 h9 l10 S15.own0 t18 u19) ?_
  rintro _ w20 ⟨rfl, C21⟩
  refine ⟨_, rfl, ?_⟩
  obtain ⟨S22, K23⟩ := S15.still C21
  refine lG 11 8 (bF q17) (e_notv (c := t18) kr) (lV 12 (eF (.bool (decide (¬ (t18 = true)))) (bF q17)) (lV 13 (eM (.bool (decide (¬ (t18 = true))))) ?_))
  by_cases q24 : ¬ (t18 = true)
  · replace M := ifp q24 M
    refine lK 13 true (bT q24) ?_
    refine lK 13 true (bT q24) ?_
    refine lK 13 true (bT q24) ?_
    refine lK 13 true (bT q24) ?_
    refine lK 13 true (bT q24) ?_
    refine lV 19 (eT (.bool true) (bT q24)) (wN (tN (cond_t rfl kr (wQ (wR (lV 4 (eA (.bool false)) (wN (tN (wT (tR ?_))))))))))
    obtain rfl := sj M
    exact ret1 rfl rfl  (show _ = .bool false from kr) ⟨rfl, S22.chg⟩
  replace M := ifn q24 M
  refine lG 14 13 (bF q24) (eM (.slice A2 x1.length c3)) (lG 15 13 (bF q24) (e_len (A := A2) (n := x1.length) (c := c3) underlying25 kr) (lG 16 13 (bF q24) (eM (.slice A7 x6.length c8)) (lG 17 13 (bF q24) (e_len (A := A7) (n := x6.length) (c := c8) underlying25 kr) (lG 18 13 (bF q24) (eNe .i64 (x1.length : Int) (x6.length : Int)) (lV 19 (eF (.bool (decide ((x1.length : Int) ≠ (x6.length : Int)))) (bF q24)) (wN (tN ?_)))))))
  by_cases q25 : (x1.length : Int) ≠ (x6.length : Int)
  · replace M := ifp q25 M
    refine cT (bT q25) (wQ (wR (lV 4 (eA (.bool false)) (wN (tN (wT (tR ?_)))))))
    obtain rfl := sj M
    exact ret1 rfl rfl  (show _ = .bool false from kr) ⟨rfl, S22.chg⟩
  replace M := ifn q25 M
  refine cF (bF q25) (wK (tN (wQ (wR (lV 20 (eM (.slice A2 x1.length c3)) ?_)))))
  obtain ⟨t26, u27, M⟩ := bnd M
  refine lC 21 (eC [.tmp 20] [.slice A2 x1.length c3] func62) (impl_tree.calls k w20 H x1 A2 c3 h4 l5 (St.own' (Fa := []) (Fr := []) S22) t26 u27) ?_
  rintro _ w28 ⟨g31, H29, rfl, h32, T30⟩
  refine ⟨_, rfl, ?_⟩
  obtain ⟨S33, K34⟩ := St.call (Fa := []) (Fr := []) S22 T30
  have E35 := T30.ext
  obtain ⟨t36, u37, M⟩ := bnd M
  refine lC 22 (eC [.tmp 21] [.pointer (some ⟨g31, 0, none⟩)] func67) (impl_renumbered.calls k w28 H29 t26 g31 h32 (St.own' (Fa := []) (Fr := []) S33) t36 u37) ?_
  rintro _ w38 ⟨g41, H39, rfl, h42, T40⟩
  refine ⟨_, rfl, ?_⟩
  obtain ⟨S43, K44⟩ := St.call (Fa := []) (Fr := []) S33 T40
  have E45 := T40.ext
  refine lV 23 (eM (.slice A7 x6.length c8)) ?_
  obtain ⟨t46, u47, M⟩ := bnd M
  refine lC 24 (eC [.tmp 23] [.slice A7 x6.length c8] func62) (impl_tree.calls k w38 H39 x6 A7 c8 (h9.ext (E35.trans E45)) l10 (St.own' (Fa := []) (Fr := []) S43) t46 u47) ?_
  rintro _ w48 ⟨g51, H49, rfl, h52, T50⟩
  refine ⟨_, rfl, ?_⟩
  obtain ⟨S53, K54⟩ := St.call (Fa := []) (Fr := []) S43 T50
  have E55 := T50.ext
  obtain ⟨t56, u57, M⟩ := bnd M
  refine lC 25 (eC [.tmp 24] [.pointer (some ⟨g51, 0, none⟩)] func67) (impl_renumbered.calls k w48 H49 t46 g51 h52 (St.own' (Fa := []) (Fr := []) S53) t56 u57) ?_
  rintro _ w58 ⟨g61, H59, rfl, h62, T60⟩
  refine ⟨_, rfl, ?_⟩
  obtain ⟨S63, K64⟩ := St.call (Fa := []) (Fr := []) S53 T60
  have E65 := T60.ext
  obtain ⟨t66, u67, M⟩ := bnd M
  refine lC 26 (eC [.tmp 22, .tmp 25] [.pointer (some ⟨g41, 0, none⟩), .pointer (some ⟨g61, 0, none⟩)] func61) (impl_compare.calls k w58 H59 t36 g41 t56 g61 (h42.ext' (E55.trans E65)) h62 S63.own0 t66 u67) ?_
  rintro _ w68 ⟨rfl, C69⟩
  refine ⟨_, rfl, ?_⟩
  obtain ⟨S70, K71⟩ := S63.still C69
  refine lV 27 (eEq .i64 t66 0) (lV 4 (eA (.bool (decide (t66 = 0)))) (wN (tN (wT ?_))))
  obtain rfl := sj M
  exact ret1 rfl rfl  (show _ = .bool (decide (t66 = 0)) from kr) ⟨rfl, S70.chg⟩

/-! laws_FnUnify -/
mutual
def laws_FnUnify.l3 : Nat → ((List Cell) × (List Cell)) → ((List Cell) × (List Cell)) → Int → (List Cell) → Option Bool
  | 0, _, _, _, _ => none
  | k733 + 1, t634, t679, x720, x722 => (if x720 < (t679.2.length : Int) then (if 0 ≤ x720 then (if ((x722.getD ((x720).toNat) z65).kind) = 0 then (if ((x722.getD ((x720).toNat) z65).n) > 900000 then some true else (laws_FnUnify.l4 k733 t634 t679 x720 (x722.set ((x720).toNat) ({(x722.getD ((x720).toNat) z65) with n := (i64.wrap (((x722.getD ((x720).toNat) z65).n) + 2000))})))) else (laws_FnUnify.l4 k733 t634 t679 x720 x722)) else none) else ((impl_Unify.f k733 t679.1 x722).bind fun t794 => ((impl_Subsumes.f k733 t679.1 t634.2).bind fun t813 => (if t813 = true then (if t794.2 = 0 then ((impl_Variant.f k733 t679.1 t634.2).bind fun t827 => ((impl_Subsumes.f k733 t634.2 t679.1).bind fun t839 => some (decide (t827 = t839)))) else (if t794.2 = 3 then ((impl_Variant.f k733 t679.1 t634.2).bind fun t852 => ((impl_Subsumes.f k733 t634.2 t679.1).bind fun t864 => some (decide (t852 = t864)))) else some false)) else some false))))
def laws_FnUnify.l4 : Nat → ((List Cell) × (List Cell)) → ((List Cell) × (List Cell)) → Int → (List Cell) → Option Bool
  | 0, _, _, _, _ => none
  | k748 + 1, t634, t679, x720, x738 => (laws_FnUnify.l3 k748 t634 t679 (i64.wrap (x720 + 1)) x738)
end
def laws_FnUnify.l2 : Nat → ((List Cell) × (List Cell)) → ((List Cell) × (List Cell)) → Int → Option Bool
  | 0, _, _, _ => none
  | k707 + 1, t634, t679, x697 => (if x697 < (t679.1.length : Int) then (if 0 ≤ x697 then (if ((t679.1.getD ((x697).toNat) z65).kind) = 0 then (if ((t679.1.getD ((x697).toNat) z65).n) ≥ 2000 then some true else (laws_FnUnify.l2 k707 t634 t679 (i64.wrap (x697 + 1)))) else (laws_FnUnify.l2 k707 t634 t679 (i64.wrap (x697 + 1)))) else none) else (laws_FnUnify.l3 k707 t634 t679 0 t679.2))
def laws_FnUnify.l0 : Nat → (List UInt8) → Option Bool
  | 0, _ => none
  | k119 + 1, x1 => ((spec_DrawSubsumes.f k119 x1).bind fun t634 => ((spec_Subsumes.f k119 t634.1 t634.2).bind fun t650 => (if ¬ (t650 = true) then ((spec_DrawSubsumes.f k119 x1).bind fun t657 => ((impl_Subsumes.f k119 t657.1 t657.2).bind fun t673 => some (decide (¬ (t673 = true))))) else ((spec_DrawSubsumes_2.f k119 x1).bind fun t679 => (laws_FnUnify.l2 k119 t634 t679 0)))))
def laws_FnUnify.l1 : Nat → (List UInt8) → ((List Cell) × (List Cell)) → ((List Cell) × Int) → (List Binding) → (List Binding) → Int → Option Bool
  | 0, _, _, _, _, _, _ => none
  | k517 + 1, x1, t55, t144, x494, x499, x504 => (if x504 < (x494.length : Int) then (if 0 ≤ x504 then (if x504 < (x499.length : Int) then (if ((x499.getD ((x504).toNat) z63).var) ≠ ((x494.getD ((x504).toNat) z63).var) then some false else ((laws_sameT.f k517 ((x499.getD ((x504).toNat) z63).term) ((x494.getD ((x504).toNat) z63).term)).bind fun t584 => (if ¬ (t584 = true) then some false else (laws_FnUnify.l1 k517 x1 t55 t144 x494 x499 (i64.wrap (x504 + 1)))))) else none) else none) else ((impl_Subsumes.f k517 t55.1 t144.1).bind fun t591 => (if ¬ (t591 = true) then some false else ((impl_Subsumes.f k517 t55.2 t144.1).bind fun t612 => (if ¬ (t612 = true) then some false else (laws_FnUnify.l0 k517 x1))))))
def laws_FnUnify.f (k : Nat) (x1 : List UInt8) : Option Bool := (if (x1.length : Int) > 1048576 then some true else ((spec_DrawUnify.f k x1).bind fun t7 => ((spec_Unify.f k t7.1 t7.2).bind fun t36 => ((spec_DrawUnify.f k x1).bind fun t55 => ((impl_Unify.f k t55.1 t55.2).bind fun t90 => (if t90.2 ≠ t36.2 then some false else (if t36.2 = 0 then ((impl_Apply.f k t90.1 t55.1).bind fun t144 => ((impl_Apply.f k t90.1 t55.2).bind fun t187 => (if t144.2 = 3 then ((spec_Apply.f k t90.1 t7.1).bind fun t233 => ((spec_Apply.f k t90.1 t7.2).bind fun t265 => (if t144.2 = t233.2 then some (decide (t187.2 = t265.2)) else some false))) else (if t187.2 = 3 then ((spec_Apply.f k t90.1 t7.1).bind fun t305 => ((spec_Apply.f k t90.1 t7.2).bind fun t337 => (if t144.2 = t305.2 then some (decide (t187.2 = t337.2)) else some false))) else ((impl_Apply.f k t90.1 t144.1).bind fun t376 => ((impl_Unify.f k t55.2 t55.1).bind fun t424 => (if t144.2 ≠ 0 then some false else (if t187.2 ≠ 0 then some false else (if t376.2 ≠ 0 then some false else (if t424.2 ≠ 0 then some false else ((laws_sameT.f k t144.1 t187.1).bind fun t447 => (if ¬ (t447 = true) then some false else ((laws_sameT.f k t376.1 t144.1).bind fun t468 => (if ¬ (t468 = true) then some false else (if (t424.1.length : Int) ≠ (t90.1.length : Int) then some false else (laws_FnUnify.l1 k x1 t55 t144 t90.1 t424.1 0)))))))))))))))) else (laws_FnUnify.l0 k x1))))))))
theorem laws_FnUnify.calls (k : Nat) (w : World) (H : Hp) (x1 : List UInt8) (A2 : Option Addr) (c3 : Nat) (h4 : Rd tByte H A2 x1) (l5 : x1.length ≤ c3) (S : Own [] H w) (r : Bool) (M : laws_FnUnify.f k x1 = some r) :
    Calls Try.prog 13 #[.slice A2 x1.length c3] w (fun e e_w => e = .returned (.bool r) ∧ Chg no w e_w) := by
  rw [laws_FnUnify.f] at M
  refine enter (l := [.slice A2 x1.length c3]) 291 func13 rfl rfl rfl ?_
  have S0_ := S.st
  refine wQ (wR (lV 2 (eA (.bool false)) (wN (tN (wQ (wQ (wR (lV 34 (eM (.slice A2 x1.length c3)) (lV 35 (e_len (A := A2) (n := x1.length) (c := c3) underlying59 kr) (lV 36 (e_gtr (k := .i64) (a := (x1.length : Int)) (b := 1048576) kr rfl) (wN (tN ?_))))))))))))
  by_cases q6 : (x1.length : Int) > 1048576
  · replace M := ifp q6 M
    refine cT (bT q6) (wQ (wR (lV 2 (eA (.bool true)) (wN (tN (wT (tR ?_)))))))
    obtain rfl := sj M
    exact ret1 rfl rfl  (show _ = .bool true from kr) ⟨rfl, S0_.chg⟩
  replace M := ifn q6 M
  refine cF (bF q6) (wK (tN (wQ (wR (lV 38 (eM (.slice A2 x1.length c3)) ?_)))))
  obtain ⟨t7, u8, M⟩ := bnd M
  refine lC 39 (eC [.tmp 38] [.slice A2 x1.length c3] func52) (spec_DrawUnify.calls k w H x1 A2 c3 h4 l5 (St.own' (Fa := []) (Fr := []) S0_) t7 u8) ?_
  rintro _ w9 ⟨A12, c13, F15, A16, c17, F19, H10, rfl, h14, h18, T11⟩
  refine ⟨_, rfl, ?_⟩
  obtain ⟨S20, K21⟩ := St.call (Fa := []) (Fr := []) S0_ T11
  have E22 := T11.ext
  refine lV 37 (eM (.tuple #[.slice A12 t7.1.length c13, .slice A16 t7.2.length c17])) (lV 40 (e_extract (vs := #[.slice A12 t7.1.length c13, .slice A16 t7.2.length c17]) (v := .slice A12 t7.1.length c13) kr rfl) (lV 41 (e_extract (vs := #[.slice A12 t7.1.length c13, .slice A16 t7.2.length c17]) (v := .slice A16 t7.2.length c17) kr rfl) (lV 3 (eA (.slice A12 t7.1.length c13)) (lV 4 (eA (.slice A16 t7.2.length c17)) (wN (tN (wQ (wR (lV 43 (eM (.slice A12 t7.1.length c13)) (lV 44 (eM (.slice A16 t7.2.length c17)) ?_))))))))))
  have l23 := h14.le
  obtain ⟨H24, S25, E26, h27, z28⟩ := S20.frzRow h14
  have h29 := h18.ext E26
  replace h27 := h27.unro
  have l30 := h29.le
  obtain ⟨H31, S32, E33, h34, z35⟩ := S25.frzRow h29
  replace h34 := h34.unro
  obtain ⟨t36, u37, M⟩ := bnd M
  refine lC 45 (eC [.tmp 43, .tmp 44] [.slice A12 t7.1.length c13, .slice A16 t7.2.length c17] func49) (spec_Unify.calls k w9 H31 t7.1 A12 c13 t7.2 A16 c17 (h27.ext E33) l23 h34 l30 S32.own0 t36 u37) ?_
  rintro _ w38 ⟨A41, c42, F44, H39, rfl, h43, T40⟩
  refine ⟨_, rfl, ?_⟩
  obtain ⟨S45, K46⟩ := St.call (Fa := []) (Fr := []) S32 T40
  obtain ⟨H47, S48, E49, v50⟩ := St.thaw S25 z35 S45 T40.ext E33 T40.size
  replace h18 := h18.move v50
  obtain ⟨H51, S52, E53, v54⟩ := St.thaw S20 z28 S48 E49 E26 T40.size
  replace h14 := h14.move v54
  replace h14 := h14.ext E53
  replace h18 := h18.ext E53
  replace h43 := Row.free (H' := H51) (free_iso (free_pair (free_scal _ _) (free_slice (free_iso (free_pair (free_scal _ _) (free_pair (free_scal _ _) (free_slice (free_scal _ _)))))))) h43
  refine lV 42 (eM (.tuple #[.slice A41 t36.1.length c42, .int .i64 t36.2])) (lV 46 (e_extract (vs := #[.slice A41 t36.1.length c42, .int .i64 t36.2]) (v := .slice A41 t36.1.length c42) kr rfl) (lV 47 (e_extract (vs := #[.slice A41 t36.1.length c42, .int .i64 t36.2]) (v := .int .i64 t36.2) kr rfl) (lV 5 (eA (.slice A41 t36.1.length c42)) (lV 6 (eA (.int .i64 t36.2)) (wN (tN (wQ (wR (lV 49 (eM (.slice A2 x1.length c3)) ?_)))))))))
  obtain ⟨t55, u56, M⟩ := bnd M
  refine lC 50 (eC [.tmp 49] [.slice A2 x1.length c3] func52) (spec_DrawUnify.calls k w38 H51 x1 A2 c3 (h4.ext (E22.trans E53)) l5 (St.own' (Fa := []) (Fr := [F15, F19, F44]) S52) t55 u56) ?_
  rintro _ w57 ⟨A60, c61, F63, A64, c65, F67, H58, rfl, h62, h66, T59⟩
  refine ⟨_, rfl, ?_⟩
  obtain ⟨S68, K69⟩ := St.call (Fa := []) (Fr := [F15, F19, F44]) S52 T59
  replace h14 := h14.move (K69.at 0 rfl)
  replace h18 := h18.move (K69.at 1 rfl)
  replace h43 := h43.move (K69.at 2 rfl)
  have E70 := T59.ext
  replace h14 := h14.ext E70
  replace h18 := h18.ext E70
  replace h43 := h43.ext E70
  refine lV 48 (eM (.tuple #[.slice A60 t55.1.length c61, .slice A64 t55.2.length c65])) (lV 51 (e_extract (vs := #[.slice A60 t55.1.length c61, .slice A64 t55.2.length c65]) (v := .slice A60 t55.1.length c61) kr rfl) (lV 52 (e_extract (vs := #[.slice A60 t55.1.length c61, .slice A64 t55.2.length c65]) (v := .slice A64 t55.2.length c65) kr rfl) (lV 7 (eA (.slice A60 t55.1.length c61)) (lV 8 (eA (.slice A64 t55.2.length c65)) (wN (tN (wQ (wR (lV 54 (eM (.slice A60 t55.1.length c61)) (lV 55 (eM (.slice A64 t55.2.length c65)) ?_))))))))))
  have l71 := h62.le
  obtain ⟨H72, S73, E74, h75, z76⟩ := S68.frzRow h62
  have h77 := h66.ext E74
  have h78 := h14.ext E74
  have h79 := h18.ext E74
  have h80 := h43.ext E74
  replace h75 := h75.unro
  have l81 := h77.le
  obtain ⟨H82, S83, E84, h85, z86⟩ := S73.frzRow h77
  have h87 := h78.ext E84
  have h88 := h79.ext E84
  have h89 := h80.ext E84
  replace h85 := h85.unro
  obtain ⟨t90, u91, M⟩ := bnd M
  refine lC 56 (eC [.tmp 54, .tmp 55] [.slice A60 t55.1.length c61, .slice A64 t55.2.length c65] func50) (impl_Unify.calls k w57 H82 t55.1 A60 c61 t55.2 A64 c65 (h75.ext E84) l71 h85 l81 S83.own0 t90 u91) ?_
  rintro _ w92 ⟨A95, c96, F98, H93, rfl, h97, T94⟩
  refine ⟨_, rfl, ?_⟩
  obtain ⟨S99, K100⟩ := St.call (Fa := []) (Fr := [F15, F19, F44]) S83 T94
  replace h14 := h14.move (K100.at 0 rfl)
  replace h18 := h18.move (K100.at 1 rfl)
  replace h43 := h43.move (K100.at 2 rfl)
  obtain ⟨H101, S102, E103, v104⟩ := St.thaw S73 z86 S99 T94.ext E84 T94.size
  replace h66 := h66.move v104
  obtain ⟨H105, S106, E107, v108⟩ := St.thaw S68 z76 S102 E103 E74 T94.size
  replace h62 := h62.move v108
  replace h62 := h62.ext E107
  replace h66 := h66.ext E107
  replace h14 := h14.ext E107
  replace h18 := h18.ext E107
  replace h43 := h43.ext E107
  replace h97 := Row.free (H' := H105) (free_iso (free_pair (free_scal _ _) (free_slice (free_iso (free_pair (free_scal _ _) (free_pair (free_scal _ _) (free_slice (free_scal _ _)))))))) h97
  refine lV 53 (eM (.tuple #[.slice A95 t90.1.length c96, .int .i64 t90.2])) (lV 57 (e_extract (vs := #[.slice A95 t90.1.length c96, .int .i64 t90.2]) (v := .slice A95 t90.1.length c96) kr rfl) (lV 58 (e_extract (vs := #[.slice A95 t90.1.length c96, .int .i64 t90.2]) (v := .int .i64 t90.2) kr rfl) (lV 9 (eA (.slice A95 t90.1.length c96)) (lV 10 (eA (.int .i64 t90.2)) (wN (tN (wQ (wQ (wR (lV 59 (eM (.int .i64 t90.2)) (lV 60 (eM (.int .i64 t36.2)) (lV 61 (eNe .i64 t90.2 t36.2) (wN (tN ?_))))))))))))))
  by_cases q109 : t90.2 ≠ t36.2
  · replace M := ifp q109 M
    refine cT (bT q109) (wQ (wR (lV 2 (eA (.bool false)) (wN (tN (wT (tR ?_)))))))
    obtain rfl := sj M
    exact ret1 rfl rfl  (show _ = .bool false from kr) ⟨rfl, S106.chg⟩
  replace M := ifn q109 M
  refine cF (bF q109) (wK (tN ?_))
  refine wp_seq_cut (fun a118 w110 => ∃ (k120 : Nat), ∃ (f111 : Nat → Value) (H112 : Hp), a118 = mk 291 f111 ∧ f111 0 = .slice A2 x1.length c3 ∧ Ext H105 H112 ∧ St (anyOf []) H w [] H112 w110 ∧ laws_FnUnify.l0 k120 x1 = some r) ?_ ?_
  · refine wQ (wR (lV 62 (eM (.int .i64 t36.2)) (lV 63 (eEq .i64 t36.2 0) (wN (tN ?_)))))
    by_cases q121 : t36.2 = 0
    · replace M := ifp q121 M
      refine cT (bT q121) (wQ (wR (lV 65 (eM (.slice A95 t90.1.length c96)) (lV 66 (eM (.slice A60 t55.1.length c61)) ?_))))
      have S122 := S106.pulls [F98, F63, F67, F15, F19, F44] [2] rfl
      have l123 := h97.le
      obtain ⟨H124, S125, E126, h127, z128⟩ := S122.frzRow h97
      have h129 := h62.ext E126
      have h130 := h66.ext E126
      have h131 := h14.ext E126
      have h132 := h18.ext E126
      have h133 := h43.ext E126
      have l134 := h129.le
      obtain ⟨H135, S136, E137, h138, z139⟩ := S125.frzRow h129
      have h140 := h130.ext E137
      have h141 := h131.ext E137
      have h142 := h132.ext E137
      have h143 := h133.ext E137
      replace h138 := h138.unro
      obtain ⟨t144, u145, M⟩ := bnd M
      refine lC 67 (eC [.tmp 65, .tmp 66] [.slice A95 t90.1.length c96, .slice A60 t55.1.length c61] func46) (impl_Apply.calls k w92 H135 t90.1 A95 c96 t55.1 A60 c61 (h127.ext E137) l123 h138 l134 S136.own0 t144 u145) ?_
      rintro _ w146 ⟨A149, c150, F152, H147, rfl, h151, T148⟩
      refine ⟨_, rfl, ?_⟩
      obtain ⟨S153, K154⟩ := St.call (Fa := []) (Fr := [F67, F15, F19, F44]) S136 T148
      replace h66 := h66.move (K154.at 0 rfl)
      replace h14 := h14.move (K154.at 1 rfl)
      replace h18 := h18.move (K154.at 2 rfl)
      replace h43 := h43.move (K154.at 3 rfl)
      obtain ⟨H155, S156, E157, v158⟩ := St.thaw S125 z139 S153 T148.ext E137 T148.size
      replace h62 := h62.move v158
      obtain ⟨H159, S160, E161, v162⟩ := St.thaw S122 z128 S156 E157 E126 T148.size
      replace h97 := h97.move v162
      replace h97 := h97.ext E161
      replace h62 := h62.ext E161
      replace h66 := h66.ext E161
      replace h14 := h14.ext E161
      replace h18 := h18.ext E161
      replace h43 := h43.ext E161
      replace h151 := Row.free (H' := H159) (free_iso (free_pair (free_scal _ _) (free_pair (free_scal _ _) (free_slice (free_scal _ _))))) h151
      refine lV 64 (eM (.tuple #[.slice A149 t144.1.length c150, .int .i64 t144.2])) (lV 68 (e_extract (vs := #[.slice A149 t144.1.length c150, .int .i64 t144.2]) (v := .slice A149 t144.1.length c150) kr rfl) (lV 69 (e_extract (vs := #[.slice A149 t144.1.length c150, .int .i64 t144.2]) (v := .int .i64 t144.2) kr rfl) (lV 11 (eA (.slice A149 t144.1.length c150)) (lV 12 (eA (.int .i64 t144.2)) (wN (tN (wQ (wR (lV 71 (eM (.slice A95 t90.1.length c96)) (lV 72 (eM (.slice A64 t55.2.length c65)) ?_))))))))))
      have l163 := h97.le
      obtain ⟨H164, S165, E166, h167, z168⟩ := S160.frzRow h97
      have h169 := h62.ext E166
      have h170 := h151.ext E166
      have h171 := h66.ext E166
      have h172 := h14.ext E166
      have h173 := h18.ext E166
      have h174 := h43.ext E166
      have S175 := S165.pulls [F67, F63, F152, F15, F19, F44] [2] rfl
      have l176 := h171.le
      obtain ⟨H177, S178, E179, h180, z181⟩ := S175.frzRow h171
      have h182 := h169.ext E179
      have h183 := h170.ext E179
      have h184 := h172.ext E179
      have h185 := h173.ext E179
      have h186 := h174.ext E179
      replace h180 := h180.unro
      obtain ⟨t187, u188, M⟩ := bnd M
      refine lC 73 (eC [.tmp 71, .tmp 72] [.slice A95 t90.1.length c96, .slice A64 t55.2.length c65] func46) (impl_Apply.calls k w146 H177 t90.1 A95 c96 t55.2 A64 c65 (h167.ext E179) l163 h180 l176 S178.own0 t187 u188) ?_
      rintro _ w189 ⟨A192, c193, F195, H190, rfl, h194, T191⟩
      refine ⟨_, rfl, ?_⟩
      obtain ⟨S196, K197⟩ := St.call (Fa := []) (Fr := [F63, F152, F15, F19, F44]) S178 T191
      replace h62 := h62.move (K197.at 0 rfl)
      replace h151 := h151.move (K197.at 1 rfl)
      replace h14 := h14.move (K197.at 2 rfl)
      replace h18 := h18.move (K197.at 3 rfl)
      replace h43 := h43.move (K197.at 4 rfl)
      obtain ⟨H198, S199, E200, v201⟩ := St.thaw S175 z181 S196 T191.ext E179 T191.size
      replace h66 := h66.move v201
      obtain ⟨H202, S203, E204, v205⟩ := St.thaw S160 z168 S199 E200 E166 T191.size
      replace h97 := h97.move v205
      replace h97 := h97.ext E204
      replace h66 := h66.ext E204
      replace h62 := h62.ext E204
      replace h151 := h151.ext E204
      replace h14 := h14.ext E204
      replace h18 := h18.ext E204
      replace h43 := h43.ext E204
      replace h194 := Row.free (H' := H202) (free_iso (free_pair (free_scal _ _) (free_pair (free_scal _ _) (free_slice (free_scal _ _))))) h194
      refine lV 70 (eM (.tuple #[.slice A192 t187.1.length c193, .int .i64 t187.2])) (lV 74 (e_extract (vs := #[.slice A192 t187.1.length c193, .int .i64 t187.2]) (v := .slice A192 t187.1.length c193) kr rfl) (lV 75 (e_extract (vs := #[.slice A192 t187.1.length c193, .int .i64 t187.2]) (v := .int .i64 t187.2) kr rfl) (lV 13 (eA (.slice A192 t187.1.length c193)) (lV 14 (eA (.int .i64 t187.2)) (wN (tN (wQ (wQ (wR (lV 76 (eM (.int .i64 t144.2)) (lV 77 (eEq .i64 t144.2 3) (lV 78 (eM (.bool (decide (t144.2 = 3)))) ?_))))))))))))
      by_cases q206 : t144.2 = 3
      · replace M := ifp q206 M
        refine lK 78 true (bT q206) ?_
        refine lK 78 true (bT q206) ?_
        refine lV 81 (eT (.bool true) (bT q206)) (wN (tN (cond_t rfl kr (wQ (wR (lV 83 (eM (.slice A95 t90.1.length c96)) (lV 84 (eM (.slice A12 t7.1.length c13)) ?_)))))))
        have l207 := h97.le
        obtain ⟨H208, S209, E210, h211, z212⟩ := S203.frzRow h97
        have h213 := h66.ext E210
        have h214 := h194.ext E210
        have h215 := h62.ext E210
        have h216 := h151.ext E210
        have h217 := h14.ext E210
        have h218 := h18.ext E210
        have h219 := h43.ext E210
        have S220 := S209.pulls [F15, F67, F195, F63, F152, F19, F44] [4] rfl
        have l221 := h217.le
        obtain ⟨H222, S223, E224, h225, z226⟩ := S220.frzRow h217
        have h227 := h213.ext E224
        have h228 := h214.ext E224
        have h229 := h215.ext E224
        have h230 := h216.ext E224
        have h231 := h218.ext E224
        have h232 := h219.ext E224
        replace h225 := h225.unro
        obtain ⟨t233, u234, M⟩ := bnd M
        refine lC 85 (eC [.tmp 83, .tmp 84] [.slice A95 t90.1.length c96, .slice A12 t7.1.length c13] func44) (spec_Apply.calls k w189 H222 t90.1 A95 c96 t7.1 A12 c13 (h211.ext E224) l207 h225 l221 S223.own0 t233 u234) ?_
        rintro _ w235 ⟨A238, c239, F241, H236, rfl, h240, T237⟩
        refine ⟨_, rfl, ?_⟩
        obtain ⟨S242, K243⟩ := St.call (Fa := []) (Fr := [F67, F195, F63, F152, F19, F44]) S223 T237
        replace h18 := h18.move (K243.at 4 rfl)
        obtain ⟨H244, S245, E246, v247⟩ := St.thaw S220 z226 S242 T237.ext E224 T237.size
        obtain ⟨H248, S249, E250, v251⟩ := St.thaw S203 z212 S245 E246 E210 T237.size
        replace h97 := h97.move v251
        replace h97 := h97.ext E250
        replace h18 := h18.ext E250
        refine lV 82 (eM (.tuple #[.slice A238 t233.1.length c239, .int .i64 t233.2])) (lV 86 (e_extract (vs := #[.slice A238 t233.1.length c239, .int .i64 t233.2]) (v := .slice A238 t233.1.length c239) kr rfl) (lV 87 (e_extract (vs := #[.slice A238 t233.1.length c239, .int .i64 t233.2]) (v := .int .i64 t233.2) kr rfl) (lV 15 (eA (.slice A238 t233.1.length c239)) (lV 16 (eA (.int .i64 t233.2)) (wN (tN (wQ (wR (lV 89 (eM (.slice A95 t90.1.length c96)) (lV 90 (eM (.slice A16 t7.2.length c17)) ?_))))))))))
        have l252 := h97.le
        obtain ⟨H253, S254, E255, h256, z257⟩ := S249.frzRow h97
        replace h18 := h18.ext E255
        have l258 := h18.le
        have S259 := S254.pulls [F19, F15, F241, F67, F195, F63, F152, F44] [6] rfl
        obtain ⟨H260, S261, E262, h263, z264⟩ := S259.frzRow h18
        replace h263 := h263.unro
        obtain ⟨t265, u266, M⟩ := bnd M
        refine lC 91 (eC [.tmp 89, .tmp 90] [.slice A95 t90.1.length c96, .slice A16 t7.2.length c17] func44) (spec_Apply.calls k w235 H260 t90.1 A95 c96 t7.2 A16 c17 (h256.ext E262) l252 h263 l258 (St.own' (Fa := []) (Fr := [F15, F241, F67, F195, F63, F152, F44]) S261) t265 u266) ?_
        rintro _ w267 ⟨A270, c271, F273, H268, rfl, h272, T269⟩
        refine ⟨_, rfl, ?_⟩
        obtain ⟨S274, K275⟩ := St.call (Fa := []) (Fr := [F15, F241, F67, F195, F63, F152, F44]) S261 T269
        have E276 := T269.ext
        refine lV 88 (eM (.tuple #[.slice A270 t265.1.length c271, .int .i64 t265.2])) (lV 92 (e_extract (vs := #[.slice A270 t265.1.length c271, .int .i64 t265.2]) (v := .slice A270 t265.1.length c271) kr rfl) (lV 93 (e_extract (vs := #[.slice A270 t265.1.length c271, .int .i64 t265.2]) (v := .int .i64 t265.2) kr rfl) (lV 17 (eA (.slice A270 t265.1.length c271)) (lV 18 (eA (.int .i64 t265.2)) (wN (tN (wQ (wR (lV 94 (eM (.int .i64 t144.2)) (lV 95 (eM (.int .i64 t233.2)) (lV 96 (eEq .i64 t144.2 t233.2) (lV 97 (eM (.bool (decide (t144.2 = t233.2)))) ?_))))))))))))
        by_cases q277 : t144.2 = t233.2
        · replace M := ifp q277 M
          refine lG 98 97 (bT q277) (eM (.int .i64 t187.2)) (lG 99 97 (bT q277) (eM (.int .i64 t265.2)) (lG 100 97 (bT q277) (eEq .i64 t187.2 t265.2) (lV 101 (eT (.bool (decide (t187.2 = t265.2))) (bT q277)) (lV 2 (eA (.bool (decide (t187.2 = t265.2)))) (wN (tN (wT (tR (tR ?_)))))))))
          obtain rfl := sj M
          exact ret1 rfl rfl  (show _ = .bool (decide (t187.2 = t265.2)) from kr) ⟨rfl, S274.chg⟩
        replace M := ifn q277 M
        refine lK 97 false (bF q277) ?_
        refine lK 97 false (bF q277) ?_
        refine lK 97 false (bF q277) ?_
        refine lV 101 (eF (.bool false) (bF q277)) (lV 2 (eA (.bool false)) (wN (tN (wT (tR (tR ?_))))))
        obtain rfl := sj M
        exact ret1 rfl rfl  (show _ = .bool false from kr) ⟨rfl, S274.chg⟩
      replace M := ifn q206 M
      refine lG 79 78 (bF q206) (eM (.int .i64 t187.2)) (lG 80 78 (bF q206) (eEq .i64 t187.2 3) (lV 81 (eF (.bool (decide (t187.2 = 3))) (bF q206)) (wN (tN ?_))))
      by_cases q278 : t187.2 = 3
      · replace M := ifp q278 M
        refine cT (bT q278) (wQ (wR (lV 83 (eM (.slice A95 t90.1.length c96)) (lV 84 (eM (.slice A12 t7.1.length c13)) ?_))))
        have l279 := h97.le
        obtain ⟨H280, S281, E282, h283, z284⟩ := S203.frzRow h97
        have h285 := h66.ext E282
        have h286 := h194.ext E282
        have h287 := h62.ext E282
        have h288 := h151.ext E282
        have h289 := h14.ext E282
        have h290 := h18.ext E282
        have h291 := h43.ext E282
        have S292 := S281.pulls [F15, F67, F195, F63, F152, F19, F44] [4] rfl
        have l293 := h289.le
        obtain ⟨H294, S295, E296, h297, z298⟩ := S292.frzRow h289
        have h299 := h285.ext E296
        have h300 := h286.ext E296
        have h301 := h287.ext E296
        have h302 := h288.ext E296
        have h303 := h290.ext E296
        have h304 := h291.ext E296
        replace h297 := h297.unro
        obtain ⟨t305, u306, M⟩ := bnd M
        refine lC 85 (eC [.tmp 83, .tmp 84] [.slice A95 t90.1.length c96, .slice A12 t7.1.length c13] func44) (spec_Apply.calls k w189 H294 t90.1 A95 c96 t7.1 A12 c13 (h283.ext E296) l279 h297 l293 S295.own0 t305 u306) ?_
        rintro _ w307 ⟨A310, c311, F313, H308, rfl, h312, T309⟩
        refine ⟨_, rfl, ?_⟩
        obtain ⟨S314, K315⟩ := St.call (Fa := []) (Fr := [F67, F195, F63, F152, F19, F44]) S295 T309
        replace h18 := h18.move (K315.at 4 rfl)
        obtain ⟨H316, S317, E318, v319⟩ := St.thaw S292 z298 S314 T309.ext E296 T309.size
        obtain ⟨H320, S321, E322, v323⟩ := St.thaw S203 z284 S317 E318 E282 T309.size
        replace h97 := h97.move v323
        replace h97 := h97.ext E322
        replace h18 := h18.ext E322
        refine lV 82 (eM (.tuple #[.slice A310 t305.1.length c311, .int .i64 t305.2])) (lV 86 (e_extract (vs := #[.slice A310 t305.1.length c311, .int .i64 t305.2]) (v := .slice A310 t305.1.length c311) kr rfl) (lV 87 (e_extract (vs := #[.slice A310 t305.1.length c311, .int .i64 t305.2]) (v := .int .i64 t305.2) kr rfl) (lV 15 (eA (.slice A310 t305.1.length c311)) (lV 16 (eA (.int .i64 t305.2)) (wN (tN (wQ (wR (lV 89 (eM (.slice A95 t90.1.length c96)) (lV 90 (eM (.slice A16 t7.2.length c17)) ?_))))))))))
        have l324 := h97.le
        obtain ⟨H325, S326, E327, h328, z329⟩ := S321.frzRow h97
        replace h18 := h18.ext E327
        have l330 := h18.le
        have S331 := S326.pulls [F19, F15, F313, F67, F195, F63, F152, F44] [6] rfl
        obtain ⟨H332, S333, E334, h335, z336⟩ := S331.frzRow h18
        replace h335 := h335.unro
        obtain ⟨t337, u338, M⟩ := bnd M
        refine lC 91 (eC [.tmp 89, .tmp 90] [.slice A95 t90.1.length c96, .slice A16 t7.2.length c17] func44) (spec_Apply.calls k w307 H332 t90.1 A95 c96 t7.2 A16 c17 (h328.ext E334) l324 h335 l330 (St.own' (Fa := []) (Fr := [F15, F313, F67, F195, F63, F152, F44]) S333) t337 u338) ?_
        rintro _ w339 ⟨A342, c343, F345, H340, rfl, h344, T341⟩
        refine ⟨_, rfl, ?_⟩
        obtain ⟨S346, K347⟩ := St.call (Fa := []) (Fr := [F15, F313, F67, F195, F63, F152, F44]) S333 T341
        have E348 := T341.ext
        refine lV 88 (eM (.tuple #[.slice A342 t337.1.length c343, .int .i64 t337.2])) (lV 92 (e_extract (vs := #[.slice A342 t337.1.length c343, .int .i64 t337.2]) (v := .slice A342 t337.1.length c343) kr rfl) (lV 93 (e_extract (vs := #[.slice A342 t337.1.length c343, .int .i64 t337.2]) (v := .int .i64 t337.2) kr rfl) (lV 17 (eA (.slice A342 t337.1.length c343)) (lV 18 (eA (.int .i64 t337.2)) (wN (tN (wQ (wR (lV 94 (eM (.int .i64 t144.2)) (lV 95 (eM (.int .i64 t305.2)) (lV 96 (eEq .i64 t144.2 t305.2) (lV 97 (eM (.bool (decide (t144.2 = t305.2)))) ?_))))))))))))
        by_cases q349 : t144.2 = t305.2
        · replace M := ifp q349 M
          refine lG 98 97 (bT q349) (eM (.int .i64 t187.2)) (lG 99 97 (bT q349) (eM (.int .i64 t337.2)) (lG 100 97 (bT q349) (eEq .i64 t187.2 t337.2) (lV 101 (eT (.bool (decide (t187.2 = t337.2))) (bT q349)) (lV 2 (eA (.bool (decide (t187.2 = t337.2)))) (wN (tN (wT (tR (tR ?_)))))))))
          obtain rfl := sj M
          exact ret1 rfl rfl  (show _ = .bool (decide (t187.2 = t337.2)) from kr) ⟨rfl, S346.chg⟩
        replace M := ifn q349 M
        refine lK 97 false (bF q349) ?_
        refine lK 97 false (bF q349) ?_
        refine lK 97 false (bF q349) ?_
        refine lV 101 (eF (.bool false) (bF q349)) (lV 2 (eA (.bool false)) (wN (tN (wT (tR (tR ?_))))))
        obtain rfl := sj M
        exact ret1 rfl rfl  (show _ = .bool false from kr) ⟨rfl, S346.chg⟩
      replace M := ifn q278 M
      refine cF (bF q278) (wK (tN (wQ (wR (lV 103 (eM (.slice A95 t90.1.length c96)) (lV 104 (eM (.slice A149 t144.1.length c150)) ?_))))))
      have l350 := h97.le
      obtain ⟨H351, S352, E353, h354, z355⟩ := S203.frzRow h97
      have h356 := h66.ext E353
      have h357 := h194.ext E353
      have h358 := h62.ext E353
      have h359 := h151.ext E353
      have h360 := h14.ext E353
      have h361 := h18.ext E353
      have h362 := h43.ext E353
      have S363 := S352.pulls [F152, F67, F195, F63, F15, F19, F44] [3] rfl
      have l364 := h359.le
      obtain ⟨H365, S366, E367, h368, z369⟩ := S363.frzRow h359
      have h370 := h356.ext E367
      have h371 := h357.ext E367
      have h372 := h358.ext E367
      have h373 := h360.ext E367
      have h374 := h361.ext E367
      have h375 := h362.ext E367
      obtain ⟨t376, u377, M⟩ := bnd M
      refine lC 105 (eC [.tmp 103, .tmp 104] [.slice A95 t90.1.length c96, .slice A149 t144.1.length c150] func46) (impl_Apply.calls k w189 H365 t90.1 A95 c96 t144.1 A149 c150 (h354.ext E367) l350 h368 l364 S366.own0 t376 u377) ?_
      rintro _ w378 ⟨A381, c382, F384, H379, rfl, h383, T380⟩
      refine ⟨_, rfl, ?_⟩
      obtain ⟨S385, K386⟩ := St.call (Fa := []) (Fr := [F67, F195, F63, F15, F19, F44]) S366 T380
      replace h66 := h66.move (K386.at 0 rfl)
      replace h194 := h194.move (K386.at 1 rfl)
      replace h62 := h62.move (K386.at 2 rfl)
      replace h14 := h14.move (K386.at 3 rfl)
      replace h18 := h18.move (K386.at 4 rfl)
      replace h43 := h43.move (K386.at 5 rfl)
      obtain ⟨H387, S388, E389, v390⟩ := St.thaw S363 z369 S385 T380.ext E367 T380.size
      replace h151 := h151.move v390
      obtain ⟨H391, S392, E393, v394⟩ := St.thaw S203 z355 S388 E389 E353 T380.size
      replace h97 := h97.move v394
      replace h97 := h97.ext E393
      replace h151 := h151.ext E393
      replace h66 := h66.ext E393
      replace h194 := h194.ext E393
      replace h62 := h62.ext E393
      replace h14 := h14.ext E393
      replace h18 := h18.ext E393
      replace h43 := h43.ext E393
      replace h383 := Row.free (H' := H391) (free_iso (free_pair (free_scal _ _) (free_pair (free_scal _ _) (free_slice (free_scal _ _))))) h383
      refine lV 102 (eM (.tuple #[.slice A381 t376.1.length c382, .int .i64 t376.2])) (lV 106 (e_extract (vs := #[.slice A381 t376.1.length c382, .int .i64 t376.2]) (v := .slice A381 t376.1.length c382) kr rfl) (lV 107 (e_extract (vs := #[.slice A381 t376.1.length c382, .int .i64 t376.2]) (v := .int .i64 t376.2) kr rfl) (lV 19 (eA (.slice A381 t376.1.length c382)) (lV 20 (eA (.int .i64 t376.2)) (wN (tN (wQ (wR (lV 109 (eM (.slice A64 t55.2.length c65)) (lV 110 (eM (.slice A60 t55.1.length c61)) ?_))))))))))
      have S395 := S392.pulls [F67, F98, F152, F384, F195, F63, F15, F19, F44] [3] rfl
      have l396 := h66.le
      obtain ⟨H397, S398, E399, h400, z401⟩ := S395.frzRow h66
      have h402 := h97.ext E399
      have h403 := h151.ext E399
      have h404 := h383.ext E399
      have h405 := h194.ext E399
      have h406 := h62.ext E399
      have h407 := h14.ext E399
      have h408 := h18.ext E399
      have h409 := h43.ext E399
      replace h400 := h400.unro
      have S410 := S398.pulls [F63, F98, F152, F384, F195, F15, F19, F44] [4] rfl
      have l411 := h406.le
      obtain ⟨H412, S413, E414, h415, z416⟩ := S410.frzRow h406
      have h417 := h402.ext E414
      have h418 := h403.ext E414
      have h419 := h404.ext E414
      have h420 := h405.ext E414
      have h421 := h407.ext E414
      have h422 := h408.ext E414
      have h423 := h409.ext E414
      replace h415 := h415.unro
      obtain ⟨t424, u425, M⟩ := bnd M
      refine lC 111 (eC [.tmp 109, .tmp 110] [.slice A64 t55.2.length c65, .slice A60 t55.1.length c61] func50) (impl_Unify.calls k w378 H412 t55.2 A64 c65 t55.1 A60 c61 (h400.ext E414) l396 h415 l411 S413.own0 t424 u425) ?_
      rintro _ w426 ⟨A429, c430, F432, H427, rfl, h431, T428⟩
      refine ⟨_, rfl, ?_⟩
      obtain ⟨S433, K434⟩ := St.call (Fa := []) (Fr := [F98, F152, F384, F195, F15, F19, F44]) S413 T428
      replace h97 := h97.move (K434.at 0 rfl)
      replace h151 := h151.move (K434.at 1 rfl)
      replace h383 := h383.move (K434.at 2 rfl)
      replace h194 := h194.move (K434.at 3 rfl)
      replace h14 := h14.move (K434.at 4 rfl)
      replace h18 := h18.move (K434.at 5 rfl)
      replace h43 := h43.move (K434.at 6 rfl)
      obtain ⟨H435, S436, E437, v438⟩ := St.thaw S410 z416 S433 T428.ext E414 T428.size
      replace h62 := h62.move v438
      obtain ⟨H439, S440, E441, v442⟩ := St.thaw S395 z401 S436 E437 E399 T428.size
      replace h66 := h66.move v442
      replace h66 := h66.ext E441
      replace h62 := h62.ext E441
      replace h97 := h97.ext E441
      replace h151 := h151.ext E441
      replace h383 := h383.ext E441
      replace h194 := h194.ext E441
      replace h14 := h14.ext E441
      replace h18 := h18.ext E441
      replace h43 := h43.ext E441
      replace h431 := Row.free (H' := H439) (free_iso (free_pair (free_scal _ _) (free_slice (free_iso (free_pair (free_scal _ _) (free_pair (free_scal _ _) (free_slice (free_scal _ _)))))))) h431
      refine lV 108 (eM (.tuple #[.slice A429 t424.1.length c430, .int .i64 t424.2])) (lV 112 (e_extract (vs := #[.slice A429 t424.1.length c430, .int .i64 t424.2]) (v := .slice A429 t424.1.length c430) kr rfl) (lV 113 (e_extract (vs := #[.slice A429 t424.1.length c430, .int .i64 t424.2]) (v := .int .i64 t424.2) kr rfl) (lV 21 (eA (.slice A429 t424.1.length c430)) (lV 22 (eA (.int .i64 t424.2)) (wN (tN (wQ (wQ (wR (lV 114 (eM (.int .i64 t144.2)) (lV 115 (eNe .i64 t144.2 0) (lV 116 (eM (.bool (decide (t144.2 ≠ 0)))) ?_))))))))))))
      by_cases q443 : t144.2 ≠ 0
      · replace M := ifp q443 M
        refine lK 116 true (bT q443) ?_
        refine lK 116 true (bT q443) ?_
        refine lV 119 (eT (.bool true) (bT q443)) (lV 120 (eM (.bool true)) (lJ 120 true ?_))
        refine lJ 120 true ?_
        refine lV 123 (eT (.bool true)) (lV 124 (eM (.bool true)) (lJ 124 true ?_))
        refine lJ 124 true ?_
        refine lV 127 (eT (.bool true)) (lV 128 (eM (.bool true)) (lJ 128 true ?_))
        refine lJ 128 true ?_
        refine lJ 128 true ?_
        refine lJ 128 true ?_
        refine lV 133 (eT (.bool true)) (lV 134 (eM (.bool true)) (lJ 134 true ?_))
        refine lJ 134 true ?_
        refine lJ 134 true ?_
        refine lJ 134 true ?_
        refine lV 139 (eT (.bool true)) (lV 140 (eM (.bool true)) (lJ 140 true ?_))
        refine lJ 140 true ?_
        refine lJ 140 true ?_
        refine lJ 140 true ?_
        refine lJ 140 true ?_
        refine lV 146 (eT (.bool true)) (wN (tN (cond_t rfl kr (wQ (wR (lV 2 (eA (.bool false)) (wN (tN (wT (tR (tR ?_)))))))))))
        obtain rfl := sj M
        exact ret1 rfl rfl  (show _ = .bool false from kr) ⟨rfl, S440.chg⟩
      replace M := ifn q443 M
      refine lG 117 116 (bF q443) (eM (.int .i64 t187.2)) (lG 118 116 (bF q443) (eNe .i64 t187.2 0) (lV 119 (eF (.bool (decide (t187.2 ≠ 0))) (bF q443)) (lV 120 (eM (.bool (decide (t187.2 ≠ 0)))) ?_)))
      by_cases q444 : t187.2 ≠ 0
      · replace M := ifp q444 M
        refine lK 120 true (bT q444) ?_
        refine lK 120 true (bT q444) ?_
        refine lV 123 (eT (.bool true) (bT q444)) (lV 124 (eM (.bool true)) (lJ 124 true ?_))
        refine lJ 124 true ?_
        refine lV 127 (eT (.bool true)) (lV 128 (eM (.bool true)) (lJ 128 true ?_))
        refine lJ 128 true ?_
        refine lJ 128 true ?_
        refine lJ 128 true ?_
        refine lV 133 (eT (.bool true)) (lV 134 (eM (.bool true)) (lJ 134 true ?_))
        refine lJ 134 true ?_
        refine lJ 134 true ?_
        refine lJ 134 true ?_
        refine lV 139 (eT (.bool true)) (lV 140 (eM (.bool true)) (lJ 140 true ?_))
        refine lJ 140 true ?_
        refine lJ 140 true ?_
        refine lJ 140 true ?_
        refine lJ 140 true ?_
        refine lV 146 (eT (.bool true)) (wN (tN (cond_t rfl kr (wQ (wR (lV 2 (eA (.bool false)) (wN (tN (wT (tR (tR ?_)))))))))))
        obtain rfl := sj M
        exact ret1 rfl rfl  (show _ = .bool false from kr) ⟨rfl, S440.chg⟩
      replace M := ifn q444 M
      refine lG 121 120 (bF q444) (eM (.int .i64 t376.2)) (lG 122 120 (bF q444) (eNe .i64 t376.2 0) (lV 123 (eF (.bool (decide (t376.2 ≠ 0))) (bF q444)) (lV 124 (eM (.bool (decide (t376.2 ≠ 0)))) ?_)))
      by_cases q445 : t376.2 ≠ 0
      · replace M := ifp q445 M
        refine lK 124 true (bT q445) ?_
        refine lK 124 true (bT q445) ?_
        refine lV 127 (eT (.bool true) (bT q445)) (lV 128 (eM (.bool true)) (lJ 128 true ?_))
        refine lJ 128 true ?_
        refine lJ 128 true ?_
        refine lJ 128 true ?_
        refine lV 133 (eT (.bool true)) (lV 134 (eM (.bool true)) (lJ 134 true ?_))
        refine lJ 134 true ?_
        refine lJ 134 true ?_
        refine lJ 134 true ?_
        refine lV 139 (eT (.bool true)) (lV 140 (eM (.bool true)) (lJ 140 true ?_))
        refine lJ 140 true ?_
        refine lJ 140 true ?_
        refine lJ 140 true ?_
        refine lJ 140 true ?_
        refine lV 146 (eT (.bool true)) (wN (tN (cond_t rfl kr (wQ (wR (lV 2 (eA (.bool false)) (wN (tN (wT (tR (tR ?_)))))))))))
        obtain rfl := sj M
        exact ret1 rfl rfl  (show _ = .bool false from kr) ⟨rfl, S440.chg⟩
      replace M := ifn q445 M
      refine lG 125 124 (bF q445) (eM (.int .i64 t424.2)) (lG 126 124 (bF q445) (eNe .i64 t424.2 0) (lV 127 (eF (.bool (decide (t424.2 ≠ 0))) (bF q445)) (lV 128 (eM (.bool (decide (t424.2 ≠ 0)))) ?_)))
      by_cases q446 : t424.2 ≠ 0
      · replace M := ifp q446 M
        refine lK 128 true (bT q446) ?_
        refine lK 128 true (bT q446) ?_
        refine lK 128 true (bT q446) ?_
        refine lK 128 true (bT q446) ?_
        refine lV 133 (eT (.bool true) (bT q446)) (lV 134 (eM (.bool true)) (lJ 134 true ?_))
        refine lJ 134 true ?_
        refine lJ 134 true ?_
        refine lJ 134 true ?_
        refine lV 139 (eT (.bool true)) (lV 140 (eM (.bool true)) (lJ 140 true ?_))
        refine lJ 140 true ?_
        refine lJ 140 true ?_
        refine lJ 140 true ?_
        refine lJ 140 true ?_
        refine lV 146 (eT (.bool true)) (wN (tN (cond_t rfl kr (wQ (wR (lV 2 (eA (.bool false)) (wN (tN (wT (tR (tR ?_)))))))))))
        obtain rfl := sj M
        exact ret1 rfl rfl  (show _ = .bool false from kr) ⟨rfl, S440.chg⟩
      replace M := ifn q446 M
      refine lG 129 128 (bF q446) (eM (.slice A149 t144.1.length c150)) (lG 130 128 (bF q446) (eM (.slice A192 t187.1.length c193)) ?_)
      obtain ⟨t447, u448, M⟩ := bnd M
      refine lcallg (d := 131) (t := 128) rfl kr rfl (bF q446) rfl kr (eC [.tmp 129, .tmp 130] [.slice A149 t144.1.length c150, .slice A192 t187.1.length c193] func53) (by have l449 := h151.le; have S450 := S440.pull (F := F152) (Fr := [F67, F63, F432, F98, F384, F195, F15, F19, F44]) 4 rfl rfl; obtain ⟨H451, S452, E453, h454, z455⟩ := S450.frzRow h151; replace h66 := h66.ext E453; replace h62 := h62.ext E453; replace h431 := h431.ext E453; replace h97 := h97.ext E453; replace h383 := h383.ext E453; replace h194 := h194.ext E453; replace h14 := h14.ext E453; replace h18 := h18.ext E453; replace h43 := h43.ext E453; have l456 := h194.le; have S457 := S452.pull (F := F195) (Fr := [F67, F63, F432, F98, F384, F15, F19, F44]) 5 rfl rfl; obtain ⟨H458, S459, E460, h461, z462⟩ := S457.frzRow h194; replace h66 := h66.ext E460; replace h62 := h62.ext E460; replace h431 := h431.ext E460; replace h97 := h97.ext E460; replace h383 := h383.ext E460; replace h14 := h14.ext E460; replace h18 := h18.ext E460; replace h43 := h43.ext E460; exact (laws_sameT.calls k w426 H458 t144.1 A149 c150 t187.1 A192 c193 (h454.ext E460) l449 h461 l456 S459.own0 t447 u448)) ?_
      rintro _ w463 ⟨rfl, C464⟩
      refine ⟨_, rfl, ?_⟩
      obtain ⟨S465, K466⟩ := S440.still C464
      replace h66 := h66.move (K466.at 0 rfl)
      replace h62 := h62.move (K466.at 1 rfl)
      replace h431 := h431.move (K466.at 2 rfl)
      replace h97 := h97.move (K466.at 3 rfl)
      replace h151 := h151.move (K466.at 4 rfl)
      replace h383 := h383.move (K466.at 5 rfl)
      replace h194 := h194.move (K466.at 6 rfl)
      replace h14 := h14.move (K466.at 7 rfl)
      replace h18 := h18.move (K466.at 8 rfl)
      replace h43 := h43.move (K466.at 9 rfl)
      refine lG 132 128 (bF q446) (e_notv (c := t447) kr) (lV 133 (eF (.bool (decide (¬ (t447 = true)))) (bF q446)) (lV 134 (eM (.bool (decide (¬ (t447 = true))))) ?_))
      by_cases q467 : ¬ (t447 = true)
      · replace M := ifp q467 M
        refine lK 134 true (bT q467) ?_
        refine lK 134 true (bT q467) ?_
        refine lK 134 true (bT q467) ?_
        refine lK 134 true (bT q467) ?_
        refine lV 139 (eT (.bool true) (bT q467)) (lV 140 (eM (.bool true)) (lJ 140 true ?_))
        refine lJ 140 true ?_
        refine lJ 140 true ?_
        refine lJ 140 true ?_
        refine lJ 140 true ?_
        refine lV 146 (eT (.bool true)) (wN (tN (cond_t rfl kr (wQ (wR (lV 2 (eA (.bool false)) (wN (tN (wT (tR (tR ?_)))))))))))
        obtain rfl := sj M
        exact ret1 rfl rfl  (show _ = .bool false from kr) ⟨rfl, S465.chg⟩
      replace M := ifn q467 M
      refine lG 135 134 (bF q467) (eM (.slice A381 t376.1.length c382)) (lG 136 134 (bF q467) (eM (.slice A149 t144.1.length c150)) ?_)
      obtain ⟨t468, u469, M⟩ := bnd M
      refine lcallg (d := 137) (t := 134) rfl kr rfl (bF q467) rfl kr (eC [.tmp 135, .tmp 136] [.slice A381 t376.1.length c382, .slice A149 t144.1.length c150] func53) (by have l470 := h383.le; have S471 := S465.pull (F := F384) (Fr := [F67, F63, F432, F98, F152, F195, F15, F19, F44]) 5 rfl rfl; obtain ⟨H472, S473, E474, h475, z476⟩ := S471.frzRow h383; replace h66 := h66.ext E474; replace h62 := h62.ext E474; replace h431 := h431.ext E474; replace h97 := h97.ext E474; replace h151 := h151.ext E474; replace h194 := h194.ext E474; replace h14 := h14.ext E474; replace h18 := h18.ext E474; replace h43 := h43.ext E474; have l477 := h151.le; have S478 := S473.pull (F := F152) (Fr := [F67, F63, F432, F98, F195, F15, F19, F44]) 4 rfl rfl; obtain ⟨H479, S480, E481, h482, z483⟩ := S478.frzRow h151; replace h66 := h66.ext E481; replace h62 := h62.ext E481; replace h431 := h431.ext E481; replace h97 := h97.ext E481; replace h194 := h194.ext E481; replace h14 := h14.ext E481; replace h18 := h18.ext E481; replace h43 := h43.ext E481; exact (laws_sameT.calls k w463 H479 t376.1 A381 c382 t144.1 A149 c150 (h475.ext E481) l470 h482 l477 S480.own0 t468 u469)) ?_
      rintro _ w484 ⟨rfl, C485⟩
      refine ⟨_, rfl, ?_⟩
      obtain ⟨S486, K487⟩ := S465.still C485
      replace h66 := h66.move (K487.at 0 rfl)
      replace h62 := h62.move (K487.at 1 rfl)
      replace h431 := h431.move (K487.at 2 rfl)
      replace h97 := h97.move (K487.at 3 rfl)
      replace h151 := h151.move (K487.at 4 rfl)
      refine lG 138 134 (bF q467) (e_notv (c := t468) kr) (lV 139 (eF (.bool (decide (¬ (t468 = true)))) (bF q467)) (lV 140 (eM (.bool (decide (¬ (t468 = true))))) ?_))
      by_cases q488 : ¬ (t468 = true)
      · replace M := ifp q488 M
        refine lK 140 true (bT q488) ?_
        refine lK 140 true (bT q488) ?_
        refine lK 140 true (bT q488) ?_
        refine lK 140 true (bT q488) ?_
        refine lK 140 true (bT q488) ?_
        refine lV 146 (eT (.bool true) (bT q488)) (wN (tN (cond_t rfl kr (wQ (wR (lV 2 (eA (.bool false)) (wN (tN (wT (tR (tR ?_)))))))))))
        obtain rfl := sj M
        exact ret1 rfl rfl  (show _ = .bool false from kr) ⟨rfl, S486.chg⟩
      replace M := ifn q488 M
      refine lG 141 140 (bF q488) (eM (.slice A429 t424.1.length c430)) (lG 142 140 (bF q488) (e_len (A := A429) (n := t424.1.length) (c := c430) underlying52 kr) (lG 143 140 (bF q488) (eM (.slice A95 t90.1.length c96)) (lG 144 140 (bF q488) (e_len (A := A95) (n := t90.1.length) (c := c96) underlying52 kr) (lG 145 140 (bF q488) (eNe .i64 (t424.1.length : Int) (t90.1.length : Int)) (lV 146 (eF (.bool (decide ((t424.1.length : Int) ≠ (t90.1.length : Int)))) (bF q488)) (wN (tN ?_)))))))
      by_cases q489 : (t424.1.length : Int) ≠ (t90.1.length : Int)
      · replace M := ifp q489 M
        refine cT (bT q489) (wQ (wR (lV 2 (eA (.bool false)) (wN (tN (wT (tR (tR ?_))))))))
        obtain rfl := sj M
        exact ret1 rfl rfl  (show _ = .bool false from kr) ⟨rfl, S486.chg⟩
      replace M := ifn q489 M
      refine cF (bF q489) (wK (tN (wQ (wQ (wR (lV 23 (eA (.int .i64 0)) (wN (tN (wp_block ?_)))))))))
      have l518 := h97.le
      have S519 := S486.pulls [F98, F67, F63, F432, F152, F384, F195, F15, F19, F44] [3] rfl
      obtain ⟨H520, S521, E522, h523, z524⟩ := S519.frzRow h97
      replace h66 := h66.ext E522
      replace h62 := h62.ext E522
      replace h431 := h431.ext E522
      replace h151 := h151.ext E522
      have l525 := h431.le
      have S526 := S521.pulls [F432, F67, F63, F152, F384, F195, F15, F19, F44] [2] rfl
      obtain ⟨H527, S528, E529, h530, z531⟩ := S526.frzRow h431
      replace h66 := h66.ext E529
      replace h62 := h62.ext E529
      replace h151 := h151.ext E529
      have S534 := S528.pulls [F67, F63, F152, F384, F195, F15, F19, F44] [2, 2, 2] rfl
      have S535 := St.first (Fa := [F67, F63, F152]) (Fr := [F384, F195, F15, F19, F44]) S534
      refine wp_loop_g (fun k515 a516 w490 => ∃ (f491 : Nat → Value) (H492 : Hp) (x494 : List Binding) (A495 : Option Addr) (c496 : Nat) (x499 : List Binding) (A500 : Option Addr) (c501 : Nat) (x504 : Int), a516 = mk 291 f491 ∧ f491 0 = .slice A2 x1.length c3 ∧ f491 7 = .slice A60 t55.1.length c61 ∧ f491 8 = .slice A64 t55.2.length c65 ∧ f491 9 = .slice A495 x494.length c496 ∧ f491 11 = .slice A149 t144.1.length c150 ∧ f491 21 = .slice A500 x499.length c501 ∧ f491 23 = .int .i64 x504 ∧ Row (ro st65) 65 H492 (hp w490) F67 A64 c65 t55.2 ∧ Row (ro st65) 65 H492 (hp w490) F63 A60 c61 t55.1 ∧ Row st65 65 H492 (hp w490) F152 A149 c150 t144.1 ∧ Rd st63 H492 A495 x494 ∧ x494.length ≤ c496 ∧ Rd st63 H492 A500 x499 ∧ x499.length ≤ c501 ∧ Ext H439 H492 ∧ St (anyOf []) H w [F67, F63, F152] H492 w490 ∧ laws_FnUnify.l1 k515 x1 t55 t144 x494 x499 x504 = some r) k ⟨_, H527, t90.1, A95, c96, t424.1, A429, c430, 0, rfl, kr, kr, kr, kr, kr, kr, kr, h66, h62, h151, (h523.ext E529), l518, h530, l525, (E522.trans E529), S535, M⟩ ?_
      clear M
      rintro k515 a516 w490 ⟨f491, H492, x494, A495, c496, x499, A500, c501, x504, rfl, e505, e506, e507, e508, e509, e510, e511, h66, h62, h151, h497, l498, h502, l503, Y493, S512, M⟩
      rcases k515 with _ | k517
      · rw [laws_FnUnify.l1] at M
        cases M
      rw [laws_FnUnify.l1] at M
      refine wQ (wQ (wR (lV 147 (eM (.int .i64 x504) (by exact e511)) (lV 148 (eM (.slice A495 x494.length c496) (by exact e508)) (lV 149 (e_len (A := A495) (n := x494.length) (c := c496) underlying52 kr) (lV 150 (eLt .i64 x504 (x494.length : Int)) (wN (tN ?_))))))))
      by_cases q536 : x504 < (x494.length : Int)
      · replace M := ifp q536 M
        refine cT (bT q536) (wK (tN (wQ (wp_block (wQ ?_)))))
        refine region_quiet kr kr (qV 153 (fun wq_ hq_ => eM (.slice A500 x499.length c501) (by exact e510)) (qV 154 (fun wq_ hq_ => eM (.int .i64 x504) (by exact e511)) ?_))
        obtain ⟨q537, M⟩ := chk M
        obtain ⟨q538, M⟩ := chk M
        obtain ⟨b539, o540, e541⟩ := Rd.addr h502 (show (x504).toNat < x499.length by omega)
        obtain ⟨y542, r543, k544⟩ := Rd.at h502 e541 (getD_some z63 (show (x504).toNat < x499.length by omega))
        obtain ⟨A545, c546, rfl, l547, h548⟩ := st63_open r543
        refine qV 155 (fun wq_ hq_ => eI b539 o540 x499.length c501 2 x504 .i64 underlying52 e541 q537 q538) (qV 156 (fun wq_ hq_ => eD b539 (o540 + (x504 : Int).toNat * 2) 0 1 underlying63) (qV 157 (fun wq_ hq_ => eL ⟨b539, o540 + (x504 : Int).toNat * 2 + 0, none⟩ (.int .i64 ((x499.getD ((x504).toNat) z63).var)) underlying3 (hpx ((S512.still hq_).1.inv.cell (k544 0 _ rfl)))) (qV 158 (fun wq_ hq_ => eM (.slice A495 x494.length c496) (by exact e508)) (qV 159 (fun wq_ hq_ => eM (.int .i64 x504) (by exact e511)) ?_))))
        obtain ⟨b549, o550, e551⟩ := Rd.addr h497 (show (x504).toNat < x494.length by omega)
        obtain ⟨y552, r553, k554⟩ := Rd.at h497 e551 (getD_some z63 (show (x504).toNat < x494.length by omega))
        obtain ⟨A555, c556, rfl, l557, h558⟩ := st63_open r553
        refine qV 160 (fun wq_ hq_ => eI b549 o550 x494.length c496 2 x504 .i64 underlying52 e551 q537 q536) (qV 161 (fun wq_ hq_ => eD b549 (o550 + (x504 : Int).toNat * 2) 0 1 underlying63) (qV 162 (fun wq_ hq_ => eL ⟨b549, o550 + (x504 : Int).toNat * 2 + 0, none⟩ (.int .i64 ((x494.getD ((x504).toNat) z63).var)) underlying3 (hpx ((S512.still hq_).1.inv.cell (k554 0 _ rfl)))) (qV 163 (fun wq_ hq_ => eNe .i64 (x499.getD ((x504).toNat) z63).var (x494.getD ((x504).toNat) z63).var) (qV 164 (fun wq_ hq_ => eM (.bool (decide (((x499.getD ((x504).toNat) z63).var) ≠ ((x494.getD ((x504).toNat) z63).var))))) ?_))))
        by_cases q559 : ((x499.getD ((x504).toNat) z63).var) ≠ ((x494.getD ((x504).toNat) z63).var)
        · replace M := ifp q559 M
          refine qK 164 true (bT q559) ?_
          refine qK 164 true (bT q559) ?_
          refine qK 164 true (bT q559) ?_
          refine qK 164 true (bT q559) ?_
          refine qK 164 true (bT q559) ?_
          refine qK 164 true (bT q559) ?_
          refine qK 164 true (bT q559) ?_
          refine qK 164 true (bT q559) ?_
          refine qK 164 true (bT q559) ?_
          refine qK 164 true (bT q559) ?_
          refine qK 164 true (bT q559) ?_
          refine qK 164 true (bT q559) ?_
          refine qV 177 (fun wq_ hq_ => eT (.bool true) (bT q559)) ?_
          refine wpQuiet_nil ?_
          intro w560 C563
          obtain ⟨S561, K562⟩ := S512.still C563
          refine tN (cond_t rfl kr (wQ (wR (lV 2 (eA (.bool false)) (wN (tN (wT ?_)))))))
          refine inb_r (tR (tR (inb_r (tR (tR ?_)))))
          obtain rfl := sj M
          exact ret1 rfl rfl  (show _ = .bool false from kr) ⟨rfl, S561.chg⟩
        replace M := ifn q559 M
        refine qG 165 164 (bF q559) (fun wq_ hq_ => eM (.slice A500 x499.length c501) (by exact e510)) (qG 166 164 (bF q559) (fun wq_ hq_ => eM (.int .i64 x504) (by exact e511)) ?_)
        obtain ⟨b564, o565, e566⟩ := Rd.addr h502 (show (x504).toNat < x499.length by omega)
        obtain ⟨y567, r568, k569⟩ := Rd.at h502 e566 (getD_some z63 (show (x504).toNat < x499.length by omega))
        obtain ⟨A570, c571, rfl, l572, h573⟩ := st63_open r568
        refine qG 167 164 (bF q559) (fun wq_ hq_ => eI b564 o565 x499.length c501 2 x504 .i64 underlying52 e566 q537 q538) (qG 168 164 (bF q559) (fun wq_ hq_ => eD b564 (o565 + (x504 : Int).toNat * 2) 1 1 underlying63) (qG 169 164 (bF q559) (fun wq_ hq_ => eL ⟨b564, o565 + (x504 : Int).toNat * 2 + 1, none⟩ (.slice A570 ((x499.getD ((x504).toNat) z63).term).length c571) underlying25 (hpx ((S512.still hq_).1.inv.cell (k569 1 _ rfl)))) (qG 170 164 (bF q559) (fun wq_ hq_ => eM (.slice A495 x494.length c496) (by exact e508)) (qG 171 164 (bF q559) (fun wq_ hq_ => eM (.int .i64 x504) (by exact e511)) ?_))))
        obtain ⟨b574, o575, e576⟩ := Rd.addr h497 (show (x504).toNat < x494.length by omega)
        obtain ⟨y577, r578, k579⟩ := Rd.at h497 e576 (getD_some z63 (show (x504).toNat < x494.length by omega))
        obtain ⟨A580, c581, rfl, l582, h583⟩ := st63_open r578
        refine qG 172 164 (bF q559) (fun wq_ hq_ => eI b574 o575 x494.length c496 2 x504 .i64 underlying52 e576 q537 q536) (qG 173 164 (bF q559) (fun wq_ hq_ => eD b574 (o575 + (x504 : Int).toNat * 2) 1 1 underlying63) (qG 174 164 (bF q559) (fun wq_ hq_ => eL ⟨b574, o575 + (x504 : Int).toNat * 2 + 1, none⟩ (.slice A580 ((x494.getD ((x504).toNat) z63).term).length c581) underlying25 (hpx ((S512.still hq_).1.inv.cell (k579 1 _ rfl)))) ?_))
        obtain ⟨t584, u585, M⟩ := bnd M
        refine qcallg (v := .bool t584) (d := 175) (t := 164) rfl kr rfl (bF q559) rfl kr (fun w_ => eC [.tmp 169, .tmp 174] [.slice A570 ((x499.getD ((x504).toNat) z63).term).length c571, .slice A580 ((x494.getD ((x504).toNat) z63).term).length c581] func53) (fun wq_ hq_ => (by obtain ⟨S_, K_⟩ := S512.still hq_; replace h66 := h66.move (K_.at 0 rfl); replace h62 := h62.move (K_.at 1 rfl); replace h151 := h151.move (K_.at 2 rfl); exact (laws_sameT.calls k517 wq_ H492 ((x499.getD ((x504).toNat) z63).term) A570 c571 ((x494.getD ((x504).toNat) z63).term) A580 c581 h573 l572 h583 l582 S_.own0 t584 u585))) (qG 176 164 (bF q559) (fun wq_ hq_ => e_notv (c := t584) kr) (qV 177 (fun wq_ hq_ => eF (.bool (decide (¬ (t584 = true)))) (bF q559)) ?_))
        refine wpQuiet_nil ?_
        intro w586 C589
        obtain ⟨S587, K588⟩ := S512.still C589
        replace h66 := h66.move (K588.at 0 rfl)
        replace h62 := h62.move (K588.at 1 rfl)
        replace h151 := h151.move (K588.at 2 rfl)
        refine tN ?_
        by_cases q590 : ¬ (t584 = true)
        · replace M := ifp q590 M
          refine cT (bT q590) (wQ (wR (lV 2 (eA (.bool false)) (wN (tN (wT (inb_r (tR (tR (inb_r (tR (tR ?_))))))))))))
          obtain rfl := sj M
          exact ret1 rfl rfl  (show _ = .bool false from kr) ⟨rfl, S587.chg⟩
        replace M := ifn q590 M
        refine cF (bF q590) (wK (inb_n (tN (wR (lV 151 (eM (.int .i64 x504) (by exact e511)) (lV 152 (eAdd .i64 x504 1) (lV 23 (eA (.int .i64 (i64.wrap (x504 + 1)))) (wN (tN ?_)))))))))
        exact ⟨k517, (by omega), _, H492, x494, A495, c496, x499, A500, c501, (i64.wrap (x504 + 1)), rfl, (by exact e505), (by exact e506), (by exact e507), (by exact e508), (by exact e509), (by exact e510), kr, h66, h62, h151, h497, l498, h502, l503, Y493, S587, M⟩
      replace M := ifn q536 M
      refine cF (bF q536) (wp_exit (tE (tE (inb_hit (tN (wQ (wR (lV 178 (eM (.slice A60 t55.1.length c61) (by exact e506)) (lV 179 (eM (.slice A149 t144.1.length c150) (by exact e509)) ?_)))))))))
      obtain ⟨t591, u592, M⟩ := bnd M
      refine lC 180 (eC [.tmp 178, .tmp 179] [.slice A60 t55.1.length c61, .slice A149 t144.1.length c150] func31) (by have l593 := h62.le; have S594 := S512.pull (F := F63) (Fr := [F67, F152]) 1 rfl rfl; obtain ⟨H595, S596, E597, h598, z599⟩ := S594.frzRow h62; replace h66 := h66.ext E597; replace h151 := h151.ext E597; replace h598 := h598.unro; have l600 := h151.le; have S601 := S596.pull (F := F152) (Fr := [F67]) 1 rfl rfl; obtain ⟨H602, S603, E604, h605, z606⟩ := S601.frzRow h151; replace h66 := h66.ext E604; exact (impl_Subsumes.calls k517 w490 H602 t55.1 A60 c61 t144.1 A149 c150 (h598.ext E604) l593 h605 l600 S603.own0 t591 u592)) ?_
      rintro _ w607 ⟨rfl, C608⟩
      refine ⟨_, rfl, ?_⟩
      obtain ⟨S609, K610⟩ := S512.still C608
      replace h66 := h66.move (K610.at 0 rfl)
      replace h62 := h62.move (K610.at 1 rfl)
      replace h151 := h151.move (K610.at 2 rfl)
      refine lV 181 (e_notv (c := t591) kr) (lV 182 (eM (.bool (decide (¬ (t591 = true))))) ?_)
      by_cases q611 : ¬ (t591 = true)
      · replace M := ifp q611 M
        refine lK 182 true (bT q611) ?_
        refine lK 182 true (bT q611) ?_
        refine lK 182 true (bT q611) ?_
        refine lK 182 true (bT q611) ?_
        refine lV 187 (eT (.bool true) (bT q611)) (wN (tN (cond_t rfl kr (wQ (wR (lV 2 (eA (.bool false)) (wN (tN (wT (tR ?_))))))))))
        obtain rfl := sj M
        exact ret1 rfl rfl  (show _ = .bool false from kr) ⟨rfl, S609.chg⟩
      replace M := ifn q611 M
      refine lG 183 182 (bF q611) (eM (.slice A64 t55.2.length c65) (by exact e507)) (lG 184 182 (bF q611) (eM (.slice A149 t144.1.length c150) (by exact e509)) ?_)
      obtain ⟨t612, u613, M⟩ := bnd M
      refine lcallg (d := 185) (t := 182) rfl kr rfl (bF q611) rfl kr (eC [.tmp 183, .tmp 184] [.slice A64 t55.2.length c65, .slice A149 t144.1.length c150] func31) (by have l614 := h66.le; obtain ⟨H615, S616, E617, h618, z619⟩ := S609.frzRow h66; replace h62 := h62.ext E617; replace h151 := h151.ext E617; replace h618 := h618.unro; have l620 := h151.le; have S621 := S616.pull (F := F152) (Fr := [F63]) 1 rfl rfl; obtain ⟨H622, S623, E624, h625, z626⟩ := S621.frzRow h151; replace h62 := h62.ext E624; exact (impl_Subsumes.calls k517 w607 H622 t55.2 A64 c65 t144.1 A149 c150 (h618.ext E624) l614 h625 l620 S623.own0 t612 u613)) ?_
      rintro _ w627 ⟨rfl, C628⟩
      refine ⟨_, rfl, ?_⟩
      obtain ⟨S629, K630⟩ := S609.still C628
      refine lG 186 182 (bF q611) (e_notv (c := t612) kr) (lV 187 (eF (.bool (decide (¬ (t612 = true)))) (bF q611)) (wN (tN ?_)))
      by_cases q631 : ¬ (t612 = true)
      · replace M := ifp q631 M
        refine cT (bT q631) (wQ (wR (lV 2 (eA (.bool false)) (wN (tN (wT (tR ?_)))))))
        obtain rfl := sj M
        exact ret1 rfl rfl  (show _ = .bool false from kr) ⟨rfl, S629.chg⟩
      replace M := ifn q631 M
      refine cF (bF q631) (wK (tN ?_))
      have S632 := St.first (Fa := []) (Fr := [F67, F63, F152]) S629
      exact ⟨k517, _, H492, rfl, (by exact e505), ((((E161.trans E204).trans E393).trans E441).trans Y493), S632, M⟩
    replace M := ifn q121 M
    refine cF (bF q121) (wK (tN ?_))
    have S633 := St.first (Fa := []) (Fr := [F63, F67, F98, F15, F19, F44]) S106
    exact ⟨k, _, H105, rfl, kr, (Ext.refl _), S633, M⟩
  clear M
  rintro a118 w110 ⟨k120, f111, H112, rfl, e114, Y113, S115, M⟩
  rcases k120 with _ | k119
  · rw [laws_FnUnify.l0] at M
    cases M
  rw [laws_FnUnify.l0] at M
  refine wQ (wR (lV 189 (eM (.slice A2 x1.length c3) (by exact e114)) ?_))
  obtain ⟨t634, u635, M⟩ := bnd M
  refine lC 190 (eC [.tmp 189] [.slice A2 x1.length c3] func54) (spec_DrawSubsumes.calls k119 w110 H112 x1 A2 c3 (h4.ext ((((E22.trans E53).trans E70).trans E107).trans Y113)) l5 (St.own' (Fa := []) (Fr := []) S115) t634 u635) ?_
  rintro _ w636 ⟨A639, c640, A643, c644, H637, rfl, h641, l642, h645, l646, T638⟩
  refine ⟨_, rfl, ?_⟩
  obtain ⟨S647, K648⟩ := St.call (Fa := []) (Fr := []) S115 T638
  have E649 := T638.ext
  refine lV 188 (eM (.tuple #[.slice A639 t634.1.length c640, .slice A643 t634.2.length c644])) (lV 191 (e_extract (vs := #[.slice A639 t634.1.length c640, .slice A643 t634.2.length c644]) (v := .slice A639 t634.1.length c640) kr rfl) (lV 192 (e_extract (vs := #[.slice A639 t634.1.length c640, .slice A643 t634.2.length c644]) (v := .slice A643 t634.2.length c644) kr rfl) (lV 24 (eA (.slice A639 t634.1.length c640)) (lV 25 (eA (.slice A643 t634.2.length c644)) (wN (tN (wQ (wQ (wR (lV 193 (eM (.slice A639 t634.1.length c640)) (lV 194 (eM (.slice A643 t634.2.length c644)) ?_)))))))))))
  obtain ⟨t650, u651, M⟩ := bnd M
  refine lC 195 (eC [.tmp 193, .tmp 194] [.slice A639 t634.1.length c640, .slice A643 t634.2.length c644] func30) (spec_Subsumes.calls k119 w636 H637 t634.1 A639 c640 t634.2 A643 c644 h641 l642 h645 l646 S647.own0 t650 u651) ?_
  rintro _ w652 ⟨rfl, C653⟩
  refine ⟨_, rfl, ?_⟩
  obtain ⟨S654, K655⟩ := S647.still C653
  refine lV 196 (e_notv (c := t650) kr) (wN (tN ?_))
  by_cases q656 : ¬ (t650 = true)
  · replace M := ifp q656 M
    refine cT (bT q656) (wQ (wR (lV 198 (eM (.slice A2 x1.length c3) (by exact e114)) ?_)))
    obtain ⟨t657, u658, M⟩ := bnd M
    refine lC 199 (eC [.tmp 198] [.slice A2 x1.length c3] func54) (spec_DrawSubsumes.calls k119 w652 H637 x1 A2 c3 (h4.ext (((((E22.trans E53).trans E70).trans E107).trans Y113).trans E649)) l5 (St.own' (Fa := []) (Fr := []) S654) t657 u658) ?_
    rintro _ w659 ⟨A662, c663, A666, c667, H660, rfl, h664, l665, h668, l669, T661⟩
    refine ⟨_, rfl, ?_⟩
    obtain ⟨S670, K671⟩ := St.call (Fa := []) (Fr := []) S654 T661
    have E672 := T661.ext
    refine lV 197 (eM (.tuple #[.slice A662 t657.1.length c663, .slice A666 t657.2.length c667])) (lV 200 (e_extract (vs := #[.slice A662 t657.1.length c663, .slice A666 t657.2.length c667]) (v := .slice A662 t657.1.length c663) kr rfl) (lV 201 (e_extract (vs := #[.slice A662 t657.1.length c663, .slice A666 t657.2.length c667]) (v := .slice A666 t657.2.length c667) kr rfl) (lV 26 (eA (.slice A662 t657.1.length c663)) (lV 27 (eA (.slice A666 t657.2.length c667)) (wN (tN (wQ (wR (lV 202 (eM (.slice A662 t657.1.length c663)) (lV 203 (eM (.slice A666 t657.2.length c667)) ?_))))))))))
    obtain ⟨t673, u674, M⟩ := bnd M
    refine lC 204 (eC [.tmp 202, .tmp 203] [.slice A662 t657.1.length c663, .slice A666 t657.2.length c667] func31) (impl_Subsumes.calls k119 w659 H660 t657.1 A662 c663 t657.2 A666 c667 h664 l665 h668 l669 S670.own0 t673 u674) ?_
    rintro _ w675 ⟨rfl, C676⟩
    refine ⟨_, rfl, ?_⟩
    obtain ⟨S677, K678⟩ := S670.still C676
    refine lV 205 (e_notv (c := t673) kr) (lV 2 (eA (.bool (decide (¬ (t673 = true))))) (wN (tN (wT (tR ?_)))))
    obtain rfl := sj M
    exact ret1 rfl rfl  (show _ = .bool (decide (¬ (t673 = true))) from kr) ⟨rfl, S677.chg⟩
  replace M := ifn q656 M
  refine cF (bF q656) (wK (tN (wQ (wR (lV 207 (eM (.slice A2 x1.length c3) (by exact e114)) ?_)))))
  obtain ⟨t679, u680, M⟩ := bnd M
  refine lC 208 (eC [.tmp 207] [.slice A2 x1.length c3] func54) (spec_DrawSubsumes_2.calls k119 w652 H637 x1 A2 c3 (h4.ext (((((E22.trans E53).trans E70).trans E107).trans Y113).trans E649)) l5 (St.own' (Fa := []) (Fr := []) S654) t679 u680) ?_
  rintro _ w681 ⟨A684, c685, F687, A688, c689, F691, H682, rfl, h686, h690, T683⟩
  refine ⟨_, rfl, ?_⟩
  obtain ⟨S692, K693⟩ := St.call (Fa := []) (Fr := []) S654 T683
  have E694 := T683.ext
  refine lV 206 (eM (.tuple #[.slice A684 t679.1.length c685, .slice A688 t679.2.length c689])) (lV 209 (e_extract (vs := #[.slice A684 t679.1.length c685, .slice A688 t679.2.length c689]) (v := .slice A684 t679.1.length c685) kr rfl) (lV 210 (e_extract (vs := #[.slice A684 t679.1.length c685, .slice A688 t679.2.length c689]) (v := .slice A688 t679.2.length c689) kr rfl) (lV 28 (eA (.slice A684 t679.1.length c685)) (lV 29 (eA (.slice A688 t679.2.length c689)) (wN (tN (wQ (wQ (wR (lV 30 (eA (.int .i64 0)) (wN (tN (wp_block ?_)))))))))))))
  refine wp_loop_g (fun k705 a706 w695 => ∃ (f696 : Nat → Value) (x697 : Int), a706 = mk 291 f696 ∧ f696 25 = .slice A643 t634.2.length c644 ∧ f696 28 = .slice A684 t679.1.length c685 ∧ f696 29 = .slice A688 t679.2.length c689 ∧ f696 30 = .int .i64 x697 ∧ Row (ro st65) 65 H682 (hp w695) F687 A684 c685 t679.1 ∧ Row (ro st65) 65 H682 (hp w695) F691 A688 c689 t679.2 ∧ St (anyOf []) H w [F687, F691] H682 w695 ∧ laws_FnUnify.l2 k705 t634 t679 x697 = some r) k119 ⟨_, 0, rfl, kr, kr, kr, kr, h686, h690, S692, M⟩ ?_
  clear M
  rintro k705 a706 w695 ⟨f696, x697, rfl, e698, e699, e700, e701, h686, h690, S702, M⟩
  rcases k705 with _ | k707
  · rw [laws_FnUnify.l2] at M
    cases M
  rw [laws_FnUnify.l2] at M
  refine wQ (wQ (wR (lV 211 (eM (.int .i64 x697) (by exact e701)) (lV 212 (eM (.slice A684 t679.1.length c685) (by exact e699)) (lV 213 (e_len (A := A684) (n := t679.1.length) (c := c685) underlying25 kr) (lV 214 (eLt .i64 x697 (t679.1.length : Int)) (wN (tN ?_))))))))
  by_cases q708 : x697 < (t679.1.length : Int)
  · replace M := ifp q708 M
    refine cT (bT q708) (wK (tN (wQ (wp_block (wQ (wR (lV 217 (eM (.slice A684 t679.1.length c685) (by exact e699)) (lV 218 (eM (.int .i64 x697) (by exact e701)) ?_))))))))
    obtain ⟨q709, M⟩ := chk M
    obtain ⟨b710, e712⟩ := Row.addr h686 (show (x697).toNat < t679.1.length by omega)
    refine lV 219 (eI b710 0 t679.1.length c685 3 x697 .i64 underlying25 e712 q709 q708) (lV 220 (eD b710 (0 + (x697 : Int).toNat * 3) 0 1 underlying65) (lV 221 (eL ⟨b710, 0 + (x697 : Int).toNat * 3 + 0, none⟩ (.int .i64 ((t679.1.getD ((x697).toNat) z65).kind)) underlying3 (hpx (Row.pick (j := 0) (u := .int .i64 ((t679.1.getD ((x697).toNat) z65).kind)) h686 e712 (getD_some z65 (show (x697).toNat < t679.1.length by omega)) (fun _ _ o_ => st65_r0 o_)))) (lV 222 (eEq .i64 (t679.1.getD ((x697).toNat) z65).kind 0) (lV 223 (eM (.bool (decide (((t679.1.getD ((x697).toNat) z65).kind) = 0)))) ?_))))
    by_cases q713 : ((t679.1.getD ((x697).toNat) z65).kind) = 0
    · replace M := ifp q713 M
      refine lG 224 223 (bT q713) (eM (.slice A684 t679.1.length c685) (by exact e699)) (lG 225 223 (bT q713) (eM (.int .i64 x697) (by exact e701)) ?_)
      obtain ⟨b714, e716⟩ := Row.addr h686 (show (x697).toNat < t679.1.length by omega)
      refine lG 226 223 (bT q713) (eI b714 0 t679.1.length c685 3 x697 .i64 underlying25 e716 q709 q708) (lG 227 223 (bT q713) (eD b714 (0 + (x697 : Int).toNat * 3) 1 1 underlying65) (lG 228 223 (bT q713) (eL ⟨b714, 0 + (x697 : Int).toNat * 3 + 1, none⟩ (.int .i64 ((t679.1.getD ((x697).toNat) z65).n)) underlying3 (hpx (Row.pick (j := 1) (u := .int .i64 ((t679.1.getD ((x697).toNat) z65).n)) h686 e716 (getD_some z65 (show (x697).toNat < t679.1.length by omega)) (fun _ _ o_ => st65_r1 o_)))) (lG 229 223 (bT q713) (e_geq (k := .i64) (a := (t679.1.getD ((x697).toNat) z65).n) (b := 2000) kr rfl) (lV 230 (eT (.bool (decide (((t679.1.getD ((x697).toNat) z65).n) ≥ 2000))) (bT q713)) (wN (tN ?_))))))
      by_cases q717 : ((t679.1.getD ((x697).toNat) z65).n) ≥ 2000
      · replace M := ifp q717 M
        refine cT (bT q717) (wQ (wR (lV 2 (eA (.bool true)) (wN (tN (wT (inb_r (tR (tR (inb_r (tR ?_)))))))))))
        obtain rfl := sj M
        exact ret1 rfl rfl  (show _ = .bool true from kr) ⟨rfl, S702.chg⟩
      replace M := ifn q717 M
      refine cF (bF q717) (wK (inb_n (tN (wR (lV 215 (eM (.int .i64 x697) (by exact e701)) (lV 216 (eAdd .i64 x697 1) (lV 30 (eA (.int .i64 (i64.wrap (x697 + 1)))) (wN (tN ?_)))))))))
      exact ⟨k707, (by omega), _, (i64.wrap (x697 + 1)), rfl, (by exact e698), (by exact e699), (by exact e700), kr, h686, h690, S702, M⟩
    replace M := ifn q713 M
    refine lK 223 false (bF q713) ?_
    refine lK 223 false (bF q713) ?_
    refine lK 223 false (bF q713) ?_
    refine lK 223 false (bF q713) ?_
    refine lK 223 false (bF q713) ?_
    refine lK 223 false (bF q713) ?_
    refine lV 230 (eF (.bool false) (bF q713)) (wN (tN (cond_f rfl kr (wK (inb_n (tN (wR (lV 215 (eM (.int .i64 x697) (by exact e701)) (lV 216 (eAdd .i64 x697 1) (lV 30 (eA (.int .i64 (i64.wrap (x697 + 1)))) (wN (tN ?_))))))))))))
    exact ⟨k707, (by omega), _, (i64.wrap (x697 + 1)), rfl, (by exact e698), (by exact e699), (by exact e700), kr, h686, h690, S702, M⟩
  replace M := ifn q708 M
  refine cF (bF q708) (wp_exit (tE (tE (inb_hit (tN (wQ (wQ (wR (lV 31 (eA (.int .i64 0)) (wN (tN (wp_block ?_))))))))))))
  refine wp_loop_g (fun k731 a732 w718 => ∃ (f719 : Nat → Value) (x720 : Int) (F721 : Foot) (x722 : List Cell), k731 ≤ k707 ∧ a732 = mk 291 f719 ∧ f719 25 = .slice A643 t634.2.length c644 ∧ f719 28 = .slice A684 t679.1.length c685 ∧ f719 29 = .slice A688 t679.2.length c689 ∧ f719 31 = .int .i64 x720 ∧ Row (ro st65) 65 H682 (hp w718) F687 A684 c685 t679.1 ∧ Row (ro st65) 65 H682 (hp w718) F721 A688 c689 x722 ∧ x722.length = t679.2.length ∧ St (anyOf []) H w [F687, F721] H682 w718 ∧ laws_FnUnify.l3 k731 t634 t679 x720 x722 = some r) k707 ⟨_, 0, F691, t679.2, (by omega), rfl, (by exact e698), (by exact e699), (by exact e700), kr, h686, h690, rfl, S702, M⟩ ?_
  clear M
  rintro k731 a732 w718 ⟨f719, x720, F721, x722, z730, rfl, e724, e725, e726, e727, h686, h690, n723, S728, M⟩
  rcases k731 with _ | k733
  · rw [laws_FnUnify.l3] at M
    cases M
  rw [laws_FnUnify.l3] at M
  refine wQ (wQ (wR (lV 231 (eM (.int .i64 x720) (by exact e727)) (lV 232 (eM (.slice A688 t679.2.length c689) (by exact e726)) (lV 233 (e_len (A := A688) (n := t679.2.length) (c := c689) underlying25 kr) (lV 234 (eLt .i64 x720 (t679.2.length : Int)) (wN (tN ?_))))))))
  by_cases q734 : x720 < (t679.2.length : Int)
  · replace M := ifp q734 M
    refine cT (bT q734) (wK (tN ?_))
    refine wp_seq_cut (fun a747 w735 => ∃ (k749 : Nat), k749 ≤ k733 ∧ ∃ (f736 : Nat → Value) (F737 : Foot) (x738 : List Cell), a747 = mk 291 f736 ∧ f736 25 = .slice A643 t634.2.length c644 ∧ f736 28 = .slice A684 t679.1.length c685 ∧ f736 29 = .slice A688 t679.2.length c689 ∧ f736 31 = .int .i64 x720 ∧ Row (ro st65) 65 H682 (hp w735) F687 A684 c685 t679.1 ∧ Row (ro st65) 65 H682 (hp w735) F737 A688 c689 x738 ∧ x738.length = t679.2.length ∧ St (anyOf []) H w [F687, F737] H682 w735 ∧ laws_FnUnify.l4 k749 t634 t679 x720 x738 = some r) ?_ ?_
    · refine wp_block (wQ (wQ (wR (lV 237 (eM (.slice A688 t679.2.length c689) (by exact e726)) (lV 238 (eM (.int .i64 x720) (by exact e727)) ?_)))))
      obtain ⟨q750, M⟩ := chk M
      obtain ⟨b751, e753⟩ := Row.addr h690 (show (x720).toNat < x722.length by have : x722.length = t679.2.length := n723; omega)
      refine lV 239 (eI b751 0 t679.2.length c689 3 x720 .i64 underlying25 e753 q750 q734) (lV 240 (eD b751 (0 + (x720 : Int).toNat * 3) 0 1 underlying65) (lV 241 (eL ⟨b751, 0 + (x720 : Int).toNat * 3 + 0, none⟩ (.int .i64 ((x722.getD ((x720).toNat) z65).kind)) underlying3 (hpx (Row.pick (j := 0) (u := .int .i64 ((x722.getD ((x720).toNat) z65).kind)) h690 e753 (getD_some z65 (show (x720).toNat < x722.length by have : x722.length = t679.2.length := n723; omega)) (fun _ _ o_ => st65_r0 o_)))) (lV 242 (eEq .i64 (x722.getD ((x720).toNat) z65).kind 0) (lV 243 (eM (.bool (decide (((x722.getD ((x720).toNat) z65).kind) = 0)))) ?_))))
      by_cases q754 : ((x722.getD ((x720).toNat) z65).kind) = 0
      · replace M := ifp q754 M
        refine lG 244 243 (bT q754) (eM (.slice A688 t679.2.length c689) (by exact e726)) (lG 245 243 (bT q754) (eM (.int .i64 x720) (by exact e727)) ?_)
        obtain ⟨b755, e757⟩ := Row.addr h690 (show (x720).toNat < x722.length by have : x722.length = t679.2.length := n723; omega)
        refine lG 246 243 (bT q754) (eI b755 0 t679.2.length c689 3 x720 .i64 underlying25 e757 q750 q734) (lG 247 243 (bT q754) (eD b755 (0 + (x720 : Int).toNat * 3) 1 1 underlying65) (lG 248 243 (bT q754) (eL ⟨b755, 0 + (x720 : Int).toNat * 3 + 1, none⟩ (.int .i64 ((x722.getD ((x720).toNat) z65).n)) underlying3 (hpx (Row.pick (j := 1) (u := .int .i64 ((x722.getD ((x720).toNat) z65).n)) h690 e757 (getD_some z65 (show (x720).toNat < x722.length by have : x722.length = t679.2.length := n723; omega)) (fun _ _ o_ => st65_r1 o_)))) (lG 249 243 (bT q754) (e_gtr (k := .i64) (a := (x722.getD ((x720).toNat) z65).n) (b := 900000) kr rfl) (lV 250 (eT (.bool (decide (((x722.getD ((x720).toNat) z65).n) > 900000))) (bT q754)) (wN (tN ?_))))))
        by_cases q758 : ((x722.getD ((x720).toNat) z65).n) > 900000
        · replace M := ifp q758 M
          refine cT (bT q758) (wQ (wR (lV 2 (eA (.bool true)) (wN (tN (wT (tR ?_)))))))
          refine inb_r (tR (tR (inb_r (tR ?_))))
          obtain rfl := sj M
          exact ret1 rfl rfl  (show _ = .bool true from kr) ⟨rfl, S728.chg⟩
        replace M := ifn q758 M
        refine cF (bF q758) (wK (tN (wQ (wR (lV 251 (eM (.slice A688 t679.2.length c689) (by exact e726)) (lV 252 (eM (.int .i64 x720) (by exact e727)) ?_))))))
        obtain ⟨b759, e761⟩ := Row.addr h690 (show (x720).toNat < x722.length by have : x722.length = t679.2.length := n723; omega)
        refine lV 253 (eI b759 0 t679.2.length c689 3 x720 .i64 underlying25 e761 q750 q734) (lV 254 (eD b759 (0 + (x720 : Int).toNat * 3) 0 1 underlying65) (lV 255 (eL ⟨b759, 0 + (x720 : Int).toNat * 3 + 0, none⟩ (.int .i64 ((x722.getD ((x720).toNat) z65).kind)) underlying3 (hpx (Row.pick (j := 0) (u := .int .i64 ((x722.getD ((x720).toNat) z65).kind)) h690 e761 (getD_some z65 (show (x720).toNat < x722.length by have : x722.length = t679.2.length := n723; omega)) (fun _ _ o_ => st65_r0 o_)))) (lV 256 (eEq .i64 (x722.getD ((x720).toNat) z65).kind 0) (wN (tN (cT (bT q754) (wR (lV 257 (eM (.slice A688 t679.2.length c689) (by exact e726)) (lV 258 (eM (.int .i64 x720) (by exact e727)) ?_)))))))))
        obtain ⟨b762, e764⟩ := Row.addr h690 (show (x720).toNat < x722.length by have : x722.length = t679.2.length := n723; omega)
        refine lV 259 (eI b762 0 t679.2.length c689 3 x720 .i64 underlying25 e764 q750 q734) (lV 260 (eD b762 (0 + (x720 : Int).toNat * 3) 1 1 underlying65) (lV 261 (eL ⟨b762, 0 + (x720 : Int).toNat * 3 + 1, none⟩ (.int .i64 ((x722.getD ((x720).toNat) z65).n)) underlying3 (hpx (Row.pick (j := 1) (u := .int .i64 ((x722.getD ((x720).toNat) z65).n)) h690 e764 (getD_some z65 (show (x720).toNat < x722.length by have : x722.length = t679.2.length := n723; omega)) (fun _ _ o_ => st65_r1 o_)))) (lV 262 (eAdd .i64 (x722.getD ((x720).toNat) z65).n 2000) ?_)))
        obtain ⟨b765, e767⟩ := Row.addr h690 (show (x720).toNat < x722.length by have : x722.length = t679.2.length := n723; omega)
        refine lV 263 (eI b765 0 t679.2.length c689 3 x720 .i64 underlying25 e767 q750 q734) (lV 264 (eD b765 (0 + (x720 : Int).toNat * 3) 1 1 underlying65) ?_)
        have S768 := S728.pulls [F721, F687] [1] rfl
        have S769 := S768.unit
        have S770 := S769.pulls [F721, no, F687] [1] rfl
        refine lE (e_setpart (d := (ro st65)) (b := b765) (i := (x720).toNat) (j := 1) (v := .int .i64 (i64.wrap (((x722.getD ((x720).toNat) z65).n) + 2000))) (vs := [.int .i64 (i64.wrap (((x722.getD ((x720).toNat) z65).n) + 2000))]) (yv := {(x722.getD ((x720).toNat) z65) with n := (i64.wrap (((x722.getD ((x720).toNat) z65).n) + 2000))}) S770 kr e767 kr rfl kr h690 (getD_some z65 (show (x720).toNat < x722.length by have : x722.length = t679.2.length := n723; omega)) (Nat.le_of_ble_eq_true rfl) (List.forall_mem_cons.2 ⟨rfl, (fun _ h_ => by cases h_)⟩) (fun _ _ _ o_ => by obtain ⟨_, _, rfl, l2_, h2_⟩ := st65_open o_; exact st65_mkR (x := {(x722.getD ((x720).toNat) z65) with n := (i64.wrap (((x722.getD ((x720).toNat) z65).n) + 2000))}) l2_ h2_)) ?_
        rintro w771 ⟨F773, h772, S774, K775⟩
        replace h686 := h686.move (K775.at 0 rfl)
        clear h690
        refine wN (inb_n (tN ?_))
        have S776 := S774.pulls [F687, F773] [1] rfl
        exact ⟨k733, (by omega), _, F773, (x722.set ((x720).toNat) ({(x722.getD ((x720).toNat) z65) with n := (i64.wrap (((x722.getD ((x720).toNat) z65).n) + 2000))})), rfl, (by exact e724), (by exact e725), (by exact e726), (by exact e727), h686, h772, (List.length_set.trans n723), S776, M⟩
      replace M := ifn q754 M
      refine lK 243 false (bF q754) ?_
      refine lK 243 false (bF q754) ?_
      refine lK 243 false (bF q754) ?_
      refine lK 243 false (bF q754) ?_
      refine lK 243 false (bF q754) ?_
      refine lK 243 false (bF q754) ?_
      refine lV 250 (eF (.bool false) (bF q754)) (wN (tN (cond_f rfl kr (wK (tN (wQ (wR (lV 251 (eM (.slice A688 t679.2.length c689) (by exact e726)) (lV 252 (eM (.int .i64 x720) (by exact e727)) ?_)))))))))
      obtain ⟨b777, e779⟩ := Row.addr h690 (show (x720).toNat < x722.length by have : x722.length = t679.2.length := n723; omega)
      refine lV 253 (eI b777 0 t679.2.length c689 3 x720 .i64 underlying25 e779 q750 q734) (lV 254 (eD b777 (0 + (x720 : Int).toNat * 3) 0 1 underlying65) (lV 255 (eL ⟨b777, 0 + (x720 : Int).toNat * 3 + 0, none⟩ (.int .i64 ((x722.getD ((x720).toNat) z65).kind)) underlying3 (hpx (Row.pick (j := 0) (u := .int .i64 ((x722.getD ((x720).toNat) z65).kind)) h690 e779 (getD_some z65 (show (x720).toNat < x722.length by have : x722.length = t679.2.length := n723; omega)) (fun _ _ o_ => st65_r0 o_)))) (lV 256 (eEq .i64 (x722.getD ((x720).toNat) z65).kind 0) (wN (tN (cF (bF q754) (wK ?_)))))))
      refine inb_n (tN ?_)
      exact ⟨k733, (by omega), _, F721, x722, rfl, (by exact e724), (by exact e725), (by exact e726), (by exact e727), h686, h690, n723, S728, M⟩
    clear M
    rintro a747 w735 ⟨k749, z780, f736, F737, x738, rfl, e740, e741, e742, e743, h686, h690, n739, S744, M⟩
    rcases k749 with _ | k748
    · rw [laws_FnUnify.l4] at M
      cases M
    rw [laws_FnUnify.l4] at M
    refine wR (lV 235 (eM (.int .i64 x720) (by exact e743)) (lV 236 (eAdd .i64 x720 1) (lV 31 (eA (.int .i64 (i64.wrap (x720 + 1)))) (wN (tN ?_)))))
    exact ⟨k748, (by omega), _, (i64.wrap (x720 + 1)), F737, x738, (by omega), rfl, (by exact e740), (by exact e741), (by exact e742), kr, h686, h690, n739, S744, M⟩
  replace M := ifn q734 M
  refine cF (bF q734) (wp_exit (tE (tE (inb_hit (tN (wQ (wR (lV 266 (eM (.slice A684 t679.1.length c685) (by exact e725)) (lV 267 (eM (.slice A688 t679.2.length c689) (by exact e726)) ?_)))))))))
  have l781 := h686.le
  obtain ⟨H782, S783, E784, h785, z786⟩ := S728.frzRow h686
  have h787 := h690.ext E784
  replace h785 := h785.unro
  have l788 := h787.le
  obtain ⟨H789, S790, E791, h792, z793⟩ := S783.frzRow h787
  replace h792 := h792.unro
  obtain ⟨t794, u795, M⟩ := bnd M
  refine lC 268 (eC [.tmp 266, .tmp 267] [.slice A684 t679.1.length c685, .slice A688 t679.2.length c689] func50) (by have q_ := (impl_Unify.calls k733 w718 H789 t679.1 A684 c685 x722 A688 c689 (h785.ext E791) l781 h792 l788 S790.own0 t794 u795); rw [(show x722.length = t679.2.length from n723)] at q_; exact q_) ?_
  rintro _ w796 ⟨A799, c800, F802, H797, rfl, h801, T798⟩
  refine ⟨_, rfl, ?_⟩
  obtain ⟨S803, K804⟩ := St.call (Fa := []) (Fr := []) S790 T798
  obtain ⟨H805, S806, E807, v808⟩ := St.thaw S783 z793 S803 T798.ext E791 T798.size
  replace h690 := h690.move v808
  obtain ⟨H809, S810, E811, v812⟩ := St.thaw S728 z786 S806 E807 E784 T798.size
  replace h686 := h686.move v812
  replace h686 := h686.ext E811
  replace h690 := h690.ext E811
  replace h801 := Row.free (H' := H809) (free_iso (free_pair (free_scal _ _) (free_slice (free_iso (free_pair (free_scal _ _) (free_pair (free_scal _ _) (free_slice (free_scal _ _)))))))) h801
  refine lV 265 (eM (.tuple #[.slice A799 t794.1.length c800, .int .i64 t794.2])) (lV 269 (e_extract (vs := #[.slice A799 t794.1.length c800, .int .i64 t794.2]) (v := .slice A799 t794.1.length c800) kr rfl) (lV 270 (e_extract (vs := #[.slice A799 t794.1.length c800, .int .i64 t794.2]) (v := .int .i64 t794.2) kr rfl) (lV 32 (eA (.slice A799 t794.1.length c800)) (lV 33 (eA (.int .i64 t794.2)) (wN (tN (wQ (wR (lV 271 (eM (.slice A684 t679.1.length c685) (by exact e725)) (lV 272 (eM (.slice A643 t634.2.length c644) (by exact e724)) ?_))))))))))
  obtain ⟨t813, u814, M⟩ := bnd M
  refine lC 273 (eC [.tmp 271, .tmp 272] [.slice A684 t679.1.length c685, .slice A643 t634.2.length c644] func31) (by have l815 := h686.le; obtain ⟨H816, S817, E818, h819, z820⟩ := S810.frzRow h686; replace h690 := h690.ext E818; replace h801 := h801.ext E818; replace h819 := h819.unro; exact (impl_Subsumes.calls k733 w796 H816 t679.1 A684 c685 t634.2 A643 c644 h819 l815 (h645.ext ((E694.trans E811).trans E818)) l646 S817.own0 t813 u814)) ?_
  rintro _ w821 ⟨rfl, C822⟩
  refine ⟨_, rfl, ?_⟩
  obtain ⟨S823, K824⟩ := S810.still C822
  replace h686 := h686.move (K824.at 0 rfl)
  replace h690 := h690.move (K824.at 1 rfl)
  replace h801 := h801.move (K824.at 2 rfl)
  refine lV 274 (eM (.bool t813)) ?_
  by_cases q825 : t813 = true
  · replace M := ifp q825 M
    refine lG 275 274 (bvt q825 kr) (eM (.int .i64 t794.2)) (lG 276 274 (bvt q825 kr) (eEq .i64 t794.2 0) (lG 277 274 (bvt q825 kr) (eM (.bool (decide (t794.2 = 0)))) ?_))
    by_cases q826 : t794.2 = 0
    · replace M := ifp q826 M
      refine lK 277 true (bT q826) ?_
      refine lK 277 true (bT q826) ?_
      refine lG 280 274 (bvt q825 kr) (eT (.bool true) (bT q826)) (lV 281 (eT (.bool true) (bvt q825 kr)) (lV 282 (eM (.bool true)) (lH 283 282 (eM (.slice A684 t679.1.length c685) (by exact e725)) (lH 284 282 (eM (.slice A643 t634.2.length c644) (by exact e724)) ?_))))
      obtain ⟨t827, u828, M⟩ := bnd M
      refine lcallg (d := 285) (t := 282) rfl kr rfl kr rfl kr (eC [.tmp 283, .tmp 284] [.slice A684 t679.1.length c685, .slice A643 t634.2.length c644] func33) (by have l829 := h686.le; obtain ⟨H830, S831, E832, h833, z834⟩ := S823.frzRow h686; replace h690 := h690.ext E832; replace h801 := h801.ext E832; replace h833 := h833.unro; exact (impl_Variant.calls k733 w821 H830 t679.1 A684 c685 t634.2 A643 c644 h833 l829 (h645.ext ((E694.trans E811).trans E832)) l646 S831.own0 t827 u828)) ?_
      rintro _ w835 ⟨rfl, C836⟩
      refine ⟨_, rfl, ?_⟩
      obtain ⟨S837, K838⟩ := S823.still C836
      replace h686 := h686.move (K838.at 0 rfl)
      replace h690 := h690.move (K838.at 1 rfl)
      replace h801 := h801.move (K838.at 2 rfl)
      refine lH 286 282 (eM (.slice A643 t634.2.length c644) (by exact e724)) (lH 287 282 (eM (.slice A684 t679.1.length c685) (by exact e725)) ?_)
      obtain ⟨t839, u840, M⟩ := bnd M
      refine lcallg (d := 288) (t := 282) rfl kr rfl kr rfl kr (eC [.tmp 286, .tmp 287] [.slice A643 t634.2.length c644, .slice A684 t679.1.length c685] func31) (by have l841 := h686.le; obtain ⟨H842, S843, E844, h845, z846⟩ := S837.frzRow h686; replace h690 := h690.ext E844; replace h801 := h801.ext E844; replace h845 := h845.unro; exact (impl_Subsumes.calls k733 w835 H842 t634.2 A643 c644 t679.1 A684 c685 (h645.ext ((E694.trans E811).trans E844)) l646 h845 l841 S843.own0 t839 u840)) ?_
      rintro _ w847 ⟨rfl, C848⟩
      refine ⟨_, rfl, ?_⟩
      obtain ⟨S849, K850⟩ := S837.still C848
      refine lH 289 282 (e_beql (p := t827) (q := t839) underlying4 kr kr) (lV 290 (eT (.bool (decide (t827 = t839)))) (lV 2 (eA (.bool (decide (t827 = t839)))) (wN (tN (wT ?_)))))
      obtain rfl := sj M
      exact ret1 rfl rfl  (show _ = .bool (decide (t827 = t839)) from kr) ⟨rfl, S849.chg⟩
    replace M := ifn q826 M
    refine lG 278 277 (bF q826) (eM (.int .i64 t794.2)) (lG 279 277 (bF q826) (eEq .i64 t794.2 3) (lG 280 274 (bvt q825 kr) (eF (.bool (decide (t794.2 = 3))) (bF q826)) (lV 281 (eT (.bool (decide (t794.2 = 3))) (bvt q825 kr)) (lV 282 (eM (.bool (decide (t794.2 = 3)))) ?_))))
    by_cases q851 : t794.2 = 3
    · replace M := ifp q851 M
      refine lG 283 282 (bT q851) (eM (.slice A684 t679.1.length c685) (by exact e725)) (lG 284 282 (bT q851) (eM (.slice A643 t634.2.length c644) (by exact e724)) ?_)
      obtain ⟨t852, u853, M⟩ := bnd M
      refine lcallg (d := 285) (t := 282) rfl kr rfl (bT q851) rfl kr (eC [.tmp 283, .tmp 284] [.slice A684 t679.1.length c685, .slice A643 t634.2.length c644] func33) (by have l854 := h686.le; obtain ⟨H855, S856, E857, h858, z859⟩ := S823.frzRow h686; replace h690 := h690.ext E857; replace h801 := h801.ext E857; replace h858 := h858.unro; exact (impl_Variant.calls k733 w821 H855 t679.1 A684 c685 t634.2 A643 c644 h858 l854 (h645.ext ((E694.trans E811).trans E857)) l646 S856.own0 t852 u853)) ?_
      rintro _ w860 ⟨rfl, C861⟩
      refine ⟨_, rfl, ?_⟩
      obtain ⟨S862, K863⟩ := S823.still C861
      replace h686 := h686.move (K863.at 0 rfl)
      replace h690 := h690.move (K863.at 1 rfl)
      replace h801 := h801.move (K863.at 2 rfl)
      refine lG 286 282 (bT q851) (eM (.slice A643 t634.2.length c644) (by exact e724)) (lG 287 282 (bT q851) (eM (.slice A684 t679.1.length c685) (by exact e725)) ?_)
      obtain ⟨t864, u865, M⟩ := bnd M
      refine lcallg (d := 288) (t := 282) rfl kr rfl (bT q851) rfl kr (eC [.tmp 286, .tmp 287] [.slice A643 t634.2.length c644, .slice A684 t679.1.length c685] func31) (by have l866 := h686.le; obtain ⟨H867, S868, E869, h870, z871⟩ := S862.frzRow h686; replace h690 := h690.ext E869; replace h801 := h801.ext E869; replace h870 := h870.unro; exact (impl_Subsumes.calls k733 w860 H867 t634.2 A643 c644 t679.1 A684 c685 (h645.ext ((E694.trans E811).trans E869)) l646 h870 l866 S868.own0 t864 u865)) ?_
      rintro _ w872 ⟨rfl, C873⟩
      refine ⟨_, rfl, ?_⟩
      obtain ⟨S874, K875⟩ := S862.still C873
      refine lG 289 282 (bT q851) (e_beql (p := t852) (q := t864) underlying4 kr kr) (lV 290 (eT (.bool (decide (t852 = t864))) (bT q851)) (lV 2 (eA (.bool (decide (t852 = t864)))) (wN (tN (wT ?_)))))
      obtain rfl := sj M
      exact ret1 rfl rfl  (show _ = .bool (decide (t852 = t864)) from kr) ⟨rfl, S874.chg⟩
    replace M := ifn q851 M
    refine lK 282 false (bF q851) ?_
    refine lK 282 false (bF q851) ?_
    refine lK 282 false (bF q851) ?_
    refine lK 282 false (bF q851) ?_
    refine lK 282 false (bF q851) ?_
    refine lK 282 false (bF q851) ?_
    refine lK 282 false (bF q851) ?_
    refine lV 290 (eF (.bool false) (bF q851)) (lV 2 (eA (.bool false)) (wN (tN (wT ?_))))
    obtain rfl := sj M
    exact ret1 rfl rfl  (show _ = .bool false from kr) ⟨rfl, S823.chg⟩
  replace M := ifn q825 M
  refine lK 274 false (bvf q825 kr) ?_
  refine lK 274 false (bvf q825 kr) ?_
  refine lK 274 false (bvf q825 kr) ?_
  refine lskipu (t := 277) rfl kr rfl kr rfl ?_
  refine lskipu (t := 277) rfl kr rfl kr rfl ?_
  refine lK 274 false (bvf q825 kr) ?_
  refine lV 281 (eF (.bool false) (bvf q825 kr)) (lV 282 (eM (.bool false)) (lJ 282 false ?_))
  refine lJ 282 false ?_
  refine lJ 282 false ?_
  refine lJ 282 false ?_
  refine lJ 282 false ?_
  refine lJ 282 false ?_
  refine lJ 282 false ?_
  refine lV 290 (eF (.bool false)) (lV 2 (eA (.bool false)) (wN (tN (wT ?_))))
  obtain rfl := sj M
  exact ret1 rfl rfl  (show _ = .bool false from kr) ⟨rfl, S823.chg⟩
end Go.Proofs.Ytognefkopbbdnaa
