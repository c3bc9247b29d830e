import Derived.Test.YtdkbfcmekppnmaaGreatDoorWkTk1
namespace Go.Proofs.YtdkbfcmekppnmaaGreatDoor
open Go.Sx Go.Sy IntKind Tryz
attribute [local irreducible] Go.wpList Go.wpStill Go.wpQuiet Go.Code.wp
set_option maxRecDepth 100000
set_option maxHeartbeats 1000000
set_option linter.unusedVariables false
set_option linter.unusedSimpArgs false
mutual
def spec_l3put.l0 : Nat → (List Sy.Op) → Sy.Op → (List Sy.Op) → Bool → Int → Option (List Sy.Op)
 | 0, _, _, _, _, _ => none
 | k30 + 1, x1, x6, x18, x23, x24 => (if x24 < (x1.length : Int) then (if 0 ≤ x24 then (if (x1.getD ((x24).toNat) z86).name = x6.name then ((spec_l3prefix.f ((x1.getD ((x24).toNat) z86).typ)).bind fun t55 => ((spec_l3prefix.f x6.typ).bind fun t57 => (if t55 = t57 then (spec_l3put.l0 k30 x1 x6 x18 x23 (i64.wrap (x24 + 1))) else (if ¬ (x23 = true) then (if (!(Op.bytesLess ((x1.getD ((x24).toNat) z86).name) x6.name || ((x1.getD ((x24).toNat) z86).name) == x6.name)) = true then (if x18.length + 1 ≤ 3518437208883 then (spec_l3put.l1 k30 x1 x6 x24 (x18 ++ [x6]) true) else none) else ((spec_l3prefix.f x6.typ).bind fun t102 => (if t102 = true then (if x18.length + 1 ≤ 3518437208883 then (spec_l3put.l1 k30 x1 x6 x24 (x18 ++ [x6]) true) else none) else (spec_l3put.l1 k30 x1 x6 x24 x18 x23)))) else (spec_l3put.l1 k30 x1 x6 x24 x18 x23))))) else (if ¬ (x23 = true) then (if (!(Op.bytesLess ((x1.getD ((x24).toNat) z86).name) x6.name || ((x1.getD ((x24).toNat) z86).name) == x6.name)) = true then (if x18.length + 1 ≤ 3518437208883 then (spec_l3put.l2 k30 x1 x6 x24 (x18 ++ [x6]) true) else none) else (spec_l3put.l2 k30 x1 x6 x24 x18 x23)) else (spec_l3put.l2 k30 x1 x6 x24 x18 x23))) else none) else (if ¬ (x23 = true) then (if x18.length + 1 ≤ 3518437208883 then some (x18 ++ [x6]) else none) else some x18))
def spec_l3put.l1 : Nat → (List Sy.Op) → Sy.Op → Int → (List Sy.Op) → Bool → Option (List Sy.Op)
 | 0, _, _, _, _, _ => none
 | k79 + 1, x1, x6, x24, x69, x74 => (if x69.length + 1 ≤ 3518437208883 then (spec_l3put.l0 k79 x1 x6 (x69 ++ [(x1.getD ((x24).toNat) z86)]) x74 (i64.wrap (x24 + 1))) else none)
def spec_l3put.l2 : Nat → (List Sy.Op) → Sy.Op → Int → (List Sy.Op) → Bool → Option (List Sy.Op)
 | 0, _, _, _, _, _ => none
 | k163 + 1, x1, x6, x24, x153, x158 => (if x153.length + 1 ≤ 3518437208883 then (spec_l3put.l0 k163 x1 x6 (x153 ++ [(x1.getD ((x24).toNat) z86)]) x158 (i64.wrap (x24 + 1))) else none)
end
def spec_l3put.f (k : Nat) (x1 : List Sy.Op) (x6 : Sy.Op) : Option (List Sy.Op) := (spec_l3put.l0 k x1 x6 [] (decide (x6.pri = 0)) 0)
theorem spec_l3put.calls {k : Nat} {w : World} {H : Hp} {x1 : List Sy.Op} {A2 : Option Addr} {c3 : Nat} (x6 : Sy.Op) {A7 : Option Addr} {c8 : Nat} (h4 : Rd st86 H A2 x1) (l5 : x1.length ≤ c3) (h9 : Rd tByte H A7 x6.name) (l10 : x6.name.length ≤ c8) (S : Own [] H w) {r : List Sy.Op} (M : spec_l3put.f k x1 x6 = some r) :
  Calls Tryz.prog 63 #[.slice A2 x1.length c3, .agg #[.slice A7 x6.name.length c8, .int .i64 x6.pri, .int .i64 x6.typ]] w (fun e e_w => ∃ (A_1 : Option Addr) (c_1 : Nat) (F_1 : Foot) (H_ : Hp), e = .returned (.slice A_1 r.length c_1) ∧ Row (ro st86) 86 H_ (hp e_w) F_1 A_1 c_1 r ∧ St (anyOf []) H w [F_1] H_ e_w) := by
 rw [spec_l3put.f] at M
 refine enter (l := [.slice A2 x1.length c3, .agg #[.slice A7 x6.name.length c8, .int .i64 x6.pri, .int .i64 x6.typ]]) 74 func63 rfl rfl rfl ?_
 have S0_ := S.st
 refine wQ (wR ?_)
 refine lW 3 (nB #[.slice A7 x6.name.length c8, .int .i64 x6.pri, .int .i64 x6.typ] 86 S0_) ?_
 rintro _ w11 ⟨g12, rfl, b13, S14, K15⟩
 refine lP 1 (wN (tN (wQ (wR (lP 1 (wN (tN (wQ (wR (lP 1 (lV 11 (eB 1 b13) (lP 2 (wN (tN (wQ (wQ (wR (lP 1 (wN (tN (wp_block ?_)))))))))))))))))))))
 have S31 := S14.unit
 have S32 := S31.pulls [(is g12), no] [1] rfl
 refine wp_loop_g (fun k28 a29 w16 => ∃ (f17 : Nat → Value) (x18 : List Sy.Op) (A19 : Option Addr) (c20 : Nat) (F21 : Foot) (x23 : Bool) (x24 : Int), a29 = mk 74 (upd (upd (upd (upd (upd f17 0 (.slice A2 x1.length c3)) 3 (.pointer (some ⟨g12, 0, none⟩))) 5 (.slice A19 x18.length c20)) 6 (.bool x23)) 7 (.int .i64 x24)) ∧ w16.heap[g12]? = some (.cells #[.slice A7 x6.name.length c8, .int .i64 x6.pri, .int .i64 x6.typ] 86 (0, 0)) ∧ Row (ro st86) 86 H (hp w16) F21 A19 c20 x18 ∧ St (anyOf []) H w [(is g12), F21] H w16 ∧ spec_l3put.l0 k28 x1 x6 x18 x23 x24 = some r) k ⟨_, [], none, 0, no, (decide (x6.pri = 0)), 0, (hdw (hdc (hdc (hdc (hdc (hdc rfl kr) kr) kr) kr) kr)), b13, (Row.nil _ _ _ _ _), S32, M⟩ ?_
 clear M
 rintro k28 a29 w16 ⟨f17, x18, A19, c20, F21, x23, x24, rfl, b13, h22, S25, M⟩
 rcases k28 with _ | k30
 ·rw [spec_l3put.l0] at M
  cases M
 rw [spec_l3put.l0] at M
 refine wQ (wQ (wR (lP 4 (wN (tN ?_)))))
 obtain ⟨q33, M⟩ | ⟨q33, M⟩ := ifd M
 ·refine cF (bF q33) (wp_exit (tE (tE (inb_hit (tN (wQ (wQ (wR (lP 1 (lV 68 (e_notv (c := x23) kr) (wN (tN ?_))))))))))))
  obtain ⟨q205, M⟩ | ⟨q205, M⟩ := ifd M
  ·refine cF (bF q205) (wK (tN (wQ (wR (lP 2 (wN (tN (wT ?_))))))))
   obtain rfl := sj M
   have S223 := S25.pulls [F21, (is g12)] [1] rfl
   have S224 := St.first (Fa := [F21]) (Fr := [(is g12)]) S223
   exact ret1 rfl rfl  kr ⟨A19, c20, F21, H, rfl, h22, S224⟩
  refine cT (bT q205) (wR (lP 1 (lV 70 (e_loadS (b := g12) (off := 0) (cs := [.slice A7 x6.name.length c8, .int .i64 x6.pri, .int .i64 x6.typ]) underlying86 rfl kr kr (blk_cells b13 rfl)) ?_)))
  refine lW 71 (new_blk (v := fun g_ => .slice (some ⟨g_, 0, none⟩) 1 1) (cs := #[.slice A7 x6.name.length c8, .int .i64 x6.pri, .int .i64 x6.typ]) (t := 86) S25 kr) ?_
  rintro _ w206 ⟨g207, rfl, b208, S209, K210⟩
  replace h22 := h22.move (K210.a 1)
  obtain ⟨q211, M⟩ := chk M
  have S212 := S209.pulls [F21, (is g207), (is g12)] [2] rfl
  have S213 := S212.unit
  have S214 := S213.pulls [F21, no, (is g207), (is g12)] [1] rfl
  refine lW 72 (e_append (d := (ro st86)) (n := x18.length) (xs := x18) (cap := c20) (A := A19) (ys := [x6]) (A2 := (some ⟨g207, 0, none⟩)) (c2 := 1) (z := .agg #[.slice none 0 0, .int .i64 0, .int .i64 0]) (bytes := 40) S214 underlying48 kr rfl (by decide) kr rfl kr h22 (elsO_one1 (st86_mkR (x := x6) l10 h9)) (.inr (blk_news b208 rfl)) (show (x18.length + [x6].length) * 40 ≤ _ by first | omega | (simp only [List.length_cons, List.length_nil]; omega)) (by decide)) ?_
  rintro _ w215 ⟨A216, c217, F218, rfl, h219, S220, K221⟩
  refine lP 1 (wN (tN (wQ (wR (lP 2 (wN (tN (wT ?_))))))))
  obtain rfl := sj M
  have S222 := St.first (Fa := [F218]) (Fr := [(is g207), (is g12)]) S220
  exact ret1 rfl rfl  kr ⟨A216, c217, F218, H, rfl, h219, S222⟩
 refine cT (bT q33) (wK (tN (wQ (wp_block (wQ (wR (lP 2 ?_)))))))
 obtain ⟨q34, M⟩ := chk M
 obtain ⟨b35, o36, e37⟩ := Rd.addr h4 (show (x24).toNat < x1.length by omega)
 obtain ⟨y38, r39, k40⟩ := Rd.at h4 e37 (getD_some z86 (show (x24).toNat < x1.length by omega))
 obtain ⟨A41, c42, rfl, l43, h44⟩ := st86_open r39
 refine lV 21 (eJ underlying48 e37 q34 q33) (lV 22 (e_loadS (b := b35) (off := o36 + (x24 : Int).toNat * 3) (cs := [.slice A41 ((x1.getD ((x24).toNat) z86).name).length c42, .int .i64 ((x1.getD ((x24).toNat) z86).pri), .int .i64 ((x1.getD ((x24).toNat) z86).typ)]) underlying86 rfl kr kr (fun j_ u_ e_ => (hpx (S25.inv.cell (k40 j_ u_ e_))))) ?_)
 refine lW 8 (nB #[.slice none 0 0, .int .i64 0, .int .i64 0] 86 S25) ?_
 rintro _ w45 ⟨g46, rfl, b47, S48, K49⟩
 replace b13 := K49.b 0 b13
 replace h22 := h22.move (K49.a 1)
 refine lE (eSa g46 0 [.slice A41 ((x1.getD ((x24).toNat) z86).name).length c42, .int .i64 ((x1.getD ((x24).toNat) z86).pri), .int .i64 ((x1.getD ((x24).toNat) z86).typ)] S48 b47) ?_
 rintro w50 ⟨b51, S52, K53⟩
 replace b13 := K53.b 0 b13
 replace h22 := h22.move (K53.a 1)
 clear b47
 refine wN (tN (wQ (wR (lP 1 (lV 24 (eB 0 b51) (lV 25 (e_conv_bs (A := A41) (n := ((x1.getD ((x24).toNat) z86).name).length) (c := c42) (xs := (x1.getD ((x24).toNat) z86).name) underlying22 underlying5 underlying9 kr rfl (Rd.bytesE S52.inv h44)) (lP 1 (lV 27 (eB 0 b13) (lV 28 (e_conv_bs (A := A7) (n := x6.name.length) (c := c8) (xs := x6.name) underlying22 underlying5 underlying9 kr rfl (Rd.bytesE S52.inv h9)) (lV 29 (e_seql (p := (x1.getD ((x24).toNat) z86).name) (q := x6.name) kr kr) (lP 1 (wN (tN (wQ (wQ ?_)))))))))))))))
 refine region_quiet kr kr (qV 30 (fun wq_ hq_ => eM (.bool (decide ((x1.getD ((x24).toNat) z86).name = x6.name)))) (qV 31 (fun wq_ hq_ => eM (.bool (decide ((x1.getD ((x24).toNat) z86).name = x6.name)))) ?_))
 obtain ⟨q54, M⟩ | ⟨q54, M⟩ := ifd M
 ·refine qP1 7 31 (bF q54) (qV 39 (fun wq_ hq_ => eF (.bool false) (bF q54)) ?_)
  refine wpQuiet_nil ?_
  intro w147 C150
  obtain ⟨S148, K149⟩ := S52.still C150
  replace b51 := K149.b 0 b51
  replace b13 := K149.b 1 b13
  replace h22 := h22.move (K149.a 2)
  refine tN (cond_f rfl kr (wK (tN ?_)))
  refine wp_seq_cut (fun a162 w151 => ∃ (k164 : Nat), k164 ≤ k30 ∧ ∃ (f152 : Nat → Value) (x153 : List Sy.Op) (A154 : Option Addr) (c155 : Nat) (F156 : Foot) (x158 : Bool), a162 = mk 74 (upd (upd (upd (upd (upd (upd f152 0 (.slice A2 x1.length c3)) 3 (.pointer (some ⟨g12, 0, none⟩))) 5 (.slice A154 x153.length c155)) 6 (.bool x158)) 7 (.int .i64 x24)) 8 (.pointer (some ⟨g46, 0, none⟩))) ∧ w151.heap[g46]? = some (.cells #[.slice A41 ((x1.getD ((x24).toNat) z86).name).length c42, .int .i64 ((x1.getD ((x24).toNat) z86).pri), .int .i64 ((x1.getD ((x24).toNat) z86).typ)] 86 (0, 0)) ∧ w151.heap[g12]? = some (.cells #[.slice A7 x6.name.length c8, .int .i64 x6.pri, .int .i64 x6.typ] 86 (0, 0)) ∧ Row (ro st86) 86 H (hp w151) F156 A154 c155 x153 ∧ St (anyOf []) H w [(is g46), (is g12), F156] H w151 ∧ spec_l3put.l2 k164 x1 x6 x24 x153 x158 = some r) ?_ ?_
  ·refine wQ (wR (lP 1 (lV 41 (e_notv (c := x23) kr) (lP 1 ?_))))
   obtain ⟨q165, M⟩ | ⟨q165, M⟩ := ifd M
   ·refine lP1 16 42 (bF q165) (wN (tN (cond_f rfl kr (wK (tN ?_)))))
    exact ⟨k30, (by omega), _, x18, A19, c20, F21, x23, (hdw (hdc (hdc (hdc (hdc (hdc (hdc rfl kr) kr) kr) kr) kr) kr)), b51, b13, h22, S148, M⟩
   refine lP1 1 42 (bT q165) (lG 44 42 (bT q165) (eB 0 b51) (lG 45 42 (bT q165) (e_conv_bs (A := A41) (n := ((x1.getD ((x24).toNat) z86).name).length) (c := c42) (xs := (x1.getD ((x24).toNat) z86).name) underlying22 underlying5 underlying9 kr rfl (Rd.bytesE S148.inv h44)) (lP1 1 42 (bT q165) (lG 47 42 (bT q165) (eB 0 b13) (lG 48 42 (bT q165) (e_conv_bs (A := A7) (n := x6.name.length) (c := c8) (xs := x6.name) underlying22 underlying5 underlying9 kr rfl (Rd.bytesE S148.inv h9)) (lG 49 42 (bT q165) (e_sgtr (p := (x1.getD ((x24).toNat) z86).name) (q := x6.name) kr kr) (lP1 1 42 (bT q165) ?_)))))))
   obtain ⟨q166, M⟩ | ⟨q166, M⟩ := ifd M
   ·refine lP1 2 50 (bvf q166 kr) (lP3 6 52 (bF q54) 50 (bvf q166 kr) 42 (bT q165) (wN (tN (cond_f rfl kr (wK (tN ?_))))))
    exact ⟨k30, (by omega), _, x18, A19, c20, F21, x23, (hdw (hdc (hdc (hdc (hdc (hdc (hdc rfl kr) kr) kr) kr) kr) kr)), b51, b13, h22, S148, M⟩
   refine lP2 8 50 (bvt q166 kr) 42 (bT q165) (wN (tN (cond_t rfl kr (wQ (wR (lP 1 (lV 60 (e_loadS (b := g12) (off := 0) (cs := [.slice A7 x6.name.length c8, .int .i64 x6.pri, .int .i64 x6.typ]) underlying86 rfl kr kr (blk_cells b13 rfl)) ?_)))))))
   refine lW 61 (new_blk (v := fun g_ => .slice (some ⟨g_, 0, none⟩) 1 1) (cs := #[.slice A7 x6.name.length c8, .int .i64 x6.pri, .int .i64 x6.typ]) (t := 86) S148 kr) ?_
   rintro _ w167 ⟨g168, rfl, b169, S170, K171⟩
   replace b51 := K171.b 0 b51
   replace b13 := K171.b 1 b13
   replace h22 := h22.move (K171.a 2)
   obtain ⟨q172, M⟩ := chk M
   have S173 := S170.pulls [F21, (is g168), (is g46), (is g12)] [3] rfl
   have S174 := S173.unit
   have S175 := S174.pulls [F21, no, (is g168), (is g46), (is g12)] [1] rfl
   refine lW 62 (e_append (d := (ro st86)) (n := x18.length) (xs := x18) (cap := c20) (A := A19) (ys := [x6]) (A2 := (some ⟨g168, 0, none⟩)) (c2 := 1) (z := .agg #[.slice none 0 0, .int .i64 0, .int .i64 0]) (bytes := 40) S175 underlying48 kr rfl (by decide) kr rfl kr h22 (elsO_one1 (st86_mkR (x := x6) l10 h9)) (.inr (blk_news b169 rfl)) (show (x18.length + [x6].length) * 40 ≤ _ by first | omega | (simp only [List.length_cons, List.length_nil]; omega)) (by decide)) ?_
   rintro _ w176 ⟨A177, c178, F179, rfl, h180, S181, K182⟩
   replace b51 := K182.b 1 b51
   replace b13 := K182.b 2 b13
   refine lP 1 (wN (tN (wR (lP 1 (wN (tN ?_))))))
   have S184 := S181.pulls [(is g46), (is g12), F179, (is g168)] [3, 3] rfl
   have S185 := St.first (Fa := [(is g46), (is g12), F179]) (Fr := [(is g168)]) S184
   exact ⟨k30, (by omega), _, (x18 ++ [x6]), A177, c178, F179, true, (hdw (hdc (hdc (hdc (hdc (hdc (hdc rfl kr) kr) kr) kr) kr) kr)), b51, b13, h180, S185, M⟩
  clear M
  rintro a162 w151 ⟨k164, z204, f152, x153, A154, c155, F156, x158, rfl, b51, b13, h157, S159, M⟩
  rcases k164 with _ | k163
  ·rw [spec_l3put.l2] at M
   cases M
  rw [spec_l3put.l2] at M
  refine wR (lP 1 (lV 64 (e_loadS (b := g46) (off := 0) (cs := [.slice A41 ((x1.getD ((x24).toNat) z86).name).length c42, .int .i64 ((x1.getD ((x24).toNat) z86).pri), .int .i64 ((x1.getD ((x24).toNat) z86).typ)]) underlying86 rfl kr kr (blk_cells b51 rfl)) ?_))
  refine lW 65 (new_blk (v := fun g_ => .slice (some ⟨g_, 0, none⟩) 1 1) (cs := #[.slice A41 ((x1.getD ((x24).toNat) z86).name).length c42, .int .i64 ((x1.getD ((x24).toNat) z86).pri), .int .i64 ((x1.getD ((x24).toNat) z86).typ)]) (t := 86) S159 kr) ?_
  rintro _ w186 ⟨g187, rfl, b188, S189, K190⟩
  replace b13 := K190.b 1 b13
  replace h157 := h157.move (K190.a 2)
  obtain ⟨q191, M⟩ := chk M
  have S192 := S189.pulls [F156, (is g187), (is g46), (is g12)] [3] rfl
  have S193 := S192.unit
  have S194 := S193.pulls [F156, no, (is g187), (is g46), (is g12)] [1] rfl
  refine lW 66 (e_append (d := (ro st86)) (n := x153.length) (xs := x153) (cap := c155) (A := A154) (ys := [(x1.getD ((x24).toNat) z86)]) (A2 := (some ⟨g187, 0, none⟩)) (c2 := 1) (z := .agg #[.slice none 0 0, .int .i64 0, .int .i64 0]) (bytes := 40) S194 underlying48 kr rfl (by decide) kr rfl kr h157 (elsO_one1 (st86_mkR (x := (x1.getD ((x24).toNat) z86)) l43 h44)) (.inr (blk_news b188 rfl)) (show (x153.length + [(x1.getD ((x24).toNat) z86)].length) * 40 ≤ _ by first | omega | (simp only [List.length_cons, List.length_nil]; omega)) (by decide)) ?_
  rintro _ w195 ⟨A196, c197, F198, rfl, h199, S200, K201⟩
  replace b13 := K201.b 2 b13
  refine lP 1 (wN (inb_n (tN (wR (lP 3 (wN (tN ?_)))))))
  have S202 := S200.pulls [(is g12), F198, (is g187), (is g46)] [3] rfl
  have S203 := St.first (Fa := [(is g12), F198]) (Fr := [(is g187), (is g46)]) S202
  exact ⟨k163, (by omega), _, (x153 ++ [(x1.getD ((x24).toNat) z86)]), A196, c197, F198, x158, (i64.wrap (x24 + 1)), (hdw (hdc (hdc (hdc (hdc (hdc rfl kr) kr) kr) kr) kr)), b13, h199, S203, M⟩
 refine qG 32 31 (bT q54) (fun wq_ hq_ => eD g46 0 2 1 underlying86) (qG 33 31 (bT q54) (fun wq_ hq_ => eB 2 ((S52.still hq_).2.blk 0 rfl b51)) ?_)
 obtain ⟨t55, u56, M⟩ := bnd M
 refine qcallg (v := .bool t55) (d := 34) (t := 31) rfl kr rfl (bT q54) rfl kr (fun w_ => eE func75) (fun wq_ hq_ => (by obtain ⟨S_, K_⟩ := S52.still hq_; replace b51 := K_.b 0 b51; replace b13 := K_.b 1 b13; replace h22 := h22.move (K_.a 2); exact (spec_l3prefix.calls  S_.own0 u56))) (qG 35 31 (bT q54) (fun wq_ hq_ => eD g12 0 2 1 underlying86) (qG 36 31 (bT q54) (fun wq_ hq_ => eB 2 ((S52.still hq_).2.blk 1 rfl b13)) ?_))
 obtain ⟨t57, u58, M⟩ := bnd M
 refine qcallg (v := .bool t57) (d := 37) (t := 31) rfl kr rfl (bT q54) rfl kr (fun w_ => eE func75) (fun wq_ hq_ => (by obtain ⟨S_, K_⟩ := S52.still hq_; replace b51 := K_.b 0 b51; replace b13 := K_.b 1 b13; replace h22 := h22.move (K_.a 2); exact (spec_l3prefix.calls  S_.own0 u58))) (qG 38 31 (bT q54) (fun wq_ hq_ => e_beql (p := t55) (q := t57) underlying4 kr kr) (qV 39 (fun wq_ hq_ => eT (.bool (decide (t55 = t57))) (bT q54)) ?_))
 refine wpQuiet_nil ?_
 intro w59 C62
 obtain ⟨S60, K61⟩ := S52.still C62
 replace b51 := K61.b 0 b51
 replace b13 := K61.b 1 b13
 replace h22 := h22.move (K61.a 2)
 refine tN ?_
 obtain ⟨q63, M⟩ | ⟨q63, M⟩ := ifc M
 ·refine cT (bT q63) (wp_exit (tE (inb_hit (tN (wR (lP 3 (wN (tN ?_))))))))
  have S65 := S60.pulls [(is g12), F21, (is g46)] [2, 2] rfl
  have S66 := St.first (Fa := [(is g12), F21]) (Fr := [(is g46)]) S65
  exact ⟨k30, (by omega), _, x18, A19, c20, F21, x23, (i64.wrap (x24 + 1)), (hdw (hdc (hdc (hdc (hdc (hdc rfl kr) kr) kr) kr) kr)), b13, h22, S66, M⟩
 refine cF (bF q63) (wK (tN ?_))
 refine wp_seq_cut (fun a78 w67 => ∃ (k80 : Nat), k80 ≤ k30 ∧ ∃ (f68 : Nat → Value) (x69 : List Sy.Op) (A70 : Option Addr) (c71 : Nat) (F72 : Foot) (x74 : Bool), a78 = mk 74 (upd (upd (upd (upd (upd (upd f68 0 (.slice A2 x1.length c3)) 3 (.pointer (some ⟨g12, 0, none⟩))) 5 (.slice A70 x69.length c71)) 6 (.bool x74)) 7 (.int .i64 x24)) 8 (.pointer (some ⟨g46, 0, none⟩))) ∧ w67.heap[g46]? = some (.cells #[.slice A41 ((x1.getD ((x24).toNat) z86).name).length c42, .int .i64 ((x1.getD ((x24).toNat) z86).pri), .int .i64 ((x1.getD ((x24).toNat) z86).typ)] 86 (0, 0)) ∧ w67.heap[g12]? = some (.cells #[.slice A7 x6.name.length c8, .int .i64 x6.pri, .int .i64 x6.typ] 86 (0, 0)) ∧ Row (ro st86) 86 H (hp w67) F72 A70 c71 x69 ∧ St (anyOf []) H w [(is g46), (is g12), F72] H w67 ∧ spec_l3put.l1 k80 x1 x6 x24 x69 x74 = some r) ?_ ?_
 ·refine wQ (wR (lP 1 (lV 41 (e_notv (c := x23) kr) (lP 1 ?_))))
  obtain ⟨q81, M⟩ | ⟨q81, M⟩ := ifd M
  ·refine lP1 16 42 (bF q81) (wN (tN (cond_f rfl kr (wK (tN ?_)))))
   exact ⟨k30, (by omega), _, x18, A19, c20, F21, x23, (hdw (hdc (hdc (hdc (hdc (hdc (hdc rfl kr) kr) kr) kr) kr) kr)), b51, b13, h22, S60, M⟩
  refine lP1 1 42 (bT q81) (lG 44 42 (bT q81) (eB 0 b51) (lG 45 42 (bT q81) (e_conv_bs (A := A41) (n := ((x1.getD ((x24).toNat) z86).name).length) (c := c42) (xs := (x1.getD ((x24).toNat) z86).name) underlying22 underlying5 underlying9 kr rfl (Rd.bytesE S60.inv h44)) (lP1 1 42 (bT q81) (lG 47 42 (bT q81) (eB 0 b13) (lG 48 42 (bT q81) (e_conv_bs (A := A7) (n := x6.name.length) (c := c8) (xs := x6.name) underlying22 underlying5 underlying9 kr rfl (Rd.bytesE S60.inv h9)) (lG 49 42 (bT q81) (e_sgtr (p := (x1.getD ((x24).toNat) z86).name) (q := x6.name) kr kr) (lP1 1 42 (bT q81) ?_)))))))
  obtain ⟨q82, M⟩ | ⟨q82, M⟩ := ifc M
  ·refine lP2 8 50 (bvt q82 kr) 42 (bT q81) (wN (tN (cond_t rfl kr (wQ (wR (lP 1 (lV 60 (e_loadS (b := g12) (off := 0) (cs := [.slice A7 x6.name.length c8, .int .i64 x6.pri, .int .i64 x6.typ]) underlying86 rfl kr kr (blk_cells b13 rfl)) ?_)))))))
   refine lW 61 (new_blk (v := fun g_ => .slice (some ⟨g_, 0, none⟩) 1 1) (cs := #[.slice A7 x6.name.length c8, .int .i64 x6.pri, .int .i64 x6.typ]) (t := 86) S60 kr) ?_
   rintro _ w83 ⟨g84, rfl, b85, S86, K87⟩
   replace b51 := K87.b 0 b51
   replace b13 := K87.b 1 b13
   replace h22 := h22.move (K87.a 2)
   obtain ⟨q88, M⟩ := chk M
   have S89 := S86.pulls [F21, (is g84), (is g46), (is g12)] [3] rfl
   have S90 := S89.unit
   have S91 := S90.pulls [F21, no, (is g84), (is g46), (is g12)] [1] rfl
   refine lW 62 (e_append (d := (ro st86)) (n := x18.length) (xs := x18) (cap := c20) (A := A19) (ys := [x6]) (A2 := (some ⟨g84, 0, none⟩)) (c2 := 1) (z := .agg #[.slice none 0 0, .int .i64 0, .int .i64 0]) (bytes := 40) S91 underlying48 kr rfl (by decide) kr rfl kr h22 (elsO_one1 (st86_mkR (x := x6) l10 h9)) (.inr (blk_news b85 rfl)) (show (x18.length + [x6].length) * 40 ≤ _ by first | omega | (simp only [List.length_cons, List.length_nil]; omega)) (by decide)) ?_
   rintro _ w92 ⟨A93, c94, F95, rfl, h96, S97, K98⟩
   replace b51 := K98.b 1 b51
   replace b13 := K98.b 2 b13
   refine lP 1 (wN (tN (wR (lP 1 (wN (tN ?_))))))
   have S100 := S97.pulls [(is g46), (is g12), F95, (is g84)] [3, 3] rfl
   have S101 := St.first (Fa := [(is g46), (is g12), F95]) (Fr := [(is g84)]) S100
   exact ⟨k30, (by omega), _, (x18 ++ [x6]), A93, c94, F95, true, (hdw (hdc (hdc (hdc (hdc (hdc (hdc rfl kr) kr) kr) kr) kr) kr)), b51, b13, h96, S101, M⟩
  refine lP1 2 50 (bvf q82 kr) (lP1 1 52 (bT q54) (lG 54 52 (bT q54) (eB 2 b13) ?_))
  obtain ⟨t102, u103, M⟩ := bnd M
  refine lcallg (d := 55) (t := 52) rfl kr rfl (bT q54) rfl kr (eE func75) (spec_l3prefix.calls  S60.own0 u103) ?_
  rintro _ w104 ⟨rfl, C105⟩
  refine ⟨_, rfl, ?_⟩
  obtain ⟨S106, K107⟩ := S60.still C105
  replace b51 := K107.b 0 b51
  replace b13 := K107.b 1 b13
  replace h22 := h22.move (K107.a 2)
  refine lP3 3 50 (bvf q82 kr) 52 (bT q54) 42 (bT q81) (wN (tN ?_))
  obtain ⟨q108, M⟩ | ⟨q108, M⟩ := ifd M
  ·refine cF (bvf q108 kr) (wK (tN ?_))
   exact ⟨k30, (by omega), _, x18, A19, c20, F21, x23, (hdw (hdc (hdc (hdc (hdc (hdc (hdc rfl kr) kr) kr) kr) kr) kr)), b51, b13, h22, S106, M⟩
  refine cT (bvt q108 kr) (wQ (wR (lP 1 (lV 60 (e_loadS (b := g12) (off := 0) (cs := [.slice A7 x6.name.length c8, .int .i64 x6.pri, .int .i64 x6.typ]) underlying86 rfl kr kr (blk_cells b13 rfl)) ?_))))
  refine lW 61 (new_blk (v := fun g_ => .slice (some ⟨g_, 0, none⟩) 1 1) (cs := #[.slice A7 x6.name.length c8, .int .i64 x6.pri, .int .i64 x6.typ]) (t := 86) S106 kr) ?_
  rintro _ w109 ⟨g110, rfl, b111, S112, K113⟩
  replace b51 := K113.b 0 b51
  replace b13 := K113.b 1 b13
  replace h22 := h22.move (K113.a 2)
  obtain ⟨q114, M⟩ := chk M
  have S115 := S112.pulls [F21, (is g110), (is g46), (is g12)] [3] rfl
  have S116 := S115.unit
  have S117 := S116.pulls [F21, no, (is g110), (is g46), (is g12)] [1] rfl
  refine lW 62 (e_append (d := (ro st86)) (n := x18.length) (xs := x18) (cap := c20) (A := A19) (ys := [x6]) (A2 := (some ⟨g110, 0, none⟩)) (c2 := 1) (z := .agg #[.slice none 0 0, .int .i64 0, .int .i64 0]) (bytes := 40) S117 underlying48 kr rfl (by decide) kr rfl kr h22 (elsO_one1 (st86_mkR (x := x6) l10 h9)) (.inr (blk_news b111 rfl)) (show (x18.length + [x6].length) * 40 ≤ _ by first | omega | (simp only [List.length_cons, List.length_nil]; omega)) (by decide)) ?_
  rintro _ w118 ⟨A119, c120, F121, rfl, h122, S123, K124⟩
  replace b51 := K124.b 1 b51
  replace b13 := K124.b 2 b13
  refine lP 1 (wN (tN (wR (lP 1 (wN (tN ?_))))))
  have S126 := S123.pulls [(is g46), (is g12), F121, (is g110)] [3, 3] rfl
  have S127 := St.first (Fa := [(is g46), (is g12), F121]) (Fr := [(is g110)]) S126
  exact ⟨k30, (by omega), _, (x18 ++ [x6]), A119, c120, F121, true, (hdw (hdc (hdc (hdc (hdc (hdc (hdc rfl kr) kr) kr) kr) kr) kr)), b51, b13, h122, S127, M⟩
 clear M
 rintro a78 w67 ⟨k80, z146, f68, x69, A70, c71, F72, x74, rfl, b51, b13, h73, S75, M⟩
 rcases k80 with _ | k79
 ·rw [spec_l3put.l1] at M
  cases M
 rw [spec_l3put.l1] at M
 refine wR (lP 1 (lV 64 (e_loadS (b := g46) (off := 0) (cs := [.slice A41 ((x1.getD ((x24).toNat) z86).name).length c42, .int .i64 ((x1.getD ((x24).toNat) z86).pri), .int .i64 ((x1.getD ((x24).toNat) z86).typ)]) underlying86 rfl kr kr (blk_cells b51 rfl)) ?_))
 refine lW 65 (new_blk (v := fun g_ => .slice (some ⟨g_, 0, none⟩) 1 1) (cs := #[.slice A41 ((x1.getD ((x24).toNat) z86).name).length c42, .int .i64 ((x1.getD ((x24).toNat) z86).pri), .int .i64 ((x1.getD ((x24).toNat) z86).typ)]) (t := 86) S75 kr) ?_
 rintro _ w128 ⟨g129, rfl, b130, S131, K132⟩
 replace b13 := K132.b 1 b13
 replace h73 := h73.move (K132.a 2)
 obtain ⟨q133, M⟩ := chk M
 have S134 := S131.pulls [F72, (is g129), (is g46), (is g12)] [3] rfl
 have S135 := S134.unit
 have S136 := S135.pulls [F72, no, (is g129), (is g46), (is g12)] [1] rfl
 refine lW 66 (e_append (d := (ro st86)) (n := x69.length) (xs := x69) (cap := c71) (A := A70) (ys := [(x1.getD ((x24).toNat) z86)]) (A2 := (some ⟨g129, 0, none⟩)) (c2 := 1) (z := .agg #[.slice none 0 0, .int .i64 0, .int .i64 0]) (bytes := 40) S136 underlying48 kr rfl (by decide) kr rfl kr h73 (elsO_one1 (st86_mkR (x := (x1.getD ((x24).toNat) z86)) l43 h44)) (.inr (blk_news b130 rfl)) (show (x69.length + [(x1.getD ((x24).toNat) z86)].length) * 40 ≤ _ by first | omega | (simp only [List.length_cons, List.length_nil]; omega)) (by decide)) ?_
 rintro _ w137 ⟨A138, c139, F140, rfl, h141, S142, K143⟩
 replace b13 := K143.b 2 b13
 refine lP 1 (wN (inb_n (tN (wR (lP 3 (wN (tN ?_)))))))
 have S144 := S142.pulls [(is g12), F140, (is g129), (is g46)] [3] rfl
 have S145 := St.first (Fa := [(is g12), F140]) (Fr := [(is g129), (is g46)]) S144
 exact ⟨k79, (by omega), _, (x69 ++ [(x1.getD ((x24).toNat) z86)]), A138, c139, F140, x74, (i64.wrap (x24 + 1)), (hdw (hdc (hdc (hdc (hdc (hdc rfl kr) kr) kr) kr) kr)), b13, h141, S145, M⟩
def Lt6 : List (List UInt8) := [([58, 45, 32, 45, 45, 62] : List UInt8), ([58, 45, 32, 63, 45] : List UInt8), ([100, 121, 110, 97, 109, 105, 99] : List UInt8), ([59] : List UInt8), ([45, 62] : List UInt8), ([44] : List UInt8), ([92, 43] : List UInt8), ([61, 32, 92, 61, 32, 61, 61, 32, 92, 61, 61, 32, 64, 60, 32, 64, 61, 60, 32, 64, 62, 32, 64, 62, 61, 32, 61, 46, 46, 32, 105, 115, 32, 61, 58, 61, 32, 61, 92, 61, 32, 60, 32, 61, 60, 32, 62, 32, 62, 61] : List UInt8), ([43, 32, 45, 32, 47, 92, 32, 92, 47, 32, 120, 111, 114] : List UInt8), ([42, 32, 47, 32, 47, 47, 32, 109, 111, 100, 32, 114, 101, 109, 32, 60, 60, 32, 62, 62] : List UInt8), ([42, 42] : List UInt8), ([94] : List UInt8), ([45, 32, 43, 32, 92] : List UInt8)]
mutual
def spec_DefaultOps.l0 : Nat → (List Sy.Op) → Int → Option (List Sy.Op)
 | 0, _, _ => none
 | k43 + 1, x32, x37 => (if x37 < (13 : Int) then (if 0 ≤ x37 then ((spec_l3words.f k43 (Lt6.getD ((x37).toNat) ([] : List UInt8))).bind fun t53 => (spec_DefaultOps.l1 k43 x37 t53 x32 0)) else none) else some x32)
def spec_DefaultOps.l1 : Nat → Int → (List (List UInt8)) → (List Sy.Op) → Int → Option (List Sy.Op)
 | 0, _, _, _, _ => none
 | k80 + 1, x37, t53, x69, x74 => (if x74 < (t53.length : Int) then (if 0 ≤ x74 then (if (t53.getD ((x74).toNat) ([] : List UInt8)).length ≤ 9223372036854775807 then ((spec_l3put.f k80 x69 (⟨(t53.getD ((x74).toNat) ([] : List UInt8)), ([1200, 1200, 1150, 1100, 1050, 1000, 900, 700, 500, 400, 200, 200, 200].getD ((x37).toNat) (0 : Int)), ([0, 4, 4, 1, 1, 1, 3, 0, 2, 2, 0, 1, 3].getD ((x37).toNat) (0 : Int))⟩ : Sy.Op)).bind fun t151 => (spec_DefaultOps.l1 k80 x37 t53 t151 (i64.wrap (x74 + 1)))) else none) else none) else (spec_DefaultOps.l0 k80 x69 (i64.wrap (x37 + 1))))
end
def spec_DefaultOps.f (k : Nat) : Option (List Sy.Op) := (spec_DefaultOps.l0 k [] 0)
theorem spec_DefaultOps.calls {k : Nat} {w : World} {H : Hp} (S : Own [] H w) {r : List Sy.Op} (M : spec_DefaultOps.f k = some r) :
  Calls Tryz.prog 26 #[] w (fun e e_w => ∃ (A_1 : Option Addr) (c_1 : Nat) (F_1 : Foot) (H_ : Hp), e = .returned (.slice A_1 r.length c_1) ∧ Row (ro st86) 86 H_ (hp e_w) F_1 A_1 c_1 r ∧ St (anyOf []) H w [F_1] H_ e_w) := by
 rw [spec_DefaultOps.f] at M
 refine enter (l := []) 45 func26 rfl rfl rfl ?_
 have S0_ := S.st
 refine wQ (wR (lP 1 (wN (tN (wQ (wR ?_))))))
 refine lW 8 (new_blk (v := fun g_ => .slice (some ⟨g_, 0, none⟩) 13 13) (cs := #[str ([58, 45, 32, 45, 45, 62] : List UInt8), str ([58, 45, 32, 63, 45] : List UInt8), str ([100, 121, 110, 97, 109, 105, 99] : List UInt8), str ([59] : List UInt8), str ([45, 62] : List UInt8), str ([44] : List UInt8), str ([92, 43] : List UInt8), str ([61, 32, 92, 61, 32, 61, 61, 32, 92, 61, 61, 32, 64, 60, 32, 64, 61, 60, 32, 64, 62, 32, 64, 62, 61, 32, 61, 46, 46, 32, 105, 115, 32, 61, 58, 61, 32, 61, 92, 61, 32, 60, 32, 61, 60, 32, 62, 32, 62, 61] : List UInt8), str ([43, 32, 45, 32, 47, 92, 32, 92, 47, 32, 120, 111, 114] : List UInt8), str ([42, 32, 47, 32, 47, 47, 32, 109, 111, 100, 32, 114, 101, 109, 32, 60, 60, 32, 62, 62] : List UInt8), str ([42, 42] : List UInt8), str ([94] : List UInt8), str ([45, 32, 43, 32, 92] : List UInt8)]) (t := 9) S0_ kr) ?_
 rintro _ w1 ⟨g2, rfl, b3, S4, K5⟩
 have S6 := S4.unit
 have S7 := S6.pulls [(is g2), no] [1] rfl
 obtain ⟨h8, S9⟩ := row_lit (d := tStr) (xs := Lt6) S7 b3 rfl (elsO_no (d := tStr) rfl (elsO_no (d := tStr) rfl (elsO_no (d := tStr) rfl (elsO_no (d := tStr) rfl (elsO_no (d := tStr) rfl (elsO_no (d := tStr) rfl (elsO_no (d := tStr) rfl (elsO_no (d := tStr) rfl (elsO_no (d := tStr) rfl (elsO_no (d := tStr) rfl (elsO_no (d := tStr) rfl (elsO_no (d := tStr) rfl (elsO_no (d := tStr) rfl (elsO_nil _ _ _ no)))))))))))))) (Nat.le_of_ble_eq_true rfl)
 refine lP 1 (wN (tN (wQ (wR ?_))))
 refine lW 9 (new_blk (v := fun g_ => .slice (some ⟨g_, 0, none⟩) 13 13) (cs := #[.int .i64 1200, .int .i64 1200, .int .i64 1150, .int .i64 1100, .int .i64 1050, .int .i64 1000, .int .i64 900, .int .i64 700, .int .i64 500, .int .i64 400, .int .i64 200, .int .i64 200, .int .i64 200]) (t := 3) S9 kr) ?_
 rintro _ w10 ⟨g11, rfl, b12, S13, K14⟩
 replace h8 := h8.move (K14.a 0)
 have S15 := S13.unit
 have S16 := S15.pulls [(is g11), no, (or2 (is g2) no)] [1] rfl
 obtain ⟨h17, S18⟩ := row_lit (d := tInt) (xs := [1200, 1200, 1150, 1100, 1050, 1000, 900, 700, 500, 400, 200, 200, 200]) S16 b12 rfl (elsO_no (d := tInt) rfl (elsO_no (d := tInt) rfl (elsO_no (d := tInt) rfl (elsO_no (d := tInt) rfl (elsO_no (d := tInt) rfl (elsO_no (d := tInt) rfl (elsO_no (d := tInt) rfl (elsO_no (d := tInt) rfl (elsO_no (d := tInt) rfl (elsO_no (d := tInt) rfl (elsO_no (d := tInt) rfl (elsO_no (d := tInt) rfl (elsO_no (d := tInt) rfl (elsO_nil _ _ _ no)))))))))))))) (Nat.le_of_ble_eq_true rfl)
 refine lP 1 (wN (tN (wQ (wR ?_))))
 refine lW 10 (new_blk (v := fun g_ => .slice (some ⟨g_, 0, none⟩) 13 13) (cs := #[.int .i64 0, .int .i64 4, .int .i64 4, .int .i64 1, .int .i64 1, .int .i64 1, .int .i64 3, .int .i64 0, .int .i64 2, .int .i64 2, .int .i64 0, .int .i64 1, .int .i64 3]) (t := 3) S18 kr) ?_
 rintro _ w19 ⟨g20, rfl, b21, S22, K23⟩
 replace h17 := h17.move (K23.a 0)
 replace h8 := h8.move (K23.a 1)
 have S24 := S22.unit
 have S25 := S24.pulls [(is g20), no, (or2 (is g11) no), (or2 (is g2) no)] [1] rfl
 obtain ⟨h26, S27⟩ := row_lit (d := tInt) (xs := [0, 4, 4, 1, 1, 1, 3, 0, 2, 2, 0, 1, 3]) S25 b21 rfl (elsO_no (d := tInt) rfl (elsO_no (d := tInt) rfl (elsO_no (d := tInt) rfl (elsO_no (d := tInt) rfl (elsO_no (d := tInt) rfl (elsO_no (d := tInt) rfl (elsO_no (d := tInt) rfl (elsO_no (d := tInt) rfl (elsO_no (d := tInt) rfl (elsO_no (d := tInt) rfl (elsO_no (d := tInt) rfl (elsO_no (d := tInt) rfl (elsO_no (d := tInt) rfl (elsO_nil _ _ _ no)))))))))))))) (Nat.le_of_ble_eq_true rfl)
 refine lP 1 (wN (tN (wQ (wR (lP 1 (wN (tN (wQ (wQ (wR (lP 1 (wN (tN (wp_block ?_))))))))))))))
 have S44 := S27.unit
 have S47 := S44.pulls [(or2 (is g20) no), (or2 (is g11) no), (or2 (is g2) no), no] [3, 3, 3] rfl
 refine wp_loop_g (fun k41 a42 w28 => ∃ (f29 : Nat → Value) (H30 : Hp) (x32 : List Sy.Op) (A33 : Option Addr) (c34 : Nat) (F35 : Foot) (x37 : Int), a42 = mk 45 (upd (upd (upd (upd (upd f29 1 (.slice (some ⟨g2, 0, none⟩) 13 13)) 2 (.slice (some ⟨g11, 0, none⟩) 13 13)) 3 (.slice (some ⟨g20, 0, none⟩) 13 13)) 4 (.slice A33 x32.length c34)) 5 (.int .i64 x37)) ∧ Row tInt 3 H30 (hp w28) (or2 (is g20) no) (some ⟨g20, 0, none⟩) 13 [0, 4, 4, 1, 1, 1, 3, 0, 2, 2, 0, 1, 3] ∧ Row tInt 3 H30 (hp w28) (or2 (is g11) no) (some ⟨g11, 0, none⟩) 13 [1200, 1200, 1150, 1100, 1050, 1000, 900, 700, 500, 400, 200, 200, 200] ∧ Row tStr 9 H30 (hp w28) (or2 (is g2) no) (some ⟨g2, 0, none⟩) 13 Lt6 ∧ Row (ro st86) 86 H30 (hp w28) F35 A33 c34 x32 ∧ Ext H H30 ∧ St (anyOf []) H w [(or2 (is g20) no), (or2 (is g11) no), (or2 (is g2) no), F35] H30 w28 ∧ spec_DefaultOps.l0 k41 x32 x37 = some r) k ⟨_, H, [], none, 0, no, 0, (hdw (hdc (hdc (hdc (hdc (hdc rfl kr) kr) kr) kr) kr)), h26, h17, h8, (Row.nil _ _ _ _ _), (Ext.refl _), S47, M⟩ ?_
 clear M
 rintro k41 a42 w28 ⟨f29, H30, x32, A33, c34, F35, x37, rfl, h26, h17, h8, h36, Y31, S38, M⟩
 rcases k41 with _ | k43
 ·rw [spec_DefaultOps.l0] at M
  cases M
 rw [spec_DefaultOps.l0] at M
 refine wQ (wQ (wR (lP 4 (wN (tN ?_)))))
 obtain ⟨q48, M⟩ | ⟨q48, M⟩ := ifd M
 ·refine cF (bF q48) (wp_exit (tE (tE (inb_hit (tN (wQ (wR (lP 2 (wN (tN (wT ?_)))))))))))
  obtain rfl := sj M
  have S176 := S38.pulls [F35, (or2 (is g20) no), (or2 (is g11) no), (or2 (is g2) no)] [3] rfl
  have S177 := St.first (Fa := [F35]) (Fr := [(or2 (is g20) no), (or2 (is g11) no), (or2 (is g2) no)]) S176
  exact ret1 rfl rfl  kr ⟨A33, c34, F35, H30, rfl, h36, S177⟩
 refine cT (bT q48) (wK (tN (wQ (wp_block (wQ (wR (lP 2 ?_)))))))
 obtain ⟨q49, M⟩ := chk M
 obtain ⟨b50, e52⟩ := Row.addr h8 (show (x37).toNat < Lt6.length by have : Lt6.length = 13 := rfl; omega)
 refine lV 19 (eI b50 0 13 13 1 x37 .i64 underlying66 e52 q49 q48) (lV 20 (eK underlying9 (hpx (Row.pick (j := 0) (u := str (Lt6.getD ((x37).toNat) ([] : List UInt8))) h8 e52 (getD_some ([] : List UInt8) (show (x37).toNat < Lt6.length by have : Lt6.length = 13 := rfl; omega)) (fun _ _ o_ => by rw [show _ = _ from o_]; rfl)))) ?_)
 obtain ⟨t53, u54, M⟩ := bnd M
 refine lC 21 (eE func62) (spec_l3words.calls  (St.own' (Fa := []) (Fr := [(or2 (is g20) no), (or2 (is g11) no), (or2 (is g2) no), F35]) S38) u54) ?_
 rintro _ w55 ⟨A58, c59, F61, H56, rfl, h60, T57⟩
 refine ⟨_, rfl, ?_⟩
 obtain ⟨S62, K63⟩ := St.call (Fa := []) (Fr := [(or2 (is g20) no), (or2 (is g11) no), (or2 (is g2) no), F35]) S38 T57
 replace h26 := h26.move (K63.a 0)
 replace h17 := h17.move (K63.a 1)
 replace h8 := h8.move (K63.a 2)
 replace h36 := h36.move (K63.a 3)
 have E64 := T57.ext
 replace h26 := h26.ext E64
 replace h17 := h17.ext E64
 replace h8 := h8.ext E64
 replace h36 := h36.ext E64
 refine lP 1 (wN (tN (wQ (wR (lP 1 (wN (tN ?_)))))))
 refine wp_block ?_
 refine wp_loop_g (fun k78 a79 w65 => ∃ (f66 : Nat → Value) (H67 : Hp) (x69 : List Sy.Op) (A70 : Option Addr) (c71 : Nat) (F72 : Foot) (x74 : Int), k78 ≤ k43 ∧ a79 = mk 45 (upd (upd (upd (upd (upd (upd (upd f66 1 (.slice (some ⟨g2, 0, none⟩) 13 13)) 2 (.slice (some ⟨g11, 0, none⟩) 13 13)) 3 (.slice (some ⟨g20, 0, none⟩) 13 13)) 4 (.slice A70 x69.length c71)) 5 (.int .i64 x37)) 6 (.slice A58 t53.length c59)) 7 (.int .i64 x74)) ∧ Row tStr 9 H67 (hp w65) F61 A58 c59 t53 ∧ Row tInt 3 H67 (hp w65) (or2 (is g20) no) (some ⟨g20, 0, none⟩) 13 [0, 4, 4, 1, 1, 1, 3, 0, 2, 2, 0, 1, 3] ∧ Row tInt 3 H67 (hp w65) (or2 (is g11) no) (some ⟨g11, 0, none⟩) 13 [1200, 1200, 1150, 1100, 1050, 1000, 900, 700, 500, 400, 200, 200, 200] ∧ Row tStr 9 H67 (hp w65) (or2 (is g2) no) (some ⟨g2, 0, none⟩) 13 Lt6 ∧ Row (ro st86) 86 H67 (hp w65) F72 A70 c71 x69 ∧ Ext H56 H67 ∧ St (anyOf []) H w [F61, (or2 (is g20) no), (or2 (is g11) no), (or2 (is g2) no), F72] H67 w65 ∧ spec_DefaultOps.l1 k78 x37 t53 x69 x74 = some r) k43 ⟨_, H56, x32, A33, c34, F35, 0, (by omega), (hdw (hdc (hdc (hdc (hdc (hdc (hdc (hdc rfl kr) kr) kr) kr) kr) kr) kr)), h60, h26, h17, h8, h36, (Ext.refl _), S62, M⟩ ?_
 clear M
 rintro k78 a79 w65 ⟨f66, H67, x69, A70, c71, F72, x74, z77, rfl, h60, h26, h17, h8, h73, Y68, S75, M⟩
 rcases k78 with _ | k80
 ·rw [spec_DefaultOps.l1] at M
  cases M
 rw [spec_DefaultOps.l1] at M
 refine wQ (wQ (wR (lP 4 (wN (tN ?_)))))
 obtain ⟨q81, M⟩ | ⟨q81, M⟩ := ifd M
 ·refine cF (bF q81) (wp_exit (tE (tE (inb_hit (inb_n (tN (wR (lP 3 (wN (tN ?_))))))))))
  have S174 := S75.pulls [(or2 (is g20) no), (or2 (is g11) no), (or2 (is g2) no), F72, F61] [4, 4, 4, 4] rfl
  have S175 := St.first (Fa := [(or2 (is g20) no), (or2 (is g11) no), (or2 (is g2) no), F72]) (Fr := [F61]) S174
  exact ⟨k80, (by omega), _, H67, x69, A70, c71, F72, (i64.wrap (x37 + 1)), (hdw (hdc (hdc (hdc (hdc (hdc rfl kr) kr) kr) kr) kr)), h26, h17, h8, h73, ((Y31.trans E64).trans Y68), S175, M⟩
 refine cT (bT q81) (wK (tN (wQ (wp_block ?_))))
 refine region_mix (S := (fun (L_ : Array Bool) (w_ : World) => Ext H67 (hp w_) ∧ (∀ b_, F61 b_ → hp w_ b_ = hp w65 b_) ∧ (∀ b_, (or2 (is g20) no) b_ → hp w_ b_ = hp w65 b_) ∧ (∀ b_, (or2 (is g11) no) b_ → hp w_ b_ = hp w65 b_))) kr S75 ?_
 intro w82 S83 K84 hc85
 have o86 := h60
 have o87 := h26
 have o88 := h17
 have hs89 : (fun (L_ : Array Bool) (w_ : World) => Ext H67 (hp w_) ∧ (∀ b_, F61 b_ → hp w_ b_ = hp w65 b_) ∧ (∀ b_, (or2 (is g20) no) b_ → hp w_ b_ = hp w65 b_) ∧ (∀ b_, (or2 (is g11) no) b_ → hp w_ b_ = hp w65 b_)) (Array.replicate 17 false) w82 := ⟨S83.inv, (fun b_ h_ => K84.at 0 rfl b_ h_), (fun b_ h_ => K84.at 1 rfl b_ h_), (fun b_ h_ => K84.at 2 rfl b_ h_)⟩
 replace h60 := h60.move (K84.a 0)
 replace h26 := h26.move (K84.a 1)
 replace h17 := h17.move (K84.a 2)
 replace h8 := h8.move (K84.a 3)
 replace h73 := h73.move (K84.a 4)
 refine xV 0 28 rfl hc85 hs89 (fun L_ w_ hc_ hu_ hs_ => eM (.slice A70 x69.length c71)) ?_; intro hc90 hs91
 refine xV 1 29 rfl hc90 hs91 (fun L_ w_ hc_ hu_ hs_ => eM (.slice A58 t53.length c59)) ?_; intro hc92 hs93
 refine xV 2 30 rfl hc92 hs93 (fun L_ w_ hc_ hu_ hs_ => eM (.int .i64 x74)) ?_; intro hc94 hs95
 obtain ⟨q96, M⟩ := chk M
 obtain ⟨b97, e99⟩ := Row.addr h60 (show (x74).toNat < t53.length by omega)
 refine xV 3 31 rfl hc94 hs95 (fun L_ w_ hc_ hu_ hs_ => eJ underlying66 e99 q96 q81) ?_; intro hc100 hs101
 refine xV 4 32 rfl hc100 hs101 (fun L_ w_ hc_ hu_ hs_ => eK underlying9 (hpx (Row.pick (j := 0) (u := str (t53.getD ((x74).toNat) ([] : List UInt8))) (o86.move hs_.2.1) e99 (getD_some ([] : List UInt8) (show (x74).toNat < t53.length by omega)) (fun _ _ o_ => by rw [show _ = _ from o_]; rfl)))) ?_; intro hc102 hs103
 refine xV 6 34 rfl hc102 hs103 (fun L_ w_ hc_ hu_ hs_ => eM (.slice (some ⟨g11, 0, none⟩) 13 13)) ?_; intro hc104 hs105
 refine xV 7 35 rfl hc104 hs105 (fun L_ w_ hc_ hu_ hs_ => eM (.int .i64 x37)) ?_; intro hc106 hs107
 obtain ⟨b108, e110⟩ := Row.addr h17 (show (x37).toNat < [1200, 1200, 1150, 1100, 1050, 1000, 900, 700, 500, 400, 200, 200, 200].length by have : [1200, 1200, 1150, 1100, 1050, 1000, 900, 700, 500, 400, 200, 200, 200].length = 13 := rfl; omega)
 refine xV 8 36 rfl hc106 hs107 (fun L_ w_ hc_ hu_ hs_ => eI b108 0 13 13 1 x37 .i64 underlying82 e110 q49 q48) ?_; intro hc111 hs112
 refine xV 9 37 rfl hc111 hs112 (fun L_ w_ hc_ hu_ hs_ => eK underlying3 (hpx (Row.pick (j := 0) (u := .int .i64 ([1200, 1200, 1150, 1100, 1050, 1000, 900, 700, 500, 400, 200, 200, 200].getD ((x37).toNat) (0 : Int))) (o88.move hs_.2.2.2) e110 (getD_some (0 : Int) (show (x37).toNat < [1200, 1200, 1150, 1100, 1050, 1000, 900, 700, 500, 400, 200, 200, 200].length by have : [1200, 1200, 1150, 1100, 1050, 1000, 900, 700, 500, 400, 200, 200, 200].length = 13 := rfl; omega)) (fun _ _ o_ => by rw [show _ = _ from o_]; rfl)))) ?_; intro hc113 hs114
 refine xV 10 38 rfl hc113 hs114 (fun L_ w_ hc_ hu_ hs_ => eM (.slice (some ⟨g20, 0, none⟩) 13 13)) ?_; intro hc115 hs116
 refine xV 11 39 rfl hc115 hs116 (fun L_ w_ hc_ hu_ hs_ => eM (.int .i64 x37)) ?_; intro hc117 hs118
 obtain ⟨b119, e121⟩ := Row.addr h26 (show (x37).toNat < [0, 4, 4, 1, 1, 1, 3, 0, 2, 2, 0, 1, 3].length by have : [0, 4, 4, 1, 1, 1, 3, 0, 2, 2, 0, 1, 3].length = 13 := rfl; omega)
 refine xV 12 40 rfl hc117 hs118 (fun L_ w_ hc_ hu_ hs_ => eI b119 0 13 13 1 x37 .i64 underlying82 e121 q49 q48) ?_; intro hc122 hs123
 refine xV 13 41 rfl hc122 hs123 (fun L_ w_ hc_ hu_ hs_ => eK underlying3 (hpx (Row.pick (j := 0) (u := .int .i64 ([0, 4, 4, 1, 1, 1, 3, 0, 2, 2, 0, 1, 3].getD ((x37).toNat) (0 : Int))) (o87.move hs_.2.2.1) e121 (getD_some (0 : Int) (show (x37).toNat < [0, 4, 4, 1, 1, 1, 3, 0, 2, 2, 0, 1, 3].length by have : [0, 4, 4, 1, 1, 1, 3, 0, 2, 2, 0, 1, 3].length = 13 := rfl; omega)) (fun _ _ o_ => by rw [show _ = _ from o_]; rfl)))) ?_; intro hc124 hs125
 obtain ⟨q126, M⟩ := chk M
 refine xO 5 hc124 ?_
 refine yE 5 33 rfl (e_conv_sb (xs := (t53.getD ((x74).toNat) ([] : List UInt8))) S83 underlying9 underlying22 underlying5 kr q126) ?_
 rintro hc134 _ w127 ⟨A128, c129, F130, rfl, h131, S132, K133⟩
 replace h60 := h60.move (K133.a 0)
 replace h26 := h26.move (K133.a 1)
 replace h17 := h17.move (K133.a 2)
 replace h8 := h8.move (K133.a 3)
 replace h73 := h73.move (K133.a 4)
 refine ⟨⟨S132.inv, (fun b_ h_ => (K133.at 0 rfl b_ h_).trans (hs125.2.1 b_ h_)), (fun b_ h_ => (K133.at 1 rfl b_ h_).trans (hs125.2.2.1 b_ h_)), (fun b_ h_ => (K133.at 2 rfl b_ h_).trans (hs125.2.2.2 b_ h_))⟩, fun hs135 => ?_⟩
 refine xO 14 hc134 ?_
 refine yO 14 42 rfl hs135 (show _ = Result.ok (Next.value (.agg #[.slice A128 ((t53.getD ((x74).toNat) ([] : List UInt8)).length) c129, .int .i64 ([1200, 1200, 1150, 1100, 1050, 1000, 900, 700, 500, 400, 200, 200, 200].getD ((x37).toNat) (0 : Int)), .int .i64 ([0, 4, 4, 1, 1, 1, 3, 0, 2, 2, 0, 1, 3].getD ((x37).toNat) (0 : Int))])) w127 from by kernel_rfl) ?_; intro hc136 hs137
 have l138 := h73.le
 have S139 := S132.pulls [F72, F130, F61, (or2 (is g20) no), (or2 (is g11) no), (or2 (is g2) no)] [5] rfl
 obtain ⟨H140, S141, E142, h143, z144⟩ := S139.frzRow h73
 replace h131 := h131.ext E142
 replace h60 := h60.ext E142
 replace h26 := h26.ext E142
 replace h17 := h17.ext E142
 replace h8 := h8.ext E142
 replace h143 := h143.unro
 have l145 := h131.le
 obtain ⟨H146, S147, E148, h149, z150⟩ := S141.frzRow h131
 replace h60 := h60.ext E148
 replace h26 := h26.ext E148
 replace h17 := h17.ext E148
 replace h8 := h8.ext E148
 obtain ⟨t151, u152, M⟩ := bnd M
 refine xO 15 hc136 ?_
 refine yC 15 rfl (eE func63) (spec_l3put.calls (⟨(t53.getD ((x74).toNat) ([] : List UInt8)), ([1200, 1200, 1150, 1100, 1050, 1000, 900, 700, 500, 400, 200, 200, 200].getD ((x37).toNat) (0 : Int)), ([0, 4, 4, 1, 1, 1, 3, 0, 2, 2, 0, 1, 3].getD ((x37).toNat) (0 : Int))⟩ : Sy.Op) (h143.ext E148) l138 h149 l145 (St.own' (Fa := []) (Fr := [F61, (or2 (is g20) no), (or2 (is g11) no), (or2 (is g2) no)]) S147) u152) ?_
 rintro hc160 _ w153 ⟨A156, c157, F159, H154, rfl, h158, T155⟩
 refine ⟨_, rfl, ?_⟩
 obtain ⟨S161, K162⟩ := St.call (Fa := []) (Fr := [F61, (or2 (is g20) no), (or2 (is g11) no), (or2 (is g2) no)]) S147 T155
 replace h60 := h60.move (K162.a 0)
 replace h26 := h26.move (K162.a 1)
 replace h17 := h17.move (K162.a 2)
 replace h8 := h8.move (K162.a 3)
 have E163 := T155.ext
 replace h60 := h60.ext E163
 replace h26 := h26.ext E163
 replace h17 := h17.ext E163
 replace h8 := h8.ext E163
 refine ⟨⟨(Ext.trans ((E142.trans E148).trans E163) S161.inv), (fun b_ h_ => (K162.at 0 rfl b_ h_).trans (hs137.2.1 b_ h_)), (fun b_ h_ => (K162.at 1 rfl b_ h_).trans (hs137.2.2.1 b_ h_)), (fun b_ h_ => (K162.at 2 rfl b_ h_).trans (hs137.2.2.2 b_ h_))⟩, fun hs164 => ?_⟩
 refine xO 16 hc160 ?_
 refine yO 16 4 rfl hs164 (eA (.slice A156 t151.length c157)) ?_; intro hc165 hs166
 refine xn kr ?_ _
 refine inb_n (tN (wR (lP 3 (wN (tN ?_)))))
 have S170 := S161.pulls [F61, (or2 (is g20) no), (or2 (is g11) no), (or2 (is g2) no), F159] [4, 4, 4, 4] rfl
 exact ⟨k80, (by omega), _, H154, t151, A156, c157, F159, (i64.wrap (x74 + 1)), (by omega), (hdw (hdc (hdc (hdc (hdc (hdc (hdc (hdc rfl kr) kr) kr) kr) kr) kr) kr)), h60, h26, h17, h8, h158, (((Y68.trans E142).trans E148).trans E163), S170, M⟩
def spec_l3special.f (x1 : List UInt8) : Option Bool := (if x1 = ([91, 93] : List UInt8) then some true else (if x1 = ([123, 125] : List UInt8) then some true else some (decide (x1 = ([124] : List UInt8)))))
theorem spec_l3special.calls {w : World} {H : Hp} {x1 : List UInt8} {A2 : Option Addr} {c3 : Nat} (h4 : Rd tByte H A2 x1) (l5 : x1.length ≤ c3) (S : Own [] H w) {r : Bool} (M : spec_l3special.f x1 = some r) :
  Calls Tryz.prog 74 #[.slice A2 x1.length c3] w (fun e e_w => e = .returned (.bool r) ∧ Chg no w e_w) := by
 rw [spec_l3special.f] at M
 refine enter (l := [.slice A2 x1.length c3]) 16 func74 rfl rfl rfl ?_
 have S0_ := S.st
 refine wQ (wR (lP 1 (wN (tN (wQ (wR (lP 1 (lV 5 (e_conv_bs (A := A2) (n := x1.length) (c := c3) (xs := x1) underlying22 underlying5 underlying9 kr rfl (Rd.bytesE S0_.inv h4)) (lP 1 (wN (tN (wQ (wR (lP 1 (lV 7 (e_seql (p := x1) (q := ([91, 93] : List UInt8)) kr rfl) (lP 1 ?_))))))))))))))))
 obtain ⟨q6, M⟩ | ⟨q6, M⟩ := ifc M
 ·refine lP1 8 8 (bT q6) (wN (tN (wT ?_)))
  obtain rfl := sj M
  exact ret1 rfl rfl  kr ⟨rfl, S0_.chg⟩
 refine lP1 1 8 (bF q6) (lG 10 8 (bF q6) (e_seql (p := x1) (q := ([123, 125] : List UInt8)) kr rfl) (lP1 2 8 (bF q6) ?_))
 obtain ⟨q7, M⟩ | ⟨q7, M⟩ := ifc M
 ·refine lP1 4 12 (bT q7) (wN (tN (wT ?_)))
  obtain rfl := sj M
  exact ret1 rfl rfl  kr ⟨rfl, S0_.chg⟩
 refine lP1 1 12 (bF q7) (lG 14 12 (bF q7) (e_seql (p := x1) (q := ([124] : List UInt8)) kr rfl) (lP1 2 12 (bF q7) (wN (tN (wT ?_)))))
 obtain rfl := sj M
 exact ret1 rfl rfl  kr ⟨rfl, S0_.chg⟩
mutual
def spec_ValidOps.l0 : Nat → (List Sy.Op) → Int → Int → Option Bool
 | 0, _, _, _ => none
 | k16 + 1, x1, x9, x10 => (if x10 < (x1.length : Int) then (if 0 ≤ x10 then (if (((x1.getD ((x10).toNat) z86).name).length : Int) < 1 then some false else (if (((x1.getD ((x10).toNat) z86).name).length : Int) > 100 then some false else ((spec_l3special.f ((x1.getD ((x10).toNat) z86).name)).bind fun t40 => (if t40 = true then some false else (if ((x1.getD ((x10).toNat) z86).pri) < 1 then some false else (if ((x1.getD ((x10).toNat) z86).pri) > 1200 then some false else (if ((x1.getD ((x10).toNat) z86).typ) < 0 then some false else (if ((x1.getD ((x10).toNat) z86).typ) > 6 then some false else (if (x1.getD ((x10).toNat) z86).name = ([44] : List UInt8) then (if ((x1.getD ((x10).toNat) z86).pri) ≠ 1000 then some false else (if ((x1.getD ((x10).toNat) z86).typ) ≠ 1 then some false else (spec_ValidOps.l1 k16 x1 x10 (i64.wrap (x9 + 1))))) else (spec_ValidOps.l1 k16 x1 x10 x9)))))))))) else none) else some (decide (x9 = 1)))
def spec_ValidOps.l1 : Nat → (List Sy.Op) → Int → Int → Option Bool
 | 0, _, _, _ => none
 | k58 + 1, x1, x10, x53 => (if x10 = 0 then (spec_ValidOps.l0 k58 x1 x53 (i64.wrap (x10 + 1))) else (if 0 ≤ (i64.wrap (x10 - 1)) then (if (i64.wrap (x10 - 1)) < (x1.length : Int) then (if (!(Op.bytesLess ((x1.getD (((i64.wrap (x10 - 1))).toNat) z86).name) ((x1.getD ((x10).toNat) z86).name) || ((x1.getD (((i64.wrap (x10 - 1))).toNat) z86).name) == ((x1.getD ((x10).toNat) z86).name))) = true then some false else (if (x1.getD (((i64.wrap (x10 - 1))).toNat) z86).name = (x1.getD ((x10).toNat) z86).name then ((spec_l3prefix.f ((x1.getD (((i64.wrap (x10 - 1))).toNat) z86).typ)).bind fun t88 => (if ¬ (t88 = true) then some false else ((spec_l3prefix.f ((x1.getD ((x10).toNat) z86).typ)).bind fun t95 => (if t95 = true then some false else (spec_ValidOps.l0 k58 x1 x53 (i64.wrap (x10 + 1))))))) else (spec_ValidOps.l0 k58 x1 x53 (i64.wrap (x10 + 1))))) else none) else none))
end
def spec_ValidOps.f (k : Nat) (x1 : List Sy.Op) : Option Bool := (if (x1.length : Int) > 200 then some false else (spec_ValidOps.l0 k x1 0 0))
theorem spec_ValidOps.calls {k : Nat} {w : World} {H : Hp} {x1 : List Sy.Op} {A2 : Option Addr} {c3 : Nat} (h4 : Rd st86 H A2 x1) (l5 : x1.length ≤ c3) (S : Own [] H w) {r : Bool} (M : spec_ValidOps.f k x1 = some r) :
  Calls Tryz.prog 60 #[.slice A2 x1.length c3] w (fun e e_w => e = .returned (.bool r) ∧ Chg no w e_w) := by
 rw [spec_ValidOps.f] at M
 refine enter (l := [.slice A2 x1.length c3]) 103 func60 rfl rfl rfl ?_
 have S0_ := S.st
 refine wQ (wR (lP 1 (wN (tN (wQ (wQ (wR (lP 3 (wN (tN ?_))))))))))
 obtain ⟨q6, M⟩ | ⟨q6, M⟩ := ifc M
 ·refine cT (bT q6) (wQ (wR (lP 1 (wN (tN (wT (tR ?_)))))))
  obtain rfl := sj M
  exact ret1 rfl rfl  kr ⟨rfl, S0_.chg⟩
 refine cF (bF q6) (wK (tN (wQ (wR (lP 1 (wN (tN (wQ (wQ (wR (lP 1 (wN (tN (wp_block ?_))))))))))))))
 refine wp_loop_g (fun k14 a15 w7 => ∃ (f8 : Nat → Value) (x9 : Int) (x10 : Int), a15 = mk 103 (upd (upd (upd f8 0 (.slice A2 x1.length c3)) 3 (.int .i64 x9)) 4 (.int .i64 x10)) ∧ St (anyOf []) H w [] H w7 ∧ spec_ValidOps.l0 k14 x1 x9 x10 = some r) k ⟨_, 0, 0, (hdw (hdc (hdc (hdc rfl kr) kr) kr)), S0_, M⟩ ?_
 clear M
 rintro k14 a15 w7 ⟨f8, x9, x10, rfl, S11, M⟩
 rcases k14 with _ | k16
 ·rw [spec_ValidOps.l0] at M
  cases M
 rw [spec_ValidOps.l0] at M
 refine wQ (wQ (wR (lP 4 (wN (tN ?_)))))
 obtain ⟨q17, M⟩ | ⟨q17, M⟩ := ifd M
 ·refine cF (bF q17) (wp_exit (tE (tE (inb_hit (tN (wQ (wR (lP 3 (wN (tN (wT ?_)))))))))))
  obtain rfl := sj M
  exact ret1 rfl rfl  kr ⟨rfl, S11.chg⟩
 refine cT (bT q17) (wK (tN (wQ (wp_block (wQ (wR (lP 2 ?_)))))))
 obtain ⟨q18, M⟩ := chk M
 obtain ⟨b19, o20, e21⟩ := Rd.addr h4 (show (x10).toNat < x1.length by omega)
 obtain ⟨y22, r23, k24⟩ := Rd.at h4 e21 (getD_some z86 (show (x10).toNat < x1.length by omega))
 obtain ⟨A25, c26, rfl, l27, h28⟩ := st86_open r23
 refine lV 18 (eJ underlying48 e21 q18 q17) (lV 19 (e_loadS (b := b19) (off := o20 + (x10 : Int).toNat * 3) (cs := [.slice A25 ((x1.getD ((x10).toNat) z86).name).length c26, .int .i64 ((x1.getD ((x10).toNat) z86).pri), .int .i64 ((x1.getD ((x10).toNat) z86).typ)]) underlying86 rfl kr kr (fun j_ u_ e_ => (hpx (S11.inv.cell (k24 j_ u_ e_))))) ?_)
 refine lW 5 (nB #[.slice none 0 0, .int .i64 0, .int .i64 0] 86 S11) ?_
 rintro _ w29 ⟨g30, rfl, b31, S32, K33⟩
 refine lE (eSa g30 0 [.slice A25 ((x1.getD ((x10).toNat) z86).name).length c26, .int .i64 ((x1.getD ((x10).toNat) z86).pri), .int .i64 ((x1.getD ((x10).toNat) z86).typ)] S32 b31) ?_
 rintro w34 ⟨b35, S36, K37⟩
 clear b31
 refine wN (tN (wQ (wQ (wR (lP 1 (lV 21 (eB 0 b35) (lP 3 ?_)))))))
 obtain ⟨q38, M⟩ | ⟨q38, M⟩ := ifc M
 ·refine lP1 30 24 (bT q38) (wN (tN (cond_t rfl kr (wQ (wR (lP 1 (wN (tN (wT (tR (inb_r (tR (tR (inb_r (tR ?_)))))))))))))))
  obtain rfl := sj M
  exact ret1 rfl rfl  kr ⟨rfl, S36.chg⟩
 refine lP1 1 24 (bF q38) (lG 26 24 (bF q38) (eB 0 b35) (lP1 4 24 (bF q38) ?_))
 obtain ⟨q39, M⟩ | ⟨q39, M⟩ := ifc M
 ·refine lP1 24 30 (bT q39) (wN (tN (cond_t rfl kr (wQ (wR (lP 1 (wN (tN (wT (tR (inb_r (tR (tR (inb_r (tR ?_)))))))))))))))
  obtain rfl := sj M
  exact ret1 rfl rfl  kr ⟨rfl, S36.chg⟩
 refine lP1 1 30 (bF q39) (lG 32 30 (bF q39) (eB 0 b35) ?_)
 obtain ⟨t40, u41, M⟩ := bnd M
 refine lcallg (d := 33) (t := 30) rfl kr rfl (bF q39) rfl kr (eE func74) (spec_l3special.calls h28 l27 S36.own0 u41) ?_
 rintro _ w42 ⟨rfl, C43⟩
 refine ⟨_, rfl, ?_⟩
 obtain ⟨S44, K45⟩ := S36.still C43
 replace b35 := K45.b 0 b35
 refine lP1 2 30 (bF q39) ?_
 obtain ⟨q46, M⟩ | ⟨q46, M⟩ := ifc M
 ·refine lP1 19 35 (bvt q46 kr) (wN (tN (cond_t rfl kr (wQ (wR (lP 1 (wN (tN (wT (tR (inb_r (tR (tR (inb_r (tR ?_)))))))))))))))
  obtain rfl := sj M
  exact ret1 rfl rfl  kr ⟨rfl, S44.chg⟩
 refine lP1 1 35 (bvf q46 kr) (lG 37 35 (bvf q46 kr) (eB 1 b35) (lP1 3 35 (bvf q46 kr) ?_))
 obtain ⟨q47, M⟩ | ⟨q47, M⟩ := ifc M
 ·refine lP1 14 40 (bT q47) (wN (tN (cond_t rfl kr (wQ (wR (lP 1 (wN (tN (wT (tR (inb_r (tR (tR (inb_r (tR ?_)))))))))))))))
  obtain rfl := sj M
  exact ret1 rfl rfl  kr ⟨rfl, S44.chg⟩
 refine lP1 1 40 (bF q47) (lG 42 40 (bF q47) (eB 1 b35) (lP1 3 40 (bF q47) ?_))
 obtain ⟨q48, M⟩ | ⟨q48, M⟩ := ifc M
 ·refine lP1 9 45 (bT q48) (wN (tN (cond_t rfl kr (wQ (wR (lP 1 (wN (tN (wT (tR (inb_r (tR (tR (inb_r (tR ?_)))))))))))))))
  obtain rfl := sj M
  exact ret1 rfl rfl  kr ⟨rfl, S44.chg⟩
 refine lP1 1 45 (bF q48) (lG 47 45 (bF q48) (eB 2 b35) (lP1 3 45 (bF q48) ?_))
 obtain ⟨q49, M⟩ | ⟨q49, M⟩ := ifc M
 ·refine lP1 4 50 (bT q49) (wN (tN (cond_t rfl kr (wQ (wR (lP 1 (wN (tN (wT (tR (inb_r (tR (tR (inb_r (tR ?_)))))))))))))))
  obtain rfl := sj M
  exact ret1 rfl rfl  kr ⟨rfl, S44.chg⟩
 refine lP1 1 50 (bF q49) (lG 52 50 (bF q49) (eB 2 b35) (lP1 2 50 (bF q49) (wN (tN ?_))))
 obtain ⟨q50, M⟩ | ⟨q50, M⟩ := ifc M
 ·refine cT (bT q50) (wQ (wR (lP 1 (wN (tN (wT (tR ?_)))))))
  refine inb_r (tR (tR (inb_r (tR ?_))))
  obtain rfl := sj M
  exact ret1 rfl rfl  kr ⟨rfl, S44.chg⟩
 refine cF (bF q50) (wK (tN ?_))
 refine wp_seq_cut (fun a57 w51 => ∃ (k59 : Nat), k59 ≤ k16 ∧ ∃ (f52 : Nat → Value) (x53 : Int), a57 = mk 103 (upd (upd (upd (upd f52 0 (.slice A2 x1.length c3)) 3 (.int .i64 x53)) 4 (.int .i64 x10)) 5 (.pointer (some ⟨g30, 0, none⟩))) ∧ w51.heap[g30]? = some (.cells #[.slice A25 ((x1.getD ((x10).toNat) z86).name).length c26, .int .i64 ((x1.getD ((x10).toNat) z86).pri), .int .i64 ((x1.getD ((x10).toNat) z86).typ)] 86 (0, 0)) ∧ St (anyOf []) H w [(is g30)] H w51 ∧ spec_ValidOps.l1 k59 x1 x10 x53 = some r) ?_ ?_
 ·refine wQ (wR (lP 1 (lV 56 (eB 0 b35) (lV 57 (e_conv_bs (A := A25) (n := ((x1.getD ((x10).toNat) z86).name).length) (c := c26) (xs := (x1.getD ((x10).toNat) z86).name) underlying22 underlying5 underlying9 kr rfl (Rd.bytesE S44.inv h28)) (lV 58 (e_seql (p := (x1.getD ((x10).toNat) z86).name) (q := ([44] : List UInt8)) kr rfl) (wN (tN ?_)))))))
  obtain ⟨q60, M⟩ | ⟨q60, M⟩ := ifd M
  ·refine cF (bF q60) (wK (tN ?_))
   exact ⟨k16, (by omega), _, x9, (hdw (hdc (hdc (hdc (hdc rfl kr) kr) kr) kr)), b35, S44, M⟩
  refine cT (bT q60) (wQ (wR (lP 3 (wN (tN (wQ (wR (lP 1 (lV 62 (eB 1 b35) (lV 63 (eNe .i64 (x1.getD ((x10).toNat) z86).pri 1000) (lP 1 ?_)))))))))))
  obtain ⟨q61, M⟩ | ⟨q61, M⟩ := ifc M
  ·refine lP1 4 64 (bT q61) (wN (tN (cond_t rfl kr (wQ (wR (lP 1 (wN (tN (wT (tR (inb_r (tR (tR (inb_r (tR ?_)))))))))))))))
   obtain rfl := sj M
   exact ret1 rfl rfl  kr ⟨rfl, S44.chg⟩
  refine lP1 1 64 (bF q61) (lG 66 64 (bF q61) (eB 2 b35) (lG 67 64 (bF q61) (eNe .i64 (x1.getD ((x10).toNat) z86).typ 1) (lP1 1 64 (bF q61) (wN (tN ?_)))))
  obtain ⟨q62, M⟩ | ⟨q62, M⟩ := ifd M
  ·refine cF (bF q62) (wK (tN ?_))
   exact ⟨k16, (by omega), _, (i64.wrap (x9 + 1)), (hdw (hdc (hdc (hdc (hdc rfl kr) kr) kr) kr)), b35, S44, M⟩
  refine cT (bT q62) (wQ (wR (lP 1 (wN (tN (wT (tR ?_)))))))
  refine inb_r (tR (tR (inb_r (tR ?_))))
  obtain rfl := sj M
  exact ret1 rfl rfl  kr ⟨rfl, S44.chg⟩
 clear M
 rintro a57 w51 ⟨k59, z104, f52, x53, rfl, b35, S54, M⟩
 rcases k59 with _ | k58
 ·rw [spec_ValidOps.l1] at M
  cases M
 rw [spec_ValidOps.l1] at M
 refine wQ (wQ (wR (lP 2 (wN (tN ?_)))))
 obtain ⟨q63, M⟩ | ⟨q63, M⟩ := ifc M
 ·refine cT (bT q63) (wp_exit (tE (inb_hit (tN (wR (lP 3 (wN (tN ?_))))))))
  have S64 := St.first (Fa := []) (Fr := [(is g30)]) S54
  exact ⟨k58, (by omega), _, x53, (i64.wrap (x10 + 1)), (hdw (hdc (hdc (hdc rfl kr) kr) kr)), S64, M⟩
 refine cF (bF q63) (wK (tN (wQ (wR (lP 3 ?_)))))
 obtain ⟨q65, M⟩ := chk M
 obtain ⟨q66, M⟩ := chk M
 obtain ⟨b67, o68, e69⟩ := Rd.addr h4 (show ((i64.wrap (x10 - 1))).toNat < x1.length by omega)
 obtain ⟨y70, r71, k72⟩ := Rd.at h4 e69 (getD_some z86 (show ((i64.wrap (x10 - 1))).toNat < x1.length by omega))
 obtain ⟨A73, c74, rfl, l75, h76⟩ := st86_open r71
 refine lV 74 (eJ underlying48 e69 q65 q66) (lV 75 (e_loadS (b := b67) (off := o68 + ((i64.wrap (x10 - 1)) : Int).toNat * 3) (cs := [.slice A73 ((x1.getD (((i64.wrap (x10 - 1))).toNat) z86).name).length c74, .int .i64 ((x1.getD (((i64.wrap (x10 - 1))).toNat) z86).pri), .int .i64 ((x1.getD (((i64.wrap (x10 - 1))).toNat) z86).typ)]) underlying86 rfl kr kr (fun j_ u_ e_ => (hpx (S54.inv.cell (k72 j_ u_ e_))))) ?_)
 refine lW 6 (nB #[.slice none 0 0, .int .i64 0, .int .i64 0] 86 S54) ?_
 rintro _ w77 ⟨g78, rfl, b79, S80, K81⟩
 replace b35 := K81.b 0 b35
 refine lE (eSa g78 0 [.slice A73 ((x1.getD (((i64.wrap (x10 - 1))).toNat) z86).name).length c74, .int .i64 ((x1.getD (((i64.wrap (x10 - 1))).toNat) z86).pri), .int .i64 ((x1.getD (((i64.wrap (x10 - 1))).toNat) z86).typ)] S80 b79) ?_
 rintro w82 ⟨b83, S84, K85⟩
 replace b35 := K85.b 0 b35
 clear b79
 refine wN (tN (wQ (wQ (wR (lP 1 (lV 77 (eB 0 b83) (lV 78 (e_conv_bs (A := A73) (n := ((x1.getD (((i64.wrap (x10 - 1))).toNat) z86).name).length) (c := c74) (xs := (x1.getD (((i64.wrap (x10 - 1))).toNat) z86).name) underlying22 underlying5 underlying9 kr rfl (Rd.bytesE S84.inv h76)) (lP 1 (lV 80 (eB 0 b35) (lV 81 (e_conv_bs (A := A25) (n := ((x1.getD ((x10).toNat) z86).name).length) (c := c26) (xs := (x1.getD ((x10).toNat) z86).name) underlying22 underlying5 underlying9 kr rfl (Rd.bytesE S84.inv h28)) (lV 82 (e_sgtr (p := (x1.getD (((i64.wrap (x10 - 1))).toNat) z86).name) (q := (x1.getD ((x10).toNat) z86).name) kr kr) (wN (tN ?_)))))))))))))
 obtain ⟨q86, M⟩ | ⟨q86, M⟩ := ifc M
 ·refine cT (bvt q86 kr) (wQ (wR (lP 1 (wN (tN (wT (tR ?_)))))))
  refine inb_r (tR (tR (inb_r (tR ?_))))
  obtain rfl := sj M
  exact ret1 rfl rfl  kr ⟨rfl, S84.chg⟩
 refine cF (bvf q86 kr) (wK (tN (wQ (wR (lP 1 (lV 84 (eB 0 b83) (lV 85 (e_conv_bs (A := A73) (n := ((x1.getD (((i64.wrap (x10 - 1))).toNat) z86).name).length) (c := c74) (xs := (x1.getD (((i64.wrap (x10 - 1))).toNat) z86).name) underlying22 underlying5 underlying9 kr rfl (Rd.bytesE S84.inv h76)) (lP 1 (lV 87 (eB 0 b35) (lV 88 (e_conv_bs (A := A25) (n := ((x1.getD ((x10).toNat) z86).name).length) (c := c26) (xs := (x1.getD ((x10).toNat) z86).name) underlying22 underlying5 underlying9 kr rfl (Rd.bytesE S84.inv h28)) (lV 89 (e_seql (p := (x1.getD (((i64.wrap (x10 - 1))).toNat) z86).name) (q := (x1.getD ((x10).toNat) z86).name) kr kr) (lP 1 ?_))))))))))))
 obtain ⟨q87, M⟩ | ⟨q87, M⟩ := ifd M
 ·refine lP1 10 90 (bF q87) (wN (tN (cond_f rfl kr (wK (inb_n (tN (wR (lP 3 (wN (tN ?_))))))))))
  have S103 := St.first (Fa := []) (Fr := [(is g78), (is g30)]) S84
  exact ⟨k58, (by omega), _, x53, (i64.wrap (x10 + 1)), (hdw (hdc (hdc (hdc rfl kr) kr) kr)), S103, M⟩
 refine lP1 1 90 (bT q87) (lG 92 90 (bT q87) (eB 2 b83) ?_)
 obtain ⟨t88, u89, M⟩ := bnd M
 refine lcallg (d := 93) (t := 90) rfl kr rfl (bT q87) rfl kr (eE func75) (spec_l3prefix.calls  S84.own0 u89) ?_
 rintro _ w90 ⟨rfl, C91⟩
 refine ⟨_, rfl, ?_⟩
 obtain ⟨S92, K93⟩ := S84.still C91
 replace b35 := K93.b 1 b35
 refine lG 94 90 (bT q87) (e_notv (c := t88) kr) (lP1 1 90 (bT q87) ?_)
 obtain ⟨q94, M⟩ | ⟨q94, M⟩ := ifc M
 ·refine lP2 5 95 (bT q94) 90 (bT q87) (wN (tN (cond_t rfl kr (wQ (wR (lP 1 (wN (tN (wT (inb_r (tR (tR (inb_r (tR ?_))))))))))))))
  obtain rfl := sj M
  exact ret1 rfl rfl  kr ⟨rfl, S92.chg⟩
 refine lP1 1 95 (bF q94) (lG 97 95 (bF q94) (eB 2 b35) ?_)
 obtain ⟨t95, u96, M⟩ := bnd M
 refine lcallg (d := 98) (t := 95) rfl kr rfl (bF q94) rfl kr (eE func75) (spec_l3prefix.calls  S92.own0 u96) ?_
 rintro _ w97 ⟨rfl, C98⟩
 refine ⟨_, rfl, ?_⟩
 obtain ⟨S99, K100⟩ := S92.still C98
 refine lP2 2 90 (bT q87) 95 (bF q94) (wN (tN ?_))
 obtain ⟨q101, M⟩ | ⟨q101, M⟩ := ifc M
 ·refine cT (bvt q101 kr) (wQ (wR (lP 1 (wN (tN (wT (inb_r (tR (tR (inb_r (tR ?_)))))))))))
  obtain rfl := sj M
  exact ret1 rfl rfl  kr ⟨rfl, S99.chg⟩
 refine cF (bvf q101 kr) (wK (inb_n (tN (wR (lP 3 (wN (tN ?_)))))))
 have S102 := St.first (Fa := []) (Fr := [(is g78), (is g30)]) S99
 exact ⟨k58, (by omega), _, x53, (i64.wrap (x10 + 1)), (hdw (hdc (hdc (hdc rfl kr) kr) kr)), S102, M⟩
structure GL3out where
 ops_ : List Sy.Op
 names_ : List (List UInt8)
 quoted_ : Bool
 deriving Inhabited
mutual
def spec_l3dec.l0 : Nat → (List UInt8) → Option (List UInt8)
 | 0, _ => none
 | k21 + 1, x16 => some x16
def spec_l3dec.l1 : Nat → (List UInt8) → Option (List UInt8)
 | 0, _ => none
 | k128 + 1, x123 => some x123
def spec_l3dec.f : Nat → Int → Option (List UInt8)
 | 0, _ => none
 | k1_ + 1, x1 => (if x1 < 0 then (if x1 > (-10) then (if ([45] : List UInt8).length + [(b8 ((i64.wrap (48 - x1))))].length ≤ 9223372036854775807 then some (([45] : List UInt8) ++ [(b8 ((i64.wrap (48 - x1))))]) else none) else ((spec_l3dec.f k1_ (i64.wrap (Int.tdiv x1 10))).bind fun t40 => (if t40.length + [(b8 ((i64.wrap (48 - (Int.tmod x1 10)))))].length ≤ 9223372036854775807 then (spec_l3dec.l0 k1_ (t40 ++ [(b8 ((i64.wrap (48 - (Int.tmod x1 10)))))])) else none))) else (if x1 < 10 then some [(b8 ((i64.wrap (48 + x1))))] else ((spec_l3dec.f k1_ (i64.wrap (Int.tdiv x1 10))).bind fun t147 => (if t147.length + [(b8 ((i64.wrap (48 + (Int.tmod x1 10)))))].length ≤ 9223372036854775807 then (spec_l3dec.l1 k1_ (t147 ++ [(b8 ((i64.wrap (48 + (Int.tmod x1 10)))))])) else none))))
end
theorem spec_l3dec.all : ∀ (K : Nat), (∀ (k : Nat), k < K → ∀ (w : World) (H : Hp) (x1 : Int) (S : Own [] H w) (r : List UInt8) (M : spec_l3dec.f k x1 = some r), Calls Tryz.prog 76 #[.int .i64 x1] w (fun e e_w => e = .returned (str r) ∧ Chg no w e_w)) := by
 intro K
 induction K with
 | zero => intro k hk; omega
 | succ K ih =>
  intro k hk w H x1 S r M
  rcases k with _ | k1_
  ·rw [spec_l3dec.f] at M
   cases M
  rw [spec_l3dec.f] at M
  refine enter (l := [.int .i64 x1]) 44 func76 rfl rfl rfl ?_
  have S0_ := S.st
  refine wQ (wR (lP 1 (wN (tN (wQ (wQ (wR (lP 3 ?_))))))))
  obtain ⟨q2, M⟩ | ⟨q2, M⟩ := ifc M
  ·refine lP1 3 5 (bT q2) (wN (tN ?_))
   obtain ⟨q3, M⟩ | ⟨q3, M⟩ := ifc M
   ·refine cT (bT q3) (wQ (wR (lP 2 (lV 11 (e_conv_i8 (k := .i64) (a := (i64.wrap (48 - x1))) kr underlying5 kr) ?_))))
    refine lW 12 (new_blk (v := fun g_ => .slice (some ⟨g_, 0, none⟩) 1 1) (cs := #[.int .u8 ((b8 ((i64.wrap (48 - x1)))).toNat : Int)]) (t := 5) S0_ kr) ?_
    rintro _ w4 ⟨g5, rfl, b6, S7, K8⟩
    have S9 := S7.unit
    have S10 := S9.pulls [(is g5), no] [1] rfl
    obtain ⟨h11, S12⟩ := row_lit (d := tByte) (xs := [(b8 ((i64.wrap (48 - x1))))]) S10 b6 rfl (elsO_one1 rfl) (Nat.le_of_ble_eq_true rfl)
    refine lV 13 (e_conv_bs (A := (some ⟨g5, 0, none⟩)) (n := 1) (c := 1) (xs := [(b8 ((i64.wrap (48 - x1))))]) underlying22 underlying5 underlying9 kr rfl (Row.bytes h11)) ?_
    obtain ⟨q13, M⟩ := chk M
    refine lV 14 (e_sadd (p := ([45] : List UInt8)) (q := [(b8 ((i64.wrap (48 - x1))))]) rfl kr q13) (lP 1 (wN (tN (wT (tR ?_)))))
    obtain rfl := sj M
    exact ret1 rfl rfl  kr ⟨rfl, S12.chg⟩
   refine cF (bF q3) (wK (tN (wQ (wQ (wR (lP 2 (wN (tN (cT (bT q2) (wQ ?_))))))))))
   refine wp_cut (fun a20 w14 => ∃ (k22 : Nat), k22 ≤ k1_ ∧ ∃ (f15 : Nat → Value) (x16 : List UInt8), k22 < K ∧ a20 = mk 44 (upd f15 2 (str x16)) ∧ St (anyOf []) H w [] H w14 ∧ spec_l3dec.l0 k22 x16 = some r) ?_ ?_
   ·refine region_mix (S := (fun (L_ : Array Bool) (w_ : World) => Ext H (hp w_) ∧ True)) kr S0_ ?_
    intro w23 S24 K25 hc26
    have hs27 : (fun (L_ : Array Bool) (w_ : World) => Ext H (hp w_) ∧ True) (Array.replicate 11 false) w23 := ⟨S24.inv, trivial⟩
    refine xV 0 17 rfl hc26 hs27 (fun L_ w_ hc_ hu_ hs_ => eM (.int .i64 x1)) ?_; intro hc28 hs29
    refine xV 1 18 rfl hc28 hs29 (fun L_ w_ hc_ hu_ hs_ => e_quo (k := .i64) (a := x1) (b := 10) kr rfl (by decide)) ?_; intro hc30 hs31
    refine xV 3 20 rfl hc30 hs31 (fun L_ w_ hc_ hu_ hs_ => eM (.int .i64 x1)) ?_; intro hc32 hs33
    refine xV 4 21 rfl hc32 hs33 (fun L_ w_ hc_ hu_ hs_ => e_rem (k := .i64) (a := x1) (b := 10) kr rfl (by decide)) ?_; intro hc34 hs35
    refine xV 5 22 rfl hc34 hs35 (fun L_ w_ hc_ hu_ hs_ => e_sub (k := .i64) (a := 48) (b := (Int.tmod x1 10)) rfl kr) ?_; intro hc36 hs37
    refine xV 6 23 rfl hc36 hs37 (fun L_ w_ hc_ hu_ hs_ => e_conv_i8 (k := .i64) (a := (i64.wrap (48 - (Int.tmod x1 10)))) kr underlying5 kr) ?_; intro hc38 hs39
    refine xall [2, 7] kr (by decide) hc38 (List.forall_mem_cons.2 ⟨?_, List.forall_mem_cons.2 ⟨?_, fun _ h_ => by cases h_⟩⟩)
    ·obtain ⟨t40, u41, M⟩ := bnd M
     refine yC 2 rfl (eE func76) (ih k1_ (by omega) w23 H (i64.wrap (Int.tdiv x1 10))  S24.own0 t40 u41) ?_
     rintro hc44 _ w42 ⟨rfl, C43⟩
     refine ⟨_, rfl, ?_⟩
     obtain ⟨S45, K46⟩ := S24.still C43
     refine ⟨⟨S45.inv, trivial⟩, fun hs47 => ?_⟩
     refine xO 7 hc44 ?_
     refine yE 7 24 rfl (new_blk (v := fun g_ => .slice (some ⟨g_, 0, none⟩) 1 1) (cs := #[.int .u8 ((b8 ((i64.wrap (48 - (Int.tmod x1 10))))).toNat : Int)]) (t := 5) S45 kr) ?_
     rintro hc53 _ w48 ⟨g49, rfl, b50, S51, K52⟩
     refine ⟨⟨S51.inv, trivial⟩, fun hs54 => ?_⟩
     have S55 := S51.unit
     have S56 := S55.pulls [(is g49), no] [1] rfl
     obtain ⟨h57, S58⟩ := row_lit (d := tByte) (xs := [(b8 ((i64.wrap (48 - (Int.tmod x1 10)))))]) S56 b50 rfl (elsO_one1 rfl) (Nat.le_of_ble_eq_true rfl)
     refine xO 8 hc53 ?_
     refine yO 8 25 rfl hs54 (e_conv_bs (A := (some ⟨g49, 0, none⟩)) (n := 1) (c := 1) (xs := [(b8 ((i64.wrap (48 - (Int.tmod x1 10)))))]) underlying22 underlying5 underlying9 kr rfl (Row.bytes h57)) ?_; intro hc59 hs60
     obtain ⟨q61, M⟩ := chk M
     refine xO 9 hc59 ?_
     refine yO 9 26 rfl hs60 (e_sadd (p := t40) (q := [(b8 ((i64.wrap (48 - (Int.tmod x1 10)))))]) kr kr q61) ?_; intro hc62 hs63
     refine xO 10 hc62 ?_
     refine yO 10 2 rfl hs63 (eA (str (t40 ++ [(b8 ((i64.wrap (48 - (Int.tmod x1 10)))))]))) ?_; intro hc64 hs65
     refine xn kr ?_ _
     have S66 := St.first (Fa := []) (Fr := [(or2 (is g49) no)]) S58
     exact ⟨rfl, k1_, (by omega), _, (t40 ++ [(b8 ((i64.wrap (48 - (Int.tmod x1 10)))))]), (by omega), (hdw (hdc rfl kr)), S66, M⟩
    refine yE 7 24 rfl (new_blk (v := fun g_ => .slice (some ⟨g_, 0, none⟩) 1 1) (cs := #[.int .u8 ((b8 ((i64.wrap (48 - (Int.tmod x1 10))))).toNat : Int)]) (t := 5) S24 kr) ?_
    rintro hc72 _ w67 ⟨g68, rfl, b69, S70, K71⟩
    refine ⟨⟨S70.inv, trivial⟩, fun hs73 => ?_⟩
    have S74 := S70.unit
    have S75 := S74.pulls [(is g68), no] [1] rfl
    obtain ⟨h76, S77⟩ := row_lit (d := tByte) (xs := [(b8 ((i64.wrap (48 - (Int.tmod x1 10)))))]) S75 b69 rfl (elsO_one1 rfl) (Nat.le_of_ble_eq_true rfl)
    refine xall [2, 8] kr (by decide) hc72 (List.forall_mem_cons.2 ⟨?_, List.forall_mem_cons.2 ⟨?_, fun _ h_ => by cases h_⟩⟩)
    ·obtain ⟨t78, u79, M⟩ := bnd M
     refine yC 2 rfl (eE func76) (ih k1_ (by omega) w67 H (i64.wrap (Int.tdiv x1 10))  S77.own0 t78 u79) ?_
     rintro hc82 _ w80 ⟨rfl, C81⟩
     refine ⟨_, rfl, ?_⟩
     obtain ⟨S83, K84⟩ := S77.still C81
     replace h76 := h76.move (K84.a 0)
     refine ⟨⟨S83.inv, trivial⟩, fun hs85 => ?_⟩
     refine xO 8 hc82 ?_
     refine yO 8 25 rfl hs85 (e_conv_bs (A := (some ⟨g68, 0, none⟩)) (n := 1) (c := 1) (xs := [(b8 ((i64.wrap (48 - (Int.tmod x1 10)))))]) underlying22 underlying5 underlying9 kr rfl (Row.bytes h76)) ?_; intro hc86 hs87
     obtain ⟨q88, M⟩ := chk M
     refine xO 9 hc86 ?_
     refine yO 9 26 rfl hs87 (e_sadd (p := t78) (q := [(b8 ((i64.wrap (48 - (Int.tmod x1 10)))))]) kr kr q88) ?_; intro hc89 hs90
     refine xO 10 hc89 ?_
     refine yO 10 2 rfl hs90 (eA (str (t78 ++ [(b8 ((i64.wrap (48 - (Int.tmod x1 10)))))]))) ?_; intro hc91 hs92
     refine xn kr ?_ _
     have S93 := St.first (Fa := []) (Fr := [(or2 (is g68) no)]) S83
     exact ⟨rfl, k1_, (by omega), _, (t78 ++ [(b8 ((i64.wrap (48 - (Int.tmod x1 10)))))]), (by omega), (hdw (hdc rfl kr)), S93, M⟩
    refine yO 8 25 rfl hs73 (e_conv_bs (A := (some ⟨g68, 0, none⟩)) (n := 1) (c := 1) (xs := [(b8 ((i64.wrap (48 - (Int.tmod x1 10)))))]) underlying22 underlying5 underlying9 kr rfl (Row.bytes h76)) ?_; intro hc94 hs95
    obtain ⟨t96, u97, M⟩ := bnd M
    refine xO 2 hc94 ?_
    refine yC 2 rfl (eE func76) (ih k1_ (by omega) w67 H (i64.wrap (Int.tdiv x1 10))  S77.own0 t96 u97) ?_
    rintro hc100 _ w98 ⟨rfl, C99⟩
    refine ⟨_, rfl, ?_⟩
    obtain ⟨S101, K102⟩ := S77.still C99
    refine ⟨⟨S101.inv, trivial⟩, fun hs103 => ?_⟩
    obtain ⟨q104, M⟩ := chk M
    refine xO 9 hc100 ?_
    refine yO 9 26 rfl hs103 (e_sadd (p := t96) (q := [(b8 ((i64.wrap (48 - (Int.tmod x1 10)))))]) kr kr q104) ?_; intro hc105 hs106
    refine xO 10 hc105 ?_
    refine yO 10 2 rfl hs106 (eA (str (t96 ++ [(b8 ((i64.wrap (48 - (Int.tmod x1 10)))))]))) ?_; intro hc107 hs108
    refine xn kr ?_ _
    have S109 := St.first (Fa := []) (Fr := [(or2 (is g68) no)]) S101
    exact ⟨rfl, k1_, (by omega), _, (t96 ++ [(b8 ((i64.wrap (48 - (Int.tmod x1 10)))))]), (by omega), (hdw (hdc rfl kr)), S109, M⟩
   clear M
   rintro a20 w14 ⟨k22, z110, f15, x16, z18, rfl, S17, M⟩
   rcases k22 with _ | k21
   ·rw [spec_l3dec.l0] at M
    cases M
   rw [spec_l3dec.l0] at M
   refine tN (wT (tR ?_))
   obtain rfl := sj M
   exact ret1 rfl rfl  kr ⟨rfl, S17.chg⟩
  refine lP1 3 5 (bF q2) (wN (tN (cond_f rfl kr (wK (tN (wQ (wQ (wR (lP 2 (wN (tN (cF (bF q2) (wK (tN (wQ (wQ (wR (lP 2 (wN (tN ?_))))))))))))))))))))
  obtain ⟨q111, M⟩ | ⟨q111, M⟩ := ifc M
  ·refine cT (bT q111) (wQ (wR (lP 2 (lV 31 (e_conv_i8 (k := .i64) (a := (i64.wrap (48 + x1))) kr underlying5 kr) ?_))))
   refine lW 32 (new_blk (v := fun g_ => .slice (some ⟨g_, 0, none⟩) 1 1) (cs := #[.int .u8 ((b8 ((i64.wrap (48 + x1)))).toNat : Int)]) (t := 5) S0_ kr) ?_
   rintro _ w112 ⟨g113, rfl, b114, S115, K116⟩
   have S117 := S115.unit
   have S118 := S117.pulls [(is g113), no] [1] rfl
   obtain ⟨h119, S120⟩ := row_lit (d := tByte) (xs := [(b8 ((i64.wrap (48 + x1))))]) S118 b114 rfl (elsO_one1 rfl) (Nat.le_of_ble_eq_true rfl)
   refine lV 33 (e_conv_bs (A := (some ⟨g113, 0, none⟩)) (n := 1) (c := 1) (xs := [(b8 ((i64.wrap (48 + x1))))]) underlying22 underlying5 underlying9 kr rfl (Row.bytes h119)) (lP 1 (wN (tN (wT (tR ?_)))))
   obtain rfl := sj M
   exact ret1 rfl rfl  kr ⟨rfl, S120.chg⟩
  refine cF (bF q111) (wK (tN (wQ ?_)))
  refine wp_cut (fun a127 w121 => ∃ (k129 : Nat), k129 ≤ k1_ ∧ ∃ (f122 : Nat → Value) (x123 : List UInt8), k129 < K ∧ a127 = mk 44 (upd f122 2 (str x123)) ∧ St (anyOf []) H w [] H w121 ∧ spec_l3dec.l1 k129 x123 = some r) ?_ ?_
  ·refine region_mix (S := (fun (L_ : Array Bool) (w_ : World) => Ext H (hp w_) ∧ True)) kr S0_ ?_
   intro w130 S131 K132 hc133
   have hs134 : (fun (L_ : Array Bool) (w_ : World) => Ext H (hp w_) ∧ True) (Array.replicate 11 false) w130 := ⟨S131.inv, trivial⟩
   refine xV 0 34 rfl hc133 hs134 (fun L_ w_ hc_ hu_ hs_ => eM (.int .i64 x1)) ?_; intro hc135 hs136
   refine xV 1 35 rfl hc135 hs136 (fun L_ w_ hc_ hu_ hs_ => e_quo (k := .i64) (a := x1) (b := 10) kr rfl (by decide)) ?_; intro hc137 hs138
   refine xV 3 37 rfl hc137 hs138 (fun L_ w_ hc_ hu_ hs_ => eM (.int .i64 x1)) ?_; intro hc139 hs140
   refine xV 4 38 rfl hc139 hs140 (fun L_ w_ hc_ hu_ hs_ => e_rem (k := .i64) (a := x1) (b := 10) kr rfl (by decide)) ?_; intro hc141 hs142
   refine xV 5 39 rfl hc141 hs142 (fun L_ w_ hc_ hu_ hs_ => eAdd .i64 48 (Int.tmod x1 10)) ?_; intro hc143 hs144
   refine xV 6 40 rfl hc143 hs144 (fun L_ w_ hc_ hu_ hs_ => e_conv_i8 (k := .i64) (a := (i64.wrap (48 + (Int.tmod x1 10)))) kr underlying5 kr) ?_; intro hc145 hs146
   refine xall [2, 7] kr (by decide) hc145 (List.forall_mem_cons.2 ⟨?_, List.forall_mem_cons.2 ⟨?_, fun _ h_ => by cases h_⟩⟩)
   ·obtain ⟨t147, u148, M⟩ := bnd M
    refine yC 2 rfl (eE func76) (ih k1_ (by omega) w130 H (i64.wrap (Int.tdiv x1 10))  S131.own0 t147 u148) ?_
    rintro hc151 _ w149 ⟨rfl, C150⟩
    refine ⟨_, rfl, ?_⟩
    obtain ⟨S152, K153⟩ := S131.still C150
    refine ⟨⟨S152.inv, trivial⟩, fun hs154 => ?_⟩
    refine xO 7 hc151 ?_
    refine yE 7 41 rfl (new_blk (v := fun g_ => .slice (some ⟨g_, 0, none⟩) 1 1) (cs := #[.int .u8 ((b8 ((i64.wrap (48 + (Int.tmod x1 10))))).toNat : Int)]) (t := 5) S152 kr) ?_
    rintro hc160 _ w155 ⟨g156, rfl, b157, S158, K159⟩
    refine ⟨⟨S158.inv, trivial⟩, fun hs161 => ?_⟩
    have S162 := S158.unit
    have S163 := S162.pulls [(is g156), no] [1] rfl
    obtain ⟨h164, S165⟩ := row_lit (d := tByte) (xs := [(b8 ((i64.wrap (48 + (Int.tmod x1 10)))))]) S163 b157 rfl (elsO_one1 rfl) (Nat.le_of_ble_eq_true rfl)
    refine xO 8 hc160 ?_
    refine yO 8 42 rfl hs161 (e_conv_bs (A := (some ⟨g156, 0, none⟩)) (n := 1) (c := 1) (xs := [(b8 ((i64.wrap (48 + (Int.tmod x1 10)))))]) underlying22 underlying5 underlying9 kr rfl (Row.bytes h164)) ?_; intro hc166 hs167
    obtain ⟨q168, M⟩ := chk M
    refine xO 9 hc166 ?_
    refine yO 9 43 rfl hs167 (e_sadd (p := t147) (q := [(b8 ((i64.wrap (48 + (Int.tmod x1 10)))))]) kr kr q168) ?_; intro hc169 hs170
    refine xO 10 hc169 ?_
    refine yO 10 2 rfl hs170 (eA (str (t147 ++ [(b8 ((i64.wrap (48 + (Int.tmod x1 10)))))]))) ?_; intro hc171 hs172
    refine xn kr ?_ _
    have S173 := St.first (Fa := []) (Fr := [(or2 (is g156) no)]) S165
    exact ⟨rfl, k1_, (by omega), _, (t147 ++ [(b8 ((i64.wrap (48 + (Int.tmod x1 10)))))]), (by omega), (hdw (hdc rfl kr)), S173, M⟩
   refine yE 7 41 rfl (new_blk (v := fun g_ => .slice (some ⟨g_, 0, none⟩) 1 1) (cs := #[.int .u8 ((b8 ((i64.wrap (48 + (Int.tmod x1 10))))).toNat : Int)]) (t := 5) S131 kr) ?_
   rintro hc179 _ w174 ⟨g175, rfl, b176, S177, K178⟩
   refine ⟨⟨S177.inv, trivial⟩, fun hs180 => ?_⟩
   have S181 := S177.unit
   have S182 := S181.pulls [(is g175), no] [1] rfl
   obtain ⟨h183, S184⟩ := row_lit (d := tByte) (xs := [(b8 ((i64.wrap (48 + (Int.tmod x1 10)))))]) S182 b176 rfl (elsO_one1 rfl) (Nat.le_of_ble_eq_true rfl)
   refine xall [2, 8] kr (by decide) hc179 (List.forall_mem_cons.2 ⟨?_, List.forall_mem_cons.2 ⟨?_, fun _ h_ => by cases h_⟩⟩)
   ·obtain ⟨t185, u186, M⟩ := bnd M
    refine yC 2 rfl (eE func76) (ih k1_ (by omega) w174 H (i64.wrap (Int.tdiv x1 10))  S184.own0 t185 u186) ?_
    rintro hc189 _ w187 ⟨rfl, C188⟩
    refine ⟨_, rfl, ?_⟩
    obtain ⟨S190, K191⟩ := S184.still C188
    replace h183 := h183.move (K191.a 0)
    refine ⟨⟨S190.inv, trivial⟩, fun hs192 => ?_⟩
    refine xO 8 hc189 ?_
    refine yO 8 42 rfl hs192 (e_conv_bs (A := (some ⟨g175, 0, none⟩)) (n := 1) (c := 1) (xs := [(b8 ((i64.wrap (48 + (Int.tmod x1 10)))))]) underlying22 underlying5 underlying9 kr rfl (Row.bytes h183)) ?_; intro hc193 hs194
    obtain ⟨q195, M⟩ := chk M
    refine xO 9 hc193 ?_
    refine yO 9 43 rfl hs194 (e_sadd (p := t185) (q := [(b8 ((i64.wrap (48 + (Int.tmod x1 10)))))]) kr kr q195) ?_; intro hc196 hs197
    refine xO 10 hc196 ?_
    refine yO 10 2 rfl hs197 (eA (str (t185 ++ [(b8 ((i64.wrap (48 + (Int.tmod x1 10)))))]))) ?_; intro hc198 hs199
    refine xn kr ?_ _
    have S200 := St.first (Fa := []) (Fr := [(or2 (is g175) no)]) S190
    exact ⟨rfl, k1_, (by omega), _, (t185 ++ [(b8 ((i64.wrap (48 + (Int.tmod x1 10)))))]), (by omega), (hdw (hdc rfl kr)), S200, M⟩
   refine yO 8 42 rfl hs180 (e_conv_bs (A := (some ⟨g175, 0, none⟩)) (n := 1) (c := 1) (xs := [(b8 ((i64.wrap (48 + (Int.tmod x1 10)))))]) underlying22 underlying5 underlying9 kr rfl (Row.bytes h183)) ?_; intro hc201 hs202
   obtain ⟨t203, u204, M⟩ := bnd M
   refine xO 2 hc201 ?_
   refine yC 2 rfl (eE func76) (ih k1_ (by omega) w174 H (i64.wrap (Int.tdiv x1 10))  S184.own0 t203 u204) ?_
   rintro hc207 _ w205 ⟨rfl, C206⟩
   refine ⟨_, rfl, ?_⟩
   obtain ⟨S208, K209⟩ := S184.still C206
   refine ⟨⟨S208.inv, trivial⟩, fun hs210 => ?_⟩
   obtain ⟨q211, M⟩ := chk M
   refine xO 9 hc207 ?_
   refine yO 9 43 rfl hs210 (e_sadd (p := t203) (q := [(b8 ((i64.wrap (48 + (Int.tmod x1 10)))))]) kr kr q211) ?_; intro hc212 hs213
   refine xO 10 hc212 ?_
   refine yO 10 2 rfl hs213 (eA (str (t203 ++ [(b8 ((i64.wrap (48 + (Int.tmod x1 10)))))]))) ?_; intro hc214 hs215
   refine xn kr ?_ _
   have S216 := St.first (Fa := []) (Fr := [(or2 (is g175) no)]) S208
   exact ⟨rfl, k1_, (by omega), _, (t203 ++ [(b8 ((i64.wrap (48 + (Int.tmod x1 10)))))]), (by omega), (hdw (hdc rfl kr)), S216, M⟩
  clear M
  rintro a127 w121 ⟨k129, z217, f122, x123, z125, rfl, S124, M⟩
  rcases k129 with _ | k128
  ·rw [spec_l3dec.l1] at M
   cases M
  rw [spec_l3dec.l1] at M
  refine tN (wT ?_)
  obtain rfl := sj M
  exact ret1 rfl rfl  kr ⟨rfl, S124.chg⟩
theorem spec_l3dec.calls {k : Nat} {w : World} {H : Hp} {x1 : Int} (S : Own [] H w) {r : List UInt8} (M : spec_l3dec.f k x1 = some r) :
  Calls Tryz.prog 76 #[.int .i64 x1] w (fun e e_w => e = .returned (str r) ∧ Chg no w e_w) := (spec_l3dec.all (k + 1)) k (Nat.lt_succ_self k) w H x1 S r M
def spec_l1small.f (x1 : UInt8) : Option Bool := (if (x1.toNat : Int) ≥ 97 then some (decide ((x1.toNat : Int) ≤ 122)) else some false)
theorem spec_l1small.calls {w : World} {H : Hp} {x1 : UInt8} (S : Own [] H w) {r : Bool} (M : spec_l1small.f x1 = some r) :
  Calls Tryz.prog 32 #[.int .u8 (x1.toNat : Int)] w (fun e e_w => e = .returned (.bool r) ∧ Chg no w e_w) := by
 rw [spec_l1small.f] at M
 refine enter (l := [.int .u8 (x1.toNat : Int)]) 9 func32 rfl rfl rfl ?_
 have S0_ := S.st
 refine wQ (wR (lP 1 (wN (tN (wQ (wR (lP 3 ?_)))))))
 obtain ⟨q2, M⟩ | ⟨q2, M⟩ := ifd M
 ·refine lP1 4 5 (bF q2) (wN (tN (wT ?_)))
  obtain rfl := sj M
  exact ret1 rfl rfl  kr ⟨rfl, S0_.chg⟩
 refine lP1 4 5 (bT q2) (wN (tN (wT ?_)))
 obtain rfl := sj M
 exact ret1 rfl rfl  kr ⟨rfl, S0_.chg⟩
def spec_l1symbol.l0 : Nat → UInt8 → Int → Option Bool
 | 0, _, _ => none
 | k10 + 1, x1, x4 => (if x4 < (([43, 45, 42, 47, 92, 94, 60, 62, 61, 126, 58, 46, 63, 64, 35, 38, 36] : List UInt8).length : Int) then (if 0 ≤ x4 then (if ((([43, 45, 42, 47, 92, 94, 60, 62, 61, 126, 58, 46, 63, 64, 35, 38, 36] : List UInt8).getD (x4 : Int).toNat (0 : UInt8)).toNat : Int) = (x1.toNat : Int) then some true else (spec_l1symbol.l0 k10 x1 (i64.wrap (x4 + 1)))) else none) else some false)
def spec_l1symbol.f (k : Nat) (x1 : UInt8) : Option Bool := (spec_l1symbol.l0 k x1 0)
theorem spec_l1symbol.calls {k : Nat} {w : World} {H : Hp} {x1 : UInt8} (S : Own [] H w) {r : Bool} (M : spec_l1symbol.f k x1 = some r) :
  Calls Tryz.prog 33 #[.int .u8 (x1.toNat : Int)] w (fun e e_w => e = .returned (.bool r) ∧ Chg no w e_w) := by
 rw [spec_l1symbol.f] at M
 refine enter (l := [.int .u8 (x1.toNat : Int)]) 16 func33 rfl rfl rfl ?_
 have S0_ := S.st
 refine wQ (wR (lP 1 (wN (tN (wQ (wR (lP 1 (wN (tN (wQ (wQ (wR (lP 1 (wN (tN ?_)))))))))))))))
 refine wp_block ?_
 refine wp_loop_g (fun k8 a9 w2 => ∃ (f3 : Nat → Value) (x4 : Int), a9 = mk 16 (upd (upd (upd f3 0 (.int .u8 (x1.toNat : Int))) 3 (str ([43, 45, 42, 47, 92, 94, 60, 62, 61, 126, 58, 46, 63, 64, 35, 38, 36] : List UInt8))) 4 (.int .i64 x4)) ∧ St (anyOf []) H w [] H w2 ∧ spec_l1symbol.l0 k8 x1 x4 = some r) k ⟨_, 0, (hdw (hdc (hdc (hdc rfl kr) kr) kr)), S0_, M⟩ ?_
 clear M
 rintro k8 a9 w2 ⟨f3, x4, rfl, S5, M⟩
 rcases k8 with _ | k10
 ·rw [spec_l1symbol.l0] at M
  cases M
 rw [spec_l1symbol.l0] at M
 refine wQ (wQ (wR (lP 2 (lV 7 (e_slen (p := ([43, 45, 42, 47, 92, 94, 60, 62, 61, 126, 58, 46, 63, 64, 35, 38, 36] : List UInt8)) underlying9 kr) (lP 1 (wN (tN ?_)))))))
 obtain ⟨q11, M⟩ | ⟨q11, M⟩ := ifd M
 ·refine cF (bF q11) (wp_exit (tE (tE (inb_hit (tN (wQ (wR (lP 1 (wN (tN (wT ?_)))))))))))
  obtain rfl := sj M
  exact ret1 rfl rfl  kr ⟨rfl, S5.chg⟩
 refine cT (bT q11) (wK (tN (wQ (wp_block (wQ (wR (lP 2 ?_)))))))
 obtain ⟨q12, M⟩ := chk M
 refine lV 13 (e_sindex (p := ([43, 45, 42, 47, 92, 94, 60, 62, 61, 126, 58, 46, 63, 64, 35, 38, 36] : List UInt8)) (i := x4) (k := .i64) underlying9 kr kr q12 q11) (lP 2 (wN (tN ?_)))
 obtain ⟨q13, M⟩ | ⟨q13, M⟩ := ifc M
 ·refine cT (bT q13) (wQ (wR (lP 1 (wN (tN (wT (inb_r (tR (tR (inb_r (tR ?_)))))))))))
  obtain rfl := sj M
  exact ret1 rfl rfl  kr ⟨rfl, S5.chg⟩
 refine cF (bF q13) (wK (inb_n (tN (wR (lP 3 (wN (tN ?_)))))))
 exact ⟨k10, (by omega), _, (i64.wrap (x4 + 1)), (hdw (hdc (hdc (hdc rfl kr) kr) kr)), S5, M⟩
def spec_l1digit.f (x1 : UInt8) : Option Bool := (if (x1.toNat : Int) ≥ 48 then some (decide ((x1.toNat : Int) ≤ 57)) else some false)
theorem spec_l1digit.calls {w : World} {H : Hp} {x1 : UInt8} (S : Own [] H w) {r : Bool} (M : spec_l1digit.f x1 = some r) :
  Calls Tryz.prog 28 #[.int .u8 (x1.toNat : Int)] w (fun e e_w => e = .returned (.bool r) ∧ Chg no w e_w) := by
 rw [spec_l1digit.f] at M
 refine enter (l := [.int .u8 (x1.toNat : Int)]) 9 func28 rfl rfl rfl ?_
 have S0_ := S.st
 refine wQ (wR (lP 1 (wN (tN (wQ (wR (lP 3 ?_)))))))
 obtain ⟨q2, M⟩ | ⟨q2, M⟩ := ifd M
 ·refine lP1 4 5 (bF q2) (wN (tN (wT ?_)))
  obtain rfl := sj M
  exact ret1 rfl rfl  kr ⟨rfl, S0_.chg⟩
 refine lP1 4 5 (bT q2) (wN (tN (wT ?_)))
 obtain rfl := sj M
 exact ret1 rfl rfl  kr ⟨rfl, S0_.chg⟩
def spec_l1alnum.f (x1 : UInt8) : Option Bool := ((spec_l1small.f x1).bind fun t2 => (if t2 = true then some true else (if (x1.toNat : Int) ≥ 65 then (if (x1.toNat : Int) ≤ 90 then some true else (if (x1.toNat : Int) = 95 then some true else ((spec_l1digit.f x1).bind fun t12 => some t12))) else (if (x1.toNat : Int) = 95 then some true else ((spec_l1digit.f x1).bind fun t19 => some t19)))))
theorem spec_l1alnum.calls {w : World} {H : Hp} {x1 : UInt8} (S : Own [] H w) {r : Bool} (M : spec_l1alnum.f x1 = some r) :
  Calls Tryz.prog 30 #[.int .u8 (x1.toNat : Int)] w (fun e e_w => e = .returned (.bool r) ∧ Chg no w e_w) := by
 rw [spec_l1alnum.f] at M
 refine enter (l := [.int .u8 (x1.toNat : Int)]) 21 func30 rfl rfl rfl ?_
 have S0_ := S.st
 refine wQ (wR (lP 1 (wN (tN (wQ (wR (lP 1 ?_)))))))
 obtain ⟨t2, u3, M⟩ := bnd M
 refine lC 4 (eE func32) (spec_l1small.calls  S0_.own0 u3) ?_
 rintro _ w4 ⟨rfl, C5⟩
 refine ⟨_, rfl, ?_⟩
 obtain ⟨S6, K7⟩ := S0_.still C5
 refine lP 1 ?_
 obtain ⟨q8, M⟩ | ⟨q8, M⟩ := ifc M
 ·refine lP1 16 5 (bvt q8 kr) (wN (tN (wT ?_)))
  obtain rfl := sj M
  exact ret1 rfl rfl  kr ⟨rfl, S6.chg⟩
 refine lP1 3 5 (bvf q8 kr) ?_
 obtain ⟨q9, M⟩ | ⟨q9, M⟩ := ifd M
 ·refine lP2 9 8 (bF q9) 5 (bvf q8 kr) ?_
  obtain ⟨q18, M⟩ | ⟨q18, M⟩ := ifc M
  ·refine lP1 4 17 (bT q18) (wN (tN (wT ?_)))
   obtain rfl := sj M
   exact ret1 rfl rfl  kr ⟨rfl, S6.chg⟩
  refine lP1 1 17 (bF q18) ?_
  obtain ⟨t19, u20, M⟩ := bnd M
  refine lcallg (d := 19) (t := 17) rfl kr rfl (bF q18) rfl kr (eE func28) (spec_l1digit.calls  S6.own0 u20) ?_
  rintro _ w21 ⟨rfl, C22⟩
  refine ⟨_, rfl, ?_⟩
  obtain ⟨S23, K24⟩ := S6.still C22
  refine lP1 2 17 (bF q18) (wN (tN (wT ?_)))
  obtain rfl := sj M
  exact ret1 rfl rfl  kr ⟨rfl, S23.chg⟩
 refine lP2 5 8 (bT q9) 5 (bvf q8 kr) ?_
 obtain ⟨q10, M⟩ | ⟨q10, M⟩ := ifc M
 ·refine lP1 8 13 (bT q10) (wN (tN (wT ?_)))
  obtain rfl := sj M
  exact ret1 rfl rfl  kr ⟨rfl, S6.chg⟩
 refine lP1 4 13 (bF q10) ?_
 obtain ⟨q11, M⟩ | ⟨q11, M⟩ := ifc M
 ·refine lP1 4 17 (bT q11) (wN (tN (wT ?_)))
  obtain rfl := sj M
  exact ret1 rfl rfl  kr ⟨rfl, S6.chg⟩
 refine lP1 1 17 (bF q11) ?_
 obtain ⟨t12, u13, M⟩ := bnd M
 refine lcallg (d := 19) (t := 17) rfl kr rfl (bF q11) rfl kr (eE func28) (spec_l1digit.calls  S6.own0 u13) ?_
 rintro _ w14 ⟨rfl, C15⟩
 refine ⟨_, rfl, ?_⟩
 obtain ⟨S16, K17⟩ := S6.still C15
 refine lP1 2 17 (bF q11) (wN (tN (wT ?_)))
 obtain rfl := sj M
 exact ret1 rfl rfl  kr ⟨rfl, S16.chg⟩
def spec_l1run.l0 : Nat → (List UInt8) → Int → Bool → Int → Option Int
 | 0, _, _, _, _ => none
 | k16 + 1, x1, x6, x7, x10 => (if (i64.wrap (x6 + x10)) < (x1.length : Int) then (if x7 = true then (if 0 ≤ (i64.wrap (x6 + x10)) then ((spec_l1symbol.f k16 (x1.getD (((i64.wrap (x6 + x10))).toNat) (0 : UInt8))).bind fun t26 => (if t26 = true then (spec_l1run.l0 k16 x1 x6 x7 (i64.wrap (x10 + 1))) else (if ¬ (x7 = true) then ((spec_l1alnum.f (x1.getD (((i64.wrap (x6 + x10))).toNat) (0 : UInt8))).bind fun t40 => (if t40 = true then (spec_l1run.l0 k16 x1 x6 x7 (i64.wrap (x10 + 1))) else some x10)) else some x10))) else none) else (if ¬ (x7 = true) then (if 0 ≤ (i64.wrap (x6 + x10)) then ((spec_l1alnum.f (x1.getD (((i64.wrap (x6 + x10))).toNat) (0 : UInt8))).bind fun t55 => (if t55 = true then (spec_l1run.l0 k16 x1 x6 x7 (i64.wrap (x10 + 1))) else some x10)) else none) else some x10)) else some x10)
def spec_l1run.f (k : Nat) (x1 : List UInt8) (x6 : Int) (x7 : Bool) : Option Int := (spec_l1run.l0 k x1 x6 x7 0)
theorem spec_l1run.calls {k : Nat} {w : World} {H : Hp} {x1 : List UInt8} {A2 : Option Addr} {c3 : Nat} {x6 : Int} {x7 : Bool} (h4 : Rd tByte H A2 x1) (l5 : x1.length ≤ c3) (S : Own [] H w) {r : Int} (M : spec_l1run.f k x1 x6 x7 = some r) :
  Calls Tryz.prog 31 #[.slice A2 x1.length c3, .int .i64 x6, .bool x7] w (fun e e_w => e = .returned (.int .i64 r) ∧ Chg no w e_w) := by
 rw [spec_l1run.f] at M
 refine enter (l := [.slice A2 x1.length c3, .int .i64 x6, .bool x7]) 42 func31 rfl rfl rfl ?_
 have S0_ := S.st
 refine wQ (wR (lP 1 (wN (tN (wQ (wR (lP 1 (wN (tN (wQ (wp_block ?_)))))))))))
 refine wp_loop_g (fun k14 a15 w8 => ∃ (f9 : Nat → Value) (x10 : Int), a15 = mk 42 (upd (upd (upd (upd f9 0 (.slice A2 x1.length c3)) 1 (.int .i64 x6)) 2 (.bool x7)) 7 (.int .i64 x10)) ∧ St (anyOf []) H w [] H w8 ∧ spec_l1run.l0 k14 x1 x6 x7 x10 = some r) k ⟨_, 0, (hdw (hdc (hdc (hdc (hdc rfl kr) kr) kr) kr)), S0_, M⟩ ?_
 clear M
 rintro k14 a15 w8 ⟨f9, x10, rfl, S11, M⟩
 rcases k14 with _ | k16
 ·rw [spec_l1run.l0] at M
  cases M
 rw [spec_l1run.l0] at M
 refine wQ (wQ (wR (lP 7 ?_)))
 obtain ⟨q17, M⟩ | ⟨q17, M⟩ := ifd M
 ·refine lP1 24 14 (bF q17) (wN (tN (cond_f rfl kr (wp_exit (tE (tE (inb_hit (tN (wQ (wR (lP 2 (wN (tN (wT ?_))))))))))))))
  obtain rfl := sj M
  exact ret1 rfl rfl  kr ⟨rfl, S11.chg⟩
 refine lP1 2 14 (bT q17) ?_
 obtain ⟨q18, M⟩ | ⟨q18, M⟩ := ifd M
 ·refine lP2 10 16 (bvf q18 kr) 14 (bT q17) (lH 27 25 (e_notv (c := x7) kr) (lP 1 ?_))
  obtain ⟨q47, M⟩ | ⟨q47, M⟩ := ifd M
  ·refine lP2 10 28 (bF q47) 14 (bT q17) (wN (tN (cond_f rfl kr (wp_exit (tE ?_)))))
   refine tE (inb_hit (tN (wQ (wR (lP 2 (wN (tN (wT ?_))))))))
   obtain rfl := sj M
   exact ret1 rfl rfl  kr ⟨rfl, S11.chg⟩
  refine lP1 4 28 (bT q47) ?_
  obtain ⟨q48, M⟩ := chk M
  obtain ⟨b49, o50, e51⟩ := Rd.addr h4 (show ((i64.wrap (x6 + x10))).toNat < x1.length by omega)
  obtain ⟨y52, r53, k54⟩ := Rd.at h4 e51 (getD_some (0 : UInt8) (show ((i64.wrap (x6 + x10))).toNat < x1.length by omega))
  obtain rfl := r53
  refine lG 33 28 (bT q47) (eJ underlying22 e51 q48 q17) (lG 34 28 (bT q47) (eK underlying5 (hpx (S11.inv.cell (k54 0 _ rfl)))) ?_)
  obtain ⟨t55, u56, M⟩ := bnd M
  refine lcallg (d := 35) (t := 28) rfl kr rfl (bT q47) rfl kr (eE func30) (spec_l1alnum.calls  S11.own0 u56) ?_
  rintro _ w57 ⟨rfl, C58⟩
  refine ⟨_, rfl, ?_⟩
  obtain ⟨S59, K60⟩ := S11.still C58
  refine lP2 3 28 (bT q47) 14 (bT q17) (wN (tN ?_))
  obtain ⟨q61, M⟩ | ⟨q61, M⟩ := ifd M
  ·refine cF (bvf q61 kr) (wp_exit (tE (tE (inb_hit (tN (wQ (wR (lP 2 (wN (tN (wT ?_)))))))))))
   obtain rfl := sj M
   exact ret1 rfl rfl  kr ⟨rfl, S59.chg⟩
  refine cT (bvt q61 kr) (wK (tN (wp_block (wR (lP 3 (wN (inb_n (tN ?_))))))))
  exact ⟨k16, (by omega), _, (i64.wrap (x10 + 1)), (hdw (hdc (hdc (hdc (hdc rfl kr) kr) kr) kr)), S59, M⟩
 refine lP1 4 16 (bvt q18 kr) ?_
 obtain ⟨q19, M⟩ := chk M
 obtain ⟨b20, o21, e22⟩ := Rd.addr h4 (show ((i64.wrap (x6 + x10))).toNat < x1.length by omega)
 obtain ⟨y23, r24, k25⟩ := Rd.at h4 e22 (getD_some (0 : UInt8) (show ((i64.wrap (x6 + x10))).toNat < x1.length by omega))
 obtain rfl := r24
 refine lG 21 16 (bvt q18 kr) (eJ underlying22 e22 q19 q17) (lG 22 16 (bvt q18 kr) (eK underlying5 (hpx (S11.inv.cell (k25 0 _ rfl)))) ?_)
 obtain ⟨t26, u27, M⟩ := bnd M
 refine lcallg (d := 23) (t := 16) rfl kr rfl (bvt q18 kr) rfl kr (eE func33) (spec_l1symbol.calls  S11.own0 u27) ?_
 rintro _ w28 ⟨rfl, C29⟩
 refine ⟨_, rfl, ?_⟩
 obtain ⟨S30, K31⟩ := S11.still C29
 refine lP2 2 14 (bT q17) 16 (bvt q18 kr) ?_
 obtain ⟨q32, M⟩ | ⟨q32, M⟩ := ifc M
 ·refine lP2 13 25 (bvt q32 kr) 14 (bT q17) (wN (tN (cond_t rfl kr (wK (tN (wp_block (wR (lP 3 (wN (inb_n (tN ?_)))))))))))
  exact ⟨k16, (by omega), _, (i64.wrap (x10 + 1)), (hdw (hdc (hdc (hdc (hdc rfl kr) kr) kr) kr)), S30, M⟩
 refine lP1 1 25 (bvf q32 kr) (lG 27 25 (bvf q32 kr) (e_notv (c := x7) kr) (lP1 1 25 (bvf q32 kr) ?_))
 obtain ⟨q33, M⟩ | ⟨q33, M⟩ := ifd M
 ·refine lP3 10 28 (bF q33) 25 (bvf q32 kr) 14 (bT q17) (wN (tN (cond_f rfl kr (wp_exit (tE ?_)))))
  refine tE (inb_hit (tN (wQ (wR (lP 2 (wN (tN (wT ?_))))))))
  obtain rfl := sj M
  exact ret1 rfl rfl  kr ⟨rfl, S30.chg⟩
 refine lP1 4 28 (bT q33) ?_
 obtain ⟨b34, o35, e36⟩ := Rd.addr h4 (show ((i64.wrap (x6 + x10))).toNat < x1.length by omega)
 obtain ⟨y37, r38, k39⟩ := Rd.at h4 e36 (getD_some (0 : UInt8) (show ((i64.wrap (x6 + x10))).toNat < x1.length by omega))
 obtain rfl := r38
 refine lG 33 28 (bT q33) (eJ underlying22 e36 q19 q17) (lG 34 28 (bT q33) (eK underlying5 (hpx (S30.inv.cell (k39 0 _ rfl)))) ?_)
 obtain ⟨t40, u41, M⟩ := bnd M
 refine lcallg (d := 35) (t := 28) rfl kr rfl (bT q33) rfl kr (eE func30) (spec_l1alnum.calls  S30.own0 u41) ?_
 rintro _ w42 ⟨rfl, C43⟩
 refine ⟨_, rfl, ?_⟩
 obtain ⟨S44, K45⟩ := S30.still C43
 refine lP3 3 25 (bvf q32 kr) 28 (bT q33) 14 (bT q17) (wN (tN ?_))
 obtain ⟨q46, M⟩ | ⟨q46, M⟩ := ifd M
 ·refine cF (bvf q46 kr) (wp_exit (tE (tE (inb_hit (tN (wQ (wR (lP 2 (wN (tN (wT ?_)))))))))))
  obtain rfl := sj M
  exact ret1 rfl rfl  kr ⟨rfl, S44.chg⟩
 refine cT (bvt q46 kr) (wK (tN (wp_block (wR (lP 3 (wN (inb_n (tN ?_))))))))
 exact ⟨k16, (by omega), _, (i64.wrap (x10 + 1)), (hdw (hdc (hdc (hdc (hdc rfl kr) kr) kr) kr)), S44, M⟩
def spec_IsPlain.f (k : Nat) (x1 : List UInt8) : Option Bool := (if (x1.length : Int) = 0 then some false else (if (x1.length : Int) > 100 then some false else (if x1 = ([33] : List UInt8) then some true else (if x1 = ([59] : List UInt8) then some true else (if x1 = ([91, 93] : List UInt8) then some true else (if x1 = ([123, 125] : List UInt8) then some true else (if 0 < (x1.length : Int) then ((spec_l1small.f (x1.getD 0 (0 : UInt8))).bind fun t19 => (if t19 = true then ((spec_l1run.f k x1 0 false).bind fun t26 => some (decide (t26 = (x1.length : Int)))) else (if x1 = ([46] : List UInt8) then some false else (if (x1.length : Int) > 1 then (if 2 ≤ (x1.length : Int) then (if (x1.take (2 : Int).toNat) = ([47, 42] : List UInt8) then some false else ((spec_l1run.f k x1 0 true).bind fun t36 => some (decide (t36 = (x1.length : Int))))) else none) else ((spec_l1run.f k x1 0 true).bind fun t42 => some (decide (t42 = (x1.length : Int)))))))) else none)))))))
theorem spec_IsPlain.calls {k : Nat} {w : World} {H : Hp} {x1 : List UInt8} {A2 : Option Addr} {c3 : Nat} (h4 : Rd tByte H A2 x1) (l5 : x1.length ≤ c3) (S : Own [] H w) {r : Bool} (M : spec_IsPlain.f k x1 = some r) :
  Calls Tryz.prog 97 #[.slice A2 x1.length c3] w (fun e e_w => e = .returned (.bool r) ∧ Chg no w e_w) := by
 rw [spec_IsPlain.f] at M
 refine enter (l := [.slice A2 x1.length c3]) 52 func97 rfl rfl rfl ?_
 have S0_ := S.st
 refine wQ (wR (lP 1 (wN (tN (wQ (wR (lP 3 (wN (tN (wQ (wR (lP 1 (lV 8 (e_conv_bs (A := A2) (n := x1.length) (c := c3) (xs := x1) underlying22 underlying5 underlying9 kr rfl (Rd.bytesE S0_.inv h4)) (lP 1 (wN (tN (wQ (wQ (wR (lP 3 ?_))))))))))))))))))))
 obtain ⟨q6, M⟩ | ⟨q6, M⟩ := ifc M
 ·refine lP1 3 11 (bT q6) (wN (tN (cond_t rfl kr (wQ (wR (lP 1 (wN (tN (wT (tR ?_))))))))))
  obtain rfl := sj M
  exact ret1 rfl rfl  kr ⟨rfl, S0_.chg⟩
 refine lP1 3 11 (bF q6) (wN (tN ?_))
 obtain ⟨q7, M⟩ | ⟨q7, M⟩ := ifc M
 ·refine cT (bT q7) (wQ (wR (lP 1 (wN (tN (wT (tR ?_)))))))
  obtain rfl := sj M
  exact ret1 rfl rfl  kr ⟨rfl, S0_.chg⟩
 refine cF (bF q7) (wK (tN (wQ (wQ (wR (lP 1 (lV 16 (e_seql (p := x1) (q := ([33] : List UInt8)) kr rfl) (lP 1 ?_))))))))
 obtain ⟨q8, M⟩ | ⟨q8, M⟩ := ifc M
 ·refine lP1 11 17 (bT q8) (wN (tN (cond_t rfl kr (wQ (wR (lP 1 (wN (tN (wT (tR ?_))))))))))
  obtain rfl := sj M
  exact ret1 rfl rfl  kr ⟨rfl, S0_.chg⟩
 refine lP1 1 17 (bF q8) (lG 19 17 (bF q8) (e_seql (p := x1) (q := ([59] : List UInt8)) kr rfl) (lP1 2 17 (bF q8) ?_))
 obtain ⟨q9, M⟩ | ⟨q9, M⟩ := ifc M
 ·refine lP1 7 21 (bT q9) (wN (tN (cond_t rfl kr (wQ (wR (lP 1 (wN (tN (wT (tR ?_))))))))))
  obtain rfl := sj M
  exact ret1 rfl rfl  kr ⟨rfl, S0_.chg⟩
 refine lP1 1 21 (bF q9) (lG 23 21 (bF q9) (e_seql (p := x1) (q := ([91, 93] : List UInt8)) kr rfl) (lP1 2 21 (bF q9) ?_))
 obtain ⟨q10, M⟩ | ⟨q10, M⟩ := ifc M
 ·refine lP1 3 25 (bT q10) (wN (tN (cond_t rfl kr (wQ (wR (lP 1 (wN (tN (wT (tR ?_))))))))))
  obtain rfl := sj M
  exact ret1 rfl rfl  kr ⟨rfl, S0_.chg⟩
 refine lP1 1 25 (bF q10) (lG 27 25 (bF q10) (e_seql (p := x1) (q := ([123, 125] : List UInt8)) kr rfl) (lP1 1 25 (bF q10) (wN (tN ?_))))
 obtain ⟨q11, M⟩ | ⟨q11, M⟩ := ifc M
 ·refine cT (bT q11) (wQ (wR (lP 1 (wN (tN (wT (tR ?_)))))))
  obtain rfl := sj M
  exact ret1 rfl rfl  kr ⟨rfl, S0_.chg⟩
 refine cF (bF q11) (wK (tN (wQ (wQ (wR (lP 1 ?_))))))
 obtain ⟨q12, M⟩ := chk M
 obtain ⟨b13, o14, e15⟩ := Rd.addr h4 (show 0 < x1.length by omega)
 obtain ⟨y16, r17, k18⟩ := Rd.at h4 e15 (getD_some (0 : UInt8) (show 0 < x1.length by omega))
 obtain rfl := r17
 refine lV 30 (e_indexAddr (b := b13) (off := o14) (n := x1.length) (c := c3) (sz := 1) (i := 0) (k := .i64) underlying22 e15 kr kr rfl (by omega) q12) (lV 31 (eK underlying5 (hpx (S0_.inv.cell (k18 0 _ rfl)))) ?_)
 obtain ⟨t19, u20, M⟩ := bnd M
 refine lC 32 (eE func32) (spec_l1small.calls  S0_.own0 u20) ?_
 rintro _ w21 ⟨rfl, C22⟩
 refine ⟨_, rfl, ?_⟩
 obtain ⟨S23, K24⟩ := S0_.still C22
 refine wN (tN ?_)
 obtain ⟨q25, M⟩ | ⟨q25, M⟩ := ifc M
 ·refine cT (bvt q25 kr) (wQ (wR (lP 1 ?_)))
  obtain ⟨t26, u27, M⟩ := bnd M
  refine lC 34 (eE func31) (spec_l1run.calls h4 l5 S23.own0 u27) ?_
  rintro _ w28 ⟨rfl, C29⟩
  refine ⟨_, rfl, ?_⟩
  obtain ⟨S30, K31⟩ := S23.still C29
  refine lP 3 (wN (tN (wT (tR ?_))))
  obtain rfl := sj M
  exact ret1 rfl rfl  kr ⟨rfl, S30.chg⟩
 refine cF (bvf q25 kr) (wK (tN (wQ (wQ (wR (lP 1 (lV 38 (e_seql (p := x1) (q := ([46] : List UInt8)) kr rfl) (lP 1 ?_))))))))
 obtain ⟨q32, M⟩ | ⟨q32, M⟩ := ifc M
 ·refine lP1 8 39 (bT q32) (wN (tN (cond_t rfl kr (wQ (wR (lP 1 (wN (tN (wT (tR ?_))))))))))
  obtain rfl := sj M
  exact ret1 rfl rfl  kr ⟨rfl, S23.chg⟩
 refine lP1 3 39 (bF q32) ?_
 obtain ⟨q33, M⟩ | ⟨q33, M⟩ := ifd M
 ·refine lP2 5 42 (bF q33) 39 (bF q32) (wN (tN (cond_f rfl kr (wK (tN (wQ (wR (lP 1 ?_))))))))
  obtain ⟨t42, u43, M⟩ := bnd M
  refine lC 49 (eE func31) (spec_l1run.calls h4 l5 S23.own0 u43) ?_
  rintro _ w44 ⟨rfl, C45⟩
  refine ⟨_, rfl, ?_⟩
  obtain ⟨S46, K47⟩ := S23.still C45
  refine lP 3 (wN (tN (wT ?_)))
  obtain rfl := sj M
  exact ret1 rfl rfl  kr ⟨rfl, S46.chg⟩
 refine lP1 1 42 (bT q33) ?_
 obtain ⟨q34, M⟩ := chk M
 refine lG 44 42 (bT q33) (e_sslice_h (p := x1) (b := 2) (k2 := .i64) underlying9 kr rfl (by decide) q34) (lG 45 42 (bT q33) (e_seql (p := (x1.take (2 : Int).toNat)) (q := ([47, 42] : List UInt8)) kr rfl) (lP2 2 39 (bF q32) 42 (bT q33) (wN (tN ?_))))
 obtain ⟨q35, M⟩ | ⟨q35, M⟩ := ifc M
 ·refine cT (bT q35) (wQ (wR (lP 1 (wN (tN (wT (tR ?_)))))))
  obtain rfl := sj M
  exact ret1 rfl rfl  kr ⟨rfl, S23.chg⟩
 refine cF (bF q35) (wK (tN (wQ (wR (lP 1 ?_)))))
 obtain ⟨t36, u37, M⟩ := bnd M
 refine lC 49 (eE func31) (spec_l1run.calls h4 l5 S23.own0 u37) ?_
 rintro _ w38 ⟨rfl, C39⟩
 refine ⟨_, rfl, ?_⟩
 obtain ⟨S40, K41⟩ := S23.still C39
 refine lP 3 (wN (tN (wT ?_)))
 obtain rfl := sj M
 exact ret1 rfl rfl  kr ⟨rfl, S40.chg⟩
def spec_l1quoted.l0 : Nat → (List UInt8) → (List UInt8) → Int → Option (List UInt8)
 | 0, _, _, _ => none
 | k29 + 1, x1, x18, x23 => (if x23 < (x1.length : Int) then (if 0 ≤ x23 then (if ((x1.getD ((x23).toNat) (0 : UInt8)).toNat : Int) = 39 then (if x18.length + 2 ≤ 140737488355328 then (spec_l1quoted.l0 k29 x1 (x18 ++ [(92 : UInt8), (x1.getD ((x23).toNat) (0 : UInt8))]) (i64.wrap (x23 + 1))) else none) else (if ((x1.getD ((x23).toNat) (0 : UInt8)).toNat : Int) = 92 then (if x18.length + 2 ≤ 140737488355328 then (spec_l1quoted.l0 k29 x1 (x18 ++ [(92 : UInt8), (x1.getD ((x23).toNat) (0 : UInt8))]) (i64.wrap (x23 + 1))) else none) else (if ((x1.getD ((x23).toNat) (0 : UInt8)).toNat : Int) = 10 then (if x18.length + 2 ≤ 140737488355328 then (spec_l1quoted.l0 k29 x1 (x18 ++ [(92 : UInt8), (110 : UInt8)]) (i64.wrap (x23 + 1))) else none) else (if ((x1.getD ((x23).toNat) (0 : UInt8)).toNat : Int) = 9 then (if x18.length + 2 ≤ 140737488355328 then (spec_l1quoted.l0 k29 x1 (x18 ++ [(92 : UInt8), (116 : UInt8)]) (i64.wrap (x23 + 1))) else none) else (if ((x1.getD ((x23).toNat) (0 : UInt8)).toNat : Int) < 32 then (if 0 ≤ ((b8 (Int.tdiv ((x1.getD ((x23).toNat) (0 : UInt8)).toNat : Int) 16)).toNat : Int) then (if ((b8 (Int.tdiv ((x1.getD ((x23).toNat) (0 : UInt8)).toNat : Int) 16)).toNat : Int) < (([48, 49, 50, 51, 52, 53, 54, 55, 56, 57, 97, 98, 99, 100, 101, 102] : List UInt8).length : Int) then (if 0 ≤ ((b8 (Int.tmod ((x1.getD ((x23).toNat) (0 : UInt8)).toNat : Int) 16)).toNat : Int) then (if ((b8 (Int.tmod ((x1.getD ((x23).toNat) (0 : UInt8)).toNat : Int) 16)).toNat : Int) < (([48, 49, 50, 51, 52, 53, 54, 55, 56, 57, 97, 98, 99, 100, 101, 102] : List UInt8).length : Int) then (if x18.length + 5 ≤ 140737488355328 then (spec_l1quoted.l0 k29 x1 (x18 ++ [(92 : UInt8), (120 : UInt8), (([48, 49, 50, 51, 52, 53, 54, 55, 56, 57, 97, 98, 99, 100, 101, 102] : List UInt8).getD (((b8 (Int.tdiv ((x1.getD ((x23).toNat) (0 : UInt8)).toNat : Int) 16)).toNat : Int) : Int).toNat (0 : UInt8)), (([48, 49, 50, 51, 52, 53, 54, 55, 56, 57, 97, 98, 99, 100, 101, 102] : List UInt8).getD (((b8 (Int.tmod ((x1.getD ((x23).toNat) (0 : UInt8)).toNat : Int) 16)).toNat : Int) : Int).toNat (0 : UInt8)), (92 : UInt8)]) (i64.wrap (x23 + 1))) else none) else none) else none) else none) else none) else (if ((x1.getD ((x23).toNat) (0 : UInt8)).toNat : Int) > 126 then (if 0 ≤ ((b8 (Int.tdiv ((x1.getD ((x23).toNat) (0 : UInt8)).toNat : Int) 16)).toNat : Int) then (if ((b8 (Int.tdiv ((x1.getD ((x23).toNat) (0 : UInt8)).toNat : Int) 16)).toNat : Int) < (([48, 49, 50, 51, 52, 53, 54, 55, 56, 57, 97, 98, 99, 100, 101, 102] : List UInt8).length : Int) then (if 0 ≤ ((b8 (Int.tmod ((x1.getD ((x23).toNat) (0 : UInt8)).toNat : Int) 16)).toNat : Int) then (if ((b8 (Int.tmod ((x1.getD ((x23).toNat) (0 : UInt8)).toNat : Int) 16)).toNat : Int) < (([48, 49, 50, 51, 52, 53, 54, 55, 56, 57, 97, 98, 99, 100, 101, 102] : List UInt8).length : Int) then (if x18.length + 5 ≤ 140737488355328 then (spec_l1quoted.l0 k29 x1 (x18 ++ [(92 : UInt8), (120 : UInt8), (([48, 49, 50, 51, 52, 53, 54, 55, 56, 57, 97, 98, 99, 100, 101, 102] : List UInt8).getD (((b8 (Int.tdiv ((x1.getD ((x23).toNat) (0 : UInt8)).toNat : Int) 16)).toNat : Int) : Int).toNat (0 : UInt8)), (([48, 49, 50, 51, 52, 53, 54, 55, 56, 57, 97, 98, 99, 100, 101, 102] : List UInt8).getD (((b8 (Int.tmod ((x1.getD ((x23).toNat) (0 : UInt8)).toNat : Int) 16)).toNat : Int) : Int).toNat (0 : UInt8)), (92 : UInt8)]) (i64.wrap (x23 + 1))) else none) else none) else none) else none) else none) else (if x18.length + 1 ≤ 140737488355328 then (spec_l1quoted.l0 k29 x1 (x18 ++ [(x1.getD ((x23).toNat) (0 : UInt8))]) (i64.wrap (x23 + 1))) else none))))))) else none) else (if x18.length + 1 ≤ 140737488355328 then some (x18 ++ [(39 : UInt8)]) else none))
def spec_l1quoted.f (k : Nat) (x1 : List UInt8) : Option (List UInt8) := (spec_l1quoted.l0 k x1 [(39 : UInt8)] 0)
theorem spec_l1quoted.calls {k : Nat} {w : World} {H : Hp} {x1 : List UInt8} {A2 : Option Addr} {c3 : Nat} (h4 : Rd tByte H A2 x1) (l5 : x1.length ≤ c3) (S : Own [] H w) {r : List UInt8} (M : spec_l1quoted.f k x1 = some r) :
  Calls Tryz.prog 98 #[.slice A2 x1.length c3] w (fun e e_w => ∃ (A_1 : Option Addr) (c_1 : Nat) (F_1 : Foot) (H_ : Hp), e = .returned (.slice A_1 r.length c_1) ∧ Row tByte 5 H_ (hp e_w) F_1 A_1 c_1 r ∧ St (anyOf []) H w [F_1] H_ e_w) := by
 rw [spec_l1quoted.f] at M
 refine enter (l := [.slice A2 x1.length c3]) 62 func98 rfl rfl rfl ?_
 have S0_ := S.st
 refine wQ (wR (lP 1 (wN (tN (wQ (wR (lP 1 (wN (tN (wQ (wR ?_)))))))))))
 refine lW 7 (new_blk (v := fun g_ => .slice (some ⟨g_, 0, none⟩) 1 1) (cs := #[.int .u8 39]) (t := 5) S0_ kr) ?_
 rintro _ w6 ⟨g7, rfl, b9, S10, K11⟩
 have S12 := S10.unit
 have S13 := S12.pulls [(is g7), no] [1] rfl
 obtain ⟨h14, S15⟩ := row_lit (d := tByte) (xs := [(39 : UInt8)]) S13 b9 rfl (elsO_one1 rfl) (Nat.le_of_ble_eq_true rfl)
 refine lP 1 (wN (tN (wQ (wQ (wR (lP 1 (wN (tN (wp_block ?_)))))))))
 refine wp_loop_g (fun k27 a28 w16 => ∃ (f17 : Nat → Value) (x18 : List UInt8) (A19 : Option Addr) (c20 : Nat) (F21 : Foot) (x23 : Int), a28 = mk 62 (upd (upd (upd (upd f17 0 (.slice A2 x1.length c3)) 3 (str ([48, 49, 50, 51, 52, 53, 54, 55, 56, 57, 97, 98, 99, 100, 101, 102] : List UInt8))) 4 (.slice A19 x18.length c20)) 5 (.int .i64 x23)) ∧ Row tByte 5 H (hp w16) F21 A19 c20 x18 ∧ St (anyOf []) H w [F21] H w16 ∧ spec_l1quoted.l0 k27 x1 x18 x23 = some r) k ⟨_, [(39 : UInt8)], (some ⟨g7, 0, none⟩), 1, (or2 (is g7) no), 0, (hdw (hdc (hdc (hdc (hdc rfl kr) kr) kr) kr)), h14, S15, M⟩ ?_
 clear M
 rintro k27 a28 w16 ⟨f17, x18, A19, c20, F21, x23, rfl, h22, S24, M⟩
 rcases k27 with _ | k29
 ·rw [spec_l1quoted.l0] at M
  cases M
 rw [spec_l1quoted.l0] at M
 refine wQ (wQ (wR (lP 4 (wN (tN ?_)))))
 obtain ⟨q30, M⟩ | ⟨q30, M⟩ := ifd M
 ·refine cF (bF q30) (wp_exit (tE (tE (inb_hit (tN (wQ (wR (lP 1 ?_))))))))
  refine lW 60 (new_blk (v := fun g_ => .slice (some ⟨g_, 0, none⟩) 1 1) (cs := #[.int .u8 39]) (t := 5) S24 kr) ?_
  rintro _ w229 ⟨g230, rfl, b231, S232, K233⟩
  replace h22 := h22.move (K233.a 0)
  obtain ⟨q234, M⟩ := chk M
  have S235 := S232.pulls [F21, (is g230)] [1] rfl
  have S236 := S235.unit
  have S237 := S236.pulls [F21, no, (is g230)] [1] rfl
  refine lW 61 (e_append (d := tByte) (n := x18.length) (xs := x18) (cap := c20) (A := A19) (ys := [(39 : UInt8)]) (A2 := (some ⟨g230, 0, none⟩)) (c2 := 1) (z := .int .u8 0) (bytes := 1) S237 underlying22 kr rfl (by decide) kr rfl kr h22 (elsO_one1 rfl) (.inr (blk_news b231 rfl)) (show (x18.length + [(39 : UInt8)].length) * 1 ≤ _ by first | omega | (simp only [List.length_cons, List.length_nil]; omega)) (by decide)) ?_
  rintro _ w238 ⟨A239, c240, F241, rfl, h242, S243, K244⟩
  refine lP 1 (wN (tN (wT ?_)))
  obtain rfl := sj M
  have S245 := St.first (Fa := [F241]) (Fr := [(is g230)]) S243
  exact ret1 rfl rfl  kr ⟨A239, c240, F241, H, rfl, h242, S245⟩
 refine cT (bT q30) (wK (tN (wQ (wp_block (wQ (wR (lP 2 ?_)))))))
 obtain ⟨q31, M⟩ := chk M
 obtain ⟨b32, o33, e34⟩ := Rd.addr h4 (show (x23).toNat < x1.length by omega)
 obtain ⟨y35, r36, k37⟩ := Rd.at h4 e34 (getD_some (0 : UInt8) (show (x23).toNat < x1.length by omega))
 obtain rfl := r36
 refine lV 16 (eJ underlying22 e34 q31 q30) (lV 17 (eK underlying5 (hpx (S24.inv.cell (k37 0 _ rfl)))) (lP 1 (wN (tN (wQ (wR (lP 3 ?_)))))))
 obtain ⟨q38, M⟩ | ⟨q38, M⟩ := ifc M
 ·refine lP1 3 20 (bT q38) (wN (tN (cond_t rfl kr (wR (lP 2 ?_)))))
  refine lW 26 (new_blk (v := fun g_ => .slice (some ⟨g_, 0, none⟩) 2 2) (cs := #[.int .u8 92, .int .u8 ((x1.getD ((x23).toNat) (0 : UInt8)).toNat : Int)]) (t := 5) S24 kr) ?_
  rintro _ w39 ⟨g40, rfl, b41, S42, K43⟩
  replace h22 := h22.move (K43.a 0)
  obtain ⟨q44, M⟩ := chk M
  have S45 := S42.pulls [F21, (is g40)] [1] rfl
  have S46 := S45.unit
  have S47 := S46.pulls [F21, no, (is g40)] [1] rfl
  refine lW 27 (e_append (d := tByte) (n := x18.length) (xs := x18) (cap := c20) (A := A19) (ys := [(92 : UInt8), (x1.getD ((x23).toNat) (0 : UInt8))]) (A2 := (some ⟨g40, 0, none⟩)) (c2 := 2) (z := .int .u8 0) (bytes := 1) S47 underlying22 kr rfl (by decide) kr rfl kr h22 (elsO_no (d := tByte) rfl (elsO_no (d := tByte) rfl (elsO_nil _ _ _ no))) (.inr (blk_news b41 rfl)) (show (x18.length + [(92 : UInt8), (x1.getD ((x23).toNat) (0 : UInt8))].length) * 1 ≤ _ by first | omega | (simp only [List.length_cons, List.length_nil]; omega)) (by decide)) ?_
  rintro _ w48 ⟨A49, c50, F51, rfl, h52, S53, K54⟩
  refine lP 1 (wN (inb_n (tN (wR (lP 3 (wN (tN ?_)))))))
  have S55 := St.first (Fa := [F51]) (Fr := [(is g40)]) S53
  exact ⟨k29, (by omega), _, (x18 ++ [(92 : UInt8), (x1.getD ((x23).toNat) (0 : UInt8))]), A49, c50, F51, (i64.wrap (x23 + 1)), (hdw (hdc (hdc (hdc (hdc rfl kr) kr) kr) kr)), h52, S55, M⟩
 refine lP1 3 20 (bF q38) (wN (tN ?_))
 obtain ⟨q56, M⟩ | ⟨q56, M⟩ := ifc M
 ·refine cT (bT q56) (wR (lP 2 ?_))
  refine lW 26 (new_blk (v := fun g_ => .slice (some ⟨g_, 0, none⟩) 2 2) (cs := #[.int .u8 92, .int .u8 ((x1.getD ((x23).toNat) (0 : UInt8)).toNat : Int)]) (t := 5) S24 kr) ?_
  rintro _ w57 ⟨g58, rfl, b59, S60, K61⟩
  replace h22 := h22.move (K61.a 0)
  obtain ⟨q62, M⟩ := chk M
  have S63 := S60.pulls [F21, (is g58)] [1] rfl
  have S64 := S63.unit
  have S65 := S64.pulls [F21, no, (is g58)] [1] rfl
  refine lW 27 (e_append (d := tByte) (n := x18.length) (xs := x18) (cap := c20) (A := A19) (ys := [(92 : UInt8), (x1.getD ((x23).toNat) (0 : UInt8))]) (A2 := (some ⟨g58, 0, none⟩)) (c2 := 2) (z := .int .u8 0) (bytes := 1) S65 underlying22 kr rfl (by decide) kr rfl kr h22 (elsO_no (d := tByte) rfl (elsO_no (d := tByte) rfl (elsO_nil _ _ _ no))) (.inr (blk_news b59 rfl)) (show (x18.length + [(92 : UInt8), (x1.getD ((x23).toNat) (0 : UInt8))].length) * 1 ≤ _ by first | omega | (simp only [List.length_cons, List.length_nil]; omega)) (by decide)) ?_
  rintro _ w66 ⟨A67, c68, F69, rfl, h70, S71, K72⟩
  refine lP 1 (wN (inb_n (tN (wR (lP 3 (wN (tN ?_)))))))
  have S73 := St.first (Fa := [F69]) (Fr := [(is g58)]) S71
  exact ⟨k29, (by omega), _, (x18 ++ [(92 : UInt8), (x1.getD ((x23).toNat) (0 : UInt8))]), A67, c68, F69, (i64.wrap (x23 + 1)), (hdw (hdc (hdc (hdc (hdc rfl kr) kr) kr) kr)), h70, S73, M⟩
 refine cF (bF q56) (wQ (wR (lP 2 (wN (tN ?_)))))
 obtain ⟨q74, M⟩ | ⟨q74, M⟩ := ifc M
 ·refine cT (bT q74) (wR (lP 1 ?_))
  refine lW 31 (new_blk (v := fun g_ => .slice (some ⟨g_, 0, none⟩) 2 2) (cs := #[.int .u8 92, .int .u8 110]) (t := 5) S24 kr) ?_
  rintro _ w75 ⟨g76, rfl, b77, S78, K79⟩
  replace h22 := h22.move (K79.a 0)
  obtain ⟨q80, M⟩ := chk M
  have S81 := S78.pulls [F21, (is g76)] [1] rfl
  have S82 := S81.unit
  have S83 := S82.pulls [F21, no, (is g76)] [1] rfl
  refine lW 32 (e_append (d := tByte) (n := x18.length) (xs := x18) (cap := c20) (A := A19) (ys := [(92 : UInt8), (110 : UInt8)]) (A2 := (some ⟨g76, 0, none⟩)) (c2 := 2) (z := .int .u8 0) (bytes := 1) S83 underlying22 kr rfl (by decide) kr rfl kr h22 (elsO_no (d := tByte) rfl (elsO_no (d := tByte) rfl (elsO_nil _ _ _ no))) (.inr (blk_news b77 rfl)) (show (x18.length + [(92 : UInt8), (110 : UInt8)].length) * 1 ≤ _ by first | omega | (simp only [List.length_cons, List.length_nil]; omega)) (by decide)) ?_
  rintro _ w84 ⟨A85, c86, F87, rfl, h88, S89, K90⟩
  refine lP 1 (wN (inb_n (tN (wR (lP 3 (wN (tN ?_)))))))
  have S91 := St.first (Fa := [F87]) (Fr := [(is g76)]) S89
  exact ⟨k29, (by omega), _, (x18 ++ [(92 : UInt8), (110 : UInt8)]), A85, c86, F87, (i64.wrap (x23 + 1)), (hdw (hdc (hdc (hdc (hdc rfl kr) kr) kr) kr)), h88, S91, M⟩
 refine cF (bF q74) (wQ (wR (lP 2 (wN (tN ?_)))))
 obtain ⟨q92, M⟩ | ⟨q92, M⟩ := ifc M
 ·refine cT (bT q92) (wR (lP 1 ?_))
  refine lW 36 (new_blk (v := fun g_ => .slice (some ⟨g_, 0, none⟩) 2 2) (cs := #[.int .u8 92, .int .u8 116]) (t := 5) S24 kr) ?_
  rintro _ w93 ⟨g94, rfl, b95, S96, K97⟩
  replace h22 := h22.move (K97.a 0)
  obtain ⟨q98, M⟩ := chk M
  have S99 := S96.pulls [F21, (is g94)] [1] rfl
  have S100 := S99.unit
  have S101 := S100.pulls [F21, no, (is g94)] [1] rfl
  refine lW 37 (e_append (d := tByte) (n := x18.length) (xs := x18) (cap := c20) (A := A19) (ys := [(92 : UInt8), (116 : UInt8)]) (A2 := (some ⟨g94, 0, none⟩)) (c2 := 2) (z := .int .u8 0) (bytes := 1) S101 underlying22 kr rfl (by decide) kr rfl kr h22 (elsO_no (d := tByte) rfl (elsO_no (d := tByte) rfl (elsO_nil _ _ _ no))) (.inr (blk_news b95 rfl)) (show (x18.length + [(92 : UInt8), (116 : UInt8)].length) * 1 ≤ _ by first | omega | (simp only [List.length_cons, List.length_nil]; omega)) (by decide)) ?_
  rintro _ w102 ⟨A103, c104, F105, rfl, h106, S107, K108⟩
  refine lP 1 (wN (inb_n (tN (wR (lP 3 (wN (tN ?_)))))))
  have S109 := St.first (Fa := [F105]) (Fr := [(is g94)]) S107
  exact ⟨k29, (by omega), _, (x18 ++ [(92 : UInt8), (116 : UInt8)]), A103, c104, F105, (i64.wrap (x23 + 1)), (hdw (hdc (hdc (hdc (hdc rfl kr) kr) kr) kr)), h106, S109, M⟩
 refine cF (bF q92) (wQ (wR (lP 3 ?_)))
 obtain ⟨q110, M⟩ | ⟨q110, M⟩ := ifc M
 ·refine lP1 3 40 (bT q110) (wN (tN (cond_t rfl kr ?_)))
  refine region_mix (S := (fun (L_ : Array Bool) (w_ : World) => Ext H (hp w_) ∧ True)) kr S24 ?_
  intro w111 S112 K113 hc114
  have hs115 : (fun (L_ : Array Bool) (w_ : World) => Ext H (hp w_) ∧ True) (Array.replicate 12 false) w111 := ⟨S112.inv, trivial⟩
  replace h22 := h22.move (K113.a 0)
  refine xV 0 44 rfl hc114 hs115 (fun L_ w_ hc_ hu_ hs_ => eM (.slice A19 x18.length c20)) ?_; intro hc116 hs117
  refine xV 1 45 rfl hc116 hs117 (fun L_ w_ hc_ hu_ hs_ => eM (str ([48, 49, 50, 51, 52, 53, 54, 55, 56, 57, 97, 98, 99, 100, 101, 102] : List UInt8))) ?_; intro hc118 hs119
  refine xV 2 46 rfl hc118 hs119 (fun L_ w_ hc_ hu_ hs_ => eM (.int .u8 ((x1.getD ((x23).toNat) (0 : UInt8)).toNat : Int))) ?_; intro hc120 hs121
  refine xV 3 47 rfl hc120 hs121 (fun L_ w_ hc_ hu_ hs_ => e_quo8 (a := ((x1.getD ((x23).toNat) (0 : UInt8)).toNat : Int)) (b := 16) kr rfl (by decide)) ?_; intro hc122 hs123
  obtain ⟨q124, M⟩ := chk M
  obtain ⟨q125, M⟩ := chk M
  refine xV 4 48 rfl hc122 hs123 (fun L_ w_ hc_ hu_ hs_ => e_sindex (p := ([48, 49, 50, 51, 52, 53, 54, 55, 56, 57, 97, 98, 99, 100, 101, 102] : List UInt8)) (i := ((b8 (Int.tdiv ((x1.getD ((x23).toNat) (0 : UInt8)).toNat : Int) 16)).toNat : Int)) (k := .u8) underlying9 kr kr q124 q125) ?_; intro hc126 hs127
  refine xV 5 49 rfl hc126 hs127 (fun L_ w_ hc_ hu_ hs_ => eM (str ([48, 49, 50, 51, 52, 53, 54, 55, 56, 57, 97, 98, 99, 100, 101, 102] : List UInt8))) ?_; intro hc128 hs129
  refine xO 6 hc128 ?_
  refine yO 6 50 rfl hs129 (eM (.int .u8 ((x1.getD ((x23).toNat) (0 : UInt8)).toNat : Int))) ?_; intro hc130 hs131
  refine xO 7 hc130 ?_
  refine yO 7 51 rfl hs131 (e_rem8 (x8 := (x1.getD ((x23).toNat) (0 : UInt8))) (b := 16) kr rfl (by decide)) ?_; intro hc132 hs133
  obtain ⟨q134, M⟩ := chk M
  obtain ⟨q135, M⟩ := chk M
  refine xO 8 hc132 ?_
  refine yO 8 52 rfl hs133 (e_sindex (p := ([48, 49, 50, 51, 52, 53, 54, 55, 56, 57, 97, 98, 99, 100, 101, 102] : List UInt8)) (i := ((b8 (Int.tmod ((x1.getD ((x23).toNat) (0 : UInt8)).toNat : Int) 16)).toNat : Int)) (k := .u8) underlying9 kr kr q134 q135) ?_; intro hc136 hs137
  refine xO 9 hc136 ?_
  refine yE 9 53 rfl (new_blk (v := fun g_ => .slice (some ⟨g_, 0, none⟩) 5 5) (cs := #[.int .u8 92, .int .u8 120, .int .u8 ((([48, 49, 50, 51, 52, 53, 54, 55, 56, 57, 97, 98, 99, 100, 101, 102] : List UInt8).getD (((b8 (Int.tdiv ((x1.getD ((x23).toNat) (0 : UInt8)).toNat : Int) 16)).toNat : Int) : Int).toNat (0 : UInt8)).toNat : Int), .int .u8 ((([48, 49, 50, 51, 52, 53, 54, 55, 56, 57, 97, 98, 99, 100, 101, 102] : List UInt8).getD (((b8 (Int.tmod ((x1.getD ((x23).toNat) (0 : UInt8)).toNat : Int) 16)).toNat : Int) : Int).toNat (0 : UInt8)).toNat : Int), .int .u8 92]) (t := 5) S112 kr) ?_
  rintro hc143 _ w138 ⟨g139, rfl, b140, S141, K142⟩
  replace h22 := h22.move (K142.a 0)
  refine ⟨⟨S141.inv, trivial⟩, fun hs144 => ?_⟩
  obtain ⟨q145, M⟩ := chk M
  have S146 := S141.pulls [F21, (is g139)] [1] rfl
  have S147 := S146.unit
  have S148 := S147.pulls [F21, no, (is g139)] [1] rfl
  refine xO 10 hc143 ?_
  refine yE 10 54 rfl (e_append (d := tByte) (n := x18.length) (xs := x18) (cap := c20) (A := A19) (ys := [(92 : UInt8), (120 : UInt8), (([48, 49, 50, 51, 52, 53, 54, 55, 56, 57, 97, 98, 99, 100, 101, 102] : List UInt8).getD (((b8 (Int.tdiv ((x1.getD ((x23).toNat) (0 : UInt8)).toNat : Int) 16)).toNat : Int) : Int).toNat (0 : UInt8)), (([48, 49, 50, 51, 52, 53, 54, 55, 56, 57, 97, 98, 99, 100, 101, 102] : List UInt8).getD (((b8 (Int.tmod ((x1.getD ((x23).toNat) (0 : UInt8)).toNat : Int) 16)).toNat : Int) : Int).toNat (0 : UInt8)), (92 : UInt8)]) (A2 := (some ⟨g139, 0, none⟩)) (c2 := 5) (z := .int .u8 0) (bytes := 1) S148 underlying22 kr rfl (by decide) kr rfl kr h22 (elsO_no (d := tByte) rfl (elsO_no (d := tByte) rfl (elsO_no (d := tByte) rfl (elsO_no (d := tByte) rfl (elsO_no (d := tByte) rfl (elsO_nil _ _ _ no)))))) (.inr (blk_news b140 rfl)) (show (x18.length + [(92 : UInt8), (120 : UInt8), (([48, 49, 50, 51, 52, 53, 54, 55, 56, 57, 97, 98, 99, 100, 101, 102] : List UInt8).getD (((b8 (Int.tdiv ((x1.getD ((x23).toNat) (0 : UInt8)).toNat : Int) 16)).toNat : Int) : Int).toNat (0 : UInt8)), (([48, 49, 50, 51, 52, 53, 54, 55, 56, 57, 97, 98, 99, 100, 101, 102] : List UInt8).getD (((b8 (Int.tmod ((x1.getD ((x23).toNat) (0 : UInt8)).toNat : Int) 16)).toNat : Int) : Int).toNat (0 : UInt8)), (92 : UInt8)].length) * 1 ≤ _ by first | omega | (simp only [List.length_cons, List.length_nil]; omega)) (by decide)) ?_
  rintro hc156 _ w149 ⟨A150, c151, F152, rfl, h153, S154, K155⟩
  refine ⟨⟨S154.inv, trivial⟩, fun hs157 => ?_⟩
  refine xO 11 hc156 ?_
  refine yO 11 4 rfl hs157 (eA (.slice A150 ((x18 ++ [(92 : UInt8), (120 : UInt8), (([48, 49, 50, 51, 52, 53, 54, 55, 56, 57, 97, 98, 99, 100, 101, 102] : List UInt8).getD (((b8 (Int.tdiv ((x1.getD ((x23).toNat) (0 : UInt8)).toNat : Int) 16)).toNat : Int) : Int).toNat (0 : UInt8)), (([48, 49, 50, 51, 52, 53, 54, 55, 56, 57, 97, 98, 99, 100, 101, 102] : List UInt8).getD (((b8 (Int.tmod ((x1.getD ((x23).toNat) (0 : UInt8)).toNat : Int) 16)).toNat : Int) : Int).toNat (0 : UInt8)), (92 : UInt8)]).length) c151)) ?_; intro hc158 hs159
  refine xn kr ?_ _
  refine inb_n (tN (wR (lP 3 (wN (tN ?_)))))
  have S160 := St.first (Fa := [F152]) (Fr := [(is g139)]) S154
  exact ⟨k29, (by omega), _, (x18 ++ [(92 : UInt8), (120 : UInt8), (([48, 49, 50, 51, 52, 53, 54, 55, 56, 57, 97, 98, 99, 100, 101, 102] : List UInt8).getD (((b8 (Int.tdiv ((x1.getD ((x23).toNat) (0 : UInt8)).toNat : Int) 16)).toNat : Int) : Int).toNat (0 : UInt8)), (([48, 49, 50, 51, 52, 53, 54, 55, 56, 57, 97, 98, 99, 100, 101, 102] : List UInt8).getD (((b8 (Int.tmod ((x1.getD ((x23).toNat) (0 : UInt8)).toNat : Int) 16)).toNat : Int) : Int).toNat (0 : UInt8)), (92 : UInt8)]), A150, c151, F152, (i64.wrap (x23 + 1)), (hdw (hdc (hdc (hdc (hdc rfl kr) kr) kr) kr)), h153, S160, M⟩
 refine lP1 3 40 (bF q110) (wN (tN ?_))
 obtain ⟨q161, M⟩ | ⟨q161, M⟩ := ifd M
 ·refine cF (bF q161) (wR (lP 2 ?_))
  refine lW 57 (new_blk (v := fun g_ => .slice (some ⟨g_, 0, none⟩) 1 1) (cs := #[.int .u8 ((x1.getD ((x23).toNat) (0 : UInt8)).toNat : Int)]) (t := 5) S24 kr) ?_
  rintro _ w212 ⟨g213, rfl, b214, S215, K216⟩
  replace h22 := h22.move (K216.a 0)
  obtain ⟨q217, M⟩ := chk M
  have S218 := S215.pulls [F21, (is g213)] [1] rfl
  have S219 := S218.unit
  have S220 := S219.pulls [F21, no, (is g213)] [1] rfl
  refine lW 58 (e_append (d := tByte) (n := x18.length) (xs := x18) (cap := c20) (A := A19) (ys := [(x1.getD ((x23).toNat) (0 : UInt8))]) (A2 := (some ⟨g213, 0, none⟩)) (c2 := 1) (z := .int .u8 0) (bytes := 1) S220 underlying22 kr rfl (by decide) kr rfl kr h22 (elsO_one1 rfl) (.inr (blk_news b214 rfl)) (show (x18.length + [(x1.getD ((x23).toNat) (0 : UInt8))].length) * 1 ≤ _ by first | omega | (simp only [List.length_cons, List.length_nil]; omega)) (by decide)) ?_
  rintro _ w221 ⟨A222, c223, F224, rfl, h225, S226, K227⟩
  refine lP 1 (wN (inb_n (tN (wR (lP 3 (wN (tN ?_)))))))
  have S228 := St.first (Fa := [F224]) (Fr := [(is g213)]) S226
  exact ⟨k29, (by omega), _, (x18 ++ [(x1.getD ((x23).toNat) (0 : UInt8))]), A222, c223, F224, (i64.wrap (x23 + 1)), (hdw (hdc (hdc (hdc (hdc rfl kr) kr) kr) kr)), h225, S228, M⟩
 refine cT (bT q161) ?_
 refine region_mix (S := (fun (L_ : Array Bool) (w_ : World) => Ext H (hp w_) ∧ True)) kr S24 ?_
 intro w162 S163 K164 hc165
 have hs166 : (fun (L_ : Array Bool) (w_ : World) => Ext H (hp w_) ∧ True) (Array.replicate 12 false) w162 := ⟨S163.inv, trivial⟩
 replace h22 := h22.move (K164.a 0)
 refine xV 0 44 rfl hc165 hs166 (fun L_ w_ hc_ hu_ hs_ => eM (.slice A19 x18.length c20)) ?_; intro hc167 hs168
 refine xV 1 45 rfl hc167 hs168 (fun L_ w_ hc_ hu_ hs_ => eM (str ([48, 49, 50, 51, 52, 53, 54, 55, 56, 57, 97, 98, 99, 100, 101, 102] : List UInt8))) ?_; intro hc169 hs170
 refine xV 2 46 rfl hc169 hs170 (fun L_ w_ hc_ hu_ hs_ => eM (.int .u8 ((x1.getD ((x23).toNat) (0 : UInt8)).toNat : Int))) ?_; intro hc171 hs172
 refine xV 3 47 rfl hc171 hs172 (fun L_ w_ hc_ hu_ hs_ => e_quo8 (a := ((x1.getD ((x23).toNat) (0 : UInt8)).toNat : Int)) (b := 16) kr rfl (by decide)) ?_; intro hc173 hs174
 obtain ⟨q175, M⟩ := chk M
 obtain ⟨q176, M⟩ := chk M
 refine xV 4 48 rfl hc173 hs174 (fun L_ w_ hc_ hu_ hs_ => e_sindex (p := ([48, 49, 50, 51, 52, 53, 54, 55, 56, 57, 97, 98, 99, 100, 101, 102] : List UInt8)) (i := ((b8 (Int.tdiv ((x1.getD ((x23).toNat) (0 : UInt8)).toNat : Int) 16)).toNat : Int)) (k := .u8) underlying9 kr kr q175 q176) ?_; intro hc177 hs178
 refine xV 5 49 rfl hc177 hs178 (fun L_ w_ hc_ hu_ hs_ => eM (str ([48, 49, 50, 51, 52, 53, 54, 55, 56, 57, 97, 98, 99, 100, 101, 102] : List UInt8))) ?_; intro hc179 hs180
 refine xO 6 hc179 ?_
 refine yO 6 50 rfl hs180 (eM (.int .u8 ((x1.getD ((x23).toNat) (0 : UInt8)).toNat : Int))) ?_; intro hc181 hs182
 refine xO 7 hc181 ?_
 refine yO 7 51 rfl hs182 (e_rem8 (x8 := (x1.getD ((x23).toNat) (0 : UInt8))) (b := 16) kr rfl (by decide)) ?_; intro hc183 hs184
 obtain ⟨q185, M⟩ := chk M
 obtain ⟨q186, M⟩ := chk M
 refine xO 8 hc183 ?_
 refine yO 8 52 rfl hs184 (e_sindex (p := ([48, 49, 50, 51, 52, 53, 54, 55, 56, 57, 97, 98, 99, 100, 101, 102] : List UInt8)) (i := ((b8 (Int.tmod ((x1.getD ((x23).toNat) (0 : UInt8)).toNat : Int) 16)).toNat : Int)) (k := .u8) underlying9 kr kr q185 q186) ?_; intro hc187 hs188
 refine xO 9 hc187 ?_
 refine yE 9 53 rfl (new_blk (v := fun g_ => .slice (some ⟨g_, 0, none⟩) 5 5) (cs := #[.int .u8 92, .int .u8 120, .int .u8 ((([48, 49, 50, 51, 52, 53, 54, 55, 56, 57, 97, 98, 99, 100, 101, 102] : List UInt8).getD (((b8 (Int.tdiv ((x1.getD ((x23).toNat) (0 : UInt8)).toNat : Int) 16)).toNat : Int) : Int).toNat (0 : UInt8)).toNat : Int), .int .u8 ((([48, 49, 50, 51, 52, 53, 54, 55, 56, 57, 97, 98, 99, 100, 101, 102] : List UInt8).getD (((b8 (Int.tmod ((x1.getD ((x23).toNat) (0 : UInt8)).toNat : Int) 16)).toNat : Int) : Int).toNat (0 : UInt8)).toNat : Int), .int .u8 92]) (t := 5) S163 kr) ?_
 rintro hc194 _ w189 ⟨g190, rfl, b191, S192, K193⟩
 replace h22 := h22.move (K193.a 0)
 refine ⟨⟨S192.inv, trivial⟩, fun hs195 => ?_⟩
 obtain ⟨q196, M⟩ := chk M
 have S197 := S192.pulls [F21, (is g190)] [1] rfl
 have S198 := S197.unit
 have S199 := S198.pulls [F21, no, (is g190)] [1] rfl
 refine xO 10 hc194 ?_
 refine yE 10 54 rfl (e_append (d := tByte) (n := x18.length) (xs := x18) (cap := c20) (A := A19) (ys := [(92 : UInt8), (120 : UInt8), (([48, 49, 50, 51, 52, 53, 54, 55, 56, 57, 97, 98, 99, 100, 101, 102] : List UInt8).getD (((b8 (Int.tdiv ((x1.getD ((x23).toNat) (0 : UInt8)).toNat : Int) 16)).toNat : Int) : Int).toNat (0 : UInt8)), (([48, 49, 50, 51, 52, 53, 54, 55, 56, 57, 97, 98, 99, 100, 101, 102] : List UInt8).getD (((b8 (Int.tmod ((x1.getD ((x23).toNat) (0 : UInt8)).toNat : Int) 16)).toNat : Int) : Int).toNat (0 : UInt8)), (92 : UInt8)]) (A2 := (some ⟨g190, 0, none⟩)) (c2 := 5) (z := .int .u8 0) (bytes := 1) S199 underlying22 kr rfl (by decide) kr rfl kr h22 (elsO_no (d := tByte) rfl (elsO_no (d := tByte) rfl (elsO_no (d := tByte) rfl (elsO_no (d := tByte) rfl (elsO_no (d := tByte) rfl (elsO_nil _ _ _ no)))))) (.inr (blk_news b191 rfl)) (show (x18.length + [(92 : UInt8), (120 : UInt8), (([48, 49, 50, 51, 52, 53, 54, 55, 56, 57, 97, 98, 99, 100, 101, 102] : List UInt8).getD (((b8 (Int.tdiv ((x1.getD ((x23).toNat) (0 : UInt8)).toNat : Int) 16)).toNat : Int) : Int).toNat (0 : UInt8)), (([48, 49, 50, 51, 52, 53, 54, 55, 56, 57, 97, 98, 99, 100, 101, 102] : List UInt8).getD (((b8 (Int.tmod ((x1.getD ((x23).toNat) (0 : UInt8)).toNat : Int) 16)).toNat : Int) : Int).toNat (0 : UInt8)), (92 : UInt8)].length) * 1 ≤ _ by first | omega | (simp only [List.length_cons, List.length_nil]; omega)) (by decide)) ?_
 rintro hc207 _ w200 ⟨A201, c202, F203, rfl, h204, S205, K206⟩
 refine ⟨⟨S205.inv, trivial⟩, fun hs208 => ?_⟩
 refine xO 11 hc207 ?_
 refine yO 11 4 rfl hs208 (eA (.slice A201 ((x18 ++ [(92 : UInt8), (120 : UInt8), (([48, 49, 50, 51, 52, 53, 54, 55, 56, 57, 97, 98, 99, 100, 101, 102] : List UInt8).getD (((b8 (Int.tdiv ((x1.getD ((x23).toNat) (0 : UInt8)).toNat : Int) 16)).toNat : Int) : Int).toNat (0 : UInt8)), (([48, 49, 50, 51, 52, 53, 54, 55, 56, 57, 97, 98, 99, 100, 101, 102] : List UInt8).getD (((b8 (Int.tmod ((x1.getD ((x23).toNat) (0 : UInt8)).toNat : Int) 16)).toNat : Int) : Int).toNat (0 : UInt8)), (92 : UInt8)]).length) c202)) ?_; intro hc209 hs210
 refine xn kr ?_ _
 refine inb_n (tN (wR (lP 3 (wN (tN ?_)))))
 have S211 := St.first (Fa := [F203]) (Fr := [(is g190)]) S205
 exact ⟨k29, (by omega), _, (x18 ++ [(92 : UInt8), (120 : UInt8), (([48, 49, 50, 51, 52, 53, 54, 55, 56, 57, 97, 98, 99, 100, 101, 102] : List UInt8).getD (((b8 (Int.tdiv ((x1.getD ((x23).toNat) (0 : UInt8)).toNat : Int) 16)).toNat : Int) : Int).toNat (0 : UInt8)), (([48, 49, 50, 51, 52, 53, 54, 55, 56, 57, 97, 98, 99, 100, 101, 102] : List UInt8).getD (((b8 (Int.tmod ((x1.getD ((x23).toNat) (0 : UInt8)).toNat : Int) 16)).toNat : Int) : Int).toNat (0 : UInt8)), (92 : UInt8)]), A201, c202, F203, (i64.wrap (x23 + 1)), (hdw (hdc (hdc (hdc (hdc rfl kr) kr) kr) kr)), h204, S211, M⟩
def spec_QuoteAtom.f (k : Nat) (x1 : List UInt8) : Option (List UInt8) := (if (x1.length : Int) > 100 then some [] else ((spec_IsPlain.f k x1).bind fun t8 => (if t8 = true then ((spec_l1copy.f x1).bind fun t15 => some t15) else ((spec_l1quoted.f k x1).bind fun t27 => some t27))))
theorem spec_QuoteAtom.calls {k : Nat} {w : World} {H : Hp} {x1 : List UInt8} {A2 : Option Addr} {c3 : Nat} (h4 : Rd tByte H A2 x1) (l5 : x1.length ≤ c3) (S : Own [] H w) {r : List UInt8} (M : spec_QuoteAtom.f k x1 = some r) :
  Calls Tryz.prog 82 #[.slice A2 x1.length c3] w (fun e e_w => ∃ (A_1 : Option Addr) (c_1 : Nat) (F_1 : Foot) (H_ : Hp), e = .returned (.slice A_1 r.length c_1) ∧ Row tByte 5 H_ (hp e_w) F_1 A_1 c_1 r ∧ St (anyOf []) H w [F_1] H_ e_w) := by
 rw [spec_QuoteAtom.f] at M
 refine enter (l := [.slice A2 x1.length c3]) 12 func82 rfl rfl rfl ?_
 have S0_ := S.st
 refine wQ (wR (lP 1 (wN (tN (wQ (wQ (wR (lP 3 (wN (tN ?_))))))))))
 obtain ⟨q6, M⟩ | ⟨q6, M⟩ := ifc M
 ·refine cT (bT q6) (wQ (wR (lP 1 (wN (tN (wT (tR ?_)))))))
  obtain rfl := sj M
  have S7 := S0_.unit
  exact ret1 rfl rfl  kr ⟨none, 0, no, H, rfl, (Row.nil _ _ _ _ no), S7⟩
 refine cF (bF q6) (wK (tN (wQ (wQ (wR (lP 1 ?_))))))
 obtain ⟨t8, u9, M⟩ := bnd M
 refine lC 7 (eE func97) (spec_IsPlain.calls h4 l5 S0_.own0 u9) ?_
 rintro _ w10 ⟨rfl, C11⟩
 refine ⟨_, rfl, ?_⟩
 obtain ⟨S12, K13⟩ := S0_.still C11
 refine wN (tN ?_)
 obtain ⟨q14, M⟩ | ⟨q14, M⟩ := ifc M
 ·refine cT (bvt q14 kr) (wQ (wR (lP 1 ?_)))
  obtain ⟨t15, u16, M⟩ := bnd M
  refine lC 9 (eE func35) (spec_l1copy.calls h4 l5 (St.own' (Fa := []) (Fr := []) S12) u16) ?_
  rintro _ w17 ⟨A20, c21, F23, H18, rfl, h22, T19⟩
  refine ⟨_, rfl, ?_⟩
  obtain ⟨S24, K25⟩ := St.call (Fa := []) (Fr := []) S12 T19
  have E26 := T19.ext
  refine lP 1 (wN (tN (wT (tR ?_))))
  obtain rfl := sj M
  exact ret1 rfl rfl  kr ⟨A20, c21, F23, H18, rfl, h22, S24⟩
 refine cF (bvf q14 kr) (wK (tN (wQ (wR (lP 1 ?_)))))
 obtain ⟨t27, u28, M⟩ := bnd M
 refine lC 11 (eE func98) (spec_l1quoted.calls h4 l5 (St.own' (Fa := []) (Fr := []) S12) u28) ?_
 rintro _ w29 ⟨A32, c33, F35, H30, rfl, h34, T31⟩
 refine ⟨_, rfl, ?_⟩
 obtain ⟨S36, K37⟩ := St.call (Fa := []) (Fr := []) S12 T31
 have E38 := T31.ext
 refine lP 1 (wN (tN (wT ?_)))
 obtain rfl := sj M
 exact ret1 rfl rfl  kr ⟨A32, c33, F35, H30, rfl, h34, S36⟩
def spec_l3out_atom.f (k : Nat) (x1 : GL3out) (x12 : List UInt8) : Option (List UInt8) := (if x1.quoted_ = true then ((spec_QuoteAtom.f k x12).bind fun t18 => some t18) else some x12)
theorem spec_l3out_atom.calls {k : Nat} {w : World} {H : Hp} (x1 : GL3out) {g2 : Nat} {A4 : Option Addr} {c5 : Nat} {A8 : Option Addr} {c9 : Nat} {x12 : List UInt8} {A13 : Option Addr} {c14 : Nat} (h6 : Rd st86 H A4 x1.ops_) (l7 : x1.ops_.length ≤ c5) (h10 : Rd sl5 H A8 x1.names_) (l11 : x1.names_.length ≤ c9) (b3 : H g2 = some (.cells #[.slice A4 x1.ops_.length c5, .slice A8 x1.names_.length c9, .bool x1.quoted_] 80 (0, 0))) (h15 : Rd tByte H A13 x12) (l16 : x12.length ≤ c14) (S : Own [] H w) {r : List UInt8} (M : spec_l3out_atom.f k x1 x12 = some r) :
  Calls Tryz.prog 77 #[.pointer (some ⟨g2, 0, none⟩), .slice A13 x12.length c14] w (fun e e_w => e = .returned (str r) ∧ Chg no w e_w) := by
 rw [spec_l3out_atom.f] at M
 refine enter (l := [.pointer (some ⟨g2, 0, none⟩), .slice A13 x12.length c14]) 14 func77 rfl rfl rfl ?_
 have S0_ := S.st
 refine wQ (wR (lP 1 (wN (tN (wQ (wQ (wR (lP 3 (lV 8 (eB 2 (S0_.inv _ _ b3)) (wN (tN ?_)))))))))))
 obtain ⟨q17, M⟩ | ⟨q17, M⟩ := ifd M
 ·refine cF (bvf q17 kr) (wK (tN (wQ (wR (lP 1 (lV 13 (e_conv_bs (A := A13) (n := x12.length) (c := c14) (xs := x12) underlying22 underlying5 underlying9 kr rfl (Rd.bytesE S0_.inv h15)) (lP 1 (wN (tN (wT ?_))))))))))
  obtain rfl := sj M
  exact ret1 rfl rfl  kr ⟨rfl, S0_.chg⟩
 refine cT (bvt q17 kr) (wQ (wR (lP 1 ?_)))
 obtain ⟨t18, u19, M⟩ := bnd M
 refine lC 10 (eE func82) (spec_QuoteAtom.calls h15 l16 (St.own' (Fa := []) (Fr := []) S0_) u19) ?_
 rintro _ w20 ⟨A23, c24, F26, H21, rfl, h25, T22⟩
 refine ⟨_, rfl, ?_⟩
 obtain ⟨S27, K28⟩ := St.call (Fa := []) (Fr := []) S0_ T22
 have E29 := T22.ext
 refine lV 11 (e_conv_bs (A := A23) (n := t18.length) (c := c24) (xs := t18) underlying22 underlying5 underlying9 kr rfl (Row.bytes h25)) (lP 1 (wN (tN (wT (tR ?_)))))
 obtain rfl := sj M
 exact ret1 rfl rfl  kr ⟨rfl, S27.chg⟩
def spec_l2is.f (x1 : List Cell) (x6 : List UInt8) (x7 : Int) : Option Bool := (if 0 < (x1.length : Int) then (if (x1.getD 0 z70).text ≠ x6 then some false else (if x7 = 0 then some (decide (((x1.getD 0 z70).kind) = 2)) else (if ((x1.getD 0 z70).kind) = 3 then some (decide (((x1.getD 0 z70).n) = x7)) else some false))) else none)
theorem spec_l2is.calls {w : World} {H : Hp} {x1 : List Cell} {A2 : Option Addr} {c3 : Nat} {x6 : List UInt8} {x7 : Int} (h4 : Rd st70 H A2 x1) (l5 : x1.length ≤ c3) (S : Own [] H w) {r : Bool} (M : spec_l2is.f x1 x6 x7 = some r) :
  Calls Tryz.prog 78 #[.slice A2 x1.length c3, str x6, .int .i64 x7] w (fun e e_w => e = .returned (.bool r) ∧ Chg no w e_w) := by
 rw [spec_l2is.f] at M
 refine enter (l := [.slice A2 x1.length c3, str x6, .int .i64 x7]) 34 func78 rfl rfl rfl ?_
 have S0_ := S.st
 refine wQ (wR (lP 1 (wN (tN (wQ (wQ (wR (lP 1 ?_))))))))
 obtain ⟨q8, M⟩ := chk M
 obtain ⟨b9, o10, e11⟩ := Rd.addr h4 (show 0 < x1.length by omega)
 obtain ⟨y12, r13, k14⟩ := Rd.at h4 e11 (getD_some z70 (show 0 < x1.length by omega))
 obtain ⟨A15, c16, rfl, l17, h18⟩ := st70_open r13
 refine lV 8 (e_indexAddr (b := b9) (off := o10) (n := x1.length) (c := c3) (sz := 3) (i := 0) (k := .i64) underlying43 e11 kr kr rfl (by omega) q8) (lP 1 (lV 10 (eK underlying22 (hpx (S0_.inv.cell (k14 2 _ rfl)))) (lV 11 (e_conv_bs (A := A15) (n := ((x1.getD 0 z70).text).length) (c := c16) (xs := (x1.getD 0 z70).text) underlying22 underlying5 underlying9 kr rfl (Rd.bytesE S0_.inv h18)) (lP 1 (lV 13 (e_sneq (p := (x1.getD 0 z70).text) (q := x6) kr kr) (wN (tN ?_)))))))
 obtain ⟨q19, M⟩ | ⟨q19, M⟩ := ifc M
 ·refine cT (bT q19) (wQ (wR (lP 1 (wN (tN (wT (tR ?_)))))))
  obtain rfl := sj M
  exact ret1 rfl rfl  kr ⟨rfl, S0_.chg⟩
 refine cF (bF q19) (wK (tN (wQ (wQ (wR (lP 2 (wN (tN ?_))))))))
 obtain ⟨q20, M⟩ | ⟨q20, M⟩ := ifc M
 ·refine cT (bT q20) (wQ (wR (lP 1 ?_)))
  obtain ⟨b21, o22, e23⟩ := Rd.addr h4 (show 0 < x1.length by omega)
  obtain ⟨y24, r25, k26⟩ := Rd.at h4 e23 (getD_some z70 (show 0 < x1.length by omega))
  obtain ⟨A27, c28, rfl, l29, h30⟩ := st70_open r25
  refine lV 17 (e_indexAddr (b := b21) (off := o22) (n := x1.length) (c := c3) (sz := 3) (i := 0) (k := .i64) underlying43 e23 kr kr rfl (by omega) q8) (lP 1 (lV 19 (eK underlying3 (hpx (S0_.inv.cell (k26 0 _ rfl)))) (lP 2 (wN (tN (wT (tR ?_)))))))
  obtain rfl := sj M
  exact ret1 rfl rfl  kr ⟨rfl, S0_.chg⟩
 refine cF (bF q20) (wK (tN (wQ (wR (lP 1 ?_)))))
 obtain ⟨b31, o32, e33⟩ := Rd.addr h4 (show 0 < x1.length by omega)
 obtain ⟨y34, r35, k36⟩ := Rd.at h4 e33 (getD_some z70 (show 0 < x1.length by omega))
 obtain ⟨A37, c38, rfl, l39, h40⟩ := st70_open r35
 refine lV 22 (e_indexAddr (b := b31) (off := o32) (n := x1.length) (c := c3) (sz := 3) (i := 0) (k := .i64) underlying43 e33 kr kr rfl (by omega) q8) (lP 1 (lV 24 (eK underlying3 (hpx (S0_.inv.cell (k36 0 _ rfl)))) (lP 2 ?_)))
 obtain ⟨q41, M⟩ | ⟨q41, M⟩ := ifd M
 ·refine lP1 8 26 (bF q41) (wN (tN (wT ?_)))
  obtain rfl := sj M
  exact ret1 rfl rfl  kr ⟨rfl, S0_.chg⟩
 refine lP1 1 26 (bT q41) ?_
 obtain ⟨b42, o43, e44⟩ := Rd.addr h4 (show 0 < x1.length by omega)
 obtain ⟨y45, r46, k47⟩ := Rd.at h4 e44 (getD_some z70 (show 0 < x1.length by omega))
 obtain ⟨A48, c49, rfl, l50, h51⟩ := st70_open r46
 refine lG 28 26 (bT q41) (e_indexAddr (b := b42) (off := o43) (n := x1.length) (c := c3) (sz := 3) (i := 0) (k := .i64) underlying43 e44 kr kr rfl (by omega) q8) (lP1 1 26 (bT q41) (lG 30 26 (bT q41) (eK underlying3 (hpx (S0_.inv.cell (k47 1 _ rfl)))) (lP1 4 26 (bT q41) (wN (tN (wT ?_))))))
 obtain rfl := sj M
 exact ret1 rfl rfl  kr ⟨rfl, S0_.chg⟩
end Go.Proofs.YtdkbfcmekppnmaaGreatDoor
