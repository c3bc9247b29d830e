import Derived.Test.YtminnekeekhjcaaProg
import Derived.Test.YtminnekeekhjcaaPo2
namespace Go.Proofs.Ytminnekeekhjcaa
open Go.Sx Go.Sy
attribute [local irreducible] Go.wpList Go.wpStill Go.wpQuiet Go.Code.wp
set_option maxRecDepth 100000
set_option maxHeartbeats 1000000
set_option linter.unusedVariables false
set_option linter.unusedSimpArgs false

/-! spec_l4open -/
structure GL4rd where
  b_ : List UInt8
  i_ : Int
  deriving Inhabited
def spec_l4open.f (x1 : List UInt8) : Option GL4rd := (if (x1.length : Int) > 500 then (if 500 ≤ (x1.length : Int) then some (⟨(x1.take ((500 : Int).toNat)), 0⟩ : GL4rd) else none) else (if 0 ≤ (x1.length : Int) then (if (x1.length : Int) ≤ (x1.length : Int) then some (⟨(x1.take (((x1.length : Int) : Int).toNat)), 0⟩ : GL4rd) else none) else none))
theorem spec_l4open.calls (w : World) (H : Hp) (x1 : List UInt8) (A2 : Option Addr) (c3 : Nat) (h4 : Rd tByte H A2 x1) (l5 : x1.length ≤ c3) (S : Own [] H w) (r : GL4rd) (M : spec_l4open.f x1 = some r) :
    Calls Try.prog 40 #[.slice A2 x1.length c3] w (fun e e_w => ∃ (g_1 : Nat) (A_1 : Option Addr) (c_1 : Nat) (H_ : Hp), e = .returned (.pointer (some ⟨g_1, 0, none⟩)) ∧ Rd tByte H_ A_1 r.b_ ∧ r.b_.length ≤ c_1 ∧ e_w.heap[g_1]? = some (.cells #[.slice A_1 r.b_.length c_1, .int .i64 r.i_] 66 (0, 0)) ∧ St (anyOf []) H w [(is g_1)] H_ e_w) := by
  rw [spec_l4open.f] at M
  refine enter (l := [.slice A2 x1.length c3]) 13 Try.func40 rfl rfl rfl ?_
  have S0_ := S.st
  refine wp_seq (wR (lV 2 (eA (.pointer none)) (wN (then_n (wp_seq (wR (lV 4 (eM (.slice A2 x1.length c3)) ?_)))))))
  refine lV 5 (e_len (A := A2) (n := x1.length) (c := c3) Try.underlying32 (by kernel_rfl)) (lV 3 (eA (.int .i64 (x1.length : Int))) (wN (then_n (wp_seq (wp_seq (wR (lV 6 (eM (.int .i64 (x1.length : Int))) ?_)))))))
  refine lV 7 (e_gtr (k := .i64) (a := (x1.length : Int)) (b := 500) (by kernel_rfl) rfl) (wN (then_n ?_))
  by_cases q6 : (x1.length : Int) > 500
  · replace M := ifp q6 M
    refine cT (bT q6) (wR (lV 3 (eA (.int .i64 500)) (wN (then_n (wp_seq (wR (lV 8 (eM (.slice A2 x1.length c3)) ?_)))))))
    refine lV 9 (eM (.int .i64 500)) ?_
    obtain ⟨q7, M⟩ := chk M
    refine lV 10 (e_slice_h (xs := x1) (n := x1.length) (m := 1) (cap := c3) (A := A2) (b := 500) (k2 := .i64) Try.underlying32 (by kernel_rfl) (by kernel_rfl) (by kernel_rfl) (by decide) q7 (by have := l5; have := (rfl : x1.length = x1.length); omega) (take_len (by decide) q7 rfl)) ?_
    have h8 := Rd.take (n := (500 : Int).toNat) h4
    have l9 : (x1.take ((500 : Int).toNat)).length ≤ c3 := by rw [List.length_take]; have := l5; omega
    refine lV 11 (show _ = Result.ok (Next.value (.agg #[.slice A2 (x1.take ((500 : Int).toNat)).length c3, .int .i64 0])) w from by kernel_rfl) ?_
    refine lW 12 (nB #[.slice A2 (x1.take ((500 : Int).toNat)).length c3, .int .i64 0] 66 S0_) ?_
    rintro _ w10 ⟨g11, rfl, b12, S13, K14⟩
    refine lV 2 (eA (.pointer (some ⟨g11, 0, none⟩))) (wN (then_n (wp_ret ?_)))
    obtain rfl := Option.some.inj M
    exact ret1 rfl rfl  (show _ = .pointer (some ⟨g11, 0, none⟩) from (by kernel_rfl)) ⟨g11, A2, c3, H, rfl, h8, l9, b12, S13⟩
  replace M := ifn q6 M
  refine cF (bF q6) (wp_skip (then_n (wp_seq (wR (lV 8 (eM (.slice A2 x1.length c3)) (lV 9 (eM (.int .i64 (x1.length : Int))) ?_))))))
  obtain ⟨q15, M⟩ := chk M
  obtain ⟨q16, M⟩ := chk M
  refine lV 10 (e_slice_h (xs := x1) (n := x1.length) (m := 1) (cap := c3) (A := A2) (b := (x1.length : Int)) (k2 := .i64) Try.underlying32 (by kernel_rfl) (by kernel_rfl) (by kernel_rfl) q15 q16 (by have := l5; have := (rfl : x1.length = x1.length); omega) (take_len q15 q16 rfl)) ?_
  have h17 := Rd.take (n := ((x1.length : Int) : Int).toNat) h4
  have l18 : (x1.take (((x1.length : Int) : Int).toNat)).length ≤ c3 := by rw [List.length_take]; have := l5; omega
  refine lV 11 (show _ = Result.ok (Next.value (.agg #[.slice A2 (x1.take (((x1.length : Int) : Int).toNat)).length c3, .int .i64 0])) w from by kernel_rfl) ?_
  refine lW 12 (nB #[.slice A2 (x1.take (((x1.length : Int) : Int).toNat)).length c3, .int .i64 0] 66 S0_) ?_
  rintro _ w19 ⟨g20, rfl, b21, S22, K23⟩
  refine lV 2 (eA (.pointer (some ⟨g20, 0, none⟩))) (wN (then_n (wp_ret ?_)))
  obtain rfl := Option.some.inj M
  exact ret1 rfl rfl  (show _ = .pointer (some ⟨g20, 0, none⟩) from (by kernel_rfl)) ⟨g20, A2, c3, H, rfl, h17, l18, b21, S22⟩

/-! spec_l4rd_next -/
def spec_l4rd_next_2.f (x1 : GL4rd) : Option (Int × GL4rd) := (if x1.i_ ≥ (x1.b_.length : Int) then some (0, x1) else (if 0 ≤ x1.i_ then (if x1.i_ < (x1.b_.length : Int) then some (((x1.b_.getD ((x1.i_).toNat) (0 : UInt8)).toNat : Int), (⟨x1.b_, (IntKind.i64.wrap (x1.i_ + 1))⟩ : GL4rd)) else none) else none))
theorem spec_l4rd_next_2.calls (w : World) (H : Hp) (x1 : GL4rd) (g2 : Nat) (A4 : Option Addr) (c5 : Nat) (h6 : Rd tByte H A4 x1.b_) (l7 : x1.b_.length ≤ c5) (b3 : w.heap[g2]? = some (.cells #[.slice A4 x1.b_.length c5, .int .i64 x1.i_] 66 (0, 0))) (S : Own [(is g2)] H w) (r : Int × GL4rd) (M : spec_l4rd_next_2.f x1 = some r) :
    Calls Try.prog 41 #[.pointer (some ⟨g2, 0, none⟩)] w (fun e e_w => ∃ (A_1 : Option Addr) (c_1 : Nat) (H_ : Hp), e = .returned (.int .i64 r.1) ∧ Rd tByte H_ A_1 r.2.b_ ∧ r.2.b_.length ≤ c_1 ∧ e_w.heap[g2]? = some (.cells #[.slice A_1 r.2.b_.length c_1, .int .i64 r.2.i_] 66 (0, 0)) ∧ St (anyOf [(is g2)]) H w [(is g2)] H_ e_w) := by
  rw [spec_l4rd_next_2.f] at M
  refine enter (l := [.pointer (some ⟨g2, 0, none⟩)]) 33 Try.func41 rfl rfl rfl ?_
  have S0_ := S.st
  refine wp_seq (wR (lV 2 (eA (.int .i64 0)) (wN (then_n (wp_seq (wp_seq ?_))))))
  refine region_still (by kernel_rfl) (by kernel_rfl) S0_ ?_
  intro w8 S9 K10
  replace b3 := K10.blk 0 rfl b3
  refine sV 4 (eM (.pointer (some ⟨g2, 0, none⟩))) (sV 5 (eN ⟨g2, 0, none⟩) (sV 6 (eD g2 0 1 1 Try.underlying66) (sV 7 (eL ⟨g2, 0 + 1, none⟩ (.int .i64 x1.i_) Try.underlying3 (blk_cell b3 rfl)) (sV 8 (eM (.pointer (some ⟨g2, 0, none⟩))) (sV 9 (eN ⟨g2, 0, none⟩) (sV 10 (eD g2 0 0 1 Try.underlying66) (sV 11 (eL ⟨g2, 0 + 0, none⟩ (.slice A4 x1.b_.length c5) Try.underlying32 (blk_cell b3 rfl)) ?_)))))))
  refine sV 12 (e_len (A := A4) (n := x1.b_.length) (c := c5) Try.underlying32 (by kernel_rfl)) (sV 13 (e_geq (k := .i64) (a := x1.i_) (b := (x1.b_.length : Int)) (by kernel_rfl) (by kernel_rfl)) (wpStill_nil (then_n ?_)))
  by_cases q11 : x1.i_ ≥ (x1.b_.length : Int)
  · replace M := ifp q11 M
    refine cT (bT q11) (wp_seq (wR (lV 2 (eA (.int .i64 0)) (wN (then_n (wp_ret (then_r ?_)))))))
    obtain rfl := Option.some.inj M
    exact ret1 rfl rfl  (show _ = .int .i64 0 from (by kernel_rfl)) ⟨A4, c5, H, rfl, h6, l7, b3, S9⟩
  replace M := ifn q11 M
  refine cF (bF q11) (wp_skip (then_n (wp_seq ?_)))
  refine region_still (by kernel_rfl) (by kernel_rfl) S9 ?_
  intro w12 S13 K14
  replace b3 := K14.blk 0 rfl b3
  refine sV 14 (eM (.pointer (some ⟨g2, 0, none⟩))) (sV 15 (eN ⟨g2, 0, none⟩) (sV 16 (eD g2 0 0 1 Try.underlying66) (sV 17 (eL ⟨g2, 0 + 0, none⟩ (.slice A4 x1.b_.length c5) Try.underlying32 (blk_cell b3 rfl)) (sV 18 (eM (.pointer (some ⟨g2, 0, none⟩))) (sV 19 (eN ⟨g2, 0, none⟩) (sV 20 (eD g2 0 1 1 Try.underlying66) (sV 21 (eL ⟨g2, 0 + 1, none⟩ (.int .i64 x1.i_) Try.underlying3 (blk_cell b3 rfl)) ?_)))))))
  obtain ⟨q15, M⟩ := chk M
  obtain ⟨q16, M⟩ := chk M
  obtain ⟨b17, o18, e19⟩ := Rd.addr h6 (show (x1.i_).toNat < x1.b_.length by omega)
  obtain ⟨y20, r21, k22⟩ := Rd.at h6 e19 (getD_some (0 : UInt8) (show (x1.i_).toNat < x1.b_.length by omega))
  obtain rfl := r21
  refine sV 22 (eI b17 o18 x1.b_.length c5 1 x1.i_ .i64 Try.underlying32 e19 q15 q16) (sV 23 (eL ⟨b17, o18 + (x1.i_ : Int).toNat * 1, none⟩ (.int .u8 ((x1.b_.getD ((x1.i_).toNat) (0 : UInt8)).toNat : Int)) Try.underlying5 (hpx (S13.inv.cell (k22 0 _ rfl)))) (sV 24 (e_conv_8i (a := (x1.b_.getD ((x1.i_).toNat) (0 : UInt8))) (by kernel_rfl) Try.underlying3 (by kernel_rfl)) (sV 3 (eA (.int .i64 ((x1.b_.getD ((x1.i_).toNat) (0 : UInt8)).toNat : Int))) (wpStill_nil (then_n (wp_seq (wR ?_)))))))
  refine lV 25 (eM (.pointer (some ⟨g2, 0, none⟩))) (lV 26 (eN ⟨g2, 0, none⟩) (lV 27 (eD g2 0 1 1 Try.underlying66) (lV 28 (eL ⟨g2, 0 + 1, none⟩ (.int .i64 x1.i_) Try.underlying3 (blk_cell b3 rfl)) (lV 29 (eAdd .i64 x1.i_ 1) (lV 30 (eN ⟨g2, 0, none⟩) (lV 31 (eD g2 0 1 1 Try.underlying66) ?_))))))
  refine lE (eS g2 (0 + 1) (.int .i64 (IntKind.i64.wrap (x1.i_ + 1))) #[.slice A4 x1.b_.length c5, .int .i64 (IntKind.i64.wrap (x1.i_ + 1))] [.int .i64 (IntKind.i64.wrap (x1.i_ + 1))] S13 b3) ?_
  rintro w23 ⟨b24, S25, K26⟩
  clear b3
  refine wN (then_n (wp_seq (wR (lV 32 (eM (.int .i64 ((x1.b_.getD ((x1.i_).toNat) (0 : UInt8)).toNat : Int))) (lV 2 (eA (.int .i64 ((x1.b_.getD ((x1.i_).toNat) (0 : UInt8)).toNat : Int))) (wN (then_n ?_)))))))
  refine wp_ret ?_
  obtain rfl := Option.some.inj M
  exact ret1 rfl rfl  (show _ = .int .i64 ((x1.b_.getD ((x1.i_).toNat) (0 : UInt8)).toNat : Int) from (by kernel_rfl)) ⟨A4, c5, H, rfl, h6, l7, b24, S25⟩

/-! spec_l3words -/
def spec_l3words.l0 : Nat → (List UInt8) → (List (List UInt8)) → (List UInt8) → Int → Option (List (List UInt8))
  | 0, _, _, _, _ => none
  | k20 + 1, x1, x4, x9, x10 => (if x10 ≤ (x1.length : Int) then (if x10 = (x1.length : Int) then (if x9 ≠ ([] : List UInt8) then (if x4.length + 1 ≤ 8796093022208 then (spec_l3words.l0 k20 x1 (x4 ++ [x9]) ([] : List UInt8) (IntKind.i64.wrap (x10 + 1))) else none) else (spec_l3words.l0 k20 x1 x4 ([] : List UInt8) (IntKind.i64.wrap (x10 + 1)))) else (if 0 ≤ x10 then (if x10 < (x1.length : Int) then (if ((x1.getD (x10 : Int).toNat (0 : UInt8)).toNat : Int) = 32 then (if x9 ≠ ([] : List UInt8) then (if x4.length + 1 ≤ 8796093022208 then (spec_l3words.l0 k20 x1 (x4 ++ [x9]) ([] : List UInt8) (IntKind.i64.wrap (x10 + 1))) else none) else (spec_l3words.l0 k20 x1 x4 ([] : List UInt8) (IntKind.i64.wrap (x10 + 1)))) else (if x10 ≤ (IntKind.i64.wrap (x10 + 1)) then (if (IntKind.i64.wrap (x10 + 1)) ≤ (x1.length : Int) then (if x9.length + ((x1.drop (x10 : Int).toNat).take (((IntKind.i64.wrap (x10 + 1)) : Int).toNat - (x10 : Int).toNat)).length ≤ 9223372036854775807 then (spec_l3words.l0 k20 x1 x4 (x9 ++ ((x1.drop (x10 : Int).toNat).take (((IntKind.i64.wrap (x10 + 1)) : Int).toNat - (x10 : Int).toNat))) (IntKind.i64.wrap (x10 + 1))) else none) else none) else none)) else none) else none)) else some x4)
def spec_l3words.f (k : Nat) (x1 : List UInt8) : Option (List (List UInt8)) := (spec_l3words.l0 k x1 [] ([] : List UInt8) 0)
theorem spec_l3words.calls (k : Nat) (w : World) (H : Hp) (x1 : List UInt8) (S : Own [] H w) (r : List (List UInt8)) (M : spec_l3words.f k x1 = some r) :
    Calls Try.prog 29 #[str x1] w (fun e e_w => ∃ (A_1 : Option Addr) (c_1 : Nat) (F_1 : Foot) (H_ : Hp), e = .returned (.slice A_1 r.length c_1) ∧ Row tStr 9 H_ (hp e_w) F_1 A_1 c_1 r ∧ St (anyOf []) H w [F_1] H_ e_w) := by
  rw [spec_l3words.f] at M
  refine enter (l := [str x1]) 36 Try.func29 rfl rfl rfl ?_
  have S0_ := S.st
  refine wp_seq (wR (lV 2 (eA (.slice none 0 0)) (wN (then_n (wp_seq (wR (lV 3 (eA (.slice none 0 0)) ?_)))))))
  refine wN (then_n (wp_seq (wR (lV 4 (eA (str ([] : List UInt8))) (wN (then_n (wp_seq ?_)))))))
  refine wp_seq (wR (lV 5 (eA (.int .i64 0)) (wN (then_n (wp_block ?_)))))
  have S21 := S0_.unit
  refine wp_loop_g (fun k18 a19 w2 => ∃ (f3 : Nat → Value) (x4 : List (List UInt8)) (A5 : Option Addr) (c6 : Nat) (F7 : Foot) (x9 : List UInt8) (x10 : Int), a19 = mk 36 f3 ∧ f3 0 = str x1 ∧ f3 3 = .slice A5 x4.length c6 ∧ f3 4 = str x9 ∧ f3 5 = .int .i64 x10 ∧ Row tStr 9 H (hp w2) F7 A5 c6 x4 ∧ St (anyOf []) H w [F7] H w2 ∧ spec_l3words.l0 k18 x1 x4 x9 x10 = some r) k ⟨_, [], none, 0, no, ([] : List UInt8), 0, rfl, (by kernel_rfl), (by kernel_rfl), (by kernel_rfl), (by kernel_rfl), (Row.nil _ _ _ _ _), S21, M⟩ ?_
  clear M
  rintro k18 a19 w2 ⟨f3, x4, A5, c6, F7, x9, x10, rfl, e11, e12, e13, e14, h8, S15, M⟩
  rcases k18 with _ | k20
  · rw [spec_l3words.l0] at M
    cases M
  rw [spec_l3words.l0] at M
  refine wp_seq (wp_seq (wR (lV 6 (eM (.int .i64 x10) (by exact e14)) (lV 7 (eM (str x1) (by exact e11)) (lV 8 (e_slen (p := x1) Try.underlying9 (by kernel_rfl)) (lV 9 (e_leq (k := .i64) (a := x10) (b := (x1.length : Int)) (by kernel_rfl) (by kernel_rfl)) (wN ?_)))))))
  refine then_n ?_
  by_cases q22 : x10 ≤ (x1.length : Int)
  · replace M := ifp q22 M
    refine cT (bT q22) (wp_skip (then_n (wp_seq (wp_block (wp_seq (wR (lV 12 (eM (.int .i64 x10) (by exact e14)) ?_)))))))
    refine lV 13 (eM (str x1) (by exact e11)) (lV 14 (e_slen (p := x1) Try.underlying9 (by kernel_rfl)) (lV 15 (eEq .i64 x10 (x1.length : Int)) (lV 16 (eM (.bool (decide (x10 = (x1.length : Int))))) ?_)))
    by_cases q23 : x10 = (x1.length : Int)
    · replace M := ifp q23 M
      refine lK 16 true (bT q23) ?_
      refine lK 16 true (bT q23) ?_
      refine lK 16 true (bT q23) ?_
      refine lK 16 true (bT q23) ?_
      refine lV 21 (eT (.bool true) (bT q23)) (wN (then_n (cond_t rfl (by kernel_rfl) (wp_seq (wp_seq (wR (lV 22 (eM (str x9) (by exact e13)) ?_)))))))
      refine lV 23 (e_sneq (p := x9) (q := ([] : List UInt8)) (by kernel_rfl) rfl) (wN (then_n ?_))
      by_cases q24 : x9 ≠ ([] : List UInt8)
      · replace M := ifp q24 M
        refine cT (bT q24) (wR (lV 24 (eM (.slice A5 x4.length c6) (by exact e12)) (lV 25 (eM (str x9) (by exact e13)) ?_)))
        refine lW 26 (new_blk (v := fun g_ => .slice (some ⟨g_, 0, none⟩) 1 1) (cs := #[str x9]) (t := 9) S15 (by kernel_rfl)) ?_
        rintro _ w25 ⟨g26, rfl, b27, S28, K29⟩
        replace h8 := h8.move (K29.at 0 rfl)
        obtain ⟨q30, M⟩ := chk M
        have S31 := S28.pulls [F7, (is g26)] [1] rfl
        have S32 := S31.unit
        have S33 := S32.pulls [F7, no, (is g26)] [1] rfl
        refine lW 27 (e_append (d := tStr) (n := x4.length) (xs := x4) (cap := c6) (A := A5) (ys := [x9]) (A2 := (some ⟨g26, 0, none⟩)) (c2 := 1) (z := str ([] : List UInt8)) (bytes := 16) S33 Try.underlying49 (by kernel_rfl) rfl (by decide) (by kernel_rfl) rfl (by kernel_rfl) h8 (elsO_one1 rfl) (.inr (blk_news b27 rfl)) (show (x4.length + [x9].length) * 16 ≤ _ by first | omega | (simp only [List.length_cons, List.length_nil]; omega)) (by decide)) ?_
        rintro _ w34 ⟨A35, c36, F37, rfl, h38, S39, K40⟩
        refine lV 3 (eA (.slice A35 ((x4 ++ [x9]).length) c36)) (wN (then_n (wR (lV 4 (eA (str ([] : List UInt8))) (wN (inb_n (then_n ?_)))))))
        refine wR (lV 10 (eM (.int .i64 x10) (by exact e14)) (lV 11 (eAdd .i64 x10 1) (lV 5 (eA (.int .i64 (IntKind.i64.wrap (x10 + 1)))) (wN (then_n ?_)))))
        have S41 := St.first (Fa := [F37]) (Fr := [(is g26)]) S39
        exact ⟨k20, (by omega), _, (x4 ++ [x9]), A35, c36, F37, ([] : List UInt8), (IntKind.i64.wrap (x10 + 1)), rfl, (by exact e11), (by kernel_rfl), (by kernel_rfl), (by kernel_rfl), h38, S41, M⟩
      replace M := ifn q24 M
      refine cF (bF q24) (wp_skip (then_n (wR (lV 4 (eA (str ([] : List UInt8))) (wN (inb_n (then_n ?_)))))))
      refine wR (lV 10 (eM (.int .i64 x10) (by exact e14)) (lV 11 (eAdd .i64 x10 1) (lV 5 (eA (.int .i64 (IntKind.i64.wrap (x10 + 1)))) (wN (then_n ?_)))))
      exact ⟨k20, (by omega), _, x4, A5, c6, F7, ([] : List UInt8), (IntKind.i64.wrap (x10 + 1)), rfl, (by exact e11), (by exact e12), (by kernel_rfl), (by kernel_rfl), h8, S15, M⟩
    replace M := ifn q23 M
    refine lG 17 16 (bF q23) (eM (str x1) (by exact e11)) (lG 18 16 (bF q23) (eM (.int .i64 x10) (by exact e14)) ?_)
    obtain ⟨q42, M⟩ := chk M
    obtain ⟨q43, M⟩ := chk M
    refine lG 19 16 (bF q23) (e_sindex (p := x1) (i := x10) (k := .i64) Try.underlying9 (by kernel_rfl) (by kernel_rfl) q42 q43) (lG 20 16 (bF q23) (eEq .u8 ((x1.getD (x10 : Int).toNat (0 : UInt8)).toNat : Int) 32) (lV 21 (eF (.bool (decide (((x1.getD (x10 : Int).toNat (0 : UInt8)).toNat : Int) = 32))) (bF q23)) (wN (then_n ?_))))
    by_cases q44 : ((x1.getD (x10 : Int).toNat (0 : UInt8)).toNat : Int) = 32
    · replace M := ifp q44 M
      refine cT (bT q44) (wp_seq (wp_seq (wR (lV 22 (eM (str x9) (by exact e13)) (lV 23 (e_sneq (p := x9) (q := ([] : List UInt8)) (by kernel_rfl) rfl) (wN (then_n ?_)))))))
      by_cases q45 : x9 ≠ ([] : List UInt8)
      · replace M := ifp q45 M
        refine cT (bT q45) (wR (lV 24 (eM (.slice A5 x4.length c6) (by exact e12)) (lV 25 (eM (str x9) (by exact e13)) ?_)))
        refine lW 26 (new_blk (v := fun g_ => .slice (some ⟨g_, 0, none⟩) 1 1) (cs := #[str x9]) (t := 9) S15 (by kernel_rfl)) ?_
        rintro _ w46 ⟨g47, rfl, b48, S49, K50⟩
        replace h8 := h8.move (K50.at 0 rfl)
        obtain ⟨q51, M⟩ := chk M
        have S52 := S49.pulls [F7, (is g47)] [1] rfl
        have S53 := S52.unit
        have S54 := S53.pulls [F7, no, (is g47)] [1] rfl
        refine lW 27 (e_append (d := tStr) (n := x4.length) (xs := x4) (cap := c6) (A := A5) (ys := [x9]) (A2 := (some ⟨g47, 0, none⟩)) (c2 := 1) (z := str ([] : List UInt8)) (bytes := 16) S54 Try.underlying49 (by kernel_rfl) rfl (by decide) (by kernel_rfl) rfl (by kernel_rfl) h8 (elsO_one1 rfl) (.inr (blk_news b48 rfl)) (show (x4.length + [x9].length) * 16 ≤ _ by first | omega | (simp only [List.length_cons, List.length_nil]; omega)) (by decide)) ?_
        rintro _ w55 ⟨A56, c57, F58, rfl, h59, S60, K61⟩
        refine lV 3 (eA (.slice A56 ((x4 ++ [x9]).length) c57)) (wN (then_n (wR (lV 4 (eA (str ([] : List UInt8))) (wN (inb_n (then_n ?_)))))))
        refine wR (lV 10 (eM (.int .i64 x10) (by exact e14)) (lV 11 (eAdd .i64 x10 1) (lV 5 (eA (.int .i64 (IntKind.i64.wrap (x10 + 1)))) (wN (then_n ?_)))))
        have S62 := St.first (Fa := [F58]) (Fr := [(is g47)]) S60
        exact ⟨k20, (by omega), _, (x4 ++ [x9]), A56, c57, F58, ([] : List UInt8), (IntKind.i64.wrap (x10 + 1)), rfl, (by exact e11), (by kernel_rfl), (by kernel_rfl), (by kernel_rfl), h59, S62, M⟩
      replace M := ifn q45 M
      refine cF (bF q45) (wp_skip (then_n (wR (lV 4 (eA (str ([] : List UInt8))) (wN (inb_n (then_n ?_)))))))
      refine wR (lV 10 (eM (.int .i64 x10) (by exact e14)) (lV 11 (eAdd .i64 x10 1) (lV 5 (eA (.int .i64 (IntKind.i64.wrap (x10 + 1)))) (wN (then_n ?_)))))
      exact ⟨k20, (by omega), _, x4, A5, c6, F7, ([] : List UInt8), (IntKind.i64.wrap (x10 + 1)), rfl, (by exact e11), (by exact e12), (by kernel_rfl), (by kernel_rfl), h8, S15, M⟩
    replace M := ifn q44 M
    refine cF (bF q44) (wR (lV 28 (eM (str x9) (by exact e13)) (lV 29 (eM (str x1) (by exact e11)) (lV 30 (eM (.int .i64 x10) (by exact e14)) (lV 31 (eM (.int .i64 x10) (by exact e14)) (lV 32 (eAdd .i64 x10 1) ?_))))))
    obtain ⟨q63, M⟩ := chk M
    obtain ⟨q64, M⟩ := chk M
    refine lV 33 (e_sslice_lh (p := x1) (a := x10) (b := (IntKind.i64.wrap (x10 + 1))) (k := .i64) (k2 := .i64) Try.underlying9 (by kernel_rfl) (by kernel_rfl) (by kernel_rfl) q42 q63 q64) ?_
    obtain ⟨q65, M⟩ := chk M
    refine lV 34 (e_sadd (p := x9) (q := ((x1.drop (x10 : Int).toNat).take (((IntKind.i64.wrap (x10 + 1)) : Int).toNat - (x10 : Int).toNat))) (by kernel_rfl) (by kernel_rfl) q65) (lV 4 (eA (str (x9 ++ ((x1.drop (x10 : Int).toNat).take (((IntKind.i64.wrap (x10 + 1)) : Int).toNat - (x10 : Int).toNat))))) (wN (inb_n (then_n (wR (lV 10 (eM (.int .i64 x10) (by exact e14)) (lV 11 (eAdd .i64 x10 1) ?_)))))))
    refine lV 5 (eA (.int .i64 (IntKind.i64.wrap (x10 + 1)))) (wN (then_n ?_))
    exact ⟨k20, (by omega), _, x4, A5, c6, F7, (x9 ++ ((x1.drop (x10 : Int).toNat).take (((IntKind.i64.wrap (x10 + 1)) : Int).toNat - (x10 : Int).toNat))), (IntKind.i64.wrap (x10 + 1)), rfl, (by exact e11), (by exact e12), (by kernel_rfl), (by kernel_rfl), h8, S15, M⟩
  replace M := ifn q22 M
  refine cF (bF q22) (wp_exit (then_e (then_e (inb_hit (then_n (wp_seq (wR ?_)))))))
  refine lV 35 (eM (.slice A5 x4.length c6) (by exact e12)) (lV 2 (eA (.slice A5 x4.length c6)) (wN (then_n (wp_ret ?_))))
  obtain rfl := Option.some.inj M
  exact ret1 rfl rfl  (show _ = .slice A5 x4.length c6 from (by kernel_rfl)) ⟨A5, c6, F7, H, rfl, h8, S15⟩

/-! spec_DefaultOps -/
mutual
def spec_DefaultOps.l0 : Nat → (List Sy.Op) → Int → Option (List Sy.Op)
  | 0, _, _ => none
  | k48 + 1, x32, x37 => (if x37 < (13 : Int) then (if 0 ≤ x37 then ((spec_l3words.f k48 ([([58, 45, 32, 45, 45, 62] : List UInt8), ([58, 45, 32, 63, 45] : List UInt8), ([100, 121, 110, 97, 109, 105, 99] : List UInt8), ([59] : List UInt8), ([45, 62] : List UInt8), ([44] : List UInt8), ([92, 43] : List UInt8), ([61, 32, 92, 61, 32, 61, 61, 32, 92, 61, 61, 32, 64, 60, 32, 64, 61, 60, 32, 64, 62, 32, 64, 62, 61, 32, 61, 46, 46, 32, 105, 115, 32, 61, 58, 61, 32, 61, 92, 61, 32, 60, 32, 61, 60, 32, 62, 32, 62, 61] : List UInt8), ([43, 32, 45, 32, 47, 92, 32, 92, 47, 32, 120, 111, 114] : List UInt8), ([42, 32, 47, 32, 47, 47, 32, 109, 111, 100, 32, 114, 101, 109, 32, 60, 60, 32, 62, 62] : List UInt8), ([42, 42] : List UInt8), ([94] : List UInt8), ([45, 32, 43, 32, 92] : List UInt8)].getD ((x37).toNat) ([] : List UInt8))).bind fun t58 => (spec_DefaultOps.l1 k48 x37 t58 x32 0)) else none) else some x32)
def spec_DefaultOps.l1 : Nat → Int → (List (List UInt8)) → (List Sy.Op) → Int → Option (List Sy.Op)
  | 0, _, _, _, _ => none
  | k92 + 1, x37, t58, x74, x79 => (if x79 < (t58.length : Int) then (if 0 ≤ x79 then (if (t58.getD ((x79).toNat) ([] : List UInt8)).length ≤ 9223372036854775807 then ((spec_l3put.f k92 x74 (⟨(t58.getD ((x79).toNat) ([] : List UInt8)), ([1200, 1200, 1150, 1100, 1050, 1000, 900, 700, 500, 400, 200, 200, 200].getD ((x37).toNat) (0 : Int)), ([0, 4, 4, 1, 1, 1, 3, 0, 2, 2, 0, 1, 3].getD ((x37).toNat) (0 : Int))⟩ : Sy.Op)).bind fun t151 => (spec_DefaultOps.l1 k92 x37 t58 t151 (IntKind.i64.wrap (x79 + 1)))) else none) else none) else (spec_DefaultOps.l0 k92 x74 (IntKind.i64.wrap (x37 + 1))))
end
def spec_DefaultOps.f (k : Nat) : Option (List Sy.Op) := (spec_DefaultOps.l0 k [] 0)
theorem spec_DefaultOps.calls (k : Nat) (w : World) (H : Hp) (S : Own [] H w) (r : List Sy.Op) (M : spec_DefaultOps.f k = some r) :
    Calls Try.prog 12 #[] w (fun e e_w => ∃ (A_1 : Option Addr) (c_1 : Nat) (F_1 : Foot) (H_ : Hp), e = .returned (.slice A_1 r.length c_1) ∧ Row st45 45 H_ (hp e_w) F_1 A_1 c_1 r ∧ St (anyOf []) H w [F_1] H_ e_w) := by
  rw [spec_DefaultOps.f] at M
  refine enter (l := []) 45 Try.func12 rfl rfl rfl ?_
  have S0_ := S.st
  refine wp_seq (wR (lV 0 (eA (.slice none 0 0)) (wN (then_n (wp_seq (wR ?_))))))
  refine lW 8 (new_blk (v := fun g_ => .slice (some ⟨g_, 0, none⟩) 13 13) (cs := #[str ([58, 45, 32, 45, 45, 62] : List UInt8), str ([58, 45, 32, 63, 45] : List UInt8), str ([100, 121, 110, 97, 109, 105, 99] : List UInt8), str ([59] : List UInt8), str ([45, 62] : List UInt8), str ([44] : List UInt8), str ([92, 43] : List UInt8), str ([61, 32, 92, 61, 32, 61, 61, 32, 92, 61, 61, 32, 64, 60, 32, 64, 61, 60, 32, 64, 62, 32, 64, 62, 61, 32, 61, 46, 46, 32, 105, 115, 32, 61, 58, 61, 32, 61, 92, 61, 32, 60, 32, 61, 60, 32, 62, 32, 62, 61] : List UInt8), str ([43, 32, 45, 32, 47, 92, 32, 92, 47, 32, 120, 111, 114] : List UInt8), str ([42, 32, 47, 32, 47, 47, 32, 109, 111, 100, 32, 114, 101, 109, 32, 60, 60, 32, 62, 62] : List UInt8), str ([42, 42] : List UInt8), str ([94] : List UInt8), str ([45, 32, 43, 32, 92] : List UInt8)]) (t := 9) S0_ (by kernel_rfl)) ?_
  rintro _ w1 ⟨g2, rfl, b3, S4, K5⟩
  have S6 := S4.unit
  have S7 := S6.pulls [(is g2), no] [1] rfl
  obtain ⟨h8, S9⟩ := row_lit (d := tStr) (xs := [([58, 45, 32, 45, 45, 62] : List UInt8), ([58, 45, 32, 63, 45] : List UInt8), ([100, 121, 110, 97, 109, 105, 99] : List UInt8), ([59] : List UInt8), ([45, 62] : List UInt8), ([44] : List UInt8), ([92, 43] : List UInt8), ([61, 32, 92, 61, 32, 61, 61, 32, 92, 61, 61, 32, 64, 60, 32, 64, 61, 60, 32, 64, 62, 32, 64, 62, 61, 32, 61, 46, 46, 32, 105, 115, 32, 61, 58, 61, 32, 61, 92, 61, 32, 60, 32, 61, 60, 32, 62, 32, 62, 61] : List UInt8), ([43, 32, 45, 32, 47, 92, 32, 92, 47, 32, 120, 111, 114] : List UInt8), ([42, 32, 47, 32, 47, 47, 32, 109, 111, 100, 32, 114, 101, 109, 32, 60, 60, 32, 62, 62] : List UInt8), ([42, 42] : List UInt8), ([94] : List UInt8), ([45, 32, 43, 32, 92] : List UInt8)]) S7 b3 rfl (elsO_no (d := tStr) rfl (elsO_no (d := tStr) rfl (elsO_no (d := tStr) rfl (elsO_no (d := tStr) rfl (elsO_no (d := tStr) rfl (elsO_no (d := tStr) rfl (elsO_no (d := tStr) rfl (elsO_no (d := tStr) rfl (elsO_no (d := tStr) rfl (elsO_no (d := tStr) rfl (elsO_no (d := tStr) rfl (elsO_no (d := tStr) rfl (elsO_no (d := tStr) rfl (elsO_nil _ _ _ no)))))))))))))) (Nat.le_of_ble_eq_true rfl)
  refine lV 1 (eA (.slice (some ⟨g2, 0, none⟩) 13 13)) (wN (then_n (wp_seq (wR ?_))))
  refine lW 9 (new_blk (v := fun g_ => .slice (some ⟨g_, 0, none⟩) 13 13) (cs := #[.int .i64 1200, .int .i64 1200, .int .i64 1150, .int .i64 1100, .int .i64 1050, .int .i64 1000, .int .i64 900, .int .i64 700, .int .i64 500, .int .i64 400, .int .i64 200, .int .i64 200, .int .i64 200]) (t := 3) S9 (by kernel_rfl)) ?_
  rintro _ w10 ⟨g11, rfl, b12, S13, K14⟩
  replace h8 := h8.move (K14.at 0 rfl)
  have S15 := S13.unit
  have S16 := S15.pulls [(is g11), no, (or2 (is g2) no)] [1] rfl
  obtain ⟨h17, S18⟩ := row_lit (d := tInt) (xs := [1200, 1200, 1150, 1100, 1050, 1000, 900, 700, 500, 400, 200, 200, 200]) S16 b12 rfl (elsO_no (d := tInt) rfl (elsO_no (d := tInt) rfl (elsO_no (d := tInt) rfl (elsO_no (d := tInt) rfl (elsO_no (d := tInt) rfl (elsO_no (d := tInt) rfl (elsO_no (d := tInt) rfl (elsO_no (d := tInt) rfl (elsO_no (d := tInt) rfl (elsO_no (d := tInt) rfl (elsO_no (d := tInt) rfl (elsO_no (d := tInt) rfl (elsO_no (d := tInt) rfl (elsO_nil _ _ _ no)))))))))))))) (Nat.le_of_ble_eq_true rfl)
  refine lV 2 (eA (.slice (some ⟨g11, 0, none⟩) 13 13)) (wN (then_n (wp_seq (wR ?_))))
  refine lW 10 (new_blk (v := fun g_ => .slice (some ⟨g_, 0, none⟩) 13 13) (cs := #[.int .i64 0, .int .i64 4, .int .i64 4, .int .i64 1, .int .i64 1, .int .i64 1, .int .i64 3, .int .i64 0, .int .i64 2, .int .i64 2, .int .i64 0, .int .i64 1, .int .i64 3]) (t := 3) S18 (by kernel_rfl)) ?_
  rintro _ w19 ⟨g20, rfl, b21, S22, K23⟩
  replace h17 := h17.move (K23.at 0 rfl)
  replace h8 := h8.move (K23.at 1 rfl)
  have S24 := S22.unit
  have S25 := S24.pulls [(is g20), no, (or2 (is g11) no), (or2 (is g2) no)] [1] rfl
  obtain ⟨h26, S27⟩ := row_lit (d := tInt) (xs := [0, 4, 4, 1, 1, 1, 3, 0, 2, 2, 0, 1, 3]) S25 b21 rfl (elsO_no (d := tInt) rfl (elsO_no (d := tInt) rfl (elsO_no (d := tInt) rfl (elsO_no (d := tInt) rfl (elsO_no (d := tInt) rfl (elsO_no (d := tInt) rfl (elsO_no (d := tInt) rfl (elsO_no (d := tInt) rfl (elsO_no (d := tInt) rfl (elsO_no (d := tInt) rfl (elsO_no (d := tInt) rfl (elsO_no (d := tInt) rfl (elsO_no (d := tInt) rfl (elsO_nil _ _ _ no)))))))))))))) (Nat.le_of_ble_eq_true rfl)
  refine lV 3 (eA (.slice (some ⟨g20, 0, none⟩) 13 13)) (wN (then_n (wp_seq (wR (lV 4 (eA (.slice none 0 0)) (wN (then_n ?_)))))))
  refine wp_seq (wp_seq (wR (lV 5 (eA (.int .i64 0)) (wN (then_n (wp_block ?_))))))
  have S49 := S27.unit
  have S52 := S49.pulls [(or2 (is g20) no), (or2 (is g11) no), (or2 (is g2) no), no] [3, 3, 3] rfl
  refine wp_loop_g (fun k46 a47 w28 => ∃ (f29 : Nat → Value) (H30 : Hp) (x32 : List Sy.Op) (A33 : Option Addr) (c34 : Nat) (F35 : Foot) (x37 : Int), a47 = mk 45 f29 ∧ f29 1 = .slice (some ⟨g2, 0, none⟩) 13 13 ∧ f29 2 = .slice (some ⟨g11, 0, none⟩) 13 13 ∧ f29 3 = .slice (some ⟨g20, 0, none⟩) 13 13 ∧ f29 4 = .slice A33 x32.length c34 ∧ f29 5 = .int .i64 x37 ∧ Row tInt 3 H30 (hp w28) (or2 (is g20) no) (some ⟨g20, 0, none⟩) 13 [0, 4, 4, 1, 1, 1, 3, 0, 2, 2, 0, 1, 3] ∧ Row tInt 3 H30 (hp w28) (or2 (is g11) no) (some ⟨g11, 0, none⟩) 13 [1200, 1200, 1150, 1100, 1050, 1000, 900, 700, 500, 400, 200, 200, 200] ∧ Row tStr 9 H30 (hp w28) (or2 (is g2) no) (some ⟨g2, 0, none⟩) 13 [([58, 45, 32, 45, 45, 62] : List UInt8), ([58, 45, 32, 63, 45] : List UInt8), ([100, 121, 110, 97, 109, 105, 99] : List UInt8), ([59] : List UInt8), ([45, 62] : List UInt8), ([44] : List UInt8), ([92, 43] : List UInt8), ([61, 32, 92, 61, 32, 61, 61, 32, 92, 61, 61, 32, 64, 60, 32, 64, 61, 60, 32, 64, 62, 32, 64, 62, 61, 32, 61, 46, 46, 32, 105, 115, 32, 61, 58, 61, 32, 61, 92, 61, 32, 60, 32, 61, 60, 32, 62, 32, 62, 61] : List UInt8), ([43, 32, 45, 32, 47, 92, 32, 92, 47, 32, 120, 111, 114] : List UInt8), ([42, 32, 47, 32, 47, 47, 32, 109, 111, 100, 32, 114, 101, 109, 32, 60, 60, 32, 62, 62] : List UInt8), ([42, 42] : List UInt8), ([94] : List UInt8), ([45, 32, 43, 32, 92] : List UInt8)] ∧ Row st45 45 H30 (hp w28) F35 A33 c34 x32 ∧ Ext H H30 ∧ St (anyOf []) H w [(or2 (is g20) no), (or2 (is g11) no), (or2 (is g2) no), F35] H30 w28 ∧ spec_DefaultOps.l0 k46 x32 x37 = some r) k ⟨_, H, [], none, 0, no, 0, rfl, (by kernel_rfl), (by kernel_rfl), (by kernel_rfl), (by kernel_rfl), (by kernel_rfl), h26, h17, h8, (Row.nil _ _ _ _ _), (Ext.refl _), S52, M⟩ ?_
  clear M
  rintro k46 a47 w28 ⟨f29, H30, x32, A33, c34, F35, x37, rfl, e38, e39, e40, e41, e42, h26, h17, h8, h36, Y31, S43, M⟩
  rcases k46 with _ | k48
  · rw [spec_DefaultOps.l0] at M
    cases M
  rw [spec_DefaultOps.l0] at M
  refine wp_seq (wp_seq (wR (lV 11 (eM (.int .i64 x37) (by exact e42)) (lV 12 (eM (.slice (some ⟨g2, 0, none⟩) 13 13) (by exact e38)) (lV 13 (e_len (A := (some ⟨g2, 0, none⟩)) (n := 13) (c := 13) Try.underlying49 (by kernel_rfl)) (lV 14 (eLt .i64 x37 (13 : Int)) (wN ?_)))))))
  refine then_n ?_
  by_cases q53 : x37 < (13 : Int)
  · replace M := ifp q53 M
    refine cT (bT q53) (wp_skip (then_n (wp_seq (wp_block (wp_seq (wR (lV 17 (eM (.slice (some ⟨g2, 0, none⟩) 13 13) (by exact e38)) ?_)))))))
    refine lV 18 (eM (.int .i64 x37) (by exact e42)) ?_
    obtain ⟨q54, M⟩ := chk M
    obtain ⟨b55, e57⟩ := Row.addr h8 (show (x37).toNat < [([58, 45, 32, 45, 45, 62] : List UInt8), ([58, 45, 32, 63, 45] : List UInt8), ([100, 121, 110, 97, 109, 105, 99] : List UInt8), ([59] : List UInt8), ([45, 62] : List UInt8), ([44] : List UInt8), ([92, 43] : List UInt8), ([61, 32, 92, 61, 32, 61, 61, 32, 92, 61, 61, 32, 64, 60, 32, 64, 61, 60, 32, 64, 62, 32, 64, 62, 61, 32, 61, 46, 46, 32, 105, 115, 32, 61, 58, 61, 32, 61, 92, 61, 32, 60, 32, 61, 60, 32, 62, 32, 62, 61] : List UInt8), ([43, 32, 45, 32, 47, 92, 32, 92, 47, 32, 120, 111, 114] : List UInt8), ([42, 32, 47, 32, 47, 47, 32, 109, 111, 100, 32, 114, 101, 109, 32, 60, 60, 32, 62, 62] : List UInt8), ([42, 42] : List UInt8), ([94] : List UInt8), ([45, 32, 43, 32, 92] : List UInt8)].length by have : [([58, 45, 32, 45, 45, 62] : List UInt8), ([58, 45, 32, 63, 45] : List UInt8), ([100, 121, 110, 97, 109, 105, 99] : List UInt8), ([59] : List UInt8), ([45, 62] : List UInt8), ([44] : List UInt8), ([92, 43] : List UInt8), ([61, 32, 92, 61, 32, 61, 61, 32, 92, 61, 61, 32, 64, 60, 32, 64, 61, 60, 32, 64, 62, 32, 64, 62, 61, 32, 61, 46, 46, 32, 105, 115, 32, 61, 58, 61, 32, 61, 92, 61, 32, 60, 32, 61, 60, 32, 62, 32, 62, 61] : List UInt8), ([43, 32, 45, 32, 47, 92, 32, 92, 47, 32, 120, 111, 114] : List UInt8), ([42, 32, 47, 32, 47, 47, 32, 109, 111, 100, 32, 114, 101, 109, 32, 60, 60, 32, 62, 62] : List UInt8), ([42, 42] : List UInt8), ([94] : List UInt8), ([45, 32, 43, 32, 92] : List UInt8)].length = 13 := rfl; omega)
    refine lV 19 (eI b55 0 13 13 1 x37 .i64 Try.underlying49 e57 q54 q53) (lV 20 (eL ⟨b55, 0 + (x37 : Int).toNat * 1, none⟩ (str ([([58, 45, 32, 45, 45, 62] : List UInt8), ([58, 45, 32, 63, 45] : List UInt8), ([100, 121, 110, 97, 109, 105, 99] : List UInt8), ([59] : List UInt8), ([45, 62] : List UInt8), ([44] : List UInt8), ([92, 43] : List UInt8), ([61, 32, 92, 61, 32, 61, 61, 32, 92, 61, 61, 32, 64, 60, 32, 64, 61, 60, 32, 64, 62, 32, 64, 62, 61, 32, 61, 46, 46, 32, 105, 115, 32, 61, 58, 61, 32, 61, 92, 61, 32, 60, 32, 61, 60, 32, 62, 32, 62, 61] : List UInt8), ([43, 32, 45, 32, 47, 92, 32, 92, 47, 32, 120, 111, 114] : List UInt8), ([42, 32, 47, 32, 47, 47, 32, 109, 111, 100, 32, 114, 101, 109, 32, 60, 60, 32, 62, 62] : List UInt8), ([42, 42] : List UInt8), ([94] : List UInt8), ([45, 32, 43, 32, 92] : List UInt8)].getD ((x37).toNat) ([] : List UInt8))) Try.underlying9 (hpx (Row.pick (j := 0) (u := str ([([58, 45, 32, 45, 45, 62] : List UInt8), ([58, 45, 32, 63, 45] : List UInt8), ([100, 121, 110, 97, 109, 105, 99] : List UInt8), ([59] : List UInt8), ([45, 62] : List UInt8), ([44] : List UInt8), ([92, 43] : List UInt8), ([61, 32, 92, 61, 32, 61, 61, 32, 92, 61, 61, 32, 64, 60, 32, 64, 61, 60, 32, 64, 62, 32, 64, 62, 61, 32, 61, 46, 46, 32, 105, 115, 32, 61, 58, 61, 32, 61, 92, 61, 32, 60, 32, 61, 60, 32, 62, 32, 62, 61] : List UInt8), ([43, 32, 45, 32, 47, 92, 32, 92, 47, 32, 120, 111, 114] : List UInt8), ([42, 32, 47, 32, 47, 47, 32, 109, 111, 100, 32, 114, 101, 109, 32, 60, 60, 32, 62, 62] : List UInt8), ([42, 42] : List UInt8), ([94] : List UInt8), ([45, 32, 43, 32, 92] : List UInt8)].getD ((x37).toNat) ([] : List UInt8))) h8 e57 (getD_some ([] : List UInt8) (show (x37).toNat < [([58, 45, 32, 45, 45, 62] : List UInt8), ([58, 45, 32, 63, 45] : List UInt8), ([100, 121, 110, 97, 109, 105, 99] : List UInt8), ([59] : List UInt8), ([45, 62] : List UInt8), ([44] : List UInt8), ([92, 43] : List UInt8), ([61, 32, 92, 61, 32, 61, 61, 32, 92, 61, 61, 32, 64, 60, 32, 64, 61, 60, 32, 64, 62, 32, 64, 62, 61, 32, 61, 46, 46, 32, 105, 115, 32, 61, 58, 61, 32, 61, 92, 61, 32, 60, 32, 61, 60, 32, 62, 32, 62, 61] : List UInt8), ([43, 32, 45, 32, 47, 92, 32, 92, 47, 32, 120, 111, 114] : List UInt8), ([42, 32, 47, 32, 47, 47, 32, 109, 111, 100, 32, 114, 101, 109, 32, 60, 60, 32, 62, 62] : List UInt8), ([42, 42] : List UInt8), ([94] : List UInt8), ([45, 32, 43, 32, 92] : List UInt8)].length by have : [([58, 45, 32, 45, 45, 62] : List UInt8), ([58, 45, 32, 63, 45] : List UInt8), ([100, 121, 110, 97, 109, 105, 99] : List UInt8), ([59] : List UInt8), ([45, 62] : List UInt8), ([44] : List UInt8), ([92, 43] : List UInt8), ([61, 32, 92, 61, 32, 61, 61, 32, 92, 61, 61, 32, 64, 60, 32, 64, 61, 60, 32, 64, 62, 32, 64, 62, 61, 32, 61, 46, 46, 32, 105, 115, 32, 61, 58, 61, 32, 61, 92, 61, 32, 60, 32, 61, 60, 32, 62, 32, 62, 61] : List UInt8), ([43, 32, 45, 32, 47, 92, 32, 92, 47, 32, 120, 111, 114] : List UInt8), ([42, 32, 47, 32, 47, 47, 32, 109, 111, 100, 32, 114, 101, 109, 32, 60, 60, 32, 62, 62] : List UInt8), ([42, 42] : List UInt8), ([94] : List UInt8), ([45, 32, 43, 32, 92] : List UInt8)].length = 13 := rfl; omega)) (fun _ _ o_ => by rw [show _ = _ from o_]; rfl)))) ?_)
    obtain ⟨t58, u59, M⟩ := bnd M
    refine lC 21 (eC [.tmp 20] [str ([([58, 45, 32, 45, 45, 62] : List UInt8), ([58, 45, 32, 63, 45] : List UInt8), ([100, 121, 110, 97, 109, 105, 99] : List UInt8), ([59] : List UInt8), ([45, 62] : List UInt8), ([44] : List UInt8), ([92, 43] : List UInt8), ([61, 32, 92, 61, 32, 61, 61, 32, 92, 61, 61, 32, 64, 60, 32, 64, 61, 60, 32, 64, 62, 32, 64, 62, 61, 32, 61, 46, 46, 32, 105, 115, 32, 61, 58, 61, 32, 61, 92, 61, 32, 60, 32, 61, 60, 32, 62, 32, 62, 61] : List UInt8), ([43, 32, 45, 32, 47, 92, 32, 92, 47, 32, 120, 111, 114] : List UInt8), ([42, 32, 47, 32, 47, 47, 32, 109, 111, 100, 32, 114, 101, 109, 32, 60, 60, 32, 62, 62] : List UInt8), ([42, 42] : List UInt8), ([94] : List UInt8), ([45, 32, 43, 32, 92] : List UInt8)].getD ((x37).toNat) ([] : List UInt8))] Try.func29) (spec_l3words.calls k48 w28 H30 ([([58, 45, 32, 45, 45, 62] : List UInt8), ([58, 45, 32, 63, 45] : List UInt8), ([100, 121, 110, 97, 109, 105, 99] : List UInt8), ([59] : List UInt8), ([45, 62] : List UInt8), ([44] : List UInt8), ([92, 43] : List UInt8), ([61, 32, 92, 61, 32, 61, 61, 32, 92, 61, 61, 32, 64, 60, 32, 64, 61, 60, 32, 64, 62, 32, 64, 62, 61, 32, 61, 46, 46, 32, 105, 115, 32, 61, 58, 61, 32, 61, 92, 61, 32, 60, 32, 61, 60, 32, 62, 32, 62, 61] : List UInt8), ([43, 32, 45, 32, 47, 92, 32, 92, 47, 32, 120, 111, 114] : List UInt8), ([42, 32, 47, 32, 47, 47, 32, 109, 111, 100, 32, 114, 101, 109, 32, 60, 60, 32, 62, 62] : List UInt8), ([42, 42] : List UInt8), ([94] : List UInt8), ([45, 32, 43, 32, 92] : List UInt8)].getD ((x37).toNat) ([] : List UInt8))  (St.own' (Fa := []) (Fr := [(or2 (is g20) no), (or2 (is g11) no), (or2 (is g2) no), F35]) S43) t58 u59) ?_
    rintro _ w60 ⟨A63, c64, F66, H61, rfl, h65, T62⟩
    refine ⟨_, rfl, ?_⟩
    obtain ⟨S67, K68⟩ := St.call (Fa := []) (Fr := [(or2 (is g20) no), (or2 (is g11) no), (or2 (is g2) no), F35]) S43 T62
    replace h26 := h26.move (K68.at 0 rfl)
    replace h17 := h17.move (K68.at 1 rfl)
    replace h8 := h8.move (K68.at 2 rfl)
    replace h36 := h36.move (K68.at 3 rfl)
    have E69 := T62.ext
    replace h26 := h26.ext E69
    replace h17 := h17.ext E69
    replace h8 := h8.ext E69
    replace h36 := h36.ext E69
    refine lV 6 (eA (.slice A63 t58.length c64)) (wN (then_n (wp_seq (wR (lV 7 (eA (.int .i64 0)) (wN (then_n ?_)))))))
    refine wp_block ?_
    refine wp_loop_g (fun k90 a91 w70 => ∃ (f71 : Nat → Value) (H72 : Hp) (x74 : List Sy.Op) (A75 : Option Addr) (c76 : Nat) (F77 : Foot) (x79 : Int), k90 ≤ k48 ∧ a91 = mk 45 f71 ∧ f71 1 = .slice (some ⟨g2, 0, none⟩) 13 13 ∧ f71 2 = .slice (some ⟨g11, 0, none⟩) 13 13 ∧ f71 3 = .slice (some ⟨g20, 0, none⟩) 13 13 ∧ f71 4 = .slice A75 x74.length c76 ∧ f71 5 = .int .i64 x37 ∧ f71 6 = .slice A63 t58.length c64 ∧ f71 7 = .int .i64 x79 ∧ Row tStr 9 H72 (hp w70) F66 A63 c64 t58 ∧ Row tInt 3 H72 (hp w70) (or2 (is g20) no) (some ⟨g20, 0, none⟩) 13 [0, 4, 4, 1, 1, 1, 3, 0, 2, 2, 0, 1, 3] ∧ Row tInt 3 H72 (hp w70) (or2 (is g11) no) (some ⟨g11, 0, none⟩) 13 [1200, 1200, 1150, 1100, 1050, 1000, 900, 700, 500, 400, 200, 200, 200] ∧ Row tStr 9 H72 (hp w70) (or2 (is g2) no) (some ⟨g2, 0, none⟩) 13 [([58, 45, 32, 45, 45, 62] : List UInt8), ([58, 45, 32, 63, 45] : List UInt8), ([100, 121, 110, 97, 109, 105, 99] : List UInt8), ([59] : List UInt8), ([45, 62] : List UInt8), ([44] : List UInt8), ([92, 43] : List UInt8), ([61, 32, 92, 61, 32, 61, 61, 32, 92, 61, 61, 32, 64, 60, 32, 64, 61, 60, 32, 64, 62, 32, 64, 62, 61, 32, 61, 46, 46, 32, 105, 115, 32, 61, 58, 61, 32, 61, 92, 61, 32, 60, 32, 61, 60, 32, 62, 32, 62, 61] : List UInt8), ([43, 32, 45, 32, 47, 92, 32, 92, 47, 32, 120, 111, 114] : List UInt8), ([42, 32, 47, 32, 47, 47, 32, 109, 111, 100, 32, 114, 101, 109, 32, 60, 60, 32, 62, 62] : List UInt8), ([42, 42] : List UInt8), ([94] : List UInt8), ([45, 32, 43, 32, 92] : List UInt8)] ∧ Row st45 45 H72 (hp w70) F77 A75 c76 x74 ∧ Ext H61 H72 ∧ St (anyOf []) H w [F66, (or2 (is g20) no), (or2 (is g11) no), (or2 (is g2) no), F77] H72 w70 ∧ spec_DefaultOps.l1 k90 x37 t58 x74 x79 = some r) k48 ⟨_, H61, x32, A33, c34, F35, 0, (by omega), rfl, (by exact e38), (by exact e39), (by exact e40), (by exact e41), (by exact e42), (by kernel_rfl), (by kernel_rfl), h65, h26, h17, h8, h36, (Ext.refl _), S67, M⟩ ?_
    clear M
    rintro k90 a91 w70 ⟨f71, H72, x74, A75, c76, F77, x79, z89, rfl, e80, e81, e82, e83, e84, e85, e86, h65, h26, h17, h8, h78, Y73, S87, M⟩
    rcases k90 with _ | k92
    · rw [spec_DefaultOps.l1] at M
      cases M
    rw [spec_DefaultOps.l1] at M
    refine wp_seq (wp_seq (wR (lV 22 (eM (.int .i64 x79) (by exact e86)) (lV 23 (eM (.slice A63 t58.length c64) (by exact e85)) (lV 24 (e_len (A := A63) (n := t58.length) (c := c64) Try.underlying49 (by kernel_rfl)) (lV 25 (eLt .i64 x79 (t58.length : Int)) (wN ?_)))))))
    refine then_n ?_
    by_cases q93 : x79 < (t58.length : Int)
    · replace M := ifp q93 M
      refine cT (bT q93) (wp_skip (then_n (wp_seq (wp_block ?_))))
      refine region_mix (S := (fun (L_ : Array Bool) (w_ : World) => Ext H72 (hp w_) ∧ (∀ b_, F66 b_ → hp w_ b_ = hp w70 b_) ∧ (∀ b_, (or2 (is g20) no) b_ → hp w_ b_ = hp w70 b_) ∧ (∀ b_, (or2 (is g11) no) b_ → hp w_ b_ = hp w70 b_))) (by kernel_rfl) S87 ?_
      intro w94 S95 K96 hc97
      have o98 := h65
      have o99 := h26
      have o100 := h17
      have hs101 : (fun (L_ : Array Bool) (w_ : World) => Ext H72 (hp w_) ∧ (∀ b_, F66 b_ → hp w_ b_ = hp w70 b_) ∧ (∀ b_, (or2 (is g20) no) b_ → hp w_ b_ = hp w70 b_) ∧ (∀ b_, (or2 (is g11) no) b_ → hp w_ b_ = hp w70 b_)) (Array.replicate 17 false) w94 := ⟨S95.inv, (fun b_ h_ => K96.at 0 rfl b_ h_), (fun b_ h_ => K96.at 1 rfl b_ h_), (fun b_ h_ => K96.at 2 rfl b_ h_)⟩
      replace h65 := h65.move (K96.at 0 rfl)
      replace h26 := h26.move (K96.at 1 rfl)
      replace h17 := h17.move (K96.at 2 rfl)
      replace h8 := h8.move (K96.at 3 rfl)
      replace h78 := h78.move (K96.at 4 rfl)
      refine xV 0 28 rfl hc97 hs101 (fun L_ w_ hc_ hu_ hs_ => eM (.slice A75 x74.length c76) (by exact e83)) ?_; intro hc102 hs103
      refine xV 1 29 rfl hc102 hs103 (fun L_ w_ hc_ hu_ hs_ => eM (.slice A63 t58.length c64) (by exact e85)) ?_; intro hc104 hs105
      refine xV 2 30 rfl hc104 hs105 (fun L_ w_ hc_ hu_ hs_ => eM (.int .i64 x79) (by exact e86)) ?_; intro hc106 hs107
      obtain ⟨q108, M⟩ := chk M
      obtain ⟨b109, e111⟩ := Row.addr h65 (show (x79).toNat < t58.length by omega)
      refine xV 3 31 rfl hc106 hs107 (fun L_ w_ hc_ hu_ hs_ => eI b109 0 t58.length c64 1 x79 .i64 Try.underlying49 e111 q108 q93) ?_; intro hc112 hs113
      refine xV 4 32 rfl hc112 hs113 (fun L_ w_ hc_ hu_ hs_ => eL ⟨b109, 0 + (x79 : Int).toNat * 1, none⟩ (str (t58.getD ((x79).toNat) ([] : List UInt8))) Try.underlying9 (hpx (Row.pick (j := 0) (u := str (t58.getD ((x79).toNat) ([] : List UInt8))) (o98.move hs_.2.1) e111 (getD_some ([] : List UInt8) (show (x79).toNat < t58.length by omega)) (fun _ _ o_ => by rw [show _ = _ from o_]; rfl)))) ?_; intro hc114 hs115
      refine xV 6 34 rfl hc114 hs115 (fun L_ w_ hc_ hu_ hs_ => eM (.slice (some ⟨g11, 0, none⟩) 13 13) (by exact e81)) ?_; intro hc116 hs117
      refine xV 7 35 rfl hc116 hs117 (fun L_ w_ hc_ hu_ hs_ => eM (.int .i64 x37) (by exact e84)) ?_; intro hc118 hs119
      obtain ⟨b120, e122⟩ := Row.addr h17 (show (x37).toNat < [1200, 1200, 1150, 1100, 1050, 1000, 900, 700, 500, 400, 200, 200, 200].length by have : [1200, 1200, 1150, 1100, 1050, 1000, 900, 700, 500, 400, 200, 200, 200].length = 13 := rfl; omega)
      refine xV 8 36 rfl hc118 hs119 (fun L_ w_ hc_ hu_ hs_ => eI b120 0 13 13 1 x37 .i64 Try.underlying50 e122 q54 q53) ?_; intro hc123 hs124
      refine xV 9 37 rfl hc123 hs124 (fun L_ w_ hc_ hu_ hs_ => eL ⟨b120, 0 + (x37 : Int).toNat * 1, none⟩ (.int .i64 ([1200, 1200, 1150, 1100, 1050, 1000, 900, 700, 500, 400, 200, 200, 200].getD ((x37).toNat) (0 : Int))) Try.underlying3 (hpx (Row.pick (j := 0) (u := .int .i64 ([1200, 1200, 1150, 1100, 1050, 1000, 900, 700, 500, 400, 200, 200, 200].getD ((x37).toNat) (0 : Int))) (o100.move hs_.2.2.2) e122 (getD_some (0 : Int) (show (x37).toNat < [1200, 1200, 1150, 1100, 1050, 1000, 900, 700, 500, 400, 200, 200, 200].length by have : [1200, 1200, 1150, 1100, 1050, 1000, 900, 700, 500, 400, 200, 200, 200].length = 13 := rfl; omega)) (fun _ _ o_ => by rw [show _ = _ from o_]; rfl)))) ?_; intro hc125 hs126
      refine xV 10 38 rfl hc125 hs126 (fun L_ w_ hc_ hu_ hs_ => eM (.slice (some ⟨g20, 0, none⟩) 13 13) (by exact e82)) ?_; intro hc127 hs128
      refine xV 11 39 rfl hc127 hs128 (fun L_ w_ hc_ hu_ hs_ => eM (.int .i64 x37) (by exact e84)) ?_; intro hc129 hs130
      obtain ⟨b131, e133⟩ := Row.addr h26 (show (x37).toNat < [0, 4, 4, 1, 1, 1, 3, 0, 2, 2, 0, 1, 3].length by have : [0, 4, 4, 1, 1, 1, 3, 0, 2, 2, 0, 1, 3].length = 13 := rfl; omega)
      refine xV 12 40 rfl hc129 hs130 (fun L_ w_ hc_ hu_ hs_ => eI b131 0 13 13 1 x37 .i64 Try.underlying50 e133 q54 q53) ?_; intro hc134 hs135
      refine xV 13 41 rfl hc134 hs135 (fun L_ w_ hc_ hu_ hs_ => eL ⟨b131, 0 + (x37 : Int).toNat * 1, none⟩ (.int .i64 ([0, 4, 4, 1, 1, 1, 3, 0, 2, 2, 0, 1, 3].getD ((x37).toNat) (0 : Int))) Try.underlying3 (hpx (Row.pick (j := 0) (u := .int .i64 ([0, 4, 4, 1, 1, 1, 3, 0, 2, 2, 0, 1, 3].getD ((x37).toNat) (0 : Int))) (o99.move hs_.2.2.1) e133 (getD_some (0 : Int) (show (x37).toNat < [0, 4, 4, 1, 1, 1, 3, 0, 2, 2, 0, 1, 3].length by have : [0, 4, 4, 1, 1, 1, 3, 0, 2, 2, 0, 1, 3].length = 13 := rfl; omega)) (fun _ _ o_ => by rw [show _ = _ from o_]; rfl)))) ?_; intro hc136 hs137
      obtain ⟨q138, M⟩ := chk M
      refine xO 5 hc136 ?_
      refine yE 5 33 rfl (e_conv_sb (xs := (t58.getD ((x79).toNat) ([] : List UInt8))) S95 Try.underlying9 Try.underlying32 Try.underlying5 (by kernel_rfl) q138) ?_
      rintro hc146 _ w139 ⟨A140, c141, F142, rfl, h143, S144, K145⟩
      replace h65 := h65.move (K145.at 0 rfl)
      replace h26 := h26.move (K145.at 1 rfl)
      replace h17 := h17.move (K145.at 2 rfl)
      replace h8 := h8.move (K145.at 3 rfl)
      replace h78 := h78.move (K145.at 4 rfl)
      refine ⟨⟨S144.inv, (fun b_ h_ => (K145.at 0 rfl b_ h_).trans (hs137.2.1 b_ h_)), (fun b_ h_ => (K145.at 1 rfl b_ h_).trans (hs137.2.2.1 b_ h_)), (fun b_ h_ => (K145.at 2 rfl b_ h_).trans (hs137.2.2.2 b_ h_))⟩, fun hs147 => ?_⟩
      refine xO 14 hc146 ?_
      refine yO 14 42 rfl hs147 (show _ = Result.ok (Next.value (.agg #[.slice A140 ((t58.getD ((x79).toNat) ([] : List UInt8)).length) c141, .int .i64 ([1200, 1200, 1150, 1100, 1050, 1000, 900, 700, 500, 400, 200, 200, 200].getD ((x37).toNat) (0 : Int)), .int .i64 ([0, 4, 4, 1, 1, 1, 3, 0, 2, 2, 0, 1, 3].getD ((x37).toNat) (0 : Int))])) w139 from by kernel_rfl) ?_; intro hc148 hs149
      have S150 := S144.pulls [F77, F142, F66, (or2 (is g20) no), (or2 (is g11) no), (or2 (is g2) no)] [5] rfl
      obtain ⟨t151, u152, M⟩ := bnd M
      refine xO 15 hc148 ?_
      refine yC 15 rfl (eC [.tmp 28, .tmp 42] [.slice A75 x74.length c76, .agg #[.slice A140 ((t58.getD ((x79).toNat) ([] : List UInt8)).length) c141, .int .i64 ([1200, 1200, 1150, 1100, 1050, 1000, 900, 700, 500, 400, 200, 200, 200].getD ((x37).toNat) (0 : Int)), .int .i64 ([0, 4, 4, 1, 1, 1, 3, 0, 2, 2, 0, 1, 3].getD ((x37).toNat) (0 : Int))]] Try.func30) (spec_l3put.calls k92 w139 H72 x74 A75 c76 F77 (⟨(t58.getD ((x79).toNat) ([] : List UInt8)), ([1200, 1200, 1150, 1100, 1050, 1000, 900, 700, 500, 400, 200, 200, 200].getD ((x37).toNat) (0 : Int)), ([0, 4, 4, 1, 1, 1, 3, 0, 2, 2, 0, 1, 3].getD ((x37).toNat) (0 : Int))⟩ : Sy.Op) A140 c141 F142 h78 h143 (St.own' (Fa := [F77, F142]) (Fr := [F66, (or2 (is g20) no), (or2 (is g11) no), (or2 (is g2) no)]) S150) t151 u152) ?_
      rintro hc160 _ w153 ⟨A156, c157, F159, H154, rfl, h158, T155⟩
      refine ⟨_, rfl, ?_⟩
      obtain ⟨S161, K162⟩ := St.call (Fa := [F77, F142]) (Fr := [F66, (or2 (is g20) no), (or2 (is g11) no), (or2 (is g2) no)]) S150 T155
      replace h65 := h65.move (K162.at 0 rfl)
      replace h26 := h26.move (K162.at 1 rfl)
      replace h17 := h17.move (K162.at 2 rfl)
      replace h8 := h8.move (K162.at 3 rfl)
      have E163 := T155.ext
      replace h65 := h65.ext E163
      replace h26 := h26.ext E163
      replace h17 := h17.ext E163
      replace h8 := h8.ext E163
      refine ⟨⟨(Ext.trans E163 S161.inv), (fun b_ h_ => (K162.at 0 rfl b_ h_).trans (hs149.2.1 b_ h_)), (fun b_ h_ => (K162.at 1 rfl b_ h_).trans (hs149.2.2.1 b_ h_)), (fun b_ h_ => (K162.at 2 rfl b_ h_).trans (hs149.2.2.2 b_ h_))⟩, fun hs164 => ?_⟩
      refine xO 16 hc160 ?_
      refine yO 16 4 rfl hs164 (eA (.slice A156 t151.length c157)) ?_; intro hc165 hs166
      refine xn (by kernel_rfl) ?_ _
      refine inb_n (then_n (wR (lV 26 (eM (.int .i64 x79) (by exact e86)) (lV 27 (eAdd .i64 x79 1) (lV 7 (eA (.int .i64 (IntKind.i64.wrap (x79 + 1)))) (wN (then_n ?_)))))))
      have S170 := S161.pulls [F66, (or2 (is g20) no), (or2 (is g11) no), (or2 (is g2) no), F159] [4, 4, 4, 4] rfl
      exact ⟨k92, (by omega), _, H154, t151, A156, c157, F159, (IntKind.i64.wrap (x79 + 1)), (by omega), rfl, (by exact e80), (by exact e81), (by exact e82), (by kernel_rfl), (by exact e84), (by exact e85), (by kernel_rfl), h65, h26, h17, h8, h158, (Y73.trans E163), S170, M⟩
    replace M := ifn q93 M
    refine cF (bF q93) (wp_exit (then_e (then_e (inb_hit (inb_n (then_n (wR ?_)))))))
    refine lV 15 (eM (.int .i64 x37) (by exact e84)) (lV 16 (eAdd .i64 x37 1) (lV 5 (eA (.int .i64 (IntKind.i64.wrap (x37 + 1)))) (wN (then_n ?_))))
    have S174 := S87.pulls [(or2 (is g20) no), (or2 (is g11) no), (or2 (is g2) no), F77, F66] [4, 4, 4, 4] rfl
    have S175 := St.first (Fa := [(or2 (is g20) no), (or2 (is g11) no), (or2 (is g2) no), F77]) (Fr := [F66]) S174
    exact ⟨k92, (by omega), _, H72, x74, A75, c76, F77, (IntKind.i64.wrap (x37 + 1)), rfl, (by exact e80), (by exact e81), (by exact e82), (by exact e83), (by kernel_rfl), h26, h17, h8, h78, ((Y31.trans E69).trans Y73), S175, M⟩
  replace M := ifn q53 M
  refine cF (bF q53) (wp_exit (then_e (then_e (inb_hit (then_n (wp_seq (wR ?_)))))))
  refine lV 44 (eM (.slice A33 x32.length c34) (by exact e41)) (lV 0 (eA (.slice A33 x32.length c34)) (wN (then_n (wp_ret ?_))))
  obtain rfl := Option.some.inj M
  have S176 := S43.pulls [F35, (or2 (is g20) no), (or2 (is g11) no), (or2 (is g2) no)] [3] rfl
  have S177 := St.first (Fa := [F35]) (Fr := [(or2 (is g20) no), (or2 (is g11) no), (or2 (is g2) no)]) S176
  exact ret1 rfl rfl  (show _ = .slice A33 x32.length c34 from (by kernel_rfl)) ⟨A33, c34, F35, H30, rfl, h36, S177⟩

/-! spec_l3special -/
def spec_l3special.f (x1 : List UInt8) : Option Bool := (if x1 = ([91, 93] : List UInt8) then some true else (if x1 = ([123, 125] : List UInt8) then some true else some (decide (x1 = ([124] : List UInt8)))))
theorem spec_l3special.calls (w : World) (H : Hp) (x1 : List UInt8) (A2 : Option Addr) (c3 : Nat) (h4 : Rd tByte H A2 x1) (l5 : x1.length ≤ c3) (S : Own [] H w) (r : Bool) (M : spec_l3special.f x1 = some r) :
    Calls Try.prog 24 #[.slice A2 x1.length c3] w (fun e e_w => e = .returned (.bool r) ∧ Chg no w e_w) := by
  rw [spec_l3special.f] at M
  refine enter (l := [.slice A2 x1.length c3]) 16 Try.func24 rfl rfl rfl ?_
  have S0_ := S.st
  refine wp_seq (wR (lV 2 (eA (.bool false)) (wN (then_n (wp_seq (wR (lV 4 (eM (.slice A2 x1.length c3)) ?_)))))))
  refine lV 5 (e_conv_bs (A := A2) (n := x1.length) (c := c3) (xs := x1) Try.underlying32 Try.underlying5 Try.underlying9 (by kernel_rfl) rfl (Rd.bytesE S0_.inv h4)) (lV 3 (eA (str x1)) (wN (then_n (wp_seq (wR (lV 6 (eM (str x1)) (lV 7 (e_seql (p := x1) (q := ([91, 93] : List UInt8)) (by kernel_rfl) rfl) ?_)))))))
  refine lV 8 (eM (.bool (decide (x1 = ([91, 93] : List UInt8))))) ?_
  by_cases q6 : x1 = ([91, 93] : List UInt8)
  · replace M := ifp q6 M
    refine lK 8 true (bT q6) ?_
    refine lK 8 true (bT q6) ?_
    refine lV 11 (eT (.bool true) (bT q6)) (lV 12 (eM (.bool true)) ?_)
    refine lJ 12 true ?_
    refine lJ 12 true ?_
    refine lV 15 (eT (.bool true)) (lV 2 (eA (.bool true)) (wN (then_n (wp_ret ?_))))
    obtain rfl := Option.some.inj M
    exact ret1 rfl rfl  (show _ = .bool true from (by kernel_rfl)) ⟨rfl, S0_.chg⟩
  replace M := ifn q6 M
  refine lG 9 8 (bF q6) (eM (str x1)) (lG 10 8 (bF q6) (e_seql (p := x1) (q := ([123, 125] : List UInt8)) (by kernel_rfl) rfl) (lV 11 (eF (.bool (decide (x1 = ([123, 125] : List UInt8)))) (bF q6)) (lV 12 (eM (.bool (decide (x1 = ([123, 125] : List UInt8))))) ?_)))
  by_cases q7 : x1 = ([123, 125] : List UInt8)
  · replace M := ifp q7 M
    refine lK 12 true (bT q7) ?_
    refine lK 12 true (bT q7) ?_
    refine lV 15 (eT (.bool true) (bT q7)) (lV 2 (eA (.bool true)) (wN (then_n (wp_ret ?_))))
    obtain rfl := Option.some.inj M
    exact ret1 rfl rfl  (show _ = .bool true from (by kernel_rfl)) ⟨rfl, S0_.chg⟩
  replace M := ifn q7 M
  refine lG 13 12 (bF q7) (eM (str x1)) (lG 14 12 (bF q7) (e_seql (p := x1) (q := ([124] : List UInt8)) (by kernel_rfl) rfl) (lV 15 (eF (.bool (decide (x1 = ([124] : List UInt8)))) (bF q7)) (lV 2 (eA (.bool (decide (x1 = ([124] : List UInt8))))) (wN (then_n (wp_ret ?_))))))
  obtain rfl := Option.some.inj M
  exact ret1 rfl rfl  (show _ = .bool (decide (x1 = ([124] : List UInt8))) from (by kernel_rfl)) ⟨rfl, S0_.chg⟩

/-! spec_l3prefix -/
def spec_l3prefix.f (x1 : Int) : Option Bool := (if x1 = 3 then some true else some (decide (x1 = 4)))
theorem spec_l3prefix.calls (w : World) (H : Hp) (x1 : Int) (S : Own [] H w) (r : Bool) (M : spec_l3prefix.f x1 = some r) :
    Calls Try.prog 25 #[.int .i64 x1] w (fun e e_w => e = .returned (.bool r) ∧ Chg no w e_w) := by
  rw [spec_l3prefix.f] at M
  refine enter (l := [.int .i64 x1]) 9 Try.func25 rfl rfl rfl ?_
  have S0_ := S.st
  refine wp_seq (wR (lV 2 (eA (.bool false)) (wN (then_n (wp_seq (wR (lV 3 (eM (.int .i64 x1)) ?_)))))))
  refine lV 4 (eEq .i64 x1 3) (lV 5 (eM (.bool (decide (x1 = 3)))) ?_)
  by_cases q2 : x1 = 3
  · replace M := ifp q2 M
    refine lK 5 true (bT q2) ?_
    refine lK 5 true (bT q2) ?_
    refine lV 8 (eT (.bool true) (bT q2)) (lV 2 (eA (.bool true)) (wN (then_n (wp_ret ?_))))
    obtain rfl := Option.some.inj M
    exact ret1 rfl rfl  (show _ = .bool true from (by kernel_rfl)) ⟨rfl, S0_.chg⟩
  replace M := ifn q2 M
  refine lG 6 5 (bF q2) (eM (.int .i64 x1)) (lG 7 5 (bF q2) (eEq .i64 x1 4) (lV 8 (eF (.bool (decide (x1 = 4))) (bF q2)) (lV 2 (eA (.bool (decide (x1 = 4)))) (wN (then_n (wp_ret ?_))))))
  obtain rfl := Option.some.inj M
  exact ret1 rfl rfl  (show _ = .bool (decide (x1 = 4)) from (by kernel_rfl)) ⟨rfl, S0_.chg⟩

/-! spec_ValidOps -/
mutual
def spec_ValidOps.l0 : Nat → (List Sy.Op) → Int → Int → Option Bool
  | 0, _, _, _ => none
  | k19 + 1, x1, x9, x10 => (if x10 < (x1.length : Int) then (if 0 ≤ x10 then (if (((x1.getD ((x10).toNat) z45).name).length : Int) < 1 then some false else (if (((x1.getD ((x10).toNat) z45).name).length : Int) > 100 then some false else ((spec_l3special.f ((x1.getD ((x10).toNat) z45).name)).bind fun t43 => (if t43 = true then some false else (if ((x1.getD ((x10).toNat) z45).pri) < 1 then some false else (if ((x1.getD ((x10).toNat) z45).pri) > 1200 then some false else (if ((x1.getD ((x10).toNat) z45).typ) < 0 then some false else (if ((x1.getD ((x10).toNat) z45).typ) > 6 then some false else (if (x1.getD ((x10).toNat) z45).name = ([44] : List UInt8) then (if ((x1.getD ((x10).toNat) z45).pri) ≠ 1000 then some false else (if ((x1.getD ((x10).toNat) z45).typ) ≠ 1 then some false else (spec_ValidOps.l1 k19 x1 x10 (IntKind.i64.wrap (x9 + 1))))) else (spec_ValidOps.l1 k19 x1 x10 x9)))))))))) else none) else some (decide (x9 = 1)))
def spec_ValidOps.l1 : Nat → (List Sy.Op) → Int → Int → Option Bool
  | 0, _, _, _ => none
  | k65 + 1, x1, x10, x56 => (if x10 = 0 then (spec_ValidOps.l0 k65 x1 x56 (IntKind.i64.wrap (x10 + 1))) else (if 0 ≤ (IntKind.i64.wrap (x10 - 1)) then (if (IntKind.i64.wrap (x10 - 1)) < (x1.length : Int) then (if (!(Op.bytesLess ((x1.getD (((IntKind.i64.wrap (x10 - 1))).toNat) z45).name) ((x1.getD ((x10).toNat) z45).name) || ((x1.getD (((IntKind.i64.wrap (x10 - 1))).toNat) z45).name) == ((x1.getD ((x10).toNat) z45).name))) = true then some false else (if (x1.getD (((IntKind.i64.wrap (x10 - 1))).toNat) z45).name = (x1.getD ((x10).toNat) z45).name then ((spec_l3prefix.f ((x1.getD (((IntKind.i64.wrap (x10 - 1))).toNat) z45).typ)).bind fun t95 => (if ¬ (t95 = true) then some false else ((spec_l3prefix.f ((x1.getD ((x10).toNat) z45).typ)).bind fun t102 => (if t102 = true then some false else (spec_ValidOps.l0 k65 x1 x56 (IntKind.i64.wrap (x10 + 1))))))) else (spec_ValidOps.l0 k65 x1 x56 (IntKind.i64.wrap (x10 + 1))))) else none) else none))
end
def spec_ValidOps.f (k : Nat) (x1 : List Sy.Op) : Option Bool := (if (x1.length : Int) > 200 then some false else (spec_ValidOps.l0 k x1 0 0))
theorem spec_ValidOps.calls (k : Nat) (w : World) (H : Hp) (x1 : List Sy.Op) (A2 : Option Addr) (c3 : Nat) (h4 : Rd st45 H A2 x1) (l5 : x1.length ≤ c3) (S : Own [] H w) (r : Bool) (M : spec_ValidOps.f k x1 = some r) :
    Calls Try.prog 8 #[.slice A2 x1.length c3] w (fun e e_w => e = .returned (.bool r) ∧ Chg no w e_w) := by
  rw [spec_ValidOps.f] at M
  refine enter (l := [.slice A2 x1.length c3]) 103 Try.func8 rfl rfl rfl ?_
  have S0_ := S.st
  refine wp_seq (wR (lV 2 (eA (.bool false)) (wN (then_n (wp_seq (wp_seq (wR ?_)))))))
  refine lV 7 (eM (.slice A2 x1.length c3)) (lV 8 (e_len (A := A2) (n := x1.length) (c := c3) Try.underlying25 (by kernel_rfl)) (lV 9 (e_gtr (k := .i64) (a := (x1.length : Int)) (b := 200) (by kernel_rfl) rfl) (wN (then_n ?_))))
  by_cases q6 : (x1.length : Int) > 200
  · replace M := ifp q6 M
    refine cT (bT q6) (wp_seq (wR (lV 2 (eA (.bool false)) (wN (then_n (wp_ret (then_r ?_)))))))
    obtain rfl := Option.some.inj M
    exact ret1 rfl rfl  (show _ = .bool false from (by kernel_rfl)) ⟨rfl, S0_.chg⟩
  replace M := ifn q6 M
  refine cF (bF q6) (wp_skip (then_n (wp_seq (wR (lV 3 (eA (.int .i64 0)) (wN (then_n ?_)))))))
  refine wp_seq (wp_seq (wR (lV 4 (eA (.int .i64 0)) (wN (then_n (wp_block ?_))))))
  refine wp_loop_g (fun k17 a18 w7 => ∃ (f8 : Nat → Value) (x9 : Int) (x10 : Int), a18 = mk 103 f8 ∧ f8 0 = .slice A2 x1.length c3 ∧ f8 3 = .int .i64 x9 ∧ f8 4 = .int .i64 x10 ∧ St (anyOf []) H w [] H w7 ∧ spec_ValidOps.l0 k17 x1 x9 x10 = some r) k ⟨_, 0, 0, rfl, (by kernel_rfl), (by kernel_rfl), (by kernel_rfl), S0_, M⟩ ?_
  clear M
  rintro k17 a18 w7 ⟨f8, x9, x10, rfl, e11, e12, e13, S14, M⟩
  rcases k17 with _ | k19
  · rw [spec_ValidOps.l0] at M
    cases M
  rw [spec_ValidOps.l0] at M
  refine wp_seq (wp_seq (wR (lV 10 (eM (.int .i64 x10) (by exact e13)) (lV 11 (eM (.slice A2 x1.length c3) (by exact e11)) (lV 12 (e_len (A := A2) (n := x1.length) (c := c3) Try.underlying25 (by kernel_rfl)) (lV 13 (eLt .i64 x10 (x1.length : Int)) (wN ?_)))))))
  refine then_n ?_
  by_cases q20 : x10 < (x1.length : Int)
  · replace M := ifp q20 M
    refine cT (bT q20) (wp_skip (then_n (wp_seq (wp_block (wp_seq (wR (lV 16 (eM (.slice A2 x1.length c3) (by exact e11)) ?_)))))))
    refine lV 17 (eM (.int .i64 x10) (by exact e13)) ?_
    obtain ⟨q21, M⟩ := chk M
    obtain ⟨b22, o23, e24⟩ := Rd.addr h4 (show (x10).toNat < x1.length by omega)
    obtain ⟨y25, r26, k27⟩ := Rd.at h4 e24 (getD_some z45 (show (x10).toNat < x1.length by omega))
    obtain ⟨A28, c29, rfl, l30, h31⟩ := st45_open r26
    refine lV 18 (eI b22 o23 x1.length c3 3 x10 .i64 Try.underlying25 e24 q21 q20) (lV 19 (e_loadS (b := b22) (off := o23 + (x10 : Int).toNat * 3) (cs := [.slice A28 ((x1.getD ((x10).toNat) z45).name).length c29, .int .i64 ((x1.getD ((x10).toNat) z45).pri), .int .i64 ((x1.getD ((x10).toNat) z45).typ)]) Try.underlying45 rfl (by kernel_rfl) (by kernel_rfl) (fun j_ u_ e_ => (hpx (S14.inv.cell (k27 j_ u_ e_))))) ?_)
    refine lW 5 (nB #[.slice none 0 0, .int .i64 0, .int .i64 0] 45 S14) ?_
    rintro _ w32 ⟨g33, rfl, b34, S35, K36⟩
    refine lE (eSa g33 0 [.slice A28 ((x1.getD ((x10).toNat) z45).name).length c29, .int .i64 ((x1.getD ((x10).toNat) z45).pri), .int .i64 ((x1.getD ((x10).toNat) z45).typ)] S35 b34) ?_
    rintro w37 ⟨b38, S39, K40⟩
    clear b34
    refine wN (then_n (wp_seq (wp_seq (wR (lV 20 (eD g33 0 0 1 Try.underlying45) (lV 21 (eL ⟨g33, 0 + 0, none⟩ (.slice A28 ((x1.getD ((x10).toNat) z45).name).length c29) Try.underlying32 (blk_cell b38 rfl)) (lV 22 (e_len (A := A28) (n := ((x1.getD ((x10).toNat) z45).name).length) (c := c29) Try.underlying32 (by kernel_rfl)) ?_)))))))
    refine lV 23 (eLt .i64 (((x1.getD ((x10).toNat) z45).name).length : Int) 1) (lV 24 (eM (.bool (decide ((((x1.getD ((x10).toNat) z45).name).length : Int) < 1)))) ?_)
    by_cases q41 : (((x1.getD ((x10).toNat) z45).name).length : Int) < 1
    · replace M := ifp q41 M
      refine lK 24 true (bT q41) ?_
      refine lK 24 true (bT q41) ?_
      refine lK 24 true (bT q41) ?_
      refine lK 24 true (bT q41) ?_
      refine lV 29 (eT (.bool true) (bT q41)) (lV 30 (eM (.bool true)) ?_)
      refine lJ 30 true ?_
      refine lJ 30 true ?_
      refine lJ 30 true ?_
      refine lV 34 (eT (.bool true)) (lV 35 (eM (.bool true)) ?_)
      refine lJ 35 true ?_
      refine lJ 35 true ?_
      refine lJ 35 true ?_
      refine lV 39 (eT (.bool true)) (lV 40 (eM (.bool true)) ?_)
      refine lJ 40 true ?_
      refine lJ 40 true ?_
      refine lJ 40 true ?_
      refine lV 44 (eT (.bool true)) (lV 45 (eM (.bool true)) ?_)
      refine lJ 45 true ?_
      refine lJ 45 true ?_
      refine lJ 45 true ?_
      refine lV 49 (eT (.bool true)) (lV 50 (eM (.bool true)) ?_)
      refine lJ 50 true ?_
      refine lJ 50 true ?_
      refine lJ 50 true ?_
      refine lV 54 (eT (.bool true)) (wN (then_n (cond_t rfl (by kernel_rfl) (wp_seq (wR (lV 2 (eA (.bool false)) (wN ?_)))))))
      refine then_n (wp_ret (then_r (inb_r (then_r (then_r (inb_r (then_r ?_)))))))
      obtain rfl := Option.some.inj M
      exact ret1 rfl rfl  (show _ = .bool false from (by kernel_rfl)) ⟨rfl, S39.chg⟩
    replace M := ifn q41 M
    refine lG 25 24 (bF q41) (eD g33 0 0 1 Try.underlying45) (lG 26 24 (bF q41) (eL ⟨g33, 0 + 0, none⟩ (.slice A28 ((x1.getD ((x10).toNat) z45).name).length c29) Try.underlying32 (blk_cell b38 rfl)) (lG 27 24 (bF q41) (e_len (A := A28) (n := ((x1.getD ((x10).toNat) z45).name).length) (c := c29) Try.underlying32 (by kernel_rfl)) (lG 28 24 (bF q41) (e_gtr (k := .i64) (a := (((x1.getD ((x10).toNat) z45).name).length : Int)) (b := 100) (by kernel_rfl) rfl) (lV 29 (eF (.bool (decide ((((x1.getD ((x10).toNat) z45).name).length : Int) > 100))) (bF q41)) (lV 30 (eM (.bool (decide ((((x1.getD ((x10).toNat) z45).name).length : Int) > 100)))) ?_)))))
    by_cases q42 : (((x1.getD ((x10).toNat) z45).name).length : Int) > 100
    · replace M := ifp q42 M
      refine lK 30 true (bT q42) ?_
      refine lK 30 true (bT q42) ?_
      refine lK 30 true (bT q42) ?_
      refine lV 34 (eT (.bool true) (bT q42)) (lV 35 (eM (.bool true)) ?_)
      refine lJ 35 true ?_
      refine lJ 35 true ?_
      refine lJ 35 true ?_
      refine lV 39 (eT (.bool true)) (lV 40 (eM (.bool true)) ?_)
      refine lJ 40 true ?_
      refine lJ 40 true ?_
      refine lJ 40 true ?_
      refine lV 44 (eT (.bool true)) (lV 45 (eM (.bool true)) ?_)
      refine lJ 45 true ?_
      refine lJ 45 true ?_
      refine lJ 45 true ?_
      refine lV 49 (eT (.bool true)) (lV 50 (eM (.bool true)) ?_)
      refine lJ 50 true ?_
      refine lJ 50 true ?_
      refine lJ 50 true ?_
      refine lV 54 (eT (.bool true)) (wN (then_n (cond_t rfl (by kernel_rfl) (wp_seq (wR (lV 2 (eA (.bool false)) (wN ?_)))))))
      refine then_n (wp_ret (then_r (inb_r (then_r (then_r (inb_r (then_r ?_)))))))
      obtain rfl := Option.some.inj M
      exact ret1 rfl rfl  (show _ = .bool false from (by kernel_rfl)) ⟨rfl, S39.chg⟩
    replace M := ifn q42 M
    refine lG 31 30 (bF q42) (eD g33 0 0 1 Try.underlying45) (lG 32 30 (bF q42) (eL ⟨g33, 0 + 0, none⟩ (.slice A28 ((x1.getD ((x10).toNat) z45).name).length c29) Try.underlying32 (blk_cell b38 rfl)) ?_)
    obtain ⟨t43, u44, M⟩ := bnd M
    refine lcallg (d := 33) (t := 30) rfl (by kernel_rfl) rfl (bF q42) rfl (by kernel_rfl) (eC [.tmp 32] [.slice A28 ((x1.getD ((x10).toNat) z45).name).length c29] Try.func24) (spec_l3special.calls w37 H ((x1.getD ((x10).toNat) z45).name) A28 c29 h31 l30 S39.own0 t43 u44) ?_
    rintro _ w45 ⟨rfl, C46⟩
    refine ⟨_, rfl, ?_⟩
    obtain ⟨S47, K48⟩ := S39.still C46
    replace b38 := K48.blk 0 rfl b38
    refine lV 34 (eF (.bool t43) (bF q42)) (lV 35 (eM (.bool t43)) ?_)
    by_cases q49 : t43 = true
    · replace M := ifp q49 M
      refine lK 35 true (bvt q49 (by kernel_rfl)) ?_
      refine lK 35 true (bvt q49 (by kernel_rfl)) ?_
      refine lK 35 true (bvt q49 (by kernel_rfl)) ?_
      refine lV 39 (eT (.bool true) (bvt q49 (by kernel_rfl))) (lV 40 (eM (.bool true)) ?_)
      refine lJ 40 true ?_
      refine lJ 40 true ?_
      refine lJ 40 true ?_
      refine lV 44 (eT (.bool true)) (lV 45 (eM (.bool true)) ?_)
      refine lJ 45 true ?_
      refine lJ 45 true ?_
      refine lJ 45 true ?_
      refine lV 49 (eT (.bool true)) (lV 50 (eM (.bool true)) ?_)
      refine lJ 50 true ?_
      refine lJ 50 true ?_
      refine lJ 50 true ?_
      refine lV 54 (eT (.bool true)) (wN (then_n (cond_t rfl (by kernel_rfl) (wp_seq (wR (lV 2 (eA (.bool false)) (wN ?_)))))))
      refine then_n (wp_ret (then_r (inb_r (then_r (then_r (inb_r (then_r ?_)))))))
      obtain rfl := Option.some.inj M
      exact ret1 rfl rfl  (show _ = .bool false from (by kernel_rfl)) ⟨rfl, S47.chg⟩
    replace M := ifn q49 M
    refine lG 36 35 (bvf q49 (by kernel_rfl)) (eD g33 0 1 1 Try.underlying45) (lG 37 35 (bvf q49 (by kernel_rfl)) (eL ⟨g33, 0 + 1, none⟩ (.int .i64 ((x1.getD ((x10).toNat) z45).pri)) Try.underlying3 (blk_cell b38 rfl)) (lG 38 35 (bvf q49 (by kernel_rfl)) (eLt .i64 (x1.getD ((x10).toNat) z45).pri 1) (lV 39 (eF (.bool (decide (((x1.getD ((x10).toNat) z45).pri) < 1))) (bvf q49 (by kernel_rfl))) (lV 40 (eM (.bool (decide (((x1.getD ((x10).toNat) z45).pri) < 1)))) ?_))))
    by_cases q50 : ((x1.getD ((x10).toNat) z45).pri) < 1
    · replace M := ifp q50 M
      refine lK 40 true (bT q50) ?_
      refine lK 40 true (bT q50) ?_
      refine lK 40 true (bT q50) ?_
      refine lV 44 (eT (.bool true) (bT q50)) (lV 45 (eM (.bool true)) ?_)
      refine lJ 45 true ?_
      refine lJ 45 true ?_
      refine lJ 45 true ?_
      refine lV 49 (eT (.bool true)) (lV 50 (eM (.bool true)) ?_)
      refine lJ 50 true ?_
      refine lJ 50 true ?_
      refine lJ 50 true ?_
      refine lV 54 (eT (.bool true)) (wN (then_n (cond_t rfl (by kernel_rfl) (wp_seq (wR (lV 2 (eA (.bool false)) (wN ?_)))))))
      refine then_n (wp_ret (then_r (inb_r (then_r (then_r (inb_r (then_r ?_)))))))
      obtain rfl := Option.some.inj M
      exact ret1 rfl rfl  (show _ = .bool false from (by kernel_rfl)) ⟨rfl, S47.chg⟩
    replace M := ifn q50 M
    refine lG 41 40 (bF q50) (eD g33 0 1 1 Try.underlying45) (lG 42 40 (bF q50) (eL ⟨g33, 0 + 1, none⟩ (.int .i64 ((x1.getD ((x10).toNat) z45).pri)) Try.underlying3 (blk_cell b38 rfl)) (lG 43 40 (bF q50) (e_gtr (k := .i64) (a := (x1.getD ((x10).toNat) z45).pri) (b := 1200) (by kernel_rfl) rfl) (lV 44 (eF (.bool (decide (((x1.getD ((x10).toNat) z45).pri) > 1200))) (bF q50)) (lV 45 (eM (.bool (decide (((x1.getD ((x10).toNat) z45).pri) > 1200)))) ?_))))
    by_cases q51 : ((x1.getD ((x10).toNat) z45).pri) > 1200
    · replace M := ifp q51 M
      refine lK 45 true (bT q51) ?_
      refine lK 45 true (bT q51) ?_
      refine lK 45 true (bT q51) ?_
      refine lV 49 (eT (.bool true) (bT q51)) (lV 50 (eM (.bool true)) ?_)
      refine lJ 50 true ?_
      refine lJ 50 true ?_
      refine lJ 50 true ?_
      refine lV 54 (eT (.bool true)) (wN (then_n (cond_t rfl (by kernel_rfl) (wp_seq (wR (lV 2 (eA (.bool false)) (wN ?_)))))))
      refine then_n (wp_ret (then_r (inb_r (then_r (then_r (inb_r (then_r ?_)))))))
      obtain rfl := Option.some.inj M
      exact ret1 rfl rfl  (show _ = .bool false from (by kernel_rfl)) ⟨rfl, S47.chg⟩
    replace M := ifn q51 M
    refine lG 46 45 (bF q51) (eD g33 0 2 1 Try.underlying45) (lG 47 45 (bF q51) (eL ⟨g33, 0 + 2, none⟩ (.int .i64 ((x1.getD ((x10).toNat) z45).typ)) Try.underlying3 (blk_cell b38 rfl)) (lG 48 45 (bF q51) (eLt .i64 (x1.getD ((x10).toNat) z45).typ 0) (lV 49 (eF (.bool (decide (((x1.getD ((x10).toNat) z45).typ) < 0))) (bF q51)) (lV 50 (eM (.bool (decide (((x1.getD ((x10).toNat) z45).typ) < 0)))) ?_))))
    by_cases q52 : ((x1.getD ((x10).toNat) z45).typ) < 0
    · replace M := ifp q52 M
      refine lK 50 true (bT q52) ?_
      refine lK 50 true (bT q52) ?_
      refine lK 50 true (bT q52) ?_
      refine lV 54 (eT (.bool true) (bT q52)) (wN (then_n (cond_t rfl (by kernel_rfl) (wp_seq (wR (lV 2 (eA (.bool false)) (wN ?_)))))))
      refine then_n (wp_ret (then_r (inb_r (then_r (then_r (inb_r (then_r ?_)))))))
      obtain rfl := Option.some.inj M
      exact ret1 rfl rfl  (show _ = .bool false from (by kernel_rfl)) ⟨rfl, S47.chg⟩
    replace M := ifn q52 M
    refine lG 51 50 (bF q52) (eD g33 0 2 1 Try.underlying45) (lG 52 50 (bF q52) (eL ⟨g33, 0 + 2, none⟩ (.int .i64 ((x1.getD ((x10).toNat) z45).typ)) Try.underlying3 (blk_cell b38 rfl)) (lG 53 50 (bF q52) (e_gtr (k := .i64) (a := (x1.getD ((x10).toNat) z45).typ) (b := 6) (by kernel_rfl) rfl) (lV 54 (eF (.bool (decide (((x1.getD ((x10).toNat) z45).typ) > 6))) (bF q52)) (wN (then_n ?_)))))
    by_cases q53 : ((x1.getD ((x10).toNat) z45).typ) > 6
    · replace M := ifp q53 M
      refine cT (bT q53) (wp_seq (wR (lV 2 (eA (.bool false)) (wN (then_n (wp_ret (then_r ?_)))))))
      refine inb_r (then_r (then_r (inb_r (then_r ?_))))
      obtain rfl := Option.some.inj M
      exact ret1 rfl rfl  (show _ = .bool false from (by kernel_rfl)) ⟨rfl, S47.chg⟩
    replace M := ifn q53 M
    refine cF (bF q53) (wp_skip (then_n ?_))
    refine wp_seq_cut (fun a64 w54 => ∃ (k66 : Nat), k66 ≤ k19 ∧ ∃ (f55 : Nat → Value) (x56 : Int), a64 = mk 103 f55 ∧ f55 0 = .slice A2 x1.length c3 ∧ f55 3 = .int .i64 x56 ∧ f55 4 = .int .i64 x10 ∧ f55 5 = .pointer (some ⟨g33, 0, none⟩) ∧ w54.heap[g33]? = some (.cells #[.slice A28 ((x1.getD ((x10).toNat) z45).name).length c29, .int .i64 ((x1.getD ((x10).toNat) z45).pri), .int .i64 ((x1.getD ((x10).toNat) z45).typ)] 45 (0, 0)) ∧ St (anyOf []) H w [(is g33)] H w54 ∧ spec_ValidOps.l1 k66 x1 x10 x56 = some r) ?_ ?_
    · refine wp_seq (wR (lV 55 (eD g33 0 0 1 Try.underlying45) (lV 56 (eL ⟨g33, 0 + 0, none⟩ (.slice A28 ((x1.getD ((x10).toNat) z45).name).length c29) Try.underlying32 (blk_cell b38 rfl)) (lV 57 (e_conv_bs (A := A28) (n := ((x1.getD ((x10).toNat) z45).name).length) (c := c29) (xs := (x1.getD ((x10).toNat) z45).name) Try.underlying32 Try.underlying5 Try.underlying9 (by kernel_rfl) rfl (Rd.bytesE S47.inv h31)) (lV 58 (e_seql (p := (x1.getD ((x10).toNat) z45).name) (q := ([44] : List UInt8)) (by kernel_rfl) rfl) (wN (then_n ?_)))))))
      by_cases q67 : (x1.getD ((x10).toNat) z45).name = ([44] : List UInt8)
      · replace M := ifp q67 M
        refine cT (bT q67) (wp_seq (wR (lV 59 (eM (.int .i64 x9) (by exact e12)) (lV 60 (eAdd .i64 x9 1) (lV 3 (eA (.int .i64 (IntKind.i64.wrap (x9 + 1)))) (wN (then_n ?_)))))))
        refine wp_seq (wR (lV 61 (eD g33 0 1 1 Try.underlying45) (lV 62 (eL ⟨g33, 0 + 1, none⟩ (.int .i64 ((x1.getD ((x10).toNat) z45).pri)) Try.underlying3 (blk_cell b38 rfl)) (lV 63 (eNe .i64 (x1.getD ((x10).toNat) z45).pri 1000) (lV 64 (eM (.bool (decide (((x1.getD ((x10).toNat) z45).pri) ≠ 1000)))) ?_)))))
        by_cases q68 : ((x1.getD ((x10).toNat) z45).pri) ≠ 1000
        · replace M := ifp q68 M
          refine lK 64 true (bT q68) ?_
          refine lK 64 true (bT q68) ?_
          refine lK 64 true (bT q68) ?_
          refine lV 68 (eT (.bool true) (bT q68)) (wN (then_n (cond_t rfl (by kernel_rfl) (wp_seq (wR (lV 2 (eA (.bool false)) (wN ?_)))))))
          refine then_n (wp_ret (then_r (inb_r (then_r (then_r (inb_r (then_r ?_)))))))
          obtain rfl := Option.some.inj M
          exact ret1 rfl rfl  (show _ = .bool false from (by kernel_rfl)) ⟨rfl, S47.chg⟩
        replace M := ifn q68 M
        refine lG 65 64 (bF q68) (eD g33 0 2 1 Try.underlying45) (lG 66 64 (bF q68) (eL ⟨g33, 0 + 2, none⟩ (.int .i64 ((x1.getD ((x10).toNat) z45).typ)) Try.underlying3 (blk_cell b38 rfl)) (lG 67 64 (bF q68) (eNe .i64 (x1.getD ((x10).toNat) z45).typ 1) (lV 68 (eF (.bool (decide (((x1.getD ((x10).toNat) z45).typ) ≠ 1))) (bF q68)) (wN (then_n ?_)))))
        by_cases q69 : ((x1.getD ((x10).toNat) z45).typ) ≠ 1
        · replace M := ifp q69 M
          refine cT (bT q69) (wp_seq (wR (lV 2 (eA (.bool false)) (wN (then_n (wp_ret (then_r ?_)))))))
          refine inb_r (then_r (then_r (inb_r (then_r ?_))))
          obtain rfl := Option.some.inj M
          exact ret1 rfl rfl  (show _ = .bool false from (by kernel_rfl)) ⟨rfl, S47.chg⟩
        replace M := ifn q69 M
        refine cF (bF q69) (wp_skip (then_n ?_))
        exact ⟨k19, (by omega), _, (IntKind.i64.wrap (x9 + 1)), rfl, (by exact e11), (by kernel_rfl), (by exact e13), (by kernel_rfl), b38, S47, M⟩
      replace M := ifn q67 M
      refine cF (bF q67) (wp_skip (then_n ?_))
      exact ⟨k19, (by omega), _, x9, rfl, (by exact e11), (by exact e12), (by exact e13), (by kernel_rfl), b38, S47, M⟩
    clear M
    rintro a64 w54 ⟨k66, z111, f55, x56, rfl, e57, e58, e59, e60, b38, S61, M⟩
    rcases k66 with _ | k65
    · rw [spec_ValidOps.l1] at M
      cases M
    rw [spec_ValidOps.l1] at M
    refine wp_seq (wp_seq (wR (lV 69 (eM (.int .i64 x10) (by exact e59)) (lV 70 (eEq .i64 x10 0) (wN (then_n ?_))))))
    by_cases q70 : x10 = 0
    · replace M := ifp q70 M
      refine cT (bT q70) (wp_exit (then_e (inb_hit (then_n (wR (lV 14 (eM (.int .i64 x10) (by exact e59)) (lV 15 (eAdd .i64 x10 1) ?_)))))))
      refine lV 4 (eA (.int .i64 (IntKind.i64.wrap (x10 + 1)))) (wN (then_n ?_))
      have S71 := St.first (Fa := []) (Fr := [(is g33)]) S61
      exact ⟨k65, (by omega), _, x56, (IntKind.i64.wrap (x10 + 1)), rfl, (by exact e57), (by exact e58), (by kernel_rfl), S71, M⟩
    replace M := ifn q70 M
    refine cF (bF q70) (wp_skip (then_n (wp_seq (wR (lV 71 (eM (.slice A2 x1.length c3) (by exact e57)) (lV 72 (eM (.int .i64 x10) (by exact e59)) (lV 73 (e_sub (k := .i64) (a := x10) (b := 1) (by kernel_rfl) rfl) ?_)))))))
    obtain ⟨q72, M⟩ := chk M
    obtain ⟨q73, M⟩ := chk M
    obtain ⟨b74, o75, e76⟩ := Rd.addr h4 (show ((IntKind.i64.wrap (x10 - 1))).toNat < x1.length by omega)
    obtain ⟨y77, r78, k79⟩ := Rd.at h4 e76 (getD_some z45 (show ((IntKind.i64.wrap (x10 - 1))).toNat < x1.length by omega))
    obtain ⟨A80, c81, rfl, l82, h83⟩ := st45_open r78
    refine lV 74 (eI b74 o75 x1.length c3 3 (IntKind.i64.wrap (x10 - 1)) .i64 Try.underlying25 e76 q72 q73) (lV 75 (e_loadS (b := b74) (off := o75 + ((IntKind.i64.wrap (x10 - 1)) : Int).toNat * 3) (cs := [.slice A80 ((x1.getD (((IntKind.i64.wrap (x10 - 1))).toNat) z45).name).length c81, .int .i64 ((x1.getD (((IntKind.i64.wrap (x10 - 1))).toNat) z45).pri), .int .i64 ((x1.getD (((IntKind.i64.wrap (x10 - 1))).toNat) z45).typ)]) Try.underlying45 rfl (by kernel_rfl) (by kernel_rfl) (fun j_ u_ e_ => (hpx (S61.inv.cell (k79 j_ u_ e_))))) ?_)
    refine lW 6 (nB #[.slice none 0 0, .int .i64 0, .int .i64 0] 45 S61) ?_
    rintro _ w84 ⟨g85, rfl, b86, S87, K88⟩
    replace b38 := K88.blk 0 rfl b38
    refine lE (eSa g85 0 [.slice A80 ((x1.getD (((IntKind.i64.wrap (x10 - 1))).toNat) z45).name).length c81, .int .i64 ((x1.getD (((IntKind.i64.wrap (x10 - 1))).toNat) z45).pri), .int .i64 ((x1.getD (((IntKind.i64.wrap (x10 - 1))).toNat) z45).typ)] S87 b86) ?_
    rintro w89 ⟨b90, S91, K92⟩
    replace b38 := K92.blk 0 rfl b38
    clear b86
    refine wN (then_n (wp_seq (wp_seq (wR (lV 76 (eD g85 0 0 1 Try.underlying45) (lV 77 (eL ⟨g85, 0 + 0, none⟩ (.slice A80 ((x1.getD (((IntKind.i64.wrap (x10 - 1))).toNat) z45).name).length c81) Try.underlying32 (blk_cell b90 rfl)) (lV 78 (e_conv_bs (A := A80) (n := ((x1.getD (((IntKind.i64.wrap (x10 - 1))).toNat) z45).name).length) (c := c81) (xs := (x1.getD (((IntKind.i64.wrap (x10 - 1))).toNat) z45).name) Try.underlying32 Try.underlying5 Try.underlying9 (by kernel_rfl) rfl (Rd.bytesE S91.inv h83)) ?_)))))))
    refine lV 79 (eD g33 0 0 1 Try.underlying45 (by exact e60)) (lV 80 (eL ⟨g33, 0 + 0, none⟩ (.slice A28 ((x1.getD ((x10).toNat) z45).name).length c29) Try.underlying32 (blk_cell b38 rfl)) (lV 81 (e_conv_bs (A := A28) (n := ((x1.getD ((x10).toNat) z45).name).length) (c := c29) (xs := (x1.getD ((x10).toNat) z45).name) Try.underlying32 Try.underlying5 Try.underlying9 (by kernel_rfl) rfl (Rd.bytesE S91.inv h31)) (lV 82 (e_sgtr (p := (x1.getD (((IntKind.i64.wrap (x10 - 1))).toNat) z45).name) (q := (x1.getD ((x10).toNat) z45).name) (by kernel_rfl) (by kernel_rfl)) (wN (then_n ?_)))))
    by_cases q93 : (!(Op.bytesLess ((x1.getD (((IntKind.i64.wrap (x10 - 1))).toNat) z45).name) ((x1.getD ((x10).toNat) z45).name) || ((x1.getD (((IntKind.i64.wrap (x10 - 1))).toNat) z45).name) == ((x1.getD ((x10).toNat) z45).name))) = true
    · replace M := ifp q93 M
      refine cT (bvt q93 (by kernel_rfl)) (wp_seq (wR (lV 2 (eA (.bool false)) (wN (then_n (wp_ret (then_r ?_)))))))
      refine inb_r (then_r (then_r (inb_r (then_r ?_))))
      obtain rfl := Option.some.inj M
      exact ret1 rfl rfl  (show _ = .bool false from (by kernel_rfl)) ⟨rfl, S91.chg⟩
    replace M := ifn q93 M
    refine cF (bvf q93 (by kernel_rfl)) (wp_skip (then_n (wp_seq (wR (lV 83 (eD g85 0 0 1 Try.underlying45) (lV 84 (eL ⟨g85, 0 + 0, none⟩ (.slice A80 ((x1.getD (((IntKind.i64.wrap (x10 - 1))).toNat) z45).name).length c81) Try.underlying32 (blk_cell b90 rfl)) (lV 85 (e_conv_bs (A := A80) (n := ((x1.getD (((IntKind.i64.wrap (x10 - 1))).toNat) z45).name).length) (c := c81) (xs := (x1.getD (((IntKind.i64.wrap (x10 - 1))).toNat) z45).name) Try.underlying32 Try.underlying5 Try.underlying9 (by kernel_rfl) rfl (Rd.bytesE S91.inv h83)) ?_)))))))
    refine lV 86 (eD g33 0 0 1 Try.underlying45 (by exact e60)) (lV 87 (eL ⟨g33, 0 + 0, none⟩ (.slice A28 ((x1.getD ((x10).toNat) z45).name).length c29) Try.underlying32 (blk_cell b38 rfl)) (lV 88 (e_conv_bs (A := A28) (n := ((x1.getD ((x10).toNat) z45).name).length) (c := c29) (xs := (x1.getD ((x10).toNat) z45).name) Try.underlying32 Try.underlying5 Try.underlying9 (by kernel_rfl) rfl (Rd.bytesE S91.inv h31)) (lV 89 (e_seql (p := (x1.getD (((IntKind.i64.wrap (x10 - 1))).toNat) z45).name) (q := (x1.getD ((x10).toNat) z45).name) (by kernel_rfl) (by kernel_rfl)) (lV 90 (eM (.bool (decide ((x1.getD (((IntKind.i64.wrap (x10 - 1))).toNat) z45).name = (x1.getD ((x10).toNat) z45).name)))) ?_))))
    by_cases q94 : (x1.getD (((IntKind.i64.wrap (x10 - 1))).toNat) z45).name = (x1.getD ((x10).toNat) z45).name
    · replace M := ifp q94 M
      refine lG 91 90 (bT q94) (eD g85 0 2 1 Try.underlying45) (lG 92 90 (bT q94) (eL ⟨g85, 0 + 2, none⟩ (.int .i64 ((x1.getD (((IntKind.i64.wrap (x10 - 1))).toNat) z45).typ)) Try.underlying3 (blk_cell b90 rfl)) ?_)
      obtain ⟨t95, u96, M⟩ := bnd M
      refine lcallg (d := 93) (t := 90) rfl (by kernel_rfl) rfl (bT q94) rfl (by kernel_rfl) (eC [.tmp 92] [.int .i64 ((x1.getD (((IntKind.i64.wrap (x10 - 1))).toNat) z45).typ)] Try.func25) (spec_l3prefix.calls w89 H ((x1.getD (((IntKind.i64.wrap (x10 - 1))).toNat) z45).typ)  S91.own0 t95 u96) ?_
      rintro _ w97 ⟨rfl, C98⟩
      refine ⟨_, rfl, ?_⟩
      obtain ⟨S99, K100⟩ := S91.still C98
      replace b38 := K100.blk 1 rfl b38
      refine lG 94 90 (bT q94) (e_notv (c := t95) (by kernel_rfl)) (lG 95 90 (bT q94) (eM (.bool (decide (¬ (t95 = true))))) ?_)
      by_cases q101 : ¬ (t95 = true)
      · replace M := ifp q101 M
        refine lK 95 true (bT q101) ?_
        refine lK 95 true (bT q101) ?_
        refine lK 95 true (bT q101) ?_
        refine lG 99 90 (bT q94) (eT (.bool true) (bT q101)) (lV 100 (eT (.bool true) (bT q94)) (wN (then_n (cond_t rfl (by kernel_rfl) (wp_seq (wR (lV 2 (eA (.bool false)) ?_)))))))
        refine wN (then_n (wp_ret (inb_r (then_r (then_r (inb_r (then_r ?_)))))))
        obtain rfl := Option.some.inj M
        exact ret1 rfl rfl  (show _ = .bool false from (by kernel_rfl)) ⟨rfl, S99.chg⟩
      replace M := ifn q101 M
      refine lG 96 95 (bF q101) (eD g33 0 2 1 Try.underlying45 (by exact e60)) (lG 97 95 (bF q101) (eL ⟨g33, 0 + 2, none⟩ (.int .i64 ((x1.getD ((x10).toNat) z45).typ)) Try.underlying3 (blk_cell b38 rfl)) ?_)
      obtain ⟨t102, u103, M⟩ := bnd M
      refine lcallg (d := 98) (t := 95) rfl (by kernel_rfl) rfl (bF q101) rfl (by kernel_rfl) (eC [.tmp 97] [.int .i64 ((x1.getD ((x10).toNat) z45).typ)] Try.func25) (spec_l3prefix.calls w97 H ((x1.getD ((x10).toNat) z45).typ)  S99.own0 t102 u103) ?_
      rintro _ w104 ⟨rfl, C105⟩
      refine ⟨_, rfl, ?_⟩
      obtain ⟨S106, K107⟩ := S99.still C105
      refine lG 99 90 (bT q94) (eF (.bool t102) (bF q101)) (lV 100 (eT (.bool t102) (bT q94)) (wN (then_n ?_)))
      by_cases q108 : t102 = true
      · replace M := ifp q108 M
        refine cT (bvt q108 (by kernel_rfl)) (wp_seq (wR (lV 2 (eA (.bool false)) (wN (then_n (wp_ret (inb_r ?_)))))))
        refine then_r (then_r (inb_r (then_r ?_)))
        obtain rfl := Option.some.inj M
        exact ret1 rfl rfl  (show _ = .bool false from (by kernel_rfl)) ⟨rfl, S106.chg⟩
      replace M := ifn q108 M
      refine cF (bvf q108 (by kernel_rfl)) (wp_skip (inb_n (then_n (wR (lV 14 (eM (.int .i64 x10) (by exact e59)) (lV 15 (eAdd .i64 x10 1) (lV 4 (eA (.int .i64 (IntKind.i64.wrap (x10 + 1)))) ?_)))))))
      refine wN (then_n ?_)
      have S109 := St.first (Fa := []) (Fr := [(is g85), (is g33)]) S106
      exact ⟨k65, (by omega), _, x56, (IntKind.i64.wrap (x10 + 1)), rfl, (by exact e57), (by exact e58), (by kernel_rfl), S109, M⟩
    replace M := ifn q94 M
    refine lK 90 false (bF q94) ?_
    refine lK 90 false (bF q94) ?_
    refine lK 90 false (bF q94) ?_
    refine lK 90 false (bF q94) ?_
    refine lK 90 false (bF q94) ?_
    refine lskipu (t := 95) rfl (by kernel_rfl) rfl (by kernel_rfl) rfl ?_
    refine lskipu (t := 95) rfl (by kernel_rfl) rfl (by kernel_rfl) rfl ?_
    refine lskipu (t := 95) rfl (by kernel_rfl) rfl (by kernel_rfl) rfl ?_
    refine lK 90 false (bF q94) ?_
    refine lV 100 (eF (.bool false) (bF q94)) (wN (then_n (cond_f rfl (by kernel_rfl) (wp_skip (inb_n (then_n (wR ?_)))))))
    refine lV 14 (eM (.int .i64 x10) (by exact e59)) (lV 15 (eAdd .i64 x10 1) (lV 4 (eA (.int .i64 (IntKind.i64.wrap (x10 + 1)))) (wN (then_n ?_))))
    have S110 := St.first (Fa := []) (Fr := [(is g85), (is g33)]) S91
    exact ⟨k65, (by omega), _, x56, (IntKind.i64.wrap (x10 + 1)), rfl, (by exact e57), (by exact e58), (by kernel_rfl), S110, M⟩
  replace M := ifn q20 M
  refine cF (bF q20) (wp_exit (then_e (then_e (inb_hit (then_n (wp_seq (wR ?_)))))))
  refine lV 101 (eM (.int .i64 x9) (by exact e12)) (lV 102 (eEq .i64 x9 1) (lV 2 (eA (.bool (decide (x9 = 1)))) (wN (then_n (wp_ret ?_)))))
  obtain rfl := Option.some.inj M
  exact ret1 rfl rfl  (show _ = .bool (decide (x9 = 1)) from (by kernel_rfl)) ⟨rfl, S14.chg⟩

/-! spec_l3find -/
def spec_l3find.l0 : Nat → (List Sy.Op) → (List UInt8) → Bool → Int → Option Int
  | 0, _, _, _, _ => none
  | k24 + 1, x1, x6, x11, x14 => (if x14 < (x1.length : Int) then (if 0 ≤ x14 then (if (x1.getD ((x14).toNat) z45).name = x6 then ((spec_l3prefix.f ((x1.getD ((x14).toNat) z45).typ)).bind fun t48 => (if t48 = x11 then some x14 else (spec_l3find.l0 k24 x1 x6 x11 (IntKind.i64.wrap (x14 + 1))))) else (spec_l3find.l0 k24 x1 x6 x11 (IntKind.i64.wrap (x14 + 1)))) else none) else some (-1))
def spec_l3find.f (k : Nat) (x1 : List Sy.Op) (x6 : List UInt8) (x11 : Bool) : Option Int := (spec_l3find.l0 k x1 x6 x11 0)
theorem spec_l3find.calls (k : Nat) (w : World) (H : Hp) (x1 : List Sy.Op) (A2 : Option Addr) (c3 : Nat) (x6 : List UInt8) (A7 : Option Addr) (c8 : Nat) (x11 : Bool) (h4 : Rd st45 H A2 x1) (l5 : x1.length ≤ c3) (h9 : Rd tByte H A7 x6) (l10 : x6.length ≤ c8) (S : Own [] H w) (r : Int) (M : spec_l3find.f k x1 x6 x11 = some r) :
    Calls Try.prog 34 #[.slice A2 x1.length c3, .slice A7 x6.length c8, .bool x11] w (fun e e_w => e = .returned (.int .i64 r) ∧ Chg no w e_w) := by
  rw [spec_l3find.f] at M
  refine enter (l := [.slice A2 x1.length c3, .slice A7 x6.length c8, .bool x11]) 34 Try.func34 rfl rfl rfl ?_
  have S0_ := S.st
  refine wp_seq (wR (lV 6 (eA (.int .i64 0)) (wN (then_n (wp_seq (wp_seq (wR ?_)))))))
  refine lV 7 (eA (.int .i64 0)) (wN (then_n (wp_block ?_)))
  refine wp_loop_g (fun k22 a23 w12 => ∃ (f13 : Nat → Value) (x14 : Int), a23 = mk 34 f13 ∧ f13 0 = .slice A2 x1.length c3 ∧ f13 1 = .slice A7 x6.length c8 ∧ f13 2 = .bool x11 ∧ f13 7 = .int .i64 x14 ∧ St (anyOf []) H w [] H w12 ∧ spec_l3find.l0 k22 x1 x6 x11 x14 = some r) k ⟨_, 0, rfl, (by kernel_rfl), (by kernel_rfl), (by kernel_rfl), (by kernel_rfl), S0_, M⟩ ?_
  clear M
  rintro k22 a23 w12 ⟨f13, x14, rfl, e15, e16, e17, e18, S19, M⟩
  rcases k22 with _ | k24
  · rw [spec_l3find.l0] at M
    cases M
  rw [spec_l3find.l0] at M
  refine wp_seq (wp_seq (wR (lV 8 (eM (.int .i64 x14) (by exact e18)) (lV 9 (eM (.slice A2 x1.length c3) (by exact e15)) (lV 10 (e_len (A := A2) (n := x1.length) (c := c3) Try.underlying25 (by kernel_rfl)) (lV 11 (eLt .i64 x14 (x1.length : Int)) (wN ?_)))))))
  refine then_n ?_
  by_cases q25 : x14 < (x1.length : Int)
  · replace M := ifp q25 M
    refine cT (bT q25) (wp_skip (then_n (wp_seq (wp_block (wp_seq ?_)))))
    refine region_quiet (by kernel_rfl) (by kernel_rfl) ?_
    refine qV 14 (fun wq_ hq_ => eM (.slice A2 x1.length c3) (by exact e15)) ?_
    refine qV 15 (fun wq_ hq_ => eM (.int .i64 x14) (by exact e18)) ?_
    obtain ⟨q26, M⟩ := chk M
    obtain ⟨b27, o28, e29⟩ := Rd.addr h4 (show (x14).toNat < x1.length by omega)
    obtain ⟨y30, r31, k32⟩ := Rd.at h4 e29 (getD_some z45 (show (x14).toNat < x1.length by omega))
    obtain ⟨A33, c34, rfl, l35, h36⟩ := st45_open r31
    refine qV 16 (fun wq_ hq_ => eI b27 o28 x1.length c3 3 x14 .i64 Try.underlying25 e29 q26 q25) ?_
    refine qV 17 (fun wq_ hq_ => eD b27 (o28 + (x14 : Int).toNat * 3) 0 1 Try.underlying45) ?_
    refine qV 18 (fun wq_ hq_ => eL ⟨b27, o28 + (x14 : Int).toNat * 3 + 0, none⟩ (.slice A33 ((x1.getD ((x14).toNat) z45).name).length c34) Try.underlying32 (hpx ((S19.still hq_).1.inv.cell (k32 0 _ rfl)))) ?_
    refine qV 19 (fun wq_ hq_ => e_conv_bs (A := A33) (n := ((x1.getD ((x14).toNat) z45).name).length) (c := c34) (xs := (x1.getD ((x14).toNat) z45).name) Try.underlying32 Try.underlying5 Try.underlying9 (by kernel_rfl) rfl (Rd.bytesE (S19.still hq_).1.inv h36)) ?_
    refine qV 20 (fun wq_ hq_ => eM (.slice A7 x6.length c8) (by exact e16)) ?_
    refine qV 21 (fun wq_ hq_ => e_conv_bs (A := A7) (n := x6.length) (c := c8) (xs := x6) Try.underlying32 Try.underlying5 Try.underlying9 (by kernel_rfl) rfl (Rd.bytesE (S19.still hq_).1.inv h9)) ?_
    refine qV 22 (fun wq_ hq_ => e_seql (p := (x1.getD ((x14).toNat) z45).name) (q := x6) (by kernel_rfl) (by kernel_rfl)) ?_
    refine qV 23 (fun wq_ hq_ => eM (.bool (decide ((x1.getD ((x14).toNat) z45).name = x6)))) ?_
    by_cases q37 : (x1.getD ((x14).toNat) z45).name = x6
    · replace M := ifp q37 M
      refine qG 24 23 (bT q37) (fun wq_ hq_ => eM (.slice A2 x1.length c3) (by exact e15)) ?_
      refine qG 25 23 (bT q37) (fun wq_ hq_ => eM (.int .i64 x14) (by exact e18)) ?_
      obtain ⟨b38, o39, e40⟩ := Rd.addr h4 (show (x14).toNat < x1.length by omega)
      obtain ⟨y41, r42, k43⟩ := Rd.at h4 e40 (getD_some z45 (show (x14).toNat < x1.length by omega))
      obtain ⟨A44, c45, rfl, l46, h47⟩ := st45_open r42
      refine qG 26 23 (bT q37) (fun wq_ hq_ => eI b38 o39 x1.length c3 3 x14 .i64 Try.underlying25 e40 q26 q25) ?_
      refine qG 27 23 (bT q37) (fun wq_ hq_ => eD b38 (o39 + (x14 : Int).toNat * 3) 2 1 Try.underlying45) ?_
      refine qG 28 23 (bT q37) (fun wq_ hq_ => eL ⟨b38, o39 + (x14 : Int).toNat * 3 + 2, none⟩ (.int .i64 ((x1.getD ((x14).toNat) z45).typ)) Try.underlying3 (hpx ((S19.still hq_).1.inv.cell (k43 2 _ rfl)))) ?_
      obtain ⟨t48, u49, M⟩ := bnd M
      refine qcallg (v := .bool t48) (d := 29) (t := 23) rfl (by kernel_rfl) rfl (bT q37) rfl (by kernel_rfl) (fun w_ => eC [.tmp 28] [.int .i64 ((x1.getD ((x14).toNat) z45).typ)] Try.func25) (fun wq_ hq_ => (by obtain ⟨S_, K_⟩ := S19.still hq_; exact (spec_l3prefix.calls wq_ H ((x1.getD ((x14).toNat) z45).typ)  S_.own0 t48 u49))) ?_
      refine qG 30 23 (bT q37) (fun wq_ hq_ => eM (.bool x11) (by exact e17)) ?_
      refine qG 31 23 (bT q37) (fun wq_ hq_ => e_beql (p := t48) (q := x11) Try.underlying4 (by kernel_rfl) (by kernel_rfl)) ?_
      refine qV 32 (fun wq_ hq_ => eT (.bool (decide (t48 = x11))) (bT q37)) ?_
      refine wpQuiet_nil ?_
      intro w50 C53
      obtain ⟨S51, K52⟩ := S19.still C53
      refine then_n ?_
      by_cases q54 : t48 = x11
      · replace M := ifp q54 M
        refine cT (bT q54) (wp_seq (wR (lV 33 (eM (.int .i64 x14) (by exact e18)) (lV 6 (eA (.int .i64 x14)) (wN (then_n (wp_ret ?_)))))))
        refine inb_r (then_r (then_r (inb_r (then_r ?_))))
        obtain rfl := Option.some.inj M
        exact ret1 rfl rfl  (show _ = .int .i64 x14 from (by kernel_rfl)) ⟨rfl, S51.chg⟩
      replace M := ifn q54 M
      refine cF (bF q54) (wp_skip (inb_n (then_n (wR (lV 12 (eM (.int .i64 x14) (by exact e18)) (lV 13 (eAdd .i64 x14 1) (lV 7 (eA (.int .i64 (IntKind.i64.wrap (x14 + 1)))) ?_)))))))
      refine wN (then_n ?_)
      exact ⟨k24, (by omega), _, (IntKind.i64.wrap (x14 + 1)), rfl, (by exact e15), (by exact e16), (by exact e17), (by kernel_rfl), S51, M⟩
    replace M := ifn q37 M
    refine qK 23 false (bF q37) ?_
    refine qK 23 false (bF q37) ?_
    refine qK 23 false (bF q37) ?_
    refine qK 23 false (bF q37) ?_
    refine qK 23 false (bF q37) ?_
    refine qK 23 false (bF q37) ?_
    refine qK 23 false (bF q37) ?_
    refine qK 23 false (bF q37) ?_
    refine qV 32 (fun wq_ hq_ => eF (.bool false) (bF q37)) ?_
    refine wpQuiet_nil ?_
    intro w55 C58
    obtain ⟨S56, K57⟩ := S19.still C58
    refine then_n (cond_f rfl (by kernel_rfl) (wp_skip (inb_n (then_n (wR (lV 12 (eM (.int .i64 x14) (by exact e18)) (lV 13 (eAdd .i64 x14 1) ?_)))))))
    refine lV 7 (eA (.int .i64 (IntKind.i64.wrap (x14 + 1)))) (wN (then_n ?_))
    exact ⟨k24, (by omega), _, (IntKind.i64.wrap (x14 + 1)), rfl, (by exact e15), (by exact e16), (by exact e17), (by kernel_rfl), S56, M⟩
  replace M := ifn q25 M
  refine cF (bF q25) (wp_exit (then_e (then_e (inb_hit (then_n (wp_seq (wR ?_)))))))
  refine lV 6 (eA (.int .i64 (-1))) (wN (then_n (wp_ret ?_)))
  obtain rfl := Option.some.inj M
  exact ret1 rfl rfl  (show _ = .int .i64 (-1) from (by kernel_rfl)) ⟨rfl, S19.chg⟩

/-! spec_l3infix -/
def spec_l3infix.f (x1 : Int) : Option Bool := some (decide (x1 ≤ 2))
theorem spec_l3infix.calls (w : World) (H : Hp) (x1 : Int) (S : Own [] H w) (r : Bool) (M : spec_l3infix.f x1 = some r) :
    Calls Try.prog 35 #[.int .i64 x1] w (fun e e_w => e = .returned (.bool r) ∧ Chg no w e_w) := by
  rw [spec_l3infix.f] at M
  refine enter (l := [.int .i64 x1]) 5 Try.func35 rfl rfl rfl ?_
  have S0_ := S.st
  refine wp_seq (wR (lV 2 (eA (.bool false)) (wN (then_n (wp_seq (wR (lV 3 (eM (.int .i64 x1)) ?_)))))))
  refine lV 4 (e_leq (k := .i64) (a := x1) (b := 2) (by kernel_rfl) rfl) (lV 2 (eA (.bool (decide (x1 ≤ 2)))) (wN (then_n (wp_ret ?_))))
  obtain rfl := Option.some.inj M
  exact ret1 rfl rfl  (show _ = .bool (decide (x1 ≤ 2)) from (by kernel_rfl)) ⟨rfl, S0_.chg⟩

/-! spec_l1copy -/
def spec_l1copy.f (x1 : List UInt8) : Option (List UInt8) := (if 0 + x1.length ≤ 140737488355328 then some x1 else none)
theorem spec_l1copy.calls (w : World) (H : Hp) (x1 : List UInt8) (A2 : Option Addr) (c3 : Nat) (h4 : Rd tByte H A2 x1) (l5 : x1.length ≤ c3) (S : Own [] H w) (r : List UInt8) (M : spec_l1copy.f x1 = some r) :
    Calls Try.prog 37 #[.slice A2 x1.length c3] w (fun e e_w => ∃ (A_1 : Option Addr) (c_1 : Nat) (F_1 : Foot) (H_ : Hp), e = .returned (.slice A_1 r.length c_1) ∧ Row tByte 5 H_ (hp e_w) F_1 A_1 c_1 r ∧ St (anyOf []) H w [F_1] H_ e_w) := by
  rw [spec_l1copy.f] at M
  refine enter (l := [.slice A2 x1.length c3]) 7 Try.func37 rfl rfl rfl ?_
  have S0_ := S.st
  refine wp_seq (wR (lV 2 (eA (.slice none 0 0)) (wN (then_n (wp_seq (wR (lV 3 (eA (.slice none 0 0)) ?_)))))))
  refine wN (then_n (wp_seq (wR (lV 4 (eM (.slice none 0 0)) (lV 5 (eM (.slice A2 x1.length c3)) ?_)))))
  obtain ⟨y6, h7, h8⟩ := Rd.news (d := tByte) (ro_scal _ _) S0_ h4
  obtain ⟨q9, M⟩ := chk M
  have S10 := S0_.unit
  have S11 := S10.unit
  have S12 := S11.pulls [no, no] [1] rfl
  refine lW 6 (e_append (d := tByte) (n := 0) (xs := []) (cap := 0) (A := none) (ys := x1) (A2 := A2) (c2 := c3) (z := .int .u8 0) (bytes := 1) S12 Try.underlying32 (by kernel_rfl) rfl (by decide) (by kernel_rfl) rfl (by kernel_rfl) (Row.nil _ _ _ _ no) h7 h8 (show (0 + x1.length) * 1 ≤ _ by first | omega | (simp only [List.length_cons, List.length_nil]; omega)) (by decide)) ?_
  rintro _ w13 ⟨A14, c15, F16, rfl, h17, S18, K19⟩
  replace h17 : Row tByte 5 H (hp w13) F16 A14 c15 x1 := h17
  refine lV 2 (eA (.slice A14 x1.length c15)) (wN (then_n (wp_ret ?_)))
  obtain rfl := Option.some.inj M
  exact ret1 rfl rfl  (show _ = .slice A14 x1.length c15 from (by kernel_rfl)) ⟨A14, c15, F16, H, rfl, h17, S18⟩

/-! spec_l3copy -/
def spec_l3copy.l0 : Nat → (List Sy.Op) → (List Sy.Op) → Int → Option (List Sy.Op)
  | 0, _, _, _ => none
  | k24 + 1, x1, x10, x15 => (if x15 < (x1.length : Int) then (if 0 ≤ x15 then ((spec_l1copy.f ((x1.getD ((x15).toNat) z45).name)).bind fun t95 => (if x10.length + 1 ≤ 3518437208883 then (spec_l3copy.l0 k24 x1 (x10 ++ [(⟨t95, (x1.getD ((x15).toNat) z45).pri, (x1.getD ((x15).toNat) z45).typ⟩ : Sy.Op)]) (IntKind.i64.wrap (x15 + 1))) else none)) else none) else some x10)
def spec_l3copy.f (k : Nat) (x1 : List Sy.Op) : Option (List Sy.Op) := (spec_l3copy.l0 k x1 [] 0)
theorem spec_l3copy.calls (k : Nat) (w : World) (H : Hp) (x1 : List Sy.Op) (A2 : Option Addr) (c3 : Nat) (h4 : Rd st45 H A2 x1) (l5 : x1.length ≤ c3) (S : Own [] H w) (r : List Sy.Op) (M : spec_l3copy.f k x1 = some r) :
    Calls Try.prog 36 #[.slice A2 x1.length c3] w (fun e e_w => ∃ (A_1 : Option Addr) (c_1 : Nat) (F_1 : Foot) (H_ : Hp), e = .returned (.slice A_1 r.length c_1) ∧ Row st45 45 H_ (hp e_w) F_1 A_1 c_1 r ∧ St (anyOf []) H w [F_1] H_ e_w) := by
  rw [spec_l3copy.f] at M
  refine enter (l := [.slice A2 x1.length c3]) 32 Try.func36 rfl rfl rfl ?_
  have S0_ := S.st
  refine wp_seq (wR (lV 2 (eA (.slice none 0 0)) (wN (then_n (wp_seq (wR (lV 3 (eA (.slice none 0 0)) ?_)))))))
  refine wN (then_n (wp_seq (wp_seq (wR (lV 4 (eA (.int .i64 0)) (wN (then_n ?_)))))))
  refine wp_block ?_
  have S25 := S0_.unit
  refine wp_loop_g (fun k22 a23 w6 => ∃ (f7 : Nat → Value) (H8 : Hp) (x10 : List Sy.Op) (A11 : Option Addr) (c12 : Nat) (F13 : Foot) (x15 : Int), a23 = mk 32 f7 ∧ f7 0 = .slice A2 x1.length c3 ∧ f7 3 = .slice A11 x10.length c12 ∧ f7 4 = .int .i64 x15 ∧ Row st45 45 H8 (hp w6) F13 A11 c12 x10 ∧ Ext H H8 ∧ St (anyOf []) H w [F13] H8 w6 ∧ spec_l3copy.l0 k22 x1 x10 x15 = some r) k ⟨_, H, [], none, 0, no, 0, rfl, (by kernel_rfl), (by kernel_rfl), (by kernel_rfl), (Row.nil _ _ _ _ _), (Ext.refl _), S25, M⟩ ?_
  clear M
  rintro k22 a23 w6 ⟨f7, H8, x10, A11, c12, F13, x15, rfl, e16, e17, e18, h14, Y9, S19, M⟩
  rcases k22 with _ | k24
  · rw [spec_l3copy.l0] at M
    cases M
  rw [spec_l3copy.l0] at M
  refine wp_seq (wp_seq (wR (lV 5 (eM (.int .i64 x15) (by exact e18)) (lV 6 (eM (.slice A2 x1.length c3) (by exact e16)) (lV 7 (e_len (A := A2) (n := x1.length) (c := c3) Try.underlying25 (by kernel_rfl)) (lV 8 (eLt .i64 x15 (x1.length : Int)) (wN ?_)))))))
  refine then_n ?_
  by_cases q26 : x15 < (x1.length : Int)
  · replace M := ifp q26 M
    refine cT (bT q26) (wp_skip (then_n (wp_seq (wp_block ?_))))
    refine region_mix (S := (fun (L_ : Array Bool) (w_ : World) => Ext H8 (hp w_) ∧ True)) (by kernel_rfl) S19 ?_
    intro w27 S28 K29 hc30
    have hs31 : (fun (L_ : Array Bool) (w_ : World) => Ext H8 (hp w_) ∧ True) (Array.replicate 21 false) w27 := ⟨S28.inv, trivial⟩
    replace h14 := h14.move (K29.at 0 rfl)
    refine xV 0 11 rfl hc30 hs31 (fun L_ w_ hc_ hu_ hs_ => eM (.slice A11 x10.length c12) (by exact e17)) ?_; intro hc32 hs33
    refine xV 1 12 rfl hc32 hs33 (fun L_ w_ hc_ hu_ hs_ => eM (.slice A2 x1.length c3) (by exact e16)) ?_; intro hc34 hs35
    refine xV 2 13 rfl hc34 hs35 (fun L_ w_ hc_ hu_ hs_ => eM (.int .i64 x15) (by exact e18)) ?_; intro hc36 hs37
    obtain ⟨q38, M⟩ := chk M
    obtain ⟨b39, o40, e41⟩ := Rd.addr h4 (show (x15).toNat < x1.length by omega)
    obtain ⟨y42, r43, k44⟩ := Rd.at h4 e41 (getD_some z45 (show (x15).toNat < x1.length by omega))
    obtain ⟨A45, c46, rfl, l47, h48⟩ := st45_open r43
    refine xV 3 14 rfl hc36 hs37 (fun L_ w_ hc_ hu_ hs_ => eI b39 o40 x1.length c3 3 x15 .i64 Try.underlying25 e41 q38 q26) ?_; intro hc49 hs50
    refine xV 4 15 rfl hc49 hs50 (fun L_ w_ hc_ hu_ hs_ => eD b39 (o40 + (x15 : Int).toNat * 3) 0 1 Try.underlying45) ?_; intro hc51 hs52
    refine xV 5 16 rfl hc51 hs52 (fun L_ w_ hc_ hu_ hs_ => eL ⟨b39, o40 + (x15 : Int).toNat * 3 + 0, none⟩ (.slice A45 ((x1.getD ((x15).toNat) z45).name).length c46) Try.underlying32 (hpx (hs_.1.cell (Y9.cell (k44 0 _ rfl))))) ?_; intro hc53 hs54
    refine xV 7 18 rfl hc53 hs54 (fun L_ w_ hc_ hu_ hs_ => eM (.slice A2 x1.length c3) (by exact e16)) ?_; intro hc55 hs56
    refine xV 8 19 rfl hc55 hs56 (fun L_ w_ hc_ hu_ hs_ => eM (.int .i64 x15) (by exact e18)) ?_; intro hc57 hs58
    obtain ⟨b59, o60, e61⟩ := Rd.addr h4 (show (x15).toNat < x1.length by omega)
    obtain ⟨y62, r63, k64⟩ := Rd.at h4 e61 (getD_some z45 (show (x15).toNat < x1.length by omega))
    obtain ⟨A65, c66, rfl, l67, h68⟩ := st45_open r63
    refine xV 9 20 rfl hc57 hs58 (fun L_ w_ hc_ hu_ hs_ => eI b59 o60 x1.length c3 3 x15 .i64 Try.underlying25 e61 q38 q26) ?_; intro hc69 hs70
    refine xV 10 21 rfl hc69 hs70 (fun L_ w_ hc_ hu_ hs_ => eD b59 (o60 + (x15 : Int).toNat * 3) 1 1 Try.underlying45) ?_; intro hc71 hs72
    refine xV 11 22 rfl hc71 hs72 (fun L_ w_ hc_ hu_ hs_ => eL ⟨b59, o60 + (x15 : Int).toNat * 3 + 1, none⟩ (.int .i64 ((x1.getD ((x15).toNat) z45).pri)) Try.underlying3 (hpx (hs_.1.cell (Y9.cell (k64 1 _ rfl))))) ?_; intro hc73 hs74
    refine xV 12 23 rfl hc73 hs74 (fun L_ w_ hc_ hu_ hs_ => eM (.slice A2 x1.length c3) (by exact e16)) ?_; intro hc75 hs76
    refine xV 13 24 rfl hc75 hs76 (fun L_ w_ hc_ hu_ hs_ => eM (.int .i64 x15) (by exact e18)) ?_; intro hc77 hs78
    obtain ⟨b79, o80, e81⟩ := Rd.addr h4 (show (x15).toNat < x1.length by omega)
    obtain ⟨y82, r83, k84⟩ := Rd.at h4 e81 (getD_some z45 (show (x15).toNat < x1.length by omega))
    obtain ⟨A85, c86, rfl, l87, h88⟩ := st45_open r83
    refine xV 14 25 rfl hc77 hs78 (fun L_ w_ hc_ hu_ hs_ => eI b79 o80 x1.length c3 3 x15 .i64 Try.underlying25 e81 q38 q26) ?_; intro hc89 hs90
    refine xV 15 26 rfl hc89 hs90 (fun L_ w_ hc_ hu_ hs_ => eD b79 (o80 + (x15 : Int).toNat * 3) 2 1 Try.underlying45) ?_; intro hc91 hs92
    refine xV 16 27 rfl hc91 hs92 (fun L_ w_ hc_ hu_ hs_ => eL ⟨b79, o80 + (x15 : Int).toNat * 3 + 2, none⟩ (.int .i64 ((x1.getD ((x15).toNat) z45).typ)) Try.underlying3 (hpx (hs_.1.cell (Y9.cell (k84 2 _ rfl))))) ?_; intro hc93 hs94
    obtain ⟨t95, u96, M⟩ := bnd M
    refine xO 6 hc93 ?_
    refine yC 6 rfl (eC [.tmp 16] [.slice A45 ((x1.getD ((x15).toNat) z45).name).length c46] Try.func37) (spec_l1copy.calls w27 H8 ((x1.getD ((x15).toNat) z45).name) A45 c46 (h48.ext Y9) l47 (St.own' (Fa := []) (Fr := [F13]) S28) t95 u96) ?_
    rintro hc104 _ w97 ⟨A100, c101, F103, H98, rfl, h102, T99⟩
    refine ⟨_, rfl, ?_⟩
    obtain ⟨S105, K106⟩ := St.call (Fa := []) (Fr := [F13]) S28 T99
    replace h14 := h14.move (K106.at 0 rfl)
    have E107 := T99.ext
    replace h14 := h14.ext E107
    refine ⟨⟨(Ext.trans E107 S105.inv), trivial⟩, fun hs108 => ?_⟩
    refine xO 17 hc104 ?_
    refine yO 17 28 rfl hs108 (show _ = Result.ok (Next.value (.agg #[.slice A100 t95.length c101, .int .i64 ((x1.getD ((x15).toNat) z45).pri), .int .i64 ((x1.getD ((x15).toNat) z45).typ)])) w97 from by kernel_rfl) ?_; intro hc109 hs110
    refine xO 18 hc109 ?_
    refine yE 18 29 rfl (new_blk (v := fun g_ => .slice (some ⟨g_, 0, none⟩) 1 1) (cs := #[.slice A100 t95.length c101, .int .i64 ((x1.getD ((x15).toNat) z45).pri), .int .i64 ((x1.getD ((x15).toNat) z45).typ)]) (t := 45) S105 (by kernel_rfl)) ?_
    rintro hc116 _ w111 ⟨g112, rfl, b113, S114, K115⟩
    replace h102 := h102.move (K115.at 0 rfl)
    replace h14 := h14.move (K115.at 1 rfl)
    refine ⟨⟨(Ext.trans E107 S114.inv), trivial⟩, fun hs117 => ?_⟩
    obtain ⟨q118, M⟩ := chk M
    have S120 := S114.pulls [F13, F103, (is g112)] [1, 2] rfl
    refine xO 19 hc116 ?_
    refine yE 19 30 rfl (e_append (d := st45) (n := x10.length) (xs := x10) (cap := c12) (A := A11) (ys := [(⟨t95, (x1.getD ((x15).toNat) z45).pri, (x1.getD ((x15).toNat) z45).typ⟩ : Sy.Op)]) (A2 := (some ⟨g112, 0, none⟩)) (c2 := 1) (z := .agg #[.slice none 0 0, .int .i64 0, .int .i64 0]) (bytes := 40) S120 Try.underlying25 (by kernel_rfl) rfl (by decide) (by kernel_rfl) rfl (by kernel_rfl) h14 (elsO_one1 (st45_mkO (x := (⟨t95, (x1.getD ((x15).toNat) z45).pri, (x1.getD ((x15).toNat) z45).typ⟩ : Sy.Op)) h102)) (.inr (blk_news b113 rfl)) (show (x10.length + [(⟨t95, (x1.getD ((x15).toNat) z45).pri, (x1.getD ((x15).toNat) z45).typ⟩ : Sy.Op)].length) * 40 ≤ _ by first | omega | (simp only [List.length_cons, List.length_nil]; omega)) (by decide)) ?_
    rintro hc128 _ w121 ⟨A122, c123, F124, rfl, h125, S126, K127⟩
    refine ⟨⟨(Ext.trans E107 S126.inv), trivial⟩, fun hs129 => ?_⟩
    refine xO 20 hc128 ?_
    refine yO 20 3 rfl hs129 (eA (.slice A122 ((x10 ++ [(⟨t95, (x1.getD ((x15).toNat) z45).pri, (x1.getD ((x15).toNat) z45).typ⟩ : Sy.Op)]).length) c123)) ?_; intro hc130 hs131
    refine xn (by kernel_rfl) ?_ _
    refine inb_n (then_n (wR (lV 9 (eM (.int .i64 x15) (by exact e18)) (lV 10 (eAdd .i64 x15 1) (lV 4 (eA (.int .i64 (IntKind.i64.wrap (x15 + 1)))) (wN (then_n ?_)))))))
    have S132 := St.first (Fa := [F124]) (Fr := [(is g112)]) S126
    exact ⟨k24, (by omega), _, H98, (x10 ++ [(⟨t95, (x1.getD ((x15).toNat) z45).pri, (x1.getD ((x15).toNat) z45).typ⟩ : Sy.Op)]), A122, c123, F124, (IntKind.i64.wrap (x15 + 1)), rfl, (by exact e16), (by kernel_rfl), (by kernel_rfl), h125, (Y9.trans E107), S132, M⟩
  replace M := ifn q26 M
  refine cF (bF q26) (wp_exit (then_e (then_e (inb_hit (then_n (wp_seq (wR ?_)))))))
  refine lV 31 (eM (.slice A11 x10.length c12) (by exact e17)) (lV 2 (eA (.slice A11 x10.length c12)) (wN (then_n (wp_ret ?_))))
  obtain rfl := Option.some.inj M
  exact ret1 rfl rfl  (show _ = .slice A11 x10.length c12 from (by kernel_rfl)) ⟨A11, c12, F13, H8, rfl, h14, S19⟩

/-! spec_AddOp -/
def spec_AddOp.f (k : Nat) (x1 : List Sy.Op) (x6 : Int) (x7 : Int) (x8 : List UInt8) : Option ((List Sy.Op) × Int) := ((spec_ValidOps.f k x1).bind fun t13 => (if ¬ (t13 = true) then some ([], 1) else (if (x8.length : Int) < 1 then some ([], 1) else (if (x8.length : Int) > 100 then some ([], 1) else (if x6 < 0 then some ([], 1) else (if x6 > 1200 then some ([], 1) else (if x7 < 0 then some ([], 1) else (if x7 > 6 then some ([], 1) else (if x8 = ([44] : List UInt8) then some ([], 4) else ((spec_l3special.f x8).bind fun t35 => (if t35 = true then some ([], 4) else ((spec_l3find.f k x1 x8 false).bind fun t43 => ((spec_l3prefix.f x7).bind fun t49 => (if ¬ (t49 = true) then (if t43 ≥ 0 then (if 0 ≤ t43 then (if t43 < (x1.length : Int) then ((spec_l3infix.f ((x1.getD ((t43).toNat) z45).typ)).bind fun t69 => ((spec_l3infix.f x7).bind fun t75 => (if t69 ≠ t75 then some ([], 4) else ((spec_l3copy.f k x1).bind fun t83 => ((spec_l1copy.f x8).bind fun t95 => ((spec_l3put.f k t83 (⟨t95, x6, x7⟩ : Sy.Op)).bind fun t108 => (if (t108.length : Int) > 200 then some ([], 3) else some (t108, 0)))))))) else none) else none) else ((spec_l3copy.f k x1).bind fun t123 => ((spec_l1copy.f x8).bind fun t135 => ((spec_l3put.f k t123 (⟨t135, x6, x7⟩ : Sy.Op)).bind fun t148 => (if (t148.length : Int) > 200 then some ([], 3) else some (t148, 0)))))) else ((spec_l3copy.f k x1).bind fun t163 => ((spec_l1copy.f x8).bind fun t175 => ((spec_l3put.f k t163 (⟨t175, x6, x7⟩ : Sy.Op)).bind fun t188 => (if (t188.length : Int) > 200 then some ([], 3) else some (t188, 0)))))))))))))))))))
theorem spec_AddOp.calls (k : Nat) (w : World) (H : Hp) (x1 : List Sy.Op) (A2 : Option Addr) (c3 : Nat) (x6 : Int) (x7 : Int) (x8 : List UInt8) (A9 : Option Addr) (c10 : Nat) (h4 : Rd st45 H A2 x1) (l5 : x1.length ≤ c3) (h11 : Rd tByte H A9 x8) (l12 : x8.length ≤ c10) (S : Own [] H w) (r : (List Sy.Op) × Int) (M : spec_AddOp.f k x1 x6 x7 x8 = some r) :
    Calls Try.prog 16 #[.slice A2 x1.length c3, .int .i64 x6, .int .i64 x7, .slice A9 x8.length c10] w (fun e e_w => ∃ (A_1 : Option Addr) (c_1 : Nat) (F_1 : Foot) (H_ : Hp), e = .returned (.tuple #[.slice A_1 r.1.length c_1, .int .i64 r.2]) ∧ Row st45 45 H_ (hp e_w) F_1 A_1 c_1 r.1 ∧ St (anyOf []) H w [F_1] H_ e_w) := by
  rw [spec_AddOp.f] at M
  refine enter (l := [.slice A2 x1.length c3, .int .i64 x6, .int .i64 x7, .slice A9 x8.length c10]) 81 Try.func16 rfl rfl rfl ?_
  have S0_ := S.st
  refine wp_seq (wR (lV 8 (eA (.slice none 0 0)) (lV 9 (eA (.int .i64 0)) (wN (then_n (wp_seq (wp_seq ?_)))))))
  refine wR (lV 12 (eM (.slice A2 x1.length c3)) ?_)
  obtain ⟨t13, u14, M⟩ := bnd M
  refine lC 13 (eC [.tmp 12] [.slice A2 x1.length c3] Try.func8) (spec_ValidOps.calls k w H x1 A2 c3 h4 l5 S0_.own0 t13 u14) ?_
  rintro _ w15 ⟨rfl, C16⟩
  refine ⟨_, rfl, ?_⟩
  obtain ⟨S17, K18⟩ := S0_.still C16
  refine lV 14 (e_notv (c := t13) (by kernel_rfl)) (lV 15 (eM (.bool (decide (¬ (t13 = true))))) ?_)
  by_cases q19 : ¬ (t13 = true)
  · replace M := ifp q19 M
    refine lK 15 true (bT q19) ?_
    refine lK 15 true (bT q19) ?_
    refine lK 15 true (bT q19) ?_
    refine lV 19 (eT (.bool true) (bT q19)) (lV 20 (eM (.bool true)) ?_)
    refine lJ 20 true ?_
    refine lJ 20 true ?_
    refine lJ 20 true ?_
    refine lV 24 (eT (.bool true)) (lV 25 (eM (.bool true)) ?_)
    refine lJ 25 true ?_
    refine lJ 25 true ?_
    refine lV 28 (eT (.bool true)) (lV 29 (eM (.bool true)) ?_)
    refine lJ 29 true ?_
    refine lJ 29 true ?_
    refine lV 32 (eT (.bool true)) (lV 33 (eM (.bool true)) ?_)
    refine lJ 33 true ?_
    refine lJ 33 true ?_
    refine lV 36 (eT (.bool true)) (lV 37 (eM (.bool true)) ?_)
    refine lJ 37 true ?_
    refine lJ 37 true ?_
    refine lV 40 (eT (.bool true)) (wN (then_n (cond_t rfl (by kernel_rfl) (wp_seq (wR (lV 8 (eA (.slice none 0 0)) (lV 9 (eA (.int .i64 1)) ?_)))))))
    refine wN (then_n (wp_ret (then_r ?_)))
    obtain rfl := Option.some.inj M
    have S20 := S17.unit
    exact ret2 rfl rfl rfl (show _ = .slice none 0 0 from (by kernel_rfl)) (show _ = .int .i64 1 from (by kernel_rfl)) ⟨none, 0, no, H, rfl, (Row.nil _ _ _ _ no), S20⟩
  replace M := ifn q19 M
  refine lG 16 15 (bF q19) (eM (.slice A9 x8.length c10)) (lG 17 15 (bF q19) (e_len (A := A9) (n := x8.length) (c := c10) Try.underlying32 (by kernel_rfl)) (lG 18 15 (bF q19) (eLt .i64 (x8.length : Int) 1) (lV 19 (eF (.bool (decide ((x8.length : Int) < 1))) (bF q19)) (lV 20 (eM (.bool (decide ((x8.length : Int) < 1)))) ?_))))
  by_cases q21 : (x8.length : Int) < 1
  · replace M := ifp q21 M
    refine lK 20 true (bT q21) ?_
    refine lK 20 true (bT q21) ?_
    refine lK 20 true (bT q21) ?_
    refine lV 24 (eT (.bool true) (bT q21)) (lV 25 (eM (.bool true)) ?_)
    refine lJ 25 true ?_
    refine lJ 25 true ?_
    refine lV 28 (eT (.bool true)) (lV 29 (eM (.bool true)) ?_)
    refine lJ 29 true ?_
    refine lJ 29 true ?_
    refine lV 32 (eT (.bool true)) (lV 33 (eM (.bool true)) ?_)
    refine lJ 33 true ?_
    refine lJ 33 true ?_
    refine lV 36 (eT (.bool true)) (lV 37 (eM (.bool true)) ?_)
    refine lJ 37 true ?_
    refine lJ 37 true ?_
    refine lV 40 (eT (.bool true)) (wN (then_n (cond_t rfl (by kernel_rfl) (wp_seq (wR (lV 8 (eA (.slice none 0 0)) (lV 9 (eA (.int .i64 1)) ?_)))))))
    refine wN (then_n (wp_ret (then_r ?_)))
    obtain rfl := Option.some.inj M
    have S22 := S17.unit
    exact ret2 rfl rfl rfl (show _ = .slice none 0 0 from (by kernel_rfl)) (show _ = .int .i64 1 from (by kernel_rfl)) ⟨none, 0, no, H, rfl, (Row.nil _ _ _ _ no), S22⟩
  replace M := ifn q21 M
  refine lG 21 20 (bF q21) (eM (.slice A9 x8.length c10)) (lG 22 20 (bF q21) (e_len (A := A9) (n := x8.length) (c := c10) Try.underlying32 (by kernel_rfl)) (lG 23 20 (bF q21) (e_gtr (k := .i64) (a := (x8.length : Int)) (b := 100) (by kernel_rfl) rfl) (lV 24 (eF (.bool (decide ((x8.length : Int) > 100))) (bF q21)) (lV 25 (eM (.bool (decide ((x8.length : Int) > 100)))) ?_))))
  by_cases q23 : (x8.length : Int) > 100
  · replace M := ifp q23 M
    refine lK 25 true (bT q23) ?_
    refine lK 25 true (bT q23) ?_
    refine lV 28 (eT (.bool true) (bT q23)) (lV 29 (eM (.bool true)) ?_)
    refine lJ 29 true ?_
    refine lJ 29 true ?_
    refine lV 32 (eT (.bool true)) (lV 33 (eM (.bool true)) ?_)
    refine lJ 33 true ?_
    refine lJ 33 true ?_
    refine lV 36 (eT (.bool true)) (lV 37 (eM (.bool true)) ?_)
    refine lJ 37 true ?_
    refine lJ 37 true ?_
    refine lV 40 (eT (.bool true)) (wN (then_n (cond_t rfl (by kernel_rfl) (wp_seq (wR (lV 8 (eA (.slice none 0 0)) (lV 9 (eA (.int .i64 1)) ?_)))))))
    refine wN (then_n (wp_ret (then_r ?_)))
    obtain rfl := Option.some.inj M
    have S24 := S17.unit
    exact ret2 rfl rfl rfl (show _ = .slice none 0 0 from (by kernel_rfl)) (show _ = .int .i64 1 from (by kernel_rfl)) ⟨none, 0, no, H, rfl, (Row.nil _ _ _ _ no), S24⟩
  replace M := ifn q23 M
  refine lG 26 25 (bF q23) (eM (.int .i64 x6)) (lG 27 25 (bF q23) (eLt .i64 x6 0) (lV 28 (eF (.bool (decide (x6 < 0))) (bF q23)) (lV 29 (eM (.bool (decide (x6 < 0)))) ?_)))
  by_cases q25 : x6 < 0
  · replace M := ifp q25 M
    refine lK 29 true (bT q25) ?_
    refine lK 29 true (bT q25) ?_
    refine lV 32 (eT (.bool true) (bT q25)) (lV 33 (eM (.bool true)) ?_)
    refine lJ 33 true ?_
    refine lJ 33 true ?_
    refine lV 36 (eT (.bool true)) (lV 37 (eM (.bool true)) ?_)
    refine lJ 37 true ?_
    refine lJ 37 true ?_
    refine lV 40 (eT (.bool true)) (wN (then_n (cond_t rfl (by kernel_rfl) (wp_seq (wR (lV 8 (eA (.slice none 0 0)) (lV 9 (eA (.int .i64 1)) ?_)))))))
    refine wN (then_n (wp_ret (then_r ?_)))
    obtain rfl := Option.some.inj M
    have S26 := S17.unit
    exact ret2 rfl rfl rfl (show _ = .slice none 0 0 from (by kernel_rfl)) (show _ = .int .i64 1 from (by kernel_rfl)) ⟨none, 0, no, H, rfl, (Row.nil _ _ _ _ no), S26⟩
  replace M := ifn q25 M
  refine lG 30 29 (bF q25) (eM (.int .i64 x6)) (lG 31 29 (bF q25) (e_gtr (k := .i64) (a := x6) (b := 1200) (by kernel_rfl) rfl) (lV 32 (eF (.bool (decide (x6 > 1200))) (bF q25)) (lV 33 (eM (.bool (decide (x6 > 1200)))) ?_)))
  by_cases q27 : x6 > 1200
  · replace M := ifp q27 M
    refine lK 33 true (bT q27) ?_
    refine lK 33 true (bT q27) ?_
    refine lV 36 (eT (.bool true) (bT q27)) (lV 37 (eM (.bool true)) ?_)
    refine lJ 37 true ?_
    refine lJ 37 true ?_
    refine lV 40 (eT (.bool true)) (wN (then_n (cond_t rfl (by kernel_rfl) (wp_seq (wR (lV 8 (eA (.slice none 0 0)) (lV 9 (eA (.int .i64 1)) ?_)))))))
    refine wN (then_n (wp_ret (then_r ?_)))
    obtain rfl := Option.some.inj M
    have S28 := S17.unit
    exact ret2 rfl rfl rfl (show _ = .slice none 0 0 from (by kernel_rfl)) (show _ = .int .i64 1 from (by kernel_rfl)) ⟨none, 0, no, H, rfl, (Row.nil _ _ _ _ no), S28⟩
  replace M := ifn q27 M
  refine lG 34 33 (bF q27) (eM (.int .i64 x7)) (lG 35 33 (bF q27) (eLt .i64 x7 0) (lV 36 (eF (.bool (decide (x7 < 0))) (bF q27)) (lV 37 (eM (.bool (decide (x7 < 0)))) ?_)))
  by_cases q29 : x7 < 0
  · replace M := ifp q29 M
    refine lK 37 true (bT q29) ?_
    refine lK 37 true (bT q29) ?_
    refine lV 40 (eT (.bool true) (bT q29)) (wN (then_n (cond_t rfl (by kernel_rfl) (wp_seq (wR (lV 8 (eA (.slice none 0 0)) (lV 9 (eA (.int .i64 1)) ?_)))))))
    refine wN (then_n (wp_ret (then_r ?_)))
    obtain rfl := Option.some.inj M
    have S30 := S17.unit
    exact ret2 rfl rfl rfl (show _ = .slice none 0 0 from (by kernel_rfl)) (show _ = .int .i64 1 from (by kernel_rfl)) ⟨none, 0, no, H, rfl, (Row.nil _ _ _ _ no), S30⟩
  replace M := ifn q29 M
  refine lG 38 37 (bF q29) (eM (.int .i64 x7)) (lG 39 37 (bF q29) (e_gtr (k := .i64) (a := x7) (b := 6) (by kernel_rfl) rfl) (lV 40 (eF (.bool (decide (x7 > 6))) (bF q29)) (wN (then_n ?_))))
  by_cases q31 : x7 > 6
  · replace M := ifp q31 M
    refine cT (bT q31) (wp_seq (wR (lV 8 (eA (.slice none 0 0)) (lV 9 (eA (.int .i64 1)) (wN (then_n (wp_ret ?_)))))))
    refine then_r ?_
    obtain rfl := Option.some.inj M
    have S32 := S17.unit
    exact ret2 rfl rfl rfl (show _ = .slice none 0 0 from (by kernel_rfl)) (show _ = .int .i64 1 from (by kernel_rfl)) ⟨none, 0, no, H, rfl, (Row.nil _ _ _ _ no), S32⟩
  replace M := ifn q31 M
  refine cF (bF q31) (wp_skip (then_n (wp_seq (wp_seq (wR (lV 41 (eM (.slice A9 x8.length c10)) (lV 42 (e_conv_bs (A := A9) (n := x8.length) (c := c10) (xs := x8) Try.underlying32 Try.underlying5 Try.underlying9 (by kernel_rfl) rfl (Rd.bytesE S17.inv h11)) ?_)))))))
  refine lV 43 (e_seql (p := x8) (q := ([44] : List UInt8)) (by kernel_rfl) rfl) (lV 44 (eM (.bool (decide (x8 = ([44] : List UInt8))))) ?_)
  by_cases q33 : x8 = ([44] : List UInt8)
  · replace M := ifp q33 M
    refine lK 44 true (bT q33) ?_
    refine lK 44 true (bT q33) ?_
    refine lV 47 (eT (.bool true) (bT q33)) (wN (then_n (cond_t rfl (by kernel_rfl) (wp_seq (wR (lV 8 (eA (.slice none 0 0)) (lV 9 (eA (.int .i64 4)) ?_)))))))
    refine wN (then_n (wp_ret (then_r ?_)))
    obtain rfl := Option.some.inj M
    have S34 := S17.unit
    exact ret2 rfl rfl rfl (show _ = .slice none 0 0 from (by kernel_rfl)) (show _ = .int .i64 4 from (by kernel_rfl)) ⟨none, 0, no, H, rfl, (Row.nil _ _ _ _ no), S34⟩
  replace M := ifn q33 M
  refine lG 45 44 (bF q33) (eM (.slice A9 x8.length c10)) ?_
  obtain ⟨t35, u36, M⟩ := bnd M
  refine lcallg (d := 46) (t := 44) rfl (by kernel_rfl) rfl (bF q33) rfl (by kernel_rfl) (eC [.tmp 45] [.slice A9 x8.length c10] Try.func24) (spec_l3special.calls w15 H x8 A9 c10 h11 l12 S17.own0 t35 u36) ?_
  rintro _ w37 ⟨rfl, C38⟩
  refine ⟨_, rfl, ?_⟩
  obtain ⟨S39, K40⟩ := S17.still C38
  refine lV 47 (eF (.bool t35) (bF q33)) (wN (then_n ?_))
  by_cases q41 : t35 = true
  · replace M := ifp q41 M
    refine cT (bvt q41 (by kernel_rfl)) (wp_seq (wR (lV 8 (eA (.slice none 0 0)) (lV 9 (eA (.int .i64 4)) (wN (then_n (wp_ret ?_)))))))
    refine then_r ?_
    obtain rfl := Option.some.inj M
    have S42 := S39.unit
    exact ret2 rfl rfl rfl (show _ = .slice none 0 0 from (by kernel_rfl)) (show _ = .int .i64 4 from (by kernel_rfl)) ⟨none, 0, no, H, rfl, (Row.nil _ _ _ _ no), S42⟩
  replace M := ifn q41 M
  refine cF (bvf q41 (by kernel_rfl)) (wp_skip (then_n (wp_seq (wR (lV 48 (eM (.slice A2 x1.length c3)) (lV 49 (eM (.slice A9 x8.length c10)) ?_))))))
  obtain ⟨t43, u44, M⟩ := bnd M
  refine lC 50 (eC [.tmp 48, .tmp 49, .const (.bool false)] [.slice A2 x1.length c3, .slice A9 x8.length c10, .bool false] Try.func34) (spec_l3find.calls k w37 H x1 A2 c3 x8 A9 c10 false h4 l5 h11 l12 S39.own0 t43 u44) ?_
  rintro _ w45 ⟨rfl, C46⟩
  refine ⟨_, rfl, ?_⟩
  obtain ⟨S47, K48⟩ := S39.still C46
  refine lV 10 (eA (.int .i64 t43)) (wN (then_n (wp_seq (wp_seq (wR (lV 51 (eM (.int .i64 x7)) ?_))))))
  obtain ⟨t49, u50, M⟩ := bnd M
  refine lC 52 (eC [.tmp 51] [.int .i64 x7] Try.func25) (spec_l3prefix.calls w45 H x7  S47.own0 t49 u50) ?_
  rintro _ w51 ⟨rfl, C52⟩
  refine ⟨_, rfl, ?_⟩
  obtain ⟨S53, K54⟩ := S47.still C52
  refine lV 53 (e_notv (c := t49) (by kernel_rfl)) (lV 54 (eM (.bool (decide (¬ (t49 = true))))) ?_)
  by_cases q55 : ¬ (t49 = true)
  · replace M := ifp q55 M
    refine lG 55 54 (bT q55) (eM (.int .i64 t43)) (lG 56 54 (bT q55) (e_geq (k := .i64) (a := t43) (b := 0) (by kernel_rfl) rfl) (lV 57 (eT (.bool (decide (t43 ≥ 0))) (bT q55)) (lV 58 (eM (.bool (decide (t43 ≥ 0)))) ?_)))
    by_cases q56 : t43 ≥ 0
    · replace M := ifp q56 M
      refine lG 59 58 (bT q56) (eM (.slice A2 x1.length c3)) (lG 60 58 (bT q56) (eM (.int .i64 t43)) ?_)
      obtain ⟨q57, M⟩ := chk M
      obtain ⟨q58, M⟩ := chk M
      obtain ⟨b59, o60, e61⟩ := Rd.addr h4 (show (t43).toNat < x1.length by omega)
      obtain ⟨y62, r63, k64⟩ := Rd.at h4 e61 (getD_some z45 (show (t43).toNat < x1.length by omega))
      obtain ⟨A65, c66, rfl, l67, h68⟩ := st45_open r63
      refine lG 61 58 (bT q56) (eI b59 o60 x1.length c3 3 t43 .i64 Try.underlying25 e61 q57 q58) (lG 62 58 (bT q56) (eD b59 (o60 + (t43 : Int).toNat * 3) 2 1 Try.underlying45) (lG 63 58 (bT q56) (eL ⟨b59, o60 + (t43 : Int).toNat * 3 + 2, none⟩ (.int .i64 ((x1.getD ((t43).toNat) z45).typ)) Try.underlying3 (hpx (S53.inv.cell (k64 2 _ rfl)))) ?_))
      obtain ⟨t69, u70, M⟩ := bnd M
      refine lcallg (d := 64) (t := 58) rfl (by kernel_rfl) rfl (bT q56) rfl (by kernel_rfl) (eC [.tmp 63] [.int .i64 ((x1.getD ((t43).toNat) z45).typ)] Try.func35) (spec_l3infix.calls w51 H ((x1.getD ((t43).toNat) z45).typ)  S53.own0 t69 u70) ?_
      rintro _ w71 ⟨rfl, C72⟩
      refine ⟨_, rfl, ?_⟩
      obtain ⟨S73, K74⟩ := S53.still C72
      refine lG 65 58 (bT q56) (eM (.int .i64 x7)) ?_
      obtain ⟨t75, u76, M⟩ := bnd M
      refine lcallg (d := 66) (t := 58) rfl (by kernel_rfl) rfl (bT q56) rfl (by kernel_rfl) (eC [.tmp 65] [.int .i64 x7] Try.func35) (spec_l3infix.calls w71 H x7  S73.own0 t75 u76) ?_
      rintro _ w77 ⟨rfl, C78⟩
      refine ⟨_, rfl, ?_⟩
      obtain ⟨S79, K80⟩ := S73.still C78
      refine lG 67 58 (bT q56) (e_bneq (p := t69) (q := t75) Try.underlying4 (by kernel_rfl) (by kernel_rfl)) (lV 68 (eT (.bool (decide (t69 ≠ t75))) (bT q56)) (wN (then_n ?_)))
      by_cases q81 : t69 ≠ t75
      · replace M := ifp q81 M
        refine cT (bT q81) (wp_seq (wR (lV 8 (eA (.slice none 0 0)) (lV 9 (eA (.int .i64 4)) (wN (then_n (wp_ret ?_)))))))
        refine then_r ?_
        obtain rfl := Option.some.inj M
        have S82 := S79.unit
        exact ret2 rfl rfl rfl (show _ = .slice none 0 0 from (by kernel_rfl)) (show _ = .int .i64 4 from (by kernel_rfl)) ⟨none, 0, no, H, rfl, (Row.nil _ _ _ _ no), S82⟩
      replace M := ifn q81 M
      refine cF (bF q81) (wp_skip (then_n (wp_seq (wR (lV 69 (eM (.slice A2 x1.length c3)) ?_)))))
      obtain ⟨t83, u84, M⟩ := bnd M
      refine lC 70 (eC [.tmp 69] [.slice A2 x1.length c3] Try.func36) (spec_l3copy.calls k w77 H x1 A2 c3 h4 l5 (St.own' (Fa := []) (Fr := []) S79) t83 u84) ?_
      rintro _ w85 ⟨A88, c89, F91, H86, rfl, h90, T87⟩
      refine ⟨_, rfl, ?_⟩
      obtain ⟨S92, K93⟩ := St.call (Fa := []) (Fr := []) S79 T87
      have E94 := T87.ext
      refine lV 71 (eM (.slice A9 x8.length c10)) ?_
      obtain ⟨t95, u96, M⟩ := bnd M
      refine lC 72 (eC [.tmp 71] [.slice A9 x8.length c10] Try.func37) (spec_l1copy.calls w85 H86 x8 A9 c10 (h11.ext E94) l12 (St.own' (Fa := []) (Fr := [F91]) S92) t95 u96) ?_
      rintro _ w97 ⟨A100, c101, F103, H98, rfl, h102, T99⟩
      refine ⟨_, rfl, ?_⟩
      obtain ⟨S104, K105⟩ := St.call (Fa := []) (Fr := [F91]) S92 T99
      replace h90 := h90.move (K105.at 0 rfl)
      have E106 := T99.ext
      replace h90 := h90.ext E106
      refine lV 73 (eM (.int .i64 x6)) (lV 74 (eM (.int .i64 x7)) (lV 75 (show _ = Result.ok (Next.value (.agg #[.slice A100 t95.length c101, .int .i64 x6, .int .i64 x7])) w97 from by kernel_rfl) ?_))
      have S107 := S104.pulls [F91, F103] [1] rfl
      obtain ⟨t108, u109, M⟩ := bnd M
      refine lC 76 (eC [.tmp 70, .tmp 75] [.slice A88 t83.length c89, .agg #[.slice A100 t95.length c101, .int .i64 x6, .int .i64 x7]] Try.func30) (spec_l3put.calls k w97 H98 t83 A88 c89 F91 (⟨t95, x6, x7⟩ : Sy.Op) A100 c101 F103 h90 h102 (St.own' (Fa := [F91, F103]) (Fr := []) S107) t108 u109) ?_
      rintro _ w110 ⟨A113, c114, F116, H111, rfl, h115, T112⟩
      refine ⟨_, rfl, ?_⟩
      obtain ⟨S117, K118⟩ := St.call (Fa := [F91, F103]) (Fr := []) S107 T112
      have E119 := T112.ext
      refine lV 11 (eA (.slice A113 t108.length c114)) (wN (then_n (wp_seq (wp_seq (wR (lV 77 (eM (.slice A113 t108.length c114)) (lV 78 (e_len (A := A113) (n := t108.length) (c := c114) Try.underlying25 (by kernel_rfl)) ?_)))))))
      refine lV 79 (e_gtr (k := .i64) (a := (t108.length : Int)) (b := 200) (by kernel_rfl) rfl) (wN (then_n ?_))
      by_cases q120 : (t108.length : Int) > 200
      · replace M := ifp q120 M
        refine cT (bT q120) (wp_seq (wR (lV 8 (eA (.slice none 0 0)) (lV 9 (eA (.int .i64 3)) (wN (then_n (wp_ret ?_)))))))
        refine then_r ?_
        obtain rfl := Option.some.inj M
        have S121 := S117.unit
        have S122 := St.first (Fa := [no]) (Fr := [F116]) S121
        exact ret2 rfl rfl rfl (show _ = .slice none 0 0 from (by kernel_rfl)) (show _ = .int .i64 3 from (by kernel_rfl)) ⟨none, 0, no, H111, rfl, (Row.nil _ _ _ _ no), S122⟩
      replace M := ifn q120 M
      refine cF (bF q120) (wp_skip (then_n (wp_seq (wR (lV 80 (eM (.slice A113 t108.length c114)) (lV 8 (eA (.slice A113 t108.length c114)) (lV 9 (eA (.int .i64 0)) ?_)))))))
      refine wN (then_n (wp_ret ?_))
      obtain rfl := Option.some.inj M
      exact ret2 rfl rfl rfl (show _ = .slice A113 t108.length c114 from (by kernel_rfl)) (show _ = .int .i64 0 from (by kernel_rfl)) ⟨A113, c114, F116, H111, rfl, h115, S117⟩
    replace M := ifn q56 M
    refine lK 58 false (bF q56) ?_
    refine lK 58 false (bF q56) ?_
    refine lK 58 false (bF q56) ?_
    refine lK 58 false (bF q56) ?_
    refine lK 58 false (bF q56) ?_
    refine lK 58 false (bF q56) ?_
    refine lK 58 false (bF q56) ?_
    refine lK 58 false (bF q56) ?_
    refine lK 58 false (bF q56) ?_
    refine lV 68 (eF (.bool false) (bF q56)) (wN (then_n (cond_f rfl (by kernel_rfl) (wp_skip (then_n (wp_seq (wR ?_)))))))
    refine lV 69 (eM (.slice A2 x1.length c3)) ?_
    obtain ⟨t123, u124, M⟩ := bnd M
    refine lC 70 (eC [.tmp 69] [.slice A2 x1.length c3] Try.func36) (spec_l3copy.calls k w51 H x1 A2 c3 h4 l5 (St.own' (Fa := []) (Fr := []) S53) t123 u124) ?_
    rintro _ w125 ⟨A128, c129, F131, H126, rfl, h130, T127⟩
    refine ⟨_, rfl, ?_⟩
    obtain ⟨S132, K133⟩ := St.call (Fa := []) (Fr := []) S53 T127
    have E134 := T127.ext
    refine lV 71 (eM (.slice A9 x8.length c10)) ?_
    obtain ⟨t135, u136, M⟩ := bnd M
    refine lC 72 (eC [.tmp 71] [.slice A9 x8.length c10] Try.func37) (spec_l1copy.calls w125 H126 x8 A9 c10 (h11.ext E134) l12 (St.own' (Fa := []) (Fr := [F131]) S132) t135 u136) ?_
    rintro _ w137 ⟨A140, c141, F143, H138, rfl, h142, T139⟩
    refine ⟨_, rfl, ?_⟩
    obtain ⟨S144, K145⟩ := St.call (Fa := []) (Fr := [F131]) S132 T139
    replace h130 := h130.move (K145.at 0 rfl)
    have E146 := T139.ext
    replace h130 := h130.ext E146
    refine lV 73 (eM (.int .i64 x6)) (lV 74 (eM (.int .i64 x7)) (lV 75 (show _ = Result.ok (Next.value (.agg #[.slice A140 t135.length c141, .int .i64 x6, .int .i64 x7])) w137 from by kernel_rfl) ?_))
    have S147 := S144.pulls [F131, F143] [1] rfl
    obtain ⟨t148, u149, M⟩ := bnd M
    refine lC 76 (eC [.tmp 70, .tmp 75] [.slice A128 t123.length c129, .agg #[.slice A140 t135.length c141, .int .i64 x6, .int .i64 x7]] Try.func30) (spec_l3put.calls k w137 H138 t123 A128 c129 F131 (⟨t135, x6, x7⟩ : Sy.Op) A140 c141 F143 h130 h142 (St.own' (Fa := [F131, F143]) (Fr := []) S147) t148 u149) ?_
    rintro _ w150 ⟨A153, c154, F156, H151, rfl, h155, T152⟩
    refine ⟨_, rfl, ?_⟩
    obtain ⟨S157, K158⟩ := St.call (Fa := [F131, F143]) (Fr := []) S147 T152
    have E159 := T152.ext
    refine lV 11 (eA (.slice A153 t148.length c154)) (wN (then_n (wp_seq (wp_seq (wR (lV 77 (eM (.slice A153 t148.length c154)) (lV 78 (e_len (A := A153) (n := t148.length) (c := c154) Try.underlying25 (by kernel_rfl)) ?_)))))))
    refine lV 79 (e_gtr (k := .i64) (a := (t148.length : Int)) (b := 200) (by kernel_rfl) rfl) (wN (then_n ?_))
    by_cases q160 : (t148.length : Int) > 200
    · replace M := ifp q160 M
      refine cT (bT q160) (wp_seq (wR (lV 8 (eA (.slice none 0 0)) (lV 9 (eA (.int .i64 3)) (wN (then_n (wp_ret ?_)))))))
      refine then_r ?_
      obtain rfl := Option.some.inj M
      have S161 := S157.unit
      have S162 := St.first (Fa := [no]) (Fr := [F156]) S161
      exact ret2 rfl rfl rfl (show _ = .slice none 0 0 from (by kernel_rfl)) (show _ = .int .i64 3 from (by kernel_rfl)) ⟨none, 0, no, H151, rfl, (Row.nil _ _ _ _ no), S162⟩
    replace M := ifn q160 M
    refine cF (bF q160) (wp_skip (then_n (wp_seq (wR (lV 80 (eM (.slice A153 t148.length c154)) (lV 8 (eA (.slice A153 t148.length c154)) (lV 9 (eA (.int .i64 0)) ?_)))))))
    refine wN (then_n (wp_ret ?_))
    obtain rfl := Option.some.inj M
    exact ret2 rfl rfl rfl (show _ = .slice A153 t148.length c154 from (by kernel_rfl)) (show _ = .int .i64 0 from (by kernel_rfl)) ⟨A153, c154, F156, H151, rfl, h155, S157⟩
  replace M := ifn q55 M
  refine lK 54 false (bF q55) ?_
  refine lK 54 false (bF q55) ?_
  refine lV 57 (eF (.bool false) (bF q55)) (lV 58 (eM (.bool false)) ?_)
  refine lJ 58 false ?_
  refine lJ 58 false ?_
  refine lJ 58 false ?_
  refine lJ 58 false ?_
  refine lJ 58 false ?_
  refine lJ 58 false ?_
  refine lJ 58 false ?_
  refine lJ 58 false ?_
  refine lJ 58 false ?_
  refine lV 68 (eF (.bool false)) (wN (then_n (cond_f rfl (by kernel_rfl) (wp_skip (then_n (wp_seq (wR ?_)))))))
  refine lV 69 (eM (.slice A2 x1.length c3)) ?_
  obtain ⟨t163, u164, M⟩ := bnd M
  refine lC 70 (eC [.tmp 69] [.slice A2 x1.length c3] Try.func36) (spec_l3copy.calls k w51 H x1 A2 c3 h4 l5 (St.own' (Fa := []) (Fr := []) S53) t163 u164) ?_
  rintro _ w165 ⟨A168, c169, F171, H166, rfl, h170, T167⟩
  refine ⟨_, rfl, ?_⟩
  obtain ⟨S172, K173⟩ := St.call (Fa := []) (Fr := []) S53 T167
  have E174 := T167.ext
  refine lV 71 (eM (.slice A9 x8.length c10)) ?_
  obtain ⟨t175, u176, M⟩ := bnd M
  refine lC 72 (eC [.tmp 71] [.slice A9 x8.length c10] Try.func37) (spec_l1copy.calls w165 H166 x8 A9 c10 (h11.ext E174) l12 (St.own' (Fa := []) (Fr := [F171]) S172) t175 u176) ?_
  rintro _ w177 ⟨A180, c181, F183, H178, rfl, h182, T179⟩
  refine ⟨_, rfl, ?_⟩
  obtain ⟨S184, K185⟩ := St.call (Fa := []) (Fr := [F171]) S172 T179
  replace h170 := h170.move (K185.at 0 rfl)
  have E186 := T179.ext
  replace h170 := h170.ext E186
  refine lV 73 (eM (.int .i64 x6)) (lV 74 (eM (.int .i64 x7)) (lV 75 (show _ = Result.ok (Next.value (.agg #[.slice A180 t175.length c181, .int .i64 x6, .int .i64 x7])) w177 from by kernel_rfl) ?_))
  have S187 := S184.pulls [F171, F183] [1] rfl
  obtain ⟨t188, u189, M⟩ := bnd M
  refine lC 76 (eC [.tmp 70, .tmp 75] [.slice A168 t163.length c169, .agg #[.slice A180 t175.length c181, .int .i64 x6, .int .i64 x7]] Try.func30) (spec_l3put.calls k w177 H178 t163 A168 c169 F171 (⟨t175, x6, x7⟩ : Sy.Op) A180 c181 F183 h170 h182 (St.own' (Fa := [F171, F183]) (Fr := []) S187) t188 u189) ?_
  rintro _ w190 ⟨A193, c194, F196, H191, rfl, h195, T192⟩
  refine ⟨_, rfl, ?_⟩
  obtain ⟨S197, K198⟩ := St.call (Fa := [F171, F183]) (Fr := []) S187 T192
  have E199 := T192.ext
  refine lV 11 (eA (.slice A193 t188.length c194)) (wN (then_n (wp_seq (wp_seq (wR (lV 77 (eM (.slice A193 t188.length c194)) (lV 78 (e_len (A := A193) (n := t188.length) (c := c194) Try.underlying25 (by kernel_rfl)) ?_)))))))
  refine lV 79 (e_gtr (k := .i64) (a := (t188.length : Int)) (b := 200) (by kernel_rfl) rfl) (wN (then_n ?_))
  by_cases q200 : (t188.length : Int) > 200
  · replace M := ifp q200 M
    refine cT (bT q200) (wp_seq (wR (lV 8 (eA (.slice none 0 0)) (lV 9 (eA (.int .i64 3)) (wN (then_n (wp_ret ?_)))))))
    refine then_r ?_
    obtain rfl := Option.some.inj M
    have S201 := S197.unit
    have S202 := St.first (Fa := [no]) (Fr := [F196]) S201
    exact ret2 rfl rfl rfl (show _ = .slice none 0 0 from (by kernel_rfl)) (show _ = .int .i64 3 from (by kernel_rfl)) ⟨none, 0, no, H191, rfl, (Row.nil _ _ _ _ no), S202⟩
  replace M := ifn q200 M
  refine cF (bF q200) (wp_skip (then_n (wp_seq (wR (lV 80 (eM (.slice A193 t188.length c194)) (lV 8 (eA (.slice A193 t188.length c194)) (lV 9 (eA (.int .i64 0)) ?_)))))))
  refine wN (then_n (wp_ret ?_))
  obtain rfl := Option.some.inj M
  exact ret2 rfl rfl rfl (show _ = .slice A193 t188.length c194 from (by kernel_rfl)) (show _ = .int .i64 0 from (by kernel_rfl)) ⟨A193, c194, F196, H191, rfl, h195, S197⟩

/-! spec_l4ops -/
def spec_l4ops.l1 : Nat → Int → (List Sy.Op) → Int → (List UInt8) → Int → Option ((List Sy.Op) × GL4rd)
  | 0, _, _, _, _, _ => none
  | k144 + 1, x43, x121, x126, x127, x132 => (if x126 < x43 then ((spec_l4rd_next_2.f (⟨x127, x132⟩ : GL4rd)).bind fun t147 => (if 0 ≤ (Int.tmod t147.1 14) then (if (Int.tmod t147.1 14) < (14 : Int) then (if ([([64, 64] : List UInt8), ([114] : List UInt8), ([113] : List UInt8), ([45] : List UInt8), ([112] : List UInt8), ([61] : List UInt8), ([97] : List UInt8), ([88, 32, 121] : List UInt8), ([43] : List UInt8), ([33] : List UInt8), ([59] : List UInt8), ([92, 43] : List UInt8), ([102, 111, 111] : List UInt8), ([46] : List UInt8)].getD (((Int.tmod t147.1 14)).toNat) ([] : List UInt8)).length ≤ 9223372036854775807 then ((spec_l4rd_next_2.f t147.2).bind fun t174 => (if 0 ≤ (Int.tmod t174.1 10) then (if (Int.tmod t174.1 10) < (10 : Int) then ((spec_AddOp.f k144 x121 ([700, 200, 900, 500, 1200, 1, 999, 1000, 0, 700].getD (((Int.tmod t174.1 10)).toNat) (0 : Int)) (Int.tmod (IntKind.i64.wrap (Int.tdiv t174.1 10)) 7) ([([64, 64] : List UInt8), ([114] : List UInt8), ([113] : List UInt8), ([45] : List UInt8), ([112] : List UInt8), ([61] : List UInt8), ([97] : List UInt8), ([88, 32, 121] : List UInt8), ([43] : List UInt8), ([33] : List UInt8), ([59] : List UInt8), ([92, 43] : List UInt8), ([102, 111, 111] : List UInt8), ([46] : List UInt8)].getD (((Int.tmod t147.1 14)).toNat) ([] : List UInt8))).bind fun t211 => (if t211.2 = 0 then (spec_l4ops.l1 k144 x43 t211.1 (IntKind.i64.wrap (x126 + 1)) t174.2.b_ t174.2.i_) else (spec_l4ops.l1 k144 x43 x121 (IntKind.i64.wrap (x126 + 1)) t174.2.b_ t174.2.i_))) else none) else none)) else none) else none) else none)) else some (x121, (⟨x127, x132⟩ : GL4rd)))
def spec_l4ops.l0 (k : Nat) (x38 : List Sy.Op) (x43 : Int) (x44 : List UInt8) (x49 : Int) : Option ((List Sy.Op) × GL4rd) := (spec_l4ops.l1 k x43 x38 0 x44 x49)
def spec_l4ops.f (k : Nat) (x1 : GL4rd) : Option ((List Sy.Op) × GL4rd) := ((spec_DefaultOps.f k ).bind fun t8 => ((spec_l4rd_next_2.f x1).bind fun t21 => (if (Int.tmod t21.1 6) = 0 then ((spec_l3put.f k [] (⟨[(44 : UInt8)], 1000, 1⟩ : Sy.Op)).bind fun t70 => ((spec_l4rd_next_2.f t21.2).bind fun t83 => (spec_l4ops.l0 k t70 (Int.tmod t83.1 4) t83.2.b_ t83.2.i_))) else (spec_l4ops.l0 k t8 (Int.tmod t21.1 6) t21.2.b_ t21.2.i_))))
theorem spec_l4ops.calls (k : Nat) (w : World) (H : Hp) (x1 : GL4rd) (g2 : Nat) (A4 : Option Addr) (c5 : Nat) (h6 : Rd tByte H A4 x1.b_) (l7 : x1.b_.length ≤ c5) (b3 : w.heap[g2]? = some (.cells #[.slice A4 x1.b_.length c5, .int .i64 x1.i_] 66 (0, 0))) (S : Own [(is g2)] H w) (r : (List Sy.Op) × GL4rd) (M : spec_l4ops.f k x1 = some r) :
    Calls Try.prog 42 #[.pointer (some ⟨g2, 0, none⟩)] w (fun e e_w => ∃ (A_1 : Option Addr) (c_1 : Nat) (A_2 : Option Addr) (c_2 : Nat) (F_1 : Foot) (H_ : Hp), e = .returned (.slice A_2 r.1.length c_2) ∧ Rd tByte H_ A_1 r.2.b_ ∧ r.2.b_.length ≤ c_1 ∧ e_w.heap[g2]? = some (.cells #[.slice A_1 r.2.b_.length c_1, .int .i64 r.2.i_] 66 (0, 0)) ∧ Row st45 45 H_ (hp e_w) F_1 A_2 c_2 r.1 ∧ St (anyOf [(is g2)]) H w [(is g2), F_1] H_ e_w) := by
  rw [spec_l4ops.f] at M
  refine enter (l := [.pointer (some ⟨g2, 0, none⟩)]) 59 Try.func42 rfl rfl rfl ?_
  have S0_ := S.st
  refine wp_seq (wR (lV 2 (eA (.slice none 0 0)) (wN (then_n (wp_seq (wR ?_))))))
  obtain ⟨t8, u9, M⟩ := bnd M
  refine lC 12 (eC [] [] Try.func12) (spec_DefaultOps.calls k w H   (St.own' (Fa := []) (Fr := [(is g2)]) S0_) t8 u9) ?_
  rintro _ w10 ⟨A13, c14, F16, H11, rfl, h15, T12⟩
  refine ⟨_, rfl, ?_⟩
  obtain ⟨S17, K18⟩ := St.call (Fa := []) (Fr := [(is g2)]) S0_ T12
  replace b3 := K18.blk 0 rfl b3
  have E19 := T12.ext
  refine lV 3 (eA (.slice A13 t8.length c14)) (wN (then_n (wp_seq (wR (lV 13 (eM (.pointer (some ⟨g2, 0, none⟩))) ?_)))))
  have S20 := S17.pulls [(is g2), F16] [1] rfl
  obtain ⟨t21, u22, M⟩ := bnd M
  refine lC 14 (eC [.tmp 13] [.pointer (some ⟨g2, 0, none⟩)] Try.func41) (spec_l4rd_next_2.calls w10 H11 x1 g2 A4 c5 (h6.ext E19) l7 b3 (St.own' (Fa := [(is g2)]) (Fr := [F16]) S20) t21 u22) ?_
  rintro _ w23 ⟨A26, c27, H24, rfl, h28, l29, b30, T25⟩
  refine ⟨_, rfl, ?_⟩
  obtain ⟨S31, K32⟩ := St.call (Fa := [(is g2)]) (Fr := [F16]) S20 T25
  replace h15 := h15.move (K32.at 0 rfl)
  have E33 := T25.ext
  replace h15 := h15.ext E33
  refine lV 15 (e_rem (k := .i64) (a := t21.1) (b := 6) (by kernel_rfl) rfl (by decide)) (lV 4 (eA (.int .i64 (Int.tmod t21.1 6))) (wN (then_n ?_)))
  refine wp_seq_cut (fun a56 w34 => ∃ (f35 : Nat → Value) (H36 : Hp) (x38 : List Sy.Op) (A39 : Option Addr) (c40 : Nat) (F41 : Foot) (x43 : Int) (x44 : List UInt8) (A45 : Option Addr) (c46 : Nat) (x49 : Int), a56 = mk 59 f35 ∧ f35 0 = .pointer (some ⟨g2, 0, none⟩) ∧ f35 3 = .slice A39 x38.length c40 ∧ f35 4 = .int .i64 x43 ∧ w34.heap[g2]? = some (.cells #[.slice A45 x44.length c46, .int .i64 x49] 66 (0, 0)) ∧ Row st45 45 H36 (hp w34) F41 A39 c40 x38 ∧ Rd tByte H36 A45 x44 ∧ x44.length ≤ c46 ∧ Ext H24 H36 ∧ St (anyOf [(is g2)]) H w [(is g2), F41] H36 w34 ∧ spec_l4ops.l0 k x38 x43 x44 x49 = some r) ?_ ?_
  · refine wp_seq (wR (lV 16 (eM (.int .i64 (Int.tmod t21.1 6))) (lV 17 (eEq .i64 (Int.tmod t21.1 6) 0) (wN (then_n ?_)))))
    by_cases q57 : (Int.tmod t21.1 6) = 0
    · replace M := ifp q57 M
      refine cT (bT q57) (wp_seq (wR ?_))
      refine lW 18 (new_blk (v := fun g_ => .slice (some ⟨g_, 0, none⟩) 1 1) (cs := #[.int .u8 44]) (t := 5) S31 (by kernel_rfl)) ?_
      rintro _ w58 ⟨g59, rfl, b60, S61, K62⟩
      replace b30 := K62.blk 0 rfl b30
      refine lW 19 (e_conv_lit (g := g59) (n := 1) (cur := #[.int .u8 44]) (xs := [(44 : UInt8)]) S61 b60 Try.underlying32 Try.underlying5 (by kernel_rfl) rfl rfl (by decide)) ?_
      rintro _ w63 ⟨rfl, h64, S65, K66⟩
      replace b30 := K66.blk 0 rfl b30
      clear b60
      refine lV 20 (show _ = Result.ok (Next.value (.agg #[.slice (some ⟨g59, 0, none⟩) 1 1, .int .i64 1000, .int .i64 1])) w63 from by kernel_rfl) ?_
      have S67 := S65.unit
      have S69 := S67.pulls [no, (is g59), (is g2), F16] [1, 1] rfl
      obtain ⟨t70, u71, M⟩ := bnd M
      refine lC 21 (eC [.const (.slice none 0 0), .tmp 20] [.slice none 0 0, .agg #[.slice (some ⟨g59, 0, none⟩) 1 1, .int .i64 1000, .int .i64 1]] Try.func30) (spec_l3put.calls k w63 H24 [] none 0 no (⟨[(44 : UInt8)], 1000, 1⟩ : Sy.Op) (some ⟨g59, 0, none⟩) 1 (is g59) (Row.nil _ _ _ _ no) h64 (St.own' (Fa := [no, (is g59)]) (Fr := [(is g2), F16]) S69) t70 u71) ?_
      rintro _ w72 ⟨A75, c76, F78, H73, rfl, h77, T74⟩
      refine ⟨_, rfl, ?_⟩
      obtain ⟨S79, K80⟩ := St.call (Fa := [no, (is g59)]) (Fr := [(is g2), F16]) S69 T74
      replace b30 := K80.blk 0 rfl b30
      have E81 := T74.ext
      refine lV 3 (eA (.slice A75 t70.length c76)) (wN (then_n (wR (lV 22 (eM (.pointer (some ⟨g2, 0, none⟩))) ?_))))
      have S82 := S79.pulls [(is g2), F78, F16] [1] rfl
      obtain ⟨t83, u84, M⟩ := bnd M
      refine lC 23 (eC [.tmp 22] [.pointer (some ⟨g2, 0, none⟩)] Try.func41) (spec_l4rd_next_2.calls w72 H73 t21.2 g2 A26 c27 (h28.ext E81) l29 b30 (St.own' (Fa := [(is g2)]) (Fr := [F78, F16]) S82) t83 u84) ?_
      rintro _ w85 ⟨A88, c89, H86, rfl, h90, l91, b92, T87⟩
      refine ⟨_, rfl, ?_⟩
      obtain ⟨S93, K94⟩ := St.call (Fa := [(is g2)]) (Fr := [F78, F16]) S82 T87
      replace h77 := h77.move (K94.at 0 rfl)
      have E95 := T87.ext
      replace h77 := h77.ext E95
      refine lV 24 (e_rem (k := .i64) (a := t83.1) (b := 4) (by kernel_rfl) rfl (by decide)) (lV 4 (eA (.int .i64 (Int.tmod t83.1 4))) (wN (then_n ?_)))
      have S97 := S93.pulls [(is g2), F78, F16] [1, 1] rfl
      have S98 := St.first (Fa := [(is g2), F78]) (Fr := [F16]) S97
      exact ⟨_, H86, t70, A75, c76, F78, (Int.tmod t83.1 4), t83.2.b_, A88, c89, t83.2.i_, rfl, (by kernel_rfl), (by kernel_rfl), (by kernel_rfl), b92, h77, h90, l91, (E81.trans E95), S98, M⟩
    replace M := ifn q57 M
    refine cF (bF q57) (wp_skip (then_n ?_))
    exact ⟨_, H24, t8, A13, c14, F16, (Int.tmod t21.1 6), t21.2.b_, A26, c27, t21.2.i_, rfl, (by kernel_rfl), (by kernel_rfl), (by kernel_rfl), b30, h15, h28, l29, (Ext.refl _), S31, M⟩
  clear M
  rintro a56 w34 ⟨f35, H36, x38, A39, c40, F41, x43, x44, A45, c46, x49, rfl, e50, e51, e52, b30, h42, h47, l48, Y37, S53, M⟩
  rw [spec_l4ops.l0] at M
  refine wp_seq (wR ?_)
  refine lW 25 (new_blk (v := fun g_ => .slice (some ⟨g_, 0, none⟩) 14 14) (cs := #[str ([64, 64] : List UInt8), str ([114] : List UInt8), str ([113] : List UInt8), str ([45] : List UInt8), str ([112] : List UInt8), str ([61] : List UInt8), str ([97] : List UInt8), str ([88, 32, 121] : List UInt8), str ([43] : List UInt8), str ([33] : List UInt8), str ([59] : List UInt8), str ([92, 43] : List UInt8), str ([102, 111, 111] : List UInt8), str ([46] : List UInt8)]) (t := 9) S53 (by kernel_rfl)) ?_
  rintro _ w99 ⟨g100, rfl, b101, S102, K103⟩
  replace b30 := K103.blk 0 rfl b30
  replace h42 := h42.move (K103.at 1 rfl)
  have S104 := S102.unit
  have S105 := S104.pulls [(is g100), no, (is g2), F41] [1] rfl
  obtain ⟨h106, S107⟩ := row_lit (d := tStr) (xs := [([64, 64] : List UInt8), ([114] : List UInt8), ([113] : List UInt8), ([45] : List UInt8), ([112] : List UInt8), ([61] : List UInt8), ([97] : List UInt8), ([88, 32, 121] : List UInt8), ([43] : List UInt8), ([33] : List UInt8), ([59] : List UInt8), ([92, 43] : List UInt8), ([102, 111, 111] : List UInt8), ([46] : List UInt8)]) S105 b101 rfl (elsO_no (d := tStr) rfl (elsO_no (d := tStr) rfl (elsO_no (d := tStr) rfl (elsO_no (d := tStr) rfl (elsO_no (d := tStr) rfl (elsO_no (d := tStr) rfl (elsO_no (d := tStr) rfl (elsO_no (d := tStr) rfl (elsO_no (d := tStr) rfl (elsO_no (d := tStr) rfl (elsO_no (d := tStr) rfl (elsO_no (d := tStr) rfl (elsO_no (d := tStr) rfl (elsO_no (d := tStr) rfl (elsO_nil _ _ _ no))))))))))))))) (Nat.le_of_ble_eq_true rfl)
  refine lV 5 (eA (.slice (some ⟨g100, 0, none⟩) 14 14)) (wN (then_n (wp_seq (wR ?_))))
  refine lW 26 (new_blk (v := fun g_ => .slice (some ⟨g_, 0, none⟩) 10 10) (cs := #[.int .i64 700, .int .i64 200, .int .i64 900, .int .i64 500, .int .i64 1200, .int .i64 1, .int .i64 999, .int .i64 1000, .int .i64 0, .int .i64 700]) (t := 3) S107 (by kernel_rfl)) ?_
  rintro _ w108 ⟨g109, rfl, b110, S111, K112⟩
  replace h106 := h106.move (K112.at 0 rfl)
  replace b30 := K112.blk 1 rfl b30
  replace h42 := h42.move (K112.at 2 rfl)
  have S113 := S111.unit
  have S114 := S113.pulls [(is g109), no, (or2 (is g100) no), (is g2), F41] [1] rfl
  obtain ⟨h115, S116⟩ := row_lit (d := tInt) (xs := [700, 200, 900, 500, 1200, 1, 999, 1000, 0, 700]) S114 b110 rfl (elsO_no (d := tInt) rfl (elsO_no (d := tInt) rfl (elsO_no (d := tInt) rfl (elsO_no (d := tInt) rfl (elsO_no (d := tInt) rfl (elsO_no (d := tInt) rfl (elsO_no (d := tInt) rfl (elsO_no (d := tInt) rfl (elsO_no (d := tInt) rfl (elsO_no (d := tInt) rfl (elsO_nil _ _ _ no))))))))))) (Nat.le_of_ble_eq_true rfl)
  refine lV 6 (eA (.slice (some ⟨g109, 0, none⟩) 10 10)) (wN (then_n (wp_seq (wp_seq (wR (lV 7 (eA (.int .i64 0)) (wN ?_)))))))
  refine then_n (wp_block ?_)
  refine wp_loop_g (fun k142 a143 w117 => ∃ (f118 : Nat → Value) (H119 : Hp) (x121 : List Sy.Op) (A122 : Option Addr) (c123 : Nat) (F124 : Foot) (x126 : Int) (x127 : List UInt8) (A128 : Option Addr) (c129 : Nat) (x132 : Int), a143 = mk 59 f118 ∧ f118 0 = .pointer (some ⟨g2, 0, none⟩) ∧ f118 3 = .slice A122 x121.length c123 ∧ f118 4 = .int .i64 x43 ∧ f118 5 = .slice (some ⟨g100, 0, none⟩) 14 14 ∧ f118 6 = .slice (some ⟨g109, 0, none⟩) 10 10 ∧ f118 7 = .int .i64 x126 ∧ Row tInt 3 H119 (hp w117) (or2 (is g109) no) (some ⟨g109, 0, none⟩) 10 [700, 200, 900, 500, 1200, 1, 999, 1000, 0, 700] ∧ Row tStr 9 H119 (hp w117) (or2 (is g100) no) (some ⟨g100, 0, none⟩) 14 [([64, 64] : List UInt8), ([114] : List UInt8), ([113] : List UInt8), ([45] : List UInt8), ([112] : List UInt8), ([61] : List UInt8), ([97] : List UInt8), ([88, 32, 121] : List UInt8), ([43] : List UInt8), ([33] : List UInt8), ([59] : List UInt8), ([92, 43] : List UInt8), ([102, 111, 111] : List UInt8), ([46] : List UInt8)] ∧ w117.heap[g2]? = some (.cells #[.slice A128 x127.length c129, .int .i64 x132] 66 (0, 0)) ∧ Row st45 45 H119 (hp w117) F124 A122 c123 x121 ∧ Rd tByte H119 A128 x127 ∧ x127.length ≤ c129 ∧ Ext H36 H119 ∧ St (anyOf [(is g2)]) H w [(or2 (is g109) no), (or2 (is g100) no), (is g2), F124] H119 w117 ∧ spec_l4ops.l1 k142 x43 x121 x126 x127 x132 = some r) k ⟨_, H36, x38, A39, c40, F41, 0, x44, A45, c46, x49, rfl, (by exact e50), (by exact e51), (by exact e52), (by kernel_rfl), (by kernel_rfl), (by kernel_rfl), h115, h106, b30, h42, h47, l48, (Ext.refl _), S116, M⟩ ?_
  clear M
  rintro k142 a143 w117 ⟨f118, H119, x121, A122, c123, F124, x126, x127, A128, c129, x132, rfl, e133, e134, e135, e136, e137, e138, h115, h106, b30, h125, h130, l131, Y120, S139, M⟩
  rcases k142 with _ | k144
  · rw [spec_l4ops.l1] at M
    cases M
  rw [spec_l4ops.l1] at M
  refine wp_seq (wp_seq (wR (lV 27 (eM (.int .i64 x126) (by exact e138)) (lV 28 (eM (.int .i64 x43) (by exact e135)) (lV 29 (eLt .i64 x126 x43) (wN (then_n ?_)))))))
  by_cases q145 : x126 < x43
  · replace M := ifp q145 M
    refine cT (bT q145) (wp_skip (then_n (wp_seq (wp_block (wp_seq (wR (lV 32 (eM (.slice (some ⟨g100, 0, none⟩) 14 14) (by exact e136)) ?_)))))))
    refine lV 33 (eM (.pointer (some ⟨g2, 0, none⟩)) (by exact e133)) ?_
    have S146 := S139.pulls [(is g2), (or2 (is g109) no), (or2 (is g100) no), F124] [2] rfl
    obtain ⟨t147, u148, M⟩ := bnd M
    refine lC 34 (eC [.tmp 33] [.pointer (some ⟨g2, 0, none⟩)] Try.func41) (spec_l4rd_next_2.calls w117 H119 (⟨x127, x132⟩ : GL4rd) g2 A128 c129 h130 l131 b30 (St.own' (Fa := [(is g2)]) (Fr := [(or2 (is g109) no), (or2 (is g100) no), F124]) S146) t147 u148) ?_
    rintro _ w149 ⟨A152, c153, H150, rfl, h154, l155, b156, T151⟩
    refine ⟨_, rfl, ?_⟩
    obtain ⟨S157, K158⟩ := St.call (Fa := [(is g2)]) (Fr := [(or2 (is g109) no), (or2 (is g100) no), F124]) S146 T151
    replace h115 := h115.move (K158.at 0 rfl)
    replace h106 := h106.move (K158.at 1 rfl)
    replace h125 := h125.move (K158.at 2 rfl)
    have E159 := T151.ext
    replace h115 := h115.ext E159
    replace h106 := h106.ext E159
    replace h125 := h125.ext E159
    refine lV 35 (e_rem (k := .i64) (a := t147.1) (b := 14) (by kernel_rfl) rfl (by decide)) ?_
    obtain ⟨q160, M⟩ := chk M
    obtain ⟨q161, M⟩ := chk M
    obtain ⟨b162, e164⟩ := Row.addr h106 (show ((Int.tmod t147.1 14)).toNat < [([64, 64] : List UInt8), ([114] : List UInt8), ([113] : List UInt8), ([45] : List UInt8), ([112] : List UInt8), ([61] : List UInt8), ([97] : List UInt8), ([88, 32, 121] : List UInt8), ([43] : List UInt8), ([33] : List UInt8), ([59] : List UInt8), ([92, 43] : List UInt8), ([102, 111, 111] : List UInt8), ([46] : List UInt8)].length by have : [([64, 64] : List UInt8), ([114] : List UInt8), ([113] : List UInt8), ([45] : List UInt8), ([112] : List UInt8), ([61] : List UInt8), ([97] : List UInt8), ([88, 32, 121] : List UInt8), ([43] : List UInt8), ([33] : List UInt8), ([59] : List UInt8), ([92, 43] : List UInt8), ([102, 111, 111] : List UInt8), ([46] : List UInt8)].length = 14 := rfl; omega)
    refine lV 36 (eI b162 0 14 14 1 (Int.tmod t147.1 14) .i64 Try.underlying49 e164 q160 q161) (lV 37 (eL ⟨b162, 0 + ((Int.tmod t147.1 14) : Int).toNat * 1, none⟩ (str ([([64, 64] : List UInt8), ([114] : List UInt8), ([113] : List UInt8), ([45] : List UInt8), ([112] : List UInt8), ([61] : List UInt8), ([97] : List UInt8), ([88, 32, 121] : List UInt8), ([43] : List UInt8), ([33] : List UInt8), ([59] : List UInt8), ([92, 43] : List UInt8), ([102, 111, 111] : List UInt8), ([46] : List UInt8)].getD (((Int.tmod t147.1 14)).toNat) ([] : List UInt8))) Try.underlying9 (hpx (Row.pick (j := 0) (u := str ([([64, 64] : List UInt8), ([114] : List UInt8), ([113] : List UInt8), ([45] : List UInt8), ([112] : List UInt8), ([61] : List UInt8), ([97] : List UInt8), ([88, 32, 121] : List UInt8), ([43] : List UInt8), ([33] : List UInt8), ([59] : List UInt8), ([92, 43] : List UInt8), ([102, 111, 111] : List UInt8), ([46] : List UInt8)].getD (((Int.tmod t147.1 14)).toNat) ([] : List UInt8))) h106 e164 (getD_some ([] : List UInt8) (show ((Int.tmod t147.1 14)).toNat < [([64, 64] : List UInt8), ([114] : List UInt8), ([113] : List UInt8), ([45] : List UInt8), ([112] : List UInt8), ([61] : List UInt8), ([97] : List UInt8), ([88, 32, 121] : List UInt8), ([43] : List UInt8), ([33] : List UInt8), ([59] : List UInt8), ([92, 43] : List UInt8), ([102, 111, 111] : List UInt8), ([46] : List UInt8)].length by have : [([64, 64] : List UInt8), ([114] : List UInt8), ([113] : List UInt8), ([45] : List UInt8), ([112] : List UInt8), ([61] : List UInt8), ([97] : List UInt8), ([88, 32, 121] : List UInt8), ([43] : List UInt8), ([33] : List UInt8), ([59] : List UInt8), ([92, 43] : List UInt8), ([102, 111, 111] : List UInt8), ([46] : List UInt8)].length = 14 := rfl; omega)) (fun _ _ o_ => by rw [show _ = _ from o_]; rfl)))) ?_)
    obtain ⟨q165, M⟩ := chk M
    refine lW 38 (e_conv_sb (xs := ([([64, 64] : List UInt8), ([114] : List UInt8), ([113] : List UInt8), ([45] : List UInt8), ([112] : List UInt8), ([61] : List UInt8), ([97] : List UInt8), ([88, 32, 121] : List UInt8), ([43] : List UInt8), ([33] : List UInt8), ([59] : List UInt8), ([92, 43] : List UInt8), ([102, 111, 111] : List UInt8), ([46] : List UInt8)].getD (((Int.tmod t147.1 14)).toNat) ([] : List UInt8))) S157 Try.underlying9 Try.underlying32 Try.underlying5 (by kernel_rfl) q165) ?_
    rintro _ w166 ⟨A167, c168, F169, rfl, h170, S171, K172⟩
    replace b156 := K172.blk 0 rfl b156
    replace h115 := h115.move (K172.at 1 rfl)
    replace h106 := h106.move (K172.at 2 rfl)
    replace h125 := h125.move (K172.at 3 rfl)
    refine lV 8 (eA (.slice A167 (([([64, 64] : List UInt8), ([114] : List UInt8), ([113] : List UInt8), ([45] : List UInt8), ([112] : List UInt8), ([61] : List UInt8), ([97] : List UInt8), ([88, 32, 121] : List UInt8), ([43] : List UInt8), ([33] : List UInt8), ([59] : List UInt8), ([92, 43] : List UInt8), ([102, 111, 111] : List UInt8), ([46] : List UInt8)].getD (((Int.tmod t147.1 14)).toNat) ([] : List UInt8)).length) c168)) (wN (then_n (wp_seq (wR (lV 39 (eM (.pointer (some ⟨g2, 0, none⟩)) (by exact e133)) ?_)))))
    have S173 := S171.pulls [(is g2), F169, (or2 (is g109) no), (or2 (is g100) no), F124] [1] rfl
    obtain ⟨t174, u175, M⟩ := bnd M
    refine lC 40 (eC [.tmp 39] [.pointer (some ⟨g2, 0, none⟩)] Try.func41) (spec_l4rd_next_2.calls w166 H150 t147.2 g2 A152 c153 h154 l155 b156 (St.own' (Fa := [(is g2)]) (Fr := [F169, (or2 (is g109) no), (or2 (is g100) no), F124]) S173) t174 u175) ?_
    rintro _ w176 ⟨A179, c180, H177, rfl, h181, l182, b183, T178⟩
    refine ⟨_, rfl, ?_⟩
    obtain ⟨S184, K185⟩ := St.call (Fa := [(is g2)]) (Fr := [F169, (or2 (is g109) no), (or2 (is g100) no), F124]) S173 T178
    replace h170 := h170.move (K185.at 0 rfl)
    replace h115 := h115.move (K185.at 1 rfl)
    replace h106 := h106.move (K185.at 2 rfl)
    replace h125 := h125.move (K185.at 3 rfl)
    have E186 := T178.ext
    replace h170 := h170.ext E186
    replace h115 := h115.ext E186
    replace h106 := h106.ext E186
    replace h125 := h125.ext E186
    refine lV 9 (eA (.int .i64 t174.1)) (wN (then_n (wp_seq (wR (lV 42 (eM (.slice A122 x121.length c123) (by exact e134)) (lV 43 (eM (.slice (some ⟨g109, 0, none⟩) 10 10) (by exact e137)) (lV 44 (eM (.int .i64 t174.1)) ?_)))))))
    refine lV 45 (e_rem (k := .i64) (a := t174.1) (b := 10) (by kernel_rfl) rfl (by decide)) ?_
    obtain ⟨q187, M⟩ := chk M
    obtain ⟨q188, M⟩ := chk M
    obtain ⟨b189, e191⟩ := Row.addr h115 (show ((Int.tmod t174.1 10)).toNat < [700, 200, 900, 500, 1200, 1, 999, 1000, 0, 700].length by have : [700, 200, 900, 500, 1200, 1, 999, 1000, 0, 700].length = 10 := rfl; omega)
    refine lV 46 (eI b189 0 10 10 1 (Int.tmod t174.1 10) .i64 Try.underlying50 e191 q187 q188) (lV 47 (eL ⟨b189, 0 + ((Int.tmod t174.1 10) : Int).toNat * 1, none⟩ (.int .i64 ([700, 200, 900, 500, 1200, 1, 999, 1000, 0, 700].getD (((Int.tmod t174.1 10)).toNat) (0 : Int))) Try.underlying3 (hpx (Row.pick (j := 0) (u := .int .i64 ([700, 200, 900, 500, 1200, 1, 999, 1000, 0, 700].getD (((Int.tmod t174.1 10)).toNat) (0 : Int))) h115 e191 (getD_some (0 : Int) (show ((Int.tmod t174.1 10)).toNat < [700, 200, 900, 500, 1200, 1, 999, 1000, 0, 700].length by have : [700, 200, 900, 500, 1200, 1, 999, 1000, 0, 700].length = 10 := rfl; omega)) (fun _ _ o_ => by rw [show _ = _ from o_]; rfl)))) (lV 48 (eM (.int .i64 t174.1)) (lV 49 (e_quo (k := .i64) (a := t174.1) (b := 10) (by kernel_rfl) rfl (by decide)) (lV 50 (e_rem (k := .i64) (a := (IntKind.i64.wrap (Int.tdiv t174.1 10))) (b := 7) (by kernel_rfl) rfl (by decide)) (lV 51 (eM (.slice A167 (([([64, 64] : List UInt8), ([114] : List UInt8), ([113] : List UInt8), ([45] : List UInt8), ([112] : List UInt8), ([61] : List UInt8), ([97] : List UInt8), ([88, 32, 121] : List UInt8), ([43] : List UInt8), ([33] : List UInt8), ([59] : List UInt8), ([92, 43] : List UInt8), ([102, 111, 111] : List UInt8), ([46] : List UInt8)].getD (((Int.tmod t147.1 14)).toNat) ([] : List UInt8)).length) c168)) ?_)))))
    have S192 := S184.pulls [F124, (is g2), F169, (or2 (is g109) no), (or2 (is g100) no)] [4] rfl
    have l193 := h125.le
    obtain ⟨H194, S195, E196, h197, z198⟩ := S192.frzRow h125
    have h199 := h170.ext E196
    have h200 := h115.ext E196
    have h201 := h106.ext E196
    have S202 := S195.pulls [F169, (is g2), (or2 (is g109) no), (or2 (is g100) no)] [1] rfl
    have l203 := h199.le
    obtain ⟨H204, S205, E206, h207, z208⟩ := S202.frzRow h199
    have h209 := h200.ext E206
    have h210 := h201.ext E206
    obtain ⟨t211, u212, M⟩ := bnd M
    refine lC 52 (eC [.tmp 42, .tmp 47, .tmp 50, .tmp 51] [.slice A122 x121.length c123, .int .i64 ([700, 200, 900, 500, 1200, 1, 999, 1000, 0, 700].getD (((Int.tmod t174.1 10)).toNat) (0 : Int)), .int .i64 (Int.tmod (IntKind.i64.wrap (Int.tdiv t174.1 10)) 7), .slice A167 (([([64, 64] : List UInt8), ([114] : List UInt8), ([113] : List UInt8), ([45] : List UInt8), ([112] : List UInt8), ([61] : List UInt8), ([97] : List UInt8), ([88, 32, 121] : List UInt8), ([43] : List UInt8), ([33] : List UInt8), ([59] : List UInt8), ([92, 43] : List UInt8), ([102, 111, 111] : List UInt8), ([46] : List UInt8)].getD (((Int.tmod t147.1 14)).toNat) ([] : List UInt8)).length) c168] Try.func16) (spec_AddOp.calls k144 w176 H204 x121 A122 c123 ([700, 200, 900, 500, 1200, 1, 999, 1000, 0, 700].getD (((Int.tmod t174.1 10)).toNat) (0 : Int)) (Int.tmod (IntKind.i64.wrap (Int.tdiv t174.1 10)) 7) ([([64, 64] : List UInt8), ([114] : List UInt8), ([113] : List UInt8), ([45] : List UInt8), ([112] : List UInt8), ([61] : List UInt8), ([97] : List UInt8), ([88, 32, 121] : List UInt8), ([43] : List UInt8), ([33] : List UInt8), ([59] : List UInt8), ([92, 43] : List UInt8), ([102, 111, 111] : List UInt8), ([46] : List UInt8)].getD (((Int.tmod t147.1 14)).toNat) ([] : List UInt8)) A167 c168 (h197.ext E206) l193 h207 l203 S205.own0 t211 u212) ?_
    rintro _ w213 ⟨A216, c217, F219, H214, rfl, h218, T215⟩
    refine ⟨_, rfl, ?_⟩
    obtain ⟨S220, K221⟩ := St.call (Fa := []) (Fr := [(is g2), (or2 (is g109) no), (or2 (is g100) no)]) S205 T215
    replace b183 := K221.blk 0 rfl b183
    replace h115 := h115.move (K221.at 1 rfl)
    replace h106 := h106.move (K221.at 2 rfl)
    obtain ⟨H222, S223, E224, v225⟩ := St.thaw S202 z208 S220 T215.ext E206 T215.size
    obtain ⟨H226, S227, E228, v229⟩ := St.thaw S192 z198 S223 E224 E196 T215.size
    replace h125 := h125.move v229
    replace h125 := h125.ext E228
    replace h115 := h115.ext E228
    replace h106 := h106.ext E228
    replace h218 := Row.free (H' := H226) (free_iso (free_pair (free_slice (free_scal _ _)) (free_pair (free_scal _ _) (free_scal _ _)))) h218
    refine lV 41 (eM (.tuple #[.slice A216 t211.1.length c217, .int .i64 t211.2])) (lV 53 (e_extract (vs := #[.slice A216 t211.1.length c217, .int .i64 t211.2]) (v := .slice A216 t211.1.length c217) (by kernel_rfl) rfl) (lV 54 (e_extract (vs := #[.slice A216 t211.1.length c217, .int .i64 t211.2]) (v := .int .i64 t211.2) (by kernel_rfl) rfl) (lV 10 (eA (.slice A216 t211.1.length c217)) (lV 11 (eA (.int .i64 t211.2)) (wN (then_n (wp_seq ?_)))))))
    refine wR (lV 55 (eM (.int .i64 t211.2)) (lV 56 (eEq .i64 t211.2 0) (wN (then_n ?_))))
    by_cases q230 : t211.2 = 0
    · replace M := ifp q230 M
      refine cT (bT q230) (wR (lV 57 (eM (.slice A216 t211.1.length c217)) (lV 3 (eA (.slice A216 t211.1.length c217)) (wN (inb_n (then_n (wR ?_)))))))
      refine lV 30 (eM (.int .i64 x126) (by exact e138)) (lV 31 (eAdd .i64 x126 1) (lV 7 (eA (.int .i64 (IntKind.i64.wrap (x126 + 1)))) (wN (then_n ?_))))
      have S234 := S227.pulls [(or2 (is g109) no), (or2 (is g100) no), (is g2), F219, F124, F169] [2, 3, 5, 5] rfl
      have S235 := St.first (Fa := [(or2 (is g109) no), (or2 (is g100) no), (is g2), F219]) (Fr := [F124, F169]) S234
      exact ⟨k144, (by omega), _, H226, t211.1, A216, c217, F219, (IntKind.i64.wrap (x126 + 1)), t174.2.b_, A179, c180, t174.2.i_, rfl, (by exact e133), (by kernel_rfl), (by exact e135), (by exact e136), (by exact e137), (by kernel_rfl), h115, h106, b183, h218, (h181.ext E228), l182, (((Y120.trans E159).trans E186).trans E228), S235, M⟩
    replace M := ifn q230 M
    refine cF (bF q230) (wp_skip (inb_n (then_n (wR (lV 30 (eM (.int .i64 x126) (by exact e138)) (lV 31 (eAdd .i64 x126 1) (lV 7 (eA (.int .i64 (IntKind.i64.wrap (x126 + 1)))) ?_)))))))
    refine wN (then_n ?_)
    have S238 := S227.pulls [(or2 (is g109) no), (or2 (is g100) no), (is g2), F124, F169, F219] [3, 5, 5] rfl
    have S239 := St.first (Fa := [(or2 (is g109) no), (or2 (is g100) no), (is g2), F124]) (Fr := [F169, F219]) S238
    exact ⟨k144, (by omega), _, H226, x121, A122, c123, F124, (IntKind.i64.wrap (x126 + 1)), t174.2.b_, A179, c180, t174.2.i_, rfl, (by exact e133), (by exact e134), (by exact e135), (by exact e136), (by exact e137), (by kernel_rfl), h115, h106, b183, h125, (h181.ext E228), l182, (((Y120.trans E159).trans E186).trans E228), S239, M⟩
  replace M := ifn q145 M
  refine cF (bF q145) (wp_exit (then_e (then_e (inb_hit (then_n (wp_seq (wR ?_)))))))
  refine lV 58 (eM (.slice A122 x121.length c123) (by exact e134)) (lV 2 (eA (.slice A122 x121.length c123)) (wN (then_n (wp_ret ?_))))
  obtain rfl := Option.some.inj M
  have S241 := S139.pulls [(is g2), F124, (or2 (is g109) no), (or2 (is g100) no)] [3, 3] rfl
  have S242 := St.first (Fa := [(is g2), F124]) (Fr := [(or2 (is g109) no), (or2 (is g100) no)]) S241
  exact ret1 rfl rfl  (show _ = .slice A122 x121.length c123 from (by kernel_rfl)) ⟨A128, c129, A122, c123, F124, H119, rfl, h130, l131, b30, h125, S242⟩

/-! spec_l4spoilOps -/
def spec_l4spoilOps.l0 : Nat → (List Sy.Op) → (List UInt8) → Int → Option ((List Sy.Op) × GL4rd)
  | 0, _, _, _ => none
  | k322 + 1, x304, x309, x314 => ((spec_l4rd_next_2.f (⟨x309, x314⟩ : GL4rd)).bind fun t323 => (if (x304.length : Int) < (IntKind.i64.wrap (200 + (Int.tmod t323.1 2))) then (if x304.length + 1 ≤ 3518437208883 then (spec_l4spoilOps.l0 k322 (x304 ++ [(⟨[(122 : UInt8), (122 : UInt8), (b8 ((IntKind.i64.wrap (65 + (IntKind.i64.wrap (Int.tdiv (x304.length : Int) 26)))))), (b8 ((IntKind.i64.wrap (65 + (Int.tmod (x304.length : Int) 26)))))], 700, 0⟩ : Sy.Op)]) t323.2.b_ t323.2.i_) else none) else some (x304, t323.2)))
def spec_l4spoilOps.f (k : Nat) (x1 : List Sy.Op) (x6 : GL4rd) : Option ((List Sy.Op) × GL4rd) := ((spec_l4rd_next_2.f x6).bind fun t15 => ((spec_l4rd_next_2.f t15.2).bind fun t28 => (if (x1.length : Int) ≠ 0 then (if (Int.tmod t15.1 8) = 0 then ((spec_l4rd_next_2.f t28.2).bind fun t43 => (if 0 ≤ (Int.tmod t28.1 (x1.length : Int)) then (if (Int.tmod t28.1 (x1.length : Int)) < (x1.length : Int) then some ((x1.set (((Int.tmod t28.1 (x1.length : Int))).toNat) ({(x1.getD (((Int.tmod t28.1 (x1.length : Int))).toNat) z45) with pri := (IntKind.i64.wrap (t43.1 * 8))})), t43.2) else none) else none)) else (if (Int.tmod t15.1 8) = 1 then ((spec_l4rd_next_2.f t28.2).bind fun t76 => (if 0 ≤ (Int.tmod t28.1 (x1.length : Int)) then (if (Int.tmod t28.1 (x1.length : Int)) < (x1.length : Int) then some ((x1.set (((Int.tmod t28.1 (x1.length : Int))).toNat) ({(x1.getD (((Int.tmod t28.1 (x1.length : Int))).toNat) z45) with typ := (IntKind.i64.wrap ((Int.tmod t76.1 9) - 1))})), t76.2) else none) else none)) else (if (Int.tmod t15.1 8) = 2 then (if 0 ≤ (Int.tmod t28.1 (x1.length : Int)) then (if (Int.tmod t28.1 (x1.length : Int)) < (x1.length : Int) then some ((x1.set (((Int.tmod t28.1 (x1.length : Int))).toNat) ({(x1.getD (((Int.tmod t28.1 (x1.length : Int))).toNat) z45) with name := [(124 : UInt8)]})), t28.2) else none) else none) else (if (Int.tmod t15.1 8) = 3 then (if 0 ≤ (Int.tmod t28.1 (x1.length : Int)) then (if (Int.tmod t28.1 (x1.length : Int)) < (x1.length : Int) then some ((x1.set (((Int.tmod t28.1 (x1.length : Int))).toNat) ({(x1.getD (((Int.tmod t28.1 (x1.length : Int))).toNat) z45) with name := []})), t28.2) else none) else none) else (if (Int.tmod t15.1 8) = 4 then (if 0 ≤ (Int.tmod t28.1 (x1.length : Int)) then (if (Int.tmod t28.1 (x1.length : Int)) < (x1.length : Int) then (if x1.length + 1 ≤ 3518437208883 then some ((x1 ++ [(x1.getD (((Int.tmod t28.1 (x1.length : Int))).toNat) z45)]), t28.2) else none) else none) else none) else (if (Int.tmod t15.1 8) = 5 then (if 0 ≤ (Int.tmod t28.1 (x1.length : Int)) then (if (Int.tmod t28.1 (x1.length : Int)) ≤ (x1.length : Int) then (if 0 ≤ (IntKind.i64.wrap ((Int.tmod t28.1 (x1.length : Int)) + 1)) then (if (IntKind.i64.wrap ((Int.tmod t28.1 (x1.length : Int)) + 1)) ≤ (x1.length : Int) then (if (((Int.tmod t28.1 (x1.length : Int)) : Int).toNat) ≤ (((IntKind.i64.wrap ((Int.tmod t28.1 (x1.length : Int)) + 1)) : Int).toNat) then some ((x1.take (((Int.tmod t28.1 (x1.length : Int)) : Int).toNat) ++ x1.drop (((IntKind.i64.wrap ((Int.tmod t28.1 (x1.length : Int)) + 1)) : Int).toNat)), t28.2) else none) else none) else none) else none) else none) else (if (Int.tmod t15.1 8) = 6 then (if 0 ≤ (Int.tmod t28.1 (x1.length : Int)) then (if (Int.tmod t28.1 (x1.length : Int)) < (x1.length : Int) then (if ((x1.getD (((Int.tmod t28.1 (x1.length : Int))).toNat) z45).name).length + 1 ≤ 140737488355328 then some ((x1.set (((Int.tmod t28.1 (x1.length : Int))).toNat) ({(x1.getD (((Int.tmod t28.1 (x1.length : Int))).toNat) z45) with name := (((x1.getD (((Int.tmod t28.1 (x1.length : Int))).toNat) z45).name) ++ [(122 : UInt8)])})), t28.2) else none) else none) else none) else (spec_l4spoilOps.l0 k x1 t28.2.b_ t28.2.i_)))))))) else none)))
theorem spec_l4spoilOps.calls (k : Nat) (w : World) (H : Hp) (x1 : List Sy.Op) (A2 : Option Addr) (c3 : Nat) (F5 : Foot) (x6 : GL4rd) (g7 : Nat) (A10 : Option Addr) (c11 : Nat) (h4 : Row st45 45 H (hp w) F5 A2 c3 x1) (h12 : Rd tByte H A10 x6.b_) (l13 : x6.b_.length ≤ c11) (b9 : w.heap[g7]? = some (.cells #[.slice A10 x6.b_.length c11, .int .i64 x6.i_] 66 (0, 0))) (S : Own [F5, (is g7)] H w) (r : (List Sy.Op) × GL4rd) (M : spec_l4spoilOps.f k x1 x6 = some r) :
    Calls Try.prog 43 #[.slice A2 x1.length c3, .pointer (some ⟨g7, 0, none⟩)] w (fun e e_w => ∃ (A_1 : Option Addr) (c_1 : Nat) (A_2 : Option Addr) (c_2 : Nat) (F_1 : Foot) (H_ : Hp), e = .returned (.slice A_2 r.1.length c_2) ∧ Rd tByte H_ A_1 r.2.b_ ∧ r.2.b_.length ≤ c_1 ∧ e_w.heap[g7]? = some (.cells #[.slice A_1 r.2.b_.length c_1, .int .i64 r.2.i_] 66 (0, 0)) ∧ Row (ro st45) 45 H_ (hp e_w) F_1 A_2 c_2 r.1 ∧ St (anyOf [F5, (is g7)]) H w [(is g7), F_1] H_ e_w) := by
  rw [spec_l4spoilOps.f] at M
  refine enter (l := [.slice A2 x1.length c3, .pointer (some ⟨g7, 0, none⟩)]) 104 Try.func43 rfl rfl rfl ?_
  have S0_ := S.st
  refine wp_seq (wR (lV 4 (eA (.slice none 0 0)) (wN (then_n (wp_seq (wR (lV 8 (eM (.pointer (some ⟨g7, 0, none⟩))) ?_)))))))
  have S14 := S0_.pulls [(is g7), F5] [1] rfl
  obtain ⟨t15, u16, M⟩ := bnd M
  refine lC 9 (eC [.tmp 8] [.pointer (some ⟨g7, 0, none⟩)] Try.func41) (spec_l4rd_next_2.calls w H x6 g7 A10 c11 h12 l13 b9 (St.own' (Fa := [(is g7)]) (Fr := [F5]) S14) t15 u16) ?_
  rintro _ w17 ⟨A20, c21, H18, rfl, h22, l23, b24, T19⟩
  refine ⟨_, rfl, ?_⟩
  obtain ⟨S25, K26⟩ := St.call (Fa := [(is g7)]) (Fr := [F5]) S14 T19
  replace h4 := h4.move (K26.at 0 rfl)
  have E27 := T19.ext
  replace h4 := h4.ext E27
  refine lV 10 (e_rem (k := .i64) (a := t15.1) (b := 8) (by kernel_rfl) rfl (by decide)) (lV 5 (eA (.int .i64 (Int.tmod t15.1 8))) (wN (then_n (wp_seq (wR (lV 11 (eM (.pointer (some ⟨g7, 0, none⟩))) ?_))))))
  obtain ⟨t28, u29, M⟩ := bnd M
  refine lC 12 (eC [.tmp 11] [.pointer (some ⟨g7, 0, none⟩)] Try.func41) (spec_l4rd_next_2.calls w17 H18 t15.2 g7 A20 c21 h22 l23 b24 (St.own' (Fa := [(is g7)]) (Fr := [F5]) S25) t28 u29) ?_
  rintro _ w30 ⟨A33, c34, H31, rfl, h35, l36, b37, T32⟩
  refine ⟨_, rfl, ?_⟩
  obtain ⟨S38, K39⟩ := St.call (Fa := [(is g7)]) (Fr := [F5]) S25 T32
  replace h4 := h4.move (K39.at 0 rfl)
  have E40 := T32.ext
  replace h4 := h4.ext E40
  refine lV 13 (eM (.slice A2 x1.length c3)) (lV 14 (e_len (A := A2) (n := x1.length) (c := c3) Try.underlying25 (by kernel_rfl)) ?_)
  obtain ⟨q41, M⟩ := chk M
  refine lV 15 (e_rem (k := .i64) (a := t28.1) (b := (x1.length : Int)) (by kernel_rfl) (by kernel_rfl) q41) (lV 6 (eA (.int .i64 (Int.tmod t28.1 (x1.length : Int)))) (wN (then_n (wp_seq (wp_seq (wR (lV 16 (eM (.int .i64 (Int.tmod t15.1 8))) ?_)))))))
  refine lV 17 (eEq .i64 (Int.tmod t15.1 8) 0) (wN (then_n ?_))
  by_cases q42 : (Int.tmod t15.1 8) = 0
  · replace M := ifp q42 M
    refine cT (bT q42) (wR (lV 18 (eM (.slice A2 x1.length c3)) (lV 19 (eM (.int .i64 (Int.tmod t28.1 (x1.length : Int)))) (lV 20 (eM (.pointer (some ⟨g7, 0, none⟩))) ?_))))
    obtain ⟨t43, u44, M⟩ := bnd M
    refine lC 21 (eC [.tmp 20] [.pointer (some ⟨g7, 0, none⟩)] Try.func41) (spec_l4rd_next_2.calls w30 H31 t28.2 g7 A33 c34 h35 l36 b37 (St.own' (Fa := [(is g7)]) (Fr := [F5]) S38) t43 u44) ?_
    rintro _ w45 ⟨A48, c49, H46, rfl, h50, l51, b52, T47⟩
    refine ⟨_, rfl, ?_⟩
    obtain ⟨S53, K54⟩ := St.call (Fa := [(is g7)]) (Fr := [F5]) S38 T47
    replace h4 := h4.move (K54.at 0 rfl)
    have E55 := T47.ext
    replace h4 := h4.ext E55
    refine lV 22 (e_mul (k := .i64) (a := t43.1) (b := 8) (by kernel_rfl) rfl) ?_
    obtain ⟨q56, M⟩ := chk M
    obtain ⟨q57, M⟩ := chk M
    obtain ⟨b58, e60⟩ := Row.addr h4 (show ((Int.tmod t28.1 (x1.length : Int))).toNat < x1.length by omega)
    refine lV 23 (eI b58 0 x1.length c3 3 (Int.tmod t28.1 (x1.length : Int)) .i64 Try.underlying25 e60 q56 q57) (lV 24 (eD b58 (0 + ((Int.tmod t28.1 (x1.length : Int)) : Int).toNat * 3) 1 1 Try.underlying45) ?_)
    have S61 := S53.pulls [F5, (is g7)] [1] rfl
    have S62 := S61.unit
    have S63 := S62.pulls [F5, no, (is g7)] [1] rfl
    refine lE (e_setpart (d := st45) (b := b58) (i := ((Int.tmod t28.1 (x1.length : Int))).toNat) (j := 1) (v := .int .i64 (IntKind.i64.wrap (t43.1 * 8))) (vs := [.int .i64 (IntKind.i64.wrap (t43.1 * 8))]) (yv := {(x1.getD (((Int.tmod t28.1 (x1.length : Int))).toNat) z45) with pri := (IntKind.i64.wrap (t43.1 * 8))}) S63 (by kernel_rfl) e60 (by kernel_rfl) rfl (by kernel_rfl) h4 (getD_some z45 (show ((Int.tmod t28.1 (x1.length : Int))).toNat < x1.length by omega)) (Nat.le_of_ble_eq_true rfl) (List.forall_mem_cons.2 ⟨rfl, (fun _ h_ => by cases h_)⟩) (fun _ _ _ o_ => st45_u1 (IntKind.i64.wrap (t43.1 * 8)) o_)) ?_
    rintro w64 ⟨F66, h65, S67, K68⟩
    replace b52 := K68.blk 0 rfl b52
    clear h4
    refine wN (then_n (wp_seq (wR (lV 103 (eM (.slice A2 x1.length c3)) (lV 4 (eA (.slice A2 x1.length c3)) (wN (then_n ?_)))))))
    refine wp_ret ?_
    obtain ⟨H69, F70, S71, E72, h73⟩ := S67.share h65
    obtain rfl := Option.some.inj M
    have S74 := S71.pulls [(is g7), F70] [1] rfl
    exact ret1 rfl rfl  (show _ = .slice A2 x1.length c3 from (by kernel_rfl)) ⟨A48, c49, A2, c3, F70, H69, (by rw [(show (x1.set (((Int.tmod t28.1 (x1.length : Int))).toNat) ({(x1.getD (((Int.tmod t28.1 (x1.length : Int))).toNat) z45) with pri := (IntKind.i64.wrap (t43.1 * 8))})).length = x1.length from (List.length_set.trans rfl))]), (h50.ext E72), l51, b52, h73, S74⟩
  replace M := ifn q42 M
  refine cF (bF q42) (wp_seq (wR (lV 25 (eM (.int .i64 (Int.tmod t15.1 8))) (lV 26 (eEq .i64 (Int.tmod t15.1 8) 1) (wN (then_n ?_))))))
  by_cases q75 : (Int.tmod t15.1 8) = 1
  · replace M := ifp q75 M
    refine cT (bT q75) (wR (lV 27 (eM (.slice A2 x1.length c3)) (lV 28 (eM (.int .i64 (Int.tmod t28.1 (x1.length : Int)))) (lV 29 (eM (.pointer (some ⟨g7, 0, none⟩))) ?_))))
    obtain ⟨t76, u77, M⟩ := bnd M
    refine lC 30 (eC [.tmp 29] [.pointer (some ⟨g7, 0, none⟩)] Try.func41) (spec_l4rd_next_2.calls w30 H31 t28.2 g7 A33 c34 h35 l36 b37 (St.own' (Fa := [(is g7)]) (Fr := [F5]) S38) t76 u77) ?_
    rintro _ w78 ⟨A81, c82, H79, rfl, h83, l84, b85, T80⟩
    refine ⟨_, rfl, ?_⟩
    obtain ⟨S86, K87⟩ := St.call (Fa := [(is g7)]) (Fr := [F5]) S38 T80
    replace h4 := h4.move (K87.at 0 rfl)
    have E88 := T80.ext
    replace h4 := h4.ext E88
    refine lV 31 (e_rem (k := .i64) (a := t76.1) (b := 9) (by kernel_rfl) rfl (by decide)) (lV 32 (e_sub (k := .i64) (a := (Int.tmod t76.1 9)) (b := 1) (by kernel_rfl) rfl) ?_)
    obtain ⟨q89, M⟩ := chk M
    obtain ⟨q90, M⟩ := chk M
    obtain ⟨b91, e93⟩ := Row.addr h4 (show ((Int.tmod t28.1 (x1.length : Int))).toNat < x1.length by omega)
    refine lV 33 (eI b91 0 x1.length c3 3 (Int.tmod t28.1 (x1.length : Int)) .i64 Try.underlying25 e93 q89 q90) (lV 34 (eD b91 (0 + ((Int.tmod t28.1 (x1.length : Int)) : Int).toNat * 3) 2 1 Try.underlying45) ?_)
    have S94 := S86.pulls [F5, (is g7)] [1] rfl
    have S95 := S94.unit
    have S96 := S95.pulls [F5, no, (is g7)] [1] rfl
    refine lE (e_setpart (d := st45) (b := b91) (i := ((Int.tmod t28.1 (x1.length : Int))).toNat) (j := 2) (v := .int .i64 (IntKind.i64.wrap ((Int.tmod t76.1 9) - 1))) (vs := [.int .i64 (IntKind.i64.wrap ((Int.tmod t76.1 9) - 1))]) (yv := {(x1.getD (((Int.tmod t28.1 (x1.length : Int))).toNat) z45) with typ := (IntKind.i64.wrap ((Int.tmod t76.1 9) - 1))}) S96 (by kernel_rfl) e93 (by kernel_rfl) rfl (by kernel_rfl) h4 (getD_some z45 (show ((Int.tmod t28.1 (x1.length : Int))).toNat < x1.length by omega)) (Nat.le_of_ble_eq_true rfl) (List.forall_mem_cons.2 ⟨rfl, (fun _ h_ => by cases h_)⟩) (fun _ _ _ o_ => st45_u2 (IntKind.i64.wrap ((Int.tmod t76.1 9) - 1)) o_)) ?_
    rintro w97 ⟨F99, h98, S100, K101⟩
    replace b85 := K101.blk 0 rfl b85
    clear h4
    refine wN (then_n (wp_seq (wR (lV 103 (eM (.slice A2 x1.length c3)) (lV 4 (eA (.slice A2 x1.length c3)) (wN (then_n ?_)))))))
    refine wp_ret ?_
    obtain ⟨H102, F103, S104, E105, h106⟩ := S100.share h98
    obtain rfl := Option.some.inj M
    have S107 := S104.pulls [(is g7), F103] [1] rfl
    exact ret1 rfl rfl  (show _ = .slice A2 x1.length c3 from (by kernel_rfl)) ⟨A81, c82, A2, c3, F103, H102, (by rw [(show (x1.set (((Int.tmod t28.1 (x1.length : Int))).toNat) ({(x1.getD (((Int.tmod t28.1 (x1.length : Int))).toNat) z45) with typ := (IntKind.i64.wrap ((Int.tmod t76.1 9) - 1))})).length = x1.length from (List.length_set.trans rfl))]), (h83.ext E105), l84, b85, h106, S107⟩
  replace M := ifn q75 M
  refine cF (bF q75) (wp_seq (wR (lV 35 (eM (.int .i64 (Int.tmod t15.1 8))) (lV 36 (eEq .i64 (Int.tmod t15.1 8) 2) (wN (then_n ?_))))))
  by_cases q108 : (Int.tmod t15.1 8) = 2
  · replace M := ifp q108 M
    refine cT (bT q108) (wR (lV 37 (eM (.slice A2 x1.length c3)) (lV 38 (eM (.int .i64 (Int.tmod t28.1 (x1.length : Int)))) ?_)))
    refine lW 39 (new_blk (v := fun g_ => .slice (some ⟨g_, 0, none⟩) 1 1) (cs := #[.int .u8 124]) (t := 5) S38 (by kernel_rfl)) ?_
    rintro _ w109 ⟨g110, rfl, b111, S112, K113⟩
    replace b37 := K113.blk 0 rfl b37
    replace h4 := h4.move (K113.at 1 rfl)
    refine lW 40 (e_conv_lit (g := g110) (n := 1) (cur := #[.int .u8 124]) (xs := [(124 : UInt8)]) S112 b111 Try.underlying32 Try.underlying5 (by kernel_rfl) rfl rfl (by decide)) ?_
    rintro _ w114 ⟨rfl, h115, S116, K117⟩
    replace b37 := K117.blk 0 rfl b37
    replace h4 := h4.move (K117.at 1 rfl)
    clear b111
    obtain ⟨q118, M⟩ := chk M
    obtain ⟨q119, M⟩ := chk M
    obtain ⟨b120, e122⟩ := Row.addr h4 (show ((Int.tmod t28.1 (x1.length : Int))).toNat < x1.length by omega)
    refine lV 41 (eI b120 0 x1.length c3 3 (Int.tmod t28.1 (x1.length : Int)) .i64 Try.underlying25 e122 q118 q119) (lV 42 (eD b120 (0 + ((Int.tmod t28.1 (x1.length : Int)) : Int).toNat * 3) 0 1 Try.underlying45) ?_)
    have S123 := S116.pulls [F5, (is g110), (is g7)] [2] rfl
    refine lE (e_setpart (d := st45) (b := b120) (i := ((Int.tmod t28.1 (x1.length : Int))).toNat) (j := 0) (v := .slice (some ⟨g110, 0, none⟩) 1 1) (vs := [.slice (some ⟨g110, 0, none⟩) 1 1]) (yv := {(x1.getD (((Int.tmod t28.1 (x1.length : Int))).toNat) z45) with name := [(124 : UInt8)]}) S123 (by kernel_rfl) e122 (by kernel_rfl) rfl (by kernel_rfl) h4 (getD_some z45 (show ((Int.tmod t28.1 (x1.length : Int))).toNat < x1.length by omega)) (Nat.le_of_ble_eq_true rfl) (List.forall_mem_cons.2 ⟨rfl, (fun _ h_ => by cases h_)⟩) (fun _ _ _ o_ => st45_u0 h115 o_)) ?_
    rintro w124 ⟨F126, h125, S127, K128⟩
    replace b37 := K128.blk 0 rfl b37
    clear h4
    refine wN (then_n (wp_seq (wR (lV 103 (eM (.slice A2 x1.length c3)) (lV 4 (eA (.slice A2 x1.length c3)) (wN (then_n ?_)))))))
    refine wp_ret ?_
    obtain ⟨H129, F130, S131, E132, h133⟩ := S127.share h125
    obtain rfl := Option.some.inj M
    have S134 := S131.pulls [(is g7), F130] [1] rfl
    exact ret1 rfl rfl  (show _ = .slice A2 x1.length c3 from (by kernel_rfl)) ⟨A33, c34, A2, c3, F130, H129, (by rw [(show (x1.set (((Int.tmod t28.1 (x1.length : Int))).toNat) ({(x1.getD (((Int.tmod t28.1 (x1.length : Int))).toNat) z45) with name := [(124 : UInt8)]})).length = x1.length from (List.length_set.trans rfl))]), (h35.ext E132), l36, b37, h133, S134⟩
  replace M := ifn q108 M
  refine cF (bF q108) (wp_seq (wR (lV 43 (eM (.int .i64 (Int.tmod t15.1 8))) (lV 44 (eEq .i64 (Int.tmod t15.1 8) 3) (wN (then_n ?_))))))
  by_cases q135 : (Int.tmod t15.1 8) = 3
  · replace M := ifp q135 M
    refine cT (bT q135) (wR (lV 45 (eM (.slice A2 x1.length c3)) (lV 46 (eM (.int .i64 (Int.tmod t28.1 (x1.length : Int)))) ?_)))
    obtain ⟨q136, M⟩ := chk M
    obtain ⟨q137, M⟩ := chk M
    obtain ⟨b138, e140⟩ := Row.addr h4 (show ((Int.tmod t28.1 (x1.length : Int))).toNat < x1.length by omega)
    refine lV 47 (eI b138 0 x1.length c3 3 (Int.tmod t28.1 (x1.length : Int)) .i64 Try.underlying25 e140 q136 q137) (lV 48 (eD b138 (0 + ((Int.tmod t28.1 (x1.length : Int)) : Int).toNat * 3) 0 1 Try.underlying45) ?_)
    have S141 := S38.pulls [F5, (is g7)] [1] rfl
    have S142 := S141.unit
    have S143 := S142.pulls [F5, no, (is g7)] [1] rfl
    refine lE (e_setpart (d := st45) (b := b138) (i := ((Int.tmod t28.1 (x1.length : Int))).toNat) (j := 0) (v := .slice none 0 0) (vs := [.slice none 0 0]) (yv := {(x1.getD (((Int.tmod t28.1 (x1.length : Int))).toNat) z45) with name := []}) S143 (by kernel_rfl) e140 rfl rfl (by kernel_rfl) h4 (getD_some z45 (show ((Int.tmod t28.1 (x1.length : Int))).toNat < x1.length by omega)) (Nat.le_of_ble_eq_true rfl) (List.forall_mem_cons.2 ⟨rfl, (fun _ h_ => by cases h_)⟩) (fun _ _ _ o_ => st45_u0 (Row.nil _ _ _ _ no) o_)) ?_
    rintro w144 ⟨F146, h145, S147, K148⟩
    replace b37 := K148.blk 0 rfl b37
    clear h4
    refine wN (then_n (wp_seq (wR (lV 103 (eM (.slice A2 x1.length c3)) (lV 4 (eA (.slice A2 x1.length c3)) (wN (then_n ?_)))))))
    refine wp_ret ?_
    obtain ⟨H149, F150, S151, E152, h153⟩ := S147.share h145
    obtain rfl := Option.some.inj M
    have S154 := S151.pulls [(is g7), F150] [1] rfl
    exact ret1 rfl rfl  (show _ = .slice A2 x1.length c3 from (by kernel_rfl)) ⟨A33, c34, A2, c3, F150, H149, (by rw [(show (x1.set (((Int.tmod t28.1 (x1.length : Int))).toNat) ({(x1.getD (((Int.tmod t28.1 (x1.length : Int))).toNat) z45) with name := []})).length = x1.length from (List.length_set.trans rfl))]), (h35.ext E152), l36, b37, h153, S154⟩
  replace M := ifn q135 M
  refine cF (bF q135) (wp_seq (wR (lV 49 (eM (.int .i64 (Int.tmod t15.1 8))) (lV 50 (eEq .i64 (Int.tmod t15.1 8) 4) (wN (then_n ?_))))))
  by_cases q155 : (Int.tmod t15.1 8) = 4
  · replace M := ifp q155 M
    refine cT (bT q155) (wR (lV 51 (eM (.slice A2 x1.length c3)) (lV 52 (eM (.slice A2 x1.length c3)) (lV 53 (eM (.int .i64 (Int.tmod t28.1 (x1.length : Int)))) ?_))))
    obtain ⟨q156, M⟩ := chk M
    obtain ⟨q157, M⟩ := chk M
    obtain ⟨b158, e160⟩ := Row.addr h4 (show ((Int.tmod t28.1 (x1.length : Int))).toNat < x1.length by omega)
    refine lV 54 (eI b158 0 x1.length c3 3 (Int.tmod t28.1 (x1.length : Int)) .i64 Try.underlying25 e160 q156 q157) ?_
    have S166 := S38.pulls [F5, (is g7)] [1] rfl
    obtain ⟨H167, F168, S169, E170, h171⟩ := S166.share h4
    obtain ⟨y172, F173, r174, s175, k176⟩ := Row.at h171 e160 (getD_some z45 (show ((Int.tmod t28.1 (x1.length : Int))).toNat < x1.length by omega))
    obtain ⟨A177, c178, rfl, l179, h180⟩ := st45_open r174
    refine lV 55 (e_loadS (b := b158) (off := 0 + ((Int.tmod t28.1 (x1.length : Int)) : Int).toNat * 3) (cs := [.slice A177 ((x1.getD (((Int.tmod t28.1 (x1.length : Int))).toNat) z45).name).length c178, .int .i64 ((x1.getD (((Int.tmod t28.1 (x1.length : Int))).toNat) z45).pri), .int .i64 ((x1.getD (((Int.tmod t28.1 (x1.length : Int))).toNat) z45).typ)]) Try.underlying45 rfl (by kernel_rfl) (by kernel_rfl) (fun j_ u_ e_ => (hpx (k176 j_ u_ e_)))) ?_
    refine lW 56 (new_blk (v := fun g_ => .slice (some ⟨g_, 0, none⟩) 1 1) (cs := #[.slice A177 ((x1.getD (((Int.tmod t28.1 (x1.length : Int))).toNat) z45).name).length c178, .int .i64 ((x1.getD (((Int.tmod t28.1 (x1.length : Int))).toNat) z45).pri), .int .i64 ((x1.getD (((Int.tmod t28.1 (x1.length : Int))).toNat) z45).typ)]) (t := 45) S169 (by kernel_rfl)) ?_
    rintro _ w181 ⟨g182, rfl, b183, S184, K185⟩
    replace h171 := h171.move (K185.at 0 rfl)
    replace b37 := K185.blk 1 rfl b37
    obtain ⟨q186, M⟩ := chk M
    have S187 := S184.pulls [F168, (is g182), (is g7)] [1] rfl
    have S188 := S187.unit
    have S189 := S188.pulls [F168, no, (is g182), (is g7)] [1] rfl
    refine lW 57 (e_append (d := (ro st45)) (n := x1.length) (xs := x1) (cap := c3) (A := A2) (ys := [(x1.getD (((Int.tmod t28.1 (x1.length : Int))).toNat) z45)]) (A2 := (some ⟨g182, 0, none⟩)) (c2 := 1) (z := .agg #[.slice none 0 0, .int .i64 0, .int .i64 0]) (bytes := 40) S189 Try.underlying25 (by kernel_rfl) rfl (by decide) (by kernel_rfl) rfl (by kernel_rfl) h171 (elsO_one1 (st45_mkR (x := (x1.getD (((Int.tmod t28.1 (x1.length : Int))).toNat) z45)) l179 h180)) (.inr (blk_news b183 rfl)) (show (x1.length + [(x1.getD (((Int.tmod t28.1 (x1.length : Int))).toNat) z45)].length) * 40 ≤ _ by first | omega | (simp only [List.length_cons, List.length_nil]; omega)) (by decide)) ?_
    rintro _ w190 ⟨A191, c192, F193, rfl, h194, S195, K196⟩
    replace b37 := K196.blk 1 rfl b37
    refine lV 0 (eA (.slice A191 ((x1 ++ [(x1.getD (((Int.tmod t28.1 (x1.length : Int))).toNat) z45)]).length) c192)) (wN (then_n (wp_seq (wR (lV 103 (eM (.slice A191 ((x1 ++ [(x1.getD (((Int.tmod t28.1 (x1.length : Int))).toNat) z45)]).length) c192)) (lV 4 (eA (.slice A191 ((x1 ++ [(x1.getD (((Int.tmod t28.1 (x1.length : Int))).toNat) z45)]).length) c192)) (wN ?_)))))))
    refine then_n (wp_ret ?_)
    obtain rfl := Option.some.inj M
    have S197 := S195.pulls [(is g7), F193, (is g182)] [2] rfl
    have S198 := St.first (Fa := [(is g7), F193]) (Fr := [(is g182)]) S197
    exact ret1 rfl rfl  (show _ = .slice A191 ((x1 ++ [(x1.getD (((Int.tmod t28.1 (x1.length : Int))).toNat) z45)]).length) c192 from (by kernel_rfl)) ⟨A33, c34, A191, c192, F193, H167, rfl, (h35.ext E170), l36, b37, h194, S198⟩
  replace M := ifn q155 M
  refine cF (bF q155) (wp_seq (wR (lV 58 (eM (.int .i64 (Int.tmod t15.1 8))) (lV 59 (eEq .i64 (Int.tmod t15.1 8) 5) (wN (then_n ?_))))))
  by_cases q199 : (Int.tmod t15.1 8) = 5
  · replace M := ifp q199 M
    refine cT (bT q199) (wp_seq ?_)
    refine region_mix (S := (fun (L_ : Array Bool) (w_ : World) => Ext H31 (hp w_) ∧ True)) (by kernel_rfl) S38 ?_
    intro w200 S201 K202 hc203
    have hs204 : (fun (L_ : Array Bool) (w_ : World) => Ext H31 (hp w_) ∧ True) (Array.replicate 9 false) w200 := ⟨S201.inv, trivial⟩
    replace b37 := K202.blk 0 rfl b37
    replace h4 := h4.move (K202.at 1 rfl)
    refine xV 0 60 rfl hc203 hs204 (fun L_ w_ hc_ hu_ hs_ => eM (.slice A2 x1.length c3)) ?_; intro hc205 hs206
    refine xV 1 61 rfl hc205 hs206 (fun L_ w_ hc_ hu_ hs_ => eM (.int .i64 (Int.tmod t28.1 (x1.length : Int)))) ?_; intro hc207 hs208
    obtain ⟨q209, M⟩ := chk M
    obtain ⟨q210, M⟩ := chk M
    refine xV 2 62 rfl hc207 hs208 (fun L_ w_ hc_ hu_ hs_ => e_slice_h (xs := x1) (n := x1.length) (m := 3) (cap := c3) (A := A2) (b := (Int.tmod t28.1 (x1.length : Int))) (k2 := .i64) Try.underlying25 (by kernel_rfl) (by kernel_rfl) (by kernel_rfl) q209 q210 h4.le (take_len q209 q210 rfl)) ?_; intro hc211 hs212
    refine xV 3 63 rfl hc211 hs212 (fun L_ w_ hc_ hu_ hs_ => eM (.slice A2 x1.length c3)) ?_; intro hc213 hs214
    refine xO 4 hc213 ?_
    refine yO 4 64 rfl hs214 (eM (.int .i64 (Int.tmod t28.1 (x1.length : Int)))) ?_; intro hc215 hs216
    refine xO 5 hc215 ?_
    refine yO 5 65 rfl hs216 (eAdd .i64 (Int.tmod t28.1 (x1.length : Int)) 1) ?_; intro hc217 hs218
    obtain ⟨q219, M⟩ := chk M
    obtain ⟨q220, M⟩ := chk M
    refine xO 6 hc217 ?_
    refine yO 6 66 rfl hs218 (e_slice_l (n := x1.length) (m := 3) (cap := c3) (A := A2) (a := (IntKind.i64.wrap ((Int.tmod t28.1 (x1.length : Int)) + 1))) (k := .i64) (v := sliced A2 (((IntKind.i64.wrap ((Int.tmod t28.1 (x1.length : Int)) + 1)) : Int).toNat) x1.length c3 3) Try.underlying25 (by kernel_rfl) (by kernel_rfl) (by kernel_rfl) q219 q220 h4.le rfl) ?_; intro hc221 hs222
    obtain ⟨q223, M⟩ := chk M
    have S224 := S201.pulls [F5, (is g7)] [1] rfl
    refine xO 7 hc221 ?_
    refine yE 7 67 rfl (e_erase (d := st45) (i := (((Int.tmod t28.1 (x1.length : Int)) : Int).toNat)) (lo := (((IntKind.i64.wrap ((Int.tmod t28.1 (x1.length : Int)) + 1)) : Int).toNat)) (n := x1.length) S224 Try.underlying25 (by kernel_rfl) (by kernel_rfl) (by kernel_rfl) rfl q223 (by have := q219; have := q220; omega) h4) ?_
    rintro hc229 _ w225 ⟨rfl, h226, S227, K228⟩
    replace b37 := K228.blk 0 rfl b37
    refine ⟨⟨S227.inv, trivial⟩, fun hs230 => ?_⟩
    refine xO 8 hc229 ?_
    refine yO 8 4 rfl hs230 (eA (.slice A2 ((x1.take (((Int.tmod t28.1 (x1.length : Int)) : Int).toNat) ++ x1.drop (((IntKind.i64.wrap ((Int.tmod t28.1 (x1.length : Int)) + 1)) : Int).toNat)).length) c3)) ?_; intro hc231 hs232
    refine xn (by kernel_rfl) ?_ _
    refine then_n (wp_ret (then_r ?_))
    obtain ⟨H233, F234, S235, E236, h237⟩ := S227.share h226
    obtain rfl := Option.some.inj M
    have S238 := S235.pulls [(is g7), F234] [1] rfl
    exact ret1 rfl rfl  (show _ = .slice A2 ((x1.take (((Int.tmod t28.1 (x1.length : Int)) : Int).toNat) ++ x1.drop (((IntKind.i64.wrap ((Int.tmod t28.1 (x1.length : Int)) + 1)) : Int).toNat)).length) c3 from (by kernel_rfl)) ⟨A33, c34, A2, c3, F234, H233, rfl, (h35.ext E236), l36, b37, h237, S238⟩
  replace M := ifn q199 M
  refine cF (bF q199) (wp_seq (wR (lV 68 (eM (.int .i64 (Int.tmod t15.1 8))) (lV 69 (eEq .i64 (Int.tmod t15.1 8) 6) (wN (then_n ?_))))))
  by_cases q239 : (Int.tmod t15.1 8) = 6
  · replace M := ifp q239 M
    refine cT (bT q239) (wR (lV 70 (eM (.slice A2 x1.length c3)) (lV 71 (eM (.int .i64 (Int.tmod t28.1 (x1.length : Int)))) (lV 72 (eM (.slice A2 x1.length c3)) (lV 73 (eM (.int .i64 (Int.tmod t28.1 (x1.length : Int)))) ?_)))))
    obtain ⟨q240, M⟩ := chk M
    obtain ⟨q241, M⟩ := chk M
    obtain ⟨b242, e244⟩ := Row.addr h4 (show ((Int.tmod t28.1 (x1.length : Int))).toNat < x1.length by omega)
    refine lV 74 (eI b242 0 x1.length c3 3 (Int.tmod t28.1 (x1.length : Int)) .i64 Try.underlying25 e244 q240 q241) (lV 75 (eD b242 (0 + ((Int.tmod t28.1 (x1.length : Int)) : Int).toNat * 3) 0 1 Try.underlying45) ?_)
    obtain ⟨y250, F251, G252, r253, d254, s255, k256, t257⟩ := Row.lend2 h4 e244 (getD_some z45 (show ((Int.tmod t28.1 (x1.length : Int))).toNat < x1.length by omega))
    obtain ⟨A258, c259, F262, rfl, h260, s261⟩ := st45_openO r253
    have S263 := S38.pulls [F5, (is g7)] [1] rfl
    have S264 := S263.part d254 s255
    have S265 := S264.sub s261
    have q266 : ∀ b_, G252 b_ → hp w30 b_ = hp w30 b_ := fun _ _ => rfl
    refine lV 76 (eL ⟨b242, 0 + ((Int.tmod t28.1 (x1.length : Int)) : Int).toNat * 3 + 0, none⟩ (.slice A258 ((x1.getD (((Int.tmod t28.1 (x1.length : Int))).toNat) z45).name).length c259) Try.underlying32 (hpx (k256 0 _ rfl))) ?_
    refine lW 77 (new_blk (v := fun g_ => .slice (some ⟨g_, 0, none⟩) 1 1) (cs := #[.int .u8 122]) (t := 5) S265 (by kernel_rfl)) ?_
    rintro _ w267 ⟨g268, rfl, b269, S270, K271⟩
    replace h260 := h260.move (K271.at 0 rfl)
    replace q266 := fun b_ h_ => (K271.at 1 rfl b_ h_).trans (q266 b_ h_)
    replace b37 := K271.blk 2 rfl b37
    obtain ⟨q272, M⟩ := chk M
    have S273 := S270.pulls [F262, (is g268), G252, (is g7)] [1] rfl
    have S274 := S273.unit
    have S275 := S274.pulls [F262, no, (is g268), G252, (is g7)] [1] rfl
    refine lW 78 (e_append (d := tByte) (n := ((x1.getD (((Int.tmod t28.1 (x1.length : Int))).toNat) z45).name).length) (xs := (x1.getD (((Int.tmod t28.1 (x1.length : Int))).toNat) z45).name) (cap := c259) (A := A258) (ys := [(122 : UInt8)]) (A2 := (some ⟨g268, 0, none⟩)) (c2 := 1) (z := .int .u8 0) (bytes := 1) S275 Try.underlying32 (by kernel_rfl) rfl (by decide) (by kernel_rfl) rfl (by kernel_rfl) h260 (elsO_one1 rfl) (.inr (blk_news b269 rfl)) (show (((x1.getD (((Int.tmod t28.1 (x1.length : Int))).toNat) z45).name).length + [(122 : UInt8)].length) * 1 ≤ _ by first | omega | (simp only [List.length_cons, List.length_nil]; omega)) (by decide)) ?_
    rintro _ w276 ⟨A277, c278, F279, rfl, h280, S281, K282⟩
    replace q266 := fun b_ h_ => (K282.at 1 rfl b_ h_).trans (q266 b_ h_)
    replace b37 := K282.blk 2 rfl b37
    obtain ⟨b283, e285⟩ := Row.addr h4 (show ((Int.tmod t28.1 (x1.length : Int))).toNat < x1.length by omega)
    refine lV 79 (eI b283 0 x1.length c3 3 (Int.tmod t28.1 (x1.length : Int)) .i64 Try.underlying25 e285 q240 q241) (lV 80 (eD b283 (0 + ((Int.tmod t28.1 (x1.length : Int)) : Int).toNat * 3) 0 1 Try.underlying45) ?_)
    have S287 := S281.pulls [F279, G252, (is g268), (is g7)] [2, 1] rfl
    refine lE (e_sethole (d := st45) (b := b242) (b' := b283) (i := ((Int.tmod t28.1 (x1.length : Int))).toNat) (j := 0) (v := .slice A277 ((((x1.getD (((Int.tmod t28.1 (x1.length : Int))).toNat) z45).name) ++ [(122 : UInt8)]).length) c278) (vs := [.slice A277 ((((x1.getD (((Int.tmod t28.1 (x1.length : Int))).toNat) z45).name) ++ [(122 : UInt8)]).length) c278]) (yv := {(x1.getD (((Int.tmod t28.1 (x1.length : Int))).toNat) z45) with name := (((x1.getD (((Int.tmod t28.1 (x1.length : Int))).toNat) z45).name) ++ [(122 : UInt8)])}) S287 (by kernel_rfl) e244 e285 (by kernel_rfl) rfl (by kernel_rfl) q266 (Ext.refl _) t257 (Nat.le_of_ble_eq_true rfl) (List.forall_mem_cons.2 ⟨rfl, (fun _ h_ => by cases h_)⟩) (by have q_ := st45_mkO (x := {(x1.getD (((Int.tmod t28.1 (x1.length : Int))).toNat) z45) with name := (((x1.getD (((Int.tmod t28.1 (x1.length : Int))).toNat) z45).name) ++ [(122 : UInt8)])}) h280; rw [show (((x1.getD (((Int.tmod t28.1 (x1.length : Int))).toNat) z45).name) ++ [(122 : UInt8)]).length = (((x1.getD (((Int.tmod t28.1 (x1.length : Int))).toNat) z45).name) ++ [(122 : UInt8)]).length from rfl] at q_; exact q_)) ?_
    rintro w288 ⟨F290, h289, S291, K292⟩
    replace b37 := K292.blk 1 rfl b37
    refine wN (then_n (wp_seq (wR (lV 103 (eM (.slice A2 x1.length c3)) (lV 4 (eA (.slice A2 x1.length c3)) (wN (then_n ?_)))))))
    refine wp_ret ?_
    obtain ⟨H293, F294, S295, E296, h297⟩ := S291.share h289
    obtain rfl := Option.some.inj M
    have S298 := S295.pulls [(is g7), F294, (is g268)] [2] rfl
    have S299 := St.first (Fa := [(is g7), F294]) (Fr := [(is g268)]) S298
    exact ret1 rfl rfl  (show _ = .slice A2 x1.length c3 from (by kernel_rfl)) ⟨A33, c34, A2, c3, F294, H293, (by rw [(show (x1.set (((Int.tmod t28.1 (x1.length : Int))).toNat) ({(x1.getD (((Int.tmod t28.1 (x1.length : Int))).toNat) z45) with name := (((x1.getD (((Int.tmod t28.1 (x1.length : Int))).toNat) z45).name) ++ [(122 : UInt8)])})).length = x1.length from (List.length_set.trans rfl))]), (h35.ext E296), l36, b37, h297, S299⟩
  replace M := ifn q239 M
  refine cF (bF q239) (wp_block ?_)
  refine wp_loop_g (fun k320 a321 w300 => ∃ (f301 : Nat → Value) (H302 : Hp) (x304 : List Sy.Op) (A305 : Option Addr) (c306 : Nat) (F307 : Foot) (x309 : List UInt8) (A310 : Option Addr) (c311 : Nat) (x314 : Int), a321 = mk 104 f301 ∧ f301 0 = .slice A305 x304.length c306 ∧ f301 1 = .pointer (some ⟨g7, 0, none⟩) ∧ w300.heap[g7]? = some (.cells #[.slice A310 x309.length c311, .int .i64 x314] 66 (0, 0)) ∧ Row st45 45 H302 (hp w300) F307 A305 c306 x304 ∧ Rd tByte H302 A310 x309 ∧ x309.length ≤ c311 ∧ Ext H31 H302 ∧ St (anyOf [F5, (is g7)]) H w [(is g7), F307] H302 w300 ∧ spec_l4spoilOps.l0 k320 x304 x309 x314 = some r) k ⟨_, H31, x1, A2, c3, F5, t28.2.b_, A33, c34, t28.2.i_, rfl, (by kernel_rfl), (by kernel_rfl), b37, h4, h35, l36, (Ext.refl _), S38, M⟩ ?_
  clear M
  rintro k320 a321 w300 ⟨f301, H302, x304, A305, c306, F307, x309, A310, c311, x314, rfl, e315, e316, b37, h308, h312, l313, Y303, S317, M⟩
  rcases k320 with _ | k322
  · rw [spec_l4spoilOps.l0] at M
    cases M
  rw [spec_l4spoilOps.l0] at M
  refine wp_seq (wp_seq (wR (lV 81 (eM (.slice A305 x304.length c306) (by exact e315)) (lV 82 (e_len (A := A305) (n := x304.length) (c := c306) Try.underlying25 (by kernel_rfl)) (lV 83 (eM (.pointer (some ⟨g7, 0, none⟩)) (by exact e316)) ?_)))))
  obtain ⟨t323, u324, M⟩ := bnd M
  refine lC 84 (eC [.tmp 83] [.pointer (some ⟨g7, 0, none⟩)] Try.func41) (spec_l4rd_next_2.calls w300 H302 (⟨x309, x314⟩ : GL4rd) g7 A310 c311 h312 l313 b37 (St.own' (Fa := [(is g7)]) (Fr := [F307]) S317) t323 u324) ?_
  rintro _ w325 ⟨A328, c329, H326, rfl, h330, l331, b332, T327⟩
  refine ⟨_, rfl, ?_⟩
  obtain ⟨S333, K334⟩ := St.call (Fa := [(is g7)]) (Fr := [F307]) S317 T327
  replace h308 := h308.move (K334.at 0 rfl)
  have E335 := T327.ext
  replace h308 := h308.ext E335
  refine lV 85 (e_rem (k := .i64) (a := t323.1) (b := 2) (by kernel_rfl) rfl (by decide)) (lV 86 (eAdd .i64 200 (Int.tmod t323.1 2)) (lV 87 (eLt .i64 (x304.length : Int) (IntKind.i64.wrap (200 + (Int.tmod t323.1 2)))) (wN (then_n ?_))))
  by_cases q336 : (x304.length : Int) < (IntKind.i64.wrap (200 + (Int.tmod t323.1 2)))
  · replace M := ifp q336 M
    refine cT (bT q336) (wp_skip (then_n (wp_block (wp_seq (wR (lV 88 (eM (.slice A305 x304.length c306) (by exact e315)) (lV 89 (e_len (A := A305) (n := x304.length) (c := c306) Try.underlying25 (by kernel_rfl)) ?_)))))))
    refine lV 7 (eA (.int .i64 (x304.length : Int))) (wN (then_n (wR (lV 90 (eM (.slice A305 x304.length c306) (by exact e315)) (lV 91 (eM (.int .i64 (x304.length : Int))) (lV 92 (e_quo (k := .i64) (a := (x304.length : Int)) (b := 26) (by kernel_rfl) rfl (by decide)) (lV 93 (eAdd .i64 65 (IntKind.i64.wrap (Int.tdiv (x304.length : Int) 26))) ?_)))))))
    refine lV 94 (e_conv_i8 (k := .i64) (a := (IntKind.i64.wrap (65 + (IntKind.i64.wrap (Int.tdiv (x304.length : Int) 26))))) (by kernel_rfl) Try.underlying5 (by kernel_rfl)) (lV 95 (eM (.int .i64 (x304.length : Int))) (lV 96 (e_rem (k := .i64) (a := (x304.length : Int)) (b := 26) (by kernel_rfl) rfl (by decide)) (lV 97 (eAdd .i64 65 (Int.tmod (x304.length : Int) 26)) (lV 98 (e_conv_i8 (k := .i64) (a := (IntKind.i64.wrap (65 + (Int.tmod (x304.length : Int) 26)))) (by kernel_rfl) Try.underlying5 (by kernel_rfl)) ?_))))
    refine lW 99 (new_blk (v := fun g_ => .slice (some ⟨g_, 0, none⟩) 4 4) (cs := #[.int .u8 122, .int .u8 122, .int .u8 ((b8 ((IntKind.i64.wrap (65 + (IntKind.i64.wrap (Int.tdiv (x304.length : Int) 26)))))).toNat : Int), .int .u8 ((b8 ((IntKind.i64.wrap (65 + (Int.tmod (x304.length : Int) 26))))).toNat : Int)]) (t := 5) S333 (by kernel_rfl)) ?_
    rintro _ w337 ⟨g338, rfl, b339, S340, K341⟩
    replace b332 := K341.blk 0 rfl b332
    replace h308 := h308.move (K341.at 1 rfl)
    have S342 := S340.unit
    have S343 := S342.pulls [(is g338), no, (is g7), F307] [1] rfl
    obtain ⟨h344, S345⟩ := row_lit (d := tByte) (xs := [(122 : UInt8), (122 : UInt8), (b8 ((IntKind.i64.wrap (65 + (IntKind.i64.wrap (Int.tdiv (x304.length : Int) 26)))))), (b8 ((IntKind.i64.wrap (65 + (Int.tmod (x304.length : Int) 26)))))]) S343 b339 rfl (elsO_no (d := tByte) rfl (elsO_no (d := tByte) rfl (elsO_no (d := tByte) rfl (elsO_no (d := tByte) rfl (elsO_nil _ _ _ no))))) (Nat.le_of_ble_eq_true rfl)
    refine lV 100 (show _ = Result.ok (Next.value (.agg #[.slice (some ⟨g338, 0, none⟩) 4 4, .int .i64 700, .int .i64 0])) w337 from by kernel_rfl) ?_
    refine lW 101 (new_blk (v := fun g_ => .slice (some ⟨g_, 0, none⟩) 1 1) (cs := #[.slice (some ⟨g338, 0, none⟩) 4 4, .int .i64 700, .int .i64 0]) (t := 45) S345 (by kernel_rfl)) ?_
    rintro _ w346 ⟨g347, rfl, b348, S349, K350⟩
    replace h344 := h344.move (K350.at 0 rfl)
    replace b332 := K350.blk 1 rfl b332
    replace h308 := h308.move (K350.at 2 rfl)
    obtain ⟨q351, M⟩ := chk M
    have S353 := S349.pulls [F307, (or2 (is g338) no), (is g347), (is g7)] [1, 3] rfl
    refine lW 102 (e_append (d := st45) (n := x304.length) (xs := x304) (cap := c306) (A := A305) (ys := [(⟨[(122 : UInt8), (122 : UInt8), (b8 ((IntKind.i64.wrap (65 + (IntKind.i64.wrap (Int.tdiv (x304.length : Int) 26)))))), (b8 ((IntKind.i64.wrap (65 + (Int.tmod (x304.length : Int) 26)))))], 700, 0⟩ : Sy.Op)]) (A2 := (some ⟨g347, 0, none⟩)) (c2 := 1) (z := .agg #[.slice none 0 0, .int .i64 0, .int .i64 0]) (bytes := 40) S353 Try.underlying25 (by kernel_rfl) rfl (by decide) (by kernel_rfl) rfl (by kernel_rfl) h308 (elsO_one1 (st45_mkO (x := (⟨[(122 : UInt8), (122 : UInt8), (b8 ((IntKind.i64.wrap (65 + (IntKind.i64.wrap (Int.tdiv (x304.length : Int) 26)))))), (b8 ((IntKind.i64.wrap (65 + (Int.tmod (x304.length : Int) 26)))))], 700, 0⟩ : Sy.Op)) h344)) (.inr (blk_news b348 rfl)) (show (x304.length + [(⟨[(122 : UInt8), (122 : UInt8), (b8 ((IntKind.i64.wrap (65 + (IntKind.i64.wrap (Int.tdiv (x304.length : Int) 26)))))), (b8 ((IntKind.i64.wrap (65 + (Int.tmod (x304.length : Int) 26)))))], 700, 0⟩ : Sy.Op)].length) * 40 ≤ _ by first | omega | (simp only [List.length_cons, List.length_nil]; omega)) (by decide)) ?_
    rintro _ w354 ⟨A355, c356, F357, rfl, h358, S359, K360⟩
    replace b332 := K360.blk 1 rfl b332
    refine lV 0 (eA (.slice A355 ((x304 ++ [(⟨[(122 : UInt8), (122 : UInt8), (b8 ((IntKind.i64.wrap (65 + (IntKind.i64.wrap (Int.tdiv (x304.length : Int) 26)))))), (b8 ((IntKind.i64.wrap (65 + (Int.tmod (x304.length : Int) 26)))))], 700, 0⟩ : Sy.Op)]).length) c356)) (wN (inb_n (then_n ?_)))
    have S361 := S359.pulls [(is g7), F357, (is g347)] [2] rfl
    have S362 := St.first (Fa := [(is g7), F357]) (Fr := [(is g347)]) S361
    exact ⟨k322, (by omega), _, H326, (x304 ++ [(⟨[(122 : UInt8), (122 : UInt8), (b8 ((IntKind.i64.wrap (65 + (IntKind.i64.wrap (Int.tdiv (x304.length : Int) 26)))))), (b8 ((IntKind.i64.wrap (65 + (Int.tmod (x304.length : Int) 26)))))], 700, 0⟩ : Sy.Op)]), A355, c356, F357, t323.2.b_, A328, c329, t323.2.i_, rfl, (by kernel_rfl), (by exact e316), b332, h358, h330, l331, (Y303.trans E335), S362, M⟩
  replace M := ifn q336 M
  refine cF (bF q336) (wp_exit (then_e (then_e (inb_hit (then_n (wp_seq (wR ?_)))))))
  refine lV 103 (eM (.slice A305 x304.length c306) (by exact e315)) (lV 4 (eA (.slice A305 x304.length c306)) (wN (then_n (wp_ret ?_))))
  have S363 := S333.pulls [F307, (is g7)] [1] rfl
  obtain ⟨H364, F365, S366, E367, h368⟩ := S363.share h308
  obtain rfl := Option.some.inj M
  have S369 := S366.pulls [(is g7), F365] [1] rfl
  exact ret1 rfl rfl  (show _ = .slice A305 x304.length c306 from (by kernel_rfl)) ⟨A328, c329, A305, c306, F365, H364, rfl, (h330.ext E367), l331, b332, h368, S369⟩
end Go.Proofs.Ytminnekeekhjcaa
