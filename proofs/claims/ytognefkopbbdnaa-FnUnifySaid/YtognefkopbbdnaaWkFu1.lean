import Derived.Test.YtognefkopbbdnaaProg
import Derived.Test.YtognefkopbbdnaaY20
namespace Go.Proofs.Ytognefkopbbdnaa
open Go.Sx Go.Sy IntKind Try
attribute [local irreducible] Go.wpList Go.wpStill Go.wpQuiet Go.Code.wp
set_option maxRecDepth 100000
set_option maxHeartbeats 1000000
set_option linter.unusedVariables false
set_option linter.unusedSimpArgs false

/-! spec_l4open -/
structure GL4rd where
  b_ : List UInt8
  i_ : Int
  deriving Inhabited
def spec_l4open.f (x1 : List UInt8) : Option GL4rd := (if (x1.length : Int) > 500 then (if 500 ≤ (x1.length : Int) then some (⟨(x1.take ((500 : Int).toNat)), 0⟩ : GL4rd) else none) else (if 0 ≤ (x1.length : Int) then (if (x1.length : Int) ≤ (x1.length : Int) then some (⟨(x1.take (((x1.length : Int) : Int).toNat)), 0⟩ : GL4rd) else none) else none))
theorem spec_l4open.calls (w : World) (H : Hp) (x1 : List UInt8) (A2 : Option Addr) (c3 : Nat) (h4 : Rd tByte H A2 x1) (l5 : x1.length ≤ c3) (S : Own [] H w) (r : GL4rd) (M : spec_l4open.f x1 = some r) :
    Calls Try.prog 95 #[.slice A2 x1.length c3] w (fun e e_w => ∃ (g_1 : Nat) (A_1 : Option Addr) (c_1 : Nat) (H_ : Hp), e = .returned (.pointer (some ⟨g_1, 0, none⟩)) ∧ Rd tByte H_ A_1 r.b_ ∧ r.b_.length ≤ c_1 ∧ e_w.heap[g_1]? = some (.cells #[.slice A_1 r.b_.length c_1, .int .i64 r.i_] 150 (0, 0)) ∧ St (anyOf []) H w [(is g_1)] H_ e_w) := by
  rw [spec_l4open.f] at M
  refine enter (l := [.slice A2 x1.length c3]) 13 func95 rfl rfl rfl ?_
  have S0_ := S.st
  refine wQ (wR (lV 2 (eA (.pointer none)) (wN (tN (wQ (wR (lV 4 (eM (.slice A2 x1.length c3)) (lV 5 (e_len (A := A2) (n := x1.length) (c := c3) underlying59 kr) (lV 3 (eA (.int .i64 (x1.length : Int))) (wN (tN (wQ (wQ (wR (lV 6 (eM (.int .i64 (x1.length : Int))) (lV 7 (e_gtr (k := .i64) (a := (x1.length : Int)) (b := 500) kr rfl) (wN (tN ?_))))))))))))))))))
  by_cases q6 : (x1.length : Int) > 500
  · replace M := ifp q6 M
    refine cT (bT q6) (wR (lV 3 (eA (.int .i64 500)) (wN (tN (wQ (wR (lV 8 (eM (.slice A2 x1.length c3)) (lV 9 (eM (.int .i64 500)) ?_))))))))
    obtain ⟨q7, M⟩ := chk M
    refine lV 10 (e_slice_h (xs := x1) (n := x1.length) (m := 1) (cap := c3) (A := A2) (b := 500) (k2 := .i64) underlying59 kr kr kr (by decide) q7 (by have := l5; have := (rfl : x1.length = x1.length); omega) (take_len (by decide) q7 rfl)) ?_
    have h8 := Rd.take (n := (500 : Int).toNat) h4
    have l9 : (x1.take ((500 : Int).toNat)).length ≤ c3 := by rw [List.length_take]; have := l5; omega
    refine lV 11 (show _ = Result.ok (Next.value (.agg #[.slice A2 (x1.take ((500 : Int).toNat)).length c3, .int .i64 0])) w from by kernel_rfl) ?_
    refine lW 12 (nB #[.slice A2 (x1.take ((500 : Int).toNat)).length c3, .int .i64 0] 150 S0_) ?_
    rintro _ w10 ⟨g11, rfl, b12, S13, K14⟩
    refine lV 2 (eA (.pointer (some ⟨g11, 0, none⟩))) (wN (tN (wT ?_)))
    obtain rfl := sj M
    exact ret1 rfl rfl  (show _ = .pointer (some ⟨g11, 0, none⟩) from kr) ⟨g11, A2, c3, H, rfl, h8, l9, b12, S13⟩
  replace M := ifn q6 M
  refine cF (bF q6) (wK (tN (wQ (wR (lV 8 (eM (.slice A2 x1.length c3)) (lV 9 (eM (.int .i64 (x1.length : Int))) ?_))))))
  obtain ⟨q15, M⟩ := chk M
  obtain ⟨q16, M⟩ := chk M
  refine lV 10 (e_slice_h (xs := x1) (n := x1.length) (m := 1) (cap := c3) (A := A2) (b := (x1.length : Int)) (k2 := .i64) underlying59 kr kr kr q15 q16 (by have := l5; have := (rfl : x1.length = x1.length); omega) (take_len q15 q16 rfl)) ?_
  have h17 := Rd.take (n := ((x1.length : Int) : Int).toNat) h4
  have l18 : (x1.take (((x1.length : Int) : Int).toNat)).length ≤ c3 := by rw [List.length_take]; have := l5; omega
  refine lV 11 (show _ = Result.ok (Next.value (.agg #[.slice A2 (x1.take (((x1.length : Int) : Int).toNat)).length c3, .int .i64 0])) w from by kernel_rfl) ?_
  refine lW 12 (nB #[.slice A2 (x1.take (((x1.length : Int) : Int).toNat)).length c3, .int .i64 0] 150 S0_) ?_
  rintro _ w19 ⟨g20, rfl, b21, S22, K23⟩
  refine lV 2 (eA (.pointer (some ⟨g20, 0, none⟩))) (wN (tN (wT ?_)))
  obtain rfl := sj M
  exact ret1 rfl rfl  (show _ = .pointer (some ⟨g20, 0, none⟩) from kr) ⟨g20, A2, c3, H, rfl, h17, l18, b21, S22⟩

/-! spec_l4rd_next -/
def spec_l4rd_next_2.f (x1 : GL4rd) : Option (Int × GL4rd) := (if x1.i_ ≥ (x1.b_.length : Int) then some (0, x1) else (if 0 ≤ x1.i_ then (if x1.i_ < (x1.b_.length : Int) then some (((x1.b_.getD ((x1.i_).toNat) (0 : UInt8)).toNat : Int), (⟨x1.b_, (i64.wrap (x1.i_ + 1))⟩ : GL4rd)) else none) else none))
theorem spec_l4rd_next_2.calls (w : World) (H : Hp) (x1 : GL4rd) (g2 : Nat) (A4 : Option Addr) (c5 : Nat) (h6 : Rd tByte H A4 x1.b_) (l7 : x1.b_.length ≤ c5) (b3 : w.heap[g2]? = some (.cells #[.slice A4 x1.b_.length c5, .int .i64 x1.i_] 150 (0, 0))) (S : Own [(is g2)] H w) (r : Int × GL4rd) (M : spec_l4rd_next_2.f x1 = some r) :
    Calls Try.prog 96 #[.pointer (some ⟨g2, 0, none⟩)] w (fun e e_w => ∃ (A_1 : Option Addr) (c_1 : Nat) (H_ : Hp), e = .returned (.int .i64 r.1) ∧ Rd tByte H_ A_1 r.2.b_ ∧ r.2.b_.length ≤ c_1 ∧ e_w.heap[g2]? = some (.cells #[.slice A_1 r.2.b_.length c_1, .int .i64 r.2.i_] 150 (0, 0)) ∧ St (anyOf [(is g2)]) H w [(is g2)] H_ e_w) := by
  rw [spec_l4rd_next_2.f] at M
  refine enter (l := [.pointer (some ⟨g2, 0, none⟩)]) 33 func96 rfl rfl rfl ?_
  have S0_ := S.st
  refine wQ (wR (lV 2 (eA (.int .i64 0)) (wN (tN (wQ (wQ ?_))))))
  refine region_still kr kr S0_ ?_
  intro w8 S9 K10
  replace b3 := K10.blk 0 rfl b3
  refine sV 4 (eM (.pointer (some ⟨g2, 0, none⟩))) (sV 5 (eN ⟨g2, 0, none⟩) (sV 6 (eD g2 0 1 1 underlying150) (sV 7 (eL ⟨g2, 0 + 1, none⟩ (.int .i64 x1.i_) underlying3 (blk_cell b3 rfl)) (sV 8 (eM (.pointer (some ⟨g2, 0, none⟩))) (sV 9 (eN ⟨g2, 0, none⟩) (sV 10 (eD g2 0 0 1 underlying150) (sV 11 (eL ⟨g2, 0 + 0, none⟩ (.slice A4 x1.b_.length c5) underlying59 (blk_cell b3 rfl)) (sV 12 (e_len (A := A4) (n := x1.b_.length) (c := c5) underlying59 kr) (sV 13 (e_geq (k := .i64) (a := x1.i_) (b := (x1.b_.length : Int)) kr kr) (wpStill_nil (tN ?_)))))))))))
  by_cases q11 : x1.i_ ≥ (x1.b_.length : Int)
  · replace M := ifp q11 M
    refine cT (bT q11) (wQ (wR (lV 2 (eA (.int .i64 0)) (wN (tN (wT (tR ?_)))))))
    obtain rfl := sj M
    exact ret1 rfl rfl  (show _ = .int .i64 0 from kr) ⟨A4, c5, H, rfl, h6, l7, b3, S9⟩
  replace M := ifn q11 M
  refine cF (bF q11) (wK (tN (wQ ?_)))
  refine region_still kr kr S9 ?_
  intro w12 S13 K14
  replace b3 := K14.blk 0 rfl b3
  refine sV 14 (eM (.pointer (some ⟨g2, 0, none⟩))) (sV 15 (eN ⟨g2, 0, none⟩) (sV 16 (eD g2 0 0 1 underlying150) (sV 17 (eL ⟨g2, 0 + 0, none⟩ (.slice A4 x1.b_.length c5) underlying59 (blk_cell b3 rfl)) (sV 18 (eM (.pointer (some ⟨g2, 0, none⟩))) (sV 19 (eN ⟨g2, 0, none⟩) (sV 20 (eD g2 0 1 1 underlying150) (sV 21 (eL ⟨g2, 0 + 1, none⟩ (.int .i64 x1.i_) underlying3 (blk_cell b3 rfl)) ?_)))))))
  obtain ⟨q15, M⟩ := chk M
  obtain ⟨q16, M⟩ := chk M
  obtain ⟨b17, o18, e19⟩ := Rd.addr h6 (show (x1.i_).toNat < x1.b_.length by omega)
  obtain ⟨y20, r21, k22⟩ := Rd.at h6 e19 (getD_some (0 : UInt8) (show (x1.i_).toNat < x1.b_.length by omega))
  obtain rfl := r21
  refine sV 22 (eI b17 o18 x1.b_.length c5 1 x1.i_ .i64 underlying59 e19 q15 q16) (sV 23 (eL ⟨b17, o18 + (x1.i_ : Int).toNat * 1, none⟩ (.int .u8 ((x1.b_.getD ((x1.i_).toNat) (0 : UInt8)).toNat : Int)) underlying5 (hpx (S13.inv.cell (k22 0 _ rfl)))) (sV 24 (e_conv_8i (a := (x1.b_.getD ((x1.i_).toNat) (0 : UInt8))) kr underlying3 kr) (sV 3 (eA (.int .i64 ((x1.b_.getD ((x1.i_).toNat) (0 : UInt8)).toNat : Int))) (wpStill_nil (tN (wQ (wR (lV 25 (eM (.pointer (some ⟨g2, 0, none⟩))) (lV 26 (eN ⟨g2, 0, none⟩) (lV 27 (eD g2 0 1 1 underlying150) (lV 28 (eL ⟨g2, 0 + 1, none⟩ (.int .i64 x1.i_) underlying3 (blk_cell b3 rfl)) (lV 29 (eAdd .i64 x1.i_ 1) (lV 30 (eN ⟨g2, 0, none⟩) (lV 31 (eD g2 0 1 1 underlying150) ?_))))))))))))))
  refine lE (eS g2 (0 + 1) (.int .i64 (i64.wrap (x1.i_ + 1))) #[.slice A4 x1.b_.length c5, .int .i64 (i64.wrap (x1.i_ + 1))] [.int .i64 (i64.wrap (x1.i_ + 1))] S13 b3) ?_
  rintro w23 ⟨b24, S25, K26⟩
  clear b3
  refine wN (tN (wQ (wR (lV 32 (eM (.int .i64 ((x1.b_.getD ((x1.i_).toNat) (0 : UInt8)).toNat : Int))) (lV 2 (eA (.int .i64 ((x1.b_.getD ((x1.i_).toNat) (0 : UInt8)).toNat : Int))) (wN (tN (wT ?_))))))))
  obtain rfl := sj M
  exact ret1 rfl rfl  (show _ = .int .i64 ((x1.b_.getD ((x1.i_).toNat) (0 : UInt8)).toNat : Int) from kr) ⟨A4, c5, H, rfl, h6, l7, b24, S25⟩

/-! spec_l4int -/
def spec_l4int_2.f (x1 : GL4rd) : Option (Int × GL4rd) := ((spec_l4rd_next_2.f x1).bind fun t8 => (if t8.1 < 40 then (if 0 ≤ (Int.tmod t8.1 8) then (if (Int.tmod t8.1 8) < (8 : Int) then some (([0, 1, (-1), 42, 1000000000000000, (-1000000000000000), 255, 1000000].getD (((Int.tmod t8.1 8)).toNat) (0 : Int)), t8.2) else none) else none) else some ((i64.wrap ((Int.tmod t8.1 12) - 2)), t8.2)))
theorem spec_l4int_2.calls (w : World) (H : Hp) (x1 : GL4rd) (g2 : Nat) (A4 : Option Addr) (c5 : Nat) (h6 : Rd tByte H A4 x1.b_) (l7 : x1.b_.length ≤ c5) (b3 : w.heap[g2]? = some (.cells #[.slice A4 x1.b_.length c5, .int .i64 x1.i_] 150 (0, 0))) (S : Own [(is g2)] H w) (r : Int × GL4rd) (M : spec_l4int_2.f x1 = some r) :
    Calls Try.prog 132 #[.pointer (some ⟨g2, 0, none⟩)] w (fun e e_w => ∃ (A_1 : Option Addr) (c_1 : Nat) (H_ : Hp), e = .returned (.int .i64 r.1) ∧ Rd tByte H_ A_1 r.2.b_ ∧ r.2.b_.length ≤ c_1 ∧ e_w.heap[g2]? = some (.cells #[.slice A_1 r.2.b_.length c_1, .int .i64 r.2.i_] 150 (0, 0)) ∧ St (anyOf [(is g2)]) H w [(is g2)] H_ e_w) := by
  rw [spec_l4int_2.f] at M
  refine enter (l := [.pointer (some ⟨g2, 0, none⟩)]) 18 func132 rfl rfl rfl ?_
  have S0_ := S.st
  refine wQ (wR (lV 2 (eA (.int .i64 0)) (wN (tN (wQ (wR (lV 5 (eM (.pointer (some ⟨g2, 0, none⟩))) ?_)))))))
  obtain ⟨t8, u9, M⟩ := bnd M
  refine lC 6 (eC [.tmp 5] [.pointer (some ⟨g2, 0, none⟩)] func96) (spec_l4rd_next_2.calls w H x1 g2 A4 c5 h6 l7 b3 (St.own' (Fa := [(is g2)]) (Fr := []) S0_) t8 u9) ?_
  rintro _ w10 ⟨A13, c14, H11, rfl, h15, l16, b17, T12⟩
  refine ⟨_, rfl, ?_⟩
  obtain ⟨S18, K19⟩ := St.call (Fa := [(is g2)]) (Fr := []) S0_ T12
  have E20 := T12.ext
  refine lV 3 (eA (.int .i64 t8.1)) (wN (tN (wQ (wR ?_))))
  refine lW 7 (new_blk (v := fun g_ => .slice (some ⟨g_, 0, none⟩) 8 8) (cs := #[.int .i64 0, .int .i64 1, .int .i64 (-1), .int .i64 42, .int .i64 1000000000000000, .int .i64 (-1000000000000000), .int .i64 255, .int .i64 1000000]) (t := 3) S18 kr) ?_
  rintro _ w21 ⟨g22, rfl, b23, S24, K25⟩
  replace b17 := K25.blk 0 rfl b17
  have S26 := S24.unit
  have S27 := S26.pulls [(is g22), no, (is g2)] [1] rfl
  obtain ⟨h28, S29⟩ := row_lit (d := tInt) (xs := [0, 1, (-1), 42, 1000000000000000, (-1000000000000000), 255, 1000000]) S27 b23 rfl (elsO_no (d := tInt) rfl (elsO_no (d := tInt) rfl (elsO_no (d := tInt) rfl (elsO_no (d := tInt) rfl (elsO_no (d := tInt) rfl (elsO_no (d := tInt) rfl (elsO_no (d := tInt) rfl (elsO_no (d := tInt) rfl (elsO_nil _ _ _ no))))))))) (Nat.le_of_ble_eq_true rfl)
  refine lV 4 (eA (.slice (some ⟨g22, 0, none⟩) 8 8)) (wN (tN (wQ (wQ (wR (lV 8 (eM (.int .i64 t8.1)) (lV 9 (eLt .i64 t8.1 40) (wN (tN ?_)))))))))
  by_cases q30 : t8.1 < 40
  · replace M := ifp q30 M
    refine cT (bT q30) (wQ (wR (lV 10 (eM (.slice (some ⟨g22, 0, none⟩) 8 8)) (lV 11 (eM (.int .i64 t8.1)) (lV 12 (e_rem (k := .i64) (a := t8.1) (b := 8) kr rfl (by decide)) ?_)))))
    obtain ⟨q31, M⟩ := chk M
    obtain ⟨q32, M⟩ := chk M
    obtain ⟨b33, e35⟩ := Row.addr h28 (show ((Int.tmod t8.1 8)).toNat < [0, 1, (-1), 42, 1000000000000000, (-1000000000000000), 255, 1000000].length by have : [0, 1, (-1), 42, 1000000000000000, (-1000000000000000), 255, 1000000].length = 8 := rfl; omega)
    refine lV 13 (eI b33 0 8 8 1 (Int.tmod t8.1 8) .i64 underlying32 e35 q31 q32) (lV 14 (eL ⟨b33, 0 + ((Int.tmod t8.1 8) : Int).toNat * 1, none⟩ (.int .i64 ([0, 1, (-1), 42, 1000000000000000, (-1000000000000000), 255, 1000000].getD (((Int.tmod t8.1 8)).toNat) (0 : Int))) underlying3 (hpx (Row.pick (j := 0) (u := .int .i64 ([0, 1, (-1), 42, 1000000000000000, (-1000000000000000), 255, 1000000].getD (((Int.tmod t8.1 8)).toNat) (0 : Int))) h28 e35 (getD_some (0 : Int) (show ((Int.tmod t8.1 8)).toNat < [0, 1, (-1), 42, 1000000000000000, (-1000000000000000), 255, 1000000].length by have : [0, 1, (-1), 42, 1000000000000000, (-1000000000000000), 255, 1000000].length = 8 := rfl; omega)) (fun _ _ o_ => by rw [show _ = _ from o_]; rfl)))) (lV 2 (eA (.int .i64 ([0, 1, (-1), 42, 1000000000000000, (-1000000000000000), 255, 1000000].getD (((Int.tmod t8.1 8)).toNat) (0 : Int)))) (wN (tN (wT (tR ?_))))))
    obtain rfl := sj M
    have S36 := S29.pulls [(is g2), (or2 (is g22) no)] [1] rfl
    have S37 := St.first (Fa := [(is g2)]) (Fr := [(or2 (is g22) no)]) S36
    exact ret1 rfl rfl  (show _ = .int .i64 ([0, 1, (-1), 42, 1000000000000000, (-1000000000000000), 255, 1000000].getD (((Int.tmod t8.1 8)).toNat) (0 : Int)) from kr) ⟨A13, c14, H11, rfl, h15, l16, b17, S37⟩
  replace M := ifn q30 M
  refine cF (bF q30) (wK (tN (wQ (wR (lV 15 (eM (.int .i64 t8.1)) (lV 16 (e_rem (k := .i64) (a := t8.1) (b := 12) kr rfl (by decide)) (lV 17 (e_sub (k := .i64) (a := (Int.tmod t8.1 12)) (b := 2) kr rfl) (lV 2 (eA (.int .i64 (i64.wrap ((Int.tmod t8.1 12) - 2)))) (wN (tN (wT ?_)))))))))))
  obtain rfl := sj M
  have S38 := S29.pulls [(is g2), (or2 (is g22) no)] [1] rfl
  have S39 := St.first (Fa := [(is g2)]) (Fr := [(or2 (is g22) no)]) S38
  exact ret1 rfl rfl  (show _ = .int .i64 (i64.wrap ((Int.tmod t8.1 12) - 2)) from kr) ⟨A13, c14, H11, rfl, h15, l16, b17, S39⟩

/-! spec_l2num -/
def sl5 : Ty (List UInt8) := slice 5 tByte (by decide)
def st65 : Ty Cell := iso (pair tInt (pair tInt sl5)) (fun x => (x.kind, x.n, x.text))
theorem st65_open {H : Hp} {x : Cell} {cs : List Value} (h : st65.R H x cs) : ∃ (A2 : Option Addr) (c2 : Nat), cs = [.int .i64 x.kind, .int .i64 x.n, .slice A2 x.text.length c2] ∧ x.text.length ≤ c2 ∧ Rd tByte H A2 x.text := by
  obtain ⟨_, _, rfl, rfl, ⟨_, _, rfl, rfl, ⟨A2, c2, rfl, l2, h2⟩⟩⟩ := h
  exact ⟨A2, c2, rfl, l2, h2⟩
theorem st65_mkR {H : Hp} {x : Cell} {A2 : Option Addr} {c2 : Nat} (l2 : x.text.length ≤ c2) (h2 : Rd tByte H A2 x.text) : st65.R H x [.int .i64 x.kind, .int .i64 x.n, .slice A2 x.text.length c2] := ⟨[.int .i64 x.kind], [.int .i64 x.n, .slice A2 x.text.length c2], rfl, rfl, ⟨[.int .i64 x.n], [.slice A2 x.text.length c2], rfl, rfl, ⟨A2, c2, rfl, l2, h2⟩⟩⟩
theorem st65_mkO {H X : Hp} {F2 : Foot} {x : Cell} {A2 : Option Addr} {c2 : Nat} (h2 : Row tByte 5 H X F2 A2 c2 x.text) : st65.O H X F2 x [.int .i64 x.kind, .int .i64 x.n, .slice A2 x.text.length c2] := (pairO0 (a := tInt) (b := (pair tInt sl5)) (x := (x.kind, (x.n, x.text))) (c0 := [.int .i64 x.kind]) (c1 := [.int .i64 x.n, .slice A2 x.text.length c2]) rfl (pairO0 (a := tInt) (b := sl5) (x := (x.n, x.text)) (c0 := [.int .i64 x.n]) (c1 := [.slice A2 x.text.length c2]) rfl ⟨A2, c2, rfl, h2⟩))
theorem st65_openO {H X : Hp} {F : Foot} {x : Cell} {cs : List Value} (h : st65.O H X F x cs) : ∃ (A2 : Option Addr) (c2 : Nat) (F2 : Foot), cs = [.int .i64 x.kind, .int .i64 x.n, .slice A2 x.text.length c2] ∧ Row tByte 5 H X F2 A2 c2 x.text ∧ (∀ b, F2 b → F b) := by
  obtain ⟨_, _, K1, L1, rfl, rfl, ⟨_, _, K0, L0, rfl, rfl, ⟨A2, c2, rfl, h2⟩, d0, s0⟩, d1, s1⟩ := h
  exact ⟨A2, c2, _, rfl, h2, fun b hb => s1 b (.inr (s0 b (.inr (hb))))⟩
theorem st65_r0 {H : Hp} {x : Cell} {cs : List Value} (h : st65.R H x cs) : cs[0]? = some (.int .i64 x.kind) := by obtain ⟨_, _, rfl, _, _⟩ := st65_open h; rfl
theorem st65_c1 {H X : Hp} {F : Foot} {x : Cell} {cs : List Value} (h : st65.O H X F x cs) : cs[1]? = some (.int .i64 x.n) := by obtain ⟨_, _, _, rfl, _, _⟩ := st65_openO h; rfl
theorem st65_r1 {H : Hp} {x : Cell} {cs : List Value} (h : st65.R H x cs) : cs[1]? = some (.int .i64 x.n) := by obtain ⟨_, _, rfl, _, _⟩ := st65_open h; rfl
theorem st65_u0 {H X : Hp} {F1 F2 : Foot} {x : Cell} (y : Int) {cs : List Value} (h : st65.O H X F1 x cs) : st65.O H X (or2 F1 F2) {x with kind := y} (cs.take 0 ++ [.int .i64 y] ++ cs.drop 1) := by
  obtain ⟨_, _, _, rfl, h2, s2⟩ := st65_openO h
  exact st65_mkO (x := {x with kind := y}) (h2.mono fun b hb => .inl (s2 b hb))
theorem st65_u1 {H X : Hp} {F1 F2 : Foot} {x : Cell} (y : Int) {cs : List Value} (h : st65.O H X F1 x cs) : st65.O H X (or2 F1 F2) {x with n := y} (cs.take 1 ++ [.int .i64 y] ++ cs.drop 2) := by
  obtain ⟨_, _, _, rfl, h2, s2⟩ := st65_openO h
  exact st65_mkO (x := {x with n := y}) (h2.mono fun b hb => .inl (s2 b hb))
theorem st65_u2 {H X : Hp} {F1 F2 : Foot} {x : Cell} {y : List UInt8} {A : Option Addr} {c : Nat} {cs : List Value} (hy : Row tByte 5 H X F2 A c y) (h : st65.O H X F1 x cs) : st65.O H X (or2 F1 F2) {x with text := y} (cs.take 2 ++ [.slice A y.length c] ++ cs.drop 3) := by
  obtain ⟨_, _, _, rfl, h2, _⟩ := st65_openO h
  exact st65_mkO (x := {x with text := y}) (hy.mono fun b hb => .inr hb)
def z65 : Cell := ⟨(0 : Int), (0 : Int), ([] : List UInt8)⟩
def spec_l2num.f (x1 : Int) : Option (List Cell) := some [(⟨1, x1, []⟩ : Cell)]
theorem spec_l2num.calls (w : World) (H : Hp) (x1 : Int) (S : Own [] H w) (r : List Cell) (M : spec_l2num.f x1 = some r) :
    Calls Try.prog 131 #[.int .i64 x1] w (fun e e_w => ∃ (A_1 : Option Addr) (c_1 : Nat) (F_1 : Foot) (H_ : Hp), e = .returned (.slice A_1 r.length c_1) ∧ Row st65 65 H_ (hp e_w) F_1 A_1 c_1 r ∧ St (anyOf []) H w [F_1] H_ e_w) := by
  rw [spec_l2num.f] at M
  refine enter (l := [.int .i64 x1]) 6 func131 rfl rfl rfl ?_
  have S0_ := S.st
  refine wQ (wR (lV 2 (eA (.slice none 0 0)) (wN (tN (wQ (wR (lV 3 (eM (.int .i64 x1)) (lV 4 (show _ = Result.ok (Next.value (.agg #[.int .i64 1, .int .i64 x1, .slice none 0 0])) w from by kernel_rfl) ?_))))))))
  refine lW 5 (new_blk (v := fun g_ => .slice (some ⟨g_, 0, none⟩) 1 1) (cs := #[.int .i64 1, .int .i64 x1, .slice none 0 0]) (t := 65) S0_ kr) ?_
  rintro _ w2 ⟨g3, rfl, b4, S5, K6⟩
  have S7 := S5.unit
  have S8 := S7.pulls [(is g3), no] [1] rfl
  obtain ⟨h9, S10⟩ := row_lit (d := st65) (xs := [(⟨1, x1, []⟩ : Cell)]) S8 b4 rfl (elsO_one1 (st65_mkO (x := (⟨1, x1, []⟩ : Cell)) (Row.nil _ _ _ _ no))) (Nat.le_of_ble_eq_true rfl)
  refine lV 2 (eA (.slice (some ⟨g3, 0, none⟩) 1 1)) (wN (tN (wT ?_)))
  obtain rfl := sj M
  exact ret1 rfl rfl  (show _ = .slice (some ⟨g3, 0, none⟩) 1 1 from kr) ⟨(some ⟨g3, 0, none⟩), 1, (or2 (is g3) no), H, rfl, h9, S10⟩

/-! spec_l2var -/
def spec_l2var.f (x1 : Int) : Option (List Cell) := some [(⟨0, x1, []⟩ : Cell)]
theorem spec_l2var.calls (w : World) (H : Hp) (x1 : Int) (S : Own [] H w) (r : List Cell) (M : spec_l2var.f x1 = some r) :
    Calls Try.prog 98 #[.int .i64 x1] w (fun e e_w => ∃ (A_1 : Option Addr) (c_1 : Nat) (F_1 : Foot) (H_ : Hp), e = .returned (.slice A_1 r.length c_1) ∧ Row st65 65 H_ (hp e_w) F_1 A_1 c_1 r ∧ St (anyOf []) H w [F_1] H_ e_w) := by
  rw [spec_l2var.f] at M
  refine enter (l := [.int .i64 x1]) 6 func98 rfl rfl rfl ?_
  have S0_ := S.st
  refine wQ (wR (lV 2 (eA (.slice none 0 0)) (wN (tN (wQ (wR (lV 3 (eM (.int .i64 x1)) (lV 4 (show _ = Result.ok (Next.value (.agg #[.int .i64 0, .int .i64 x1, .slice none 0 0])) w from by kernel_rfl) ?_))))))))
  refine lW 5 (new_blk (v := fun g_ => .slice (some ⟨g_, 0, none⟩) 1 1) (cs := #[.int .i64 0, .int .i64 x1, .slice none 0 0]) (t := 65) S0_ kr) ?_
  rintro _ w2 ⟨g3, rfl, b4, S5, K6⟩
  have S7 := S5.unit
  have S8 := S7.pulls [(is g3), no] [1] rfl
  obtain ⟨h9, S10⟩ := row_lit (d := st65) (xs := [(⟨0, x1, []⟩ : Cell)]) S8 b4 rfl (elsO_one1 (st65_mkO (x := (⟨0, x1, []⟩ : Cell)) (Row.nil _ _ _ _ no))) (Nat.le_of_ble_eq_true rfl)
  refine lV 2 (eA (.slice (some ⟨g3, 0, none⟩) 1 1)) (wN (tN (wT ?_)))
  obtain rfl := sj M
  exact ret1 rfl rfl  (show _ = .slice (some ⟨g3, 0, none⟩) 1 1 from kr) ⟨(some ⟨g3, 0, none⟩), 1, (or2 (is g3) no), H, rfl, h9, S10⟩

/-! spec_l4name -/
def spec_l4name.f (x1 : GL4rd) : Option ((List UInt8) × GL4rd) := ((spec_l4rd_next_2.f x1).bind fun t18 => (if t18.1 < 180 then (if 0 ≤ (Int.tmod t18.1 6) then (if (Int.tmod t18.1 6) < (28 : Int) then (if ([([97] : List UInt8), ([102, 111, 111] : List UInt8), ([98, 49] : List UInt8), ([91, 93] : List UInt8), ([45] : List UInt8), ([43] : List UInt8), ([61] : List UInt8), ([58, 45] : List UInt8), ([44] : List UInt8), ([105, 115] : List UInt8), ([] : List UInt8), ([88, 32, 121] : List UInt8), ([92, 43] : List UInt8), ([123, 125] : List UInt8), ([33] : List UInt8), ([59] : List UInt8), ([46] : List UInt8), ([47, 42] : List UInt8), ([105, 116, 39, 115] : List UInt8), ([10, 128] : List UInt8), ([120, 111, 114] : List UInt8), ([109, 111, 100] : List UInt8), ([124] : List UInt8), ([42] : List UInt8), ([100, 121, 110, 97, 109, 105, 99] : List UInt8), ([64] : List UInt8), ([64, 64] : List UInt8), ([104, 101, 108, 108, 111, 95, 87, 111, 114, 108, 100] : List UInt8)].getD (((Int.tmod t18.1 6)).toNat) ([] : List UInt8)).length ≤ 9223372036854775807 then some (([([97] : List UInt8), ([102, 111, 111] : List UInt8), ([98, 49] : List UInt8), ([91, 93] : List UInt8), ([45] : List UInt8), ([43] : List UInt8), ([61] : List UInt8), ([58, 45] : List UInt8), ([44] : List UInt8), ([105, 115] : List UInt8), ([] : List UInt8), ([88, 32, 121] : List UInt8), ([92, 43] : List UInt8), ([123, 125] : List UInt8), ([33] : List UInt8), ([59] : List UInt8), ([46] : List UInt8), ([47, 42] : List UInt8), ([105, 116, 39, 115] : List UInt8), ([10, 128] : List UInt8), ([120, 111, 114] : List UInt8), ([109, 111, 100] : List UInt8), ([124] : List UInt8), ([42] : List UInt8), ([100, 121, 110, 97, 109, 105, 99] : List UInt8), ([64] : List UInt8), ([64, 64] : List UInt8), ([104, 101, 108, 108, 111, 95, 87, 111, 114, 108, 100] : List UInt8)].getD (((Int.tmod t18.1 6)).toNat) ([] : List UInt8)), t18.2) else none) else none) else none) else (if 0 ≤ (Int.tmod t18.1 28) then (if (Int.tmod t18.1 28) < (28 : Int) then (if ([([97] : List UInt8), ([102, 111, 111] : List UInt8), ([98, 49] : List UInt8), ([91, 93] : List UInt8), ([45] : List UInt8), ([43] : List UInt8), ([61] : List UInt8), ([58, 45] : List UInt8), ([44] : List UInt8), ([105, 115] : List UInt8), ([] : List UInt8), ([88, 32, 121] : List UInt8), ([92, 43] : List UInt8), ([123, 125] : List UInt8), ([33] : List UInt8), ([59] : List UInt8), ([46] : List UInt8), ([47, 42] : List UInt8), ([105, 116, 39, 115] : List UInt8), ([10, 128] : List UInt8), ([120, 111, 114] : List UInt8), ([109, 111, 100] : List UInt8), ([124] : List UInt8), ([42] : List UInt8), ([100, 121, 110, 97, 109, 105, 99] : List UInt8), ([64] : List UInt8), ([64, 64] : List UInt8), ([104, 101, 108, 108, 111, 95, 87, 111, 114, 108, 100] : List UInt8)].getD (((Int.tmod t18.1 28)).toNat) ([] : List UInt8)).length ≤ 9223372036854775807 then some (([([97] : List UInt8), ([102, 111, 111] : List UInt8), ([98, 49] : List UInt8), ([91, 93] : List UInt8), ([45] : List UInt8), ([43] : List UInt8), ([61] : List UInt8), ([58, 45] : List UInt8), ([44] : List UInt8), ([105, 115] : List UInt8), ([] : List UInt8), ([88, 32, 121] : List UInt8), ([92, 43] : List UInt8), ([123, 125] : List UInt8), ([33] : List UInt8), ([59] : List UInt8), ([46] : List UInt8), ([47, 42] : List UInt8), ([105, 116, 39, 115] : List UInt8), ([10, 128] : List UInt8), ([120, 111, 114] : List UInt8), ([109, 111, 100] : List UInt8), ([124] : List UInt8), ([42] : List UInt8), ([100, 121, 110, 97, 109, 105, 99] : List UInt8), ([64] : List UInt8), ([64, 64] : List UInt8), ([104, 101, 108, 108, 111, 95, 87, 111, 114, 108, 100] : List UInt8)].getD (((Int.tmod t18.1 28)).toNat) ([] : List UInt8)), t18.2) else none) else none) else none)))
theorem spec_l4name.calls (w : World) (H : Hp) (x1 : GL4rd) (g2 : Nat) (A4 : Option Addr) (c5 : Nat) (h6 : Rd tByte H A4 x1.b_) (l7 : x1.b_.length ≤ c5) (b3 : w.heap[g2]? = some (.cells #[.slice A4 x1.b_.length c5, .int .i64 x1.i_] 150 (0, 0))) (S : Own [(is g2)] H w) (r : (List UInt8) × GL4rd) (M : spec_l4name.f x1 = some r) :
    Calls Try.prog 133 #[.pointer (some ⟨g2, 0, none⟩)] w (fun e e_w => ∃ (A_1 : Option Addr) (c_1 : Nat) (A_2 : Option Addr) (c_2 : Nat) (F_1 : Foot) (H_ : Hp), e = .returned (.slice A_2 r.1.length c_2) ∧ Rd tByte H_ A_1 r.2.b_ ∧ r.2.b_.length ≤ c_1 ∧ e_w.heap[g2]? = some (.cells #[.slice A_1 r.2.b_.length c_1, .int .i64 r.2.i_] 150 (0, 0)) ∧ Row tByte 5 H_ (hp e_w) F_1 A_2 c_2 r.1 ∧ St (anyOf [(is g2)]) H w [(is g2), F_1] H_ e_w) := by
  rw [spec_l4name.f] at M
  refine enter (l := [.pointer (some ⟨g2, 0, none⟩)]) 22 func133 rfl rfl rfl ?_
  have S0_ := S.st
  refine wQ (wR (lV 2 (eA (.slice none 0 0)) (wN (tN (wQ (wR ?_))))))
  refine lW 5 (new_blk (v := fun g_ => .slice (some ⟨g_, 0, none⟩) 28 28) (cs := #[str ([97] : List UInt8), str ([102, 111, 111] : List UInt8), str ([98, 49] : List UInt8), str ([91, 93] : List UInt8), str ([45] : List UInt8), str ([43] : List UInt8), str ([61] : List UInt8), str ([58, 45] : List UInt8), str ([44] : List UInt8), str ([105, 115] : List UInt8), str ([] : List UInt8), str ([88, 32, 121] : List UInt8), str ([92, 43] : List UInt8), str ([123, 125] : List UInt8), str ([33] : List UInt8), str ([59] : List UInt8), str ([46] : List UInt8), str ([47, 42] : List UInt8), str ([105, 116, 39, 115] : List UInt8), str ([10, 128] : List UInt8), str ([120, 111, 114] : List UInt8), str ([109, 111, 100] : List UInt8), str ([124] : List UInt8), str ([42] : List UInt8), str ([100, 121, 110, 97, 109, 105, 99] : List UInt8), str ([64] : List UInt8), str ([64, 64] : List UInt8), str ([104, 101, 108, 108, 111, 95, 87, 111, 114, 108, 100] : List UInt8)]) (t := 9) S0_ kr) ?_
  rintro _ w8 ⟨g9, rfl, b10, S11, K12⟩
  replace b3 := K12.blk 0 rfl b3
  have S13 := S11.unit
  have S14 := S13.pulls [(is g9), no, (is g2)] [1] rfl
  obtain ⟨h15, S16⟩ := row_lit (d := tStr) (xs := [([97] : List UInt8), ([102, 111, 111] : List UInt8), ([98, 49] : List UInt8), ([91, 93] : List UInt8), ([45] : List UInt8), ([43] : List UInt8), ([61] : List UInt8), ([58, 45] : List UInt8), ([44] : List UInt8), ([105, 115] : List UInt8), ([] : List UInt8), ([88, 32, 121] : List UInt8), ([92, 43] : List UInt8), ([123, 125] : List UInt8), ([33] : List UInt8), ([59] : List UInt8), ([46] : List UInt8), ([47, 42] : List UInt8), ([105, 116, 39, 115] : List UInt8), ([10, 128] : List UInt8), ([120, 111, 114] : List UInt8), ([109, 111, 100] : List UInt8), ([124] : List UInt8), ([42] : List UInt8), ([100, 121, 110, 97, 109, 105, 99] : List UInt8), ([64] : List UInt8), ([64, 64] : List UInt8), ([104, 101, 108, 108, 111, 95, 87, 111, 114, 108, 100] : List UInt8)]) S14 b10 rfl (elsO_no (d := tStr) rfl (elsO_no (d := tStr) rfl (elsO_no (d := tStr) rfl (elsO_no (d := tStr) rfl (elsO_no (d := tStr) rfl (elsO_no (d := tStr) rfl (elsO_no (d := tStr) rfl (elsO_no (d := tStr) rfl (elsO_no (d := tStr) rfl (elsO_no (d := tStr) rfl (elsO_no (d := tStr) rfl (elsO_no (d := tStr) rfl (elsO_no (d := tStr) rfl (elsO_no (d := tStr) rfl (elsO_no (d := tStr) rfl (elsO_no (d := tStr) rfl (elsO_no (d := tStr) rfl (elsO_no (d := tStr) rfl (elsO_no (d := tStr) rfl (elsO_no (d := tStr) rfl (elsO_no (d := tStr) rfl (elsO_no (d := tStr) rfl (elsO_no (d := tStr) rfl (elsO_no (d := tStr) rfl (elsO_no (d := tStr) rfl (elsO_no (d := tStr) rfl (elsO_no (d := tStr) rfl (elsO_no (d := tStr) rfl (elsO_nil _ _ _ no))))))))))))))))))))))))))))) (Nat.le_of_ble_eq_true rfl)
  refine lV 3 (eA (.slice (some ⟨g9, 0, none⟩) 28 28)) (wN (tN (wQ (wR (lV 6 (eM (.pointer (some ⟨g2, 0, none⟩))) ?_)))))
  have S17 := S16.pulls [(is g2), (or2 (is g9) no)] [1] rfl
  obtain ⟨t18, u19, M⟩ := bnd M
  refine lC 7 (eC [.tmp 6] [.pointer (some ⟨g2, 0, none⟩)] func96) (spec_l4rd_next_2.calls w8 H x1 g2 A4 c5 h6 l7 b3 (St.own' (Fa := [(is g2)]) (Fr := [(or2 (is g9) no)]) S17) t18 u19) ?_
  rintro _ w20 ⟨A23, c24, H21, rfl, h25, l26, b27, T22⟩
  refine ⟨_, rfl, ?_⟩
  obtain ⟨S28, K29⟩ := St.call (Fa := [(is g2)]) (Fr := [(or2 (is g9) no)]) S17 T22
  replace h15 := h15.move (K29.at 0 rfl)
  have E30 := T22.ext
  replace h15 := h15.ext E30
  refine lV 4 (eA (.int .i64 t18.1)) (wN (tN (wQ (wQ (wR (lV 8 (eM (.int .i64 t18.1)) (lV 9 (eLt .i64 t18.1 180) (wN (tN ?_)))))))))
  by_cases q31 : t18.1 < 180
  · replace M := ifp q31 M
    refine cT (bT q31) (wQ (wR (lV 10 (eM (.slice (some ⟨g9, 0, none⟩) 28 28)) (lV 11 (eM (.int .i64 t18.1)) (lV 12 (e_rem (k := .i64) (a := t18.1) (b := 6) kr rfl (by decide)) ?_)))))
    obtain ⟨q32, M⟩ := chk M
    obtain ⟨q33, M⟩ := chk M
    obtain ⟨b34, e36⟩ := Row.addr h15 (show ((Int.tmod t18.1 6)).toNat < [([97] : List UInt8), ([102, 111, 111] : List UInt8), ([98, 49] : List UInt8), ([91, 93] : List UInt8), ([45] : List UInt8), ([43] : List UInt8), ([61] : List UInt8), ([58, 45] : List UInt8), ([44] : List UInt8), ([105, 115] : List UInt8), ([] : List UInt8), ([88, 32, 121] : List UInt8), ([92, 43] : List UInt8), ([123, 125] : List UInt8), ([33] : List UInt8), ([59] : List UInt8), ([46] : List UInt8), ([47, 42] : List UInt8), ([105, 116, 39, 115] : List UInt8), ([10, 128] : List UInt8), ([120, 111, 114] : List UInt8), ([109, 111, 100] : List UInt8), ([124] : List UInt8), ([42] : List UInt8), ([100, 121, 110, 97, 109, 105, 99] : List UInt8), ([64] : List UInt8), ([64, 64] : List UInt8), ([104, 101, 108, 108, 111, 95, 87, 111, 114, 108, 100] : List UInt8)].length by have : [([97] : List UInt8), ([102, 111, 111] : List UInt8), ([98, 49] : List UInt8), ([91, 93] : List UInt8), ([45] : List UInt8), ([43] : List UInt8), ([61] : List UInt8), ([58, 45] : List UInt8), ([44] : List UInt8), ([105, 115] : List UInt8), ([] : List UInt8), ([88, 32, 121] : List UInt8), ([92, 43] : List UInt8), ([123, 125] : List UInt8), ([33] : List UInt8), ([59] : List UInt8), ([46] : List UInt8), ([47, 42] : List UInt8), ([105, 116, 39, 115] : List UInt8), ([10, 128] : List UInt8), ([120, 111, 114] : List UInt8), ([109, 111, 100] : List UInt8), ([124] : List UInt8), ([42] : List UInt8), ([100, 121, 110, 97, 109, 105, 99] : List UInt8), ([64] : List UInt8), ([64, 64] : List UInt8), ([104, 101, 108, 108, 111, 95, 87, 111, 114, 108, 100] : List UInt8)].length = 28 := rfl; omega)
    refine lV 13 (eI b34 0 28 28 1 (Int.tmod t18.1 6) .i64 underlying162 e36 q32 q33) (lV 14 (eL ⟨b34, 0 + ((Int.tmod t18.1 6) : Int).toNat * 1, none⟩ (str ([([97] : List UInt8), ([102, 111, 111] : List UInt8), ([98, 49] : List UInt8), ([91, 93] : List UInt8), ([45] : List UInt8), ([43] : List UInt8), ([61] : List UInt8), ([58, 45] : List UInt8), ([44] : List UInt8), ([105, 115] : List UInt8), ([] : List UInt8), ([88, 32, 121] : List UInt8), ([92, 43] : List UInt8), ([123, 125] : List UInt8), ([33] : List UInt8), ([59] : List UInt8), ([46] : List UInt8), ([47, 42] : List UInt8), ([105, 116, 39, 115] : List UInt8), ([10, 128] : List UInt8), ([120, 111, 114] : List UInt8), ([109, 111, 100] : List UInt8), ([124] : List UInt8), ([42] : List UInt8), ([100, 121, 110, 97, 109, 105, 99] : List UInt8), ([64] : List UInt8), ([64, 64] : List UInt8), ([104, 101, 108, 108, 111, 95, 87, 111, 114, 108, 100] : List UInt8)].getD (((Int.tmod t18.1 6)).toNat) ([] : List UInt8))) underlying9 (hpx (Row.pick (j := 0) (u := str ([([97] : List UInt8), ([102, 111, 111] : List UInt8), ([98, 49] : List UInt8), ([91, 93] : List UInt8), ([45] : List UInt8), ([43] : List UInt8), ([61] : List UInt8), ([58, 45] : List UInt8), ([44] : List UInt8), ([105, 115] : List UInt8), ([] : List UInt8), ([88, 32, 121] : List UInt8), ([92, 43] : List UInt8), ([123, 125] : List UInt8), ([33] : List UInt8), ([59] : List UInt8), ([46] : List UInt8), ([47, 42] : List UInt8), ([105, 116, 39, 115] : List UInt8), ([10, 128] : List UInt8), ([120, 111, 114] : List UInt8), ([109, 111, 100] : List UInt8), ([124] : List UInt8), ([42] : List UInt8), ([100, 121, 110, 97, 109, 105, 99] : List UInt8), ([64] : List UInt8), ([64, 64] : List UInt8), ([104, 101, 108, 108, 111, 95, 87, 111, 114, 108, 100] : List UInt8)].getD (((Int.tmod t18.1 6)).toNat) ([] : List UInt8))) h15 e36 (getD_some ([] : List UInt8) (show ((Int.tmod t18.1 6)).toNat < [([97] : List UInt8), ([102, 111, 111] : List UInt8), ([98, 49] : List UInt8), ([91, 93] : List UInt8), ([45] : List UInt8), ([43] : List UInt8), ([61] : List UInt8), ([58, 45] : List UInt8), ([44] : List UInt8), ([105, 115] : List UInt8), ([] : List UInt8), ([88, 32, 121] : List UInt8), ([92, 43] : List UInt8), ([123, 125] : List UInt8), ([33] : List UInt8), ([59] : List UInt8), ([46] : List UInt8), ([47, 42] : List UInt8), ([105, 116, 39, 115] : List UInt8), ([10, 128] : List UInt8), ([120, 111, 114] : List UInt8), ([109, 111, 100] : List UInt8), ([124] : List UInt8), ([42] : List UInt8), ([100, 121, 110, 97, 109, 105, 99] : List UInt8), ([64] : List UInt8), ([64, 64] : List UInt8), ([104, 101, 108, 108, 111, 95, 87, 111, 114, 108, 100] : List UInt8)].length by have : [([97] : List UInt8), ([102, 111, 111] : List UInt8), ([98, 49] : List UInt8), ([91, 93] : List UInt8), ([45] : List UInt8), ([43] : List UInt8), ([61] : List UInt8), ([58, 45] : List UInt8), ([44] : List UInt8), ([105, 115] : List UInt8), ([] : List UInt8), ([88, 32, 121] : List UInt8), ([92, 43] : List UInt8), ([123, 125] : List UInt8), ([33] : List UInt8), ([59] : List UInt8), ([46] : List UInt8), ([47, 42] : List UInt8), ([105, 116, 39, 115] : List UInt8), ([10, 128] : List UInt8), ([120, 111, 114] : List UInt8), ([109, 111, 100] : List UInt8), ([124] : List UInt8), ([42] : List UInt8), ([100, 121, 110, 97, 109, 105, 99] : List UInt8), ([64] : List UInt8), ([64, 64] : List UInt8), ([104, 101, 108, 108, 111, 95, 87, 111, 114, 108, 100] : List UInt8)].length = 28 := rfl; omega)) (fun _ _ o_ => by rw [show _ = _ from o_]; rfl)))) ?_)
    obtain ⟨q37, M⟩ := chk M
    refine lW 15 (e_conv_sb (xs := ([([97] : List UInt8), ([102, 111, 111] : List UInt8), ([98, 49] : List UInt8), ([91, 93] : List UInt8), ([45] : List UInt8), ([43] : List UInt8), ([61] : List UInt8), ([58, 45] : List UInt8), ([44] : List UInt8), ([105, 115] : List UInt8), ([] : List UInt8), ([88, 32, 121] : List UInt8), ([92, 43] : List UInt8), ([123, 125] : List UInt8), ([33] : List UInt8), ([59] : List UInt8), ([46] : List UInt8), ([47, 42] : List UInt8), ([105, 116, 39, 115] : List UInt8), ([10, 128] : List UInt8), ([120, 111, 114] : List UInt8), ([109, 111, 100] : List UInt8), ([124] : List UInt8), ([42] : List UInt8), ([100, 121, 110, 97, 109, 105, 99] : List UInt8), ([64] : List UInt8), ([64, 64] : List UInt8), ([104, 101, 108, 108, 111, 95, 87, 111, 114, 108, 100] : List UInt8)].getD (((Int.tmod t18.1 6)).toNat) ([] : List UInt8))) S28 underlying9 underlying59 underlying5 kr q37) ?_
    rintro _ w38 ⟨A39, c40, F41, rfl, h42, S43, K44⟩
    replace b27 := K44.blk 0 rfl b27
    refine lV 2 (eA (.slice A39 (([([97] : List UInt8), ([102, 111, 111] : List UInt8), ([98, 49] : List UInt8), ([91, 93] : List UInt8), ([45] : List UInt8), ([43] : List UInt8), ([61] : List UInt8), ([58, 45] : List UInt8), ([44] : List UInt8), ([105, 115] : List UInt8), ([] : List UInt8), ([88, 32, 121] : List UInt8), ([92, 43] : List UInt8), ([123, 125] : List UInt8), ([33] : List UInt8), ([59] : List UInt8), ([46] : List UInt8), ([47, 42] : List UInt8), ([105, 116, 39, 115] : List UInt8), ([10, 128] : List UInt8), ([120, 111, 114] : List UInt8), ([109, 111, 100] : List UInt8), ([124] : List UInt8), ([42] : List UInt8), ([100, 121, 110, 97, 109, 105, 99] : List UInt8), ([64] : List UInt8), ([64, 64] : List UInt8), ([104, 101, 108, 108, 111, 95, 87, 111, 114, 108, 100] : List UInt8)].getD (((Int.tmod t18.1 6)).toNat) ([] : List UInt8)).length) c40)) (wN (tN (wT (tR ?_))))
    obtain rfl := sj M
    have S45 := S43.pulls [(is g2), F41, (or2 (is g9) no)] [1] rfl
    have S46 := St.first (Fa := [(is g2), F41]) (Fr := [(or2 (is g9) no)]) S45
    exact ret1 rfl rfl  (show _ = .slice A39 (([([97] : List UInt8), ([102, 111, 111] : List UInt8), ([98, 49] : List UInt8), ([91, 93] : List UInt8), ([45] : List UInt8), ([43] : List UInt8), ([61] : List UInt8), ([58, 45] : List UInt8), ([44] : List UInt8), ([105, 115] : List UInt8), ([] : List UInt8), ([88, 32, 121] : List UInt8), ([92, 43] : List UInt8), ([123, 125] : List UInt8), ([33] : List UInt8), ([59] : List UInt8), ([46] : List UInt8), ([47, 42] : List UInt8), ([105, 116, 39, 115] : List UInt8), ([10, 128] : List UInt8), ([120, 111, 114] : List UInt8), ([109, 111, 100] : List UInt8), ([124] : List UInt8), ([42] : List UInt8), ([100, 121, 110, 97, 109, 105, 99] : List UInt8), ([64] : List UInt8), ([64, 64] : List UInt8), ([104, 101, 108, 108, 111, 95, 87, 111, 114, 108, 100] : List UInt8)].getD (((Int.tmod t18.1 6)).toNat) ([] : List UInt8)).length) c40 from kr) ⟨A23, c24, A39, c40, F41, H21, rfl, h25, l26, b27, h42, S46⟩
  replace M := ifn q31 M
  refine cF (bF q31) (wK (tN (wQ (wR (lV 16 (eM (.slice (some ⟨g9, 0, none⟩) 28 28)) (lV 17 (eM (.int .i64 t18.1)) (lV 18 (e_rem (k := .i64) (a := t18.1) (b := 28) kr rfl (by decide)) ?_)))))))
  obtain ⟨q47, M⟩ := chk M
  obtain ⟨q48, M⟩ := chk M
  obtain ⟨b49, e51⟩ := Row.addr h15 (show ((Int.tmod t18.1 28)).toNat < [([97] : List UInt8), ([102, 111, 111] : List UInt8), ([98, 49] : List UInt8), ([91, 93] : List UInt8), ([45] : List UInt8), ([43] : List UInt8), ([61] : List UInt8), ([58, 45] : List UInt8), ([44] : List UInt8), ([105, 115] : List UInt8), ([] : List UInt8), ([88, 32, 121] : List UInt8), ([92, 43] : List UInt8), ([123, 125] : List UInt8), ([33] : List UInt8), ([59] : List UInt8), ([46] : List UInt8), ([47, 42] : List UInt8), ([105, 116, 39, 115] : List UInt8), ([10, 128] : List UInt8), ([120, 111, 114] : List UInt8), ([109, 111, 100] : List UInt8), ([124] : List UInt8), ([42] : List UInt8), ([100, 121, 110, 97, 109, 105, 99] : List UInt8), ([64] : List UInt8), ([64, 64] : List UInt8), ([104, 101, 108, 108, 111, 95, 87, 111, 114, 108, 100] : List UInt8)].length by have : [([97] : List UInt8), ([102, 111, 111] : List UInt8), ([98, 49] : List UInt8), ([91, 93] : List UInt8), ([45] : List UInt8), ([43] : List UInt8), ([61] : List UInt8), ([58, 45] : List UInt8), ([44] : List UInt8), ([105, 115] : List UInt8), ([] : List UInt8), ([88, 32, 121] : List UInt8), ([92, 43] : List UInt8), ([123, 125] : List UInt8), ([33] : List UInt8), ([59] : List UInt8), ([46] : List UInt8), ([47, 42] : List UInt8), ([105, 116, 39, 115] : List UInt8), ([10, 128] : List UInt8), ([120, 111, 114] : List UInt8), ([109, 111, 100] : List UInt8), ([124] : List UInt8), ([42] : List UInt8), ([100, 121, 110, 97, 109, 105, 99] : List UInt8), ([64] : List UInt8), ([64, 64] : List UInt8), ([104, 101, 108, 108, 111, 95, 87, 111, 114, 108, 100] : List UInt8)].length = 28 := rfl; omega)
  refine lV 19 (eI b49 0 28 28 1 (Int.tmod t18.1 28) .i64 underlying162 e51 q47 q48) (lV 20 (eL ⟨b49, 0 + ((Int.tmod t18.1 28) : Int).toNat * 1, none⟩ (str ([([97] : List UInt8), ([102, 111, 111] : List UInt8), ([98, 49] : List UInt8), ([91, 93] : List UInt8), ([45] : List UInt8), ([43] : List UInt8), ([61] : List UInt8), ([58, 45] : List UInt8), ([44] : List UInt8), ([105, 115] : List UInt8), ([] : List UInt8), ([88, 32, 121] : List UInt8), ([92, 43] : List UInt8), ([123, 125] : List UInt8), ([33] : List UInt8), ([59] : List UInt8), ([46] : List UInt8), ([47, 42] : List UInt8), ([105, 116, 39, 115] : List UInt8), ([10, 128] : List UInt8), ([120, 111, 114] : List UInt8), ([109, 111, 100] : List UInt8), ([124] : List UInt8), ([42] : List UInt8), ([100, 121, 110, 97, 109, 105, 99] : List UInt8), ([64] : List UInt8), ([64, 64] : List UInt8), ([104, 101, 108, 108, 111, 95, 87, 111, 114, 108, 100] : List UInt8)].getD (((Int.tmod t18.1 28)).toNat) ([] : List UInt8))) underlying9 (hpx (Row.pick (j := 0) (u := str ([([97] : List UInt8), ([102, 111, 111] : List UInt8), ([98, 49] : List UInt8), ([91, 93] : List UInt8), ([45] : List UInt8), ([43] : List UInt8), ([61] : List UInt8), ([58, 45] : List UInt8), ([44] : List UInt8), ([105, 115] : List UInt8), ([] : List UInt8), ([88, 32, 121] : List UInt8), ([92, 43] : List UInt8), ([123, 125] : List UInt8), ([33] : List UInt8), ([59] : List UInt8), ([46] : List UInt8), ([47, 42] : List UInt8), ([105, 116, 39, 115] : List UInt8), ([10, 128] : List UInt8), ([120, 111, 114] : List UInt8), ([109, 111, 100] : List UInt8), ([124] : List UInt8), ([42] : List UInt8), ([100, 121, 110, 97, 109, 105, 99] : List UInt8), ([64] : List UInt8), ([64, 64] : List UInt8), ([104, 101, 108, 108, 111, 95, 87, 111, 114, 108, 100] : List UInt8)].getD (((Int.tmod t18.1 28)).toNat) ([] : List UInt8))) h15 e51 (getD_some ([] : List UInt8) (show ((Int.tmod t18.1 28)).toNat < [([97] : List UInt8), ([102, 111, 111] : List UInt8), ([98, 49] : List UInt8), ([91, 93] : List UInt8), ([45] : List UInt8), ([43] : List UInt8), ([61] : List UInt8), ([58, 45] : List UInt8), ([44] : List UInt8), ([105, 115] : List UInt8), ([] : List UInt8), ([88, 32, 121] : List UInt8), ([92, 43] : List UInt8), ([123, 125] : List UInt8), ([33] : List UInt8), ([59] : List UInt8), ([46] : List UInt8), ([47, 42] : List UInt8), ([105, 116, 39, 115] : List UInt8), ([10, 128] : List UInt8), ([120, 111, 114] : List UInt8), ([109, 111, 100] : List UInt8), ([124] : List UInt8), ([42] : List UInt8), ([100, 121, 110, 97, 109, 105, 99] : List UInt8), ([64] : List UInt8), ([64, 64] : List UInt8), ([104, 101, 108, 108, 111, 95, 87, 111, 114, 108, 100] : List UInt8)].length by have : [([97] : List UInt8), ([102, 111, 111] : List UInt8), ([98, 49] : List UInt8), ([91, 93] : List UInt8), ([45] : List UInt8), ([43] : List UInt8), ([61] : List UInt8), ([58, 45] : List UInt8), ([44] : List UInt8), ([105, 115] : List UInt8), ([] : List UInt8), ([88, 32, 121] : List UInt8), ([92, 43] : List UInt8), ([123, 125] : List UInt8), ([33] : List UInt8), ([59] : List UInt8), ([46] : List UInt8), ([47, 42] : List UInt8), ([105, 116, 39, 115] : List UInt8), ([10, 128] : List UInt8), ([120, 111, 114] : List UInt8), ([109, 111, 100] : List UInt8), ([124] : List UInt8), ([42] : List UInt8), ([100, 121, 110, 97, 109, 105, 99] : List UInt8), ([64] : List UInt8), ([64, 64] : List UInt8), ([104, 101, 108, 108, 111, 95, 87, 111, 114, 108, 100] : List UInt8)].length = 28 := rfl; omega)) (fun _ _ o_ => by rw [show _ = _ from o_]; rfl)))) ?_)
  obtain ⟨q52, M⟩ := chk M
  refine lW 21 (e_conv_sb (xs := ([([97] : List UInt8), ([102, 111, 111] : List UInt8), ([98, 49] : List UInt8), ([91, 93] : List UInt8), ([45] : List UInt8), ([43] : List UInt8), ([61] : List UInt8), ([58, 45] : List UInt8), ([44] : List UInt8), ([105, 115] : List UInt8), ([] : List UInt8), ([88, 32, 121] : List UInt8), ([92, 43] : List UInt8), ([123, 125] : List UInt8), ([33] : List UInt8), ([59] : List UInt8), ([46] : List UInt8), ([47, 42] : List UInt8), ([105, 116, 39, 115] : List UInt8), ([10, 128] : List UInt8), ([120, 111, 114] : List UInt8), ([109, 111, 100] : List UInt8), ([124] : List UInt8), ([42] : List UInt8), ([100, 121, 110, 97, 109, 105, 99] : List UInt8), ([64] : List UInt8), ([64, 64] : List UInt8), ([104, 101, 108, 108, 111, 95, 87, 111, 114, 108, 100] : List UInt8)].getD (((Int.tmod t18.1 28)).toNat) ([] : List UInt8))) S28 underlying9 underlying59 underlying5 kr q52) ?_
  rintro _ w53 ⟨A54, c55, F56, rfl, h57, S58, K59⟩
  replace b27 := K59.blk 0 rfl b27
  refine lV 2 (eA (.slice A54 (([([97] : List UInt8), ([102, 111, 111] : List UInt8), ([98, 49] : List UInt8), ([91, 93] : List UInt8), ([45] : List UInt8), ([43] : List UInt8), ([61] : List UInt8), ([58, 45] : List UInt8), ([44] : List UInt8), ([105, 115] : List UInt8), ([] : List UInt8), ([88, 32, 121] : List UInt8), ([92, 43] : List UInt8), ([123, 125] : List UInt8), ([33] : List UInt8), ([59] : List UInt8), ([46] : List UInt8), ([47, 42] : List UInt8), ([105, 116, 39, 115] : List UInt8), ([10, 128] : List UInt8), ([120, 111, 114] : List UInt8), ([109, 111, 100] : List UInt8), ([124] : List UInt8), ([42] : List UInt8), ([100, 121, 110, 97, 109, 105, 99] : List UInt8), ([64] : List UInt8), ([64, 64] : List UInt8), ([104, 101, 108, 108, 111, 95, 87, 111, 114, 108, 100] : List UInt8)].getD (((Int.tmod t18.1 28)).toNat) ([] : List UInt8)).length) c55)) (wN (tN (wT ?_)))
  obtain rfl := sj M
  have S60 := S58.pulls [(is g2), F56, (or2 (is g9) no)] [1] rfl
  have S61 := St.first (Fa := [(is g2), F56]) (Fr := [(or2 (is g9) no)]) S60
  exact ret1 rfl rfl  (show _ = .slice A54 (([([97] : List UInt8), ([102, 111, 111] : List UInt8), ([98, 49] : List UInt8), ([91, 93] : List UInt8), ([45] : List UInt8), ([43] : List UInt8), ([61] : List UInt8), ([58, 45] : List UInt8), ([44] : List UInt8), ([105, 115] : List UInt8), ([] : List UInt8), ([88, 32, 121] : List UInt8), ([92, 43] : List UInt8), ([123, 125] : List UInt8), ([33] : List UInt8), ([59] : List UInt8), ([46] : List UInt8), ([47, 42] : List UInt8), ([105, 116, 39, 115] : List UInt8), ([10, 128] : List UInt8), ([120, 111, 114] : List UInt8), ([109, 111, 100] : List UInt8), ([124] : List UInt8), ([42] : List UInt8), ([100, 121, 110, 97, 109, 105, 99] : List UInt8), ([64] : List UInt8), ([64, 64] : List UInt8), ([104, 101, 108, 108, 111, 95, 87, 111, 114, 108, 100] : List UInt8)].getD (((Int.tmod t18.1 28)).toNat) ([] : List UInt8)).length) c55 from kr) ⟨A23, c24, A54, c55, F56, H21, rfl, h25, l26, b27, h57, S61⟩

/-! spec_l4rd_left -/
def spec_l4rd_left.f (x1 : GL4rd) : Option Int := some (i64.wrap ((x1.b_.length : Int) - x1.i_))
theorem spec_l4rd_left.calls (w : World) (H : Hp) (x1 : GL4rd) (g2 : Nat) (A4 : Option Addr) (c5 : Nat) (h6 : Rd tByte H A4 x1.b_) (l7 : x1.b_.length ≤ c5) (b3 : H g2 = some (.cells #[.slice A4 x1.b_.length c5, .int .i64 x1.i_] 150 (0, 0))) (S : Own [] H w) (r : Int) (M : spec_l4rd_left.f x1 = some r) :
    Calls Try.prog 125 #[.pointer (some ⟨g2, 0, none⟩)] w (fun e e_w => e = .returned (.int .i64 r) ∧ Chg no w e_w) := by
  rw [spec_l4rd_left.f] at M
  refine enter (l := [.pointer (some ⟨g2, 0, none⟩)]) 13 func125 rfl rfl rfl ?_
  have S0_ := S.st
  refine wQ (wR (lV 2 (eA (.int .i64 0)) (wN (tN (wQ ?_)))))
  refine region_still kr kr S0_ ?_
  intro w8 S9 K10
  refine sV 3 (eM (.pointer (some ⟨g2, 0, none⟩))) (sV 4 (eN ⟨g2, 0, none⟩) (sV 5 (eD g2 0 0 1 underlying150) (sV 6 (eL ⟨g2, 0 + 0, none⟩ (.slice A4 x1.b_.length c5) underlying59 (blk_cell (S9.inv _ _ b3) rfl)) (sV 7 (e_len (A := A4) (n := x1.b_.length) (c := c5) underlying59 kr) (sV 8 (eM (.pointer (some ⟨g2, 0, none⟩))) (sV 9 (eN ⟨g2, 0, none⟩) (sV 10 (eD g2 0 1 1 underlying150) (sV 11 (eL ⟨g2, 0 + 1, none⟩ (.int .i64 x1.i_) underlying3 (blk_cell (S9.inv _ _ b3) rfl)) (sV 12 (e_sub (k := .i64) (a := (x1.b_.length : Int)) (b := x1.i_) kr kr) (sV 2 (eA (.int .i64 (i64.wrap ((x1.b_.length : Int) - x1.i_)))) (wpStill_nil (tN (wT ?_)))))))))))))
  obtain rfl := sj M
  exact ret1 rfl rfl  (show _ = .int .i64 (i64.wrap ((x1.b_.length : Int) - x1.i_)) from kr) ⟨rfl, S9.chg⟩

/-! spec_l2atom -/
def sl65 : Ty (List Cell) := slice 65 st65 (by decide)
def spec_l2atom.f (x1 : List UInt8) : Option (List Cell) := (if x1.length ≤ 9223372036854775807 then some [(⟨2, 0, x1⟩ : Cell)] else none)
theorem spec_l2atom.calls (w : World) (H : Hp) (x1 : List UInt8) (S : Own [] H w) (r : List Cell) (M : spec_l2atom.f x1 = some r) :
    Calls Try.prog 79 #[str x1] w (fun e e_w => ∃ (A_1 : Option Addr) (c_1 : Nat) (F_1 : Foot) (H_ : Hp), e = .returned (.slice A_1 r.length c_1) ∧ Row st65 65 H_ (hp e_w) F_1 A_1 c_1 r ∧ St (anyOf []) H w [F_1] H_ e_w) := by
  rw [spec_l2atom.f] at M
  refine enter (l := [str x1]) 7 func79 rfl rfl rfl ?_
  have S0_ := S.st
  refine wQ (wR (lV 2 (eA (.slice none 0 0)) (wN (tN (wQ (wR (lV 3 (eM (str x1)) ?_)))))))
  obtain ⟨q2, M⟩ := chk M
  refine lW 4 (e_conv_sb (xs := x1) S0_ underlying9 underlying59 underlying5 kr q2) ?_
  rintro _ w3 ⟨A4, c5, F6, rfl, h7, S8, K9⟩
  refine lV 5 (show _ = Result.ok (Next.value (.agg #[.int .i64 2, .int .i64 0, .slice A4 x1.length c5])) w3 from by kernel_rfl) ?_
  refine lW 6 (new_blk (v := fun g_ => .slice (some ⟨g_, 0, none⟩) 1 1) (cs := #[.int .i64 2, .int .i64 0, .slice A4 x1.length c5]) (t := 65) S8 kr) ?_
  rintro _ w10 ⟨g11, rfl, b12, S13, K14⟩
  replace h7 := h7.move (K14.at 0 rfl)
  have S16 := S13.pulls [(is g11), F6] [1, 1] rfl
  obtain ⟨h17, S18⟩ := row_lit (d := st65) (xs := [(⟨2, 0, x1⟩ : Cell)]) S16 b12 rfl (elsO_one1 (st65_mkO (x := (⟨2, 0, x1⟩ : Cell)) h7)) (Nat.le_of_ble_eq_true rfl)
  refine lV 2 (eA (.slice (some ⟨g11, 0, none⟩) 1 1)) (wN (tN (wT ?_)))
  obtain rfl := sj M
  exact ret1 rfl rfl  (show _ = .slice (some ⟨g11, 0, none⟩) 1 1 from kr) ⟨(some ⟨g11, 0, none⟩), 1, (or2 (is g11) F6), H, rfl, h17, S18⟩

/-! spec_l1copy -/
def spec_l1copy.f (x1 : List UInt8) : Option (List UInt8) := (if 0 + x1.length ≤ 140737488355328 then some x1 else none)
theorem spec_l1copy.calls (w : World) (H : Hp) (x1 : List UInt8) (A2 : Option Addr) (c3 : Nat) (h4 : Rd tByte H A2 x1) (l5 : x1.length ≤ c3) (S : Own [] H w) (r : List UInt8) (M : spec_l1copy.f x1 = some r) :
    Calls Try.prog 113 #[.slice A2 x1.length c3] w (fun e e_w => ∃ (A_1 : Option Addr) (c_1 : Nat) (F_1 : Foot) (H_ : Hp), e = .returned (.slice A_1 r.length c_1) ∧ Row tByte 5 H_ (hp e_w) F_1 A_1 c_1 r ∧ St (anyOf []) H w [F_1] H_ e_w) := by
  rw [spec_l1copy.f] at M
  refine enter (l := [.slice A2 x1.length c3]) 7 func113 rfl rfl rfl ?_
  have S0_ := S.st
  refine wQ (wR (lV 2 (eA (.slice none 0 0)) (wN (tN (wQ (wR (lV 3 (eA (.slice none 0 0)) (wN (tN (wQ (wR (lV 4 (eM (.slice none 0 0)) (lV 5 (eM (.slice A2 x1.length c3)) ?_)))))))))))))
  obtain ⟨y6, h7, h8⟩ := Rd.news (d := tByte) (ro_scal _ _) S0_ h4
  obtain ⟨q9, M⟩ := chk M
  have S10 := S0_.unit
  have S11 := S10.unit
  have S12 := S11.pulls [no, no] [1] rfl
  refine lW 6 (e_append (d := tByte) (n := 0) (xs := []) (cap := 0) (A := none) (ys := x1) (A2 := A2) (c2 := c3) (z := .int .u8 0) (bytes := 1) S12 underlying59 kr rfl (by decide) kr rfl kr (Row.nil _ _ _ _ no) h7 h8 (show (0 + x1.length) * 1 ≤ _ by first | omega | (simp only [List.length_cons, List.length_nil]; omega)) (by decide)) ?_
  rintro _ w13 ⟨A14, c15, F16, rfl, h17, S18, K19⟩
  replace h17 : Row tByte 5 H (hp w13) F16 A14 c15 x1 := h17
  refine lV 2 (eA (.slice A14 x1.length c15)) (wN (tN (wT ?_)))
  obtain rfl := sj M
  exact ret1 rfl rfl  (show _ = .slice A14 x1.length c15 from kr) ⟨A14, c15, F16, H, rfl, h17, S18⟩

/-! spec_l2copy -/
def spec_l2copy.l0 : Nat → (List Cell) → (List Cell) → Int → Option (List Cell)
  | 0, _, _, _ => none
  | k24 + 1, x1, x10, x15 => (if x15 < (x1.length : Int) then (if 0 ≤ x15 then ((spec_l1copy.f ((x1.getD ((x15).toNat) z65).text)).bind fun t95 => (if x10.length + 1 ≤ 3518437208883 then (spec_l2copy.l0 k24 x1 (x10 ++ [(⟨(x1.getD ((x15).toNat) z65).kind, (x1.getD ((x15).toNat) z65).n, t95⟩ : Cell)]) (i64.wrap (x15 + 1))) else none)) else none) else some x10)
def spec_l2copy.f (k : Nat) (x1 : List Cell) : Option (List Cell) := (spec_l2copy.l0 k x1 [] 0)
theorem spec_l2copy.calls (k : Nat) (w : World) (H : Hp) (x1 : List Cell) (A2 : Option Addr) (c3 : Nat) (h4 : Rd st65 H A2 x1) (l5 : x1.length ≤ c3) (S : Own [] H w) (r : List Cell) (M : spec_l2copy.f k x1 = some r) :
    Calls Try.prog 75 #[.slice A2 x1.length c3] w (fun e e_w => ∃ (A_1 : Option Addr) (c_1 : Nat) (F_1 : Foot) (H_ : Hp), e = .returned (.slice A_1 r.length c_1) ∧ Row st65 65 H_ (hp e_w) F_1 A_1 c_1 r ∧ St (anyOf []) H w [F_1] H_ e_w) := by
  rw [spec_l2copy.f] at M
  refine enter (l := [.slice A2 x1.length c3]) 32 func75 rfl rfl rfl ?_
  have S0_ := S.st
  refine wQ (wR (lV 2 (eA (.slice none 0 0)) (wN (tN (wQ (wR (lV 3 (eA (.slice none 0 0)) (wN (tN (wQ (wQ (wR (lV 4 (eA (.int .i64 0)) (wN (tN ?_)))))))))))))))
  refine wp_block ?_
  have S25 := S0_.unit
  refine wp_loop_g (fun k22 a23 w6 => ∃ (f7 : Nat → Value) (H8 : Hp) (x10 : List Cell) (A11 : Option Addr) (c12 : Nat) (F13 : Foot) (x15 : Int), a23 = mk 32 f7 ∧ f7 0 = .slice A2 x1.length c3 ∧ f7 3 = .slice A11 x10.length c12 ∧ f7 4 = .int .i64 x15 ∧ Row st65 65 H8 (hp w6) F13 A11 c12 x10 ∧ Ext H H8 ∧ St (anyOf []) H w [F13] H8 w6 ∧ spec_l2copy.l0 k22 x1 x10 x15 = some r) k ⟨_, H, [], none, 0, no, 0, rfl, kr, kr, kr, (Row.nil _ _ _ _ _), (Ext.refl _), S25, M⟩ ?_
  clear M
  rintro k22 a23 w6 ⟨f7, H8, x10, A11, c12, F13, x15, rfl, e16, e17, e18, h14, Y9, S19, M⟩
  rcases k22 with _ | k24
  · rw [spec_l2copy.l0] at M
    cases M
  rw [spec_l2copy.l0] at M
  refine wQ (wQ (wR (lV 5 (eM (.int .i64 x15) (by exact e18)) (lV 6 (eM (.slice A2 x1.length c3) (by exact e16)) (lV 7 (e_len (A := A2) (n := x1.length) (c := c3) underlying25 kr) (lV 8 (eLt .i64 x15 (x1.length : Int)) (wN (tN ?_))))))))
  by_cases q26 : x15 < (x1.length : Int)
  · replace M := ifp q26 M
    refine cT (bT q26) (wK (tN (wQ (wp_block ?_))))
    refine region_mix (S := (fun (L_ : Array Bool) (w_ : World) => Ext H8 (hp w_) ∧ True)) kr S19 ?_
    intro w27 S28 K29 hc30
    have hs31 : (fun (L_ : Array Bool) (w_ : World) => Ext H8 (hp w_) ∧ True) (Array.replicate 21 false) w27 := ⟨S28.inv, trivial⟩
    replace h14 := h14.move (K29.at 0 rfl)
    refine xV 0 11 rfl hc30 hs31 (fun L_ w_ hc_ hu_ hs_ => eM (.slice A11 x10.length c12) (by exact e17)) ?_; intro hc32 hs33
    refine xV 1 12 rfl hc32 hs33 (fun L_ w_ hc_ hu_ hs_ => eM (.slice A2 x1.length c3) (by exact e16)) ?_; intro hc34 hs35
    refine xV 2 13 rfl hc34 hs35 (fun L_ w_ hc_ hu_ hs_ => eM (.int .i64 x15) (by exact e18)) ?_; intro hc36 hs37
    obtain ⟨q38, M⟩ := chk M
    obtain ⟨b39, o40, e41⟩ := Rd.addr h4 (show (x15).toNat < x1.length by omega)
    obtain ⟨y42, r43, k44⟩ := Rd.at h4 e41 (getD_some z65 (show (x15).toNat < x1.length by omega))
    obtain ⟨A45, c46, rfl, l47, h48⟩ := st65_open r43
    refine xV 3 14 rfl hc36 hs37 (fun L_ w_ hc_ hu_ hs_ => eI b39 o40 x1.length c3 3 x15 .i64 underlying25 e41 q38 q26) ?_; intro hc49 hs50
    refine xV 4 15 rfl hc49 hs50 (fun L_ w_ hc_ hu_ hs_ => eD b39 (o40 + (x15 : Int).toNat * 3) 0 1 underlying65) ?_; intro hc51 hs52
    refine xV 5 16 rfl hc51 hs52 (fun L_ w_ hc_ hu_ hs_ => eL ⟨b39, o40 + (x15 : Int).toNat * 3 + 0, none⟩ (.int .i64 ((x1.getD ((x15).toNat) z65).kind)) underlying3 (hpx (hs_.1.cell (Y9.cell (k44 0 _ rfl))))) ?_; intro hc53 hs54
    refine xV 6 17 rfl hc53 hs54 (fun L_ w_ hc_ hu_ hs_ => eM (.slice A2 x1.length c3) (by exact e16)) ?_; intro hc55 hs56
    refine xV 7 18 rfl hc55 hs56 (fun L_ w_ hc_ hu_ hs_ => eM (.int .i64 x15) (by exact e18)) ?_; intro hc57 hs58
    obtain ⟨b59, o60, e61⟩ := Rd.addr h4 (show (x15).toNat < x1.length by omega)
    obtain ⟨y62, r63, k64⟩ := Rd.at h4 e61 (getD_some z65 (show (x15).toNat < x1.length by omega))
    obtain ⟨A65, c66, rfl, l67, h68⟩ := st65_open r63
    refine xV 8 19 rfl hc57 hs58 (fun L_ w_ hc_ hu_ hs_ => eI b59 o60 x1.length c3 3 x15 .i64 underlying25 e61 q38 q26) ?_; intro hc69 hs70
    refine xV 9 20 rfl hc69 hs70 (fun L_ w_ hc_ hu_ hs_ => eD b59 (o60 + (x15 : Int).toNat * 3) 1 1 underlying65) ?_; intro hc71 hs72
    refine xV 10 21 rfl hc71 hs72 (fun L_ w_ hc_ hu_ hs_ => eL ⟨b59, o60 + (x15 : Int).toNat * 3 + 1, none⟩ (.int .i64 ((x1.getD ((x15).toNat) z65).n)) underlying3 (hpx (hs_.1.cell (Y9.cell (k64 1 _ rfl))))) ?_; intro hc73 hs74
    refine xV 11 22 rfl hc73 hs74 (fun L_ w_ hc_ hu_ hs_ => eM (.slice A2 x1.length c3) (by exact e16)) ?_; intro hc75 hs76
    refine xO 12 hc75 ?_
    refine yO 12 23 rfl hs76 (eM (.int .i64 x15) (by exact e18)) ?_; intro hc77 hs78
    obtain ⟨b79, o80, e81⟩ := Rd.addr h4 (show (x15).toNat < x1.length by omega)
    obtain ⟨y82, r83, k84⟩ := Rd.at h4 e81 (getD_some z65 (show (x15).toNat < x1.length by omega))
    obtain ⟨A85, c86, rfl, l87, h88⟩ := st65_open r83
    refine xO 13 hc77 ?_
    refine yO 13 24 rfl hs78 (eI b79 o80 x1.length c3 3 x15 .i64 underlying25 e81 q38 q26) ?_; intro hc89 hs90
    refine xO 14 hc89 ?_
    refine yO 14 25 rfl hs90 (eD b79 (o80 + (x15 : Int).toNat * 3) 2 1 underlying65) ?_; intro hc91 hs92
    refine xO 15 hc91 ?_
    refine yO 15 26 rfl hs92 (eL ⟨b79, o80 + (x15 : Int).toNat * 3 + 2, none⟩ (.slice A85 ((x1.getD ((x15).toNat) z65).text).length c86) underlying59 (hpx (S28.inv.cell (Y9.cell (k84 2 _ rfl))))) ?_; intro hc93 hs94
    obtain ⟨t95, u96, M⟩ := bnd M
    refine xO 16 hc93 ?_
    refine yC 16 rfl (eC [.tmp 26] [.slice A85 ((x1.getD ((x15).toNat) z65).text).length c86] func113) (spec_l1copy.calls w27 H8 ((x1.getD ((x15).toNat) z65).text) A85 c86 (h88.ext Y9) l87 (St.own' (Fa := []) (Fr := [F13]) S28) t95 u96) ?_
    rintro hc104 _ w97 ⟨A100, c101, F103, H98, rfl, h102, T99⟩
    refine ⟨_, rfl, ?_⟩
    obtain ⟨S105, K106⟩ := St.call (Fa := []) (Fr := [F13]) S28 T99
    replace h14 := h14.move (K106.at 0 rfl)
    have E107 := T99.ext
    replace h14 := h14.ext E107
    refine ⟨⟨(Ext.trans E107 S105.inv), trivial⟩, fun hs108 => ?_⟩
    refine xO 17 hc104 ?_
    refine yO 17 28 rfl hs108 (show _ = Result.ok (Next.value (.agg #[.int .i64 ((x1.getD ((x15).toNat) z65).kind), .int .i64 ((x1.getD ((x15).toNat) z65).n), .slice A100 t95.length c101])) w97 from by kernel_rfl) ?_; intro hc109 hs110
    refine xO 18 hc109 ?_
    refine yE 18 29 rfl (new_blk (v := fun g_ => .slice (some ⟨g_, 0, none⟩) 1 1) (cs := #[.int .i64 ((x1.getD ((x15).toNat) z65).kind), .int .i64 ((x1.getD ((x15).toNat) z65).n), .slice A100 t95.length c101]) (t := 65) S105 kr) ?_
    rintro hc116 _ w111 ⟨g112, rfl, b113, S114, K115⟩
    replace h102 := h102.move (K115.at 0 rfl)
    replace h14 := h14.move (K115.at 1 rfl)
    refine ⟨⟨(Ext.trans E107 S114.inv), trivial⟩, fun hs117 => ?_⟩
    obtain ⟨q118, M⟩ := chk M
    have S120 := S114.pulls [F13, F103, (is g112)] [1, 2] rfl
    refine xO 19 hc116 ?_
    refine yE 19 30 rfl (e_append (d := st65) (n := x10.length) (xs := x10) (cap := c12) (A := A11) (ys := [(⟨(x1.getD ((x15).toNat) z65).kind, (x1.getD ((x15).toNat) z65).n, t95⟩ : Cell)]) (A2 := (some ⟨g112, 0, none⟩)) (c2 := 1) (z := .agg #[.int .i64 0, .int .i64 0, .slice none 0 0]) (bytes := 40) S120 underlying25 kr rfl (by decide) kr rfl kr h14 (elsO_one1 (st65_mkO (x := (⟨(x1.getD ((x15).toNat) z65).kind, (x1.getD ((x15).toNat) z65).n, t95⟩ : Cell)) h102)) (.inr (blk_news b113 rfl)) (show (x10.length + [(⟨(x1.getD ((x15).toNat) z65).kind, (x1.getD ((x15).toNat) z65).n, t95⟩ : Cell)].length) * 40 ≤ _ by first | omega | (simp only [List.length_cons, List.length_nil]; omega)) (by decide)) ?_
    rintro hc128 _ w121 ⟨A122, c123, F124, rfl, h125, S126, K127⟩
    refine ⟨⟨(Ext.trans E107 S126.inv), trivial⟩, fun hs129 => ?_⟩
    refine xO 20 hc128 ?_
    refine yO 20 3 rfl hs129 (eA (.slice A122 ((x10 ++ [(⟨(x1.getD ((x15).toNat) z65).kind, (x1.getD ((x15).toNat) z65).n, t95⟩ : Cell)]).length) c123)) ?_; intro hc130 hs131
    refine xn kr ?_ _
    refine inb_n (tN (wR (lV 9 (eM (.int .i64 x15) (by exact e18)) (lV 10 (eAdd .i64 x15 1) (lV 4 (eA (.int .i64 (i64.wrap (x15 + 1)))) (wN (tN ?_)))))))
    have S132 := St.first (Fa := [F124]) (Fr := [(is g112)]) S126
    exact ⟨k24, (by omega), _, H98, (x10 ++ [(⟨(x1.getD ((x15).toNat) z65).kind, (x1.getD ((x15).toNat) z65).n, t95⟩ : Cell)]), A122, c123, F124, (i64.wrap (x15 + 1)), rfl, (by exact e16), kr, kr, h125, (Y9.trans E107), S132, M⟩
  replace M := ifn q26 M
  refine cF (bF q26) (wp_exit (tE (tE (inb_hit (tN (wQ (wR (lV 31 (eM (.slice A11 x10.length c12) (by exact e17)) (lV 2 (eA (.slice A11 x10.length c12)) (wN (tN (wT ?_))))))))))))
  obtain rfl := sj M
  exact ret1 rfl rfl  (show _ = .slice A11 x10.length c12 from kr) ⟨A11, c12, F13, H8, rfl, h14, S19⟩

/-! spec_l2list -/
def spec_l2list.l0 : Nat → (List (List Cell)) → (List Cell) → (List Cell) → Int → Option (List Cell)
  | 0, _, _, _, _ => none
  | k30 + 1, x1, x6, x15, x20 => (if x20 < (x1.length : Int) then (if x15.length + 1 ≤ 3518437208883 then (if 0 ≤ x20 then ((spec_l2copy.f k30 (x1.getD ((x20).toNat) ([] : List Cell))).bind fun t68 => (if (x15 ++ [(⟨3, 2, [(46 : UInt8)]⟩ : Cell)]).length + t68.length ≤ 3518437208883 then (spec_l2list.l0 k30 x1 x6 ((x15 ++ [(⟨3, 2, [(46 : UInt8)]⟩ : Cell)]) ++ t68) (i64.wrap (x20 + 1))) else none)) else none) else none) else ((spec_l2copy.f k30 x6).bind fun t93 => (if x15.length + t93.length ≤ 3518437208883 then some (x15 ++ t93) else none)))
def spec_l2list.f (k : Nat) (x1 : List (List Cell)) (x6 : List Cell) : Option (List Cell) := (spec_l2list.l0 k x1 x6 [] 0)
theorem spec_l2list.calls (k : Nat) (w : World) (H : Hp) (x1 : List (List Cell)) (A2 : Option Addr) (c3 : Nat) (x6 : List Cell) (A7 : Option Addr) (c8 : Nat) (h4 : Rd sl65 H A2 x1) (l5 : x1.length ≤ c3) (h9 : Rd st65 H A7 x6) (l10 : x6.length ≤ c8) (S : Own [] H w) (r : List Cell) (M : spec_l2list.f k x1 x6 = some r) :
    Calls Try.prog 78 #[.slice A2 x1.length c3, .slice A7 x6.length c8] w (fun e e_w => ∃ (A_1 : Option Addr) (c_1 : Nat) (F_1 : Foot) (H_ : Hp), e = .returned (.slice A_1 r.length c_1) ∧ Row st65 65 H_ (hp e_w) F_1 A_1 c_1 r ∧ St (anyOf []) H w [F_1] H_ e_w) := by
  rw [spec_l2list.f] at M
  refine enter (l := [.slice A2 x1.length c3, .slice A7 x6.length c8]) 30 func78 rfl rfl rfl ?_
  have S0_ := S.st
  refine wQ (wR (lV 4 (eA (.slice none 0 0)) (wN (tN (wQ (wR (lV 5 (eA (.slice none 0 0)) (wN (tN (wQ (wQ (wR (lV 6 (eA (.int .i64 0)) (wN (tN ?_)))))))))))))))
  refine wp_block ?_
  have S31 := S0_.unit
  refine wp_loop_g (fun k28 a29 w11 => ∃ (f12 : Nat → Value) (H13 : Hp) (x15 : List Cell) (A16 : Option Addr) (c17 : Nat) (F18 : Foot) (x20 : Int), a29 = mk 30 f12 ∧ f12 0 = .slice A2 x1.length c3 ∧ f12 1 = .slice A7 x6.length c8 ∧ f12 5 = .slice A16 x15.length c17 ∧ f12 6 = .int .i64 x20 ∧ Row st65 65 H13 (hp w11) F18 A16 c17 x15 ∧ Ext H H13 ∧ St (anyOf []) H w [F18] H13 w11 ∧ spec_l2list.l0 k28 x1 x6 x15 x20 = some r) k ⟨_, H, [], none, 0, no, 0, rfl, kr, kr, kr, kr, (Row.nil _ _ _ _ _), (Ext.refl _), S31, M⟩ ?_
  clear M
  rintro k28 a29 w11 ⟨f12, H13, x15, A16, c17, F18, x20, rfl, e21, e22, e23, e24, h19, Y14, S25, M⟩
  rcases k28 with _ | k30
  · rw [spec_l2list.l0] at M
    cases M
  rw [spec_l2list.l0] at M
  refine wQ (wQ (wR (lV 7 (eM (.int .i64 x20) (by exact e24)) (lV 8 (eM (.slice A2 x1.length c3) (by exact e21)) (lV 9 (e_len (A := A2) (n := x1.length) (c := c3) underlying38 kr) (lV 10 (eLt .i64 x20 (x1.length : Int)) (wN (tN ?_))))))))
  by_cases q32 : x20 < (x1.length : Int)
  · replace M := ifp q32 M
    refine cT (bT q32) (wK (tN (wQ (wp_block (wQ (wR (lV 13 (eM (.slice A16 x15.length c17) (by exact e23)) ?_)))))))
    refine lW 14 (new_blk (v := fun g_ => .slice (some ⟨g_, 0, none⟩) 1 1) (cs := #[.int .u8 46]) (t := 5) S25 kr) ?_
    rintro _ w33 ⟨g34, rfl, b35, S36, K37⟩
    replace h19 := h19.move (K37.at 0 rfl)
    refine lW 15 (e_conv_lit (g := g34) (n := 1) (cur := #[.int .u8 46]) (xs := [(46 : UInt8)]) S36 b35 underlying59 underlying5 kr rfl rfl (by decide)) ?_
    rintro _ w38 ⟨rfl, h39, S40, K41⟩
    replace h19 := h19.move (K41.at 0 rfl)
    clear b35
    refine lV 16 (show _ = Result.ok (Next.value (.agg #[.int .i64 3, .int .i64 2, .slice (some ⟨g34, 0, none⟩) 1 1])) w38 from by kernel_rfl) ?_
    refine lW 17 (new_blk (v := fun g_ => .slice (some ⟨g_, 0, none⟩) 1 1) (cs := #[.int .i64 3, .int .i64 2, .slice (some ⟨g34, 0, none⟩) 1 1]) (t := 65) S40 kr) ?_
    rintro _ w42 ⟨g43, rfl, b44, S45, K46⟩
    replace h39 := h39.move (K46.at 0 rfl)
    replace h19 := h19.move (K46.at 1 rfl)
    obtain ⟨q47, M⟩ := chk M
    have S49 := S45.pulls [F18, (is g34), (is g43)] [1, 2] rfl
    refine lW 18 (e_append (d := st65) (n := x15.length) (xs := x15) (cap := c17) (A := A16) (ys := [(⟨3, 2, [(46 : UInt8)]⟩ : Cell)]) (A2 := (some ⟨g43, 0, none⟩)) (c2 := 1) (z := .agg #[.int .i64 0, .int .i64 0, .slice none 0 0]) (bytes := 40) S49 underlying25 kr rfl (by decide) kr rfl kr h19 (elsO_one1 (st65_mkO (x := (⟨3, 2, [(46 : UInt8)]⟩ : Cell)) h39)) (.inr (blk_news b44 rfl)) (show (x15.length + [(⟨3, 2, [(46 : UInt8)]⟩ : Cell)].length) * 40 ≤ _ by first | omega | (simp only [List.length_cons, List.length_nil]; omega)) (by decide)) ?_
    rintro _ w50 ⟨A51, c52, F53, rfl, h54, S55, K56⟩
    refine lV 5 (eA (.slice A51 ((x15 ++ [(⟨3, 2, [(46 : UInt8)]⟩ : Cell)]).length) c52)) (wN (tN (wR (lV 19 (eM (.slice A51 ((x15 ++ [(⟨3, 2, [(46 : UInt8)]⟩ : Cell)]).length) c52)) (lV 20 (eM (.slice A2 x1.length c3) (by exact e21)) (lV 21 (eM (.int .i64 x20) (by exact e24)) ?_))))))
    obtain ⟨q57, M⟩ := chk M
    obtain ⟨b58, o59, e60⟩ := Rd.addr h4 (show (x20).toNat < x1.length by omega)
    obtain ⟨y61, r62, k63⟩ := Rd.at h4 e60 (getD_some ([] : List Cell) (show (x20).toNat < x1.length by omega))
    obtain ⟨A64, c65, rfl, l66, h67⟩ := r62
    refine lV 22 (eI b58 o59 x1.length c3 1 x20 .i64 underlying38 e60 q57 q32) (lV 23 (eL ⟨b58, o59 + (x20 : Int).toNat * 1, none⟩ (.slice A64 (x1.getD ((x20).toNat) ([] : List Cell)).length c65) underlying25 (hpx (S55.inv.cell (Y14.cell (k63 0 _ rfl))))) ?_)
    obtain ⟨t68, u69, M⟩ := bnd M
    refine lC 24 (eC [.tmp 23] [.slice A64 (x1.getD ((x20).toNat) ([] : List Cell)).length c65] func75) (spec_l2copy.calls k30 w50 H13 (x1.getD ((x20).toNat) ([] : List Cell)) A64 c65 (h67.ext Y14) l66 (St.own' (Fa := []) (Fr := [F53, (is g43)]) S55) t68 u69) ?_
    rintro _ w70 ⟨A73, c74, F76, H71, rfl, h75, T72⟩
    refine ⟨_, rfl, ?_⟩
    obtain ⟨S77, K78⟩ := St.call (Fa := []) (Fr := [F53, (is g43)]) S55 T72
    replace h54 := h54.move (K78.at 0 rfl)
    have E79 := T72.ext
    replace h54 := h54.ext E79
    obtain ⟨y80, h81, h82⟩ := Row.news h75
    obtain ⟨q83, M⟩ := chk M
    have S84 := S77.pulls [F53, F76, (is g43)] [1] rfl
    refine lW 25 (e_append (d := st65) (n := (x15 ++ [(⟨3, 2, [(46 : UInt8)]⟩ : Cell)]).length) (xs := (x15 ++ [(⟨3, 2, [(46 : UInt8)]⟩ : Cell)])) (cap := c52) (A := A51) (ys := t68) (A2 := A73) (c2 := c74) (z := .agg #[.int .i64 0, .int .i64 0, .slice none 0 0]) (bytes := 40) S84 underlying25 kr rfl (by decide) kr rfl kr h54 h81 h82 (show ((x15 ++ [(⟨3, 2, [(46 : UInt8)]⟩ : Cell)]).length + t68.length) * 40 ≤ _ by first | omega | (simp only [List.length_cons, List.length_nil]; omega)) (by decide)) ?_
    rintro _ w85 ⟨A86, c87, F88, rfl, h89, S90, K91⟩
    refine lV 5 (eA (.slice A86 (((x15 ++ [(⟨3, 2, [(46 : UInt8)]⟩ : Cell)]) ++ t68).length) c87)) (wN (inb_n (tN (wR (lV 11 (eM (.int .i64 x20) (by exact e24)) (lV 12 (eAdd .i64 x20 1) (lV 6 (eA (.int .i64 (i64.wrap (x20 + 1)))) (wN (tN ?_)))))))))
    have S92 := St.first (Fa := [F88]) (Fr := [(is g43)]) S90
    exact ⟨k30, (by omega), _, H71, ((x15 ++ [(⟨3, 2, [(46 : UInt8)]⟩ : Cell)]) ++ t68), A86, c87, F88, (i64.wrap (x20 + 1)), rfl, (by exact e21), (by exact e22), kr, kr, h89, (Y14.trans E79), S92, M⟩
  replace M := ifn q32 M
  refine cF (bF q32) (wp_exit (tE (tE (inb_hit (tN (wQ (wR (lV 26 (eM (.slice A16 x15.length c17) (by exact e23)) (lV 27 (eM (.slice A7 x6.length c8) (by exact e22)) ?_)))))))))
  obtain ⟨t93, u94, M⟩ := bnd M
  refine lC 28 (eC [.tmp 27] [.slice A7 x6.length c8] func75) (spec_l2copy.calls k30 w11 H13 x6 A7 c8 (h9.ext Y14) l10 (St.own' (Fa := []) (Fr := [F18]) S25) t93 u94) ?_
  rintro _ w95 ⟨A98, c99, F101, H96, rfl, h100, T97⟩
  refine ⟨_, rfl, ?_⟩
  obtain ⟨S102, K103⟩ := St.call (Fa := []) (Fr := [F18]) S25 T97
  replace h19 := h19.move (K103.at 0 rfl)
  have E104 := T97.ext
  replace h19 := h19.ext E104
  obtain ⟨y105, h106, h107⟩ := Row.news h100
  obtain ⟨q108, M⟩ := chk M
  have S109 := S102.pulls [F18, F101] [1] rfl
  refine lW 29 (e_append (d := st65) (n := x15.length) (xs := x15) (cap := c17) (A := A16) (ys := t93) (A2 := A98) (c2 := c99) (z := .agg #[.int .i64 0, .int .i64 0, .slice none 0 0]) (bytes := 40) S109 underlying25 kr rfl (by decide) kr rfl kr h19 h106 h107 (show (x15.length + t93.length) * 40 ≤ _ by first | omega | (simp only [List.length_cons, List.length_nil]; omega)) (by decide)) ?_
  rintro _ w110 ⟨A111, c112, F113, rfl, h114, S115, K116⟩
  refine lV 4 (eA (.slice A111 ((x15 ++ t93).length) c112)) (wN (tN (wT ?_)))
  obtain rfl := sj M
  exact ret1 rfl rfl  (show _ = .slice A111 ((x15 ++ t93).length) c112 from kr) ⟨A111, c112, F113, H96, rfl, h114, S115⟩

/-! spec_l2comp -/
def spec_l2comp.l0 : Nat → (List (List Cell)) → (List Cell) → Int → Option (List Cell)
  | 0, _, _, _ => none
  | k42 + 1, x2, x28, x33 => (if x33 < (x2.length : Int) then (if 0 ≤ x33 then ((spec_l2copy.f k42 (x2.getD ((x33).toNat) ([] : List Cell))).bind fun t55 => (if x28.length + t55.length ≤ 3518437208883 then (spec_l2comp.l0 k42 x2 (x28 ++ t55) (i64.wrap (x33 + 1))) else none)) else none) else some x28)
def spec_l2comp.f (k : Nat) (x1 : List UInt8) (x2 : List (List Cell)) : Option (List Cell) := (if x1.length ≤ 9223372036854775807 then (spec_l2comp.l0 k x2 [(⟨3, (x2.length : Int), x1⟩ : Cell)] 0) else none)
theorem spec_l2comp.calls (k : Nat) (w : World) (H : Hp) (x1 : List UInt8) (x2 : List (List Cell)) (A3 : Option Addr) (c4 : Nat) (h5 : Rd sl65 H A3 x2) (l6 : x2.length ≤ c4) (S : Own [] H w) (r : List Cell) (M : spec_l2comp.f k x1 x2 = some r) :
    Calls Try.prog 124 #[str x1, .slice A3 x2.length c4] w (fun e e_w => ∃ (A_1 : Option Addr) (c_1 : Nat) (F_1 : Foot) (H_ : Hp), e = .returned (.slice A_1 r.length c_1) ∧ Row st65 65 H_ (hp e_w) F_1 A_1 c_1 r ∧ St (anyOf []) H w [F_1] H_ e_w) := by
  rw [spec_l2comp.f] at M
  refine enter (l := [str x1, .slice A3 x2.length c4]) 27 func124 rfl rfl rfl ?_
  have S0_ := S.st
  refine wQ (wR (lV 4 (eA (.slice none 0 0)) (wN (tN (wQ (wR (lV 7 (eM (.slice A3 x2.length c4)) (lV 8 (e_len (A := A3) (n := x2.length) (c := c4) underlying38 kr) (lV 9 (eM (str x1)) ?_)))))))))
  obtain ⟨q7, M⟩ := chk M
  refine lW 10 (e_conv_sb (xs := x1) S0_ underlying9 underlying59 underlying5 kr q7) ?_
  rintro _ w8 ⟨A9, c10, F11, rfl, h12, S13, K14⟩
  refine lV 11 (show _ = Result.ok (Next.value (.agg #[.int .i64 3, .int .i64 (x2.length : Int), .slice A9 x1.length c10])) w8 from by kernel_rfl) ?_
  refine lW 12 (new_blk (v := fun g_ => .slice (some ⟨g_, 0, none⟩) 1 1) (cs := #[.int .i64 3, .int .i64 (x2.length : Int), .slice A9 x1.length c10]) (t := 65) S13 kr) ?_
  rintro _ w15 ⟨g16, rfl, b17, S18, K19⟩
  replace h12 := h12.move (K19.at 0 rfl)
  have S21 := S18.pulls [(is g16), F11] [1, 1] rfl
  obtain ⟨h22, S23⟩ := row_lit (d := st65) (xs := [(⟨3, (x2.length : Int), x1⟩ : Cell)]) S21 b17 rfl (elsO_one1 (st65_mkO (x := (⟨3, (x2.length : Int), x1⟩ : Cell)) h12)) (Nat.le_of_ble_eq_true rfl)
  refine lV 5 (eA (.slice (some ⟨g16, 0, none⟩) 1 1)) (wN (tN (wQ (wQ (wR (lV 6 (eA (.int .i64 0)) (wN (tN (wp_block ?_)))))))))
  refine wp_loop_g (fun k40 a41 w24 => ∃ (f25 : Nat → Value) (H26 : Hp) (x28 : List Cell) (A29 : Option Addr) (c30 : Nat) (F31 : Foot) (x33 : Int), a41 = mk 27 f25 ∧ f25 1 = .slice A3 x2.length c4 ∧ f25 5 = .slice A29 x28.length c30 ∧ f25 6 = .int .i64 x33 ∧ Row st65 65 H26 (hp w24) F31 A29 c30 x28 ∧ Ext H H26 ∧ St (anyOf []) H w [F31] H26 w24 ∧ spec_l2comp.l0 k40 x2 x28 x33 = some r) k ⟨_, H, [(⟨3, (x2.length : Int), x1⟩ : Cell)], (some ⟨g16, 0, none⟩), 1, (or2 (is g16) F11), 0, rfl, kr, kr, kr, h22, (Ext.refl _), S23, M⟩ ?_
  clear M
  rintro k40 a41 w24 ⟨f25, H26, x28, A29, c30, F31, x33, rfl, e34, e35, e36, h32, Y27, S37, M⟩
  rcases k40 with _ | k42
  · rw [spec_l2comp.l0] at M
    cases M
  rw [spec_l2comp.l0] at M
  refine wQ (wQ (wR (lV 13 (eM (.int .i64 x33) (by exact e36)) (lV 14 (eM (.slice A3 x2.length c4) (by exact e34)) (lV 15 (e_len (A := A3) (n := x2.length) (c := c4) underlying38 kr) (lV 16 (eLt .i64 x33 (x2.length : Int)) (wN (tN ?_))))))))
  by_cases q43 : x33 < (x2.length : Int)
  · replace M := ifp q43 M
    refine cT (bT q43) (wK (tN (wQ (wp_block (wR (lV 19 (eM (.slice A29 x28.length c30) (by exact e35)) (lV 20 (eM (.slice A3 x2.length c4) (by exact e34)) (lV 21 (eM (.int .i64 x33) (by exact e36)) ?_))))))))
    obtain ⟨q44, M⟩ := chk M
    obtain ⟨b45, o46, e47⟩ := Rd.addr h5 (show (x33).toNat < x2.length by omega)
    obtain ⟨y48, r49, k50⟩ := Rd.at h5 e47 (getD_some ([] : List Cell) (show (x33).toNat < x2.length by omega))
    obtain ⟨A51, c52, rfl, l53, h54⟩ := r49
    refine lV 22 (eI b45 o46 x2.length c4 1 x33 .i64 underlying38 e47 q44 q43) (lV 23 (eL ⟨b45, o46 + (x33 : Int).toNat * 1, none⟩ (.slice A51 (x2.getD ((x33).toNat) ([] : List Cell)).length c52) underlying25 (hpx (S37.inv.cell (Y27.cell (k50 0 _ rfl))))) ?_)
    obtain ⟨t55, u56, M⟩ := bnd M
    refine lC 24 (eC [.tmp 23] [.slice A51 (x2.getD ((x33).toNat) ([] : List Cell)).length c52] func75) (spec_l2copy.calls k42 w24 H26 (x2.getD ((x33).toNat) ([] : List Cell)) A51 c52 (h54.ext Y27) l53 (St.own' (Fa := []) (Fr := [F31]) S37) t55 u56) ?_
    rintro _ w57 ⟨A60, c61, F63, H58, rfl, h62, T59⟩
    refine ⟨_, rfl, ?_⟩
    obtain ⟨S64, K65⟩ := St.call (Fa := []) (Fr := [F31]) S37 T59
    replace h32 := h32.move (K65.at 0 rfl)
    have E66 := T59.ext
    replace h32 := h32.ext E66
    obtain ⟨y67, h68, h69⟩ := Row.news h62
    obtain ⟨q70, M⟩ := chk M
    have S71 := S64.pulls [F31, F63] [1] rfl
    refine lW 25 (e_append (d := st65) (n := x28.length) (xs := x28) (cap := c30) (A := A29) (ys := t55) (A2 := A60) (c2 := c61) (z := .agg #[.int .i64 0, .int .i64 0, .slice none 0 0]) (bytes := 40) S71 underlying25 kr rfl (by decide) kr rfl kr h32 h68 h69 (show (x28.length + t55.length) * 40 ≤ _ by first | omega | (simp only [List.length_cons, List.length_nil]; omega)) (by decide)) ?_
    rintro _ w72 ⟨A73, c74, F75, rfl, h76, S77, K78⟩
    refine lV 5 (eA (.slice A73 ((x28 ++ t55).length) c74)) (wN (inb_n (tN (wR (lV 17 (eM (.int .i64 x33) (by exact e36)) (lV 18 (eAdd .i64 x33 1) (lV 6 (eA (.int .i64 (i64.wrap (x33 + 1)))) (wN (tN ?_)))))))))
    exact ⟨k42, (by omega), _, H58, (x28 ++ t55), A73, c74, F75, (i64.wrap (x33 + 1)), rfl, (by exact e34), kr, kr, h76, (Y27.trans E66), S77, M⟩
  replace M := ifn q43 M
  refine cF (bF q43) (wp_exit (tE (tE (inb_hit (tN (wQ (wR (lV 26 (eM (.slice A29 x28.length c30) (by exact e35)) (lV 4 (eA (.slice A29 x28.length c30)) (wN (tN (wT ?_))))))))))))
  obtain rfl := sj M
  exact ret1 rfl rfl  (show _ = .slice A29 x28.length c30 from kr) ⟨A29, c30, F31, H26, rfl, h32, S37⟩

/-! spec_l2pair -/
def spec_l2pair.f (k : Nat) (x1 : List UInt8) (x2 : List Cell) (x7 : List Cell) : Option (List Cell) := ((spec_l2comp.f k x1 [x2, x7]).bind fun t27 => some t27)
theorem spec_l2pair.calls (k : Nat) (w : World) (H : Hp) (x1 : List UInt8) (x2 : List Cell) (A3 : Option Addr) (c4 : Nat) (x7 : List Cell) (A8 : Option Addr) (c9 : Nat) (h5 : Rd st65 H A3 x2) (l6 : x2.length ≤ c4) (h10 : Rd st65 H A8 x7) (l11 : x7.length ≤ c9) (S : Own [] H w) (r : List Cell) (M : spec_l2pair.f k x1 x2 x7 = some r) :
    Calls Try.prog 99 #[str x1, .slice A3 x2.length c4, .slice A8 x7.length c9] w (fun e e_w => ∃ (A_1 : Option Addr) (c_1 : Nat) (F_1 : Foot) (H_ : Hp), e = .returned (.slice A_1 r.length c_1) ∧ Row st65 65 H_ (hp e_w) F_1 A_1 c_1 r ∧ St (anyOf []) H w [F_1] H_ e_w) := by
  rw [spec_l2pair.f] at M
  refine enter (l := [str x1, .slice A3 x2.length c4, .slice A8 x7.length c9]) 12 func99 rfl rfl rfl ?_
  have S0_ := S.st
  refine wQ (wR (lV 6 (eA (.slice none 0 0)) (wN (tN (wQ (wR (lV 7 (eM (str x1)) (lV 8 (eM (.slice A3 x2.length c4)) (lV 9 (eM (.slice A8 x7.length c9)) ?_)))))))))
  refine lW 10 (new_blk (v := fun g_ => .slice (some ⟨g_, 0, none⟩) 2 2) (cs := #[.slice A3 x2.length c4, .slice A8 x7.length c9]) (t := 25) S0_ kr) ?_
  rintro _ w12 ⟨g13, rfl, b14, S15, K16⟩
  have S17 := S15.unit
  have S18 := S17.pulls [(is g13), no] [1] rfl
  obtain ⟨h19, S20⟩ := row_lit (d := (ro sl65)) (xs := [x2, x7]) S18 b14 rfl (elsO_no (d := (ro sl65)) ⟨A3, c4, rfl, l6, h5⟩ (elsO_no (d := (ro sl65)) ⟨A8, c9, rfl, l11, h10⟩ (elsO_nil _ _ _ no))) (Nat.le_of_ble_eq_true rfl)
  have l21 := h19.le
  obtain ⟨H22, S23, E24, h25, z26⟩ := S20.frzRow h19
  replace h25 := h25.unro
  obtain ⟨t27, u28, M⟩ := bnd M
  refine lC 11 (eC [.tmp 7, .tmp 10] [str x1, .slice (some ⟨g13, 0, none⟩) 2 2] func124) (spec_l2comp.calls k w12 H22 x1 [x2, x7] (some ⟨g13, 0, none⟩) 2 h25 l21 (St.own' (Fa := []) (Fr := []) S23) t27 u28) ?_
  rintro _ w29 ⟨A32, c33, F35, H30, rfl, h34, T31⟩
  refine ⟨_, rfl, ?_⟩
  obtain ⟨S36, K37⟩ := St.call (Fa := []) (Fr := []) S23 T31
  have E38 := T31.ext
  refine lV 6 (eA (.slice A32 t27.length c33)) (wN (tN (wT ?_)))
  obtain rfl := sj M
  exact ret1 rfl rfl  (show _ = .slice A32 t27.length c33 from kr) ⟨A32, c33, F35, H30, rfl, h34, S36⟩

/-! spec_l4term -/
mutual
def spec_l4term.l0 : Nat → Int → (Int × GL4rd) → (List (List Cell)) → Int → (List UInt8) → Int → Option ((List Cell) × GL4rd)
  | 0, _, _, _, _, _, _ => none
  | k307 + 1, x8, t9, x284, x289, x290, x295 => (if x289 < (i64.wrap (1 + (Int.tmod t9.1 3))) then ((spec_l4term.f k307 (⟨x290, x295⟩ : GL4rd) (i64.wrap (x8 - 1))).bind fun t311 => (if x284.length + 1 ≤ 5864062014805 then (spec_l4term.l0 k307 x8 t9 (x284 ++ [t311.1]) (i64.wrap (x289 + 1)) t311.2.b_ t311.2.i_) else none)) else ((spec_l2atom.f ([91, 93] : List UInt8)).bind fun t345 => (if (Int.tmod t9.1 4) = 0 then ((spec_l4term.f k307 (⟨x290, x295⟩ : GL4rd) (i64.wrap (x8 - 2))).bind fun t382 => (spec_l4term.l1 k307 x284 t382.1 t382.2.b_ t382.2.i_)) else (spec_l4term.l1 k307 x284 t345 x290 x295))))
def spec_l4term.l1 : Nat → (List (List Cell)) → (List Cell) → (List UInt8) → Int → Option ((List Cell) × GL4rd)
  | 0, _, _, _, _ => none
  | k378 + 1, x284, x361, x366, x371 => ((spec_l2list.f k378 x284 x361).bind fun t419 => some (t419, (⟨x366, x371⟩ : GL4rd)))
def spec_l4term.l2 : Nat → Int → (Int × GL4rd) → (List (List Cell)) → Int → (List UInt8) → Int → Option ((List Cell) × GL4rd)
  | 0, _, _, _, _, _, _ => none
  | k695 + 1, x8, t9, x673, x678, x679, x684 => (if x678 < (i64.wrap (1 + (Int.tmod t9.1 4))) then ((spec_l4term.f k695 (⟨x679, x684⟩ : GL4rd) (i64.wrap (x8 - 1))).bind fun t700 => (if x673.length + 1 ≤ 5864062014805 then (spec_l4term.l2 k695 x8 t9 (x673 ++ [t700.1]) (i64.wrap (x678 + 1)) t700.2.b_ t700.2.i_) else none)) else ((spec_l4name.f (⟨x679, x684⟩ : GL4rd)).bind fun t734 => ((spec_l2comp.f k695 t734.1 x673).bind fun t758 => some (t758, t734.2))))
def spec_l4term.f : Nat → GL4rd → Int → Option ((List Cell) × GL4rd)
  | 0, _, _ => none
  | k1_ + 1, x1, x8 => ((spec_l4rd_next_2.f x1).bind fun t9 => (if x8 ≤ 0 then (if (Int.tmod t9.1 5) = 0 then ((spec_l4int_2.f t9.2).bind fun t24 => ((spec_l2num.f t24.1).bind fun t37 => some (t37, t24.2))) else (if (Int.tmod t9.1 5) < 3 then ((spec_l4rd_next_2.f t9.2).bind fun t51 => ((spec_l2var.f (Int.tmod t51.1 5)).bind fun t64 => some (t64, t51.2))) else ((spec_l4name.f t9.2).bind fun t77 => some ([(⟨2, 0, t77.1⟩ : Cell)], t77.2)))) else ((spec_l4rd_left.f t9.2).bind fun t104 => (if t104 = 0 then (if (Int.tmod t9.1 5) = 0 then ((spec_l4int_2.f t9.2).bind fun t117 => ((spec_l2num.f t117.1).bind fun t130 => some (t130, t117.2))) else (if (Int.tmod t9.1 5) < 3 then ((spec_l4rd_next_2.f t9.2).bind fun t144 => ((spec_l2var.f (Int.tmod t144.1 5)).bind fun t157 => some (t157, t144.2))) else ((spec_l4name.f t9.2).bind fun t170 => some ([(⟨2, 0, t170.1⟩ : Cell)], t170.2)))) else (if t9.1 < 50 then (if (Int.tmod t9.1 5) = 0 then ((spec_l4int_2.f t9.2).bind fun t199 => ((spec_l2num.f t199.1).bind fun t212 => some (t212, t199.2))) else (if (Int.tmod t9.1 5) < 3 then ((spec_l4rd_next_2.f t9.2).bind fun t226 => ((spec_l2var.f (Int.tmod t226.1 5)).bind fun t239 => some (t239, t226.2))) else ((spec_l4name.f t9.2).bind fun t252 => some ([(⟨2, 0, t252.1⟩ : Cell)], t252.2)))) else (if t9.1 < 90 then (spec_l4term.l0 k1_ x8 t9 [] 0 t9.2.b_ t9.2.i_) else (if t9.1 < 180 then ((spec_l4rd_next_2.f t9.2).bind fun t475 => (if 0 ≤ (Int.tmod t475.1 17) then (if (Int.tmod t475.1 17) < (17 : Int) then ((spec_l4term.f k1_ t475.2 (i64.wrap (x8 - 1))).bind fun t501 => ((spec_l4term.f k1_ t501.2 (i64.wrap (x8 - 1))).bind fun t520 => ((spec_l2pair.f k1_ ([([45] : List UInt8), ([43] : List UInt8), ([61] : List UInt8), ([44] : List UInt8), ([58, 45] : List UInt8), ([59] : List UInt8), ([45, 62] : List UInt8), ([105, 115] : List UInt8), ([94] : List UInt8), ([42, 42] : List UInt8), ([42] : List UInt8), ([64, 64] : List UInt8), ([109, 111, 100] : List UInt8), ([102] : List UInt8), ([45, 45, 62] : List UInt8), ([114] : List UInt8), ([113] : List UInt8)].getD (((Int.tmod t475.1 17)).toNat) ([] : List UInt8)) t501.1 t520.1).bind fun t553 => some (t553, t520.2)))) else none) else none)) else (if t9.1 < 230 then ((spec_l4rd_next_2.f t9.2).bind fun t589 => (if 0 ≤ (Int.tmod t589.1 12) then (if (Int.tmod t589.1 12) < (12 : Int) then ((spec_l4term.f k1_ t589.2 (i64.wrap (x8 - 1))).bind fun t615 => ((spec_l2comp.f k1_ ([([45] : List UInt8), ([92, 43] : List UInt8), ([58, 45] : List UInt8), ([43] : List UInt8), ([123, 125] : List UInt8), ([100, 121, 110, 97, 109, 105, 99] : List UInt8), ([103] : List UInt8), ([92] : List UInt8), ([112] : List UInt8), ([64, 64] : List UInt8), ([91, 93] : List UInt8), ([33] : List UInt8)].getD (((Int.tmod t589.1 12)).toNat) ([] : List UInt8)) [t615.1]).bind fun t651 => some (t651, t615.2))) else none) else none)) else (spec_l4term.l2 k1_ x8 t9 [] 0 t9.2.b_ t9.2.i_)))))))))
end
theorem spec_l4term.all : ∀ (K : Nat), (∀ (k : Nat), k < K → ∀ (w : World) (H : Hp) (x1 : GL4rd) (g2 : Nat) (A4 : Option Addr) (c5 : Nat) (x8 : Int) (h6 : Rd tByte H A4 x1.b_) (l7 : x1.b_.length ≤ c5) (b3 : w.heap[g2]? = some (.cells #[.slice A4 x1.b_.length c5, .int .i64 x1.i_] 150 (0, 0))) (S : Own [(is g2)] H w) (r : (List Cell) × GL4rd) (M : spec_l4term.f k x1 x8 = some r), Calls Try.prog 122 #[.pointer (some ⟨g2, 0, none⟩), .int .i64 x8] w (fun e e_w => ∃ (A_1 : Option Addr) (c_1 : Nat) (A_2 : Option Addr) (c_2 : Nat) (F_1 : Foot) (H_ : Hp), e = .returned (.slice A_2 r.1.length c_2) ∧ Rd tByte H_ A_1 r.2.b_ ∧ r.2.b_.length ≤ c_1 ∧ e_w.heap[g2]? = some (.cells #[.slice A_1 r.2.b_.length c_1, .int .i64 r.2.i_] 150 (0, 0)) ∧ Row st65 65 H_ (hp e_w) F_1 A_2 c_2 r.1 ∧ St (anyOf [(is g2)]) H w [(is g2), F_1] H_ e_w)) := by
  intro K
  induction K with
  | zero => intro k hk; omega
  | succ K ih =>
    intro k hk w H x1 g2 A4 c5 x8 h6 l7 b3 S r M
    rcases k with _ | k1_
    · rw [spec_l4term.f] at M
      cases M
    rw [spec_l4term.f] at M
    refine enter (l := [.pointer (some ⟨g2, 0, none⟩), .int .i64 x8]) 126 func122 rfl rfl rfl ?_
    have S0_ := S.st
    refine wQ (wR (lV 4 (eA (.slice none 0 0)) (wN (tN (wQ (wR (lV 15 (eM (.pointer (some ⟨g2, 0, none⟩))) ?_)))))))
    obtain ⟨t9, u10, M⟩ := bnd M
    refine lC 16 (eC [.tmp 15] [.pointer (some ⟨g2, 0, none⟩)] func96) (spec_l4rd_next_2.calls w H x1 g2 A4 c5 h6 l7 b3 (St.own' (Fa := [(is g2)]) (Fr := []) S0_) t9 u10) ?_
    rintro _ w11 ⟨A14, c15, H12, rfl, h16, l17, b18, T13⟩
    refine ⟨_, rfl, ?_⟩
    obtain ⟨S19, K20⟩ := St.call (Fa := [(is g2)]) (Fr := []) S0_ T13
    have E21 := T13.ext
    refine lV 5 (eA (.int .i64 t9.1)) (wN (tN (wQ (wQ (wR (lV 17 (eM (.int .i64 x8)) (lV 18 (e_leq (k := .i64) (a := x8) (b := 0) kr rfl) (lV 19 (eM (.bool (decide (x8 ≤ 0)))) ?_))))))))
    by_cases q22 : x8 ≤ 0
    · replace M := ifp q22 M
      refine lK 19 true (bT q22) ?_
      refine lK 19 true (bT q22) ?_
      refine lK 19 true (bT q22) ?_
      refine lV 23 (eT (.bool true) (bT q22)) (lV 24 (eM (.bool true)) (lJ 24 true ?_))
      refine lJ 24 true ?_
      refine lV 27 (eT (.bool true)) (wN (tN (cond_t rfl kr (wQ (wQ (wR (lV 28 (eM (.int .i64 t9.1)) (lV 29 (e_rem (k := .i64) (a := t9.1) (b := 5) kr rfl (by decide)) (lV 30 (eEq .i64 (Int.tmod t9.1 5) 0) (wN (tN ?_)))))))))))
      by_cases q23 : (Int.tmod t9.1 5) = 0
      · replace M := ifp q23 M
        refine cT (bT q23) (wQ (wR (lV 31 (eM (.pointer (some ⟨g2, 0, none⟩))) ?_)))
        obtain ⟨t24, u25, M⟩ := bnd M
        refine lC 32 (eC [.tmp 31] [.pointer (some ⟨g2, 0, none⟩)] func132) (spec_l4int_2.calls w11 H12 t9.2 g2 A14 c15 h16 l17 b18 (St.own' (Fa := [(is g2)]) (Fr := []) S19) t24 u25) ?_
        rintro _ w26 ⟨A29, c30, H27, rfl, h31, l32, b33, T28⟩
        refine ⟨_, rfl, ?_⟩
        obtain ⟨S34, K35⟩ := St.call (Fa := [(is g2)]) (Fr := []) S19 T28
        have E36 := T28.ext
        obtain ⟨t37, u38, M⟩ := bnd M
        refine lC 33 (eC [.tmp 32] [.int .i64 t24.1] func131) (spec_l2num.calls w26 H27 t24.1  (St.own' (Fa := []) (Fr := [(is g2)]) S34) t37 u38) ?_
        rintro _ w39 ⟨A42, c43, F45, H40, rfl, h44, T41⟩
        refine ⟨_, rfl, ?_⟩
        obtain ⟨S46, K47⟩ := St.call (Fa := []) (Fr := [(is g2)]) S34 T41
        replace b33 := K47.blk 0 rfl b33
        have E48 := T41.ext
        refine lV 4 (eA (.slice A42 t37.length c43)) (wN (tN (wT (tR (tR ?_)))))
        obtain rfl := sj M
        have S49 := S46.pulls [(is g2), F45] [1] rfl
        exact ret1 rfl rfl  (show _ = .slice A42 t37.length c43 from kr) ⟨A29, c30, A42, c43, F45, H40, rfl, (h31.ext E48), l32, b33, h44, S49⟩
      replace M := ifn q23 M
      refine cF (bF q23) (wK (tN (wQ (wQ (wR (lV 34 (eM (.int .i64 t9.1)) (lV 35 (e_rem (k := .i64) (a := t9.1) (b := 5) kr rfl (by decide)) (lV 36 (eLt .i64 (Int.tmod t9.1 5) 3) (wN (tN ?_))))))))))
      by_cases q50 : (Int.tmod t9.1 5) < 3
      · replace M := ifp q50 M
        refine cT (bT q50) (wQ (wR (lV 37 (eM (.pointer (some ⟨g2, 0, none⟩))) ?_)))
        obtain ⟨t51, u52, M⟩ := bnd M
        refine lC 38 (eC [.tmp 37] [.pointer (some ⟨g2, 0, none⟩)] func96) (spec_l4rd_next_2.calls w11 H12 t9.2 g2 A14 c15 h16 l17 b18 (St.own' (Fa := [(is g2)]) (Fr := []) S19) t51 u52) ?_
        rintro _ w53 ⟨A56, c57, H54, rfl, h58, l59, b60, T55⟩
        refine ⟨_, rfl, ?_⟩
        obtain ⟨S61, K62⟩ := St.call (Fa := [(is g2)]) (Fr := []) S19 T55
        have E63 := T55.ext
        refine lV 39 (e_rem (k := .i64) (a := t51.1) (b := 5) kr rfl (by decide)) ?_
        obtain ⟨t64, u65, M⟩ := bnd M
        refine lC 40 (eC [.tmp 39] [.int .i64 (Int.tmod t51.1 5)] func98) (spec_l2var.calls w53 H54 (Int.tmod t51.1 5)  (St.own' (Fa := []) (Fr := [(is g2)]) S61) t64 u65) ?_
        rintro _ w66 ⟨A69, c70, F72, H67, rfl, h71, T68⟩
        refine ⟨_, rfl, ?_⟩
        obtain ⟨S73, K74⟩ := St.call (Fa := []) (Fr := [(is g2)]) S61 T68
        replace b60 := K74.blk 0 rfl b60
        have E75 := T68.ext
        refine lV 4 (eA (.slice A69 t64.length c70)) (wN (tN (wT (tR (tR ?_)))))
        obtain rfl := sj M
        have S76 := S73.pulls [(is g2), F72] [1] rfl
        exact ret1 rfl rfl  (show _ = .slice A69 t64.length c70 from kr) ⟨A56, c57, A69, c70, F72, H67, rfl, (h58.ext E75), l59, b60, h71, S76⟩
      replace M := ifn q50 M
      refine cF (bF q50) (wK (tN (wQ (wR (lV 41 (eM (.pointer (some ⟨g2, 0, none⟩))) ?_)))))
      obtain ⟨t77, u78, M⟩ := bnd M
      refine lC 42 (eC [.tmp 41] [.pointer (some ⟨g2, 0, none⟩)] func133) (spec_l4name.calls w11 H12 t9.2 g2 A14 c15 h16 l17 b18 (St.own' (Fa := [(is g2)]) (Fr := []) S19) t77 u78) ?_
      rintro _ w79 ⟨A82, c83, A87, c88, F90, H80, rfl, h84, l85, b86, h89, T81⟩
      refine ⟨_, rfl, ?_⟩
      obtain ⟨S91, K92⟩ := St.call (Fa := [(is g2)]) (Fr := []) S19 T81
      have E93 := T81.ext
      refine lV 43 (show _ = Result.ok (Next.value (.agg #[.int .i64 2, .int .i64 0, .slice A87 t77.1.length c88])) w79 from by kernel_rfl) ?_
      refine lW 44 (new_blk (v := fun g_ => .slice (some ⟨g_, 0, none⟩) 1 1) (cs := #[.int .i64 2, .int .i64 0, .slice A87 t77.1.length c88]) (t := 65) S91 kr) ?_
      rintro _ w94 ⟨g95, rfl, b96, S97, K98⟩
      replace b86 := K98.blk 0 rfl b86
      replace h89 := h89.move (K98.at 1 rfl)
      have S100 := S97.pulls [(is g95), F90, (is g2)] [2, 1] rfl
      obtain ⟨h101, S102⟩ := row_lit (d := st65) (xs := [(⟨2, 0, t77.1⟩ : Cell)]) S100 b96 rfl (elsO_one1 (st65_mkO (x := (⟨2, 0, t77.1⟩ : Cell)) h89)) (Nat.le_of_ble_eq_true rfl)
      refine lV 4 (eA (.slice (some ⟨g95, 0, none⟩) 1 1)) (wN (tN (wT (tR ?_))))
      obtain rfl := sj M
      have S103 := S102.pulls [(is g2), (or2 (is g95) F90)] [1] rfl
      exact ret1 rfl rfl  (show _ = .slice (some ⟨g95, 0, none⟩) 1 1 from kr) ⟨A82, c83, (some ⟨g95, 0, none⟩), 1, (or2 (is g95) F90), H80, rfl, h84, l85, b86, h101, S103⟩
    replace M := ifn q22 M
    refine lG 20 19 (bF q22) (eM (.pointer (some ⟨g2, 0, none⟩))) ?_
    obtain ⟨t104, u105, M⟩ := bnd M
    refine lcallg (d := 21) (t := 19) rfl kr rfl (bF q22) rfl kr (eC [.tmp 20] [.pointer (some ⟨g2, 0, none⟩)] func125) (by obtain ⟨H106, S107, E108, h109, z110⟩ := S19.frzBlk b18; exact (spec_l4rd_left.calls w11 H106 t9.2 g2 A14 c15 (h16.ext E108) l17 h109 S107.own0 t104 u105)) ?_
    rintro _ w111 ⟨rfl, C112⟩
    refine ⟨_, rfl, ?_⟩
    obtain ⟨S113, K114⟩ := S19.still C112
    replace b18 := K114.blk 0 rfl b18
    refine lG 22 19 (bF q22) (eEq .i64 t104 0) (lV 23 (eF (.bool (decide (t104 = 0))) (bF q22)) (lV 24 (eM (.bool (decide (t104 = 0)))) ?_))
    by_cases q115 : t104 = 0
    · replace M := ifp q115 M
      refine lK 24 true (bT q115) ?_
      refine lK 24 true (bT q115) ?_
      refine lV 27 (eT (.bool true) (bT q115)) (wN (tN (cond_t rfl kr (wQ (wQ (wR (lV 28 (eM (.int .i64 t9.1)) (lV 29 (e_rem (k := .i64) (a := t9.1) (b := 5) kr rfl (by decide)) (lV 30 (eEq .i64 (Int.tmod t9.1 5) 0) (wN (tN ?_)))))))))))
      by_cases q116 : (Int.tmod t9.1 5) = 0
      · replace M := ifp q116 M
        refine cT (bT q116) (wQ (wR (lV 31 (eM (.pointer (some ⟨g2, 0, none⟩))) ?_)))
        obtain ⟨t117, u118, M⟩ := bnd M
        refine lC 32 (eC [.tmp 31] [.pointer (some ⟨g2, 0, none⟩)] func132) (spec_l4int_2.calls w111 H12 t9.2 g2 A14 c15 h16 l17 b18 (St.own' (Fa := [(is g2)]) (Fr := []) S113) t117 u118) ?_
        rintro _ w119 ⟨A122, c123, H120, rfl, h124, l125, b126, T121⟩
        refine ⟨_, rfl, ?_⟩
        obtain ⟨S127, K128⟩ := St.call (Fa := [(is g2)]) (Fr := []) S113 T121
        have E129 := T121.ext
        obtain ⟨t130, u131, M⟩ := bnd M
        refine lC 33 (eC [.tmp 32] [.int .i64 t117.1] func131) (spec_l2num.calls w119 H120 t117.1  (St.own' (Fa := []) (Fr := [(is g2)]) S127) t130 u131) ?_
        rintro _ w132 ⟨A135, c136, F138, H133, rfl, h137, T134⟩
        refine ⟨_, rfl, ?_⟩
        obtain ⟨S139, K140⟩ := St.call (Fa := []) (Fr := [(is g2)]) S127 T134
        replace b126 := K140.blk 0 rfl b126
        have E141 := T134.ext
        refine lV 4 (eA (.slice A135 t130.length c136)) (wN (tN (wT (tR (tR ?_)))))
        obtain rfl := sj M
        have S142 := S139.pulls [(is g2), F138] [1] rfl
        exact ret1 rfl rfl  (show _ = .slice A135 t130.length c136 from kr) ⟨A122, c123, A135, c136, F138, H133, rfl, (h124.ext E141), l125, b126, h137, S142⟩
      replace M := ifn q116 M
      refine cF (bF q116) (wK (tN (wQ (wQ (wR (lV 34 (eM (.int .i64 t9.1)) (lV 35 (e_rem (k := .i64) (a := t9.1) (b := 5) kr rfl (by decide)) (lV 36 (eLt .i64 (Int.tmod t9.1 5) 3) (wN (tN ?_))))))))))
      by_cases q143 : (Int.tmod t9.1 5) < 3
      · replace M := ifp q143 M
        refine cT (bT q143) (wQ (wR (lV 37 (eM (.pointer (some ⟨g2, 0, none⟩))) ?_)))
        obtain ⟨t144, u145, M⟩ := bnd M
        refine lC 38 (eC [.tmp 37] [.pointer (some ⟨g2, 0, none⟩)] func96) (spec_l4rd_next_2.calls w111 H12 t9.2 g2 A14 c15 h16 l17 b18 (St.own' (Fa := [(is g2)]) (Fr := []) S113) t144 u145) ?_
        rintro _ w146 ⟨A149, c150, H147, rfl, h151, l152, b153, T148⟩
        refine ⟨_, rfl, ?_⟩
        obtain ⟨S154, K155⟩ := St.call (Fa := [(is g2)]) (Fr := []) S113 T148
        have E156 := T148.ext
        refine lV 39 (e_rem (k := .i64) (a := t144.1) (b := 5) kr rfl (by decide)) ?_
        obtain ⟨t157, u158, M⟩ := bnd M
        refine lC 40 (eC [.tmp 39] [.int .i64 (Int.tmod t144.1 5)] func98) (spec_l2var.calls w146 H147 (Int.tmod t144.1 5)  (St.own' (Fa := []) (Fr := [(is g2)]) S154) t157 u158) ?_
        rintro _ w159 ⟨A162, c163, F165, H160, rfl, h164, T161⟩
        refine ⟨_, rfl, ?_⟩
        obtain ⟨S166, K167⟩ := St.call (Fa := []) (Fr := [(is g2)]) S154 T161
        replace b153 := K167.blk 0 rfl b153
        have E168 := T161.ext
        refine lV 4 (eA (.slice A162 t157.length c163)) (wN (tN (wT (tR (tR ?_)))))
        obtain rfl := sj M
        have S169 := S166.pulls [(is g2), F165] [1] rfl
        exact ret1 rfl rfl  (show _ = .slice A162 t157.length c163 from kr) ⟨A149, c150, A162, c163, F165, H160, rfl, (h151.ext E168), l152, b153, h164, S169⟩
      replace M := ifn q143 M
      refine cF (bF q143) (wK (tN (wQ (wR (lV 41 (eM (.pointer (some ⟨g2, 0, none⟩))) ?_)))))
      obtain ⟨t170, u171, M⟩ := bnd M
      refine lC 42 (eC [.tmp 41] [.pointer (some ⟨g2, 0, none⟩)] func133) (spec_l4name.calls w111 H12 t9.2 g2 A14 c15 h16 l17 b18 (St.own' (Fa := [(is g2)]) (Fr := []) S113) t170 u171) ?_
      rintro _ w172 ⟨A175, c176, A180, c181, F183, H173, rfl, h177, l178, b179, h182, T174⟩
      refine ⟨_, rfl, ?_⟩
      obtain ⟨S184, K185⟩ := St.call (Fa := [(is g2)]) (Fr := []) S113 T174
      have E186 := T174.ext
      refine lV 43 (show _ = Result.ok (Next.value (.agg #[.int .i64 2, .int .i64 0, .slice A180 t170.1.length c181])) w172 from by kernel_rfl) ?_
      refine lW 44 (new_blk (v := fun g_ => .slice (some ⟨g_, 0, none⟩) 1 1) (cs := #[.int .i64 2, .int .i64 0, .slice A180 t170.1.length c181]) (t := 65) S184 kr) ?_
      rintro _ w187 ⟨g188, rfl, b189, S190, K191⟩
      replace b179 := K191.blk 0 rfl b179
      replace h182 := h182.move (K191.at 1 rfl)
      have S193 := S190.pulls [(is g188), F183, (is g2)] [2, 1] rfl
      obtain ⟨h194, S195⟩ := row_lit (d := st65) (xs := [(⟨2, 0, t170.1⟩ : Cell)]) S193 b189 rfl (elsO_one1 (st65_mkO (x := (⟨2, 0, t170.1⟩ : Cell)) h182)) (Nat.le_of_ble_eq_true rfl)
      refine lV 4 (eA (.slice (some ⟨g188, 0, none⟩) 1 1)) (wN (tN (wT (tR ?_))))
      obtain rfl := sj M
      have S196 := S195.pulls [(is g2), (or2 (is g188) F183)] [1] rfl
      exact ret1 rfl rfl  (show _ = .slice (some ⟨g188, 0, none⟩) 1 1 from kr) ⟨A175, c176, (some ⟨g188, 0, none⟩), 1, (or2 (is g188) F183), H173, rfl, h177, l178, b179, h194, S196⟩
    replace M := ifn q115 M
    refine lG 25 24 (bF q115) (eM (.int .i64 t9.1)) (lG 26 24 (bF q115) (eLt .i64 t9.1 50) (lV 27 (eF (.bool (decide (t9.1 < 50))) (bF q115)) (wN (tN ?_))))
    by_cases q197 : t9.1 < 50
    · replace M := ifp q197 M
      refine cT (bT q197) (wQ (wQ (wR (lV 28 (eM (.int .i64 t9.1)) (lV 29 (e_rem (k := .i64) (a := t9.1) (b := 5) kr rfl (by decide)) (lV 30 (eEq .i64 (Int.tmod t9.1 5) 0) (wN (tN ?_))))))))
      by_cases q198 : (Int.tmod t9.1 5) = 0
      · replace M := ifp q198 M
        refine cT (bT q198) (wQ (wR (lV 31 (eM (.pointer (some ⟨g2, 0, none⟩))) ?_)))
        obtain ⟨t199, u200, M⟩ := bnd M
        refine lC 32 (eC [.tmp 31] [.pointer (some ⟨g2, 0, none⟩)] func132) (spec_l4int_2.calls w111 H12 t9.2 g2 A14 c15 h16 l17 b18 (St.own' (Fa := [(is g2)]) (Fr := []) S113) t199 u200) ?_
        rintro _ w201 ⟨A204, c205, H202, rfl, h206, l207, b208, T203⟩
        refine ⟨_, rfl, ?_⟩
        obtain ⟨S209, K210⟩ := St.call (Fa := [(is g2)]) (Fr := []) S113 T203
        have E211 := T203.ext
        obtain ⟨t212, u213, M⟩ := bnd M
        refine lC 33 (eC [.tmp 32] [.int .i64 t199.1] func131) (spec_l2num.calls w201 H202 t199.1  (St.own' (Fa := []) (Fr := [(is g2)]) S209) t212 u213) ?_
        rintro _ w214 ⟨A217, c218, F220, H215, rfl, h219, T216⟩
        refine ⟨_, rfl, ?_⟩
        obtain ⟨S221, K222⟩ := St.call (Fa := []) (Fr := [(is g2)]) S209 T216
        replace b208 := K222.blk 0 rfl b208
        have E223 := T216.ext
        refine lV 4 (eA (.slice A217 t212.length c218)) (wN (tN (wT (tR (tR ?_)))))
        obtain rfl := sj M
        have S224 := S221.pulls [(is g2), F220] [1] rfl
        exact ret1 rfl rfl  (show _ = .slice A217 t212.length c218 from kr) ⟨A204, c205, A217, c218, F220, H215, rfl, (h206.ext E223), l207, b208, h219, S224⟩
      replace M := ifn q198 M
      refine cF (bF q198) (wK (tN (wQ (wQ (wR (lV 34 (eM (.int .i64 t9.1)) (lV 35 (e_rem (k := .i64) (a := t9.1) (b := 5) kr rfl (by decide)) (lV 36 (eLt .i64 (Int.tmod t9.1 5) 3) (wN (tN ?_))))))))))
      by_cases q225 : (Int.tmod t9.1 5) < 3
      · replace M := ifp q225 M
        refine cT (bT q225) (wQ (wR (lV 37 (eM (.pointer (some ⟨g2, 0, none⟩))) ?_)))
        obtain ⟨t226, u227, M⟩ := bnd M
        refine lC 38 (eC [.tmp 37] [.pointer (some ⟨g2, 0, none⟩)] func96) (spec_l4rd_next_2.calls w111 H12 t9.2 g2 A14 c15 h16 l17 b18 (St.own' (Fa := [(is g2)]) (Fr := []) S113) t226 u227) ?_
        rintro _ w228 ⟨A231, c232, H229, rfl, h233, l234, b235, T230⟩
        refine ⟨_, rfl, ?_⟩
        obtain ⟨S236, K237⟩ := St.call (Fa := [(is g2)]) (Fr := []) S113 T230
        have E238 := T230.ext
        refine lV 39 (e_rem (k := .i64) (a := t226.1) (b := 5) kr rfl (by decide)) ?_
        obtain ⟨t239, u240, M⟩ := bnd M
        refine lC 40 (eC [.tmp 39] [.int .i64 (Int.tmod t226.1 5)] func98) (spec_l2var.calls w228 H229 (Int.tmod t226.1 5)  (St.own' (Fa := []) (Fr := [(is g2)]) S236) t239 u240) ?_
        rintro _ w241 ⟨A244, c245, F247, H242, rfl, h246, T243⟩
        refine ⟨_, rfl, ?_⟩
        obtain ⟨S248, K249⟩ := St.call (Fa := []) (Fr := [(is g2)]) S236 T243
        replace b235 := K249.blk 0 rfl b235
        have E250 := T243.ext
        refine lV 4 (eA (.slice A244 t239.length c245)) (wN (tN (wT (tR (tR ?_)))))
        obtain rfl := sj M
        have S251 := S248.pulls [(is g2), F247] [1] rfl
        exact ret1 rfl rfl  (show _ = .slice A244 t239.length c245 from kr) ⟨A231, c232, A244, c245, F247, H242, rfl, (h233.ext E250), l234, b235, h246, S251⟩
      replace M := ifn q225 M
      refine cF (bF q225) (wK (tN (wQ (wR (lV 41 (eM (.pointer (some ⟨g2, 0, none⟩))) ?_)))))
      obtain ⟨t252, u253, M⟩ := bnd M
      refine lC 42 (eC [.tmp 41] [.pointer (some ⟨g2, 0, none⟩)] func133) (spec_l4name.calls w111 H12 t9.2 g2 A14 c15 h16 l17 b18 (St.own' (Fa := [(is g2)]) (Fr := []) S113) t252 u253) ?_
      rintro _ w254 ⟨A257, c258, A262, c263, F265, H255, rfl, h259, l260, b261, h264, T256⟩
      refine ⟨_, rfl, ?_⟩
      obtain ⟨S266, K267⟩ := St.call (Fa := [(is g2)]) (Fr := []) S113 T256
      have E268 := T256.ext
      refine lV 43 (show _ = Result.ok (Next.value (.agg #[.int .i64 2, .int .i64 0, .slice A262 t252.1.length c263])) w254 from by kernel_rfl) ?_
      refine lW 44 (new_blk (v := fun g_ => .slice (some ⟨g_, 0, none⟩) 1 1) (cs := #[.int .i64 2, .int .i64 0, .slice A262 t252.1.length c263]) (t := 65) S266 kr) ?_
      rintro _ w269 ⟨g270, rfl, b271, S272, K273⟩
      replace b261 := K273.blk 0 rfl b261
      replace h264 := h264.move (K273.at 1 rfl)
      have S275 := S272.pulls [(is g270), F265, (is g2)] [2, 1] rfl
      obtain ⟨h276, S277⟩ := row_lit (d := st65) (xs := [(⟨2, 0, t252.1⟩ : Cell)]) S275 b271 rfl (elsO_one1 (st65_mkO (x := (⟨2, 0, t252.1⟩ : Cell)) h264)) (Nat.le_of_ble_eq_true rfl)
      refine lV 4 (eA (.slice (some ⟨g270, 0, none⟩) 1 1)) (wN (tN (wT (tR ?_))))
      obtain rfl := sj M
      have S278 := S277.pulls [(is g2), (or2 (is g270) F265)] [1] rfl
      exact ret1 rfl rfl  (show _ = .slice (some ⟨g270, 0, none⟩) 1 1 from kr) ⟨A257, c258, (some ⟨g270, 0, none⟩), 1, (or2 (is g270) F265), H255, rfl, h259, l260, b261, h276, S278⟩
    replace M := ifn q197 M
    refine cF (bF q197) (wK (tN (wQ (wQ (wR (lV 45 (eM (.int .i64 t9.1)) (lV 46 (eLt .i64 t9.1 90) (wN (tN ?_)))))))))
    by_cases q279 : t9.1 < 90
    · replace M := ifp q279 M
      refine cT (bT q279) (wQ (wR (lV 6 (eA (.slice none 0 0)) (wN (tN (wQ (wR (lV 47 (eM (.int .i64 t9.1)) (lV 48 (e_rem (k := .i64) (a := t9.1) (b := 3) kr rfl (by decide)) (lV 49 (eAdd .i64 1 (Int.tmod t9.1 3)) (lV 7 (eA (.int .i64 (i64.wrap (1 + (Int.tmod t9.1 3))))) (wN (tN (wQ (wQ (wR (lV 8 (eA (.int .i64 0)) (wN (tN (wp_block ?_))))))))))))))))))))
      have S308 := S113.unit
      have S309 := S308.pulls [(is g2), no] [1] rfl
      refine wp_loop_g (fun k305 a306 w280 => ∃ (f281 : Nat → Value) (H282 : Hp) (x284 : List (List Cell)) (A285 : Option Addr) (c286 : Nat) (F287 : Foot) (x289 : Int) (x290 : List UInt8) (A291 : Option Addr) (c292 : Nat) (x295 : Int), k305 < K ∧ a306 = mk 126 f281 ∧ f281 0 = .pointer (some ⟨g2, 0, none⟩) ∧ f281 1 = .int .i64 x8 ∧ f281 5 = .int .i64 t9.1 ∧ f281 6 = .slice A285 x284.length c286 ∧ f281 7 = .int .i64 (i64.wrap (1 + (Int.tmod t9.1 3))) ∧ f281 8 = .int .i64 x289 ∧ w280.heap[g2]? = some (.cells #[.slice A291 x290.length c292, .int .i64 x295] 150 (0, 0)) ∧ Row sl65 25 H282 (hp w280) F287 A285 c286 x284 ∧ Rd tByte H282 A291 x290 ∧ x290.length ≤ c292 ∧ Ext H12 H282 ∧ St (anyOf [(is g2)]) H w [(is g2), F287] H282 w280 ∧ spec_l4term.l0 k305 x8 t9 x284 x289 x290 x295 = some r) k1_ ⟨_, H12, [], none, 0, no, 0, t9.2.b_, A14, c15, t9.2.i_, (by omega), rfl, kr, kr, kr, kr, kr, kr, b18, (Row.nil _ _ _ _ _), h16, l17, (Ext.refl _), S309, M⟩ ?_
      clear M
      rintro k305 a306 w280 ⟨f281, H282, x284, A285, c286, F287, x289, x290, A291, c292, x295, z303, rfl, e296, e297, e298, e299, e300, e301, b18, h288, h293, l294, Y283, S302, M⟩
      rcases k305 with _ | k307
      · rw [spec_l4term.l0] at M
        cases M
      rw [spec_l4term.l0] at M
      refine wQ (wQ (wR (lV 50 (eM (.int .i64 x289) (by exact e301)) (lV 51 (eM (.int .i64 (i64.wrap (1 + (Int.tmod t9.1 3)))) (by exact e300)) (lV 52 (eLt .i64 x289 (i64.wrap (1 + (Int.tmod t9.1 3)))) (wN (tN ?_)))))))
      by_cases q310 : x289 < (i64.wrap (1 + (Int.tmod t9.1 3)))
      · replace M := ifp q310 M
        refine cT (bT q310) (wK (tN (wQ (wp_block (wR (lV 55 (eM (.slice A285 x284.length c286) (by exact e299)) (lV 56 (eM (.pointer (some ⟨g2, 0, none⟩)) (by exact e296)) (lV 57 (eM (.int .i64 x8) (by exact e297)) (lV 58 (e_sub (k := .i64) (a := x8) (b := 1) kr rfl) ?_)))))))))
        obtain ⟨t311, u312, M⟩ := bnd M
        refine lC 59 (eC [.tmp 56, .tmp 58] [.pointer (some ⟨g2, 0, none⟩), .int .i64 (i64.wrap (x8 - 1))] func122) (ih k307 (by omega) w280 H282 (⟨x290, x295⟩ : GL4rd) g2 A291 c292 (i64.wrap (x8 - 1)) h293 l294 b18 (St.own' (Fa := [(is g2)]) (Fr := [F287]) S302) t311 u312) ?_
        rintro _ w313 ⟨A316, c317, A321, c322, F324, H314, rfl, h318, l319, b320, h323, T315⟩
        refine ⟨_, rfl, ?_⟩
        obtain ⟨S325, K326⟩ := St.call (Fa := [(is g2)]) (Fr := [F287]) S302 T315
        replace h288 := h288.move (K326.at 0 rfl)
        have E327 := T315.ext
        replace h288 := h288.ext E327
        refine lW 60 (new_blk (v := fun g_ => .slice (some ⟨g_, 0, none⟩) 1 1) (cs := #[.slice A321 t311.1.length c322]) (t := 25) S325 kr) ?_
        rintro _ w328 ⟨g329, rfl, b330, S331, K332⟩
        replace b320 := K332.blk 0 rfl b320
        replace h323 := h323.move (K332.at 1 rfl)
        replace h288 := h288.move (K332.at 2 rfl)
        obtain ⟨q333, M⟩ := chk M
        have S335 := S331.pulls [F287, F324, (is g329), (is g2)] [2, 3] rfl
        refine lW 61 (e_append (d := sl65) (n := x284.length) (xs := x284) (cap := c286) (A := A285) (ys := [t311.1]) (A2 := (some ⟨g329, 0, none⟩)) (c2 := 1) (z := .slice none 0 0) (bytes := 24) S335 underlying38 kr rfl (by decide) kr rfl kr h288 (elsO_one1 ⟨A321, c322, rfl, h323⟩) (.inr (blk_news b330 rfl)) (show (x284.length + [t311.1].length) * 24 ≤ _ by first | omega | (simp only [List.length_cons, List.length_nil]; omega)) (by decide)) ?_
        rintro _ w336 ⟨A337, c338, F339, rfl, h340, S341, K342⟩
        replace b320 := K342.blk 1 rfl b320
        refine lV 6 (eA (.slice A337 ((x284 ++ [t311.1]).length) c338)) (wN (inb_n (tN (wR (lV 53 (eM (.int .i64 x289) (by exact e301)) (lV 54 (eAdd .i64 x289 1) (lV 8 (eA (.int .i64 (i64.wrap (x289 + 1)))) (wN (tN ?_)))))))))
        have S343 := S341.pulls [(is g2), F339, (is g329)] [2] rfl
        have S344 := St.first (Fa := [(is g2), F339]) (Fr := [(is g329)]) S343
        exact ⟨k307, (by omega), _, H314, (x284 ++ [t311.1]), A337, c338, F339, (i64.wrap (x289 + 1)), t311.2.b_, A316, c317, t311.2.i_, (by omega), rfl, (by exact e296), (by exact e297), (by exact e298), kr, (by exact e300), kr, b320, h340, h318, l319, (Y283.trans E327), S344, M⟩
      replace M := ifn q310 M
      refine cF (bF q310) (wp_exit (tE (tE (inb_hit (tN (wQ (wR ?_)))))))
      obtain ⟨t345, u346, M⟩ := bnd M
      refine lC 62 (eC [.const (str ([91, 93] : List UInt8))] [str ([91, 93] : List UInt8)] func79) (spec_l2atom.calls w280 H282 ([91, 93] : List UInt8)  (St.own' (Fa := []) (Fr := [(is g2), F287]) S302) t345 u346) ?_
      rintro _ w347 ⟨A350, c351, F353, H348, rfl, h352, T349⟩
      refine ⟨_, rfl, ?_⟩
      obtain ⟨S354, K355⟩ := St.call (Fa := []) (Fr := [(is g2), F287]) S302 T349
      replace b18 := K355.blk 0 rfl b18
      replace h288 := h288.move (K355.at 1 rfl)
      have E356 := T349.ext
      replace h288 := h288.ext E356
      refine lV 9 (eA (.slice A350 t345.length c351)) (wN (tN ?_))
      refine wp_seq_cut (fun a377 w357 => ∃ (k379 : Nat), k379 ≤ k307 ∧ ∃ (f358 : Nat → Value) (H359 : Hp) (x361 : List Cell) (A362 : Option Addr) (c363 : Nat) (F364 : Foot) (x366 : List UInt8) (A367 : Option Addr) (c368 : Nat) (x371 : Int), k379 < K ∧ a377 = mk 126 f358 ∧ f358 6 = .slice A285 x284.length c286 ∧ f358 9 = .slice A362 x361.length c363 ∧ w357.heap[g2]? = some (.cells #[.slice A367 x366.length c368, .int .i64 x371] 150 (0, 0)) ∧ Row sl65 25 H359 (hp w357) F287 A285 c286 x284 ∧ Row st65 65 H359 (hp w357) F364 A362 c363 x361 ∧ Rd tByte H359 A367 x366 ∧ x366.length ≤ c368 ∧ Ext H348 H359 ∧ St (anyOf [(is g2)]) H w [(is g2), F287, F364] H359 w357 ∧ spec_l4term.l1 k379 x284 x361 x366 x371 = some r) ?_ ?_
      · refine wQ (wR (lV 63 (eM (.int .i64 t9.1) (by exact e298)) (lV 64 (e_rem (k := .i64) (a := t9.1) (b := 4) kr rfl (by decide)) (lV 65 (eEq .i64 (Int.tmod t9.1 4) 0) (wN (tN ?_))))))
        by_cases q380 : (Int.tmod t9.1 4) = 0
        · replace M := ifp q380 M
          refine cT (bT q380) (wR (lV 66 (eM (.pointer (some ⟨g2, 0, none⟩)) (by exact e296)) (lV 67 (eM (.int .i64 x8) (by exact e297)) (lV 68 (e_sub (k := .i64) (a := x8) (b := 2) kr rfl) ?_))))
          have S381 := S354.pulls [(is g2), F353, F287] [1] rfl
          obtain ⟨t382, u383, M⟩ := bnd M
          refine lC 69 (eC [.tmp 66, .tmp 68] [.pointer (some ⟨g2, 0, none⟩), .int .i64 (i64.wrap (x8 - 2))] func122) (ih k307 (by omega) w347 H348 (⟨x290, x295⟩ : GL4rd) g2 A291 c292 (i64.wrap (x8 - 2)) (h293.ext E356) l294 b18 (St.own' (Fa := [(is g2)]) (Fr := [F353, F287]) S381) t382 u383) ?_
          rintro _ w384 ⟨A387, c388, A392, c393, F395, H385, rfl, h389, l390, b391, h394, T386⟩
          refine ⟨_, rfl, ?_⟩
          obtain ⟨S396, K397⟩ := St.call (Fa := [(is g2)]) (Fr := [F353, F287]) S381 T386
          replace h288 := h288.move (K397.at 1 rfl)
          have E398 := T386.ext
          replace h288 := h288.ext E398
          refine lV 9 (eA (.slice A392 t382.1.length c393)) (wN (tN ?_))
          have S401 := S396.pulls [(is g2), F287, F395, F353] [1, 3, 2] rfl
          have S402 := St.first (Fa := [(is g2), F287, F395]) (Fr := [F353]) S401
          exact ⟨k307, (by omega), _, H385, t382.1, A392, c393, F395, t382.2.b_, A387, c388, t382.2.i_, (by omega), rfl, (by exact e299), kr, b391, h288, h394, h389, l390, E398, S402, M⟩
        replace M := ifn q380 M
        refine cF (bF q380) (wK (tN ?_))
        have S404 := S354.pulls [(is g2), F287, F353] [2, 2] rfl
        exact ⟨k307, (by omega), _, H348, t345, A350, c351, F353, x290, A291, c292, x295, (by omega), rfl, (by exact e299), kr, b18, h288, h352, (h293.ext E356), l294, (Ext.refl _), S404, M⟩
      clear M
      rintro a377 w357 ⟨k379, z432, f358, H359, x361, A362, c363, F364, x366, A367, c368, x371, z375, rfl, e372, e373, b18, h288, h365, h369, l370, Y360, S374, M⟩
      rcases k379 with _ | k378
      · rw [spec_l4term.l1] at M
        cases M
      rw [spec_l4term.l1] at M
      refine wQ (wR (lV 70 (eM (.slice A285 x284.length c286) (by exact e372)) (lV 71 (eM (.slice A362 x361.length c363) (by exact e373)) ?_)))
      have l405 := h288.le
      have S406 := S374.pulls [F287, (is g2), F364] [1] rfl
      obtain ⟨H407, S408, E409, h410, z411⟩ := S406.frzRow h288
      replace h365 := h365.ext E409
      have l412 := h365.le
      have S413 := S408.pulls [F364, (is g2)] [1] rfl
      obtain ⟨H414, S415, E416, h417, z418⟩ := S413.frzRow h365
      obtain ⟨t419, u420, M⟩ := bnd M
      refine lC 72 (eC [.tmp 70, .tmp 71] [.slice A285 x284.length c286, .slice A362 x361.length c363] func78) (spec_l2list.calls k378 w357 H414 x284 A285 c286 x361 A362 c363 (h410.ext E416) l405 h417 l412 (St.own' (Fa := []) (Fr := [(is g2)]) S415) t419 u420) ?_
      rintro _ w421 ⟨A424, c425, F427, H422, rfl, h426, T423⟩
      refine ⟨_, rfl, ?_⟩
      obtain ⟨S428, K429⟩ := St.call (Fa := []) (Fr := [(is g2)]) S415 T423
      replace b18 := K429.blk 0 rfl b18
      have E430 := T423.ext
      refine lV 4 (eA (.slice A424 t419.length c425)) (wN (tN (wT (tR ?_))))
      obtain rfl := sj M
      have S431 := S428.pulls [(is g2), F427] [1] rfl
      exact ret1 rfl rfl  (show _ = .slice A424 t419.length c425 from kr) ⟨A367, c368, A424, c425, F427, H422, rfl, (h369.ext ((E409.trans E416).trans E430)), l370, b18, h426, S431⟩
    replace M := ifn q279 M
    refine cF (bF q279) (wK (tN (wQ (wR ?_))))
    refine lW 73 (new_blk (v := fun g_ => .slice (some ⟨g_, 0, none⟩) 17 17) (cs := #[str ([45] : List UInt8), str ([43] : List UInt8), str ([61] : List UInt8), str ([44] : List UInt8), str ([58, 45] : List UInt8), str ([59] : List UInt8), str ([45, 62] : List UInt8), str ([105, 115] : List UInt8), str ([94] : List UInt8), str ([42, 42] : List UInt8), str ([42] : List UInt8), str ([64, 64] : List UInt8), str ([109, 111, 100] : List UInt8), str ([102] : List UInt8), str ([45, 45, 62] : List UInt8), str ([114] : List UInt8), str ([113] : List UInt8)]) (t := 9) S113 kr) ?_
    rintro _ w433 ⟨g434, rfl, b435, S436, K437⟩
    replace b18 := K437.blk 0 rfl b18
    have S438 := S436.unit
    have S439 := S438.pulls [(is g434), no, (is g2)] [1] rfl
    obtain ⟨h440, S441⟩ := row_lit (d := tStr) (xs := [([45] : List UInt8), ([43] : List UInt8), ([61] : List UInt8), ([44] : List UInt8), ([58, 45] : List UInt8), ([59] : List UInt8), ([45, 62] : List UInt8), ([105, 115] : List UInt8), ([94] : List UInt8), ([42, 42] : List UInt8), ([42] : List UInt8), ([64, 64] : List UInt8), ([109, 111, 100] : List UInt8), ([102] : List UInt8), ([45, 45, 62] : List UInt8), ([114] : List UInt8), ([113] : List UInt8)]) S439 b435 rfl (elsO_no (d := tStr) rfl (elsO_no (d := tStr) rfl (elsO_no (d := tStr) rfl (elsO_no (d := tStr) rfl (elsO_no (d := tStr) rfl (elsO_no (d := tStr) rfl (elsO_no (d := tStr) rfl (elsO_no (d := tStr) rfl (elsO_no (d := tStr) rfl (elsO_no (d := tStr) rfl (elsO_no (d := tStr) rfl (elsO_no (d := tStr) rfl (elsO_no (d := tStr) rfl (elsO_no (d := tStr) rfl (elsO_no (d := tStr) rfl (elsO_no (d := tStr) rfl (elsO_no (d := tStr) rfl (elsO_nil _ _ _ no)))))))))))))))))) (Nat.le_of_ble_eq_true rfl)
    refine lV 10 (eA (.slice (some ⟨g434, 0, none⟩) 17 17)) (wN (tN (wQ (wR ?_))))
    refine lW 74 (new_blk (v := fun g_ => .slice (some ⟨g_, 0, none⟩) 12 12) (cs := #[str ([45] : List UInt8), str ([92, 43] : List UInt8), str ([58, 45] : List UInt8), str ([43] : List UInt8), str ([123, 125] : List UInt8), str ([100, 121, 110, 97, 109, 105, 99] : List UInt8), str ([103] : List UInt8), str ([92] : List UInt8), str ([112] : List UInt8), str ([64, 64] : List UInt8), str ([91, 93] : List UInt8), str ([33] : List UInt8)]) (t := 9) S441 kr) ?_
    rintro _ w442 ⟨g443, rfl, b444, S445, K446⟩
    replace h440 := h440.move (K446.at 0 rfl)
    replace b18 := K446.blk 1 rfl b18
    have S447 := S445.unit
    have S448 := S447.pulls [(is g443), no, (or2 (is g434) no), (is g2)] [1] rfl
    obtain ⟨h449, S450⟩ := row_lit (d := tStr) (xs := [([45] : List UInt8), ([92, 43] : List UInt8), ([58, 45] : List UInt8), ([43] : List UInt8), ([123, 125] : List UInt8), ([100, 121, 110, 97, 109, 105, 99] : List UInt8), ([103] : List UInt8), ([92] : List UInt8), ([112] : List UInt8), ([64, 64] : List UInt8), ([91, 93] : List UInt8), ([33] : List UInt8)]) S448 b444 rfl (elsO_no (d := tStr) rfl (elsO_no (d := tStr) rfl (elsO_no (d := tStr) rfl (elsO_no (d := tStr) rfl (elsO_no (d := tStr) rfl (elsO_no (d := tStr) rfl (elsO_no (d := tStr) rfl (elsO_no (d := tStr) rfl (elsO_no (d := tStr) rfl (elsO_no (d := tStr) rfl (elsO_no (d := tStr) rfl (elsO_no (d := tStr) rfl (elsO_nil _ _ _ no))))))))))))) (Nat.le_of_ble_eq_true rfl)
    refine lV 11 (eA (.slice (some ⟨g443, 0, none⟩) 12 12)) (wN (tN (wQ (wQ (wR (lV 75 (eM (.int .i64 t9.1)) (lV 76 (eLt .i64 t9.1 180) (wN (tN ?_)))))))))
    by_cases q451 : t9.1 < 180
    · replace M := ifp q451 M
      refine cT (bT q451) (wQ ?_)
      refine region_mix (S := (fun (L_ : Array Bool) (w_ : World) => Ext H12 (hp w_) ∧ (∀ b_, (or2 (is g434) no) b_ → hp w_ b_ = hp w442 b_))) kr S450 ?_
      intro w452 S453 K454 hc455
      have o456 := h440
      have hs457 : (fun (L_ : Array Bool) (w_ : World) => Ext H12 (hp w_) ∧ (∀ b_, (or2 (is g434) no) b_ → hp w_ b_ = hp w442 b_)) (Array.replicate 16 false) w452 := ⟨S453.inv, (fun b_ h_ => K454.at 1 rfl b_ h_)⟩
      replace h440 := h440.move (K454.at 1 rfl)
      replace b18 := K454.blk 2 rfl b18
      refine xV 0 77 rfl hc455 hs457 (fun L_ w_ hc_ hu_ hs_ => eM (.slice (some ⟨g434, 0, none⟩) 17 17)) ?_; intro hc458 hs459
      refine xV 1 78 rfl hc458 hs459 (fun L_ w_ hc_ hu_ hs_ => eM (.pointer (some ⟨g2, 0, none⟩))) ?_; intro hc460 hs461
      refine xV 6 83 rfl hc460 hs461 (fun L_ w_ hc_ hu_ hs_ => eM (.pointer (some ⟨g2, 0, none⟩))) ?_; intro hc462 hs463
      refine xV 7 84 rfl hc462 hs463 (fun L_ w_ hc_ hu_ hs_ => eM (.int .i64 x8)) ?_; intro hc464 hs465
      refine xV 8 85 rfl hc464 hs465 (fun L_ w_ hc_ hu_ hs_ => e_sub (k := .i64) (a := x8) (b := 1) kr rfl) ?_; intro hc466 hs467
      refine xV 10 87 rfl hc466 hs467 (fun L_ w_ hc_ hu_ hs_ => eM (.pointer (some ⟨g2, 0, none⟩))) ?_; intro hc468 hs469
      refine xV 11 88 rfl hc468 hs469 (fun L_ w_ hc_ hu_ hs_ => eM (.int .i64 x8)) ?_; intro hc470 hs471
      refine xV 12 89 rfl hc470 hs471 (fun L_ w_ hc_ hu_ hs_ => e_sub (k := .i64) (a := x8) (b := 1) kr rfl) ?_; intro hc472 hs473
      have S474 := S453.pulls [(is g2), (or2 (is g443) no), (or2 (is g434) no)] [2] rfl
      obtain ⟨t475, u476, M⟩ := bnd M
      refine xO 2 hc472 ?_
      refine yC 2 rfl (eC [.tmp 78] [.pointer (some ⟨g2, 0, none⟩)] func96) (spec_l4rd_next_2.calls w452 H12 t9.2 g2 A14 c15 h16 l17 b18 (St.own' (Fa := [(is g2)]) (Fr := [(or2 (is g443) no), (or2 (is g434) no)]) S474) t475 u476) ?_
      rintro hc485 _ w477 ⟨A480, c481, H478, rfl, h482, l483, b484, T479⟩
      refine ⟨_, rfl, ?_⟩
      obtain ⟨S486, K487⟩ := St.call (Fa := [(is g2)]) (Fr := [(or2 (is g443) no), (or2 (is g434) no)]) S474 T479
      replace h440 := h440.move (K487.at 1 rfl)
      have E488 := T479.ext
      replace h440 := h440.ext E488
      refine ⟨⟨(Ext.trans E488 S486.inv), (fun b_ h_ => (K487.at 1 rfl b_ h_).trans (hs473.2 b_ h_))⟩, fun hs489 => ?_⟩
      refine xV 3 80 rfl hc485 hs489 (fun L_ w_ hc_ hu_ hs_ => e_rem (k := .i64) (a := t475.1) (b := 17) kr rfl (by decide)) ?_; intro hc490 hs491
      obtain ⟨q492, M⟩ := chk M
      obtain ⟨q493, M⟩ := chk M
      obtain ⟨b494, e496⟩ := Row.addr h440 (show ((Int.tmod t475.1 17)).toNat < [([45] : List UInt8), ([43] : List UInt8), ([61] : List UInt8), ([44] : List UInt8), ([58, 45] : List UInt8), ([59] : List UInt8), ([45, 62] : List UInt8), ([105, 115] : List UInt8), ([94] : List UInt8), ([42, 42] : List UInt8), ([42] : List UInt8), ([64, 64] : List UInt8), ([109, 111, 100] : List UInt8), ([102] : List UInt8), ([45, 45, 62] : List UInt8), ([114] : List UInt8), ([113] : List UInt8)].length by have : [([45] : List UInt8), ([43] : List UInt8), ([61] : List UInt8), ([44] : List UInt8), ([58, 45] : List UInt8), ([59] : List UInt8), ([45, 62] : List UInt8), ([105, 115] : List UInt8), ([94] : List UInt8), ([42, 42] : List UInt8), ([42] : List UInt8), ([64, 64] : List UInt8), ([109, 111, 100] : List UInt8), ([102] : List UInt8), ([45, 45, 62] : List UInt8), ([114] : List UInt8), ([113] : List UInt8)].length = 17 := rfl; omega)
      refine xV 4 81 rfl hc490 hs491 (fun L_ w_ hc_ hu_ hs_ => eI b494 0 17 17 1 (Int.tmod t475.1 17) .i64 underlying162 e496 q492 q493) ?_; intro hc497 hs498
      refine xV 5 82 rfl hc497 hs498 (fun L_ w_ hc_ hu_ hs_ => eL ⟨b494, 0 + ((Int.tmod t475.1 17) : Int).toNat * 1, none⟩ (str ([([45] : List UInt8), ([43] : List UInt8), ([61] : List UInt8), ([44] : List UInt8), ([58, 45] : List UInt8), ([59] : List UInt8), ([45, 62] : List UInt8), ([105, 115] : List UInt8), ([94] : List UInt8), ([42, 42] : List UInt8), ([42] : List UInt8), ([64, 64] : List UInt8), ([109, 111, 100] : List UInt8), ([102] : List UInt8), ([45, 45, 62] : List UInt8), ([114] : List UInt8), ([113] : List UInt8)].getD (((Int.tmod t475.1 17)).toNat) ([] : List UInt8))) underlying9 (hpx (Row.pick (j := 0) (u := str ([([45] : List UInt8), ([43] : List UInt8), ([61] : List UInt8), ([44] : List UInt8), ([58, 45] : List UInt8), ([59] : List UInt8), ([45, 62] : List UInt8), ([105, 115] : List UInt8), ([94] : List UInt8), ([42, 42] : List UInt8), ([42] : List UInt8), ([64, 64] : List UInt8), ([109, 111, 100] : List UInt8), ([102] : List UInt8), ([45, 45, 62] : List UInt8), ([114] : List UInt8), ([113] : List UInt8)].getD (((Int.tmod t475.1 17)).toNat) ([] : List UInt8))) (o456.move hs_.2) e496 (getD_some ([] : List UInt8) (show ((Int.tmod t475.1 17)).toNat < [([45] : List UInt8), ([43] : List UInt8), ([61] : List UInt8), ([44] : List UInt8), ([58, 45] : List UInt8), ([59] : List UInt8), ([45, 62] : List UInt8), ([105, 115] : List UInt8), ([94] : List UInt8), ([42, 42] : List UInt8), ([42] : List UInt8), ([64, 64] : List UInt8), ([109, 111, 100] : List UInt8), ([102] : List UInt8), ([45, 45, 62] : List UInt8), ([114] : List UInt8), ([113] : List UInt8)].length by have : [([45] : List UInt8), ([43] : List UInt8), ([61] : List UInt8), ([44] : List UInt8), ([58, 45] : List UInt8), ([59] : List UInt8), ([45, 62] : List UInt8), ([105, 115] : List UInt8), ([94] : List UInt8), ([42, 42] : List UInt8), ([42] : List UInt8), ([64, 64] : List UInt8), ([109, 111, 100] : List UInt8), ([102] : List UInt8), ([45, 45, 62] : List UInt8), ([114] : List UInt8), ([113] : List UInt8)].length = 17 := rfl; omega)) (fun _ _ o_ => by rw [show _ = _ from o_]; rfl)))) ?_; intro hc499 hs500
      obtain ⟨t501, u502, M⟩ := bnd M
      refine xO 9 hc499 ?_
      refine yC 9 rfl (eC [.tmp 83, .tmp 85] [.pointer (some ⟨g2, 0, none⟩), .int .i64 (i64.wrap (x8 - 1))] func122) (ih k1_ (by omega) w477 H478 t475.2 g2 A480 c481 (i64.wrap (x8 - 1)) h482 l483 b484 (St.own' (Fa := [(is g2)]) (Fr := [(or2 (is g443) no), (or2 (is g434) no)]) S486) t501 u502) ?_
      rintro hc515 _ w503 ⟨A506, c507, A511, c512, F514, H504, rfl, h508, l509, b510, h513, T505⟩
      refine ⟨_, rfl, ?_⟩
      obtain ⟨S516, K517⟩ := St.call (Fa := [(is g2)]) (Fr := [(or2 (is g443) no), (or2 (is g434) no)]) S486 T505
      have E518 := T505.ext
      refine ⟨⟨(Ext.trans (E488.trans E518) S516.inv), (fun b_ h_ => (K517.at 1 rfl b_ h_).trans (hs500.2 b_ h_))⟩, fun hs519 => ?_⟩
      obtain ⟨t520, u521, M⟩ := bnd M
      refine xO 13 hc515 ?_
      refine yC 13 rfl (eC [.tmp 87, .tmp 89] [.pointer (some ⟨g2, 0, none⟩), .int .i64 (i64.wrap (x8 - 1))] func122) (ih k1_ (by omega) w503 H504 t501.2 g2 A506 c507 (i64.wrap (x8 - 1)) h508 l509 b510 (St.own' (Fa := [(is g2)]) (Fr := [F514, (or2 (is g443) no), (or2 (is g434) no)]) S516) t520 u521) ?_
      rintro hc534 _ w522 ⟨A525, c526, A530, c531, F533, H523, rfl, h527, l528, b529, h532, T524⟩
      refine ⟨_, rfl, ?_⟩
      obtain ⟨S535, K536⟩ := St.call (Fa := [(is g2)]) (Fr := [F514, (or2 (is g443) no), (or2 (is g434) no)]) S516 T524
      replace h513 := h513.move (K536.at 0 rfl)
      have E537 := T524.ext
      replace h513 := h513.ext E537
      refine ⟨⟨(Ext.trans ((E488.trans E518).trans E537) S535.inv), (fun b_ h_ => (K536.at 2 rfl b_ h_).trans (hs519.2 b_ h_))⟩, fun hs538 => ?_⟩
      have l539 := h513.le
      have S540 := S535.pulls [F514, (is g2), F533, (or2 (is g443) no), (or2 (is g434) no)] [2] rfl
      obtain ⟨H541, S542, E543, h544, z545⟩ := S540.frzRow h513
      replace h532 := h532.ext E543
      have l546 := h532.le
      have S547 := S542.pulls [F533, (is g2), (or2 (is g443) no), (or2 (is g434) no)] [1] rfl
      obtain ⟨H548, S549, E550, h551, z552⟩ := S547.frzRow h532
      obtain ⟨t553, u554, M⟩ := bnd M
      refine xO 14 hc534 ?_
      refine yC 14 rfl (eC [.tmp 82, .tmp 86, .tmp 90] [str ([([45] : List UInt8), ([43] : List UInt8), ([61] : List UInt8), ([44] : List UInt8), ([58, 45] : List UInt8), ([59] : List UInt8), ([45, 62] : List UInt8), ([105, 115] : List UInt8), ([94] : List UInt8), ([42, 42] : List UInt8), ([42] : List UInt8), ([64, 64] : List UInt8), ([109, 111, 100] : List UInt8), ([102] : List UInt8), ([45, 45, 62] : List UInt8), ([114] : List UInt8), ([113] : List UInt8)].getD (((Int.tmod t475.1 17)).toNat) ([] : List UInt8)), .slice A511 t501.1.length c512, .slice A530 t520.1.length c531] func99) (spec_l2pair.calls k1_ w522 H548 ([([45] : List UInt8), ([43] : List UInt8), ([61] : List UInt8), ([44] : List UInt8), ([58, 45] : List UInt8), ([59] : List UInt8), ([45, 62] : List UInt8), ([105, 115] : List UInt8), ([94] : List UInt8), ([42, 42] : List UInt8), ([42] : List UInt8), ([64, 64] : List UInt8), ([109, 111, 100] : List UInt8), ([102] : List UInt8), ([45, 45, 62] : List UInt8), ([114] : List UInt8), ([113] : List UInt8)].getD (((Int.tmod t475.1 17)).toNat) ([] : List UInt8)) t501.1 A511 c512 t520.1 A530 c531 (h544.ext E550) l539 h551 l546 (St.own' (Fa := []) (Fr := [(is g2), (or2 (is g443) no), (or2 (is g434) no)]) S549) t553 u554) ?_
      rintro hc562 _ w555 ⟨A558, c559, F561, H556, rfl, h560, T557⟩
      refine ⟨_, rfl, ?_⟩
      obtain ⟨S563, K564⟩ := St.call (Fa := []) (Fr := [(is g2), (or2 (is g443) no), (or2 (is g434) no)]) S549 T557
      replace b529 := K564.blk 0 rfl b529
      have E565 := T557.ext
      refine ⟨⟨(Ext.trans (((((E488.trans E518).trans E537).trans E543).trans E550).trans E565) S563.inv), (fun b_ h_ => (K564.at 2 rfl b_ h_).trans (hs538.2 b_ h_))⟩, fun hs566 => ?_⟩
      refine xO 15 hc562 ?_
      refine yO 15 4 rfl hs566 (eA (.slice A558 t553.length c559)) ?_; intro hc567 hs568
      refine xn kr ?_ _
      refine tN (wT (tR ?_))
      obtain rfl := sj M
      have S569 := S563.pulls [(is g2), F561, (or2 (is g443) no), (or2 (is g434) no)] [1] rfl
      have S570 := St.first (Fa := [(is g2), F561]) (Fr := [(or2 (is g443) no), (or2 (is g434) no)]) S569
      exact ret1 rfl rfl  (show _ = .slice A558 t553.length c559 from kr) ⟨A525, c526, A558, c559, F561, H556, rfl, (h527.ext ((E543.trans E550).trans E565)), l528, b529, h560, S570⟩
    replace M := ifn q451 M
    refine cF (bF q451) (wK (tN (wQ (wQ (wR (lV 92 (eM (.int .i64 t9.1)) (lV 93 (eLt .i64 t9.1 230) (wN (tN ?_)))))))))
    by_cases q571 : t9.1 < 230
    · replace M := ifp q571 M
      refine cT (bT q571) (wQ ?_)
      refine region_mix (S := (fun (L_ : Array Bool) (w_ : World) => Ext H12 (hp w_) ∧ (∀ b_, (or2 (is g443) no) b_ → hp w_ b_ = hp w442 b_))) kr S450 ?_
      intro w572 S573 K574 hc575
      have o576 := h449
      have hs577 : (fun (L_ : Array Bool) (w_ : World) => Ext H12 (hp w_) ∧ (∀ b_, (or2 (is g443) no) b_ → hp w_ b_ = hp w442 b_)) (Array.replicate 13 false) w572 := ⟨S573.inv, (fun b_ h_ => K574.at 0 rfl b_ h_)⟩
      replace h449 := h449.move (K574.at 0 rfl)
      replace b18 := K574.blk 2 rfl b18
      refine xV 0 94 rfl hc575 hs577 (fun L_ w_ hc_ hu_ hs_ => eM (.slice (some ⟨g443, 0, none⟩) 12 12)) ?_; intro hc578 hs579
      refine xV 1 95 rfl hc578 hs579 (fun L_ w_ hc_ hu_ hs_ => eM (.pointer (some ⟨g2, 0, none⟩))) ?_; intro hc580 hs581
      refine xV 6 100 rfl hc580 hs581 (fun L_ w_ hc_ hu_ hs_ => eM (.pointer (some ⟨g2, 0, none⟩))) ?_; intro hc582 hs583
      refine xV 7 101 rfl hc582 hs583 (fun L_ w_ hc_ hu_ hs_ => eM (.int .i64 x8)) ?_; intro hc584 hs585
      refine xV 8 102 rfl hc584 hs585 (fun L_ w_ hc_ hu_ hs_ => e_sub (k := .i64) (a := x8) (b := 1) kr rfl) ?_; intro hc586 hs587
      have S588 := S573.pulls [(is g2), (or2 (is g443) no), (or2 (is g434) no)] [2] rfl
      obtain ⟨t589, u590, M⟩ := bnd M
      refine xO 2 hc586 ?_
      refine yC 2 rfl (eC [.tmp 95] [.pointer (some ⟨g2, 0, none⟩)] func96) (spec_l4rd_next_2.calls w572 H12 t9.2 g2 A14 c15 h16 l17 b18 (St.own' (Fa := [(is g2)]) (Fr := [(or2 (is g443) no), (or2 (is g434) no)]) S588) t589 u590) ?_
      rintro hc599 _ w591 ⟨A594, c595, H592, rfl, h596, l597, b598, T593⟩
      refine ⟨_, rfl, ?_⟩
      obtain ⟨S600, K601⟩ := St.call (Fa := [(is g2)]) (Fr := [(or2 (is g443) no), (or2 (is g434) no)]) S588 T593
      replace h449 := h449.move (K601.at 0 rfl)
      have E602 := T593.ext
      replace h449 := h449.ext E602
      refine ⟨⟨(Ext.trans E602 S600.inv), (fun b_ h_ => (K601.at 0 rfl b_ h_).trans (hs587.2 b_ h_))⟩, fun hs603 => ?_⟩
      refine xV 3 97 rfl hc599 hs603 (fun L_ w_ hc_ hu_ hs_ => e_rem (k := .i64) (a := t589.1) (b := 12) kr rfl (by decide)) ?_; intro hc604 hs605
      obtain ⟨q606, M⟩ := chk M
      obtain ⟨q607, M⟩ := chk M
      obtain ⟨b608, e610⟩ := Row.addr h449 (show ((Int.tmod t589.1 12)).toNat < [([45] : List UInt8), ([92, 43] : List UInt8), ([58, 45] : List UInt8), ([43] : List UInt8), ([123, 125] : List UInt8), ([100, 121, 110, 97, 109, 105, 99] : List UInt8), ([103] : List UInt8), ([92] : List UInt8), ([112] : List UInt8), ([64, 64] : List UInt8), ([91, 93] : List UInt8), ([33] : List UInt8)].length by have : [([45] : List UInt8), ([92, 43] : List UInt8), ([58, 45] : List UInt8), ([43] : List UInt8), ([123, 125] : List UInt8), ([100, 121, 110, 97, 109, 105, 99] : List UInt8), ([103] : List UInt8), ([92] : List UInt8), ([112] : List UInt8), ([64, 64] : List UInt8), ([91, 93] : List UInt8), ([33] : List UInt8)].length = 12 := rfl; omega)
      refine xV 4 98 rfl hc604 hs605 (fun L_ w_ hc_ hu_ hs_ => eI b608 0 12 12 1 (Int.tmod t589.1 12) .i64 underlying162 e610 q606 q607) ?_; intro hc611 hs612
      refine xV 5 99 rfl hc611 hs612 (fun L_ w_ hc_ hu_ hs_ => eL ⟨b608, 0 + ((Int.tmod t589.1 12) : Int).toNat * 1, none⟩ (str ([([45] : List UInt8), ([92, 43] : List UInt8), ([58, 45] : List UInt8), ([43] : List UInt8), ([123, 125] : List UInt8), ([100, 121, 110, 97, 109, 105, 99] : List UInt8), ([103] : List UInt8), ([92] : List UInt8), ([112] : List UInt8), ([64, 64] : List UInt8), ([91, 93] : List UInt8), ([33] : List UInt8)].getD (((Int.tmod t589.1 12)).toNat) ([] : List UInt8))) underlying9 (hpx (Row.pick (j := 0) (u := str ([([45] : List UInt8), ([92, 43] : List UInt8), ([58, 45] : List UInt8), ([43] : List UInt8), ([123, 125] : List UInt8), ([100, 121, 110, 97, 109, 105, 99] : List UInt8), ([103] : List UInt8), ([92] : List UInt8), ([112] : List UInt8), ([64, 64] : List UInt8), ([91, 93] : List UInt8), ([33] : List UInt8)].getD (((Int.tmod t589.1 12)).toNat) ([] : List UInt8))) (o576.move hs_.2) e610 (getD_some ([] : List UInt8) (show ((Int.tmod t589.1 12)).toNat < [([45] : List UInt8), ([92, 43] : List UInt8), ([58, 45] : List UInt8), ([43] : List UInt8), ([123, 125] : List UInt8), ([100, 121, 110, 97, 109, 105, 99] : List UInt8), ([103] : List UInt8), ([92] : List UInt8), ([112] : List UInt8), ([64, 64] : List UInt8), ([91, 93] : List UInt8), ([33] : List UInt8)].length by have : [([45] : List UInt8), ([92, 43] : List UInt8), ([58, 45] : List UInt8), ([43] : List UInt8), ([123, 125] : List UInt8), ([100, 121, 110, 97, 109, 105, 99] : List UInt8), ([103] : List UInt8), ([92] : List UInt8), ([112] : List UInt8), ([64, 64] : List UInt8), ([91, 93] : List UInt8), ([33] : List UInt8)].length = 12 := rfl; omega)) (fun _ _ o_ => by rw [show _ = _ from o_]; rfl)))) ?_; intro hc613 hs614
      obtain ⟨t615, u616, M⟩ := bnd M
      refine xO 9 hc613 ?_
      refine yC 9 rfl (eC [.tmp 100, .tmp 102] [.pointer (some ⟨g2, 0, none⟩), .int .i64 (i64.wrap (x8 - 1))] func122) (ih k1_ (by omega) w591 H592 t589.2 g2 A594 c595 (i64.wrap (x8 - 1)) h596 l597 b598 (St.own' (Fa := [(is g2)]) (Fr := [(or2 (is g443) no), (or2 (is g434) no)]) S600) t615 u616) ?_
      rintro hc629 _ w617 ⟨A620, c621, A625, c626, F628, H618, rfl, h622, l623, b624, h627, T619⟩
      refine ⟨_, rfl, ?_⟩
      obtain ⟨S630, K631⟩ := St.call (Fa := [(is g2)]) (Fr := [(or2 (is g443) no), (or2 (is g434) no)]) S600 T619
      have E632 := T619.ext
      refine ⟨⟨(Ext.trans (E602.trans E632) S630.inv), (fun b_ h_ => (K631.at 0 rfl b_ h_).trans (hs614.2 b_ h_))⟩, fun hs633 => ?_⟩
      refine xO 10 hc629 ?_
      refine yE 10 104 rfl (new_blk (v := fun g_ => .slice (some ⟨g_, 0, none⟩) 1 1) (cs := #[.slice A625 t615.1.length c626]) (t := 25) S630 kr) ?_
      rintro hc639 _ w634 ⟨g635, rfl, b636, S637, K638⟩
      replace b624 := K638.blk 0 rfl b624
      replace h627 := h627.move (K638.at 1 rfl)
      refine ⟨⟨(Ext.trans (E602.trans E632) S637.inv), (fun b_ h_ => (K638.at 2 rfl b_ h_).trans (hs633.2 b_ h_))⟩, fun hs640 => ?_⟩
      have S642 := S637.pulls [(is g635), F628, (is g2), (or2 (is g443) no), (or2 (is g434) no)] [2, 1] rfl
      obtain ⟨h643, S644⟩ := row_lit (d := sl65) (xs := [t615.1]) S642 b636 rfl (elsO_one1 ⟨A625, c626, rfl, h627⟩) (Nat.le_of_ble_eq_true rfl)
      have l645 := h643.le
      obtain ⟨H646, S647, E648, h649, z650⟩ := S644.frzRow h643
      obtain ⟨t651, u652, M⟩ := bnd M
      refine xO 11 hc639 ?_
      refine yC 11 rfl (eC [.tmp 99, .tmp 104] [str ([([45] : List UInt8), ([92, 43] : List UInt8), ([58, 45] : List UInt8), ([43] : List UInt8), ([123, 125] : List UInt8), ([100, 121, 110, 97, 109, 105, 99] : List UInt8), ([103] : List UInt8), ([92] : List UInt8), ([112] : List UInt8), ([64, 64] : List UInt8), ([91, 93] : List UInt8), ([33] : List UInt8)].getD (((Int.tmod t589.1 12)).toNat) ([] : List UInt8)), .slice (some ⟨g635, 0, none⟩) 1 1] func124) (spec_l2comp.calls k1_ w634 H646 ([([45] : List UInt8), ([92, 43] : List UInt8), ([58, 45] : List UInt8), ([43] : List UInt8), ([123, 125] : List UInt8), ([100, 121, 110, 97, 109, 105, 99] : List UInt8), ([103] : List UInt8), ([92] : List UInt8), ([112] : List UInt8), ([64, 64] : List UInt8), ([91, 93] : List UInt8), ([33] : List UInt8)].getD (((Int.tmod t589.1 12)).toNat) ([] : List UInt8)) [t615.1] (some ⟨g635, 0, none⟩) 1 h649 l645 (St.own' (Fa := []) (Fr := [(is g2), (or2 (is g443) no), (or2 (is g434) no)]) S647) t651 u652) ?_
      rintro hc660 _ w653 ⟨A656, c657, F659, H654, rfl, h658, T655⟩
      refine ⟨_, rfl, ?_⟩
      obtain ⟨S661, K662⟩ := St.call (Fa := []) (Fr := [(is g2), (or2 (is g443) no), (or2 (is g434) no)]) S647 T655
      replace b624 := K662.blk 0 rfl b624
      have E663 := T655.ext
      refine ⟨⟨(Ext.trans (((E602.trans E632).trans E648).trans E663) S661.inv), (fun b_ h_ => (K662.at 1 rfl b_ h_).trans (hs640.2 b_ h_))⟩, fun hs664 => ?_⟩
      refine xO 12 hc660 ?_
      refine yO 12 4 rfl hs664 (eA (.slice A656 t651.length c657)) ?_; intro hc665 hs666
      refine xn kr ?_ _
      refine tN (wT (tR ?_))
      obtain rfl := sj M
      have S667 := S661.pulls [(is g2), F659, (or2 (is g443) no), (or2 (is g434) no)] [1] rfl
      have S668 := St.first (Fa := [(is g2), F659]) (Fr := [(or2 (is g443) no), (or2 (is g434) no)]) S667
      exact ret1 rfl rfl  (show _ = .slice A656 t651.length c657 from kr) ⟨A620, c621, A656, c657, F659, H654, rfl, (h622.ext (E648.trans E663)), l623, b624, h658, S668⟩
    replace M := ifn q571 M
    refine cF (bF q571) (wK (tN (wQ (wR (lV 12 (eA (.slice none 0 0)) (wN (tN (wQ (wR (lV 106 (eM (.int .i64 t9.1)) (lV 107 (e_rem (k := .i64) (a := t9.1) (b := 4) kr rfl (by decide)) (lV 108 (eAdd .i64 1 (Int.tmod t9.1 4)) (lV 13 (eA (.int .i64 (i64.wrap (1 + (Int.tmod t9.1 4))))) (wN (tN (wQ (wQ (wR (lV 14 (eA (.int .i64 0)) (wN (tN (wp_block ?_))))))))))))))))))))))
    have S696 := S450.unit
    have S697 := S696.pulls [(is g2), no, (or2 (is g443) no), (or2 (is g434) no)] [3] rfl
    have S698 := St.first (Fa := [(is g2), no]) (Fr := [(or2 (is g443) no), (or2 (is g434) no)]) S697
    refine wp_loop_g (fun k693 a694 w669 => ∃ (f670 : Nat → Value) (H671 : Hp) (x673 : List (List Cell)) (A674 : Option Addr) (c675 : Nat) (F676 : Foot) (x678 : Int) (x679 : List UInt8) (A680 : Option Addr) (c681 : Nat) (x684 : Int), k693 < K ∧ a694 = mk 126 f670 ∧ f670 0 = .pointer (some ⟨g2, 0, none⟩) ∧ f670 1 = .int .i64 x8 ∧ f670 12 = .slice A674 x673.length c675 ∧ f670 13 = .int .i64 (i64.wrap (1 + (Int.tmod t9.1 4))) ∧ f670 14 = .int .i64 x678 ∧ w669.heap[g2]? = some (.cells #[.slice A680 x679.length c681, .int .i64 x684] 150 (0, 0)) ∧ Row sl65 25 H671 (hp w669) F676 A674 c675 x673 ∧ Rd tByte H671 A680 x679 ∧ x679.length ≤ c681 ∧ Ext H12 H671 ∧ St (anyOf [(is g2)]) H w [(is g2), F676] H671 w669 ∧ spec_l4term.l2 k693 x8 t9 x673 x678 x679 x684 = some r) k1_ ⟨_, H12, [], none, 0, no, 0, t9.2.b_, A14, c15, t9.2.i_, (by omega), rfl, kr, kr, kr, kr, kr, b18, (Row.nil _ _ _ _ _), h16, l17, (Ext.refl _), S698, M⟩ ?_
    clear M
    rintro k693 a694 w669 ⟨f670, H671, x673, A674, c675, F676, x678, x679, A680, c681, x684, z691, rfl, e685, e686, e687, e688, e689, b18, h677, h682, l683, Y672, S690, M⟩
    rcases k693 with _ | k695
    · rw [spec_l4term.l2] at M
      cases M
    rw [spec_l4term.l2] at M
    refine wQ (wQ (wR (lV 109 (eM (.int .i64 x678) (by exact e689)) (lV 110 (eM (.int .i64 (i64.wrap (1 + (Int.tmod t9.1 4)))) (by exact e688)) (lV 111 (eLt .i64 x678 (i64.wrap (1 + (Int.tmod t9.1 4)))) (wN (tN ?_)))))))
    by_cases q699 : x678 < (i64.wrap (1 + (Int.tmod t9.1 4)))
    · replace M := ifp q699 M
      refine cT (bT q699) (wK (tN (wQ (wp_block (wR (lV 114 (eM (.slice A674 x673.length c675) (by exact e687)) (lV 115 (eM (.pointer (some ⟨g2, 0, none⟩)) (by exact e685)) (lV 116 (eM (.int .i64 x8) (by exact e686)) (lV 117 (e_sub (k := .i64) (a := x8) (b := 1) kr rfl) ?_)))))))))
      obtain ⟨t700, u701, M⟩ := bnd M
      refine lC 118 (eC [.tmp 115, .tmp 117] [.pointer (some ⟨g2, 0, none⟩), .int .i64 (i64.wrap (x8 - 1))] func122) (ih k695 (by omega) w669 H671 (⟨x679, x684⟩ : GL4rd) g2 A680 c681 (i64.wrap (x8 - 1)) h682 l683 b18 (St.own' (Fa := [(is g2)]) (Fr := [F676]) S690) t700 u701) ?_
      rintro _ w702 ⟨A705, c706, A710, c711, F713, H703, rfl, h707, l708, b709, h712, T704⟩
      refine ⟨_, rfl, ?_⟩
      obtain ⟨S714, K715⟩ := St.call (Fa := [(is g2)]) (Fr := [F676]) S690 T704
      replace h677 := h677.move (K715.at 0 rfl)
      have E716 := T704.ext
      replace h677 := h677.ext E716
      refine lW 119 (new_blk (v := fun g_ => .slice (some ⟨g_, 0, none⟩) 1 1) (cs := #[.slice A710 t700.1.length c711]) (t := 25) S714 kr) ?_
      rintro _ w717 ⟨g718, rfl, b719, S720, K721⟩
      replace b709 := K721.blk 0 rfl b709
      replace h712 := h712.move (K721.at 1 rfl)
      replace h677 := h677.move (K721.at 2 rfl)
      obtain ⟨q722, M⟩ := chk M
      have S724 := S720.pulls [F676, F713, (is g718), (is g2)] [2, 3] rfl
      refine lW 120 (e_append (d := sl65) (n := x673.length) (xs := x673) (cap := c675) (A := A674) (ys := [t700.1]) (A2 := (some ⟨g718, 0, none⟩)) (c2 := 1) (z := .slice none 0 0) (bytes := 24) S724 underlying38 kr rfl (by decide) kr rfl kr h677 (elsO_one1 ⟨A710, c711, rfl, h712⟩) (.inr (blk_news b719 rfl)) (show (x673.length + [t700.1].length) * 24 ≤ _ by first | omega | (simp only [List.length_cons, List.length_nil]; omega)) (by decide)) ?_
      rintro _ w725 ⟨A726, c727, F728, rfl, h729, S730, K731⟩
      replace b709 := K731.blk 1 rfl b709
      refine lV 12 (eA (.slice A726 ((x673 ++ [t700.1]).length) c727)) (wN (inb_n (tN (wR (lV 112 (eM (.int .i64 x678) (by exact e689)) (lV 113 (eAdd .i64 x678 1) (lV 14 (eA (.int .i64 (i64.wrap (x678 + 1)))) (wN (tN ?_)))))))))
      have S732 := S730.pulls [(is g2), F728, (is g718)] [2] rfl
      have S733 := St.first (Fa := [(is g2), F728]) (Fr := [(is g718)]) S732
      exact ⟨k695, (by omega), _, H703, (x673 ++ [t700.1]), A726, c727, F728, (i64.wrap (x678 + 1)), t700.2.b_, A705, c706, t700.2.i_, (by omega), rfl, (by exact e685), (by exact e686), kr, (by exact e688), kr, b709, h729, h707, l708, (Y672.trans E716), S733, M⟩
    replace M := ifn q699 M
    refine cF (bF q699) (wp_exit (tE (tE (inb_hit (tN (wQ (wR (lV 121 (eM (.pointer (some ⟨g2, 0, none⟩)) (by exact e685)) ?_))))))))
    obtain ⟨t734, u735, M⟩ := bnd M
    refine lC 122 (eC [.tmp 121] [.pointer (some ⟨g2, 0, none⟩)] func133) (spec_l4name.calls w669 H671 (⟨x679, x684⟩ : GL4rd) g2 A680 c681 h682 l683 b18 (St.own' (Fa := [(is g2)]) (Fr := [F676]) S690) t734 u735) ?_
    rintro _ w736 ⟨A739, c740, A744, c745, F747, H737, rfl, h741, l742, b743, h746, T738⟩
    refine ⟨_, rfl, ?_⟩
    obtain ⟨S748, K749⟩ := St.call (Fa := [(is g2)]) (Fr := [F676]) S690 T738
    replace h677 := h677.move (K749.at 0 rfl)
    have E750 := T738.ext
    replace h677 := h677.ext E750
    refine lV 123 (e_conv_bs (A := A744) (n := t734.1.length) (c := c745) (xs := t734.1) underlying59 underlying5 underlying9 kr rfl (Row.bytes h746)) (lV 124 (eM (.slice A674 x673.length c675) (by exact e687)) ?_)
    have l751 := h677.le
    have S752 := S748.pulls [F676, (is g2), F747] [2] rfl
    obtain ⟨H753, S754, E755, h756, z757⟩ := S752.frzRow h677
    obtain ⟨t758, u759, M⟩ := bnd M
    refine lC 125 (eC [.tmp 123, .tmp 124] [str t734.1, .slice A674 x673.length c675] func124) (spec_l2comp.calls k695 w736 H753 t734.1 x673 A674 c675 h756 l751 (St.own' (Fa := []) (Fr := [(is g2), F747]) S754) t758 u759) ?_
    rintro _ w760 ⟨A763, c764, F766, H761, rfl, h765, T762⟩
    refine ⟨_, rfl, ?_⟩
    obtain ⟨S767, K768⟩ := St.call (Fa := []) (Fr := [(is g2), F747]) S754 T762
    replace b743 := K768.blk 0 rfl b743
    have E769 := T762.ext
    refine lV 4 (eA (.slice A763 t758.length c764)) (wN (tN (wT ?_)))
    obtain rfl := sj M
    have S770 := S767.pulls [(is g2), F766, F747] [1] rfl
    have S771 := St.first (Fa := [(is g2), F766]) (Fr := [F747]) S770
    exact ret1 rfl rfl  (show _ = .slice A763 t758.length c764 from kr) ⟨A739, c740, A763, c764, F766, H761, rfl, (h741.ext (E755.trans E769)), l742, b743, h765, S771⟩
theorem spec_l4term.calls (k : Nat) (w : World) (H : Hp) (x1 : GL4rd) (g2 : Nat) (A4 : Option Addr) (c5 : Nat) (x8 : Int) (h6 : Rd tByte H A4 x1.b_) (l7 : x1.b_.length ≤ c5) (b3 : w.heap[g2]? = some (.cells #[.slice A4 x1.b_.length c5, .int .i64 x1.i_] 150 (0, 0))) (S : Own [(is g2)] H w) (r : (List Cell) × GL4rd) (M : spec_l4term.f k x1 x8 = some r) :
    Calls Try.prog 122 #[.pointer (some ⟨g2, 0, none⟩), .int .i64 x8] w (fun e e_w => ∃ (A_1 : Option Addr) (c_1 : Nat) (A_2 : Option Addr) (c_2 : Nat) (F_1 : Foot) (H_ : Hp), e = .returned (.slice A_2 r.1.length c_2) ∧ Rd tByte H_ A_1 r.2.b_ ∧ r.2.b_.length ≤ c_1 ∧ e_w.heap[g2]? = some (.cells #[.slice A_1 r.2.b_.length c_1, .int .i64 r.2.i_] 150 (0, 0)) ∧ Row st65 65 H_ (hp e_w) F_1 A_2 c_2 r.1 ∧ St (anyOf [(is g2)]) H w [(is g2), F_1] H_ e_w) := (spec_l4term.all (k + 1)) k (Nat.lt_succ_self k) w H x1 g2 A4 c5 x8 h6 l7 b3 S r M

/-! spec_l4fill -/
def spec_l4fill.l0 : Nat → UInt8 → Int → (List UInt8) → Int → Option (List UInt8)
  | 0, _, _, _, _ => none
  | k20 + 1, x1, x2, x5, x10 => (if x10 < x2 then (if x5.length + 1 ≤ 140737488355328 then (spec_l4fill.l0 k20 x1 x2 (x5 ++ [x1]) (i64.wrap (x10 + 1))) else none) else some x5)
def spec_l4fill.f (k : Nat) (x1 : UInt8) (x2 : Int) : Option (List UInt8) := (spec_l4fill.l0 k x1 x2 [] 0)
theorem spec_l4fill.calls (k : Nat) (w : World) (H : Hp) (x1 : UInt8) (x2 : Int) (S : Own [] H w) (r : List UInt8) (M : spec_l4fill.f k x1 x2 = some r) :
    Calls Try.prog 134 #[.int .u8 (x1.toNat : Int), .int .i64 x2] w (fun e e_w => ∃ (A_1 : Option Addr) (c_1 : Nat) (F_1 : Foot) (H_ : Hp), e = .returned (.slice A_1 r.length c_1) ∧ Row tByte 5 H_ (hp e_w) F_1 A_1 c_1 r ∧ St (anyOf []) H w [F_1] H_ e_w) := by
  rw [spec_l4fill.f] at M
  refine enter (l := [.int .u8 (x1.toNat : Int), .int .i64 x2]) 17 func134 rfl rfl rfl ?_
  have S0_ := S.st
  refine wQ (wR (lV 4 (eA (.slice none 0 0)) (wN (tN (wQ (wR (lV 5 (eA (.slice none 0 0)) (wN (tN (wQ (wQ (wR (lV 6 (eA (.int .i64 0)) (wN (tN ?_)))))))))))))))
  refine wp_block ?_
  have S21 := S0_.unit
  refine wp_loop_g (fun k18 a19 w3 => ∃ (f4 : Nat → Value) (x5 : List UInt8) (A6 : Option Addr) (c7 : Nat) (F8 : Foot) (x10 : Int), a19 = mk 17 f4 ∧ f4 0 = .int .u8 (x1.toNat : Int) ∧ f4 1 = .int .i64 x2 ∧ f4 5 = .slice A6 x5.length c7 ∧ f4 6 = .int .i64 x10 ∧ Row tByte 5 H (hp w3) F8 A6 c7 x5 ∧ St (anyOf []) H w [F8] H w3 ∧ spec_l4fill.l0 k18 x1 x2 x5 x10 = some r) k ⟨_, [], none, 0, no, 0, rfl, kr, kr, kr, kr, (Row.nil _ _ _ _ _), S21, M⟩ ?_
  clear M
  rintro k18 a19 w3 ⟨f4, x5, A6, c7, F8, x10, rfl, e11, e12, e13, e14, h9, S15, M⟩
  rcases k18 with _ | k20
  · rw [spec_l4fill.l0] at M
    cases M
  rw [spec_l4fill.l0] at M
  refine wQ (wQ (wR (lV 7 (eM (.int .i64 x10) (by exact e14)) (lV 8 (eM (.int .i64 x2) (by exact e12)) (lV 9 (eLt .i64 x10 x2) (wN (tN ?_)))))))
  by_cases q22 : x10 < x2
  · replace M := ifp q22 M
    refine cT (bT q22) (wK (tN (wQ (wp_block (wR (lV 12 (eM (.slice A6 x5.length c7) (by exact e13)) (lV 13 (eM (.int .u8 (x1.toNat : Int)) (by exact e11)) ?_)))))))
    refine lW 14 (new_blk (v := fun g_ => .slice (some ⟨g_, 0, none⟩) 1 1) (cs := #[.int .u8 (x1.toNat : Int)]) (t := 5) S15 kr) ?_
    rintro _ w23 ⟨g24, rfl, b25, S26, K27⟩
    replace h9 := h9.move (K27.at 0 rfl)
    obtain ⟨q28, M⟩ := chk M
    have S29 := S26.pulls [F8, (is g24)] [1] rfl
    have S30 := S29.unit
    have S31 := S30.pulls [F8, no, (is g24)] [1] rfl
    refine lW 15 (e_append (d := tByte) (n := x5.length) (xs := x5) (cap := c7) (A := A6) (ys := [x1]) (A2 := (some ⟨g24, 0, none⟩)) (c2 := 1) (z := .int .u8 0) (bytes := 1) S31 underlying59 kr rfl (by decide) kr rfl kr h9 (elsO_one1 rfl) (.inr (blk_news b25 rfl)) (show (x5.length + [x1].length) * 1 ≤ _ by first | omega | (simp only [List.length_cons, List.length_nil]; omega)) (by decide)) ?_
    rintro _ w32 ⟨A33, c34, F35, rfl, h36, S37, K38⟩
    refine lV 5 (eA (.slice A33 ((x5 ++ [x1]).length) c34)) (wN (inb_n (tN (wR (lV 10 (eM (.int .i64 x10) (by exact e14)) (lV 11 (eAdd .i64 x10 1) (lV 6 (eA (.int .i64 (i64.wrap (x10 + 1)))) (wN (tN ?_)))))))))
    have S39 := St.first (Fa := [F35]) (Fr := [(is g24)]) S37
    exact ⟨k20, (by omega), _, (x5 ++ [x1]), A33, c34, F35, (i64.wrap (x10 + 1)), rfl, (by exact e11), (by exact e12), kr, kr, h36, S39, M⟩
  replace M := ifn q22 M
  refine cF (bF q22) (wp_exit (tE (tE (inb_hit (tN (wQ (wR (lV 16 (eM (.slice A6 x5.length c7) (by exact e13)) (lV 4 (eA (.slice A6 x5.length c7)) (wN (tN (wT ?_))))))))))))
  obtain rfl := sj M
  exact ret1 rfl rfl  (show _ = .slice A6 x5.length c7 from kr) ⟨A6, c7, F8, H, rfl, h9, S15⟩

/-! spec_l4spoil -/
def spec_l4spoil_2.l0 : Nat → (Int × GL4rd) → (List Cell) → Int → Option ((List Cell) × GL4rd)
  | 0, _, _, _ => none
  | k261 + 1, t230, x247, x252 => (if x252 < (i64.wrap (Int.tdiv (i64.wrap ((i64.wrap (1999 + (Int.tmod t230.1 3))) - 1)) 2)) then (if x247.length + 2 ≤ 3518437208883 then (spec_l4spoil_2.l0 k261 t230 (x247 ++ [(⟨3, 2, [(46 : UInt8)]⟩ : Cell), (⟨0, (Int.tmod x252 7), []⟩ : Cell)]) (i64.wrap (x252 + 1))) else none) else (if (Int.tmod (i64.wrap (1999 + (Int.tmod t230.1 3))) 2) = 0 then (if x247.length + 1 ≤ 3518437208883 then ((spec_l2atom.f ([91, 93] : List UInt8)).bind fun t333 => (if (x247 ++ [(⟨3, 1, [(102 : UInt8)]⟩ : Cell)]).length + t333.length ≤ 3518437208883 then some (((x247 ++ [(⟨3, 1, [(102 : UInt8)]⟩ : Cell)]) ++ t333), t230.2) else none)) else none) else ((spec_l2atom.f ([91, 93] : List UInt8)).bind fun t366 => (if x247.length + t366.length ≤ 3518437208883 then some ((x247 ++ t366), t230.2) else none))))
def spec_l4spoil_2.f (k : Nat) (x1 : List Cell) (x6 : GL4rd) : Option ((List Cell) × GL4rd) := ((spec_l4rd_next_2.f x6).bind fun t15 => ((spec_l4rd_next_2.f t15.2).bind fun t28 => (if (x1.length : Int) ≠ 0 then (if (Int.tmod t15.1 9) = 0 then ((spec_l4rd_next_2.f t28.2).bind fun t43 => (if 0 ≤ (Int.tmod t28.1 (x1.length : Int)) then (if (Int.tmod t28.1 (x1.length : Int)) < (x1.length : Int) then some ((x1.set (((Int.tmod t28.1 (x1.length : Int))).toNat) ({(x1.getD (((Int.tmod t28.1 (x1.length : Int))).toNat) z65) with kind := (i64.wrap ((Int.tmod t43.1 6) - 1))})), t43.2) else none) else none)) else (if (Int.tmod t15.1 9) = 1 then (if 0 ≤ (Int.tmod t28.1 (x1.length : Int)) then (if (Int.tmod t28.1 (x1.length : Int)) < (x1.length : Int) then some ((x1.set (((Int.tmod t28.1 (x1.length : Int))).toNat) ({(x1.getD (((Int.tmod t28.1 (x1.length : Int))).toNat) z65) with n := (i64.wrap (((x1.getD (((Int.tmod t28.1 (x1.length : Int))).toNat) z65).n) + 1))})), t28.2) else none) else none) else (if (Int.tmod t15.1 9) = 2 then (if 0 ≤ (Int.tmod t28.1 (x1.length : Int)) then (if (Int.tmod t28.1 (x1.length : Int)) < (x1.length : Int) then some ((x1.set (((Int.tmod t28.1 (x1.length : Int))).toNat) ({(x1.getD (((Int.tmod t28.1 (x1.length : Int))).toNat) z65) with n := (-1)})), t28.2) else none) else none) else (if (Int.tmod t15.1 9) = 3 then (if 0 ≤ (i64.wrap ((x1.length : Int) - 1)) then (if (i64.wrap ((x1.length : Int) - 1)) ≤ (x1.length : Int) then some ((x1.take (((i64.wrap ((x1.length : Int) - 1)) : Int).toNat)), t28.2) else none) else none) else (if (Int.tmod t15.1 9) = 4 then (if x1.length + 1 ≤ 3518437208883 then some ((x1 ++ [(⟨2, 0, []⟩ : Cell)]), t28.2) else none) else (if (Int.tmod t15.1 9) = 5 then ((spec_l4rd_next_2.f t28.2).bind fun t154 => ((spec_l4fill.f k (116 : UInt8) (i64.wrap (100 + (Int.tmod t154.1 2)))).bind fun t167 => (if 0 ≤ (Int.tmod t28.1 (x1.length : Int)) then (if (Int.tmod t28.1 (x1.length : Int)) < (x1.length : Int) then some ((x1.set (((Int.tmod t28.1 (x1.length : Int))).toNat) ({(x1.getD (((Int.tmod t28.1 (x1.length : Int))).toNat) z65) with text := t167})), t154.2) else none) else none))) else (if (Int.tmod t15.1 9) = 6 then ((spec_l4rd_next_2.f t28.2).bind fun t197 => (if 0 ≤ (Int.tmod t28.1 (x1.length : Int)) then (if (Int.tmod t28.1 (x1.length : Int)) < (x1.length : Int) then some ((x1.set (((Int.tmod t28.1 (x1.length : Int))).toNat) ({(x1.getD (((Int.tmod t28.1 (x1.length : Int))).toNat) z65) with n := (i64.wrap (1000000000000000 + (Int.tmod t197.1 2)))})), t197.2) else none) else none)) else (if (Int.tmod t15.1 9) = 7 then ((spec_l4rd_next_2.f t28.2).bind fun t230 => (spec_l4spoil_2.l0 k t230 [] 0)) else ((spec_l4rd_next_2.f t28.2).bind fun t399 => (if 0 ≤ (Int.tmod t28.1 (x1.length : Int)) then (if (Int.tmod t28.1 (x1.length : Int)) < (x1.length : Int) then some ((x1.set (((Int.tmod t28.1 (x1.length : Int))).toNat) (⟨0, (i64.wrap (1000000 + (Int.tmod t399.1 2))), []⟩ : Cell)), t399.2) else none) else none)))))))))) else none)))
theorem spec_l4spoil_2.calls (k : Nat) (w : World) (H : Hp) (x1 : List Cell) (A2 : Option Addr) (c3 : Nat) (F5 : Foot) (x6 : GL4rd) (g7 : Nat) (A10 : Option Addr) (c11 : Nat) (h4 : Row st65 65 H (hp w) F5 A2 c3 x1) (h12 : Rd tByte H A10 x6.b_) (l13 : x6.b_.length ≤ c11) (b9 : w.heap[g7]? = some (.cells #[.slice A10 x6.b_.length c11, .int .i64 x6.i_] 150 (0, 0))) (S : Own [F5, (is g7)] H w) (r : (List Cell) × GL4rd) (M : spec_l4spoil_2.f k x1 x6 = some r) :
    Calls Try.prog 123 #[.slice A2 x1.length c3, .pointer (some ⟨g7, 0, none⟩)] w (fun e e_w => ∃ (A_1 : Option Addr) (c_1 : Nat) (A_2 : Option Addr) (c_2 : Nat) (F_1 : Foot) (H_ : Hp), e = .returned (.slice A_2 r.1.length c_2) ∧ Rd tByte H_ A_1 r.2.b_ ∧ r.2.b_.length ≤ c_1 ∧ e_w.heap[g7]? = some (.cells #[.slice A_1 r.2.b_.length c_1, .int .i64 r.2.i_] 150 (0, 0)) ∧ Row (ro st65) 65 H_ (hp e_w) F_1 A_2 c_2 r.1 ∧ St (anyOf [F5, (is g7)]) H w [(is g7), F_1] H_ e_w) := by
  rw [spec_l4spoil_2.f] at M
  refine enter (l := [.slice A2 x1.length c3, .pointer (some ⟨g7, 0, none⟩)]) 123 func123 rfl rfl rfl ?_
  have S0_ := S.st
  refine wQ (wR (lV 4 (eA (.slice none 0 0)) (wN (tN (wQ (wR (lV 10 (eM (.pointer (some ⟨g7, 0, none⟩))) ?_)))))))
  have S14 := S0_.pulls [(is g7), F5] [1] rfl
  obtain ⟨t15, u16, M⟩ := bnd M
  refine lC 11 (eC [.tmp 10] [.pointer (some ⟨g7, 0, none⟩)] func96) (spec_l4rd_next_2.calls w H x6 g7 A10 c11 h12 l13 b9 (St.own' (Fa := [(is g7)]) (Fr := [F5]) S14) t15 u16) ?_
  rintro _ w17 ⟨A20, c21, H18, rfl, h22, l23, b24, T19⟩
  refine ⟨_, rfl, ?_⟩
  obtain ⟨S25, K26⟩ := St.call (Fa := [(is g7)]) (Fr := [F5]) S14 T19
  replace h4 := h4.move (K26.at 0 rfl)
  have E27 := T19.ext
  replace h4 := h4.ext E27
  refine lV 12 (e_rem (k := .i64) (a := t15.1) (b := 9) kr rfl (by decide)) (lV 5 (eA (.int .i64 (Int.tmod t15.1 9))) (wN (tN (wQ (wR (lV 13 (eM (.pointer (some ⟨g7, 0, none⟩))) ?_))))))
  obtain ⟨t28, u29, M⟩ := bnd M
  refine lC 14 (eC [.tmp 13] [.pointer (some ⟨g7, 0, none⟩)] func96) (spec_l4rd_next_2.calls w17 H18 t15.2 g7 A20 c21 h22 l23 b24 (St.own' (Fa := [(is g7)]) (Fr := [F5]) S25) t28 u29) ?_
  rintro _ w30 ⟨A33, c34, H31, rfl, h35, l36, b37, T32⟩
  refine ⟨_, rfl, ?_⟩
  obtain ⟨S38, K39⟩ := St.call (Fa := [(is g7)]) (Fr := [F5]) S25 T32
  replace h4 := h4.move (K39.at 0 rfl)
  have E40 := T32.ext
  replace h4 := h4.ext E40
  refine lV 15 (eM (.slice A2 x1.length c3)) (lV 16 (e_len (A := A2) (n := x1.length) (c := c3) underlying25 kr) ?_)
  obtain ⟨q41, M⟩ := chk M
  refine lV 17 (e_rem (k := .i64) (a := t28.1) (b := (x1.length : Int)) kr kr q41) (lV 6 (eA (.int .i64 (Int.tmod t28.1 (x1.length : Int)))) (wN (tN (wQ (wQ (wR (lV 18 (eM (.int .i64 (Int.tmod t15.1 9))) (lV 19 (eEq .i64 (Int.tmod t15.1 9) 0) (wN (tN ?_))))))))))
  by_cases q42 : (Int.tmod t15.1 9) = 0
  · replace M := ifp q42 M
    refine cT (bT q42) (wR (lV 20 (eM (.slice A2 x1.length c3)) (lV 21 (eM (.int .i64 (Int.tmod t28.1 (x1.length : Int)))) (lV 22 (eM (.pointer (some ⟨g7, 0, none⟩))) ?_))))
    obtain ⟨t43, u44, M⟩ := bnd M
    refine lC 23 (eC [.tmp 22] [.pointer (some ⟨g7, 0, none⟩)] func96) (spec_l4rd_next_2.calls w30 H31 t28.2 g7 A33 c34 h35 l36 b37 (St.own' (Fa := [(is g7)]) (Fr := [F5]) S38) t43 u44) ?_
    rintro _ w45 ⟨A48, c49, H46, rfl, h50, l51, b52, T47⟩
    refine ⟨_, rfl, ?_⟩
    obtain ⟨S53, K54⟩ := St.call (Fa := [(is g7)]) (Fr := [F5]) S38 T47
    replace h4 := h4.move (K54.at 0 rfl)
    have E55 := T47.ext
    replace h4 := h4.ext E55
    refine lV 24 (e_rem (k := .i64) (a := t43.1) (b := 6) kr rfl (by decide)) (lV 25 (e_sub (k := .i64) (a := (Int.tmod t43.1 6)) (b := 1) kr rfl) ?_)
    obtain ⟨q56, M⟩ := chk M
    obtain ⟨q57, M⟩ := chk M
    obtain ⟨b58, e60⟩ := Row.addr h4 (show ((Int.tmod t28.1 (x1.length : Int))).toNat < x1.length by omega)
    refine lV 26 (eI b58 0 x1.length c3 3 (Int.tmod t28.1 (x1.length : Int)) .i64 underlying25 e60 q56 q57) (lV 27 (eD b58 (0 + ((Int.tmod t28.1 (x1.length : Int)) : Int).toNat * 3) 0 1 underlying65) ?_)
    have S61 := S53.pulls [F5, (is g7)] [1] rfl
    have S62 := S61.unit
    have S63 := S62.pulls [F5, no, (is g7)] [1] rfl
    refine lE (e_setpart (d := st65) (b := b58) (i := ((Int.tmod t28.1 (x1.length : Int))).toNat) (j := 0) (v := .int .i64 (i64.wrap ((Int.tmod t43.1 6) - 1))) (vs := [.int .i64 (i64.wrap ((Int.tmod t43.1 6) - 1))]) (yv := {(x1.getD (((Int.tmod t28.1 (x1.length : Int))).toNat) z65) with kind := (i64.wrap ((Int.tmod t43.1 6) - 1))}) S63 kr e60 kr rfl kr h4 (getD_some z65 (show ((Int.tmod t28.1 (x1.length : Int))).toNat < x1.length by omega)) (Nat.le_of_ble_eq_true rfl) (List.forall_mem_cons.2 ⟨rfl, (fun _ h_ => by cases h_)⟩) (fun _ _ _ o_ => st65_u0 (i64.wrap ((Int.tmod t43.1 6) - 1)) o_)) ?_
    rintro w64 ⟨F66, h65, S67, K68⟩
    replace b52 := K68.blk 0 rfl b52
    clear h4
    refine wN (tN (wQ (wR (lV 122 (eM (.slice A2 x1.length c3)) (lV 4 (eA (.slice A2 x1.length c3)) (wN (tN (wT ?_))))))))
    obtain ⟨H69, F70, S71, E72, h73⟩ := S67.share h65
    obtain rfl := sj M
    have S74 := S71.pulls [(is g7), F70] [1] rfl
    exact ret1 rfl rfl  (show _ = .slice A2 x1.length c3 from kr) ⟨A48, c49, A2, c3, F70, H69, (by rw [(show (x1.set (((Int.tmod t28.1 (x1.length : Int))).toNat) ({(x1.getD (((Int.tmod t28.1 (x1.length : Int))).toNat) z65) with kind := (i64.wrap ((Int.tmod t43.1 6) - 1))})).length = x1.length from (List.length_set.trans rfl))]), (h50.ext E72), l51, b52, h73, S74⟩
  replace M := ifn q42 M
  refine cF (bF q42) (wQ (wR (lV 28 (eM (.int .i64 (Int.tmod t15.1 9))) (lV 29 (eEq .i64 (Int.tmod t15.1 9) 1) (wN (tN ?_))))))
  by_cases q75 : (Int.tmod t15.1 9) = 1
  · replace M := ifp q75 M
    refine cT (bT q75) (wR (lV 30 (eM (.slice A2 x1.length c3)) (lV 31 (eM (.int .i64 (Int.tmod t28.1 (x1.length : Int)))) (lV 32 (eM (.slice A2 x1.length c3)) (lV 33 (eM (.int .i64 (Int.tmod t28.1 (x1.length : Int)))) ?_)))))
    obtain ⟨q76, M⟩ := chk M
    obtain ⟨q77, M⟩ := chk M
    obtain ⟨b78, e80⟩ := Row.addr h4 (show ((Int.tmod t28.1 (x1.length : Int))).toNat < x1.length by omega)
    refine lV 34 (eI b78 0 x1.length c3 3 (Int.tmod t28.1 (x1.length : Int)) .i64 underlying25 e80 q76 q77) (lV 35 (eD b78 (0 + ((Int.tmod t28.1 (x1.length : Int)) : Int).toNat * 3) 1 1 underlying65) (lV 36 (eL ⟨b78, 0 + ((Int.tmod t28.1 (x1.length : Int)) : Int).toNat * 3 + 1, none⟩ (.int .i64 ((x1.getD (((Int.tmod t28.1 (x1.length : Int))).toNat) z65).n)) underlying3 (hpx (Row.pick (j := 1) (u := .int .i64 ((x1.getD (((Int.tmod t28.1 (x1.length : Int))).toNat) z65).n)) h4 e80 (getD_some z65 (show ((Int.tmod t28.1 (x1.length : Int))).toNat < x1.length by omega)) (fun _ _ o_ => st65_c1 o_)))) (lV 37 (eAdd .i64 (x1.getD (((Int.tmod t28.1 (x1.length : Int))).toNat) z65).n 1) ?_)))
    obtain ⟨b81, e83⟩ := Row.addr h4 (show ((Int.tmod t28.1 (x1.length : Int))).toNat < x1.length by omega)
    refine lV 38 (eI b81 0 x1.length c3 3 (Int.tmod t28.1 (x1.length : Int)) .i64 underlying25 e83 q76 q77) (lV 39 (eD b81 (0 + ((Int.tmod t28.1 (x1.length : Int)) : Int).toNat * 3) 1 1 underlying65) ?_)
    have S84 := S38.pulls [F5, (is g7)] [1] rfl
    have S85 := S84.unit
    have S86 := S85.pulls [F5, no, (is g7)] [1] rfl
    refine lE (e_setpart (d := st65) (b := b81) (i := ((Int.tmod t28.1 (x1.length : Int))).toNat) (j := 1) (v := .int .i64 (i64.wrap (((x1.getD (((Int.tmod t28.1 (x1.length : Int))).toNat) z65).n) + 1))) (vs := [.int .i64 (i64.wrap (((x1.getD (((Int.tmod t28.1 (x1.length : Int))).toNat) z65).n) + 1))]) (yv := {(x1.getD (((Int.tmod t28.1 (x1.length : Int))).toNat) z65) with n := (i64.wrap (((x1.getD (((Int.tmod t28.1 (x1.length : Int))).toNat) z65).n) + 1))}) S86 kr e83 kr rfl kr h4 (getD_some z65 (show ((Int.tmod t28.1 (x1.length : Int))).toNat < x1.length by omega)) (Nat.le_of_ble_eq_true rfl) (List.forall_mem_cons.2 ⟨rfl, (fun _ h_ => by cases h_)⟩) (fun _ _ _ o_ => st65_u1 (i64.wrap (((x1.getD (((Int.tmod t28.1 (x1.length : Int))).toNat) z65).n) + 1)) o_)) ?_
    rintro w87 ⟨F89, h88, S90, K91⟩
    replace b37 := K91.blk 0 rfl b37
    clear h4
    refine wN (tN (wQ (wR (lV 122 (eM (.slice A2 x1.length c3)) (lV 4 (eA (.slice A2 x1.length c3)) (wN (tN (wT ?_))))))))
    obtain ⟨H92, F93, S94, E95, h96⟩ := S90.share h88
    obtain rfl := sj M
    have S97 := S94.pulls [(is g7), F93] [1] rfl
    exact ret1 rfl rfl  (show _ = .slice A2 x1.length c3 from kr) ⟨A33, c34, A2, c3, F93, H92, (by rw [(show (x1.set (((Int.tmod t28.1 (x1.length : Int))).toNat) ({(x1.getD (((Int.tmod t28.1 (x1.length : Int))).toNat) z65) with n := (i64.wrap (((x1.getD (((Int.tmod t28.1 (x1.length : Int))).toNat) z65).n) + 1))})).length = x1.length from (List.length_set.trans rfl))]), (h35.ext E95), l36, b37, h96, S97⟩
  replace M := ifn q75 M
  refine cF (bF q75) (wQ (wR (lV 40 (eM (.int .i64 (Int.tmod t15.1 9))) (lV 41 (eEq .i64 (Int.tmod t15.1 9) 2) (wN (tN ?_))))))
  by_cases q98 : (Int.tmod t15.1 9) = 2
  · replace M := ifp q98 M
    refine cT (bT q98) (wR (lV 42 (eM (.slice A2 x1.length c3)) (lV 43 (eM (.int .i64 (Int.tmod t28.1 (x1.length : Int)))) ?_)))
    obtain ⟨q99, M⟩ := chk M
    obtain ⟨q100, M⟩ := chk M
    obtain ⟨b101, e103⟩ := Row.addr h4 (show ((Int.tmod t28.1 (x1.length : Int))).toNat < x1.length by omega)
    refine lV 44 (eI b101 0 x1.length c3 3 (Int.tmod t28.1 (x1.length : Int)) .i64 underlying25 e103 q99 q100) (lV 45 (eD b101 (0 + ((Int.tmod t28.1 (x1.length : Int)) : Int).toNat * 3) 1 1 underlying65) ?_)
    have S104 := S38.pulls [F5, (is g7)] [1] rfl
    have S105 := S104.unit
    have S106 := S105.pulls [F5, no, (is g7)] [1] rfl
    refine lE (e_setpart (d := st65) (b := b101) (i := ((Int.tmod t28.1 (x1.length : Int))).toNat) (j := 1) (v := .int .i64 (-1)) (vs := [.int .i64 (-1)]) (yv := {(x1.getD (((Int.tmod t28.1 (x1.length : Int))).toNat) z65) with n := (-1)}) S106 kr e103 rfl rfl kr h4 (getD_some z65 (show ((Int.tmod t28.1 (x1.length : Int))).toNat < x1.length by omega)) (Nat.le_of_ble_eq_true rfl) (List.forall_mem_cons.2 ⟨rfl, (fun _ h_ => by cases h_)⟩) (fun _ _ _ o_ => st65_u1 (-1) o_)) ?_
    rintro w107 ⟨F109, h108, S110, K111⟩
    replace b37 := K111.blk 0 rfl b37
    clear h4
    refine wN (tN (wQ (wR (lV 122 (eM (.slice A2 x1.length c3)) (lV 4 (eA (.slice A2 x1.length c3)) (wN (tN (wT ?_))))))))
    obtain ⟨H112, F113, S114, E115, h116⟩ := S110.share h108
    obtain rfl := sj M
    have S117 := S114.pulls [(is g7), F113] [1] rfl
    exact ret1 rfl rfl  (show _ = .slice A2 x1.length c3 from kr) ⟨A33, c34, A2, c3, F113, H112, (by rw [(show (x1.set (((Int.tmod t28.1 (x1.length : Int))).toNat) ({(x1.getD (((Int.tmod t28.1 (x1.length : Int))).toNat) z65) with n := (-1)})).length = x1.length from (List.length_set.trans rfl))]), (h35.ext E115), l36, b37, h116, S117⟩
  replace M := ifn q98 M
  refine cF (bF q98) (wQ (wR (lV 46 (eM (.int .i64 (Int.tmod t15.1 9))) (lV 47 (eEq .i64 (Int.tmod t15.1 9) 3) (wN (tN ?_))))))
  by_cases q118 : (Int.tmod t15.1 9) = 3
  · replace M := ifp q118 M
    refine cT (bT q118) (wQ (wR (lV 48 (eM (.slice A2 x1.length c3)) (lV 49 (eM (.slice A2 x1.length c3)) (lV 50 (e_len (A := A2) (n := x1.length) (c := c3) underlying25 kr) (lV 51 (e_sub (k := .i64) (a := (x1.length : Int)) (b := 1) kr rfl) ?_))))))
    obtain ⟨q119, M⟩ := chk M
    obtain ⟨q120, M⟩ := chk M
    refine lV 52 (e_slice_h (xs := x1) (n := x1.length) (m := 3) (cap := c3) (A := A2) (b := (i64.wrap ((x1.length : Int) - 1))) (k2 := .i64) underlying25 kr kr kr q119 q120 (by have := h4.le; have := (rfl : x1.length = x1.length); omega) (take_len q119 q120 rfl)) ?_
    have h121 := h4.cut (n := ((i64.wrap ((x1.length : Int) - 1)) : Int).toNat) (by have := (rfl : x1.length = x1.length); omega)
    clear h4
    refine lV 4 (eA (.slice A2 ((x1.take (((i64.wrap ((x1.length : Int) - 1)) : Int).toNat)).length) c3)) (wN (tN (wT (tR ?_))))
    have S122 := S38.pulls [F5, (is g7)] [1] rfl
    obtain ⟨H123, F124, S125, E126, h127⟩ := S122.share h121
    obtain rfl := sj M
    have S128 := S125.pulls [(is g7), F124] [1] rfl
    exact ret1 rfl rfl  (show _ = .slice A2 ((x1.take (((i64.wrap ((x1.length : Int) - 1)) : Int).toNat)).length) c3 from kr) ⟨A33, c34, A2, c3, F124, H123, rfl, (h35.ext E126), l36, b37, h127, S128⟩
  replace M := ifn q118 M
  refine cF (bF q118) (wQ (wR (lV 53 (eM (.int .i64 (Int.tmod t15.1 9))) (lV 54 (eEq .i64 (Int.tmod t15.1 9) 4) (wN (tN ?_))))))
  by_cases q129 : (Int.tmod t15.1 9) = 4
  · replace M := ifp q129 M
    refine cT (bT q129) (wQ (wR (lV 55 (eM (.slice A2 x1.length c3)) (lV 56 (show _ = Result.ok (Next.value (.agg #[.int .i64 2, .int .i64 0, .slice none 0 0])) w30 from by kernel_rfl) ?_))))
    refine lW 57 (new_blk (v := fun g_ => .slice (some ⟨g_, 0, none⟩) 1 1) (cs := #[.int .i64 2, .int .i64 0, .slice none 0 0]) (t := 65) S38 kr) ?_
    rintro _ w130 ⟨g131, rfl, b132, S133, K134⟩
    replace b37 := K134.blk 0 rfl b37
    replace h4 := h4.move (K134.at 1 rfl)
    obtain ⟨q135, M⟩ := chk M
    have S136 := S133.pulls [F5, (is g131), (is g7)] [2] rfl
    have S137 := S136.unit
    have S138 := S137.pulls [F5, no, (is g131), (is g7)] [1] rfl
    refine lW 58 (e_append (d := st65) (n := x1.length) (xs := x1) (cap := c3) (A := A2) (ys := [(⟨2, 0, []⟩ : Cell)]) (A2 := (some ⟨g131, 0, none⟩)) (c2 := 1) (z := .agg #[.int .i64 0, .int .i64 0, .slice none 0 0]) (bytes := 40) S138 underlying25 kr rfl (by decide) kr rfl kr h4 (elsO_one1 (st65_mkO (x := (⟨2, 0, []⟩ : Cell)) (Row.nil _ _ _ _ no))) (.inr (blk_news b132 rfl)) (show (x1.length + [(⟨2, 0, []⟩ : Cell)].length) * 40 ≤ _ by first | omega | (simp only [List.length_cons, List.length_nil]; omega)) (by decide)) ?_
    rintro _ w139 ⟨A140, c141, F142, rfl, h143, S144, K145⟩
    replace b37 := K145.blk 1 rfl b37
    refine lV 4 (eA (.slice A140 ((x1 ++ [(⟨2, 0, []⟩ : Cell)]).length) c141)) (wN (tN (wT (tR ?_))))
    obtain ⟨H146, F147, S148, E149, h150⟩ := S144.share h143
    obtain rfl := sj M
    have S151 := S148.pulls [(is g7), F147, (is g131)] [2] rfl
    have S152 := St.first (Fa := [(is g7), F147]) (Fr := [(is g131)]) S151
    exact ret1 rfl rfl  (show _ = .slice A140 ((x1 ++ [(⟨2, 0, []⟩ : Cell)]).length) c141 from kr) ⟨A33, c34, A140, c141, F147, H146, rfl, (h35.ext E149), l36, b37, h150, S152⟩
  replace M := ifn q129 M
  refine cF (bF q129) (wQ (wR (lV 59 (eM (.int .i64 (Int.tmod t15.1 9))) (lV 60 (eEq .i64 (Int.tmod t15.1 9) 5) (wN (tN ?_))))))
  by_cases q153 : (Int.tmod t15.1 9) = 5
  · replace M := ifp q153 M
    refine cT (bT q153) (wR (lV 61 (eM (.slice A2 x1.length c3)) (lV 62 (eM (.int .i64 (Int.tmod t28.1 (x1.length : Int)))) (lV 63 (eM (.pointer (some ⟨g7, 0, none⟩))) ?_))))
    obtain ⟨t154, u155, M⟩ := bnd M
    refine lC 64 (eC [.tmp 63] [.pointer (some ⟨g7, 0, none⟩)] func96) (spec_l4rd_next_2.calls w30 H31 t28.2 g7 A33 c34 h35 l36 b37 (St.own' (Fa := [(is g7)]) (Fr := [F5]) S38) t154 u155) ?_
    rintro _ w156 ⟨A159, c160, H157, rfl, h161, l162, b163, T158⟩
    refine ⟨_, rfl, ?_⟩
    obtain ⟨S164, K165⟩ := St.call (Fa := [(is g7)]) (Fr := [F5]) S38 T158
    replace h4 := h4.move (K165.at 0 rfl)
    have E166 := T158.ext
    replace h4 := h4.ext E166
    refine lV 65 (e_rem (k := .i64) (a := t154.1) (b := 2) kr rfl (by decide)) (lV 66 (eAdd .i64 100 (Int.tmod t154.1 2)) ?_)
    obtain ⟨t167, u168, M⟩ := bnd M
    refine lC 67 (eC [.const (.int .u8 116), .tmp 66] [.int .u8 116, .int .i64 (i64.wrap (100 + (Int.tmod t154.1 2)))] func134) (spec_l4fill.calls k w156 H157 (116 : UInt8) (i64.wrap (100 + (Int.tmod t154.1 2)))  (St.own' (Fa := []) (Fr := [(is g7), F5]) S164) t167 u168) ?_
    rintro _ w169 ⟨A172, c173, F175, H170, rfl, h174, T171⟩
    refine ⟨_, rfl, ?_⟩
    obtain ⟨S176, K177⟩ := St.call (Fa := []) (Fr := [(is g7), F5]) S164 T171
    replace b163 := K177.blk 0 rfl b163
    replace h4 := h4.move (K177.at 1 rfl)
    have E178 := T171.ext
    replace h4 := h4.ext E178
    obtain ⟨q179, M⟩ := chk M
    obtain ⟨q180, M⟩ := chk M
    obtain ⟨b181, e183⟩ := Row.addr h4 (show ((Int.tmod t28.1 (x1.length : Int))).toNat < x1.length by omega)
    refine lV 68 (eI b181 0 x1.length c3 3 (Int.tmod t28.1 (x1.length : Int)) .i64 underlying25 e183 q179 q180) (lV 69 (eD b181 (0 + ((Int.tmod t28.1 (x1.length : Int)) : Int).toNat * 3) 2 1 underlying65) ?_)
    have S184 := S176.pulls [F5, F175, (is g7)] [2] rfl
    refine lE (e_setpart (d := st65) (b := b181) (i := ((Int.tmod t28.1 (x1.length : Int))).toNat) (j := 2) (v := .slice A172 t167.length c173) (vs := [.slice A172 t167.length c173]) (yv := {(x1.getD (((Int.tmod t28.1 (x1.length : Int))).toNat) z65) with text := t167}) S184 kr e183 kr rfl kr h4 (getD_some z65 (show ((Int.tmod t28.1 (x1.length : Int))).toNat < x1.length by omega)) (Nat.le_of_ble_eq_true rfl) (List.forall_mem_cons.2 ⟨rfl, (fun _ h_ => by cases h_)⟩) (fun _ _ _ o_ => st65_u2 h174 o_)) ?_
    rintro w185 ⟨F187, h186, S188, K189⟩
    replace b163 := K189.blk 0 rfl b163
    clear h4
    refine wN (tN (wQ (wR (lV 122 (eM (.slice A2 x1.length c3)) (lV 4 (eA (.slice A2 x1.length c3)) (wN (tN (wT ?_))))))))
    obtain ⟨H190, F191, S192, E193, h194⟩ := S188.share h186
    obtain rfl := sj M
    have S195 := S192.pulls [(is g7), F191] [1] rfl
    exact ret1 rfl rfl  (show _ = .slice A2 x1.length c3 from kr) ⟨A159, c160, A2, c3, F191, H190, (by rw [(show (x1.set (((Int.tmod t28.1 (x1.length : Int))).toNat) ({(x1.getD (((Int.tmod t28.1 (x1.length : Int))).toNat) z65) with text := t167})).length = x1.length from (List.length_set.trans rfl))]), (h161.ext (E178.trans E193)), l162, b163, h194, S195⟩
  replace M := ifn q153 M
  refine cF (bF q153) (wQ (wR (lV 70 (eM (.int .i64 (Int.tmod t15.1 9))) (lV 71 (eEq .i64 (Int.tmod t15.1 9) 6) (wN (tN ?_))))))
  by_cases q196 : (Int.tmod t15.1 9) = 6
  · replace M := ifp q196 M
    refine cT (bT q196) (wR (lV 72 (eM (.slice A2 x1.length c3)) (lV 73 (eM (.int .i64 (Int.tmod t28.1 (x1.length : Int)))) (lV 74 (eM (.pointer (some ⟨g7, 0, none⟩))) ?_))))
    obtain ⟨t197, u198, M⟩ := bnd M
    refine lC 75 (eC [.tmp 74] [.pointer (some ⟨g7, 0, none⟩)] func96) (spec_l4rd_next_2.calls w30 H31 t28.2 g7 A33 c34 h35 l36 b37 (St.own' (Fa := [(is g7)]) (Fr := [F5]) S38) t197 u198) ?_
    rintro _ w199 ⟨A202, c203, H200, rfl, h204, l205, b206, T201⟩
    refine ⟨_, rfl, ?_⟩
    obtain ⟨S207, K208⟩ := St.call (Fa := [(is g7)]) (Fr := [F5]) S38 T201
    replace h4 := h4.move (K208.at 0 rfl)
    have E209 := T201.ext
    replace h4 := h4.ext E209
    refine lV 76 (e_rem (k := .i64) (a := t197.1) (b := 2) kr rfl (by decide)) (lV 77 (eAdd .i64 1000000000000000 (Int.tmod t197.1 2)) ?_)
    obtain ⟨q210, M⟩ := chk M
    obtain ⟨q211, M⟩ := chk M
    obtain ⟨b212, e214⟩ := Row.addr h4 (show ((Int.tmod t28.1 (x1.length : Int))).toNat < x1.length by omega)
    refine lV 78 (eI b212 0 x1.length c3 3 (Int.tmod t28.1 (x1.length : Int)) .i64 underlying25 e214 q210 q211) (lV 79 (eD b212 (0 + ((Int.tmod t28.1 (x1.length : Int)) : Int).toNat * 3) 1 1 underlying65) ?_)
    have S215 := S207.pulls [F5, (is g7)] [1] rfl
    have S216 := S215.unit
    have S217 := S216.pulls [F5, no, (is g7)] [1] rfl
    refine lE (e_setpart (d := st65) (b := b212) (i := ((Int.tmod t28.1 (x1.length : Int))).toNat) (j := 1) (v := .int .i64 (i64.wrap (1000000000000000 + (Int.tmod t197.1 2)))) (vs := [.int .i64 (i64.wrap (1000000000000000 + (Int.tmod t197.1 2)))]) (yv := {(x1.getD (((Int.tmod t28.1 (x1.length : Int))).toNat) z65) with n := (i64.wrap (1000000000000000 + (Int.tmod t197.1 2)))}) S217 kr e214 kr rfl kr h4 (getD_some z65 (show ((Int.tmod t28.1 (x1.length : Int))).toNat < x1.length by omega)) (Nat.le_of_ble_eq_true rfl) (List.forall_mem_cons.2 ⟨rfl, (fun _ h_ => by cases h_)⟩) (fun _ _ _ o_ => st65_u1 (i64.wrap (1000000000000000 + (Int.tmod t197.1 2))) o_)) ?_
    rintro w218 ⟨F220, h219, S221, K222⟩
    replace b206 := K222.blk 0 rfl b206
    clear h4
    refine wN (tN (wQ (wR (lV 122 (eM (.slice A2 x1.length c3)) (lV 4 (eA (.slice A2 x1.length c3)) (wN (tN (wT ?_))))))))
    obtain ⟨H223, F224, S225, E226, h227⟩ := S221.share h219
    obtain rfl := sj M
    have S228 := S225.pulls [(is g7), F224] [1] rfl
    exact ret1 rfl rfl  (show _ = .slice A2 x1.length c3 from kr) ⟨A202, c203, A2, c3, F224, H223, (by rw [(show (x1.set (((Int.tmod t28.1 (x1.length : Int))).toNat) ({(x1.getD (((Int.tmod t28.1 (x1.length : Int))).toNat) z65) with n := (i64.wrap (1000000000000000 + (Int.tmod t197.1 2)))})).length = x1.length from (List.length_set.trans rfl))]), (h204.ext E226), l205, b206, h227, S228⟩
  replace M := ifn q196 M
  refine cF (bF q196) (wQ (wR (lV 80 (eM (.int .i64 (Int.tmod t15.1 9))) (lV 81 (eEq .i64 (Int.tmod t15.1 9) 7) (wN (tN ?_))))))
  by_cases q229 : (Int.tmod t15.1 9) = 7
  · replace M := ifp q229 M
    refine cT (bT q229) (wQ (wR (lV 7 (eA (.slice none 0 0)) (wN (tN (wQ (wR (lV 82 (eM (.pointer (some ⟨g7, 0, none⟩))) ?_))))))))
    obtain ⟨t230, u231, M⟩ := bnd M
    refine lC 83 (eC [.tmp 82] [.pointer (some ⟨g7, 0, none⟩)] func96) (spec_l4rd_next_2.calls w30 H31 t28.2 g7 A33 c34 h35 l36 b37 (St.own' (Fa := [(is g7)]) (Fr := [F5]) S38) t230 u231) ?_
    rintro _ w232 ⟨A235, c236, H233, rfl, h237, l238, b239, T234⟩
    refine ⟨_, rfl, ?_⟩
    obtain ⟨S240, K241⟩ := St.call (Fa := [(is g7)]) (Fr := [F5]) S38 T234
    have E242 := T234.ext
    refine lV 84 (e_rem (k := .i64) (a := t230.1) (b := 3) kr rfl (by decide)) (lV 85 (eAdd .i64 1999 (Int.tmod t230.1 3)) (lV 8 (eA (.int .i64 (i64.wrap (1999 + (Int.tmod t230.1 3))))) (wN (tN (wQ (wQ (wR (lV 9 (eA (.int .i64 0)) (wN (tN (wp_block ?_)))))))))))
    have S262 := S240.unit
    have S263 := S262.pulls [(is g7), no, F5] [1] rfl
    have S264 := St.first (Fa := [(is g7), no]) (Fr := [F5]) S263
    refine wp_loop_g (fun k259 a260 w243 => ∃ (f244 : Nat → Value) (H245 : Hp) (x247 : List Cell) (A248 : Option Addr) (c249 : Nat) (F250 : Foot) (x252 : Int), a260 = mk 123 f244 ∧ f244 7 = .slice A248 x247.length c249 ∧ f244 8 = .int .i64 (i64.wrap (1999 + (Int.tmod t230.1 3))) ∧ f244 9 = .int .i64 x252 ∧ w243.heap[g7]? = some (.cells #[.slice A235 t230.2.b_.length c236, .int .i64 t230.2.i_] 150 (0, 0)) ∧ Row (ro st65) 65 H245 (hp w243) F250 A248 c249 x247 ∧ Ext H233 H245 ∧ St (anyOf [F5, (is g7)]) H w [(is g7), F250] H245 w243 ∧ spec_l4spoil_2.l0 k259 t230 x247 x252 = some r) k ⟨_, H233, [], none, 0, no, 0, rfl, kr, kr, kr, b239, (Row.nil _ _ _ _ _), (Ext.refl _), S264, M⟩ ?_
    clear M
    rintro k259 a260 w243 ⟨f244, H245, x247, A248, c249, F250, x252, rfl, e253, e254, e255, b239, h251, Y246, S256, M⟩
    rcases k259 with _ | k261
    · rw [spec_l4spoil_2.l0] at M
      cases M
    rw [spec_l4spoil_2.l0] at M
    refine wQ (wQ (wR (lV 86 (eM (.int .i64 x252) (by exact e255)) (lV 87 (eM (.int .i64 (i64.wrap (1999 + (Int.tmod t230.1 3)))) (by exact e254)) (lV 88 (e_sub (k := .i64) (a := (i64.wrap (1999 + (Int.tmod t230.1 3)))) (b := 1) kr rfl) (lV 89 (e_quo (k := .i64) (a := (i64.wrap ((i64.wrap (1999 + (Int.tmod t230.1 3))) - 1))) (b := 2) kr rfl (by decide)) (lV 90 (eLt .i64 x252 (i64.wrap (Int.tdiv (i64.wrap ((i64.wrap (1999 + (Int.tmod t230.1 3))) - 1)) 2))) (wN (tN ?_)))))))))
    by_cases q265 : x252 < (i64.wrap (Int.tdiv (i64.wrap ((i64.wrap (1999 + (Int.tmod t230.1 3))) - 1)) 2))
    · replace M := ifp q265 M
      refine cT (bT q265) (wK (tN (wQ (wp_block (wR (lV 93 (eM (.slice A248 x247.length c249) (by exact e253)) ?_))))))
      refine lW 94 (new_blk (v := fun g_ => .slice (some ⟨g_, 0, none⟩) 1 1) (cs := #[.int .u8 46]) (t := 5) S256 kr) ?_
      rintro _ w266 ⟨g267, rfl, b268, S269, K270⟩
      replace b239 := K270.blk 0 rfl b239
      replace h251 := h251.move (K270.at 1 rfl)
      refine lW 95 (e_conv_lit (g := g267) (n := 1) (cur := #[.int .u8 46]) (xs := [(46 : UInt8)]) S269 b268 underlying59 underlying5 kr rfl rfl (by decide)) ?_
      rintro _ w271 ⟨rfl, h272, S273, K274⟩
      replace b239 := K274.blk 0 rfl b239
      replace h251 := h251.move (K274.at 1 rfl)
      clear b268
      refine lV 96 (show _ = Result.ok (Next.value (.agg #[.int .i64 3, .int .i64 2, .slice (some ⟨g267, 0, none⟩) 1 1])) w271 from by kernel_rfl) (lV 97 (eM (.int .i64 x252) (by exact e255)) (lV 98 (e_rem (k := .i64) (a := x252) (b := 7) kr rfl (by decide)) (lV 99 (show _ = Result.ok (Next.value (.agg #[.int .i64 0, .int .i64 (Int.tmod x252 7), .slice none 0 0])) w271 from by kernel_rfl) ?_)))
      refine lW 100 (new_blk (v := fun g_ => .slice (some ⟨g_, 0, none⟩) 2 2) (cs := #[.int .i64 3, .int .i64 2, .slice (some ⟨g267, 0, none⟩) 1 1, .int .i64 0, .int .i64 (Int.tmod x252 7), .slice none 0 0]) (t := 65) S273 kr) ?_
      rintro _ w275 ⟨g276, rfl, b277, S278, K279⟩
      replace h272 := h272.move (K279.at 0 rfl)
      replace b239 := K279.blk 1 rfl b239
      replace h251 := h251.move (K279.at 2 rfl)
      have l280 := h272.le
      have S281 := S278.pulls [(is g267), (is g276), (is g7), F250] [1] rfl
      obtain ⟨H282, S283, E284, h285, z286⟩ := S281.frzRow h272
      replace h251 := h251.ext E284
      obtain ⟨q287, M⟩ := chk M
      have S288 := S283.pulls [F250, (is g276), (is g7)] [2] rfl
      have S289 := S288.unit
      have S290 := S289.pulls [F250, no, (is g276), (is g7)] [1] rfl
      refine lW 101 (e_append (d := (ro st65)) (n := x247.length) (xs := x247) (cap := c249) (A := A248) (ys := [(⟨3, 2, [(46 : UInt8)]⟩ : Cell), (⟨0, (Int.tmod x252 7), []⟩ : Cell)]) (A2 := (some ⟨g276, 0, none⟩)) (c2 := 2) (z := .agg #[.int .i64 0, .int .i64 0, .slice none 0 0]) (bytes := 40) S290 underlying25 kr rfl (by decide) kr rfl kr h251 (elsO_no (d := (ro st65)) (st65_mkR (x := (⟨3, 2, [(46 : UInt8)]⟩ : Cell)) l280 h285) (elsO_no (d := (ro st65)) (st65_mkR (x := (⟨0, (Int.tmod x252 7), []⟩ : Cell)) (Nat.le_refl _) (Rd.nil _ _ _)) (elsO_nil _ _ _ no))) (.inr (blk_news b277 rfl)) (show (x247.length + [(⟨3, 2, [(46 : UInt8)]⟩ : Cell), (⟨0, (Int.tmod x252 7), []⟩ : Cell)].length) * 40 ≤ _ by first | omega | (simp only [List.length_cons, List.length_nil]; omega)) (by decide)) ?_
      rintro _ w291 ⟨A292, c293, F294, rfl, h295, S296, K297⟩
      replace b239 := K297.blk 1 rfl b239
      refine lV 7 (eA (.slice A292 ((x247 ++ [(⟨3, 2, [(46 : UInt8)]⟩ : Cell), (⟨0, (Int.tmod x252 7), []⟩ : Cell)]).length) c293)) (wN (inb_n (tN (wR (lV 91 (eM (.int .i64 x252) (by exact e255)) (lV 92 (eAdd .i64 x252 1) (lV 9 (eA (.int .i64 (i64.wrap (x252 + 1)))) (wN (tN ?_)))))))))
      have S298 := S296.pulls [(is g7), F294, (is g276)] [2] rfl
      have S299 := St.first (Fa := [(is g7), F294]) (Fr := [(is g276)]) S298
      exact ⟨k261, (by omega), _, H282, (x247 ++ [(⟨3, 2, [(46 : UInt8)]⟩ : Cell), (⟨0, (Int.tmod x252 7), []⟩ : Cell)]), A292, c293, F294, (i64.wrap (x252 + 1)), rfl, kr, (by exact e254), kr, b239, h295, (Y246.trans E284), S299, M⟩
    replace M := ifn q265 M
    refine cF (bF q265) (wp_exit (tE (tE (inb_hit (tN (wQ (wQ (wR (lV 102 (eM (.int .i64 (i64.wrap (1999 + (Int.tmod t230.1 3)))) (by exact e254)) (lV 103 (e_rem (k := .i64) (a := (i64.wrap (1999 + (Int.tmod t230.1 3)))) (b := 2) kr rfl (by decide)) (lV 104 (eEq .i64 (Int.tmod (i64.wrap (1999 + (Int.tmod t230.1 3))) 2) 0) (wN (tN ?_)))))))))))))
    by_cases q300 : (Int.tmod (i64.wrap (1999 + (Int.tmod t230.1 3))) 2) = 0
    · replace M := ifp q300 M
      refine cT (bT q300) (wR (lV 105 (eM (.slice A248 x247.length c249) (by exact e253)) ?_))
      refine lW 106 (new_blk (v := fun g_ => .slice (some ⟨g_, 0, none⟩) 1 1) (cs := #[.int .u8 102]) (t := 5) S256 kr) ?_
      rintro _ w301 ⟨g302, rfl, b303, S304, K305⟩
      replace b239 := K305.blk 0 rfl b239
      replace h251 := h251.move (K305.at 1 rfl)
      refine lW 107 (e_conv_lit (g := g302) (n := 1) (cur := #[.int .u8 102]) (xs := [(102 : UInt8)]) S304 b303 underlying59 underlying5 kr rfl rfl (by decide)) ?_
      rintro _ w306 ⟨rfl, h307, S308, K309⟩
      replace b239 := K309.blk 0 rfl b239
      replace h251 := h251.move (K309.at 1 rfl)
      clear b303
      refine lV 108 (show _ = Result.ok (Next.value (.agg #[.int .i64 3, .int .i64 1, .slice (some ⟨g302, 0, none⟩) 1 1])) w306 from by kernel_rfl) ?_
      refine lW 109 (new_blk (v := fun g_ => .slice (some ⟨g_, 0, none⟩) 1 1) (cs := #[.int .i64 3, .int .i64 1, .slice (some ⟨g302, 0, none⟩) 1 1]) (t := 65) S308 kr) ?_
      rintro _ w310 ⟨g311, rfl, b312, S313, K314⟩
      replace h307 := h307.move (K314.at 0 rfl)
      replace b239 := K314.blk 1 rfl b239
      replace h251 := h251.move (K314.at 2 rfl)
      have l315 := h307.le
      have S316 := S313.pulls [(is g302), (is g311), (is g7), F250] [1] rfl
      obtain ⟨H317, S318, E319, h320, z321⟩ := S316.frzRow h307
      replace h251 := h251.ext E319
      obtain ⟨q322, M⟩ := chk M
      have S323 := S318.pulls [F250, (is g311), (is g7)] [2] rfl
      have S324 := S323.unit
      have S325 := S324.pulls [F250, no, (is g311), (is g7)] [1] rfl
      refine lW 110 (e_append (d := (ro st65)) (n := x247.length) (xs := x247) (cap := c249) (A := A248) (ys := [(⟨3, 1, [(102 : UInt8)]⟩ : Cell)]) (A2 := (some ⟨g311, 0, none⟩)) (c2 := 1) (z := .agg #[.int .i64 0, .int .i64 0, .slice none 0 0]) (bytes := 40) S325 underlying25 kr rfl (by decide) kr rfl kr h251 (elsO_one1 (st65_mkR (x := (⟨3, 1, [(102 : UInt8)]⟩ : Cell)) l315 h320)) (.inr (blk_news b312 rfl)) (show (x247.length + [(⟨3, 1, [(102 : UInt8)]⟩ : Cell)].length) * 40 ≤ _ by first | omega | (simp only [List.length_cons, List.length_nil]; omega)) (by decide)) ?_
      rintro _ w326 ⟨A327, c328, F329, rfl, h330, S331, K332⟩
      replace b239 := K332.blk 1 rfl b239
      refine lV 7 (eA (.slice A327 ((x247 ++ [(⟨3, 1, [(102 : UInt8)]⟩ : Cell)]).length) c328)) (wN (tN (wQ (wR (lV 111 (eM (.slice A327 ((x247 ++ [(⟨3, 1, [(102 : UInt8)]⟩ : Cell)]).length) c328)) ?_)))))
      obtain ⟨t333, u334, M⟩ := bnd M
      refine lC 112 (eC [.const (str ([91, 93] : List UInt8))] [str ([91, 93] : List UInt8)] func79) (spec_l2atom.calls w326 H317 ([91, 93] : List UInt8)  (St.own' (Fa := []) (Fr := [F329, (is g311), (is g7)]) S331) t333 u334) ?_
      rintro _ w335 ⟨A338, c339, F341, H336, rfl, h340, T337⟩
      refine ⟨_, rfl, ?_⟩
      obtain ⟨S342, K343⟩ := St.call (Fa := []) (Fr := [F329, (is g311), (is g7)]) S331 T337
      replace h330 := h330.move (K343.at 0 rfl)
      replace b239 := K343.blk 2 rfl b239
      have E344 := T337.ext
      replace h330 := h330.ext E344
      obtain ⟨H345, F346, S347, E348, h349⟩ := S342.share h340
      replace h330 := h330.ext E348
      obtain ⟨y350, h351, h352⟩ := Row.news0 (d := (ro st65)) (oo_ro _) h349
      obtain ⟨q353, M⟩ := chk M
      have S354 := S347.pulls [F329, F346, (is g311), (is g7)] [1] rfl
      have S355 := S354.unit
      have S356 := S355.pulls [F329, no, F346, (is g311), (is g7)] [1] rfl
      refine lW 113 (e_append (d := (ro st65)) (n := (x247 ++ [(⟨3, 1, [(102 : UInt8)]⟩ : Cell)]).length) (xs := (x247 ++ [(⟨3, 1, [(102 : UInt8)]⟩ : Cell)])) (cap := c328) (A := A327) (ys := t333) (A2 := A338) (c2 := c339) (z := .agg #[.int .i64 0, .int .i64 0, .slice none 0 0]) (bytes := 40) S356 underlying25 kr rfl (by decide) kr rfl kr h330 h351 h352 (show ((x247 ++ [(⟨3, 1, [(102 : UInt8)]⟩ : Cell)]).length + t333.length) * 40 ≤ _ by first | omega | (simp only [List.length_cons, List.length_nil]; omega)) (by decide)) ?_
      rintro _ w357 ⟨A358, c359, F360, rfl, h361, S362, K363⟩
      replace b239 := K363.blk 2 rfl b239
      refine lV 4 (eA (.slice A358 (((x247 ++ [(⟨3, 1, [(102 : UInt8)]⟩ : Cell)]) ++ t333).length) c359)) (wN (tN (wT (tR ?_))))
      obtain rfl := sj M
      have S364 := S362.pulls [(is g7), F360, F346, (is g311)] [3] rfl
      have S365 := St.first (Fa := [(is g7), F360]) (Fr := [F346, (is g311)]) S364
      exact ret1 rfl rfl  (show _ = .slice A358 (((x247 ++ [(⟨3, 1, [(102 : UInt8)]⟩ : Cell)]) ++ t333).length) c359 from kr) ⟨A235, c236, A358, c359, F360, H345, rfl, (h237.ext (((Y246.trans E319).trans E344).trans E348)), l238, b239, h361, S365⟩
    replace M := ifn q300 M
    refine cF (bF q300) (wK (tN (wQ (wR (lV 111 (eM (.slice A248 x247.length c249) (by exact e253)) ?_)))))
    obtain ⟨t366, u367, M⟩ := bnd M
    refine lC 112 (eC [.const (str ([91, 93] : List UInt8))] [str ([91, 93] : List UInt8)] func79) (spec_l2atom.calls w243 H245 ([91, 93] : List UInt8)  (St.own' (Fa := []) (Fr := [(is g7), F250]) S256) t366 u367) ?_
    rintro _ w368 ⟨A371, c372, F374, H369, rfl, h373, T370⟩
    refine ⟨_, rfl, ?_⟩
    obtain ⟨S375, K376⟩ := St.call (Fa := []) (Fr := [(is g7), F250]) S256 T370
    replace b239 := K376.blk 0 rfl b239
    replace h251 := h251.move (K376.at 1 rfl)
    have E377 := T370.ext
    replace h251 := h251.ext E377
    obtain ⟨H378, F379, S380, E381, h382⟩ := S375.share h373
    replace h251 := h251.ext E381
    obtain ⟨y383, h384, h385⟩ := Row.news0 (d := (ro st65)) (oo_ro _) h382
    obtain ⟨q386, M⟩ := chk M
    have S387 := S380.pulls [F250, F379, (is g7)] [2] rfl
    have S388 := S387.unit
    have S389 := S388.pulls [F250, no, F379, (is g7)] [1] rfl
    refine lW 113 (e_append (d := (ro st65)) (n := x247.length) (xs := x247) (cap := c249) (A := A248) (ys := t366) (A2 := A371) (c2 := c372) (z := .agg #[.int .i64 0, .int .i64 0, .slice none 0 0]) (bytes := 40) S389 underlying25 kr rfl (by decide) kr rfl kr h251 h384 h385 (show (x247.length + t366.length) * 40 ≤ _ by first | omega | (simp only [List.length_cons, List.length_nil]; omega)) (by decide)) ?_
    rintro _ w390 ⟨A391, c392, F393, rfl, h394, S395, K396⟩
    replace b239 := K396.blk 1 rfl b239
    refine lV 4 (eA (.slice A391 ((x247 ++ t366).length) c392)) (wN (tN (wT (tR ?_))))
    obtain rfl := sj M
    have S397 := S395.pulls [(is g7), F393, F379] [2] rfl
    have S398 := St.first (Fa := [(is g7), F393]) (Fr := [F379]) S397
    exact ret1 rfl rfl  (show _ = .slice A391 ((x247 ++ t366).length) c392 from kr) ⟨A235, c236, A391, c392, F393, H378, rfl, (h237.ext ((Y246.trans E377).trans E381)), l238, b239, h394, S398⟩
  replace M := ifn q229 M
  refine cF (bF q229) (wR (lV 114 (eM (.slice A2 x1.length c3)) (lV 115 (eM (.int .i64 (Int.tmod t28.1 (x1.length : Int)))) (lV 116 (eM (.pointer (some ⟨g7, 0, none⟩))) ?_))))
  obtain ⟨t399, u400, M⟩ := bnd M
  refine lC 117 (eC [.tmp 116] [.pointer (some ⟨g7, 0, none⟩)] func96) (spec_l4rd_next_2.calls w30 H31 t28.2 g7 A33 c34 h35 l36 b37 (St.own' (Fa := [(is g7)]) (Fr := [F5]) S38) t399 u400) ?_
  rintro _ w401 ⟨A404, c405, H402, rfl, h406, l407, b408, T403⟩
  refine ⟨_, rfl, ?_⟩
  obtain ⟨S409, K410⟩ := St.call (Fa := [(is g7)]) (Fr := [F5]) S38 T403
  replace h4 := h4.move (K410.at 0 rfl)
  have E411 := T403.ext
  replace h4 := h4.ext E411
  refine lV 118 (e_rem (k := .i64) (a := t399.1) (b := 2) kr rfl (by decide)) (lV 119 (eAdd .i64 1000000 (Int.tmod t399.1 2)) (lV 120 (show _ = Result.ok (Next.value (.agg #[.int .i64 0, .int .i64 (i64.wrap (1000000 + (Int.tmod t399.1 2))), .slice none 0 0])) w401 from by kernel_rfl) ?_))
  obtain ⟨q412, M⟩ := chk M
  obtain ⟨q413, M⟩ := chk M
  obtain ⟨b414, e416⟩ := Row.addr h4 (show ((Int.tmod t28.1 (x1.length : Int))).toNat < x1.length by omega)
  refine lV 121 (eI b414 0 x1.length c3 3 (Int.tmod t28.1 (x1.length : Int)) .i64 underlying25 e416 q412 q413) ?_
  have S417 := S409.pulls [F5, (is g7)] [1] rfl
  have S418 := S417.unit
  have S419 := S418.pulls [F5, no, (is g7)] [1] rfl
  refine lE (e_setel (d := st65) (b := b414) (i := ((Int.tmod t28.1 (x1.length : Int))).toNat) (v := .agg #[.int .i64 0, .int .i64 (i64.wrap (1000000 + (Int.tmod t399.1 2))), .slice none 0 0]) (vs := [.int .i64 0, .int .i64 (i64.wrap (1000000 + (Int.tmod t399.1 2))), .slice none 0 0]) (yv := (⟨0, (i64.wrap (1000000 + (Int.tmod t399.1 2))), []⟩ : Cell)) S419 kr e416 kr rfl kr h4 (show ((Int.tmod t28.1 (x1.length : Int))).toNat < x1.length by omega) (st65_mkO (x := (⟨0, (i64.wrap (1000000 + (Int.tmod t399.1 2))), []⟩ : Cell)) (Row.nil _ _ _ _ no))) ?_
  rintro w420 ⟨F422, h421, S423, K424⟩
  replace b408 := K424.blk 0 rfl b408
  clear h4
  refine wN (tN (wQ (wR (lV 122 (eM (.slice A2 x1.length c3)) (lV 4 (eA (.slice A2 x1.length c3)) (wN (tN (wT ?_))))))))
  obtain ⟨H425, F426, S427, E428, h429⟩ := S423.share h421
  obtain rfl := sj M
  have S430 := S427.pulls [(is g7), F426] [1] rfl
  exact ret1 rfl rfl  (show _ = .slice A2 x1.length c3 from kr) ⟨A404, c405, A2, c3, F426, H425, (by rw [(show (x1.set (((Int.tmod t28.1 (x1.length : Int))).toNat) (⟨0, (i64.wrap (1000000 + (Int.tmod t399.1 2))), []⟩ : Cell)).length = x1.length from (List.length_set.trans rfl))]), (h406.ext E428), l407, b408, h429, S430⟩

/-! spec_l4any -/
def spec_l4any.f (k : Nat) (x1 : GL4rd) : Option ((List Cell) × GL4rd) := ((spec_l4rd_next_2.f x1).bind fun t8 => ((spec_l4term.f k t8.2 4).bind fun t21 => (if (Int.tmod t8.1 16) = 0 then ((spec_l4spoil_2.f k t21.1 t21.2).bind fun t40 => some (t40.1, t40.2)) else some (t21.1, t21.2))))
theorem spec_l4any.calls (k : Nat) (w : World) (H : Hp) (x1 : GL4rd) (g2 : Nat) (A4 : Option Addr) (c5 : Nat) (h6 : Rd tByte H A4 x1.b_) (l7 : x1.b_.length ≤ c5) (b3 : w.heap[g2]? = some (.cells #[.slice A4 x1.b_.length c5, .int .i64 x1.i_] 150 (0, 0))) (S : Own [(is g2)] H w) (r : (List Cell) × GL4rd) (M : spec_l4any.f k x1 = some r) :
    Calls Try.prog 97 #[.pointer (some ⟨g2, 0, none⟩)] w (fun e e_w => ∃ (A_1 : Option Addr) (c_1 : Nat) (A_2 : Option Addr) (c_2 : Nat) (F_1 : Foot) (H_ : Hp), e = .returned (.slice A_2 r.1.length c_2) ∧ Rd tByte H_ A_1 r.2.b_ ∧ r.2.b_.length ≤ c_1 ∧ e_w.heap[g2]? = some (.cells #[.slice A_1 r.2.b_.length c_1, .int .i64 r.2.i_] 150 (0, 0)) ∧ Row (ro st65) 65 H_ (hp e_w) F_1 A_2 c_2 r.1 ∧ St (anyOf [(is g2)]) H w [(is g2), F_1] H_ e_w) := by
  rw [spec_l4any.f] at M
  refine enter (l := [.pointer (some ⟨g2, 0, none⟩)]) 16 func97 rfl rfl rfl ?_
  have S0_ := S.st
  refine wQ (wR (lV 2 (eA (.slice none 0 0)) (wN (tN (wQ (wR (lV 5 (eM (.pointer (some ⟨g2, 0, none⟩))) ?_)))))))
  obtain ⟨t8, u9, M⟩ := bnd M
  refine lC 6 (eC [.tmp 5] [.pointer (some ⟨g2, 0, none⟩)] func96) (spec_l4rd_next_2.calls w H x1 g2 A4 c5 h6 l7 b3 (St.own' (Fa := [(is g2)]) (Fr := []) S0_) t8 u9) ?_
  rintro _ w10 ⟨A13, c14, H11, rfl, h15, l16, b17, T12⟩
  refine ⟨_, rfl, ?_⟩
  obtain ⟨S18, K19⟩ := St.call (Fa := [(is g2)]) (Fr := []) S0_ T12
  have E20 := T12.ext
  refine lV 7 (e_rem (k := .i64) (a := t8.1) (b := 16) kr rfl (by decide)) (lV 3 (eA (.int .i64 (Int.tmod t8.1 16))) (wN (tN (wQ (wR (lV 8 (eM (.pointer (some ⟨g2, 0, none⟩))) ?_))))))
  obtain ⟨t21, u22, M⟩ := bnd M
  refine lC 9 (eC [.tmp 8, .const (.int .i64 4)] [.pointer (some ⟨g2, 0, none⟩), .int .i64 4] func122) (spec_l4term.calls k w10 H11 t8.2 g2 A13 c14 4 h15 l16 b17 (St.own' (Fa := [(is g2)]) (Fr := []) S18) t21 u22) ?_
  rintro _ w23 ⟨A26, c27, A31, c32, F34, H24, rfl, h28, l29, b30, h33, T25⟩
  refine ⟨_, rfl, ?_⟩
  obtain ⟨S35, K36⟩ := St.call (Fa := [(is g2)]) (Fr := []) S18 T25
  have E37 := T25.ext
  refine lV 4 (eA (.slice A31 t21.1.length c32)) (wN (tN (wQ (wQ (wR (lV 10 (eM (.int .i64 (Int.tmod t8.1 16))) (lV 11 (eEq .i64 (Int.tmod t8.1 16) 0) (wN (tN ?_)))))))))
  by_cases q38 : (Int.tmod t8.1 16) = 0
  · replace M := ifp q38 M
    refine cT (bT q38) (wQ (wR (lV 12 (eM (.slice A31 t21.1.length c32)) (lV 13 (eM (.pointer (some ⟨g2, 0, none⟩))) ?_))))
    have S39 := S35.pulls [F34, (is g2)] [1] rfl
    obtain ⟨t40, u41, M⟩ := bnd M
    refine lC 14 (eC [.tmp 12, .tmp 13] [.slice A31 t21.1.length c32, .pointer (some ⟨g2, 0, none⟩)] func123) (spec_l4spoil_2.calls k w23 H24 t21.1 A31 c32 F34 t21.2 g2 A26 c27 h33 h28 l29 b30 (St.own' (Fa := [F34, (is g2)]) (Fr := []) S39) t40 u41) ?_
    rintro _ w42 ⟨A45, c46, A50, c51, F53, H43, rfl, h47, l48, b49, h52, T44⟩
    refine ⟨_, rfl, ?_⟩
    obtain ⟨S54, K55⟩ := St.call (Fa := [F34, (is g2)]) (Fr := []) S39 T44
    have E56 := T44.ext
    refine lV 2 (eA (.slice A50 t40.1.length c51)) (wN (tN (wT (tR ?_))))
    obtain rfl := sj M
    exact ret1 rfl rfl  (show _ = .slice A50 t40.1.length c51 from kr) ⟨A45, c46, A50, c51, F53, H43, rfl, h47, l48, b49, h52, S54⟩
  replace M := ifn q38 M
  refine cF (bF q38) (wK (tN (wQ (wR (lV 15 (eM (.slice A31 t21.1.length c32)) (lV 2 (eA (.slice A31 t21.1.length c32)) (wN (tN (wT ?_)))))))))
  have S57 := S35.pulls [F34, (is g2)] [1] rfl
  obtain ⟨H58, F59, S60, E61, h62⟩ := S57.share h33
  obtain rfl := sj M
  have S63 := S60.pulls [(is g2), F59] [1] rfl
  exact ret1 rfl rfl  (show _ = .slice A31 t21.1.length c32 from kr) ⟨A26, c27, A31, c32, F59, H58, rfl, (h28.ext E61), l29, b30, h62, S63⟩

/-! spec_l2cell -/
def spec_l2cell.f (x1 : Cell) : Option Bool := (if x1.kind = 0 then (if x1.n ≥ 0 then (if x1.n ≤ 1000000 then some (decide ((x1.text.length : Int) = 0)) else some false) else some false) else (if x1.kind = 1 then (if x1.n ≥ (-1000000000000000) then (if x1.n ≤ 1000000000000000 then some (decide ((x1.text.length : Int) = 0)) else some false) else some false) else (if (x1.text.length : Int) > 100 then some false else (if x1.kind = 2 then some (decide (x1.n = 0)) else (if x1.kind = 3 then (if x1.n ≥ 1 then some (decide (x1.n ≤ 20)) else some false) else some false)))))
theorem spec_l2cell.calls (w : World) (H : Hp) (x1 : Cell) (A2 : Option Addr) (c3 : Nat) (h4 : Rd tByte H A2 x1.text) (l5 : x1.text.length ≤ c3) (S : Own [] H w) (r : Bool) (M : spec_l2cell.f x1 = some r) :
    Calls Try.prog 56 #[.agg #[.int .i64 x1.kind, .int .i64 x1.n, .slice A2 x1.text.length c3]] w (fun e e_w => e = .returned (.bool r) ∧ Chg no w e_w) := by
  rw [spec_l2cell.f] at M
  refine enter (l := [.agg #[.int .i64 x1.kind, .int .i64 x1.n, .slice A2 x1.text.length c3]]) 60 func56 rfl rfl rfl ?_
  have S0_ := S.st
  refine wQ (wR ?_)
  refine lW 1 (nB #[.int .i64 x1.kind, .int .i64 x1.n, .slice A2 x1.text.length c3] 65 S0_) ?_
  rintro _ w6 ⟨g7, rfl, b9, S10, K11⟩
  refine lV 2 (eA (.bool false)) (wN (tN (wQ (wQ (wR (lV 3 (eD g7 0 0 1 underlying65) (lV 4 (eL ⟨g7, 0 + 0, none⟩ (.int .i64 x1.kind) underlying3 (blk_cell b9 rfl)) (lV 5 (eEq .i64 x1.kind 0) (wN (tN ?_))))))))))
  by_cases q12 : x1.kind = 0
  · replace M := ifp q12 M
    refine cT (bT q12) (wQ (wR (lV 6 (eD g7 0 1 1 underlying65) (lV 7 (eL ⟨g7, 0 + 1, none⟩ (.int .i64 x1.n) underlying3 (blk_cell b9 rfl)) (lV 8 (e_geq (k := .i64) (a := x1.n) (b := 0) kr rfl) (lV 9 (eM (.bool (decide (x1.n ≥ 0)))) ?_))))))
    by_cases q13 : x1.n ≥ 0
    · replace M := ifp q13 M
      refine lG 10 9 (bT q13) (eD g7 0 1 1 underlying65) (lG 11 9 (bT q13) (eL ⟨g7, 0 + 1, none⟩ (.int .i64 x1.n) underlying3 (blk_cell b9 rfl)) (lG 12 9 (bT q13) (e_leq (k := .i64) (a := x1.n) (b := 1000000) kr rfl) (lV 13 (eT (.bool (decide (x1.n ≤ 1000000))) (bT q13)) (lV 14 (eM (.bool (decide (x1.n ≤ 1000000)))) ?_))))
      by_cases q14 : x1.n ≤ 1000000
      · replace M := ifp q14 M
        refine lG 15 14 (bT q14) (eD g7 0 2 1 underlying65) (lG 16 14 (bT q14) (eL ⟨g7, 0 + 2, none⟩ (.slice A2 x1.text.length c3) underlying59 (blk_cell b9 rfl)) (lG 17 14 (bT q14) (e_len (A := A2) (n := x1.text.length) (c := c3) underlying59 kr) (lG 18 14 (bT q14) (eEq .i64 (x1.text.length : Int) 0) (lV 19 (eT (.bool (decide ((x1.text.length : Int) = 0))) (bT q14)) (lV 2 (eA (.bool (decide ((x1.text.length : Int) = 0)))) (wN (tN (wT (tR ?_)))))))))
        obtain rfl := sj M
        exact ret1 rfl rfl  (show _ = .bool (decide ((x1.text.length : Int) = 0)) from kr) ⟨rfl, S10.chg⟩
      replace M := ifn q14 M
      refine lK 14 false (bF q14) ?_
      refine lK 14 false (bF q14) ?_
      refine lK 14 false (bF q14) ?_
      refine lK 14 false (bF q14) ?_
      refine lV 19 (eF (.bool false) (bF q14)) (lV 2 (eA (.bool false)) (wN (tN (wT (tR ?_)))))
      obtain rfl := sj M
      exact ret1 rfl rfl  (show _ = .bool false from kr) ⟨rfl, S10.chg⟩
    replace M := ifn q13 M
    refine lK 9 false (bF q13) ?_
    refine lK 9 false (bF q13) ?_
    refine lK 9 false (bF q13) ?_
    refine lV 13 (eF (.bool false) (bF q13)) (lV 14 (eM (.bool false)) (lJ 14 false ?_))
    refine lJ 14 false ?_
    refine lJ 14 false ?_
    refine lJ 14 false ?_
    refine lV 19 (eF (.bool false)) (lV 2 (eA (.bool false)) (wN (tN (wT (tR ?_)))))
    obtain rfl := sj M
    exact ret1 rfl rfl  (show _ = .bool false from kr) ⟨rfl, S10.chg⟩
  replace M := ifn q12 M
  refine cF (bF q12) (wK (tN (wQ (wQ (wR (lV 20 (eD g7 0 0 1 underlying65) (lV 21 (eL ⟨g7, 0 + 0, none⟩ (.int .i64 x1.kind) underlying3 (blk_cell b9 rfl)) (lV 22 (eEq .i64 x1.kind 1) (wN (tN ?_))))))))))
  by_cases q15 : x1.kind = 1
  · replace M := ifp q15 M
    refine cT (bT q15) (wQ (wR (lV 23 (eD g7 0 1 1 underlying65) (lV 24 (eL ⟨g7, 0 + 1, none⟩ (.int .i64 x1.n) underlying3 (blk_cell b9 rfl)) (lV 25 (e_geq (k := .i64) (a := x1.n) (b := (-1000000000000000)) kr rfl) (lV 26 (eM (.bool (decide (x1.n ≥ (-1000000000000000))))) ?_))))))
    by_cases q16 : x1.n ≥ (-1000000000000000)
    · replace M := ifp q16 M
      refine lG 27 26 (bT q16) (eD g7 0 1 1 underlying65) (lG 28 26 (bT q16) (eL ⟨g7, 0 + 1, none⟩ (.int .i64 x1.n) underlying3 (blk_cell b9 rfl)) (lG 29 26 (bT q16) (e_leq (k := .i64) (a := x1.n) (b := 1000000000000000) kr rfl) (lV 30 (eT (.bool (decide (x1.n ≤ 1000000000000000))) (bT q16)) (lV 31 (eM (.bool (decide (x1.n ≤ 1000000000000000)))) ?_))))
      by_cases q17 : x1.n ≤ 1000000000000000
      · replace M := ifp q17 M
        refine lG 32 31 (bT q17) (eD g7 0 2 1 underlying65) (lG 33 31 (bT q17) (eL ⟨g7, 0 + 2, none⟩ (.slice A2 x1.text.length c3) underlying59 (blk_cell b9 rfl)) (lG 34 31 (bT q17) (e_len (A := A2) (n := x1.text.length) (c := c3) underlying59 kr) (lG 35 31 (bT q17) (eEq .i64 (x1.text.length : Int) 0) (lV 36 (eT (.bool (decide ((x1.text.length : Int) = 0))) (bT q17)) (lV 2 (eA (.bool (decide ((x1.text.length : Int) = 0)))) (wN (tN (wT (tR ?_)))))))))
        obtain rfl := sj M
        exact ret1 rfl rfl  (show _ = .bool (decide ((x1.text.length : Int) = 0)) from kr) ⟨rfl, S10.chg⟩
      replace M := ifn q17 M
      refine lK 31 false (bF q17) ?_
      refine lK 31 false (bF q17) ?_
      refine lK 31 false (bF q17) ?_
      refine lK 31 false (bF q17) ?_
      refine lV 36 (eF (.bool false) (bF q17)) (lV 2 (eA (.bool false)) (wN (tN (wT (tR ?_)))))
      obtain rfl := sj M
      exact ret1 rfl rfl  (show _ = .bool false from kr) ⟨rfl, S10.chg⟩
    replace M := ifn q16 M
    refine lK 26 false (bF q16) ?_
    refine lK 26 false (bF q16) ?_
    refine lK 26 false (bF q16) ?_
    refine lV 30 (eF (.bool false) (bF q16)) (lV 31 (eM (.bool false)) (lJ 31 false ?_))
    refine lJ 31 false ?_
    refine lJ 31 false ?_
    refine lJ 31 false ?_
    refine lV 36 (eF (.bool false)) (lV 2 (eA (.bool false)) (wN (tN (wT (tR ?_)))))
    obtain rfl := sj M
    exact ret1 rfl rfl  (show _ = .bool false from kr) ⟨rfl, S10.chg⟩
  replace M := ifn q15 M
  refine cF (bF q15) (wK (tN (wQ (wQ (wR (lV 37 (eD g7 0 2 1 underlying65) (lV 38 (eL ⟨g7, 0 + 2, none⟩ (.slice A2 x1.text.length c3) underlying59 (blk_cell b9 rfl)) (lV 39 (e_len (A := A2) (n := x1.text.length) (c := c3) underlying59 kr) (lV 40 (e_gtr (k := .i64) (a := (x1.text.length : Int)) (b := 100) kr rfl) (wN (tN ?_)))))))))))
  by_cases q18 : (x1.text.length : Int) > 100
  · replace M := ifp q18 M
    refine cT (bT q18) (wQ (wR (lV 2 (eA (.bool false)) (wN (tN (wT (tR ?_)))))))
    obtain rfl := sj M
    exact ret1 rfl rfl  (show _ = .bool false from kr) ⟨rfl, S10.chg⟩
  replace M := ifn q18 M
  refine cF (bF q18) (wK (tN (wQ (wQ (wR (lV 41 (eD g7 0 0 1 underlying65) (lV 42 (eL ⟨g7, 0 + 0, none⟩ (.int .i64 x1.kind) underlying3 (blk_cell b9 rfl)) (lV 43 (eEq .i64 x1.kind 2) (wN (tN ?_))))))))))
  by_cases q19 : x1.kind = 2
  · replace M := ifp q19 M
    refine cT (bT q19) (wQ (wR (lV 44 (eD g7 0 1 1 underlying65) (lV 45 (eL ⟨g7, 0 + 1, none⟩ (.int .i64 x1.n) underlying3 (blk_cell b9 rfl)) (lV 46 (eEq .i64 x1.n 0) (lV 2 (eA (.bool (decide (x1.n = 0)))) (wN (tN (wT (tR ?_))))))))))
    obtain rfl := sj M
    exact ret1 rfl rfl  (show _ = .bool (decide (x1.n = 0)) from kr) ⟨rfl, S10.chg⟩
  replace M := ifn q19 M
  refine cF (bF q19) (wK (tN (wQ (wR (lV 47 (eD g7 0 0 1 underlying65) (lV 48 (eL ⟨g7, 0 + 0, none⟩ (.int .i64 x1.kind) underlying3 (blk_cell b9 rfl)) (lV 49 (eEq .i64 x1.kind 3) (lV 50 (eM (.bool (decide (x1.kind = 3)))) ?_))))))))
  by_cases q20 : x1.kind = 3
  · replace M := ifp q20 M
    refine lG 51 50 (bT q20) (eD g7 0 1 1 underlying65) (lG 52 50 (bT q20) (eL ⟨g7, 0 + 1, none⟩ (.int .i64 x1.n) underlying3 (blk_cell b9 rfl)) (lG 53 50 (bT q20) (e_geq (k := .i64) (a := x1.n) (b := 1) kr rfl) (lV 54 (eT (.bool (decide (x1.n ≥ 1))) (bT q20)) (lV 55 (eM (.bool (decide (x1.n ≥ 1)))) ?_))))
    by_cases q21 : x1.n ≥ 1
    · replace M := ifp q21 M
      refine lG 56 55 (bT q21) (eD g7 0 1 1 underlying65) (lG 57 55 (bT q21) (eL ⟨g7, 0 + 1, none⟩ (.int .i64 x1.n) underlying3 (blk_cell b9 rfl)) (lG 58 55 (bT q21) (e_leq (k := .i64) (a := x1.n) (b := 20) kr rfl) (lV 59 (eT (.bool (decide (x1.n ≤ 20))) (bT q21)) (lV 2 (eA (.bool (decide (x1.n ≤ 20)))) (wN (tN (wT ?_)))))))
      obtain rfl := sj M
      exact ret1 rfl rfl  (show _ = .bool (decide (x1.n ≤ 20)) from kr) ⟨rfl, S10.chg⟩
    replace M := ifn q21 M
    refine lK 55 false (bF q21) ?_
    refine lK 55 false (bF q21) ?_
    refine lK 55 false (bF q21) ?_
    refine lV 59 (eF (.bool false) (bF q21)) (lV 2 (eA (.bool false)) (wN (tN (wT ?_))))
    obtain rfl := sj M
    exact ret1 rfl rfl  (show _ = .bool false from kr) ⟨rfl, S10.chg⟩
  replace M := ifn q20 M
  refine lK 50 false (bF q20) ?_
  refine lK 50 false (bF q20) ?_
  refine lK 50 false (bF q20) ?_
  refine lV 54 (eF (.bool false) (bF q20)) (lV 55 (eM (.bool false)) (lJ 55 false ?_))
  refine lJ 55 false ?_
  refine lJ 55 false ?_
  refine lV 59 (eF (.bool false)) (lV 2 (eA (.bool false)) (wN (tN (wT ?_))))
  obtain rfl := sj M
  exact ret1 rfl rfl  (show _ = .bool false from kr) ⟨rfl, S10.chg⟩

/-! spec_ValidTerm -/
def spec_ValidTerm.l0 : Nat → (List Cell) → Int → Int → Option Bool
  | 0, _, _, _ => none
  | k19 + 1, x1, x9, x10 => (if x10 < (x1.length : Int) then (if x9 = 0 then some false else (if 0 ≤ x10 then ((spec_l2cell.f (x1.getD ((x10).toNat) z65)).bind fun t33 => (if ¬ (t33 = true) then some false else (if ((x1.getD ((x10).toNat) z65).kind) = 3 then (spec_ValidTerm.l0 k19 x1 (i64.wrap ((i64.wrap (x9 - 1)) + ((x1.getD ((x10).toNat) z65).n))) (i64.wrap (x10 + 1))) else (spec_ValidTerm.l0 k19 x1 (i64.wrap (x9 - 1)) (i64.wrap (x10 + 1)))))) else none)) else some (decide (x9 = 0)))
def spec_ValidTerm.f (k : Nat) (x1 : List Cell) : Option Bool := (if (x1.length : Int) > 2000 then some false else (spec_ValidTerm.l0 k x1 1 0))
theorem spec_ValidTerm.calls (k : Nat) (w : World) (H : Hp) (x1 : List Cell) (A2 : Option Addr) (c3 : Nat) (h4 : Rd st65 H A2 x1) (l5 : x1.length ≤ c3) (S : Own [] H w) (r : Bool) (M : spec_ValidTerm.f k x1 = some r) :
    Calls Try.prog 15 #[.slice A2 x1.length c3] w (fun e e_w => e = .returned (.bool r) ∧ Chg no w e_w) := by
  rw [spec_ValidTerm.f] at M
  refine enter (l := [.slice A2 x1.length c3]) 41 func15 rfl rfl rfl ?_
  have S0_ := S.st
  refine wQ (wR (lV 2 (eA (.bool false)) (wN (tN (wQ (wQ (wR (lV 5 (eM (.slice A2 x1.length c3)) (lV 6 (e_len (A := A2) (n := x1.length) (c := c3) underlying25 kr) (lV 7 (e_gtr (k := .i64) (a := (x1.length : Int)) (b := 2000) kr rfl) (wN (tN ?_))))))))))))
  by_cases q6 : (x1.length : Int) > 2000
  · replace M := ifp q6 M
    refine cT (bT q6) (wQ (wR (lV 2 (eA (.bool false)) (wN (tN (wT (tR ?_)))))))
    obtain rfl := sj M
    exact ret1 rfl rfl  (show _ = .bool false from kr) ⟨rfl, S0_.chg⟩
  replace M := ifn q6 M
  refine cF (bF q6) (wK (tN (wQ (wR (lV 3 (eA (.int .i64 1)) (wN (tN (wQ (wQ (wR (lV 4 (eA (.int .i64 0)) (wN (tN (wp_block ?_))))))))))))))
  refine wp_loop_g (fun k17 a18 w7 => ∃ (f8 : Nat → Value) (x9 : Int) (x10 : Int), a18 = mk 41 f8 ∧ f8 0 = .slice A2 x1.length c3 ∧ f8 3 = .int .i64 x9 ∧ f8 4 = .int .i64 x10 ∧ St (anyOf []) H w [] H w7 ∧ spec_ValidTerm.l0 k17 x1 x9 x10 = some r) k ⟨_, 1, 0, rfl, kr, kr, kr, S0_, M⟩ ?_
  clear M
  rintro k17 a18 w7 ⟨f8, x9, x10, rfl, e11, e12, e13, S14, M⟩
  rcases k17 with _ | k19
  · rw [spec_ValidTerm.l0] at M
    cases M
  rw [spec_ValidTerm.l0] at M
  refine wQ (wQ (wR (lV 8 (eM (.int .i64 x10) (by exact e13)) (lV 9 (eM (.slice A2 x1.length c3) (by exact e11)) (lV 10 (e_len (A := A2) (n := x1.length) (c := c3) underlying25 kr) (lV 11 (eLt .i64 x10 (x1.length : Int)) (wN (tN ?_))))))))
  by_cases q20 : x10 < (x1.length : Int)
  · replace M := ifp q20 M
    refine cT (bT q20) (wK (tN (wQ (wp_block (wQ (wQ (wR (lV 14 (eM (.int .i64 x9) (by exact e12)) (lV 15 (eEq .i64 x9 0) (lV 16 (eM (.bool (decide (x9 = 0)))) ?_))))))))))
    by_cases q21 : x9 = 0
    · replace M := ifp q21 M
      refine lK 16 true (bT q21) ?_
      refine lK 16 true (bT q21) ?_
      refine lK 16 true (bT q21) ?_
      refine lK 16 true (bT q21) ?_
      refine lK 16 true (bT q21) ?_
      refine lK 16 true (bT q21) ?_
      refine lV 23 (eT (.bool true) (bT q21)) (wN (tN (cond_t rfl kr (wQ (wR (lV 2 (eA (.bool false)) (wN (tN (wT (tR (inb_r (tR (tR (inb_r (tR ?_)))))))))))))))
      obtain rfl := sj M
      exact ret1 rfl rfl  (show _ = .bool false from kr) ⟨rfl, S14.chg⟩
    replace M := ifn q21 M
    refine lG 17 16 (bF q21) (eM (.slice A2 x1.length c3) (by exact e11)) (lG 18 16 (bF q21) (eM (.int .i64 x10) (by exact e13)) ?_)
    obtain ⟨q22, M⟩ := chk M
    obtain ⟨b23, o24, e25⟩ := Rd.addr h4 (show (x10).toNat < x1.length by omega)
    obtain ⟨y26, r27, k28⟩ := Rd.at h4 e25 (getD_some z65 (show (x10).toNat < x1.length by omega))
    obtain ⟨A29, c30, rfl, l31, h32⟩ := st65_open r27
    refine lG 19 16 (bF q21) (eI b23 o24 x1.length c3 3 x10 .i64 underlying25 e25 q22 q20) (lG 20 16 (bF q21) (e_loadS (b := b23) (off := o24 + (x10 : Int).toNat * 3) (cs := [.int .i64 ((x1.getD ((x10).toNat) z65).kind), .int .i64 ((x1.getD ((x10).toNat) z65).n), .slice A29 ((x1.getD ((x10).toNat) z65).text).length c30]) underlying65 rfl kr kr (fun j_ u_ e_ => (hpx (S14.inv.cell (k28 j_ u_ e_))))) ?_)
    obtain ⟨t33, u34, M⟩ := bnd M
    refine lcallg (d := 21) (t := 16) rfl kr rfl (bF q21) rfl kr (eC [.tmp 20] [.agg #[.int .i64 ((x1.getD ((x10).toNat) z65).kind), .int .i64 ((x1.getD ((x10).toNat) z65).n), .slice A29 ((x1.getD ((x10).toNat) z65).text).length c30]] func56) (spec_l2cell.calls w7 H (x1.getD ((x10).toNat) z65) A29 c30 h32 l31 S14.own0 t33 u34) ?_
    rintro _ w35 ⟨rfl, C36⟩
    refine ⟨_, rfl, ?_⟩
    obtain ⟨S37, K38⟩ := S14.still C36
    refine lG 22 16 (bF q21) (e_notv (c := t33) kr) (lV 23 (eF (.bool (decide (¬ (t33 = true)))) (bF q21)) (wN (tN ?_)))
    by_cases q39 : ¬ (t33 = true)
    · replace M := ifp q39 M
      refine cT (bT q39) (wQ (wR (lV 2 (eA (.bool false)) (wN (tN (wT (tR ?_)))))))
      refine inb_r (tR (tR (inb_r (tR ?_))))
      obtain rfl := sj M
      exact ret1 rfl rfl  (show _ = .bool false from kr) ⟨rfl, S37.chg⟩
    replace M := ifn q39 M
    refine cF (bF q39) (wK (tN (wQ (wR (lV 24 (eM (.int .i64 x9) (by exact e12)) (lV 25 (e_sub (k := .i64) (a := x9) (b := 1) kr rfl) (lV 3 (eA (.int .i64 (i64.wrap (x9 - 1)))) (wN (tN (wQ (wR (lV 26 (eM (.slice A2 x1.length c3) (by exact e11)) (lV 27 (eM (.int .i64 x10) (by exact e13)) ?_)))))))))))))
    obtain ⟨b40, o41, e42⟩ := Rd.addr h4 (show (x10).toNat < x1.length by omega)
    obtain ⟨y43, r44, k45⟩ := Rd.at h4 e42 (getD_some z65 (show (x10).toNat < x1.length by omega))
    obtain ⟨A46, c47, rfl, l48, h49⟩ := st65_open r44
    refine lV 28 (eI b40 o41 x1.length c3 3 x10 .i64 underlying25 e42 q22 q20) (lV 29 (eD b40 (o41 + (x10 : Int).toNat * 3) 0 1 underlying65) (lV 30 (eL ⟨b40, o41 + (x10 : Int).toNat * 3 + 0, none⟩ (.int .i64 ((x1.getD ((x10).toNat) z65).kind)) underlying3 (hpx (S37.inv.cell (k45 0 _ rfl)))) (lV 31 (eEq .i64 (x1.getD ((x10).toNat) z65).kind 3) (wN (tN ?_)))))
    by_cases q50 : ((x1.getD ((x10).toNat) z65).kind) = 3
    · replace M := ifp q50 M
      refine cT (bT q50) (wR (lV 32 (eM (.int .i64 (i64.wrap (x9 - 1)))) (lV 33 (eM (.slice A2 x1.length c3) (by exact e11)) (lV 34 (eM (.int .i64 x10) (by exact e13)) ?_))))
      obtain ⟨b51, o52, e53⟩ := Rd.addr h4 (show (x10).toNat < x1.length by omega)
      obtain ⟨y54, r55, k56⟩ := Rd.at h4 e53 (getD_some z65 (show (x10).toNat < x1.length by omega))
      obtain ⟨A57, c58, rfl, l59, h60⟩ := st65_open r55
      refine lV 35 (eI b51 o52 x1.length c3 3 x10 .i64 underlying25 e53 q22 q20) (lV 36 (eD b51 (o52 + (x10 : Int).toNat * 3) 1 1 underlying65) (lV 37 (eL ⟨b51, o52 + (x10 : Int).toNat * 3 + 1, none⟩ (.int .i64 ((x1.getD ((x10).toNat) z65).n)) underlying3 (hpx (S37.inv.cell (k56 1 _ rfl)))) (lV 38 (eAdd .i64 (i64.wrap (x9 - 1)) (x1.getD ((x10).toNat) z65).n) (lV 3 (eA (.int .i64 (i64.wrap ((i64.wrap (x9 - 1)) + ((x1.getD ((x10).toNat) z65).n))))) (wN (inb_n (tN (wR (lV 12 (eM (.int .i64 x10) (by exact e13)) (lV 13 (eAdd .i64 x10 1) (lV 4 (eA (.int .i64 (i64.wrap (x10 + 1)))) (wN (tN ?_)))))))))))))
      exact ⟨k19, (by omega), _, (i64.wrap ((i64.wrap (x9 - 1)) + ((x1.getD ((x10).toNat) z65).n))), (i64.wrap (x10 + 1)), rfl, (by exact e11), kr, kr, S37, M⟩
    replace M := ifn q50 M
    refine cF (bF q50) (wK (inb_n (tN (wR (lV 12 (eM (.int .i64 x10) (by exact e13)) (lV 13 (eAdd .i64 x10 1) (lV 4 (eA (.int .i64 (i64.wrap (x10 + 1)))) (wN (tN ?_)))))))))
    exact ⟨k19, (by omega), _, (i64.wrap (x9 - 1)), (i64.wrap (x10 + 1)), rfl, (by exact e11), kr, kr, S37, M⟩
  replace M := ifn q20 M
  refine cF (bF q20) (wp_exit (tE (tE (inb_hit (tN (wQ (wR (lV 39 (eM (.int .i64 x9) (by exact e12)) (lV 40 (eEq .i64 x9 0) (lV 2 (eA (.bool (decide (x9 = 0)))) (wN (tN (wT ?_)))))))))))))
  obtain rfl := sj M
  exact ret1 rfl rfl  (show _ = .bool (decide (x9 = 0)) from kr) ⟨rfl, S14.chg⟩

/-! spec_l2next -/
def spec_l2next.l0 : Nat → (List Cell) → Int → Int → Option Int
  | 0, _, _, _ => none
  | k19 + 1, x1, x9, x10 => (if x10 > 0 then (if 0 ≤ x9 then (if x9 < (x1.length : Int) then (if ((x1.getD ((x9).toNat) z65).kind) = 3 then (spec_l2next.l0 k19 x1 (i64.wrap (x9 + 1)) (i64.wrap ((i64.wrap (x10 + ((x1.getD ((x9).toNat) z65).n))) - 1))) else (spec_l2next.l0 k19 x1 (i64.wrap (x9 + 1)) (i64.wrap (x10 - 1)))) else none) else none) else some x9)
def spec_l2next.f (k : Nat) (x1 : List Cell) (x6 : Int) : Option Int := (spec_l2next.l0 k x1 x6 1)
theorem spec_l2next.calls (k : Nat) (w : World) (H : Hp) (x1 : List Cell) (A2 : Option Addr) (c3 : Nat) (x6 : Int) (h4 : Rd st65 H A2 x1) (l5 : x1.length ≤ c3) (S : Own [] H w) (r : Int) (M : spec_l2next.f k x1 x6 = some r) :
    Calls Try.prog 70 #[.slice A2 x1.length c3, .int .i64 x6] w (fun e e_w => e = .returned (.int .i64 r) ∧ Chg no w e_w) := by
  rw [spec_l2next.f] at M
  refine enter (l := [.slice A2 x1.length c3, .int .i64 x6]) 26 func70 rfl rfl rfl ?_
  have S0_ := S.st
  refine wQ (wR (lV 4 (eA (.int .i64 0)) (wN (tN (wQ (wR (lV 5 (eA (.int .i64 1)) (wN (tN (wQ (wp_block ?_)))))))))))
  refine wp_loop_g (fun k17 a18 w7 => ∃ (f8 : Nat → Value) (x9 : Int) (x10 : Int), a18 = mk 26 f8 ∧ f8 0 = .slice A2 x1.length c3 ∧ f8 1 = .int .i64 x9 ∧ f8 5 = .int .i64 x10 ∧ St (anyOf []) H w [] H w7 ∧ spec_l2next.l0 k17 x1 x9 x10 = some r) k ⟨_, x6, 1, rfl, kr, kr, kr, S0_, M⟩ ?_
  clear M
  rintro k17 a18 w7 ⟨f8, x9, x10, rfl, e11, e12, e13, S14, M⟩
  rcases k17 with _ | k19
  · rw [spec_l2next.l0] at M
    cases M
  rw [spec_l2next.l0] at M
  refine wQ (wQ (wR (lV 6 (eM (.int .i64 x10) (by exact e13)) (lV 7 (e_gtr (k := .i64) (a := x10) (b := 0) kr rfl) (wN (tN ?_))))))
  by_cases q20 : x10 > 0
  · replace M := ifp q20 M
    refine cT (bT q20) (wK (tN (wp_block (wQ (wQ (wR (lV 8 (eM (.slice A2 x1.length c3) (by exact e11)) (lV 9 (eM (.int .i64 x9) (by exact e12)) ?_))))))))
    obtain ⟨q21, M⟩ := chk M
    obtain ⟨q22, M⟩ := chk M
    obtain ⟨b23, o24, e25⟩ := Rd.addr h4 (show (x9).toNat < x1.length by omega)
    obtain ⟨y26, r27, k28⟩ := Rd.at h4 e25 (getD_some z65 (show (x9).toNat < x1.length by omega))
    obtain ⟨A29, c30, rfl, l31, h32⟩ := st65_open r27
    refine lV 10 (eI b23 o24 x1.length c3 3 x9 .i64 underlying25 e25 q21 q22) (lV 11 (eD b23 (o24 + (x9 : Int).toNat * 3) 0 1 underlying65) (lV 12 (eL ⟨b23, o24 + (x9 : Int).toNat * 3 + 0, none⟩ (.int .i64 ((x1.getD ((x9).toNat) z65).kind)) underlying3 (hpx (S14.inv.cell (k28 0 _ rfl)))) (lV 13 (eEq .i64 (x1.getD ((x9).toNat) z65).kind 3) (wN (tN ?_)))))
    by_cases q33 : ((x1.getD ((x9).toNat) z65).kind) = 3
    · replace M := ifp q33 M
      refine cT (bT q33) (wR (lV 14 (eM (.int .i64 x10) (by exact e13)) (lV 15 (eM (.slice A2 x1.length c3) (by exact e11)) (lV 16 (eM (.int .i64 x9) (by exact e12)) ?_))))
      obtain ⟨b34, o35, e36⟩ := Rd.addr h4 (show (x9).toNat < x1.length by omega)
      obtain ⟨y37, r38, k39⟩ := Rd.at h4 e36 (getD_some z65 (show (x9).toNat < x1.length by omega))
      obtain ⟨A40, c41, rfl, l42, h43⟩ := st65_open r38
      refine lV 17 (eI b34 o35 x1.length c3 3 x9 .i64 underlying25 e36 q21 q22) (lV 18 (eD b34 (o35 + (x9 : Int).toNat * 3) 1 1 underlying65) (lV 19 (eL ⟨b34, o35 + (x9 : Int).toNat * 3 + 1, none⟩ (.int .i64 ((x1.getD ((x9).toNat) z65).n)) underlying3 (hpx (S14.inv.cell (k39 1 _ rfl)))) (lV 20 (eAdd .i64 x10 (x1.getD ((x9).toNat) z65).n) (lV 5 (eA (.int .i64 (i64.wrap (x10 + ((x1.getD ((x9).toNat) z65).n))))) (wN (tN (wQ (wR (lV 21 (eM (.int .i64 (i64.wrap (x10 + ((x1.getD ((x9).toNat) z65).n))))) (lV 22 (e_sub (k := .i64) (a := (i64.wrap (x10 + ((x1.getD ((x9).toNat) z65).n)))) (b := 1) kr rfl) (lV 5 (eA (.int .i64 (i64.wrap ((i64.wrap (x10 + ((x1.getD ((x9).toNat) z65).n))) - 1)))) (wN (tN (wR (lV 23 (eM (.int .i64 x9) (by exact e12)) (lV 24 (eAdd .i64 x9 1) (lV 1 (eA (.int .i64 (i64.wrap (x9 + 1)))) (wN (inb_n (tN ?_))))))))))))))))))))
      exact ⟨k19, (by omega), _, (i64.wrap (x9 + 1)), (i64.wrap ((i64.wrap (x10 + ((x1.getD ((x9).toNat) z65).n))) - 1)), rfl, (by exact e11), kr, kr, S14, M⟩
    replace M := ifn q33 M
    refine cF (bF q33) (wK (tN (wQ (wR (lV 21 (eM (.int .i64 x10) (by exact e13)) (lV 22 (e_sub (k := .i64) (a := x10) (b := 1) kr rfl) (lV 5 (eA (.int .i64 (i64.wrap (x10 - 1)))) (wN (tN (wR (lV 23 (eM (.int .i64 x9) (by exact e12)) (lV 24 (eAdd .i64 x9 1) (lV 1 (eA (.int .i64 (i64.wrap (x9 + 1)))) (wN (inb_n (tN ?_))))))))))))))))
    exact ⟨k19, (by omega), _, (i64.wrap (x9 + 1)), (i64.wrap (x10 - 1)), rfl, (by exact e11), kr, kr, S14, M⟩
  replace M := ifn q20 M
  refine cF (bF q20) (wp_exit (tE (tE (inb_hit (tN (wQ (wR (lV 25 (eM (.int .i64 x9) (by exact e12)) (lV 4 (eA (.int .i64 x9)) (wN (tN (wT ?_))))))))))))
  obtain rfl := sj M
  exact ret1 rfl rfl  (show _ = .int .i64 x9 from kr) ⟨rfl, S14.chg⟩

/-! spec_l13alike -/
def spec_l13alike.l0 : Nat → (List Cell) → (List Cell) → Int → (List UInt8) → Int → Option ((List Cell) × GL4rd)
  | 0, _, _, _, _, _ => none
  | k39 + 1, x1, x18, x23, x24, x29 => (if x23 < (x1.length : Int) then ((spec_l4rd_next_2.f (⟨x24, x29⟩ : GL4rd)).bind fun t43 => (if (Int.tmod t43.1 5) = 0 then ((spec_l4rd_left.f t43.2).bind fun t57 => (if t57 > 0 then (if x18.length + 1 ≤ 3518437208883 then ((spec_l2next.f k39 x1 x23).bind fun t85 => (spec_l13alike.l0 k39 x1 (x18 ++ [(⟨0, (i64.wrap (3 + (Int.tmod (i64.wrap (Int.tdiv t43.1 5)) 5))), []⟩ : Cell)]) t85 t43.2.b_ t43.2.i_)) else none) else (if t43.1 = 9 then ((spec_l2atom.f ([120] : List UInt8)).bind fun t94 => (if x18.length + t94.length ≤ 3518437208883 then ((spec_l2next.f k39 x1 x23).bind fun t118 => (spec_l13alike.l0 k39 x1 (x18 ++ t94) t118 t43.2.b_ t43.2.i_)) else none)) else (if 0 ≤ x23 then (if x23 ≤ (i64.wrap (x23 + 1)) then (if (i64.wrap (x23 + 1)) ≤ (x1.length : Int) then ((spec_l2copy.f k39 ((x1.drop ((x23 : Int).toNat)).take (((i64.wrap (x23 + 1)) : Int).toNat - (x23 : Int).toNat))).bind fun t132 => (if x18.length + t132.length ≤ 3518437208883 then (spec_l13alike.l0 k39 x1 (x18 ++ t132) (i64.wrap (x23 + 1)) t43.2.b_ t43.2.i_) else none)) else none) else none) else none)))) else (if t43.1 = 9 then ((spec_l2atom.f ([120] : List UInt8)).bind fun t158 => (if x18.length + t158.length ≤ 3518437208883 then ((spec_l2next.f k39 x1 x23).bind fun t182 => (spec_l13alike.l0 k39 x1 (x18 ++ t158) t182 t43.2.b_ t43.2.i_)) else none)) else (if 0 ≤ x23 then (if x23 ≤ (i64.wrap (x23 + 1)) then (if (i64.wrap (x23 + 1)) ≤ (x1.length : Int) then ((spec_l2copy.f k39 ((x1.drop ((x23 : Int).toNat)).take (((i64.wrap (x23 + 1)) : Int).toNat - (x23 : Int).toNat))).bind fun t196 => (if x18.length + t196.length ≤ 3518437208883 then (spec_l13alike.l0 k39 x1 (x18 ++ t196) (i64.wrap (x23 + 1)) t43.2.b_ t43.2.i_) else none)) else none) else none) else none)))) else some (x18, (⟨x24, x29⟩ : GL4rd)))
def spec_l13alike.f (k : Nat) (x1 : List Cell) (x6 : GL4rd) : Option ((List Cell) × GL4rd) := (spec_l13alike.l0 k x1 [] 0 x6.b_ x6.i_)
theorem spec_l13alike.calls (k : Nat) (w : World) (H : Hp) (x1 : List Cell) (A2 : Option Addr) (c3 : Nat) (x6 : GL4rd) (g7 : Nat) (A10 : Option Addr) (c11 : Nat) (h4 : Rd st65 H A2 x1) (l5 : x1.length ≤ c3) (h12 : Rd tByte H A10 x6.b_) (l13 : x6.b_.length ≤ c11) (b9 : w.heap[g7]? = some (.cells #[.slice A10 x6.b_.length c11, .int .i64 x6.i_] 150 (0, 0))) (S : Own [(is g7)] H w) (r : (List Cell) × GL4rd) (M : spec_l13alike.f k x1 x6 = some r) :
    Calls Try.prog 100 #[.slice A2 x1.length c3, .pointer (some ⟨g7, 0, none⟩)] w (fun e e_w => ∃ (A_1 : Option Addr) (c_1 : Nat) (A_2 : Option Addr) (c_2 : Nat) (F_1 : Foot) (H_ : Hp), e = .returned (.slice A_2 r.1.length c_2) ∧ Rd tByte H_ A_1 r.2.b_ ∧ r.2.b_.length ≤ c_1 ∧ e_w.heap[g7]? = some (.cells #[.slice A_1 r.2.b_.length c_1, .int .i64 r.2.i_] 150 (0, 0)) ∧ Row st65 65 H_ (hp e_w) F_1 A_2 c_2 r.1 ∧ St (anyOf [(is g7)]) H w [(is g7), F_1] H_ e_w) := by
  rw [spec_l13alike.f] at M
  refine enter (l := [.slice A2 x1.length c3, .pointer (some ⟨g7, 0, none⟩)]) 52 func100 rfl rfl rfl ?_
  have S0_ := S.st
  refine wQ (wR (lV 4 (eA (.slice none 0 0)) (wN (tN (wQ (wR (lV 5 (eA (.slice none 0 0)) (wN (tN (wQ (wQ (wR (lV 6 (eA (.int .i64 0)) (wN (tN ?_)))))))))))))))
  refine wp_block ?_
  have S40 := S0_.unit
  have S41 := S40.pulls [(is g7), no] [1] rfl
  refine wp_loop_g (fun k37 a38 w14 => ∃ (f15 : Nat → Value) (H16 : Hp) (x18 : List Cell) (A19 : Option Addr) (c20 : Nat) (F21 : Foot) (x23 : Int) (x24 : List UInt8) (A25 : Option Addr) (c26 : Nat) (x29 : Int), a38 = mk 52 f15 ∧ f15 0 = .slice A2 x1.length c3 ∧ f15 1 = .pointer (some ⟨g7, 0, none⟩) ∧ f15 5 = .slice A19 x18.length c20 ∧ f15 6 = .int .i64 x23 ∧ w14.heap[g7]? = some (.cells #[.slice A25 x24.length c26, .int .i64 x29] 150 (0, 0)) ∧ Row st65 65 H16 (hp w14) F21 A19 c20 x18 ∧ Rd tByte H16 A25 x24 ∧ x24.length ≤ c26 ∧ Ext H H16 ∧ St (anyOf [(is g7)]) H w [(is g7), F21] H16 w14 ∧ spec_l13alike.l0 k37 x1 x18 x23 x24 x29 = some r) k ⟨_, H, [], none, 0, no, 0, x6.b_, A10, c11, x6.i_, rfl, kr, kr, kr, kr, b9, (Row.nil _ _ _ _ _), h12, l13, (Ext.refl _), S41, M⟩ ?_
  clear M
  rintro k37 a38 w14 ⟨f15, H16, x18, A19, c20, F21, x23, x24, A25, c26, x29, rfl, e30, e31, e32, e33, b9, h22, h27, l28, Y17, S34, M⟩
  rcases k37 with _ | k39
  · rw [spec_l13alike.l0] at M
    cases M
  rw [spec_l13alike.l0] at M
  refine wQ (wQ (wR (lV 8 (eM (.int .i64 x23) (by exact e33)) (lV 9 (eM (.slice A2 x1.length c3) (by exact e30)) (lV 10 (e_len (A := A2) (n := x1.length) (c := c3) underlying25 kr) (lV 11 (eLt .i64 x23 (x1.length : Int)) (wN (tN ?_))))))))
  by_cases q42 : x23 < (x1.length : Int)
  · replace M := ifp q42 M
    refine cT (bT q42) (wK (tN (wp_block (wQ (wR (lV 12 (eM (.pointer (some ⟨g7, 0, none⟩)) (by exact e31)) ?_))))))
    obtain ⟨t43, u44, M⟩ := bnd M
    refine lC 13 (eC [.tmp 12] [.pointer (some ⟨g7, 0, none⟩)] func96) (spec_l4rd_next_2.calls w14 H16 (⟨x24, x29⟩ : GL4rd) g7 A25 c26 h27 l28 b9 (St.own' (Fa := [(is g7)]) (Fr := [F21]) S34) t43 u44) ?_
    rintro _ w45 ⟨A48, c49, H46, rfl, h50, l51, b52, T47⟩
    refine ⟨_, rfl, ?_⟩
    obtain ⟨S53, K54⟩ := St.call (Fa := [(is g7)]) (Fr := [F21]) S34 T47
    replace h22 := h22.move (K54.at 0 rfl)
    have E55 := T47.ext
    replace h22 := h22.ext E55
    refine lV 7 (eA (.int .i64 t43.1)) (wN (tN (wQ (wR (lV 14 (eM (.int .i64 t43.1)) (lV 15 (e_rem (k := .i64) (a := t43.1) (b := 5) kr rfl (by decide)) (lV 16 (eEq .i64 (Int.tmod t43.1 5) 0) (lV 17 (eM (.bool (decide ((Int.tmod t43.1 5) = 0)))) ?_))))))))
    by_cases q56 : (Int.tmod t43.1 5) = 0
    · replace M := ifp q56 M
      refine lG 18 17 (bT q56) (eM (.pointer (some ⟨g7, 0, none⟩)) (by exact e31)) ?_
      obtain ⟨t57, u58, M⟩ := bnd M
      refine lcallg (d := 19) (t := 17) rfl kr rfl (bT q56) rfl kr (eC [.tmp 18] [.pointer (some ⟨g7, 0, none⟩)] func125) (by obtain ⟨H59, S60, E61, h62, z63⟩ := S53.frzBlk b52; replace h22 := h22.ext E61; exact (spec_l4rd_left.calls w45 H59 t43.2 g7 A48 c49 (h50.ext E61) l51 h62 S60.own0 t57 u58)) ?_
      rintro _ w64 ⟨rfl, C65⟩
      refine ⟨_, rfl, ?_⟩
      obtain ⟨S66, K67⟩ := S53.still C65
      replace b52 := K67.blk 0 rfl b52
      replace h22 := h22.move (K67.at 1 rfl)
      refine lG 20 17 (bT q56) (e_gtr (k := .i64) (a := t57) (b := 0) kr rfl) (lV 21 (eT (.bool (decide (t57 > 0))) (bT q56)) (wN (tN ?_)))
      by_cases q68 : t57 > 0
      · replace M := ifp q68 M
        refine cT (bT q68) (wQ (wR (lV 22 (eM (.slice A19 x18.length c20) (by exact e32)) (lV 23 (eM (.int .i64 t43.1)) (lV 24 (e_quo (k := .i64) (a := t43.1) (b := 5) kr rfl (by decide)) (lV 25 (e_rem (k := .i64) (a := (i64.wrap (Int.tdiv t43.1 5))) (b := 5) kr rfl (by decide)) (lV 26 (eAdd .i64 3 (Int.tmod (i64.wrap (Int.tdiv t43.1 5)) 5)) (lV 27 (show _ = Result.ok (Next.value (.agg #[.int .i64 0, .int .i64 (i64.wrap (3 + (Int.tmod (i64.wrap (Int.tdiv t43.1 5)) 5))), .slice none 0 0])) w64 from by kernel_rfl) ?_))))))))
        refine lW 28 (new_blk (v := fun g_ => .slice (some ⟨g_, 0, none⟩) 1 1) (cs := #[.int .i64 0, .int .i64 (i64.wrap (3 + (Int.tmod (i64.wrap (Int.tdiv t43.1 5)) 5))), .slice none 0 0]) (t := 65) S66 kr) ?_
        rintro _ w69 ⟨g70, rfl, b71, S72, K73⟩
        replace b52 := K73.blk 0 rfl b52
        replace h22 := h22.move (K73.at 1 rfl)
        obtain ⟨q74, M⟩ := chk M
        have S75 := S72.pulls [F21, (is g70), (is g7)] [2] rfl
        have S76 := S75.unit
        have S77 := S76.pulls [F21, no, (is g70), (is g7)] [1] rfl
        refine lW 29 (e_append (d := st65) (n := x18.length) (xs := x18) (cap := c20) (A := A19) (ys := [(⟨0, (i64.wrap (3 + (Int.tmod (i64.wrap (Int.tdiv t43.1 5)) 5))), []⟩ : Cell)]) (A2 := (some ⟨g70, 0, none⟩)) (c2 := 1) (z := .agg #[.int .i64 0, .int .i64 0, .slice none 0 0]) (bytes := 40) S77 underlying25 kr rfl (by decide) kr rfl kr h22 (elsO_one1 (st65_mkO (x := (⟨0, (i64.wrap (3 + (Int.tmod (i64.wrap (Int.tdiv t43.1 5)) 5))), []⟩ : Cell)) (Row.nil _ _ _ _ no))) (.inr (blk_news b71 rfl)) (show (x18.length + [(⟨0, (i64.wrap (3 + (Int.tmod (i64.wrap (Int.tdiv t43.1 5)) 5))), []⟩ : Cell)].length) * 40 ≤ _ by first | omega | (simp only [List.length_cons, List.length_nil]; omega)) (by decide)) ?_
        rintro _ w78 ⟨A79, c80, F81, rfl, h82, S83, K84⟩
        replace b52 := K84.blk 1 rfl b52
        refine lV 5 (eA (.slice A79 ((x18 ++ [(⟨0, (i64.wrap (3 + (Int.tmod (i64.wrap (Int.tdiv t43.1 5)) 5))), []⟩ : Cell)]).length) c80)) (wN (tN (wR (lV 30 (eM (.slice A2 x1.length c3) (by exact e30)) (lV 31 (eM (.int .i64 x23) (by exact e33)) ?_)))))
        obtain ⟨t85, u86, M⟩ := bnd M
        refine lC 32 (eC [.tmp 30, .tmp 31] [.slice A2 x1.length c3, .int .i64 x23] func70) (spec_l2next.calls k39 w78 H46 x1 A2 c3 x23 (h4.ext (Y17.trans E55)) l5 S83.own0 t85 u86) ?_
        rintro _ w87 ⟨rfl, C88⟩
        refine ⟨_, rfl, ?_⟩
        obtain ⟨S89, K90⟩ := S83.still C88
        replace h82 := h82.move (K90.at 0 rfl)
        replace b52 := K90.blk 2 rfl b52
        refine lV 6 (eA (.int .i64 t85)) (wN (inb_n (tN ?_)))
        have S91 := S89.pulls [(is g7), F81, (is g70)] [2] rfl
        have S92 := St.first (Fa := [(is g7), F81]) (Fr := [(is g70)]) S91
        exact ⟨k39, (by omega), _, H46, (x18 ++ [(⟨0, (i64.wrap (3 + (Int.tmod (i64.wrap (Int.tdiv t43.1 5)) 5))), []⟩ : Cell)]), A79, c80, F81, t85, t43.2.b_, A48, c49, t43.2.i_, rfl, (by exact e30), (by exact e31), kr, kr, b52, h82, h50, l51, (Y17.trans E55), S92, M⟩
      replace M := ifn q68 M
      refine cF (bF q68) (wQ (wR (lV 33 (eM (.int .i64 t43.1)) (lV 34 (eEq .i64 t43.1 9) (wN (tN ?_))))))
      by_cases q93 : t43.1 = 9
      · replace M := ifp q93 M
        refine cT (bT q93) (wQ (wR (lV 35 (eM (.slice A19 x18.length c20) (by exact e32)) ?_)))
        obtain ⟨t94, u95, M⟩ := bnd M
        refine lC 36 (eC [.const (str ([120] : List UInt8))] [str ([120] : List UInt8)] func79) (spec_l2atom.calls w64 H46 ([120] : List UInt8)  (St.own' (Fa := []) (Fr := [(is g7), F21]) S66) t94 u95) ?_
        rintro _ w96 ⟨A99, c100, F102, H97, rfl, h101, T98⟩
        refine ⟨_, rfl, ?_⟩
        obtain ⟨S103, K104⟩ := St.call (Fa := []) (Fr := [(is g7), F21]) S66 T98
        replace b52 := K104.blk 0 rfl b52
        replace h22 := h22.move (K104.at 1 rfl)
        have E105 := T98.ext
        replace h22 := h22.ext E105
        obtain ⟨y106, h107, h108⟩ := Row.news h101
        obtain ⟨q109, M⟩ := chk M
        have S110 := S103.pulls [F21, F102, (is g7)] [2] rfl
        refine lW 37 (e_append (d := st65) (n := x18.length) (xs := x18) (cap := c20) (A := A19) (ys := t94) (A2 := A99) (c2 := c100) (z := .agg #[.int .i64 0, .int .i64 0, .slice none 0 0]) (bytes := 40) S110 underlying25 kr rfl (by decide) kr rfl kr h22 h107 h108 (show (x18.length + t94.length) * 40 ≤ _ by first | omega | (simp only [List.length_cons, List.length_nil]; omega)) (by decide)) ?_
        rintro _ w111 ⟨A112, c113, F114, rfl, h115, S116, K117⟩
        replace b52 := K117.blk 0 rfl b52
        refine lV 5 (eA (.slice A112 ((x18 ++ t94).length) c113)) (wN (tN (wR (lV 38 (eM (.slice A2 x1.length c3) (by exact e30)) (lV 39 (eM (.int .i64 x23) (by exact e33)) ?_)))))
        obtain ⟨t118, u119, M⟩ := bnd M
        refine lC 40 (eC [.tmp 38, .tmp 39] [.slice A2 x1.length c3, .int .i64 x23] func70) (spec_l2next.calls k39 w111 H97 x1 A2 c3 x23 (h4.ext ((Y17.trans E55).trans E105)) l5 S116.own0 t118 u119) ?_
        rintro _ w120 ⟨rfl, C121⟩
        refine ⟨_, rfl, ?_⟩
        obtain ⟨S122, K123⟩ := S116.still C121
        replace h115 := h115.move (K123.at 0 rfl)
        replace b52 := K123.blk 1 rfl b52
        refine lV 6 (eA (.int .i64 t118)) (wN (inb_n (tN ?_)))
        have S124 := S122.pulls [(is g7), F114] [1] rfl
        exact ⟨k39, (by omega), _, H97, (x18 ++ t94), A112, c113, F114, t118, t43.2.b_, A48, c49, t43.2.i_, rfl, (by exact e30), (by exact e31), kr, kr, b52, h115, (h50.ext E105), l51, ((Y17.trans E55).trans E105), S124, M⟩
      replace M := ifn q93 M
      refine cF (bF q93) (wQ (wR (lV 41 (eM (.slice A19 x18.length c20) (by exact e32)) (lV 42 (eM (.slice A2 x1.length c3) (by exact e30)) (lV 43 (eM (.int .i64 x23) (by exact e33)) (lV 44 (eM (.int .i64 x23) (by exact e33)) (lV 45 (eAdd .i64 x23 1) ?_)))))))
      obtain ⟨q125, M⟩ := chk M
      obtain ⟨q126, M⟩ := chk M
      obtain ⟨q127, M⟩ := chk M
      obtain ⟨A128, h131, l130, h129⟩ := Rd.sub2 (d := st65) (n := x1.length) (m := 3) (cap := c3) (a := x23) (b := (i64.wrap (x23 + 1))) rfl (h4.ext (Y17.trans E55)) q125 q126 q127 rfl l5
      refine lV 46 (e_slice_lh (n := x1.length) (m := 3) (cap := c3) (A := A2) (a := x23) (b := (i64.wrap (x23 + 1))) (k := .i64) (k2 := .i64) underlying25 kr kr kr kr q125 q126 q127 l5 h131) ?_
      obtain ⟨t132, u133, M⟩ := bnd M
      refine lC 47 (eC [.tmp 46] [.slice A128 ((x1.drop ((x23 : Int).toNat)).take (((i64.wrap (x23 + 1)) : Int).toNat - (x23 : Int).toNat)).length (c3 - ((x23 : Int).toNat))] func75) (spec_l2copy.calls k39 w64 H46 ((x1.drop ((x23 : Int).toNat)).take (((i64.wrap (x23 + 1)) : Int).toNat - (x23 : Int).toNat)) A128 (c3 - ((x23 : Int).toNat)) h129 l130 (St.own' (Fa := []) (Fr := [(is g7), F21]) S66) t132 u133) ?_
      rintro _ w134 ⟨A137, c138, F140, H135, rfl, h139, T136⟩
      refine ⟨_, rfl, ?_⟩
      obtain ⟨S141, K142⟩ := St.call (Fa := []) (Fr := [(is g7), F21]) S66 T136
      replace b52 := K142.blk 0 rfl b52
      replace h22 := h22.move (K142.at 1 rfl)
      have E143 := T136.ext
      replace h22 := h22.ext E143
      obtain ⟨y144, h145, h146⟩ := Row.news h139
      obtain ⟨q147, M⟩ := chk M
      have S148 := S141.pulls [F21, F140, (is g7)] [2] rfl
      refine lW 48 (e_append (d := st65) (n := x18.length) (xs := x18) (cap := c20) (A := A19) (ys := t132) (A2 := A137) (c2 := c138) (z := .agg #[.int .i64 0, .int .i64 0, .slice none 0 0]) (bytes := 40) S148 underlying25 kr rfl (by decide) kr rfl kr h22 h145 h146 (show (x18.length + t132.length) * 40 ≤ _ by first | omega | (simp only [List.length_cons, List.length_nil]; omega)) (by decide)) ?_
      rintro _ w149 ⟨A150, c151, F152, rfl, h153, S154, K155⟩
      replace b52 := K155.blk 0 rfl b52
      refine lV 5 (eA (.slice A150 ((x18 ++ t132).length) c151)) (wN (tN (wR (lV 49 (eM (.int .i64 x23) (by exact e33)) (lV 50 (eAdd .i64 x23 1) (lV 6 (eA (.int .i64 (i64.wrap (x23 + 1)))) (wN ?_)))))))
      refine inb_n (tN ?_)
      have S156 := S154.pulls [(is g7), F152] [1] rfl
      exact ⟨k39, (by omega), _, H135, (x18 ++ t132), A150, c151, F152, (i64.wrap (x23 + 1)), t43.2.b_, A48, c49, t43.2.i_, rfl, (by exact e30), (by exact e31), kr, kr, b52, h153, (h50.ext E143), l51, ((Y17.trans E55).trans E143), S156, M⟩
    replace M := ifn q56 M
    refine lK 17 false (bF q56) ?_
    refine lK 17 false (bF q56) ?_
    refine lK 17 false (bF q56) ?_
    refine lV 21 (eF (.bool false) (bF q56)) (wN (tN (cond_f rfl kr (wQ (wR (lV 33 (eM (.int .i64 t43.1)) (lV 34 (eEq .i64 t43.1 9) (wN (tN ?_)))))))))
    by_cases q157 : t43.1 = 9
    · replace M := ifp q157 M
      refine cT (bT q157) (wQ (wR (lV 35 (eM (.slice A19 x18.length c20) (by exact e32)) ?_)))
      obtain ⟨t158, u159, M⟩ := bnd M
      refine lC 36 (eC [.const (str ([120] : List UInt8))] [str ([120] : List UInt8)] func79) (spec_l2atom.calls w45 H46 ([120] : List UInt8)  (St.own' (Fa := []) (Fr := [(is g7), F21]) S53) t158 u159) ?_
      rintro _ w160 ⟨A163, c164, F166, H161, rfl, h165, T162⟩
      refine ⟨_, rfl, ?_⟩
      obtain ⟨S167, K168⟩ := St.call (Fa := []) (Fr := [(is g7), F21]) S53 T162
      replace b52 := K168.blk 0 rfl b52
      replace h22 := h22.move (K168.at 1 rfl)
      have E169 := T162.ext
      replace h22 := h22.ext E169
      obtain ⟨y170, h171, h172⟩ := Row.news h165
      obtain ⟨q173, M⟩ := chk M
      have S174 := S167.pulls [F21, F166, (is g7)] [2] rfl
      refine lW 37 (e_append (d := st65) (n := x18.length) (xs := x18) (cap := c20) (A := A19) (ys := t158) (A2 := A163) (c2 := c164) (z := .agg #[.int .i64 0, .int .i64 0, .slice none 0 0]) (bytes := 40) S174 underlying25 kr rfl (by decide) kr rfl kr h22 h171 h172 (show (x18.length + t158.length) * 40 ≤ _ by first | omega | (simp only [List.length_cons, List.length_nil]; omega)) (by decide)) ?_
      rintro _ w175 ⟨A176, c177, F178, rfl, h179, S180, K181⟩
      replace b52 := K181.blk 0 rfl b52
      refine lV 5 (eA (.slice A176 ((x18 ++ t158).length) c177)) (wN (tN (wR (lV 38 (eM (.slice A2 x1.length c3) (by exact e30)) (lV 39 (eM (.int .i64 x23) (by exact e33)) ?_)))))
      obtain ⟨t182, u183, M⟩ := bnd M
      refine lC 40 (eC [.tmp 38, .tmp 39] [.slice A2 x1.length c3, .int .i64 x23] func70) (spec_l2next.calls k39 w175 H161 x1 A2 c3 x23 (h4.ext ((Y17.trans E55).trans E169)) l5 S180.own0 t182 u183) ?_
      rintro _ w184 ⟨rfl, C185⟩
      refine ⟨_, rfl, ?_⟩
      obtain ⟨S186, K187⟩ := S180.still C185
      replace h179 := h179.move (K187.at 0 rfl)
      replace b52 := K187.blk 1 rfl b52
      refine lV 6 (eA (.int .i64 t182)) (wN (inb_n (tN ?_)))
      have S188 := S186.pulls [(is g7), F178] [1] rfl
      exact ⟨k39, (by omega), _, H161, (x18 ++ t158), A176, c177, F178, t182, t43.2.b_, A48, c49, t43.2.i_, rfl, (by exact e30), (by exact e31), kr, kr, b52, h179, (h50.ext E169), l51, ((Y17.trans E55).trans E169), S188, M⟩
    replace M := ifn q157 M
    refine cF (bF q157) (wQ (wR (lV 41 (eM (.slice A19 x18.length c20) (by exact e32)) (lV 42 (eM (.slice A2 x1.length c3) (by exact e30)) (lV 43 (eM (.int .i64 x23) (by exact e33)) (lV 44 (eM (.int .i64 x23) (by exact e33)) (lV 45 (eAdd .i64 x23 1) ?_)))))))
    obtain ⟨q189, M⟩ := chk M
    obtain ⟨q190, M⟩ := chk M
    obtain ⟨q191, M⟩ := chk M
    obtain ⟨A192, h195, l194, h193⟩ := Rd.sub2 (d := st65) (n := x1.length) (m := 3) (cap := c3) (a := x23) (b := (i64.wrap (x23 + 1))) rfl (h4.ext (Y17.trans E55)) q189 q190 q191 rfl l5
    refine lV 46 (e_slice_lh (n := x1.length) (m := 3) (cap := c3) (A := A2) (a := x23) (b := (i64.wrap (x23 + 1))) (k := .i64) (k2 := .i64) underlying25 kr kr kr kr q189 q190 q191 l5 h195) ?_
    obtain ⟨t196, u197, M⟩ := bnd M
    refine lC 47 (eC [.tmp 46] [.slice A192 ((x1.drop ((x23 : Int).toNat)).take (((i64.wrap (x23 + 1)) : Int).toNat - (x23 : Int).toNat)).length (c3 - ((x23 : Int).toNat))] func75) (spec_l2copy.calls k39 w45 H46 ((x1.drop ((x23 : Int).toNat)).take (((i64.wrap (x23 + 1)) : Int).toNat - (x23 : Int).toNat)) A192 (c3 - ((x23 : Int).toNat)) h193 l194 (St.own' (Fa := []) (Fr := [(is g7), F21]) S53) t196 u197) ?_
    rintro _ w198 ⟨A201, c202, F204, H199, rfl, h203, T200⟩
    refine ⟨_, rfl, ?_⟩
    obtain ⟨S205, K206⟩ := St.call (Fa := []) (Fr := [(is g7), F21]) S53 T200
    replace b52 := K206.blk 0 rfl b52
    replace h22 := h22.move (K206.at 1 rfl)
    have E207 := T200.ext
    replace h22 := h22.ext E207
    obtain ⟨y208, h209, h210⟩ := Row.news h203
    obtain ⟨q211, M⟩ := chk M
    have S212 := S205.pulls [F21, F204, (is g7)] [2] rfl
    refine lW 48 (e_append (d := st65) (n := x18.length) (xs := x18) (cap := c20) (A := A19) (ys := t196) (A2 := A201) (c2 := c202) (z := .agg #[.int .i64 0, .int .i64 0, .slice none 0 0]) (bytes := 40) S212 underlying25 kr rfl (by decide) kr rfl kr h22 h209 h210 (show (x18.length + t196.length) * 40 ≤ _ by first | omega | (simp only [List.length_cons, List.length_nil]; omega)) (by decide)) ?_
    rintro _ w213 ⟨A214, c215, F216, rfl, h217, S218, K219⟩
    replace b52 := K219.blk 0 rfl b52
    refine lV 5 (eA (.slice A214 ((x18 ++ t196).length) c215)) (wN (tN (wR (lV 49 (eM (.int .i64 x23) (by exact e33)) (lV 50 (eAdd .i64 x23 1) (lV 6 (eA (.int .i64 (i64.wrap (x23 + 1)))) (wN ?_)))))))
    refine inb_n (tN ?_)
    have S220 := S218.pulls [(is g7), F216] [1] rfl
    exact ⟨k39, (by omega), _, H199, (x18 ++ t196), A214, c215, F216, (i64.wrap (x23 + 1)), t43.2.b_, A48, c49, t43.2.i_, rfl, (by exact e30), (by exact e31), kr, kr, b52, h217, (h50.ext E207), l51, ((Y17.trans E55).trans E207), S220, M⟩
  replace M := ifn q42 M
  refine cF (bF q42) (wp_exit (tE (tE (inb_hit (tN (wQ (wR (lV 51 (eM (.slice A19 x18.length c20) (by exact e32)) (lV 4 (eA (.slice A19 x18.length c20)) (wN (tN (wT ?_))))))))))))
  obtain rfl := sj M
  exact ret1 rfl rfl  (show _ = .slice A19 x18.length c20 from kr) ⟨A25, c26, A19, c20, F21, H16, rfl, h27, l28, b9, h22, S34⟩
end Go.Proofs.Ytognefkopbbdnaa
