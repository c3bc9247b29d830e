import Derived.Test.YtdkbfcmekppnmaaGreatDoorProg
import Derived.Test.YtdkbfcmekppnmaaGreatDoorFi
import Derived.Test.YtdkbfcmekppnmaaGreatDoorY22
namespace Go.Proofs.YtdkbfcmekppnmaaGreatDoor
open Go.Sx Go.Sy IntKind Tryz
attribute [local irreducible] Go.wpList Go.wpStill Go.wpQuiet Go.Code.wp
set_option maxRecDepth 100000
set_option maxHeartbeats 1000000
set_option linter.unusedVariables false
set_option linter.unusedSimpArgs false
structure GL4rd where
 b_ : List UInt8
 i_ : Int
 deriving Inhabited
def spec_l4open.f (x1 : List UInt8) : Option GL4rd := (if (x1.length : Int) > 500 then (if 500 ≤ (x1.length : Int) then some (⟨(x1.take ((500 : Int).toNat)), 0⟩ : GL4rd) else none) else (if 0 ≤ (x1.length : Int) then (if (x1.length : Int) ≤ (x1.length : Int) then some (⟨(x1.take (((x1.length : Int) : Int).toNat)), 0⟩ : GL4rd) else none) else none))
theorem spec_l4open.calls {w : World} {H : Hp} {x1 : List UInt8} {A2 : Option Addr} {c3 : Nat} (h4 : Rd tByte H A2 x1) (l5 : x1.length ≤ c3) (S : Own [] H w) {r : GL4rd} (M : spec_l4open.f x1 = some r) :
  Calls Tryz.prog 11 #[.slice A2 x1.length c3] w (fun e e_w => ∃ (g_1 : Nat) (A_1 : Option Addr) (c_1 : Nat) (H_ : Hp), e = .returned (.pointer (some ⟨g_1, 0, none⟩)) ∧ Rd tByte H_ A_1 r.b_ ∧ r.b_.length ≤ c_1 ∧ e_w.heap[g_1]? = some (.cells #[.slice A_1 r.b_.length c_1, .int .i64 r.i_] 51 (0, 0)) ∧ St (anyOf []) H w [(is g_1)] H_ e_w) := by
 rw [spec_l4open.f] at M
 refine enter (l := [.slice A2 x1.length c3]) 13 func11 rfl rfl rfl ?_
 have S0_ := S.st
 refine wQ (wR (lP 1 (wN (tN (wQ (wR (lP 3 (wN (tN (wQ (wQ (wR (lP 2 (wN (tN ?_)))))))))))))))
 obtain ⟨q6, M⟩ | ⟨q6, M⟩ := ifd M
 ·refine cF (bF q6) (wK (tN (wQ (wR (lP 2 ?_)))))
  obtain ⟨q15, M⟩ := chk M
  obtain ⟨q16, M⟩ := chk M
  refine lV 10 (e_slice_h (xs := x1) (n := x1.length) (m := 1) (cap := c3) (A := A2) (b := (x1.length : Int)) (k2 := .i64) underlying22 kr kr kr q15 q16 (by have := l5; have := (rfl : x1.length = x1.length); omega) (take_len q15 q16 rfl)) ?_
  have h17 := Rd.take (n := ((x1.length : Int) : Int).toNat) h4
  have l18 : (x1.take (((x1.length : Int) : Int).toNat)).length ≤ c3 := by rw [List.length_take]; have := l5; omega
  refine lP 1 ?_
  refine lW 12 (nB #[.slice A2 (x1.take (((x1.length : Int) : Int).toNat)).length c3, .int .i64 0] 51 S0_) ?_
  rintro _ w19 ⟨g20, rfl, b21, S22, K23⟩
  refine lP 1 (wN (tN (wT ?_)))
  obtain rfl := sj M
  exact ret1 rfl rfl  kr ⟨g20, A2, c3, H, rfl, h17, l18, b21, S22⟩
 refine cT (bT q6) (wR (lP 1 (wN (tN (wQ (wR (lP 2 ?_)))))))
 obtain ⟨q7, M⟩ := chk M
 refine lV 10 (e_slice_h (xs := x1) (n := x1.length) (m := 1) (cap := c3) (A := A2) (b := 500) (k2 := .i64) underlying22 kr kr kr (by decide) q7 (by have := l5; have := (rfl : x1.length = x1.length); omega) (take_len (by decide) q7 rfl)) ?_
 have h8 := Rd.take (n := (500 : Int).toNat) h4
 have l9 : (x1.take ((500 : Int).toNat)).length ≤ c3 := by rw [List.length_take]; have := l5; omega
 refine lP 1 ?_
 refine lW 12 (nB #[.slice A2 (x1.take ((500 : Int).toNat)).length c3, .int .i64 0] 51 S0_) ?_
 rintro _ w10 ⟨g11, rfl, b12, S13, K14⟩
 refine lP 1 (wN (tN (wT ?_)))
 obtain rfl := sj M
 exact ret1 rfl rfl  kr ⟨g11, A2, c3, H, rfl, h8, l9, b12, S13⟩
def spec_l4rd_next_2.f (x1 : GL4rd) : Option (Int × GL4rd) := (if x1.i_ ≥ (x1.b_.length : Int) then some (0, x1) else (if 0 ≤ x1.i_ then (if x1.i_ < (x1.b_.length : Int) then some (((x1.b_.getD ((x1.i_).toNat) (0 : UInt8)).toNat : Int), (⟨x1.b_, (i64.wrap (x1.i_ + 1))⟩ : GL4rd)) else none) else none))
theorem spec_l4rd_next_2.calls {w : World} {H : Hp} (x1 : GL4rd) {g2 : Nat} {A4 : Option Addr} {c5 : Nat} (h6 : Rd tByte H A4 x1.b_) (l7 : x1.b_.length ≤ c5) (b3 : w.heap[g2]? = some (.cells #[.slice A4 x1.b_.length c5, .int .i64 x1.i_] 51 (0, 0))) (S : Own [(is g2)] H w) {r : Int × GL4rd} (M : spec_l4rd_next_2.f x1 = some r) :
  Calls Tryz.prog 18 #[.pointer (some ⟨g2, 0, none⟩)] w (fun e e_w => ∃ (A_1 : Option Addr) (c_1 : Nat) (H_ : Hp), e = .returned (.int .i64 r.1) ∧ Rd tByte H_ A_1 r.2.b_ ∧ r.2.b_.length ≤ c_1 ∧ e_w.heap[g2]? = some (.cells #[.slice A_1 r.2.b_.length c_1, .int .i64 r.2.i_] 51 (0, 0)) ∧ St (anyOf [(is g2)]) H w [(is g2)] H_ e_w) := by
 rw [spec_l4rd_next_2.f] at M
 refine enter (l := [.pointer (some ⟨g2, 0, none⟩)]) 33 func18 rfl rfl rfl ?_
 have S0_ := S.st
 refine wQ (wR (lP 1 (wN (tN (wQ (wQ ?_))))))
 refine region_still kr kr S0_ ?_
 intro w8 S9 K10
 replace b3 := K10.b 0 b3
 refine sP 3 (sV 7 (eB 1 b3) (sP 3 (sV 11 (eB 0 b3) (sP 2 (wpStill_nil (tN ?_))))))
 obtain ⟨q11, M⟩ | ⟨q11, M⟩ := ifc M
 ·refine cT (bT q11) (wQ (wR (lP 1 (wN (tN (wT (tR ?_)))))))
  obtain rfl := sj M
  exact ret1 rfl rfl  kr ⟨A4, c5, H, rfl, h6, l7, b3, S9⟩
 refine cF (bF q11) (wK (tN (wQ ?_)))
 refine region_still kr kr S9 ?_
 intro w12 S13 K14
 replace b3 := K14.b 0 b3
 refine sP 3 (sV 17 (eB 0 b3) (sP 3 (sV 21 (eB 1 b3) ?_)))
 obtain ⟨q15, M⟩ := chk M
 obtain ⟨q16, M⟩ := chk M
 obtain ⟨b17, o18, e19⟩ := Rd.addr h6 (show (x1.i_).toNat < x1.b_.length by omega)
 obtain ⟨y20, r21, k22⟩ := Rd.at h6 e19 (getD_some (0 : UInt8) (show (x1.i_).toNat < x1.b_.length by omega))
 obtain rfl := r21
 refine sV 22 (eJ underlying22 e19 q15 q16) (sV 23 (eK underlying5 (hpx (S13.inv.cell (k22 0 _ rfl)))) (sV 24 (e_conv_8i (a := (x1.b_.getD ((x1.i_).toNat) (0 : UInt8))) kr underlying3 kr) (sP 1 (wpStill_nil (tN (wQ (wR (lP 3 (lV 28 (eB 1 b3) (lP 3 ?_))))))))))
 refine lE (eS g2 (0 + 1) (.int .i64 (i64.wrap (x1.i_ + 1))) #[.slice A4 x1.b_.length c5, .int .i64 (i64.wrap (x1.i_ + 1))] [.int .i64 (i64.wrap (x1.i_ + 1))] S13 b3) ?_
 rintro w23 ⟨b24, S25, K26⟩
 clear b3
 refine wN (tN (wQ (wR (lP 2 (wN (tN (wT ?_)))))))
 obtain rfl := sj M
 exact ret1 rfl rfl  kr ⟨A4, c5, H, rfl, h6, l7, b24, S25⟩
def Lt1 : List (List UInt8) := [([97] : List UInt8), ([88] : List UInt8), ([95] : List UInt8), ([49, 50] : List UInt8), ([40] : List UInt8), ([41] : List UInt8), ([91] : List UInt8), ([93] : List UInt8), ([44] : List UInt8), ([124] : List UInt8), ([45] : List UInt8), ([32] : List UInt8), ([46, 32] : List UInt8), ([102, 111, 111, 40] : List UInt8), ([61] : List UInt8), ([58, 45] : List UInt8), ([39, 113, 32, 120, 39] : List UInt8), ([34, 115, 116, 34] : List UInt8), ([123] : List UInt8), ([125] : List UInt8), ([48, 120, 49, 70] : List UInt8), ([48, 39, 97] : List UInt8), ([92, 43] : List UInt8), ([45, 32, 49] : List UInt8), ([45, 49] : List UInt8), ([105, 115] : List UInt8), ([43] : List UInt8), ([33] : List UInt8), ([59] : List UInt8), ([45, 62] : List UInt8), ([64, 64] : List UInt8), ([89] : List UInt8)]
def spec_l4token_2.f (x1 : GL4rd) : Option ((List UInt8) × GL4rd) := ((spec_l4rd_next_2.f x1).bind fun t18 => (if 0 ≤ (Int.tmod t18.1 32) then (if (Int.tmod t18.1 32) < (32 : Int) then some ((Lt1.getD (((Int.tmod t18.1 32)).toNat) ([] : List UInt8)), t18.2) else none) else none))
theorem spec_l4token_2.calls {w : World} {H : Hp} (x1 : GL4rd) {g2 : Nat} {A4 : Option Addr} {c5 : Nat} (h6 : Rd tByte H A4 x1.b_) (l7 : x1.b_.length ≤ c5) (b3 : w.heap[g2]? = some (.cells #[.slice A4 x1.b_.length c5, .int .i64 x1.i_] 51 (0, 0))) (S : Own [(is g2)] H w) {r : (List UInt8) × GL4rd} (M : spec_l4token_2.f x1 = some r) :
  Calls Tryz.prog 51 #[.pointer (some ⟨g2, 0, none⟩)] w (fun e e_w => ∃ (A_1 : Option Addr) (c_1 : Nat) (H_ : Hp), e = .returned (str r.1) ∧ Rd tByte H_ A_1 r.2.b_ ∧ r.2.b_.length ≤ c_1 ∧ e_w.heap[g2]? = some (.cells #[.slice A_1 r.2.b_.length c_1, .int .i64 r.2.i_] 51 (0, 0)) ∧ St (anyOf [(is g2)]) H w [(is g2)] H_ e_w) := by
 rw [spec_l4token_2.f] at M
 refine enter (l := [.pointer (some ⟨g2, 0, none⟩)]) 11 func51 rfl rfl rfl ?_
 have S0_ := S.st
 refine wQ (wR (lP 1 (wN (tN (wQ (wR ?_))))))
 refine lW 4 (new_blk (v := fun g_ => .slice (some ⟨g_, 0, none⟩) 32 32) (cs := #[str ([97] : List UInt8), str ([88] : List UInt8), str ([95] : List UInt8), str ([49, 50] : List UInt8), str ([40] : List UInt8), str ([41] : List UInt8), str ([91] : List UInt8), str ([93] : List UInt8), str ([44] : List UInt8), str ([124] : List UInt8), str ([45] : List UInt8), str ([32] : List UInt8), str ([46, 32] : List UInt8), str ([102, 111, 111, 40] : List UInt8), str ([61] : List UInt8), str ([58, 45] : List UInt8), str ([39, 113, 32, 120, 39] : List UInt8), str ([34, 115, 116, 34] : List UInt8), str ([123] : List UInt8), str ([125] : List UInt8), str ([48, 120, 49, 70] : List UInt8), str ([48, 39, 97] : List UInt8), str ([92, 43] : List UInt8), str ([45, 32, 49] : List UInt8), str ([45, 49] : List UInt8), str ([105, 115] : List UInt8), str ([43] : List UInt8), str ([33] : List UInt8), str ([59] : List UInt8), str ([45, 62] : List UInt8), str ([64, 64] : List UInt8), str ([89] : List UInt8)]) (t := 9) S0_ kr) ?_
 rintro _ w8 ⟨g9, rfl, b10, S11, K12⟩
 replace b3 := K12.b 0 b3
 have S13 := S11.unit
 have S14 := S13.pulls [(is g9), no, (is g2)] [1] rfl
 obtain ⟨h15, S16⟩ := row_lit (d := tStr) (xs := Lt1) S14 b10 rfl (elsO_no (d := tStr) rfl (elsO_no (d := tStr) rfl (elsO_no (d := tStr) rfl (elsO_no (d := tStr) rfl (elsO_no (d := tStr) rfl (elsO_no (d := tStr) rfl (elsO_no (d := tStr) rfl (elsO_no (d := tStr) rfl (elsO_no (d := tStr) rfl (elsO_no (d := tStr) rfl (elsO_no (d := tStr) rfl (elsO_no (d := tStr) rfl (elsO_no (d := tStr) rfl (elsO_no (d := tStr) rfl (elsO_no (d := tStr) rfl (elsO_no (d := tStr) rfl (elsO_no (d := tStr) rfl (elsO_no (d := tStr) rfl (elsO_no (d := tStr) rfl (elsO_no (d := tStr) rfl (elsO_no (d := tStr) rfl (elsO_no (d := tStr) rfl (elsO_no (d := tStr) rfl (elsO_no (d := tStr) rfl (elsO_no (d := tStr) rfl (elsO_no (d := tStr) rfl (elsO_no (d := tStr) rfl (elsO_no (d := tStr) rfl (elsO_no (d := tStr) rfl (elsO_no (d := tStr) rfl (elsO_no (d := tStr) rfl (elsO_no (d := tStr) rfl (elsO_nil _ _ _ no))))))))))))))))))))))))))))))))) (Nat.le_of_ble_eq_true rfl)
 refine lP 1 (wN (tN (wQ (wR (lP 2 ?_)))))
 have S17 := S16.pulls [(is g2), (or2 (is g9) no)] [1] rfl
 obtain ⟨t18, u19, M⟩ := bnd M
 refine lC 7 (eE func18) (spec_l4rd_next_2.calls x1 h6 l7 b3 (St.own' (Fa := [(is g2)]) (Fr := [(or2 (is g9) no)]) S17) u19) ?_
 rintro _ w20 ⟨A23, c24, H21, rfl, h25, l26, b27, T22⟩
 refine ⟨_, rfl, ?_⟩
 obtain ⟨S28, K29⟩ := St.call (Fa := [(is g2)]) (Fr := [(or2 (is g9) no)]) S17 T22
 replace h15 := h15.move (K29.a 0)
 have E30 := T22.ext
 replace h15 := h15.ext E30
 refine lP 1 ?_
 obtain ⟨q31, M⟩ := chk M
 obtain ⟨q32, M⟩ := chk M
 obtain ⟨b33, e35⟩ := Row.addr h15 (show ((Int.tmod t18.1 32)).toNat < Lt1.length by have : Lt1.length = 32 := rfl; omega)
 refine lV 9 (eI b33 0 32 32 1 (Int.tmod t18.1 32) .i64 underlying66 e35 q31 q32) (lV 10 (eK underlying9 (hpx (Row.pick (j := 0) (u := str (Lt1.getD (((Int.tmod t18.1 32)).toNat) ([] : List UInt8))) h15 e35 (getD_some ([] : List UInt8) (show ((Int.tmod t18.1 32)).toNat < Lt1.length by have : Lt1.length = 32 := rfl; omega)) (fun _ _ o_ => by rw [show _ = _ from o_]; rfl)))) (lP 1 (wN (tN (wT ?_)))))
 obtain rfl := sj M
 have S36 := St.first (Fa := [(is g2)]) (Fr := [(or2 (is g9) no)]) S28
 exact ret1 rfl rfl  kr ⟨A23, c24, H21, rfl, h25, l26, b27, S36⟩
def spec_l4soup.l0 : Nat → (Int × GL4rd) → (List UInt8) → Int → (List UInt8) → Int → Option ((List UInt8) × GL4rd)
 | 0, _, _, _, _, _ => none
 | k38 + 1, t8, x25, x26, x27, x32 => (if x26 < (Int.tmod t8.1 14) then ((spec_l4token_2.f (⟨x27, x32⟩ : GL4rd)).bind fun t40 => (if x25.length + t40.1.length ≤ 9223372036854775807 then (spec_l4soup.l0 k38 t8 (x25 ++ t40.1) (i64.wrap (x26 + 1)) t40.2.b_ t40.2.i_) else none)) else (if x25.length ≤ 9223372036854775807 then some (x25, (⟨x27, x32⟩ : GL4rd)) else none))
def spec_l4soup.f (k : Nat) (x1 : GL4rd) : Option ((List UInt8) × GL4rd) := ((spec_l4rd_next_2.f x1).bind fun t8 => (spec_l4soup.l0 k t8 ([] : List UInt8) 0 t8.2.b_ t8.2.i_))
theorem spec_l4soup.calls {k : Nat} {w : World} {H : Hp} (x1 : GL4rd) {g2 : Nat} {A4 : Option Addr} {c5 : Nat} (h6 : Rd tByte H A4 x1.b_) (l7 : x1.b_.length ≤ c5) (b3 : w.heap[g2]? = some (.cells #[.slice A4 x1.b_.length c5, .int .i64 x1.i_] 51 (0, 0))) (S : Own [(is g2)] H w) {r : (List UInt8) × GL4rd} (M : spec_l4soup.f k x1 = some r) :
  Calls Tryz.prog 19 #[.pointer (some ⟨g2, 0, none⟩)] w (fun e e_w => ∃ (A_1 : Option Addr) (c_1 : Nat) (A_2 : Option Addr) (c_2 : Nat) (F_1 : Foot) (H_ : Hp), e = .returned (.slice A_2 r.1.length c_2) ∧ Rd tByte H_ A_1 r.2.b_ ∧ r.2.b_.length ≤ c_1 ∧ e_w.heap[g2]? = some (.cells #[.slice A_1 r.2.b_.length c_1, .int .i64 r.2.i_] 51 (0, 0)) ∧ Row tByte 5 H_ (hp e_w) F_1 A_2 c_2 r.1 ∧ St (anyOf [(is g2)]) H w [(is g2), F_1] H_ e_w) := by
 rw [spec_l4soup.f] at M
 refine enter (l := [.pointer (some ⟨g2, 0, none⟩)]) 20 func19 rfl rfl rfl ?_
 have S0_ := S.st
 refine wQ (wR (lP 1 (wN (tN (wQ (wR (lP 1 (wN (tN (wQ (wR (lP 1 ?_))))))))))))
 obtain ⟨t8, u9, M⟩ := bnd M
 refine lC 7 (eE func18) (spec_l4rd_next_2.calls x1 h6 l7 b3 (St.own' (Fa := [(is g2)]) (Fr := []) S0_) u9) ?_
 rintro _ w10 ⟨A13, c14, H11, rfl, h15, l16, b17, T12⟩
 refine ⟨_, rfl, ?_⟩
 obtain ⟨S18, K19⟩ := St.call (Fa := [(is g2)]) (Fr := []) S0_ T12
 have E20 := T12.ext
 refine lP 2 (wN (tN (wQ (wQ (wR (lP 1 (wN (tN (wp_block ?_)))))))))
 refine wp_loop_g (fun k36 a37 w21 => ∃ (f22 : Nat → Value) (H23 : Hp) (x25 : List UInt8) (x26 : Int) (x27 : List UInt8) (A28 : Option Addr) (c29 : Nat) (x32 : Int), a37 = mk 20 (upd (upd (upd (upd f22 0 (.pointer (some ⟨g2, 0, none⟩))) 3 (str x25)) 4 (.int .i64 (Int.tmod t8.1 14))) 5 (.int .i64 x26)) ∧ w21.heap[g2]? = some (.cells #[.slice A28 x27.length c29, .int .i64 x32] 51 (0, 0)) ∧ Rd tByte H23 A28 x27 ∧ x27.length ≤ c29 ∧ Ext H11 H23 ∧ St (anyOf [(is g2)]) H w [(is g2)] H23 w21 ∧ spec_l4soup.l0 k36 t8 x25 x26 x27 x32 = some r) k ⟨_, H11, ([] : List UInt8), 0, t8.2.b_, A13, c14, t8.2.i_, (hdw (hdc (hdc (hdc (hdc rfl kr) kr) kr) kr)), b17, h15, l16, (Ext.refl _), S18, M⟩ ?_
 clear M
 rintro k36 a37 w21 ⟨f22, H23, x25, x26, x27, A28, c29, x32, rfl, b17, h30, l31, Y24, S33, M⟩
 rcases k36 with _ | k38
 ·rw [spec_l4soup.l0] at M
  cases M
 rw [spec_l4soup.l0] at M
 refine wQ (wQ (wR (lP 3 (wN (tN ?_)))))
 obtain ⟨q39, M⟩ | ⟨q39, M⟩ := ifd M
 ·refine cF (bF q39) (wp_exit (tE (tE (inb_hit (tN (wQ (wR (lP 1 ?_))))))))
  obtain ⟨q54, M⟩ := chk M
  refine lW 19 (e_conv_sb (xs := x25) S33 underlying9 underlying22 underlying5 kr q54) ?_
  rintro _ w55 ⟨A56, c57, F58, rfl, h59, S60, K61⟩
  replace b17 := K61.b 0 b17
  refine lP 1 (wN (tN (wT ?_)))
  obtain rfl := sj M
  have S62 := S60.pulls [(is g2), F58] [1] rfl
  exact ret1 rfl rfl  kr ⟨A28, c29, A56, c57, F58, H23, rfl, h30, l31, b17, h59, S62⟩
 refine cT (bT q39) (wK (tN (wQ (wp_block (wR (lP 2 ?_))))))
 obtain ⟨t40, u41, M⟩ := bnd M
 refine lC 16 (eE func51) (spec_l4token_2.calls (⟨x27, x32⟩ : GL4rd) h30 l31 b17 (St.own' (Fa := [(is g2)]) (Fr := []) S33) u41) ?_
 rintro _ w42 ⟨A45, c46, H43, rfl, h47, l48, b49, T44⟩
 refine ⟨_, rfl, ?_⟩
 obtain ⟨S50, K51⟩ := St.call (Fa := [(is g2)]) (Fr := []) S33 T44
 have E52 := T44.ext
 obtain ⟨q53, M⟩ := chk M
 refine lV 17 (e_sadd (p := x25) (q := t40.1) kr kr q53) (lP 1 (wN (inb_n (tN (wR (lP 3 (wN (tN ?_))))))))
 exact ⟨k38, (by omega), _, H43, (x25 ++ t40.1), (i64.wrap (x26 + 1)), t40.2.b_, A45, c46, t40.2.i_, (hdw (hdc (hdc (hdc (hdc rfl kr) kr) kr) kr)), b49, h47, l48, (Y24.trans E52), S50, M⟩
def Lt2 : List (List UInt8) := [([] : List UInt8), ([46] : List UInt8), ([97] : List UInt8), ([97, 46] : List UInt8), ([97, 46, 98] : List UInt8), ([37, 32, 99] : List UInt8), ([47, 42, 32, 99] : List UInt8), ([47, 42, 32, 99, 32, 42, 47, 32, 97, 46] : List UInt8), ([39] : List UInt8), ([39, 97, 39, 39, 98, 39] : List UInt8), ([39, 92, 120, 52, 49, 92, 39] : List UInt8), ([39, 92, 120, 52, 39] : List UInt8), ([39, 92, 113, 39] : List UInt8), ([39, 97, 92, 10, 98, 39] : List UInt8), ([39, 97, 10, 98, 39] : List UInt8), ([48, 39] : List UInt8), ([48, 39, 39, 39] : List UInt8), ([48, 39, 39] : List UInt8), ([48, 39, 92, 110] : List UInt8), ([48, 39, 92, 120, 52, 49, 92] : List UInt8), ([48, 39, 97, 98] : List UInt8), ([48, 120] : List UInt8), ([48, 120, 103] : List UInt8), ([48, 111, 49, 55] : List UInt8), ([48, 98, 49, 48, 50] : List UInt8), ([49, 48, 48, 48, 48, 48, 48, 48, 48, 48, 48, 48, 48, 48, 48, 49] : List UInt8), ([49, 50, 97] : List UInt8), ([34, 92, 34, 34] : List UInt8), ([97, 40] : List UInt8), ([97, 32, 40, 98, 41] : List UInt8), ([45, 32, 40, 49, 41] : List UInt8), ([45, 40, 49, 41] : List UInt8), ([45, 32, 49] : List UInt8), ([45, 97] : List UInt8), ([97, 45, 32, 45, 49] : List UInt8), ([97, 45, 40, 45, 49, 41] : List UInt8), ([91, 97, 124, 98, 124, 99, 93] : List UInt8), ([123, 97, 125] : List UInt8), ([123, 125, 40, 97, 41] : List UInt8), ([91, 93, 40, 97, 41] : List UInt8), ([102, 40, 44, 41] : List UInt8), ([102, 40, 97, 44, 41] : List UInt8), ([91, 44, 93] : List UInt8), ([91, 97, 44, 98, 124, 67, 93] : List UInt8), ([45, 32, 45, 32, 97] : List UInt8), ([92, 43, 32, 92, 43, 97] : List UInt8), ([58, 45, 32, 58, 45, 32, 97] : List UInt8), ([102, 40, 58, 45, 32, 97, 41] : List UInt8), ([102, 40, 58, 45, 41] : List UInt8), ([45, 32, 61, 32, 120] : List UInt8), ([91, 45, 93] : List UInt8), ([97, 32, 61, 32, 45, 32, 46] : List UInt8), ([97, 32, 44, 32, 98] : List UInt8), ([40, 97, 32, 44, 32, 98, 41] : List UInt8), ([97, 32, 124, 32, 98] : List UInt8), ([102, 40, 97, 32, 124, 32, 98, 41] : List UInt8), ([102, 40, 40, 97, 32, 124, 32, 98, 41, 41] : List UInt8), ([49, 32, 45, 32, 50, 32, 45, 32, 51] : List UInt8), ([97, 32, 61, 32, 98, 32, 61, 32, 99] : List UInt8), ([97, 32, 58, 45, 32, 98, 32, 58, 45, 32, 99] : List UInt8), ([100, 121, 110, 97, 109, 105, 99, 32, 97] : List UInt8), ([100, 121, 110, 97, 109, 105, 99] : List UInt8), ([88, 32, 105, 115, 32, 49, 32, 43, 32, 50, 32, 42, 32, 51] : List UInt8), ([97, 46, 37] : List UInt8), ([102, 40, 65, 44, 32, 95, 44, 32, 65, 44, 32, 95, 41] : List UInt8), ([96, 97] : List UInt8), ([128] : List UInt8), ([39, 128, 39] : List UInt8), ([33, 46] : List UInt8), ([97, 59, 98, 45, 62, 99] : List UInt8), ([45, 32, 97, 32, 94, 32, 50] : List UInt8), ([45, 49, 32, 94, 32, 50] : List UInt8), ([49, 46, 53] : List UInt8), ([97, 58, 45, 98, 44, 99, 46] : List UInt8), ([92] : List UInt8), ([64, 64, 32, 97] : List UInt8), ([97, 32, 64, 64] : List UInt8), ([102, 32, 40, 97, 41] : List UInt8), ([112, 58, 45, 113, 40, 114, 41, 44, 33, 46] : List UInt8), ([43, 32, 49] : List UInt8), ([97, 45, 45, 49] : List UInt8), ([97, 45, 45, 98] : List UInt8), ([42, 40, 42, 44, 42, 41] : List UInt8), ([91, 42, 124, 42, 93] : List UInt8)]
def spec_l4oddText.f (x1 : GL4rd) : Option ((List UInt8) × GL4rd) := ((spec_l4rd_next_2.f x1).bind fun t18 => (if 0 ≤ (Int.tmod t18.1 84) then (if (Int.tmod t18.1 84) < (84 : Int) then (if (Lt2.getD (((Int.tmod t18.1 84)).toNat) ([] : List UInt8)).length ≤ 9223372036854775807 then some ((Lt2.getD (((Int.tmod t18.1 84)).toNat) ([] : List UInt8)), t18.2) else none) else none) else none))
theorem spec_l4oddText.calls {w : World} {H : Hp} (x1 : GL4rd) {g2 : Nat} {A4 : Option Addr} {c5 : Nat} (h6 : Rd tByte H A4 x1.b_) (l7 : x1.b_.length ≤ c5) (b3 : w.heap[g2]? = some (.cells #[.slice A4 x1.b_.length c5, .int .i64 x1.i_] 51 (0, 0))) (S : Own [(is g2)] H w) {r : (List UInt8) × GL4rd} (M : spec_l4oddText.f x1 = some r) :
  Calls Tryz.prog 20 #[.pointer (some ⟨g2, 0, none⟩)] w (fun e e_w => ∃ (A_1 : Option Addr) (c_1 : Nat) (A_2 : Option Addr) (c_2 : Nat) (F_1 : Foot) (H_ : Hp), e = .returned (.slice A_2 r.1.length c_2) ∧ Rd tByte H_ A_1 r.2.b_ ∧ r.2.b_.length ≤ c_1 ∧ e_w.heap[g2]? = some (.cells #[.slice A_1 r.2.b_.length c_1, .int .i64 r.2.i_] 51 (0, 0)) ∧ Row tByte 5 H_ (hp e_w) F_1 A_2 c_2 r.1 ∧ St (anyOf [(is g2)]) H w [(is g2), F_1] H_ e_w) := by
 rw [spec_l4oddText.f] at M
 refine enter (l := [.pointer (some ⟨g2, 0, none⟩)]) 12 func20 rfl rfl rfl ?_
 have S0_ := S.st
 refine wQ (wR (lP 1 (wN (tN (wQ (wR ?_))))))
 refine lW 4 (new_blk (v := fun g_ => .slice (some ⟨g_, 0, none⟩) 84 84) (cs := #[str ([] : List UInt8), str ([46] : List UInt8), str ([97] : List UInt8), str ([97, 46] : List UInt8), str ([97, 46, 98] : List UInt8), str ([37, 32, 99] : List UInt8), str ([47, 42, 32, 99] : List UInt8), str ([47, 42, 32, 99, 32, 42, 47, 32, 97, 46] : List UInt8), str ([39] : List UInt8), str ([39, 97, 39, 39, 98, 39] : List UInt8), str ([39, 92, 120, 52, 49, 92, 39] : List UInt8), str ([39, 92, 120, 52, 39] : List UInt8), str ([39, 92, 113, 39] : List UInt8), str ([39, 97, 92, 10, 98, 39] : List UInt8), str ([39, 97, 10, 98, 39] : List UInt8), str ([48, 39] : List UInt8), str ([48, 39, 39, 39] : List UInt8), str ([48, 39, 39] : List UInt8), str ([48, 39, 92, 110] : List UInt8), str ([48, 39, 92, 120, 52, 49, 92] : List UInt8), str ([48, 39, 97, 98] : List UInt8), str ([48, 120] : List UInt8), str ([48, 120, 103] : List UInt8), str ([48, 111, 49, 55] : List UInt8), str ([48, 98, 49, 48, 50] : List UInt8), str ([49, 48, 48, 48, 48, 48, 48, 48, 48, 48, 48, 48, 48, 48, 48, 49] : List UInt8), str ([49, 50, 97] : List UInt8), str ([34, 92, 34, 34] : List UInt8), str ([97, 40] : List UInt8), str ([97, 32, 40, 98, 41] : List UInt8), str ([45, 32, 40, 49, 41] : List UInt8), str ([45, 40, 49, 41] : List UInt8), str ([45, 32, 49] : List UInt8), str ([45, 97] : List UInt8), str ([97, 45, 32, 45, 49] : List UInt8), str ([97, 45, 40, 45, 49, 41] : List UInt8), str ([91, 97, 124, 98, 124, 99, 93] : List UInt8), str ([123, 97, 125] : List UInt8), str ([123, 125, 40, 97, 41] : List UInt8), str ([91, 93, 40, 97, 41] : List UInt8), str ([102, 40, 44, 41] : List UInt8), str ([102, 40, 97, 44, 41] : List UInt8), str ([91, 44, 93] : List UInt8), str ([91, 97, 44, 98, 124, 67, 93] : List UInt8), str ([45, 32, 45, 32, 97] : List UInt8), str ([92, 43, 32, 92, 43, 97] : List UInt8), str ([58, 45, 32, 58, 45, 32, 97] : List UInt8), str ([102, 40, 58, 45, 32, 97, 41] : List UInt8), str ([102, 40, 58, 45, 41] : List UInt8), str ([45, 32, 61, 32, 120] : List UInt8), str ([91, 45, 93] : List UInt8), str ([97, 32, 61, 32, 45, 32, 46] : List UInt8), str ([97, 32, 44, 32, 98] : List UInt8), str ([40, 97, 32, 44, 32, 98, 41] : List UInt8), str ([97, 32, 124, 32, 98] : List UInt8), str ([102, 40, 97, 32, 124, 32, 98, 41] : List UInt8), str ([102, 40, 40, 97, 32, 124, 32, 98, 41, 41] : List UInt8), str ([49, 32, 45, 32, 50, 32, 45, 32, 51] : List UInt8), str ([97, 32, 61, 32, 98, 32, 61, 32, 99] : List UInt8), str ([97, 32, 58, 45, 32, 98, 32, 58, 45, 32, 99] : List UInt8), str ([100, 121, 110, 97, 109, 105, 99, 32, 97] : List UInt8), str ([100, 121, 110, 97, 109, 105, 99] : List UInt8), str ([88, 32, 105, 115, 32, 49, 32, 43, 32, 50, 32, 42, 32, 51] : List UInt8), str ([97, 46, 37] : List UInt8), str ([102, 40, 65, 44, 32, 95, 44, 32, 65, 44, 32, 95, 41] : List UInt8), str ([96, 97] : List UInt8), str ([128] : List UInt8), str ([39, 128, 39] : List UInt8), str ([33, 46] : List UInt8), str ([97, 59, 98, 45, 62, 99] : List UInt8), str ([45, 32, 97, 32, 94, 32, 50] : List UInt8), str ([45, 49, 32, 94, 32, 50] : List UInt8), str ([49, 46, 53] : List UInt8), str ([97, 58, 45, 98, 44, 99, 46] : List UInt8), str ([92] : List UInt8), str ([64, 64, 32, 97] : List UInt8), str ([97, 32, 64, 64] : List UInt8), str ([102, 32, 40, 97, 41] : List UInt8), str ([112, 58, 45, 113, 40, 114, 41, 44, 33, 46] : List UInt8), str ([43, 32, 49] : List UInt8), str ([97, 45, 45, 49] : List UInt8), str ([97, 45, 45, 98] : List UInt8), str ([42, 40, 42, 44, 42, 41] : List UInt8), str ([91, 42, 124, 42, 93] : List UInt8)]) (t := 9) S0_ kr) ?_
 rintro _ w8 ⟨g9, rfl, b10, S11, K12⟩
 replace b3 := K12.b 0 b3
 have S13 := S11.unit
 have S14 := S13.pulls [(is g9), no, (is g2)] [1] rfl
 obtain ⟨h15, S16⟩ := row_lit (d := tStr) (xs := Lt2) S14 b10 rfl (elsO_no (d := tStr) rfl (elsO_no (d := tStr) rfl (elsO_no (d := tStr) rfl (elsO_no (d := tStr) rfl (elsO_no (d := tStr) rfl (elsO_no (d := tStr) rfl (elsO_no (d := tStr) rfl (elsO_no (d := tStr) rfl (elsO_no (d := tStr) rfl (elsO_no (d := tStr) rfl (elsO_no (d := tStr) rfl (elsO_no (d := tStr) rfl (elsO_no (d := tStr) rfl (elsO_no (d := tStr) rfl (elsO_no (d := tStr) rfl (elsO_no (d := tStr) rfl (elsO_no (d := tStr) rfl (elsO_no (d := tStr) rfl (elsO_no (d := tStr) rfl (elsO_no (d := tStr) rfl (elsO_no (d := tStr) rfl (elsO_no (d := tStr) rfl (elsO_no (d := tStr) rfl (elsO_no (d := tStr) rfl (elsO_no (d := tStr) rfl (elsO_no (d := tStr) rfl (elsO_no (d := tStr) rfl (elsO_no (d := tStr) rfl (elsO_no (d := tStr) rfl (elsO_no (d := tStr) rfl (elsO_no (d := tStr) rfl (elsO_no (d := tStr) rfl (elsO_no (d := tStr) rfl (elsO_no (d := tStr) rfl (elsO_no (d := tStr) rfl (elsO_no (d := tStr) rfl (elsO_no (d := tStr) rfl (elsO_no (d := tStr) rfl (elsO_no (d := tStr) rfl (elsO_no (d := tStr) rfl (elsO_no (d := tStr) rfl (elsO_no (d := tStr) rfl (elsO_no (d := tStr) rfl (elsO_no (d := tStr) rfl (elsO_no (d := tStr) rfl (elsO_no (d := tStr) rfl (elsO_no (d := tStr) rfl (elsO_no (d := tStr) rfl (elsO_no (d := tStr) rfl (elsO_no (d := tStr) rfl (elsO_no (d := tStr) rfl (elsO_no (d := tStr) rfl (elsO_no (d := tStr) rfl (elsO_no (d := tStr) rfl (elsO_no (d := tStr) rfl (elsO_no (d := tStr) rfl (elsO_no (d := tStr) rfl (elsO_no (d := tStr) rfl (elsO_no (d := tStr) rfl (elsO_no (d := tStr) rfl (elsO_no (d := tStr) rfl (elsO_no (d := tStr) rfl (elsO_no (d := tStr) rfl (elsO_no (d := tStr) rfl (elsO_no (d := tStr) rfl (elsO_no (d := tStr) rfl (elsO_no (d := tStr) rfl (elsO_no (d := tStr) rfl (elsO_no (d := tStr) rfl (elsO_no (d := tStr) rfl (elsO_no (d := tStr) rfl (elsO_no (d := tStr) rfl (elsO_no (d := tStr) rfl (elsO_no (d := tStr) rfl (elsO_no (d := tStr) rfl (elsO_no (d := tStr) rfl (elsO_no (d := tStr) rfl (elsO_no (d := tStr) rfl (elsO_no (d := tStr) rfl (elsO_no (d := tStr) rfl (elsO_no (d := tStr) rfl (elsO_no (d := tStr) rfl (elsO_no (d := tStr) rfl (elsO_no (d := tStr) rfl (elsO_nil _ _ _ no))))))))))))))))))))))))))))))))))))))))))))))))))))))))))))))))))))))))))))))))))))) (Nat.le_of_ble_eq_true rfl)
 refine lP 1 (wN (tN (wQ (wR (lP 2 ?_)))))
 have S17 := S16.pulls [(is g2), (or2 (is g9) no)] [1] rfl
 obtain ⟨t18, u19, M⟩ := bnd M
 refine lC 7 (eE func18) (spec_l4rd_next_2.calls x1 h6 l7 b3 (St.own' (Fa := [(is g2)]) (Fr := [(or2 (is g9) no)]) S17) u19) ?_
 rintro _ w20 ⟨A23, c24, H21, rfl, h25, l26, b27, T22⟩
 refine ⟨_, rfl, ?_⟩
 obtain ⟨S28, K29⟩ := St.call (Fa := [(is g2)]) (Fr := [(or2 (is g9) no)]) S17 T22
 replace h15 := h15.move (K29.a 0)
 have E30 := T22.ext
 replace h15 := h15.ext E30
 refine lP 1 ?_
 obtain ⟨q31, M⟩ := chk M
 obtain ⟨q32, M⟩ := chk M
 obtain ⟨b33, e35⟩ := Row.addr h15 (show ((Int.tmod t18.1 84)).toNat < Lt2.length by have : Lt2.length = 84 := rfl; omega)
 refine lV 9 (eI b33 0 84 84 1 (Int.tmod t18.1 84) .i64 underlying66 e35 q31 q32) (lV 10 (eK underlying9 (hpx (Row.pick (j := 0) (u := str (Lt2.getD (((Int.tmod t18.1 84)).toNat) ([] : List UInt8))) h15 e35 (getD_some ([] : List UInt8) (show ((Int.tmod t18.1 84)).toNat < Lt2.length by have : Lt2.length = 84 := rfl; omega)) (fun _ _ o_ => by rw [show _ = _ from o_]; rfl)))) ?_)
 obtain ⟨q36, M⟩ := chk M
 refine lW 11 (e_conv_sb (xs := (Lt2.getD (((Int.tmod t18.1 84)).toNat) ([] : List UInt8))) S28 underlying9 underlying22 underlying5 kr q36) ?_
 rintro _ w37 ⟨A38, c39, F40, rfl, h41, S42, K43⟩
 replace b27 := K43.b 0 b27
 refine lP 1 (wN (tN (wT ?_)))
 obtain rfl := sj M
 have S44 := S42.pulls [(is g2), F40, (or2 (is g9) no)] [1] rfl
 have S45 := St.first (Fa := [(is g2), F40]) (Fr := [(or2 (is g9) no)]) S44
 exact ret1 rfl rfl  kr ⟨A23, c24, A38, c39, F40, H21, rfl, h25, l26, b27, h41, S45⟩
def spec_l4fill.l0 : Nat → UInt8 → Int → (List UInt8) → Int → Option (List UInt8)
 | 0, _, _, _, _ => none
 | k16 + 1, x1, x2, x5, x10 => (if x10 < x2 then (if x5.length + 1 ≤ 140737488355328 then (spec_l4fill.l0 k16 x1 x2 (x5 ++ [x1]) (i64.wrap (x10 + 1))) else none) else some x5)
def spec_l4fill.f (k : Nat) (x1 : UInt8) (x2 : Int) : Option (List UInt8) := (spec_l4fill.l0 k x1 x2 [] 0)
theorem spec_l4fill.calls {k : Nat} {w : World} {H : Hp} {x1 : UInt8} {x2 : Int} (S : Own [] H w) {r : List UInt8} (M : spec_l4fill.f k x1 x2 = some r) :
  Calls Tryz.prog 21 #[.int .u8 (x1.toNat : Int), .int .i64 x2] w (fun e e_w => ∃ (A_1 : Option Addr) (c_1 : Nat) (F_1 : Foot) (H_ : Hp), e = .returned (.slice A_1 r.length c_1) ∧ Row tByte 5 H_ (hp e_w) F_1 A_1 c_1 r ∧ St (anyOf []) H w [F_1] H_ e_w) := by
 rw [spec_l4fill.f] at M
 refine enter (l := [.int .u8 (x1.toNat : Int), .int .i64 x2]) 17 func21 rfl rfl rfl ?_
 have S0_ := S.st
 refine wQ (wR (lP 1 (wN (tN (wQ (wR (lP 1 (wN (tN (wQ (wQ (wR (lP 1 (wN (tN ?_)))))))))))))))
 refine wp_block ?_
 have S17 := S0_.unit
 refine wp_loop_g (fun k14 a15 w3 => ∃ (f4 : Nat → Value) (x5 : List UInt8) (A6 : Option Addr) (c7 : Nat) (F8 : Foot) (x10 : Int), a15 = mk 17 (upd (upd (upd (upd f4 0 (.int .u8 (x1.toNat : Int))) 1 (.int .i64 x2)) 5 (.slice A6 x5.length c7)) 6 (.int .i64 x10)) ∧ Row tByte 5 H (hp w3) F8 A6 c7 x5 ∧ St (anyOf []) H w [F8] H w3 ∧ spec_l4fill.l0 k14 x1 x2 x5 x10 = some r) k ⟨_, [], none, 0, no, 0, (hdw (hdc (hdc (hdc (hdc rfl kr) kr) kr) kr)), (Row.nil _ _ _ _ _), S17, M⟩ ?_
 clear M
 rintro k14 a15 w3 ⟨f4, x5, A6, c7, F8, x10, rfl, h9, S11, M⟩
 rcases k14 with _ | k16
 ·rw [spec_l4fill.l0] at M
  cases M
 rw [spec_l4fill.l0] at M
 refine wQ (wQ (wR (lP 3 (wN (tN ?_)))))
 obtain ⟨q18, M⟩ | ⟨q18, M⟩ := ifd M
 ·refine cF (bF q18) (wp_exit (tE (tE (inb_hit (tN (wQ (wR (lP 2 (wN (tN (wT ?_)))))))))))
  obtain rfl := sj M
  exact ret1 rfl rfl  kr ⟨A6, c7, F8, H, rfl, h9, S11⟩
 refine cT (bT q18) (wK (tN (wQ (wp_block (wR (lP 2 ?_))))))
 refine lW 14 (new_blk (v := fun g_ => .slice (some ⟨g_, 0, none⟩) 1 1) (cs := #[.int .u8 (x1.toNat : Int)]) (t := 5) S11 kr) ?_
 rintro _ w19 ⟨g20, rfl, b21, S22, K23⟩
 replace h9 := h9.move (K23.a 0)
 obtain ⟨q24, M⟩ := chk M
 have S25 := S22.pulls [F8, (is g20)] [1] rfl
 have S26 := S25.unit
 have S27 := S26.pulls [F8, no, (is g20)] [1] rfl
 refine lW 15 (e_append (d := tByte) (n := x5.length) (xs := x5) (cap := c7) (A := A6) (ys := [x1]) (A2 := (some ⟨g20, 0, none⟩)) (c2 := 1) (z := .int .u8 0) (bytes := 1) S27 underlying22 kr rfl (by decide) kr rfl kr h9 (elsO_one1 rfl) (.inr (blk_news b21 rfl)) (show (x5.length + [x1].length) * 1 ≤ _ by first | omega | (simp only [List.length_cons, List.length_nil]; omega)) (by decide)) ?_
 rintro _ w28 ⟨A29, c30, F31, rfl, h32, S33, K34⟩
 refine lP 1 (wN (inb_n (tN (wR (lP 3 (wN (tN ?_)))))))
 have S35 := St.first (Fa := [F31]) (Fr := [(is g20)]) S33
 exact ⟨k16, (by omega), _, (x5 ++ [x1]), A29, c30, F31, (i64.wrap (x10 + 1)), (hdw (hdc (hdc (hdc (hdc rfl kr) kr) kr) kr)), h32, S35, M⟩
def spec_l4int_2.f (x1 : GL4rd) : Option (Int × GL4rd) := ((spec_l4rd_next_2.f x1).bind fun t8 => (if t8.1 < 40 then (if 0 ≤ (Int.tmod t8.1 8) then (if (Int.tmod t8.1 8) < (8 : Int) then some (([0, 1, (-1), 42, 1000000000000000, (-1000000000000000), 255, 1000000].getD (((Int.tmod t8.1 8)).toNat) (0 : Int)), t8.2) else none) else none) else some ((i64.wrap ((Int.tmod t8.1 12) - 2)), t8.2)))
theorem spec_l4int_2.calls {w : World} {H : Hp} (x1 : GL4rd) {g2 : Nat} {A4 : Option Addr} {c5 : Nat} (h6 : Rd tByte H A4 x1.b_) (l7 : x1.b_.length ≤ c5) (b3 : w.heap[g2]? = some (.cells #[.slice A4 x1.b_.length c5, .int .i64 x1.i_] 51 (0, 0))) (S : Own [(is g2)] H w) {r : Int × GL4rd} (M : spec_l4int_2.f x1 = some r) :
  Calls Tryz.prog 54 #[.pointer (some ⟨g2, 0, none⟩)] w (fun e e_w => ∃ (A_1 : Option Addr) (c_1 : Nat) (H_ : Hp), e = .returned (.int .i64 r.1) ∧ Rd tByte H_ A_1 r.2.b_ ∧ r.2.b_.length ≤ c_1 ∧ e_w.heap[g2]? = some (.cells #[.slice A_1 r.2.b_.length c_1, .int .i64 r.2.i_] 51 (0, 0)) ∧ St (anyOf [(is g2)]) H w [(is g2)] H_ e_w) := by
 rw [spec_l4int_2.f] at M
 refine enter (l := [.pointer (some ⟨g2, 0, none⟩)]) 18 func54 rfl rfl rfl ?_
 have S0_ := S.st
 refine wQ (wR (lP 1 (wN (tN (wQ (wR (lP 1 ?_)))))))
 obtain ⟨t8, u9, M⟩ := bnd M
 refine lC 6 (eE func18) (spec_l4rd_next_2.calls x1 h6 l7 b3 (St.own' (Fa := [(is g2)]) (Fr := []) S0_) u9) ?_
 rintro _ w10 ⟨A13, c14, H11, rfl, h15, l16, b17, T12⟩
 refine ⟨_, rfl, ?_⟩
 obtain ⟨S18, K19⟩ := St.call (Fa := [(is g2)]) (Fr := []) S0_ T12
 have E20 := T12.ext
 refine lP 1 (wN (tN (wQ (wR ?_))))
 refine lW 7 (new_blk (v := fun g_ => .slice (some ⟨g_, 0, none⟩) 8 8) (cs := #[.int .i64 0, .int .i64 1, .int .i64 (-1), .int .i64 42, .int .i64 1000000000000000, .int .i64 (-1000000000000000), .int .i64 255, .int .i64 1000000]) (t := 3) S18 kr) ?_
 rintro _ w21 ⟨g22, rfl, b23, S24, K25⟩
 replace b17 := K25.b 0 b17
 have S26 := S24.unit
 have S27 := S26.pulls [(is g22), no, (is g2)] [1] rfl
 obtain ⟨h28, S29⟩ := row_lit (d := tInt) (xs := [0, 1, (-1), 42, 1000000000000000, (-1000000000000000), 255, 1000000]) S27 b23 rfl (elsO_no (d := tInt) rfl (elsO_no (d := tInt) rfl (elsO_no (d := tInt) rfl (elsO_no (d := tInt) rfl (elsO_no (d := tInt) rfl (elsO_no (d := tInt) rfl (elsO_no (d := tInt) rfl (elsO_no (d := tInt) rfl (elsO_nil _ _ _ no))))))))) (Nat.le_of_ble_eq_true rfl)
 refine lP 1 (wN (tN (wQ (wQ (wR (lP 2 (wN (tN ?_))))))))
 obtain ⟨q30, M⟩ | ⟨q30, M⟩ := ifd M
 ·refine cF (bF q30) (wK (tN (wQ (wR (lP 4 (wN (tN (wT ?_))))))))
  obtain rfl := sj M
  have S38 := S29.pulls [(is g2), (or2 (is g22) no)] [1] rfl
  have S39 := St.first (Fa := [(is g2)]) (Fr := [(or2 (is g22) no)]) S38
  exact ret1 rfl rfl  kr ⟨A13, c14, H11, rfl, h15, l16, b17, S39⟩
 refine cT (bT q30) (wQ (wR (lP 3 ?_)))
 obtain ⟨q31, M⟩ := chk M
 obtain ⟨q32, M⟩ := chk M
 obtain ⟨b33, e35⟩ := Row.addr h28 (show ((Int.tmod t8.1 8)).toNat < [0, 1, (-1), 42, 1000000000000000, (-1000000000000000), 255, 1000000].length by have : [0, 1, (-1), 42, 1000000000000000, (-1000000000000000), 255, 1000000].length = 8 := rfl; omega)
 refine lV 13 (eI b33 0 8 8 1 (Int.tmod t8.1 8) .i64 underlying82 e35 q31 q32) (lV 14 (eK underlying3 (hpx (Row.pick (j := 0) (u := .int .i64 ([0, 1, (-1), 42, 1000000000000000, (-1000000000000000), 255, 1000000].getD (((Int.tmod t8.1 8)).toNat) (0 : Int))) h28 e35 (getD_some (0 : Int) (show ((Int.tmod t8.1 8)).toNat < [0, 1, (-1), 42, 1000000000000000, (-1000000000000000), 255, 1000000].length by have : [0, 1, (-1), 42, 1000000000000000, (-1000000000000000), 255, 1000000].length = 8 := rfl; omega)) (fun _ _ o_ => by rw [show _ = _ from o_]; rfl)))) (lP 1 (wN (tN (wT (tR ?_))))))
 obtain rfl := sj M
 have S36 := S29.pulls [(is g2), (or2 (is g22) no)] [1] rfl
 have S37 := St.first (Fa := [(is g2)]) (Fr := [(or2 (is g22) no)]) S36
 exact ret1 rfl rfl  kr ⟨A13, c14, H11, rfl, h15, l16, b17, S37⟩
def sl5 : Ty (List UInt8) := slice 5 tByte (by decide)
def st70 : Ty Cell := iso (pair tInt (pair tInt sl5)) (fun x => (x.kind, x.n, x.text))
theorem st70_open {H : Hp} {x : Cell} {cs : List Value} (h : st70.R H x cs) : ∃ (A2 : Option Addr) (c2 : Nat), cs = [.int .i64 x.kind, .int .i64 x.n, .slice A2 x.text.length c2] ∧ x.text.length ≤ c2 ∧ Rd tByte H A2 x.text := by
 obtain ⟨_, _, rfl, rfl, ⟨_, _, rfl, rfl, ⟨A2, c2, rfl, l2, h2⟩⟩⟩ := h
 exact ⟨A2, c2, rfl, l2, h2⟩
theorem st70_mkO {H X : Hp} {F2 : Foot} {x : Cell} {A2 : Option Addr} {c2 : Nat} (h2 : Row tByte 5 H X F2 A2 c2 x.text) : st70.O H X F2 x [.int .i64 x.kind, .int .i64 x.n, .slice A2 x.text.length c2] := (pairO0 (a := tInt) (b := (pair tInt sl5)) (x := (x.kind, (x.n, x.text))) (c0 := [.int .i64 x.kind]) (c1 := [.int .i64 x.n, .slice A2 x.text.length c2]) rfl (pairO0 (a := tInt) (b := sl5) (x := (x.n, x.text)) (c0 := [.int .i64 x.n]) (c1 := [.slice A2 x.text.length c2]) rfl ⟨A2, c2, rfl, h2⟩))
def z70 : Cell := ⟨(0 : Int), (0 : Int), ([] : List UInt8)⟩
def spec_l2num.f (x1 : Int) : Option (List Cell) := some [(⟨1, x1, []⟩ : Cell)]
theorem spec_l2num.calls {w : World} {H : Hp} {x1 : Int} (S : Own [] H w) {r : List Cell} (M : spec_l2num.f x1 = some r) :
  Calls Tryz.prog 53 #[.int .i64 x1] w (fun e e_w => ∃ (A_1 : Option Addr) (c_1 : Nat) (F_1 : Foot) (H_ : Hp), e = .returned (.slice A_1 r.length c_1) ∧ Row st70 70 H_ (hp e_w) F_1 A_1 c_1 r ∧ St (anyOf []) H w [F_1] H_ e_w) := by
 rw [spec_l2num.f] at M
 refine enter (l := [.int .i64 x1]) 6 func53 rfl rfl rfl ?_
 have S0_ := S.st
 refine wQ (wR (lP 1 (wN (tN (wQ (wR (lP 2 ?_)))))))
 refine lW 5 (new_blk (v := fun g_ => .slice (some ⟨g_, 0, none⟩) 1 1) (cs := #[.int .i64 1, .int .i64 x1, .slice none 0 0]) (t := 70) S0_ kr) ?_
 rintro _ w2 ⟨g3, rfl, b4, S5, K6⟩
 have S7 := S5.unit
 have S8 := S7.pulls [(is g3), no] [1] rfl
 obtain ⟨h9, S10⟩ := row_lit (d := st70) (xs := [(⟨1, x1, []⟩ : Cell)]) S8 b4 rfl (elsO_one1 (st70_mkO (x := (⟨1, x1, []⟩ : Cell)) (Row.nil _ _ _ _ no))) (Nat.le_of_ble_eq_true rfl)
 refine lP 1 (wN (tN (wT ?_)))
 obtain rfl := sj M
 exact ret1 rfl rfl  kr ⟨(some ⟨g3, 0, none⟩), 1, (or2 (is g3) no), H, rfl, h9, S10⟩
def spec_l2var.f (x1 : Int) : Option (List Cell) := some [(⟨0, x1, []⟩ : Cell)]
theorem spec_l2var.calls {w : World} {H : Hp} {x1 : Int} (S : Own [] H w) {r : List Cell} (M : spec_l2var.f x1 = some r) :
  Calls Tryz.prog 55 #[.int .i64 x1] w (fun e e_w => ∃ (A_1 : Option Addr) (c_1 : Nat) (F_1 : Foot) (H_ : Hp), e = .returned (.slice A_1 r.length c_1) ∧ Row st70 70 H_ (hp e_w) F_1 A_1 c_1 r ∧ St (anyOf []) H w [F_1] H_ e_w) := by
 rw [spec_l2var.f] at M
 refine enter (l := [.int .i64 x1]) 6 func55 rfl rfl rfl ?_
 have S0_ := S.st
 refine wQ (wR (lP 1 (wN (tN (wQ (wR (lP 2 ?_)))))))
 refine lW 5 (new_blk (v := fun g_ => .slice (some ⟨g_, 0, none⟩) 1 1) (cs := #[.int .i64 0, .int .i64 x1, .slice none 0 0]) (t := 70) S0_ kr) ?_
 rintro _ w2 ⟨g3, rfl, b4, S5, K6⟩
 have S7 := S5.unit
 have S8 := S7.pulls [(is g3), no] [1] rfl
 obtain ⟨h9, S10⟩ := row_lit (d := st70) (xs := [(⟨0, x1, []⟩ : Cell)]) S8 b4 rfl (elsO_one1 (st70_mkO (x := (⟨0, x1, []⟩ : Cell)) (Row.nil _ _ _ _ no))) (Nat.le_of_ble_eq_true rfl)
 refine lP 1 (wN (tN (wT ?_)))
 obtain rfl := sj M
 exact ret1 rfl rfl  kr ⟨(some ⟨g3, 0, none⟩), 1, (or2 (is g3) no), H, rfl, h9, S10⟩
def Lt3 : List (List UInt8) := [([97] : List UInt8), ([102, 111, 111] : List UInt8), ([98, 49] : List UInt8), ([91, 93] : List UInt8), ([45] : List UInt8), ([43] : List UInt8), ([61] : List UInt8), ([58, 45] : List UInt8), ([44] : List UInt8), ([105, 115] : List UInt8), ([] : List UInt8), ([88, 32, 121] : List UInt8), ([92, 43] : List UInt8), ([123, 125] : List UInt8), ([33] : List UInt8), ([59] : List UInt8), ([46] : List UInt8), ([47, 42] : List UInt8), ([105, 116, 39, 115] : List UInt8), ([10, 128] : List UInt8), ([120, 111, 114] : List UInt8), ([109, 111, 100] : List UInt8), ([124] : List UInt8), ([42] : List UInt8), ([100, 121, 110, 97, 109, 105, 99] : List UInt8), ([64] : List UInt8), ([64, 64] : List UInt8), ([104, 101, 108, 108, 111, 95, 87, 111, 114, 108, 100] : List UInt8)]
def spec_l4name.f (x1 : GL4rd) : Option ((List UInt8) × GL4rd) := ((spec_l4rd_next_2.f x1).bind fun t18 => (if t18.1 < 180 then (if 0 ≤ (Int.tmod t18.1 6) then (if (Int.tmod t18.1 6) < (28 : Int) then (if (Lt3.getD (((Int.tmod t18.1 6)).toNat) ([] : List UInt8)).length ≤ 9223372036854775807 then some ((Lt3.getD (((Int.tmod t18.1 6)).toNat) ([] : List UInt8)), t18.2) else none) else none) else none) else (if 0 ≤ (Int.tmod t18.1 28) then (if (Int.tmod t18.1 28) < (28 : Int) then (if (Lt3.getD (((Int.tmod t18.1 28)).toNat) ([] : List UInt8)).length ≤ 9223372036854775807 then some ((Lt3.getD (((Int.tmod t18.1 28)).toNat) ([] : List UInt8)), t18.2) else none) else none) else none)))
theorem spec_l4name.calls {w : World} {H : Hp} (x1 : GL4rd) {g2 : Nat} {A4 : Option Addr} {c5 : Nat} (h6 : Rd tByte H A4 x1.b_) (l7 : x1.b_.length ≤ c5) (b3 : w.heap[g2]? = some (.cells #[.slice A4 x1.b_.length c5, .int .i64 x1.i_] 51 (0, 0))) (S : Own [(is g2)] H w) {r : (List UInt8) × GL4rd} (M : spec_l4name.f x1 = some r) :
  Calls Tryz.prog 48 #[.pointer (some ⟨g2, 0, none⟩)] w (fun e e_w => ∃ (A_1 : Option Addr) (c_1 : Nat) (A_2 : Option Addr) (c_2 : Nat) (F_1 : Foot) (H_ : Hp), e = .returned (.slice A_2 r.1.length c_2) ∧ Rd tByte H_ A_1 r.2.b_ ∧ r.2.b_.length ≤ c_1 ∧ e_w.heap[g2]? = some (.cells #[.slice A_1 r.2.b_.length c_1, .int .i64 r.2.i_] 51 (0, 0)) ∧ Row tByte 5 H_ (hp e_w) F_1 A_2 c_2 r.1 ∧ St (anyOf [(is g2)]) H w [(is g2), F_1] H_ e_w) := by
 rw [spec_l4name.f] at M
 refine enter (l := [.pointer (some ⟨g2, 0, none⟩)]) 22 func48 rfl rfl rfl ?_
 have S0_ := S.st
 refine wQ (wR (lP 1 (wN (tN (wQ (wR ?_))))))
 refine lW 5 (new_blk (v := fun g_ => .slice (some ⟨g_, 0, none⟩) 28 28) (cs := #[str ([97] : List UInt8), str ([102, 111, 111] : List UInt8), str ([98, 49] : List UInt8), str ([91, 93] : List UInt8), str ([45] : List UInt8), str ([43] : List UInt8), str ([61] : List UInt8), str ([58, 45] : List UInt8), str ([44] : List UInt8), str ([105, 115] : List UInt8), str ([] : List UInt8), str ([88, 32, 121] : List UInt8), str ([92, 43] : List UInt8), str ([123, 125] : List UInt8), str ([33] : List UInt8), str ([59] : List UInt8), str ([46] : List UInt8), str ([47, 42] : List UInt8), str ([105, 116, 39, 115] : List UInt8), str ([10, 128] : List UInt8), str ([120, 111, 114] : List UInt8), str ([109, 111, 100] : List UInt8), str ([124] : List UInt8), str ([42] : List UInt8), str ([100, 121, 110, 97, 109, 105, 99] : List UInt8), str ([64] : List UInt8), str ([64, 64] : List UInt8), str ([104, 101, 108, 108, 111, 95, 87, 111, 114, 108, 100] : List UInt8)]) (t := 9) S0_ kr) ?_
 rintro _ w8 ⟨g9, rfl, b10, S11, K12⟩
 replace b3 := K12.b 0 b3
 have S13 := S11.unit
 have S14 := S13.pulls [(is g9), no, (is g2)] [1] rfl
 obtain ⟨h15, S16⟩ := row_lit (d := tStr) (xs := Lt3) S14 b10 rfl (elsO_no (d := tStr) rfl (elsO_no (d := tStr) rfl (elsO_no (d := tStr) rfl (elsO_no (d := tStr) rfl (elsO_no (d := tStr) rfl (elsO_no (d := tStr) rfl (elsO_no (d := tStr) rfl (elsO_no (d := tStr) rfl (elsO_no (d := tStr) rfl (elsO_no (d := tStr) rfl (elsO_no (d := tStr) rfl (elsO_no (d := tStr) rfl (elsO_no (d := tStr) rfl (elsO_no (d := tStr) rfl (elsO_no (d := tStr) rfl (elsO_no (d := tStr) rfl (elsO_no (d := tStr) rfl (elsO_no (d := tStr) rfl (elsO_no (d := tStr) rfl (elsO_no (d := tStr) rfl (elsO_no (d := tStr) rfl (elsO_no (d := tStr) rfl (elsO_no (d := tStr) rfl (elsO_no (d := tStr) rfl (elsO_no (d := tStr) rfl (elsO_no (d := tStr) rfl (elsO_no (d := tStr) rfl (elsO_no (d := tStr) rfl (elsO_nil _ _ _ no))))))))))))))))))))))))))))) (Nat.le_of_ble_eq_true rfl)
 refine lP 1 (wN (tN (wQ (wR (lP 1 ?_)))))
 have S17 := S16.pulls [(is g2), (or2 (is g9) no)] [1] rfl
 obtain ⟨t18, u19, M⟩ := bnd M
 refine lC 7 (eE func18) (spec_l4rd_next_2.calls x1 h6 l7 b3 (St.own' (Fa := [(is g2)]) (Fr := [(or2 (is g9) no)]) S17) u19) ?_
 rintro _ w20 ⟨A23, c24, H21, rfl, h25, l26, b27, T22⟩
 refine ⟨_, rfl, ?_⟩
 obtain ⟨S28, K29⟩ := St.call (Fa := [(is g2)]) (Fr := [(or2 (is g9) no)]) S17 T22
 replace h15 := h15.move (K29.a 0)
 have E30 := T22.ext
 replace h15 := h15.ext E30
 refine lP 1 (wN (tN (wQ (wQ (wR (lP 2 (wN (tN ?_))))))))
 obtain ⟨q31, M⟩ | ⟨q31, M⟩ := ifc M
 ·refine cT (bT q31) (wQ (wR (lP 3 ?_)))
  obtain ⟨q32, M⟩ := chk M
  obtain ⟨q33, M⟩ := chk M
  obtain ⟨b34, e36⟩ := Row.addr h15 (show ((Int.tmod t18.1 6)).toNat < Lt3.length by have : Lt3.length = 28 := rfl; omega)
  refine lV 13 (eI b34 0 28 28 1 (Int.tmod t18.1 6) .i64 underlying66 e36 q32 q33) (lV 14 (eK underlying9 (hpx (Row.pick (j := 0) (u := str (Lt3.getD (((Int.tmod t18.1 6)).toNat) ([] : List UInt8))) h15 e36 (getD_some ([] : List UInt8) (show ((Int.tmod t18.1 6)).toNat < Lt3.length by have : Lt3.length = 28 := rfl; omega)) (fun _ _ o_ => by rw [show _ = _ from o_]; rfl)))) ?_)
  obtain ⟨q37, M⟩ := chk M
  refine lW 15 (e_conv_sb (xs := (Lt3.getD (((Int.tmod t18.1 6)).toNat) ([] : List UInt8))) S28 underlying9 underlying22 underlying5 kr q37) ?_
  rintro _ w38 ⟨A39, c40, F41, rfl, h42, S43, K44⟩
  replace b27 := K44.b 0 b27
  refine lP 1 (wN (tN (wT (tR ?_))))
  obtain rfl := sj M
  have S45 := S43.pulls [(is g2), F41, (or2 (is g9) no)] [1] rfl
  have S46 := St.first (Fa := [(is g2), F41]) (Fr := [(or2 (is g9) no)]) S45
  exact ret1 rfl rfl  kr ⟨A23, c24, A39, c40, F41, H21, rfl, h25, l26, b27, h42, S46⟩
 refine cF (bF q31) (wK (tN (wQ (wR (lP 3 ?_)))))
 obtain ⟨q47, M⟩ := chk M
 obtain ⟨q48, M⟩ := chk M
 obtain ⟨b49, e51⟩ := Row.addr h15 (show ((Int.tmod t18.1 28)).toNat < Lt3.length by have : Lt3.length = 28 := rfl; omega)
 refine lV 19 (eI b49 0 28 28 1 (Int.tmod t18.1 28) .i64 underlying66 e51 q47 q48) (lV 20 (eK underlying9 (hpx (Row.pick (j := 0) (u := str (Lt3.getD (((Int.tmod t18.1 28)).toNat) ([] : List UInt8))) h15 e51 (getD_some ([] : List UInt8) (show ((Int.tmod t18.1 28)).toNat < Lt3.length by have : Lt3.length = 28 := rfl; omega)) (fun _ _ o_ => by rw [show _ = _ from o_]; rfl)))) ?_)
 obtain ⟨q52, M⟩ := chk M
 refine lW 21 (e_conv_sb (xs := (Lt3.getD (((Int.tmod t18.1 28)).toNat) ([] : List UInt8))) S28 underlying9 underlying22 underlying5 kr q52) ?_
 rintro _ w53 ⟨A54, c55, F56, rfl, h57, S58, K59⟩
 replace b27 := K59.b 0 b27
 refine lP 1 (wN (tN (wT ?_)))
 obtain rfl := sj M
 have S60 := S58.pulls [(is g2), F56, (or2 (is g9) no)] [1] rfl
 have S61 := St.first (Fa := [(is g2), F56]) (Fr := [(or2 (is g9) no)]) S60
 exact ret1 rfl rfl  kr ⟨A23, c24, A54, c55, F56, H21, rfl, h25, l26, b27, h57, S61⟩
def spec_l4rd_left.f (x1 : GL4rd) : Option Int := some (i64.wrap ((x1.b_.length : Int) - x1.i_))
theorem spec_l4rd_left.calls {w : World} {H : Hp} (x1 : GL4rd) {g2 : Nat} {A4 : Option Addr} {c5 : Nat} (h6 : Rd tByte H A4 x1.b_) (l7 : x1.b_.length ≤ c5) (b3 : H g2 = some (.cells #[.slice A4 x1.b_.length c5, .int .i64 x1.i_] 51 (0, 0))) (S : Own [] H w) {r : Int} (M : spec_l4rd_left.f x1 = some r) :
  Calls Tryz.prog 52 #[.pointer (some ⟨g2, 0, none⟩)] w (fun e e_w => e = .returned (.int .i64 r) ∧ Chg no w e_w) := by
 rw [spec_l4rd_left.f] at M
 refine enter (l := [.pointer (some ⟨g2, 0, none⟩)]) 13 func52 rfl rfl rfl ?_
 have S0_ := S.st
 refine wQ (wR (lP 1 (wN (tN (wQ ?_)))))
 refine region_still kr kr S0_ ?_
 intro w8 S9 K10
 refine sP 3 (sV 6 (eB 0 (S9.inv _ _ b3)) (sP 4 (sV 11 (eB 1 (S9.inv _ _ b3)) (sP 2 (wpStill_nil (tN (wT ?_)))))))
 obtain rfl := sj M
 exact ret1 rfl rfl  kr ⟨rfl, S9.chg⟩
def sl70 : Ty (List Cell) := slice 70 st70 (by decide)
def spec_l2atom.f (x1 : List UInt8) : Option (List Cell) := (if x1.length ≤ 9223372036854775807 then some [(⟨2, 0, x1⟩ : Cell)] else none)
theorem spec_l2atom.calls {w : World} {H : Hp} {x1 : List UInt8} (S : Own [] H w) {r : List Cell} (M : spec_l2atom.f x1 = some r) :
  Calls Tryz.prog 24 #[str x1] w (fun e e_w => ∃ (A_1 : Option Addr) (c_1 : Nat) (F_1 : Foot) (H_ : Hp), e = .returned (.slice A_1 r.length c_1) ∧ Row st70 70 H_ (hp e_w) F_1 A_1 c_1 r ∧ St (anyOf []) H w [F_1] H_ e_w) := by
 rw [spec_l2atom.f] at M
 refine enter (l := [str x1]) 7 func24 rfl rfl rfl ?_
 have S0_ := S.st
 refine wQ (wR (lP 1 (wN (tN (wQ (wR (lP 1 ?_)))))))
 obtain ⟨q2, M⟩ := chk M
 refine lW 4 (e_conv_sb (xs := x1) S0_ underlying9 underlying22 underlying5 kr q2) ?_
 rintro _ w3 ⟨A4, c5, F6, rfl, h7, S8, K9⟩
 refine lP 1 ?_
 refine lW 6 (new_blk (v := fun g_ => .slice (some ⟨g_, 0, none⟩) 1 1) (cs := #[.int .i64 2, .int .i64 0, .slice A4 x1.length c5]) (t := 70) S8 kr) ?_
 rintro _ w10 ⟨g11, rfl, b12, S13, K14⟩
 replace h7 := h7.move (K14.a 0)
 have S16 := S13.pulls [(is g11), F6] [1, 1] rfl
 obtain ⟨h17, S18⟩ := row_lit (d := st70) (xs := [(⟨2, 0, x1⟩ : Cell)]) S16 b12 rfl (elsO_one1 (st70_mkO (x := (⟨2, 0, x1⟩ : Cell)) h7)) (Nat.le_of_ble_eq_true rfl)
 refine lP 1 (wN (tN (wT ?_)))
 obtain rfl := sj M
 exact ret1 rfl rfl  kr ⟨(some ⟨g11, 0, none⟩), 1, (or2 (is g11) F6), H, rfl, h17, S18⟩
def spec_l1copy.f (x1 : List UInt8) : Option (List UInt8) := (if 0 + x1.length ≤ 140737488355328 then some x1 else none)
theorem spec_l1copy.calls {w : World} {H : Hp} {x1 : List UInt8} {A2 : Option Addr} {c3 : Nat} (h4 : Rd tByte H A2 x1) (l5 : x1.length ≤ c3) (S : Own [] H w) {r : List UInt8} (M : spec_l1copy.f x1 = some r) :
  Calls Tryz.prog 35 #[.slice A2 x1.length c3] w (fun e e_w => ∃ (A_1 : Option Addr) (c_1 : Nat) (F_1 : Foot) (H_ : Hp), e = .returned (.slice A_1 r.length c_1) ∧ Row tByte 5 H_ (hp e_w) F_1 A_1 c_1 r ∧ St (anyOf []) H w [F_1] H_ e_w) := by
 rw [spec_l1copy.f] at M
 refine enter (l := [.slice A2 x1.length c3]) 7 func35 rfl rfl rfl ?_
 have S0_ := S.st
 refine wQ (wR (lP 1 (wN (tN (wQ (wR (lP 1 (wN (tN (wQ (wR (lP 2 ?_))))))))))))
 obtain ⟨y6, h7, h8⟩ := Rd.news (d := tByte) (ro_scal _ _) S0_ h4
 obtain ⟨q9, M⟩ := chk M
 have S10 := S0_.unit
 have S11 := S10.unit
 have S12 := S11.pulls [no, no] [1] rfl
 refine lW 6 (e_append (d := tByte) (n := 0) (xs := []) (cap := 0) (A := none) (ys := x1) (A2 := A2) (c2 := c3) (z := .int .u8 0) (bytes := 1) S12 underlying22 kr rfl (by decide) kr rfl kr (Row.nil _ _ _ _ no) h7 h8 (show (0 + x1.length) * 1 ≤ _ by first | omega | (simp only [List.length_cons, List.length_nil]; omega)) (by decide)) ?_
 rintro _ w13 ⟨A14, c15, F16, rfl, h17, S18, K19⟩
 replace h17 : Row tByte 5 H (hp w13) F16 A14 c15 x1 := h17
 refine lP 1 (wN (tN (wT ?_)))
 obtain rfl := sj M
 exact ret1 rfl rfl  kr ⟨A14, c15, F16, H, rfl, h17, S18⟩
def spec_l2copy.l0 : Nat → (List Cell) → (List Cell) → Int → Option (List Cell)
 | 0, _, _, _ => none
 | k21 + 1, x1, x10, x15 => (if x15 < (x1.length : Int) then (if 0 ≤ x15 then ((spec_l1copy.f ((x1.getD ((x15).toNat) z70).text)).bind fun t92 => (if x10.length + 1 ≤ 3518437208883 then (spec_l2copy.l0 k21 x1 (x10 ++ [(⟨(x1.getD ((x15).toNat) z70).kind, (x1.getD ((x15).toNat) z70).n, t92⟩ : Cell)]) (i64.wrap (x15 + 1))) else none)) else none) else some x10)
def spec_l2copy.f (k : Nat) (x1 : List Cell) : Option (List Cell) := (spec_l2copy.l0 k x1 [] 0)
theorem spec_l2copy.calls {k : Nat} {w : World} {H : Hp} {x1 : List Cell} {A2 : Option Addr} {c3 : Nat} (h4 : Rd st70 H A2 x1) (l5 : x1.length ≤ c3) (S : Own [] H w) {r : List Cell} (M : spec_l2copy.f k x1 = some r) :
  Calls Tryz.prog 73 #[.slice A2 x1.length c3] w (fun e e_w => ∃ (A_1 : Option Addr) (c_1 : Nat) (F_1 : Foot) (H_ : Hp), e = .returned (.slice A_1 r.length c_1) ∧ Row st70 70 H_ (hp e_w) F_1 A_1 c_1 r ∧ St (anyOf []) H w [F_1] H_ e_w) := by
 rw [spec_l2copy.f] at M
 refine enter (l := [.slice A2 x1.length c3]) 32 func73 rfl rfl rfl ?_
 have S0_ := S.st
 refine wQ (wR (lP 1 (wN (tN (wQ (wR (lP 1 (wN (tN (wQ (wQ (wR (lP 1 (wN (tN ?_)))))))))))))))
 refine wp_block ?_
 have S22 := S0_.unit
 refine wp_loop_g (fun k19 a20 w6 => ∃ (f7 : Nat → Value) (H8 : Hp) (x10 : List Cell) (A11 : Option Addr) (c12 : Nat) (F13 : Foot) (x15 : Int), a20 = mk 32 (upd (upd (upd f7 0 (.slice A2 x1.length c3)) 3 (.slice A11 x10.length c12)) 4 (.int .i64 x15)) ∧ Row st70 70 H8 (hp w6) F13 A11 c12 x10 ∧ Ext H H8 ∧ St (anyOf []) H w [F13] H8 w6 ∧ spec_l2copy.l0 k19 x1 x10 x15 = some r) k ⟨_, H, [], none, 0, no, 0, (hdw (hdc (hdc (hdc rfl kr) kr) kr)), (Row.nil _ _ _ _ _), (Ext.refl _), S22, M⟩ ?_
 clear M
 rintro k19 a20 w6 ⟨f7, H8, x10, A11, c12, F13, x15, rfl, h14, Y9, S16, M⟩
 rcases k19 with _ | k21
 ·rw [spec_l2copy.l0] at M
  cases M
 rw [spec_l2copy.l0] at M
 refine wQ (wQ (wR (lP 4 (wN (tN ?_)))))
 obtain ⟨q23, M⟩ | ⟨q23, M⟩ := ifd M
 ·refine cF (bF q23) (wp_exit (tE (tE (inb_hit (tN (wQ (wR (lP 2 (wN (tN (wT ?_)))))))))))
  obtain rfl := sj M
  exact ret1 rfl rfl  kr ⟨A11, c12, F13, H8, rfl, h14, S16⟩
 refine cT (bT q23) (wK (tN (wQ (wp_block ?_))))
 refine region_mix (S := (fun (L_ : Array Bool) (w_ : World) => Ext H8 (hp w_) ∧ True)) kr S16 ?_
 intro w24 S25 K26 hc27
 have hs28 : (fun (L_ : Array Bool) (w_ : World) => Ext H8 (hp w_) ∧ True) (Array.replicate 21 false) w24 := ⟨S25.inv, trivial⟩
 replace h14 := h14.move (K26.a 0)
 refine xV 0 11 rfl hc27 hs28 (fun L_ w_ hc_ hu_ hs_ => eM (.slice A11 x10.length c12)) ?_; intro hc29 hs30
 refine xV 1 12 rfl hc29 hs30 (fun L_ w_ hc_ hu_ hs_ => eM (.slice A2 x1.length c3)) ?_; intro hc31 hs32
 refine xV 2 13 rfl hc31 hs32 (fun L_ w_ hc_ hu_ hs_ => eM (.int .i64 x15)) ?_; intro hc33 hs34
 obtain ⟨q35, M⟩ := chk M
 obtain ⟨b36, o37, e38⟩ := Rd.addr h4 (show (x15).toNat < x1.length by omega)
 obtain ⟨y39, r40, k41⟩ := Rd.at h4 e38 (getD_some z70 (show (x15).toNat < x1.length by omega))
 obtain ⟨A42, c43, rfl, l44, h45⟩ := st70_open r40
 refine xV 3 14 rfl hc33 hs34 (fun L_ w_ hc_ hu_ hs_ => eJ underlying43 e38 q35 q23) ?_; intro hc46 hs47
 refine xV 4 15 rfl hc46 hs47 (fun L_ w_ hc_ hu_ hs_ => eD b36 (o37 + (x15 : Int).toNat * 3) 0 1 underlying70) ?_; intro hc48 hs49
 refine xV 5 16 rfl hc48 hs49 (fun L_ w_ hc_ hu_ hs_ => eK underlying3 (hpx (hs_.1.cell (Y9.cell (k41 0 _ rfl))))) ?_; intro hc50 hs51
 refine xV 6 17 rfl hc50 hs51 (fun L_ w_ hc_ hu_ hs_ => eM (.slice A2 x1.length c3)) ?_; intro hc52 hs53
 refine xV 7 18 rfl hc52 hs53 (fun L_ w_ hc_ hu_ hs_ => eM (.int .i64 x15)) ?_; intro hc54 hs55
 obtain ⟨b56, o57, e58⟩ := Rd.addr h4 (show (x15).toNat < x1.length by omega)
 obtain ⟨y59, r60, k61⟩ := Rd.at h4 e58 (getD_some z70 (show (x15).toNat < x1.length by omega))
 obtain ⟨A62, c63, rfl, l64, h65⟩ := st70_open r60
 refine xV 8 19 rfl hc54 hs55 (fun L_ w_ hc_ hu_ hs_ => eJ underlying43 e58 q35 q23) ?_; intro hc66 hs67
 refine xV 9 20 rfl hc66 hs67 (fun L_ w_ hc_ hu_ hs_ => eD b56 (o57 + (x15 : Int).toNat * 3) 1 1 underlying70) ?_; intro hc68 hs69
 refine xV 10 21 rfl hc68 hs69 (fun L_ w_ hc_ hu_ hs_ => eK underlying3 (hpx (hs_.1.cell (Y9.cell (k61 1 _ rfl))))) ?_; intro hc70 hs71
 refine xV 11 22 rfl hc70 hs71 (fun L_ w_ hc_ hu_ hs_ => eM (.slice A2 x1.length c3)) ?_; intro hc72 hs73
 refine xO 12 hc72 ?_
 refine yO 12 23 rfl hs73 (eM (.int .i64 x15)) ?_; intro hc74 hs75
 obtain ⟨b76, o77, e78⟩ := Rd.addr h4 (show (x15).toNat < x1.length by omega)
 obtain ⟨y79, r80, k81⟩ := Rd.at h4 e78 (getD_some z70 (show (x15).toNat < x1.length by omega))
 obtain ⟨A82, c83, rfl, l84, h85⟩ := st70_open r80
 refine xO 13 hc74 ?_
 refine yO 13 24 rfl hs75 (eJ underlying43 e78 q35 q23) ?_; intro hc86 hs87
 refine xO 14 hc86 ?_
 refine yO 14 25 rfl hs87 (eD b76 (o77 + (x15 : Int).toNat * 3) 2 1 underlying70) ?_; intro hc88 hs89
 refine xO 15 hc88 ?_
 refine yO 15 26 rfl hs89 (eK underlying22 (hpx (S25.inv.cell (Y9.cell (k81 2 _ rfl))))) ?_; intro hc90 hs91
 obtain ⟨t92, u93, M⟩ := bnd M
 refine xO 16 hc90 ?_
 refine yC 16 rfl (eE func35) (spec_l1copy.calls (h85.ext Y9) l84 (St.own' (Fa := []) (Fr := [F13]) S25) u93) ?_
 rintro hc101 _ w94 ⟨A97, c98, F100, H95, rfl, h99, T96⟩
 refine ⟨_, rfl, ?_⟩
 obtain ⟨S102, K103⟩ := St.call (Fa := []) (Fr := [F13]) S25 T96
 replace h14 := h14.move (K103.a 0)
 have E104 := T96.ext
 replace h14 := h14.ext E104
 refine ⟨⟨(Ext.trans E104 S102.inv), trivial⟩, fun hs105 => ?_⟩
 refine xO 17 hc101 ?_
 refine yO 17 28 rfl hs105 (show _ = Result.ok (Next.value (.agg #[.int .i64 ((x1.getD ((x15).toNat) z70).kind), .int .i64 ((x1.getD ((x15).toNat) z70).n), .slice A97 t92.length c98])) w94 from by kernel_rfl) ?_; intro hc106 hs107
 refine xO 18 hc106 ?_
 refine yE 18 29 rfl (new_blk (v := fun g_ => .slice (some ⟨g_, 0, none⟩) 1 1) (cs := #[.int .i64 ((x1.getD ((x15).toNat) z70).kind), .int .i64 ((x1.getD ((x15).toNat) z70).n), .slice A97 t92.length c98]) (t := 70) S102 kr) ?_
 rintro hc113 _ w108 ⟨g109, rfl, b110, S111, K112⟩
 replace h99 := h99.move (K112.a 0)
 replace h14 := h14.move (K112.a 1)
 refine ⟨⟨(Ext.trans E104 S111.inv), trivial⟩, fun hs114 => ?_⟩
 obtain ⟨q115, M⟩ := chk M
 have S117 := S111.pulls [F13, F100, (is g109)] [1, 2] rfl
 refine xO 19 hc113 ?_
 refine yE 19 30 rfl (e_append (d := st70) (n := x10.length) (xs := x10) (cap := c12) (A := A11) (ys := [(⟨(x1.getD ((x15).toNat) z70).kind, (x1.getD ((x15).toNat) z70).n, t92⟩ : Cell)]) (A2 := (some ⟨g109, 0, none⟩)) (c2 := 1) (z := .agg #[.int .i64 0, .int .i64 0, .slice none 0 0]) (bytes := 40) S117 underlying43 kr rfl (by decide) kr rfl kr h14 (elsO_one1 (st70_mkO (x := (⟨(x1.getD ((x15).toNat) z70).kind, (x1.getD ((x15).toNat) z70).n, t92⟩ : Cell)) h99)) (.inr (blk_news b110 rfl)) (show (x10.length + [(⟨(x1.getD ((x15).toNat) z70).kind, (x1.getD ((x15).toNat) z70).n, t92⟩ : Cell)].length) * 40 ≤ _ by first | omega | (simp only [List.length_cons, List.length_nil]; omega)) (by decide)) ?_
 rintro hc125 _ w118 ⟨A119, c120, F121, rfl, h122, S123, K124⟩
 refine ⟨⟨(Ext.trans E104 S123.inv), trivial⟩, fun hs126 => ?_⟩
 refine xO 20 hc125 ?_
 refine yO 20 3 rfl hs126 (eA (.slice A119 ((x10 ++ [(⟨(x1.getD ((x15).toNat) z70).kind, (x1.getD ((x15).toNat) z70).n, t92⟩ : Cell)]).length) c120)) ?_; intro hc127 hs128
 refine xn kr ?_ _
 refine inb_n (tN (wR (lP 3 (wN (tN ?_)))))
 have S129 := St.first (Fa := [F121]) (Fr := [(is g109)]) S123
 exact ⟨k21, (by omega), _, H95, (x10 ++ [(⟨(x1.getD ((x15).toNat) z70).kind, (x1.getD ((x15).toNat) z70).n, t92⟩ : Cell)]), A119, c120, F121, (i64.wrap (x15 + 1)), (hdw (hdc (hdc (hdc rfl kr) kr) kr)), h122, (Y9.trans E104), S129, M⟩
def spec_l2list.l0 : Nat → (List (List Cell)) → (List Cell) → (List Cell) → Int → Option (List Cell)
 | 0, _, _, _, _ => none
 | k26 + 1, x1, x6, x15, x20 => (if x20 < (x1.length : Int) then (if x15.length + 1 ≤ 3518437208883 then (if 0 ≤ x20 then ((spec_l2copy.f k26 (x1.getD ((x20).toNat) ([] : List Cell))).bind fun t64 => (if (x15 ++ [(⟨3, 2, [(46 : UInt8)]⟩ : Cell)]).length + t64.length ≤ 3518437208883 then (spec_l2list.l0 k26 x1 x6 ((x15 ++ [(⟨3, 2, [(46 : UInt8)]⟩ : Cell)]) ++ t64) (i64.wrap (x20 + 1))) else none)) else none) else none) else ((spec_l2copy.f k26 x6).bind fun t89 => (if x15.length + t89.length ≤ 3518437208883 then some (x15 ++ t89) else none)))
def spec_l2list.f (k : Nat) (x1 : List (List Cell)) (x6 : List Cell) : Option (List Cell) := (spec_l2list.l0 k x1 x6 [] 0)
theorem spec_l2list.calls {k : Nat} {w : World} {H : Hp} {x1 : List (List Cell)} {A2 : Option Addr} {c3 : Nat} {x6 : List Cell} {A7 : Option Addr} {c8 : Nat} (h4 : Rd sl70 H A2 x1) (l5 : x1.length ≤ c3) (h9 : Rd st70 H A7 x6) (l10 : x6.length ≤ c8) (S : Own [] H w) {r : List Cell} (M : spec_l2list.f k x1 x6 = some r) :
  Calls Tryz.prog 56 #[.slice A2 x1.length c3, .slice A7 x6.length c8] w (fun e e_w => ∃ (A_1 : Option Addr) (c_1 : Nat) (F_1 : Foot) (H_ : Hp), e = .returned (.slice A_1 r.length c_1) ∧ Row st70 70 H_ (hp e_w) F_1 A_1 c_1 r ∧ St (anyOf []) H w [F_1] H_ e_w) := by
 rw [spec_l2list.f] at M
 refine enter (l := [.slice A2 x1.length c3, .slice A7 x6.length c8]) 30 func56 rfl rfl rfl ?_
 have S0_ := S.st
 refine wQ (wR (lP 1 (wN (tN (wQ (wR (lP 1 (wN (tN (wQ (wQ (wR (lP 1 (wN (tN ?_)))))))))))))))
 refine wp_block ?_
 have S27 := S0_.unit
 refine wp_loop_g (fun k24 a25 w11 => ∃ (f12 : Nat → Value) (H13 : Hp) (x15 : List Cell) (A16 : Option Addr) (c17 : Nat) (F18 : Foot) (x20 : Int), a25 = mk 30 (upd (upd (upd (upd f12 0 (.slice A2 x1.length c3)) 1 (.slice A7 x6.length c8)) 5 (.slice A16 x15.length c17)) 6 (.int .i64 x20)) ∧ Row st70 70 H13 (hp w11) F18 A16 c17 x15 ∧ Ext H H13 ∧ St (anyOf []) H w [F18] H13 w11 ∧ spec_l2list.l0 k24 x1 x6 x15 x20 = some r) k ⟨_, H, [], none, 0, no, 0, (hdw (hdc (hdc (hdc (hdc rfl kr) kr) kr) kr)), (Row.nil _ _ _ _ _), (Ext.refl _), S27, M⟩ ?_
 clear M
 rintro k24 a25 w11 ⟨f12, H13, x15, A16, c17, F18, x20, rfl, h19, Y14, S21, M⟩
 rcases k24 with _ | k26
 ·rw [spec_l2list.l0] at M
  cases M
 rw [spec_l2list.l0] at M
 refine wQ (wQ (wR (lP 4 (wN (tN ?_)))))
 obtain ⟨q28, M⟩ | ⟨q28, M⟩ := ifd M
 ·refine cF (bF q28) (wp_exit (tE (tE (inb_hit (tN (wQ (wR (lP 2 ?_))))))))
  obtain ⟨t89, u90, M⟩ := bnd M
  refine lC 28 (eE func73) (spec_l2copy.calls (h9.ext Y14) l10 (St.own' (Fa := []) (Fr := [F18]) S21) u90) ?_
  rintro _ w91 ⟨A94, c95, F97, H92, rfl, h96, T93⟩
  refine ⟨_, rfl, ?_⟩
  obtain ⟨S98, K99⟩ := St.call (Fa := []) (Fr := [F18]) S21 T93
  replace h19 := h19.move (K99.a 0)
  have E100 := T93.ext
  replace h19 := h19.ext E100
  obtain ⟨y101, h102, h103⟩ := Row.news h96
  obtain ⟨q104, M⟩ := chk M
  have S105 := S98.pulls [F18, F97] [1] rfl
  refine lW 29 (e_append (d := st70) (n := x15.length) (xs := x15) (cap := c17) (A := A16) (ys := t89) (A2 := A94) (c2 := c95) (z := .agg #[.int .i64 0, .int .i64 0, .slice none 0 0]) (bytes := 40) S105 underlying43 kr rfl (by decide) kr rfl kr h19 h102 h103 (show (x15.length + t89.length) * 40 ≤ _ by first | omega | (simp only [List.length_cons, List.length_nil]; omega)) (by decide)) ?_
  rintro _ w106 ⟨A107, c108, F109, rfl, h110, S111, K112⟩
  refine lP 1 (wN (tN (wT ?_)))
  obtain rfl := sj M
  exact ret1 rfl rfl  kr ⟨A107, c108, F109, H92, rfl, h110, S111⟩
 refine cT (bT q28) (wK (tN (wQ (wp_block (wQ (wR (lP 1 ?_)))))))
 refine lW 14 (new_blk (v := fun g_ => .slice (some ⟨g_, 0, none⟩) 1 1) (cs := #[.int .u8 46]) (t := 5) S21 kr) ?_
 rintro _ w29 ⟨g30, rfl, b31, S32, K33⟩
 replace h19 := h19.move (K33.a 0)
 refine lW 15 (e_conv_lit (g := g30) (n := 1) (cur := #[.int .u8 46]) (xs := [(46 : UInt8)]) S32 b31 underlying22 underlying5 kr rfl rfl (by decide)) ?_
 rintro _ w34 ⟨rfl, h35, S36, K37⟩
 replace h19 := h19.move (K37.a 0)
 clear b31
 refine lP 1 ?_
 refine lW 17 (new_blk (v := fun g_ => .slice (some ⟨g_, 0, none⟩) 1 1) (cs := #[.int .i64 3, .int .i64 2, .slice (some ⟨g30, 0, none⟩) 1 1]) (t := 70) S36 kr) ?_
 rintro _ w38 ⟨g39, rfl, b40, S41, K42⟩
 replace h35 := h35.move (K42.a 0)
 replace h19 := h19.move (K42.a 1)
 obtain ⟨q43, M⟩ := chk M
 have S45 := S41.pulls [F18, (is g30), (is g39)] [1, 2] rfl
 refine lW 18 (e_append (d := st70) (n := x15.length) (xs := x15) (cap := c17) (A := A16) (ys := [(⟨3, 2, [(46 : UInt8)]⟩ : Cell)]) (A2 := (some ⟨g39, 0, none⟩)) (c2 := 1) (z := .agg #[.int .i64 0, .int .i64 0, .slice none 0 0]) (bytes := 40) S45 underlying43 kr rfl (by decide) kr rfl kr h19 (elsO_one1 (st70_mkO (x := (⟨3, 2, [(46 : UInt8)]⟩ : Cell)) h35)) (.inr (blk_news b40 rfl)) (show (x15.length + [(⟨3, 2, [(46 : UInt8)]⟩ : Cell)].length) * 40 ≤ _ by first | omega | (simp only [List.length_cons, List.length_nil]; omega)) (by decide)) ?_
 rintro _ w46 ⟨A47, c48, F49, rfl, h50, S51, K52⟩
 refine lP 1 (wN (tN (wR (lP 3 ?_))))
 obtain ⟨q53, M⟩ := chk M
 obtain ⟨b54, o55, e56⟩ := Rd.addr h4 (show (x20).toNat < x1.length by omega)
 obtain ⟨y57, r58, k59⟩ := Rd.at h4 e56 (getD_some ([] : List Cell) (show (x20).toNat < x1.length by omega))
 obtain ⟨A60, c61, rfl, l62, h63⟩ := r58
 refine lV 22 (eJ underlying71 e56 q53 q28) (lV 23 (eK underlying43 (hpx (S51.inv.cell (Y14.cell (k59 0 _ rfl))))) ?_)
 obtain ⟨t64, u65, M⟩ := bnd M
 refine lC 24 (eE func73) (spec_l2copy.calls (h63.ext Y14) l62 (St.own' (Fa := []) (Fr := [F49, (is g39)]) S51) u65) ?_
 rintro _ w66 ⟨A69, c70, F72, H67, rfl, h71, T68⟩
 refine ⟨_, rfl, ?_⟩
 obtain ⟨S73, K74⟩ := St.call (Fa := []) (Fr := [F49, (is g39)]) S51 T68
 replace h50 := h50.move (K74.a 0)
 have E75 := T68.ext
 replace h50 := h50.ext E75
 obtain ⟨y76, h77, h78⟩ := Row.news h71
 obtain ⟨q79, M⟩ := chk M
 have S80 := S73.pulls [F49, F72, (is g39)] [1] rfl
 refine lW 25 (e_append (d := st70) (n := (x15 ++ [(⟨3, 2, [(46 : UInt8)]⟩ : Cell)]).length) (xs := (x15 ++ [(⟨3, 2, [(46 : UInt8)]⟩ : Cell)])) (cap := c48) (A := A47) (ys := t64) (A2 := A69) (c2 := c70) (z := .agg #[.int .i64 0, .int .i64 0, .slice none 0 0]) (bytes := 40) S80 underlying43 kr rfl (by decide) kr rfl kr h50 h77 h78 (show ((x15 ++ [(⟨3, 2, [(46 : UInt8)]⟩ : Cell)]).length + t64.length) * 40 ≤ _ by first | omega | (simp only [List.length_cons, List.length_nil]; omega)) (by decide)) ?_
 rintro _ w81 ⟨A82, c83, F84, rfl, h85, S86, K87⟩
 refine lP 1 (wN (inb_n (tN (wR (lP 3 (wN (tN ?_)))))))
 have S88 := St.first (Fa := [F84]) (Fr := [(is g39)]) S86
 exact ⟨k26, (by omega), _, H67, ((x15 ++ [(⟨3, 2, [(46 : UInt8)]⟩ : Cell)]) ++ t64), A82, c83, F84, (i64.wrap (x20 + 1)), (hdw (hdc (hdc (hdc (hdc rfl kr) kr) kr) kr)), h85, (Y14.trans E75), S88, M⟩
def spec_l2comp.l0 : Nat → (List (List Cell)) → (List Cell) → Int → Option (List Cell)
 | 0, _, _, _ => none
 | k39 + 1, x2, x28, x33 => (if x33 < (x2.length : Int) then (if 0 ≤ x33 then ((spec_l2copy.f k39 (x2.getD ((x33).toNat) ([] : List Cell))).bind fun t52 => (if x28.length + t52.length ≤ 3518437208883 then (spec_l2comp.l0 k39 x2 (x28 ++ t52) (i64.wrap (x33 + 1))) else none)) else none) else some x28)
def spec_l2comp.f (k : Nat) (x1 : List UInt8) (x2 : List (List Cell)) : Option (List Cell) := (if x1.length ≤ 9223372036854775807 then (spec_l2comp.l0 k x2 [(⟨3, (x2.length : Int), x1⟩ : Cell)] 0) else none)
theorem spec_l2comp.calls {k : Nat} {w : World} {H : Hp} {x1 : List UInt8} {x2 : List (List Cell)} {A3 : Option Addr} {c4 : Nat} (h5 : Rd sl70 H A3 x2) (l6 : x2.length ≤ c4) (S : Own [] H w) {r : List Cell} (M : spec_l2comp.f k x1 x2 = some r) :
  Calls Tryz.prog 58 #[str x1, .slice A3 x2.length c4] w (fun e e_w => ∃ (A_1 : Option Addr) (c_1 : Nat) (F_1 : Foot) (H_ : Hp), e = .returned (.slice A_1 r.length c_1) ∧ Row st70 70 H_ (hp e_w) F_1 A_1 c_1 r ∧ St (anyOf []) H w [F_1] H_ e_w) := by
 rw [spec_l2comp.f] at M
 refine enter (l := [str x1, .slice A3 x2.length c4]) 27 func58 rfl rfl rfl ?_
 have S0_ := S.st
 refine wQ (wR (lP 1 (wN (tN (wQ (wR (lP 3 ?_)))))))
 obtain ⟨q7, M⟩ := chk M
 refine lW 10 (e_conv_sb (xs := x1) S0_ underlying9 underlying22 underlying5 kr q7) ?_
 rintro _ w8 ⟨A9, c10, F11, rfl, h12, S13, K14⟩
 refine lP 1 ?_
 refine lW 12 (new_blk (v := fun g_ => .slice (some ⟨g_, 0, none⟩) 1 1) (cs := #[.int .i64 3, .int .i64 (x2.length : Int), .slice A9 x1.length c10]) (t := 70) S13 kr) ?_
 rintro _ w15 ⟨g16, rfl, b17, S18, K19⟩
 replace h12 := h12.move (K19.a 0)
 have S21 := S18.pulls [(is g16), F11] [1, 1] rfl
 obtain ⟨h22, S23⟩ := row_lit (d := st70) (xs := [(⟨3, (x2.length : Int), x1⟩ : Cell)]) S21 b17 rfl (elsO_one1 (st70_mkO (x := (⟨3, (x2.length : Int), x1⟩ : Cell)) h12)) (Nat.le_of_ble_eq_true rfl)
 refine lP 1 (wN (tN (wQ (wQ (wR (lP 1 (wN (tN (wp_block ?_)))))))))
 refine wp_loop_g (fun k37 a38 w24 => ∃ (f25 : Nat → Value) (H26 : Hp) (x28 : List Cell) (A29 : Option Addr) (c30 : Nat) (F31 : Foot) (x33 : Int), a38 = mk 27 (upd (upd (upd f25 1 (.slice A3 x2.length c4)) 5 (.slice A29 x28.length c30)) 6 (.int .i64 x33)) ∧ Row st70 70 H26 (hp w24) F31 A29 c30 x28 ∧ Ext H H26 ∧ St (anyOf []) H w [F31] H26 w24 ∧ spec_l2comp.l0 k37 x2 x28 x33 = some r) k ⟨_, H, [(⟨3, (x2.length : Int), x1⟩ : Cell)], (some ⟨g16, 0, none⟩), 1, (or2 (is g16) F11), 0, (hdw (hdc (hdc (hdc rfl kr) kr) kr)), h22, (Ext.refl _), S23, M⟩ ?_
 clear M
 rintro k37 a38 w24 ⟨f25, H26, x28, A29, c30, F31, x33, rfl, h32, Y27, S34, M⟩
 rcases k37 with _ | k39
 ·rw [spec_l2comp.l0] at M
  cases M
 rw [spec_l2comp.l0] at M
 refine wQ (wQ (wR (lP 4 (wN (tN ?_)))))
 obtain ⟨q40, M⟩ | ⟨q40, M⟩ := ifd M
 ·refine cF (bF q40) (wp_exit (tE (tE (inb_hit (tN (wQ (wR (lP 2 (wN (tN (wT ?_)))))))))))
  obtain rfl := sj M
  exact ret1 rfl rfl  kr ⟨A29, c30, F31, H26, rfl, h32, S34⟩
 refine cT (bT q40) (wK (tN (wQ (wp_block (wR (lP 3 ?_))))))
 obtain ⟨q41, M⟩ := chk M
 obtain ⟨b42, o43, e44⟩ := Rd.addr h5 (show (x33).toNat < x2.length by omega)
 obtain ⟨y45, r46, k47⟩ := Rd.at h5 e44 (getD_some ([] : List Cell) (show (x33).toNat < x2.length by omega))
 obtain ⟨A48, c49, rfl, l50, h51⟩ := r46
 refine lV 22 (eJ underlying71 e44 q41 q40) (lV 23 (eK underlying43 (hpx (S34.inv.cell (Y27.cell (k47 0 _ rfl))))) ?_)
 obtain ⟨t52, u53, M⟩ := bnd M
 refine lC 24 (eE func73) (spec_l2copy.calls (h51.ext Y27) l50 (St.own' (Fa := []) (Fr := [F31]) S34) u53) ?_
 rintro _ w54 ⟨A57, c58, F60, H55, rfl, h59, T56⟩
 refine ⟨_, rfl, ?_⟩
 obtain ⟨S61, K62⟩ := St.call (Fa := []) (Fr := [F31]) S34 T56
 replace h32 := h32.move (K62.a 0)
 have E63 := T56.ext
 replace h32 := h32.ext E63
 obtain ⟨y64, h65, h66⟩ := Row.news h59
 obtain ⟨q67, M⟩ := chk M
 have S68 := S61.pulls [F31, F60] [1] rfl
 refine lW 25 (e_append (d := st70) (n := x28.length) (xs := x28) (cap := c30) (A := A29) (ys := t52) (A2 := A57) (c2 := c58) (z := .agg #[.int .i64 0, .int .i64 0, .slice none 0 0]) (bytes := 40) S68 underlying43 kr rfl (by decide) kr rfl kr h32 h65 h66 (show (x28.length + t52.length) * 40 ≤ _ by first | omega | (simp only [List.length_cons, List.length_nil]; omega)) (by decide)) ?_
 rintro _ w69 ⟨A70, c71, F72, rfl, h73, S74, K75⟩
 refine lP 1 (wN (inb_n (tN (wR (lP 3 (wN (tN ?_)))))))
 exact ⟨k39, (by omega), _, H55, (x28 ++ t52), A70, c71, F72, (i64.wrap (x33 + 1)), (hdw (hdc (hdc (hdc rfl kr) kr) kr)), h73, (Y27.trans E63), S74, M⟩
def spec_l2pair.f (k : Nat) (x1 : List UInt8) (x2 : List Cell) (x7 : List Cell) : Option (List Cell) := ((spec_l2comp.f k x1 [x2, x7]).bind fun t27 => some t27)
theorem spec_l2pair.calls {k : Nat} {w : World} {H : Hp} {x1 : List UInt8} {x2 : List Cell} {A3 : Option Addr} {c4 : Nat} {x7 : List Cell} {A8 : Option Addr} {c9 : Nat} (h5 : Rd st70 H A3 x2) (l6 : x2.length ≤ c4) (h10 : Rd st70 H A8 x7) (l11 : x7.length ≤ c9) (S : Own [] H w) {r : List Cell} (M : spec_l2pair.f k x1 x2 x7 = some r) :
  Calls Tryz.prog 57 #[str x1, .slice A3 x2.length c4, .slice A8 x7.length c9] w (fun e e_w => ∃ (A_1 : Option Addr) (c_1 : Nat) (F_1 : Foot) (H_ : Hp), e = .returned (.slice A_1 r.length c_1) ∧ Row st70 70 H_ (hp e_w) F_1 A_1 c_1 r ∧ St (anyOf []) H w [F_1] H_ e_w) := by
 rw [spec_l2pair.f] at M
 refine enter (l := [str x1, .slice A3 x2.length c4, .slice A8 x7.length c9]) 12 func57 rfl rfl rfl ?_
 have S0_ := S.st
 refine wQ (wR (lP 1 (wN (tN (wQ (wR (lP 3 ?_)))))))
 refine lW 10 (new_blk (v := fun g_ => .slice (some ⟨g_, 0, none⟩) 2 2) (cs := #[.slice A3 x2.length c4, .slice A8 x7.length c9]) (t := 43) S0_ kr) ?_
 rintro _ w12 ⟨g13, rfl, b14, S15, K16⟩
 have S17 := S15.unit
 have S18 := S17.pulls [(is g13), no] [1] rfl
 obtain ⟨h19, S20⟩ := row_lit (d := (ro sl70)) (xs := [x2, x7]) S18 b14 rfl (elsO_no (d := (ro sl70)) ⟨A3, c4, rfl, l6, h5⟩ (elsO_no (d := (ro sl70)) ⟨A8, c9, rfl, l11, h10⟩ (elsO_nil _ _ _ no))) (Nat.le_of_ble_eq_true rfl)
 have l21 := h19.le
 obtain ⟨H22, S23, E24, h25, z26⟩ := S20.frzRow h19
 replace h25 := h25.unro
 obtain ⟨t27, u28, M⟩ := bnd M
 refine lC 11 (eE func58) (spec_l2comp.calls h25 l21 (St.own' (Fa := []) (Fr := []) S23) u28) ?_
 rintro _ w29 ⟨A32, c33, F35, H30, rfl, h34, T31⟩
 refine ⟨_, rfl, ?_⟩
 obtain ⟨S36, K37⟩ := St.call (Fa := []) (Fr := []) S23 T31
 have E38 := T31.ext
 refine lP 1 (wN (tN (wT ?_)))
 obtain rfl := sj M
 exact ret1 rfl rfl  kr ⟨A32, c33, F35, H30, rfl, h34, S36⟩
def Lt4 : List (List UInt8) := [([45] : List UInt8), ([43] : List UInt8), ([61] : List UInt8), ([44] : List UInt8), ([58, 45] : List UInt8), ([59] : List UInt8), ([45, 62] : List UInt8), ([105, 115] : List UInt8), ([94] : List UInt8), ([42, 42] : List UInt8), ([42] : List UInt8), ([64, 64] : List UInt8), ([109, 111, 100] : List UInt8), ([102] : List UInt8), ([45, 45, 62] : List UInt8), ([114] : List UInt8), ([113] : List UInt8)]
def Lt5 : List (List UInt8) := [([45] : List UInt8), ([92, 43] : List UInt8), ([58, 45] : List UInt8), ([43] : List UInt8), ([123, 125] : List UInt8), ([100, 121, 110, 97, 109, 105, 99] : List UInt8), ([103] : List UInt8), ([92] : List UInt8), ([112] : List UInt8), ([64, 64] : List UInt8), ([91, 93] : List UInt8), ([33] : List UInt8)]
mutual
def spec_l4term.l0 : Nat → Int → (Int × GL4rd) → (List (List Cell)) → Int → (List UInt8) → Int → Option ((List Cell) × GL4rd)
 | 0, _, _, _, _, _, _ => none
 | k301 + 1, x8, t9, x284, x289, x290, x295 => (if x289 < (i64.wrap (1 + (Int.tmod t9.1 3))) then ((spec_l4term.f k301 (⟨x290, x295⟩ : GL4rd) (i64.wrap (x8 - 1))).bind fun t305 => (if x284.length + 1 ≤ 5864062014805 then (spec_l4term.l0 k301 x8 t9 (x284 ++ [t305.1]) (i64.wrap (x289 + 1)) t305.2.b_ t305.2.i_) else none)) else ((spec_l2atom.f ([91, 93] : List UInt8)).bind fun t339 => (if (Int.tmod t9.1 4) = 0 then ((spec_l4term.f k301 (⟨x290, x295⟩ : GL4rd) (i64.wrap (x8 - 2))).bind fun t374 => (spec_l4term.l1 k301 x284 t374.1 t374.2.b_ t374.2.i_)) else (spec_l4term.l1 k301 x284 t339 x290 x295))))
def spec_l4term.l1 : Nat → (List (List Cell)) → (List Cell) → (List UInt8) → Int → Option ((List Cell) × GL4rd)
 | 0, _, _, _, _ => none
 | k370 + 1, x284, x355, x360, x365 => ((spec_l2list.f k370 x284 x355).bind fun t411 => some (t411, (⟨x360, x365⟩ : GL4rd)))
def spec_l4term.l2 : Nat → Int → (Int × GL4rd) → (List (List Cell)) → Int → (List UInt8) → Int → Option ((List Cell) × GL4rd)
 | 0, _, _, _, _, _, _ => none
 | k682 + 1, x8, t9, x665, x670, x671, x676 => (if x670 < (i64.wrap (1 + (Int.tmod t9.1 4))) then ((spec_l4term.f k682 (⟨x671, x676⟩ : GL4rd) (i64.wrap (x8 - 1))).bind fun t687 => (if x665.length + 1 ≤ 5864062014805 then (spec_l4term.l2 k682 x8 t9 (x665 ++ [t687.1]) (i64.wrap (x670 + 1)) t687.2.b_ t687.2.i_) else none)) else ((spec_l4name.f (⟨x671, x676⟩ : GL4rd)).bind fun t721 => ((spec_l2comp.f k682 t721.1 x665).bind fun t745 => some (t745, t721.2))))
def spec_l4term.f : Nat → GL4rd → Int → Option ((List Cell) × GL4rd)
 | 0, _, _ => none
 | k1_ + 1, x1, x8 => ((spec_l4rd_next_2.f x1).bind fun t9 => (if x8 ≤ 0 then (if (Int.tmod t9.1 5) = 0 then ((spec_l4int_2.f t9.2).bind fun t24 => ((spec_l2num.f t24.1).bind fun t37 => some (t37, t24.2))) else (if (Int.tmod t9.1 5) < 3 then ((spec_l4rd_next_2.f t9.2).bind fun t51 => ((spec_l2var.f (Int.tmod t51.1 5)).bind fun t64 => some (t64, t51.2))) else ((spec_l4name.f t9.2).bind fun t77 => some ([(⟨2, 0, t77.1⟩ : Cell)], t77.2)))) else ((spec_l4rd_left.f t9.2).bind fun t104 => (if t104 = 0 then (if (Int.tmod t9.1 5) = 0 then ((spec_l4int_2.f t9.2).bind fun t117 => ((spec_l2num.f t117.1).bind fun t130 => some (t130, t117.2))) else (if (Int.tmod t9.1 5) < 3 then ((spec_l4rd_next_2.f t9.2).bind fun t144 => ((spec_l2var.f (Int.tmod t144.1 5)).bind fun t157 => some (t157, t144.2))) else ((spec_l4name.f t9.2).bind fun t170 => some ([(⟨2, 0, t170.1⟩ : Cell)], t170.2)))) else (if t9.1 < 50 then (if (Int.tmod t9.1 5) = 0 then ((spec_l4int_2.f t9.2).bind fun t199 => ((spec_l2num.f t199.1).bind fun t212 => some (t212, t199.2))) else (if (Int.tmod t9.1 5) < 3 then ((spec_l4rd_next_2.f t9.2).bind fun t226 => ((spec_l2var.f (Int.tmod t226.1 5)).bind fun t239 => some (t239, t226.2))) else ((spec_l4name.f t9.2).bind fun t252 => some ([(⟨2, 0, t252.1⟩ : Cell)], t252.2)))) else (if t9.1 < 90 then (spec_l4term.l0 k1_ x8 t9 [] 0 t9.2.b_ t9.2.i_) else (if t9.1 < 180 then ((spec_l4rd_next_2.f t9.2).bind fun t467 => (if 0 ≤ (Int.tmod t467.1 17) then (if (Int.tmod t467.1 17) < (17 : Int) then ((spec_l4term.f k1_ t467.2 (i64.wrap (x8 - 1))).bind fun t493 => ((spec_l4term.f k1_ t493.2 (i64.wrap (x8 - 1))).bind fun t512 => ((spec_l2pair.f k1_ (Lt4.getD (((Int.tmod t467.1 17)).toNat) ([] : List UInt8)) t493.1 t512.1).bind fun t545 => some (t545, t512.2)))) else none) else none)) else (if t9.1 < 230 then ((spec_l4rd_next_2.f t9.2).bind fun t581 => (if 0 ≤ (Int.tmod t581.1 12) then (if (Int.tmod t581.1 12) < (12 : Int) then ((spec_l4term.f k1_ t581.2 (i64.wrap (x8 - 1))).bind fun t607 => ((spec_l2comp.f k1_ (Lt5.getD (((Int.tmod t581.1 12)).toNat) ([] : List UInt8)) [t607.1]).bind fun t643 => some (t643, t607.2))) else none) else none)) else (spec_l4term.l2 k1_ x8 t9 [] 0 t9.2.b_ t9.2.i_)))))))))
end
theorem spec_l4term.all : ∀ (K : Nat), (∀ (k : Nat), k < K → ∀ (w : World) (H : Hp) (x1 : GL4rd) (g2 : Nat) (A4 : Option Addr) (c5 : Nat) (x8 : Int) (h6 : Rd tByte H A4 x1.b_) (l7 : x1.b_.length ≤ c5) (b3 : w.heap[g2]? = some (.cells #[.slice A4 x1.b_.length c5, .int .i64 x1.i_] 51 (0, 0))) (S : Own [(is g2)] H w) (r : (List Cell) × GL4rd) (M : spec_l4term.f k x1 x8 = some r), Calls Tryz.prog 22 #[.pointer (some ⟨g2, 0, none⟩), .int .i64 x8] w (fun e e_w => ∃ (A_1 : Option Addr) (c_1 : Nat) (A_2 : Option Addr) (c_2 : Nat) (F_1 : Foot) (H_ : Hp), e = .returned (.slice A_2 r.1.length c_2) ∧ Rd tByte H_ A_1 r.2.b_ ∧ r.2.b_.length ≤ c_1 ∧ e_w.heap[g2]? = some (.cells #[.slice A_1 r.2.b_.length c_1, .int .i64 r.2.i_] 51 (0, 0)) ∧ Row st70 70 H_ (hp e_w) F_1 A_2 c_2 r.1 ∧ St (anyOf [(is g2)]) H w [(is g2), F_1] H_ e_w)) := by
 intro K
 induction K with
 | zero => intro k hk; omega
 | succ K ih =>
  intro k hk w H x1 g2 A4 c5 x8 h6 l7 b3 S r M
  rcases k with _ | k1_
  ·rw [spec_l4term.f] at M
   cases M
  rw [spec_l4term.f] at M
  refine enter (l := [.pointer (some ⟨g2, 0, none⟩), .int .i64 x8]) 126 func22 rfl rfl rfl ?_
  have S0_ := S.st
  refine wQ (wR (lP 1 (wN (tN (wQ (wR (lP 1 ?_)))))))
  obtain ⟨t9, u10, M⟩ := bnd M
  refine lC 16 (eE func18) (spec_l4rd_next_2.calls x1 h6 l7 b3 (St.own' (Fa := [(is g2)]) (Fr := []) S0_) u10) ?_
  rintro _ w11 ⟨A14, c15, H12, rfl, h16, l17, b18, T13⟩
  refine ⟨_, rfl, ?_⟩
  obtain ⟨S19, K20⟩ := St.call (Fa := [(is g2)]) (Fr := []) S0_ T13
  have E21 := T13.ext
  refine lP 1 (wN (tN (wQ (wQ (wR (lP 3 ?_))))))
  obtain ⟨q22, M⟩ | ⟨q22, M⟩ := ifc M
  ·refine lP1 8 19 (bT q22) (wN (tN (cond_t rfl kr (wQ (wQ (wR (lP 3 (wN (tN ?_)))))))))
   obtain ⟨q23, M⟩ | ⟨q23, M⟩ := ifc M
   ·refine cT (bT q23) (wQ (wR (lP 1 ?_)))
    obtain ⟨t24, u25, M⟩ := bnd M
    refine lC 32 (eE func54) (spec_l4int_2.calls t9.2 h16 l17 b18 (St.own' (Fa := [(is g2)]) (Fr := []) S19) u25) ?_
    rintro _ w26 ⟨A29, c30, H27, rfl, h31, l32, b33, T28⟩
    refine ⟨_, rfl, ?_⟩
    obtain ⟨S34, K35⟩ := St.call (Fa := [(is g2)]) (Fr := []) S19 T28
    have E36 := T28.ext
    obtain ⟨t37, u38, M⟩ := bnd M
    refine lC 33 (eE func53) (spec_l2num.calls  (St.own' (Fa := []) (Fr := [(is g2)]) S34) u38) ?_
    rintro _ w39 ⟨A42, c43, F45, H40, rfl, h44, T41⟩
    refine ⟨_, rfl, ?_⟩
    obtain ⟨S46, K47⟩ := St.call (Fa := []) (Fr := [(is g2)]) S34 T41
    replace b33 := K47.b 0 b33
    have E48 := T41.ext
    refine lP 1 (wN (tN (wT (tR (tR ?_)))))
    obtain rfl := sj M
    have S49 := S46.pulls [(is g2), F45] [1] rfl
    exact ret1 rfl rfl  kr ⟨A29, c30, A42, c43, F45, H40, rfl, (h31.ext E48), l32, b33, h44, S49⟩
   refine cF (bF q23) (wK (tN (wQ (wQ (wR (lP 3 (wN (tN ?_))))))))
   obtain ⟨q50, M⟩ | ⟨q50, M⟩ := ifc M
   ·refine cT (bT q50) (wQ (wR (lP 1 ?_)))
    obtain ⟨t51, u52, M⟩ := bnd M
    refine lC 38 (eE func18) (spec_l4rd_next_2.calls t9.2 h16 l17 b18 (St.own' (Fa := [(is g2)]) (Fr := []) S19) u52) ?_
    rintro _ w53 ⟨A56, c57, H54, rfl, h58, l59, b60, T55⟩
    refine ⟨_, rfl, ?_⟩
    obtain ⟨S61, K62⟩ := St.call (Fa := [(is g2)]) (Fr := []) S19 T55
    have E63 := T55.ext
    refine lP 1 ?_
    obtain ⟨t64, u65, M⟩ := bnd M
    refine lC 40 (eE func55) (spec_l2var.calls  (St.own' (Fa := []) (Fr := [(is g2)]) S61) u65) ?_
    rintro _ w66 ⟨A69, c70, F72, H67, rfl, h71, T68⟩
    refine ⟨_, rfl, ?_⟩
    obtain ⟨S73, K74⟩ := St.call (Fa := []) (Fr := [(is g2)]) S61 T68
    replace b60 := K74.b 0 b60
    have E75 := T68.ext
    refine lP 1 (wN (tN (wT (tR (tR ?_)))))
    obtain rfl := sj M
    have S76 := S73.pulls [(is g2), F72] [1] rfl
    exact ret1 rfl rfl  kr ⟨A56, c57, A69, c70, F72, H67, rfl, (h58.ext E75), l59, b60, h71, S76⟩
   refine cF (bF q50) (wK (tN (wQ (wR (lP 1 ?_)))))
   obtain ⟨t77, u78, M⟩ := bnd M
   refine lC 42 (eE func48) (spec_l4name.calls t9.2 h16 l17 b18 (St.own' (Fa := [(is g2)]) (Fr := []) S19) u78) ?_
   rintro _ w79 ⟨A82, c83, A87, c88, F90, H80, rfl, h84, l85, b86, h89, T81⟩
   refine ⟨_, rfl, ?_⟩
   obtain ⟨S91, K92⟩ := St.call (Fa := [(is g2)]) (Fr := []) S19 T81
   have E93 := T81.ext
   refine lP 1 ?_
   refine lW 44 (new_blk (v := fun g_ => .slice (some ⟨g_, 0, none⟩) 1 1) (cs := #[.int .i64 2, .int .i64 0, .slice A87 t77.1.length c88]) (t := 70) S91 kr) ?_
   rintro _ w94 ⟨g95, rfl, b96, S97, K98⟩
   replace b86 := K98.b 0 b86
   replace h89 := h89.move (K98.a 1)
   have S100 := S97.pulls [(is g95), F90, (is g2)] [2, 1] rfl
   obtain ⟨h101, S102⟩ := row_lit (d := st70) (xs := [(⟨2, 0, t77.1⟩ : Cell)]) S100 b96 rfl (elsO_one1 (st70_mkO (x := (⟨2, 0, t77.1⟩ : Cell)) h89)) (Nat.le_of_ble_eq_true rfl)
   refine lP 1 (wN (tN (wT (tR ?_))))
   obtain rfl := sj M
   have S103 := S102.pulls [(is g2), (or2 (is g95) F90)] [1] rfl
   exact ret1 rfl rfl  kr ⟨A82, c83, (some ⟨g95, 0, none⟩), 1, (or2 (is g95) F90), H80, rfl, h84, l85, b86, h101, S103⟩
  refine lP1 1 19 (bF q22) ?_
  obtain ⟨t104, u105, M⟩ := bnd M
  refine lcallg (d := 21) (t := 19) rfl kr rfl (bF q22) rfl kr (eE func52) (by obtain ⟨H106, S107, E108, h109, z110⟩ := S19.frzBlk b18; exact (spec_l4rd_left.calls t9.2 (h16.ext E108) l17 h109 S107.own0 u105)) ?_
  rintro _ w111 ⟨rfl, C112⟩
  refine ⟨_, rfl, ?_⟩
  obtain ⟨S113, K114⟩ := S19.still C112
  replace b18 := K114.b 0 b18
  refine lP1 3 19 (bF q22) ?_
  obtain ⟨q115, M⟩ | ⟨q115, M⟩ := ifc M
  ·refine lP1 3 24 (bT q115) (wN (tN (cond_t rfl kr (wQ (wQ (wR (lP 3 (wN (tN ?_)))))))))
   obtain ⟨q116, M⟩ | ⟨q116, M⟩ := ifc M
   ·refine cT (bT q116) (wQ (wR (lP 1 ?_)))
    obtain ⟨t117, u118, M⟩ := bnd M
    refine lC 32 (eE func54) (spec_l4int_2.calls t9.2 h16 l17 b18 (St.own' (Fa := [(is g2)]) (Fr := []) S113) u118) ?_
    rintro _ w119 ⟨A122, c123, H120, rfl, h124, l125, b126, T121⟩
    refine ⟨_, rfl, ?_⟩
    obtain ⟨S127, K128⟩ := St.call (Fa := [(is g2)]) (Fr := []) S113 T121
    have E129 := T121.ext
    obtain ⟨t130, u131, M⟩ := bnd M
    refine lC 33 (eE func53) (spec_l2num.calls  (St.own' (Fa := []) (Fr := [(is g2)]) S127) u131) ?_
    rintro _ w132 ⟨A135, c136, F138, H133, rfl, h137, T134⟩
    refine ⟨_, rfl, ?_⟩
    obtain ⟨S139, K140⟩ := St.call (Fa := []) (Fr := [(is g2)]) S127 T134
    replace b126 := K140.b 0 b126
    have E141 := T134.ext
    refine lP 1 (wN (tN (wT (tR (tR ?_)))))
    obtain rfl := sj M
    have S142 := S139.pulls [(is g2), F138] [1] rfl
    exact ret1 rfl rfl  kr ⟨A122, c123, A135, c136, F138, H133, rfl, (h124.ext E141), l125, b126, h137, S142⟩
   refine cF (bF q116) (wK (tN (wQ (wQ (wR (lP 3 (wN (tN ?_))))))))
   obtain ⟨q143, M⟩ | ⟨q143, M⟩ := ifc M
   ·refine cT (bT q143) (wQ (wR (lP 1 ?_)))
    obtain ⟨t144, u145, M⟩ := bnd M
    refine lC 38 (eE func18) (spec_l4rd_next_2.calls t9.2 h16 l17 b18 (St.own' (Fa := [(is g2)]) (Fr := []) S113) u145) ?_
    rintro _ w146 ⟨A149, c150, H147, rfl, h151, l152, b153, T148⟩
    refine ⟨_, rfl, ?_⟩
    obtain ⟨S154, K155⟩ := St.call (Fa := [(is g2)]) (Fr := []) S113 T148
    have E156 := T148.ext
    refine lP 1 ?_
    obtain ⟨t157, u158, M⟩ := bnd M
    refine lC 40 (eE func55) (spec_l2var.calls  (St.own' (Fa := []) (Fr := [(is g2)]) S154) u158) ?_
    rintro _ w159 ⟨A162, c163, F165, H160, rfl, h164, T161⟩
    refine ⟨_, rfl, ?_⟩
    obtain ⟨S166, K167⟩ := St.call (Fa := []) (Fr := [(is g2)]) S154 T161
    replace b153 := K167.b 0 b153
    have E168 := T161.ext
    refine lP 1 (wN (tN (wT (tR (tR ?_)))))
    obtain rfl := sj M
    have S169 := S166.pulls [(is g2), F165] [1] rfl
    exact ret1 rfl rfl  kr ⟨A149, c150, A162, c163, F165, H160, rfl, (h151.ext E168), l152, b153, h164, S169⟩
   refine cF (bF q143) (wK (tN (wQ (wR (lP 1 ?_)))))
   obtain ⟨t170, u171, M⟩ := bnd M
   refine lC 42 (eE func48) (spec_l4name.calls t9.2 h16 l17 b18 (St.own' (Fa := [(is g2)]) (Fr := []) S113) u171) ?_
   rintro _ w172 ⟨A175, c176, A180, c181, F183, H173, rfl, h177, l178, b179, h182, T174⟩
   refine ⟨_, rfl, ?_⟩
   obtain ⟨S184, K185⟩ := St.call (Fa := [(is g2)]) (Fr := []) S113 T174
   have E186 := T174.ext
   refine lP 1 ?_
   refine lW 44 (new_blk (v := fun g_ => .slice (some ⟨g_, 0, none⟩) 1 1) (cs := #[.int .i64 2, .int .i64 0, .slice A180 t170.1.length c181]) (t := 70) S184 kr) ?_
   rintro _ w187 ⟨g188, rfl, b189, S190, K191⟩
   replace b179 := K191.b 0 b179
   replace h182 := h182.move (K191.a 1)
   have S193 := S190.pulls [(is g188), F183, (is g2)] [2, 1] rfl
   obtain ⟨h194, S195⟩ := row_lit (d := st70) (xs := [(⟨2, 0, t170.1⟩ : Cell)]) S193 b189 rfl (elsO_one1 (st70_mkO (x := (⟨2, 0, t170.1⟩ : Cell)) h182)) (Nat.le_of_ble_eq_true rfl)
   refine lP 1 (wN (tN (wT (tR ?_))))
   obtain rfl := sj M
   have S196 := S195.pulls [(is g2), (or2 (is g188) F183)] [1] rfl
   exact ret1 rfl rfl  kr ⟨A175, c176, (some ⟨g188, 0, none⟩), 1, (or2 (is g188) F183), H173, rfl, h177, l178, b179, h194, S196⟩
  refine lP1 3 24 (bF q115) (wN (tN ?_))
  obtain ⟨q197, M⟩ | ⟨q197, M⟩ := ifc M
  ·refine cT (bT q197) (wQ (wQ (wR (lP 3 (wN (tN ?_))))))
   obtain ⟨q198, M⟩ | ⟨q198, M⟩ := ifc M
   ·refine cT (bT q198) (wQ (wR (lP 1 ?_)))
    obtain ⟨t199, u200, M⟩ := bnd M
    refine lC 32 (eE func54) (spec_l4int_2.calls t9.2 h16 l17 b18 (St.own' (Fa := [(is g2)]) (Fr := []) S113) u200) ?_
    rintro _ w201 ⟨A204, c205, H202, rfl, h206, l207, b208, T203⟩
    refine ⟨_, rfl, ?_⟩
    obtain ⟨S209, K210⟩ := St.call (Fa := [(is g2)]) (Fr := []) S113 T203
    have E211 := T203.ext
    obtain ⟨t212, u213, M⟩ := bnd M
    refine lC 33 (eE func53) (spec_l2num.calls  (St.own' (Fa := []) (Fr := [(is g2)]) S209) u213) ?_
    rintro _ w214 ⟨A217, c218, F220, H215, rfl, h219, T216⟩
    refine ⟨_, rfl, ?_⟩
    obtain ⟨S221, K222⟩ := St.call (Fa := []) (Fr := [(is g2)]) S209 T216
    replace b208 := K222.b 0 b208
    have E223 := T216.ext
    refine lP 1 (wN (tN (wT (tR (tR ?_)))))
    obtain rfl := sj M
    have S224 := S221.pulls [(is g2), F220] [1] rfl
    exact ret1 rfl rfl  kr ⟨A204, c205, A217, c218, F220, H215, rfl, (h206.ext E223), l207, b208, h219, S224⟩
   refine cF (bF q198) (wK (tN (wQ (wQ (wR (lP 3 (wN (tN ?_))))))))
   obtain ⟨q225, M⟩ | ⟨q225, M⟩ := ifc M
   ·refine cT (bT q225) (wQ (wR (lP 1 ?_)))
    obtain ⟨t226, u227, M⟩ := bnd M
    refine lC 38 (eE func18) (spec_l4rd_next_2.calls t9.2 h16 l17 b18 (St.own' (Fa := [(is g2)]) (Fr := []) S113) u227) ?_
    rintro _ w228 ⟨A231, c232, H229, rfl, h233, l234, b235, T230⟩
    refine ⟨_, rfl, ?_⟩
    obtain ⟨S236, K237⟩ := St.call (Fa := [(is g2)]) (Fr := []) S113 T230
    have E238 := T230.ext
    refine lP 1 ?_
    obtain ⟨t239, u240, M⟩ := bnd M
    refine lC 40 (eE func55) (spec_l2var.calls  (St.own' (Fa := []) (Fr := [(is g2)]) S236) u240) ?_
    rintro _ w241 ⟨A244, c245, F247, H242, rfl, h246, T243⟩
    refine ⟨_, rfl, ?_⟩
    obtain ⟨S248, K249⟩ := St.call (Fa := []) (Fr := [(is g2)]) S236 T243
    replace b235 := K249.b 0 b235
    have E250 := T243.ext
    refine lP 1 (wN (tN (wT (tR (tR ?_)))))
    obtain rfl := sj M
    have S251 := S248.pulls [(is g2), F247] [1] rfl
    exact ret1 rfl rfl  kr ⟨A231, c232, A244, c245, F247, H242, rfl, (h233.ext E250), l234, b235, h246, S251⟩
   refine cF (bF q225) (wK (tN (wQ (wR (lP 1 ?_)))))
   obtain ⟨t252, u253, M⟩ := bnd M
   refine lC 42 (eE func48) (spec_l4name.calls t9.2 h16 l17 b18 (St.own' (Fa := [(is g2)]) (Fr := []) S113) u253) ?_
   rintro _ w254 ⟨A257, c258, A262, c263, F265, H255, rfl, h259, l260, b261, h264, T256⟩
   refine ⟨_, rfl, ?_⟩
   obtain ⟨S266, K267⟩ := St.call (Fa := [(is g2)]) (Fr := []) S113 T256
   have E268 := T256.ext
   refine lP 1 ?_
   refine lW 44 (new_blk (v := fun g_ => .slice (some ⟨g_, 0, none⟩) 1 1) (cs := #[.int .i64 2, .int .i64 0, .slice A262 t252.1.length c263]) (t := 70) S266 kr) ?_
   rintro _ w269 ⟨g270, rfl, b271, S272, K273⟩
   replace b261 := K273.b 0 b261
   replace h264 := h264.move (K273.a 1)
   have S275 := S272.pulls [(is g270), F265, (is g2)] [2, 1] rfl
   obtain ⟨h276, S277⟩ := row_lit (d := st70) (xs := [(⟨2, 0, t252.1⟩ : Cell)]) S275 b271 rfl (elsO_one1 (st70_mkO (x := (⟨2, 0, t252.1⟩ : Cell)) h264)) (Nat.le_of_ble_eq_true rfl)
   refine lP 1 (wN (tN (wT (tR ?_))))
   obtain rfl := sj M
   have S278 := S277.pulls [(is g2), (or2 (is g270) F265)] [1] rfl
   exact ret1 rfl rfl  kr ⟨A257, c258, (some ⟨g270, 0, none⟩), 1, (or2 (is g270) F265), H255, rfl, h259, l260, b261, h276, S278⟩
  refine cF (bF q197) (wK (tN (wQ (wQ (wR (lP 2 (wN (tN ?_))))))))
  obtain ⟨q279, M⟩ | ⟨q279, M⟩ := ifc M
  ·refine cT (bT q279) (wQ (wR (lP 1 (wN (tN (wQ (wR (lP 4 (wN (tN (wQ (wQ (wR (lP 1 (wN (tN (wp_block ?_)))))))))))))))))
   have S302 := S113.unit
   have S303 := S302.pulls [(is g2), no] [1] rfl
   refine wp_loop_g (fun k299 a300 w280 => ∃ (f281 : Nat → Value) (H282 : Hp) (x284 : List (List Cell)) (A285 : Option Addr) (c286 : Nat) (F287 : Foot) (x289 : Int) (x290 : List UInt8) (A291 : Option Addr) (c292 : Nat) (x295 : Int), k299 < K ∧ a300 = mk 126 (upd (upd (upd (upd (upd (upd f281 0 (.pointer (some ⟨g2, 0, none⟩))) 1 (.int .i64 x8)) 5 (.int .i64 t9.1)) 6 (.slice A285 x284.length c286)) 7 (.int .i64 (i64.wrap (1 + (Int.tmod t9.1 3))))) 8 (.int .i64 x289)) ∧ w280.heap[g2]? = some (.cells #[.slice A291 x290.length c292, .int .i64 x295] 51 (0, 0)) ∧ Row sl70 43 H282 (hp w280) F287 A285 c286 x284 ∧ Rd tByte H282 A291 x290 ∧ x290.length ≤ c292 ∧ Ext H12 H282 ∧ St (anyOf [(is g2)]) H w [(is g2), F287] H282 w280 ∧ spec_l4term.l0 k299 x8 t9 x284 x289 x290 x295 = some r) k1_ ⟨_, H12, [], none, 0, no, 0, t9.2.b_, A14, c15, t9.2.i_, (by omega), (hdw (hdc (hdc (hdc (hdc (hdc (hdc rfl kr) kr) kr) kr) kr) kr)), b18, (Row.nil _ _ _ _ _), h16, l17, (Ext.refl _), S303, M⟩ ?_
   clear M
   rintro k299 a300 w280 ⟨f281, H282, x284, A285, c286, F287, x289, x290, A291, c292, x295, z297, rfl, b18, h288, h293, l294, Y283, S296, M⟩
   rcases k299 with _ | k301
   ·rw [spec_l4term.l0] at M
    cases M
   rw [spec_l4term.l0] at M
   refine wQ (wQ (wR (lP 3 (wN (tN ?_)))))
   obtain ⟨q304, M⟩ | ⟨q304, M⟩ := ifc M
   ·refine cT (bT q304) (wK (tN (wQ (wp_block (wR (lP 4 ?_))))))
    obtain ⟨t305, u306, M⟩ := bnd M
    refine lC 59 (eE func22) (ih k301 (by omega) w280 H282 (⟨x290, x295⟩ : GL4rd) g2 A291 c292 (i64.wrap (x8 - 1)) h293 l294 b18 (St.own' (Fa := [(is g2)]) (Fr := [F287]) S296) t305 u306) ?_
    rintro _ w307 ⟨A310, c311, A315, c316, F318, H308, rfl, h312, l313, b314, h317, T309⟩
    refine ⟨_, rfl, ?_⟩
    obtain ⟨S319, K320⟩ := St.call (Fa := [(is g2)]) (Fr := [F287]) S296 T309
    replace h288 := h288.move (K320.a 0)
    have E321 := T309.ext
    replace h288 := h288.ext E321
    refine lW 60 (new_blk (v := fun g_ => .slice (some ⟨g_, 0, none⟩) 1 1) (cs := #[.slice A315 t305.1.length c316]) (t := 43) S319 kr) ?_
    rintro _ w322 ⟨g323, rfl, b324, S325, K326⟩
    replace b314 := K326.b 0 b314
    replace h317 := h317.move (K326.a 1)
    replace h288 := h288.move (K326.a 2)
    obtain ⟨q327, M⟩ := chk M
    have S329 := S325.pulls [F287, F318, (is g323), (is g2)] [2, 3] rfl
    refine lW 61 (e_append (d := sl70) (n := x284.length) (xs := x284) (cap := c286) (A := A285) (ys := [t305.1]) (A2 := (some ⟨g323, 0, none⟩)) (c2 := 1) (z := .slice none 0 0) (bytes := 24) S329 underlying71 kr rfl (by decide) kr rfl kr h288 (elsO_one1 ⟨A315, c316, rfl, h317⟩) (.inr (blk_news b324 rfl)) (show (x284.length + [t305.1].length) * 24 ≤ _ by first | omega | (simp only [List.length_cons, List.length_nil]; omega)) (by decide)) ?_
    rintro _ w330 ⟨A331, c332, F333, rfl, h334, S335, K336⟩
    replace b314 := K336.b 1 b314
    refine lP 1 (wN (inb_n (tN (wR (lP 3 (wN (tN ?_)))))))
    have S337 := S335.pulls [(is g2), F333, (is g323)] [2] rfl
    have S338 := St.first (Fa := [(is g2), F333]) (Fr := [(is g323)]) S337
    exact ⟨k301, (by omega), _, H308, (x284 ++ [t305.1]), A331, c332, F333, (i64.wrap (x289 + 1)), t305.2.b_, A310, c311, t305.2.i_, (by omega), (hdw (hdc (hdc (hdc (hdc (hdc (hdc rfl kr) kr) kr) kr) kr) kr)), b314, h334, h312, l313, (Y283.trans E321), S338, M⟩
   refine cF (bF q304) (wp_exit (tE (tE (inb_hit (tN (wQ (wR ?_)))))))
   obtain ⟨t339, u340, M⟩ := bnd M
   refine lC 62 (eE func24) (spec_l2atom.calls  (St.own' (Fa := []) (Fr := [(is g2), F287]) S296) u340) ?_
   rintro _ w341 ⟨A344, c345, F347, H342, rfl, h346, T343⟩
   refine ⟨_, rfl, ?_⟩
   obtain ⟨S348, K349⟩ := St.call (Fa := []) (Fr := [(is g2), F287]) S296 T343
   replace b18 := K349.b 0 b18
   replace h288 := h288.move (K349.a 1)
   have E350 := T343.ext
   replace h288 := h288.ext E350
   refine lP 1 (wN (tN ?_))
   refine wp_seq_cut (fun a369 w351 => ∃ (k371 : Nat), k371 ≤ k301 ∧ ∃ (f352 : Nat → Value) (H353 : Hp) (x355 : List Cell) (A356 : Option Addr) (c357 : Nat) (F358 : Foot) (x360 : List UInt8) (A361 : Option Addr) (c362 : Nat) (x365 : Int), k371 < K ∧ a369 = mk 126 (upd (upd f352 6 (.slice A285 x284.length c286)) 9 (.slice A356 x355.length c357)) ∧ w351.heap[g2]? = some (.cells #[.slice A361 x360.length c362, .int .i64 x365] 51 (0, 0)) ∧ Row sl70 43 H353 (hp w351) F287 A285 c286 x284 ∧ Row st70 70 H353 (hp w351) F358 A356 c357 x355 ∧ Rd tByte H353 A361 x360 ∧ x360.length ≤ c362 ∧ Ext H342 H353 ∧ St (anyOf [(is g2)]) H w [(is g2), F287, F358] H353 w351 ∧ spec_l4term.l1 k371 x284 x355 x360 x365 = some r) ?_ ?_
   ·refine wQ (wR (lP 3 (wN (tN ?_))))
    obtain ⟨q372, M⟩ | ⟨q372, M⟩ := ifd M
    ·refine cF (bF q372) (wK (tN ?_))
     have S396 := S348.pulls [(is g2), F287, F347] [2, 2] rfl
     exact ⟨k301, (by omega), _, H342, t339, A344, c345, F347, x290, A291, c292, x295, (by omega), (hdw (hdc (hdc rfl kr) kr)), b18, h288, h346, (h293.ext E350), l294, (Ext.refl _), S396, M⟩
    refine cT (bT q372) (wR (lP 3 ?_))
    have S373 := S348.pulls [(is g2), F347, F287] [1] rfl
    obtain ⟨t374, u375, M⟩ := bnd M
    refine lC 69 (eE func22) (ih k301 (by omega) w341 H342 (⟨x290, x295⟩ : GL4rd) g2 A291 c292 (i64.wrap (x8 - 2)) (h293.ext E350) l294 b18 (St.own' (Fa := [(is g2)]) (Fr := [F347, F287]) S373) t374 u375) ?_
    rintro _ w376 ⟨A379, c380, A384, c385, F387, H377, rfl, h381, l382, b383, h386, T378⟩
    refine ⟨_, rfl, ?_⟩
    obtain ⟨S388, K389⟩ := St.call (Fa := [(is g2)]) (Fr := [F347, F287]) S373 T378
    replace h288 := h288.move (K389.a 1)
    have E390 := T378.ext
    replace h288 := h288.ext E390
    refine lP 1 (wN (tN ?_))
    have S393 := S388.pulls [(is g2), F287, F387, F347] [1, 3, 2] rfl
    have S394 := St.first (Fa := [(is g2), F287, F387]) (Fr := [F347]) S393
    exact ⟨k301, (by omega), _, H377, t374.1, A384, c385, F387, t374.2.b_, A379, c380, t374.2.i_, (by omega), (hdw (hdc (hdc rfl kr) kr)), b383, h288, h386, h381, l382, E390, S394, M⟩
   clear M
   rintro a369 w351 ⟨k371, z424, f352, H353, x355, A356, c357, F358, x360, A361, c362, x365, z367, rfl, b18, h288, h359, h363, l364, Y354, S366, M⟩
   rcases k371 with _ | k370
   ·rw [spec_l4term.l1] at M
    cases M
   rw [spec_l4term.l1] at M
   refine wQ (wR (lP 2 ?_))
   have l397 := h288.le
   have S398 := S366.pulls [F287, (is g2), F358] [1] rfl
   obtain ⟨H399, S400, E401, h402, z403⟩ := S398.frzRow h288
   replace h359 := h359.ext E401
   have l404 := h359.le
   have S405 := S400.pulls [F358, (is g2)] [1] rfl
   obtain ⟨H406, S407, E408, h409, z410⟩ := S405.frzRow h359
   obtain ⟨t411, u412, M⟩ := bnd M
   refine lC 72 (eE func56) (spec_l2list.calls (h402.ext E408) l397 h409 l404 (St.own' (Fa := []) (Fr := [(is g2)]) S407) u412) ?_
   rintro _ w413 ⟨A416, c417, F419, H414, rfl, h418, T415⟩
   refine ⟨_, rfl, ?_⟩
   obtain ⟨S420, K421⟩ := St.call (Fa := []) (Fr := [(is g2)]) S407 T415
   replace b18 := K421.b 0 b18
   have E422 := T415.ext
   refine lP 1 (wN (tN (wT (tR ?_))))
   obtain rfl := sj M
   have S423 := S420.pulls [(is g2), F419] [1] rfl
   exact ret1 rfl rfl  kr ⟨A361, c362, A416, c417, F419, H414, rfl, (h363.ext ((E401.trans E408).trans E422)), l364, b18, h418, S423⟩
  refine cF (bF q279) (wK (tN (wQ (wR ?_))))
  refine lW 73 (new_blk (v := fun g_ => .slice (some ⟨g_, 0, none⟩) 17 17) (cs := #[str ([45] : List UInt8), str ([43] : List UInt8), str ([61] : List UInt8), str ([44] : List UInt8), str ([58, 45] : List UInt8), str ([59] : List UInt8), str ([45, 62] : List UInt8), str ([105, 115] : List UInt8), str ([94] : List UInt8), str ([42, 42] : List UInt8), str ([42] : List UInt8), str ([64, 64] : List UInt8), str ([109, 111, 100] : List UInt8), str ([102] : List UInt8), str ([45, 45, 62] : List UInt8), str ([114] : List UInt8), str ([113] : List UInt8)]) (t := 9) S113 kr) ?_
  rintro _ w425 ⟨g426, rfl, b427, S428, K429⟩
  replace b18 := K429.b 0 b18
  have S430 := S428.unit
  have S431 := S430.pulls [(is g426), no, (is g2)] [1] rfl
  obtain ⟨h432, S433⟩ := row_lit (d := tStr) (xs := Lt4) S431 b427 rfl (elsO_no (d := tStr) rfl (elsO_no (d := tStr) rfl (elsO_no (d := tStr) rfl (elsO_no (d := tStr) rfl (elsO_no (d := tStr) rfl (elsO_no (d := tStr) rfl (elsO_no (d := tStr) rfl (elsO_no (d := tStr) rfl (elsO_no (d := tStr) rfl (elsO_no (d := tStr) rfl (elsO_no (d := tStr) rfl (elsO_no (d := tStr) rfl (elsO_no (d := tStr) rfl (elsO_no (d := tStr) rfl (elsO_no (d := tStr) rfl (elsO_no (d := tStr) rfl (elsO_no (d := tStr) rfl (elsO_nil _ _ _ no)))))))))))))))))) (Nat.le_of_ble_eq_true rfl)
  refine lP 1 (wN (tN (wQ (wR ?_))))
  refine lW 74 (new_blk (v := fun g_ => .slice (some ⟨g_, 0, none⟩) 12 12) (cs := #[str ([45] : List UInt8), str ([92, 43] : List UInt8), str ([58, 45] : List UInt8), str ([43] : List UInt8), str ([123, 125] : List UInt8), str ([100, 121, 110, 97, 109, 105, 99] : List UInt8), str ([103] : List UInt8), str ([92] : List UInt8), str ([112] : List UInt8), str ([64, 64] : List UInt8), str ([91, 93] : List UInt8), str ([33] : List UInt8)]) (t := 9) S433 kr) ?_
  rintro _ w434 ⟨g435, rfl, b436, S437, K438⟩
  replace h432 := h432.move (K438.a 0)
  replace b18 := K438.b 1 b18
  have S439 := S437.unit
  have S440 := S439.pulls [(is g435), no, (or2 (is g426) no), (is g2)] [1] rfl
  obtain ⟨h441, S442⟩ := row_lit (d := tStr) (xs := Lt5) S440 b436 rfl (elsO_no (d := tStr) rfl (elsO_no (d := tStr) rfl (elsO_no (d := tStr) rfl (elsO_no (d := tStr) rfl (elsO_no (d := tStr) rfl (elsO_no (d := tStr) rfl (elsO_no (d := tStr) rfl (elsO_no (d := tStr) rfl (elsO_no (d := tStr) rfl (elsO_no (d := tStr) rfl (elsO_no (d := tStr) rfl (elsO_no (d := tStr) rfl (elsO_nil _ _ _ no))))))))))))) (Nat.le_of_ble_eq_true rfl)
  refine lP 1 (wN (tN (wQ (wQ (wR (lP 2 (wN (tN ?_))))))))
  obtain ⟨q443, M⟩ | ⟨q443, M⟩ := ifc M
  ·refine cT (bT q443) (wQ ?_)
   refine region_mix (S := (fun (L_ : Array Bool) (w_ : World) => Ext H12 (hp w_) ∧ (∀ b_, (or2 (is g426) no) b_ → hp w_ b_ = hp w434 b_))) kr S442 ?_
   intro w444 S445 K446 hc447
   have o448 := h432
   have hs449 : (fun (L_ : Array Bool) (w_ : World) => Ext H12 (hp w_) ∧ (∀ b_, (or2 (is g426) no) b_ → hp w_ b_ = hp w434 b_)) (Array.replicate 16 false) w444 := ⟨S445.inv, (fun b_ h_ => K446.at 1 rfl b_ h_)⟩
   replace h432 := h432.move (K446.a 1)
   replace b18 := K446.b 2 b18
   refine xV 0 77 rfl hc447 hs449 (fun L_ w_ hc_ hu_ hs_ => eM (.slice (some ⟨g426, 0, none⟩) 17 17)) ?_; intro hc450 hs451
   refine xV 1 78 rfl hc450 hs451 (fun L_ w_ hc_ hu_ hs_ => eM (.pointer (some ⟨g2, 0, none⟩))) ?_; intro hc452 hs453
   refine xV 6 83 rfl hc452 hs453 (fun L_ w_ hc_ hu_ hs_ => eM (.pointer (some ⟨g2, 0, none⟩))) ?_; intro hc454 hs455
   refine xV 7 84 rfl hc454 hs455 (fun L_ w_ hc_ hu_ hs_ => eM (.int .i64 x8)) ?_; intro hc456 hs457
   refine xV 8 85 rfl hc456 hs457 (fun L_ w_ hc_ hu_ hs_ => e_sub (k := .i64) (a := x8) (b := 1) kr rfl) ?_; intro hc458 hs459
   refine xV 10 87 rfl hc458 hs459 (fun L_ w_ hc_ hu_ hs_ => eM (.pointer (some ⟨g2, 0, none⟩))) ?_; intro hc460 hs461
   refine xV 11 88 rfl hc460 hs461 (fun L_ w_ hc_ hu_ hs_ => eM (.int .i64 x8)) ?_; intro hc462 hs463
   refine xV 12 89 rfl hc462 hs463 (fun L_ w_ hc_ hu_ hs_ => e_sub (k := .i64) (a := x8) (b := 1) kr rfl) ?_; intro hc464 hs465
   have S466 := S445.pulls [(is g2), (or2 (is g435) no), (or2 (is g426) no)] [2] rfl
   obtain ⟨t467, u468, M⟩ := bnd M
   refine xO 2 hc464 ?_
   refine yC 2 rfl (eE func18) (spec_l4rd_next_2.calls t9.2 h16 l17 b18 (St.own' (Fa := [(is g2)]) (Fr := [(or2 (is g435) no), (or2 (is g426) no)]) S466) u468) ?_
   rintro hc477 _ w469 ⟨A472, c473, H470, rfl, h474, l475, b476, T471⟩
   refine ⟨_, rfl, ?_⟩
   obtain ⟨S478, K479⟩ := St.call (Fa := [(is g2)]) (Fr := [(or2 (is g435) no), (or2 (is g426) no)]) S466 T471
   replace h432 := h432.move (K479.a 1)
   have E480 := T471.ext
   replace h432 := h432.ext E480
   refine ⟨⟨(Ext.trans E480 S478.inv), (fun b_ h_ => (K479.at 1 rfl b_ h_).trans (hs465.2 b_ h_))⟩, fun hs481 => ?_⟩
   refine xV 3 80 rfl hc477 hs481 (fun L_ w_ hc_ hu_ hs_ => e_rem (k := .i64) (a := t467.1) (b := 17) kr rfl (by decide)) ?_; intro hc482 hs483
   obtain ⟨q484, M⟩ := chk M
   obtain ⟨q485, M⟩ := chk M
   obtain ⟨b486, e488⟩ := Row.addr h432 (show ((Int.tmod t467.1 17)).toNat < Lt4.length by have : Lt4.length = 17 := rfl; omega)
   refine xV 4 81 rfl hc482 hs483 (fun L_ w_ hc_ hu_ hs_ => eI b486 0 17 17 1 (Int.tmod t467.1 17) .i64 underlying66 e488 q484 q485) ?_; intro hc489 hs490
   refine xV 5 82 rfl hc489 hs490 (fun L_ w_ hc_ hu_ hs_ => eK underlying9 (hpx (Row.pick (j := 0) (u := str (Lt4.getD (((Int.tmod t467.1 17)).toNat) ([] : List UInt8))) (o448.move hs_.2) e488 (getD_some ([] : List UInt8) (show ((Int.tmod t467.1 17)).toNat < Lt4.length by have : Lt4.length = 17 := rfl; omega)) (fun _ _ o_ => by rw [show _ = _ from o_]; rfl)))) ?_; intro hc491 hs492
   obtain ⟨t493, u494, M⟩ := bnd M
   refine xO 9 hc491 ?_
   refine yC 9 rfl (eE func22) (ih k1_ (by omega) w469 H470 t467.2 g2 A472 c473 (i64.wrap (x8 - 1)) h474 l475 b476 (St.own' (Fa := [(is g2)]) (Fr := [(or2 (is g435) no), (or2 (is g426) no)]) S478) t493 u494) ?_
   rintro hc507 _ w495 ⟨A498, c499, A503, c504, F506, H496, rfl, h500, l501, b502, h505, T497⟩
   refine ⟨_, rfl, ?_⟩
   obtain ⟨S508, K509⟩ := St.call (Fa := [(is g2)]) (Fr := [(or2 (is g435) no), (or2 (is g426) no)]) S478 T497
   have E510 := T497.ext
   refine ⟨⟨(Ext.trans (E480.trans E510) S508.inv), (fun b_ h_ => (K509.at 1 rfl b_ h_).trans (hs492.2 b_ h_))⟩, fun hs511 => ?_⟩
   obtain ⟨t512, u513, M⟩ := bnd M
   refine xO 13 hc507 ?_
   refine yC 13 rfl (eE func22) (ih k1_ (by omega) w495 H496 t493.2 g2 A498 c499 (i64.wrap (x8 - 1)) h500 l501 b502 (St.own' (Fa := [(is g2)]) (Fr := [F506, (or2 (is g435) no), (or2 (is g426) no)]) S508) t512 u513) ?_
   rintro hc526 _ w514 ⟨A517, c518, A522, c523, F525, H515, rfl, h519, l520, b521, h524, T516⟩
   refine ⟨_, rfl, ?_⟩
   obtain ⟨S527, K528⟩ := St.call (Fa := [(is g2)]) (Fr := [F506, (or2 (is g435) no), (or2 (is g426) no)]) S508 T516
   replace h505 := h505.move (K528.a 0)
   have E529 := T516.ext
   replace h505 := h505.ext E529
   refine ⟨⟨(Ext.trans ((E480.trans E510).trans E529) S527.inv), (fun b_ h_ => (K528.at 2 rfl b_ h_).trans (hs511.2 b_ h_))⟩, fun hs530 => ?_⟩
   have l531 := h505.le
   have S532 := S527.pulls [F506, (is g2), F525, (or2 (is g435) no), (or2 (is g426) no)] [2] rfl
   obtain ⟨H533, S534, E535, h536, z537⟩ := S532.frzRow h505
   replace h524 := h524.ext E535
   have l538 := h524.le
   have S539 := S534.pulls [F525, (is g2), (or2 (is g435) no), (or2 (is g426) no)] [1] rfl
   obtain ⟨H540, S541, E542, h543, z544⟩ := S539.frzRow h524
   obtain ⟨t545, u546, M⟩ := bnd M
   refine xO 14 hc526 ?_
   refine yC 14 rfl (eE func57) (spec_l2pair.calls (h536.ext E542) l531 h543 l538 (St.own' (Fa := []) (Fr := [(is g2), (or2 (is g435) no), (or2 (is g426) no)]) S541) u546) ?_
   rintro hc554 _ w547 ⟨A550, c551, F553, H548, rfl, h552, T549⟩
   refine ⟨_, rfl, ?_⟩
   obtain ⟨S555, K556⟩ := St.call (Fa := []) (Fr := [(is g2), (or2 (is g435) no), (or2 (is g426) no)]) S541 T549
   replace b521 := K556.b 0 b521
   have E557 := T549.ext
   refine ⟨⟨(Ext.trans (((((E480.trans E510).trans E529).trans E535).trans E542).trans E557) S555.inv), (fun b_ h_ => (K556.at 2 rfl b_ h_).trans (hs530.2 b_ h_))⟩, fun hs558 => ?_⟩
   refine xO 15 hc554 ?_
   refine yO 15 4 rfl hs558 (eA (.slice A550 t545.length c551)) ?_; intro hc559 hs560
   refine xn kr ?_ _
   refine tN (wT (tR ?_))
   obtain rfl := sj M
   have S561 := S555.pulls [(is g2), F553, (or2 (is g435) no), (or2 (is g426) no)] [1] rfl
   have S562 := St.first (Fa := [(is g2), F553]) (Fr := [(or2 (is g435) no), (or2 (is g426) no)]) S561
   exact ret1 rfl rfl  kr ⟨A517, c518, A550, c551, F553, H548, rfl, (h519.ext ((E535.trans E542).trans E557)), l520, b521, h552, S562⟩
  refine cF (bF q443) (wK (tN (wQ (wQ (wR (lP 2 (wN (tN ?_))))))))
  obtain ⟨q563, M⟩ | ⟨q563, M⟩ := ifd M
  ·refine cF (bF q563) (wK (tN (wQ (wR (lP 1 (wN (tN (wQ (wR (lP 4 (wN (tN (wQ (wQ (wR (lP 1 (wN (tN (wp_block ?_)))))))))))))))))))
   have S683 := S442.unit
   have S684 := S683.pulls [(is g2), no, (or2 (is g435) no), (or2 (is g426) no)] [3] rfl
   have S685 := St.first (Fa := [(is g2), no]) (Fr := [(or2 (is g435) no), (or2 (is g426) no)]) S684
   refine wp_loop_g (fun k680 a681 w661 => ∃ (f662 : Nat → Value) (H663 : Hp) (x665 : List (List Cell)) (A666 : Option Addr) (c667 : Nat) (F668 : Foot) (x670 : Int) (x671 : List UInt8) (A672 : Option Addr) (c673 : Nat) (x676 : Int), k680 < K ∧ a681 = mk 126 (upd (upd (upd (upd (upd f662 0 (.pointer (some ⟨g2, 0, none⟩))) 1 (.int .i64 x8)) 12 (.slice A666 x665.length c667)) 13 (.int .i64 (i64.wrap (1 + (Int.tmod t9.1 4))))) 14 (.int .i64 x670)) ∧ w661.heap[g2]? = some (.cells #[.slice A672 x671.length c673, .int .i64 x676] 51 (0, 0)) ∧ Row sl70 43 H663 (hp w661) F668 A666 c667 x665 ∧ Rd tByte H663 A672 x671 ∧ x671.length ≤ c673 ∧ Ext H12 H663 ∧ St (anyOf [(is g2)]) H w [(is g2), F668] H663 w661 ∧ spec_l4term.l2 k680 x8 t9 x665 x670 x671 x676 = some r) k1_ ⟨_, H12, [], none, 0, no, 0, t9.2.b_, A14, c15, t9.2.i_, (by omega), (hdw (hdc (hdc (hdc (hdc (hdc rfl kr) kr) kr) kr) kr)), b18, (Row.nil _ _ _ _ _), h16, l17, (Ext.refl _), S685, M⟩ ?_
   clear M
   rintro k680 a681 w661 ⟨f662, H663, x665, A666, c667, F668, x670, x671, A672, c673, x676, z678, rfl, b18, h669, h674, l675, Y664, S677, M⟩
   rcases k680 with _ | k682
   ·rw [spec_l4term.l2] at M
    cases M
   rw [spec_l4term.l2] at M
   refine wQ (wQ (wR (lP 3 (wN (tN ?_)))))
   obtain ⟨q686, M⟩ | ⟨q686, M⟩ := ifd M
   ·refine cF (bF q686) (wp_exit (tE (tE (inb_hit (tN (wQ (wR (lP 1 ?_))))))))
    obtain ⟨t721, u722, M⟩ := bnd M
    refine lC 122 (eE func48) (spec_l4name.calls (⟨x671, x676⟩ : GL4rd) h674 l675 b18 (St.own' (Fa := [(is g2)]) (Fr := [F668]) S677) u722) ?_
    rintro _ w723 ⟨A726, c727, A731, c732, F734, H724, rfl, h728, l729, b730, h733, T725⟩
    refine ⟨_, rfl, ?_⟩
    obtain ⟨S735, K736⟩ := St.call (Fa := [(is g2)]) (Fr := [F668]) S677 T725
    replace h669 := h669.move (K736.a 0)
    have E737 := T725.ext
    replace h669 := h669.ext E737
    refine lV 123 (e_conv_bs (A := A731) (n := t721.1.length) (c := c732) (xs := t721.1) underlying22 underlying5 underlying9 kr rfl (Row.bytes h733)) (lP 1 ?_)
    have l738 := h669.le
    have S739 := S735.pulls [F668, (is g2), F734] [2] rfl
    obtain ⟨H740, S741, E742, h743, z744⟩ := S739.frzRow h669
    obtain ⟨t745, u746, M⟩ := bnd M
    refine lC 125 (eE func58) (spec_l2comp.calls h743 l738 (St.own' (Fa := []) (Fr := [(is g2), F734]) S741) u746) ?_
    rintro _ w747 ⟨A750, c751, F753, H748, rfl, h752, T749⟩
    refine ⟨_, rfl, ?_⟩
    obtain ⟨S754, K755⟩ := St.call (Fa := []) (Fr := [(is g2), F734]) S741 T749
    replace b730 := K755.b 0 b730
    have E756 := T749.ext
    refine lP 1 (wN (tN (wT ?_)))
    obtain rfl := sj M
    have S757 := S754.pulls [(is g2), F753, F734] [1] rfl
    have S758 := St.first (Fa := [(is g2), F753]) (Fr := [F734]) S757
    exact ret1 rfl rfl  kr ⟨A726, c727, A750, c751, F753, H748, rfl, (h728.ext (E742.trans E756)), l729, b730, h752, S758⟩
   refine cT (bT q686) (wK (tN (wQ (wp_block (wR (lP 4 ?_))))))
   obtain ⟨t687, u688, M⟩ := bnd M
   refine lC 118 (eE func22) (ih k682 (by omega) w661 H663 (⟨x671, x676⟩ : GL4rd) g2 A672 c673 (i64.wrap (x8 - 1)) h674 l675 b18 (St.own' (Fa := [(is g2)]) (Fr := [F668]) S677) t687 u688) ?_
   rintro _ w689 ⟨A692, c693, A697, c698, F700, H690, rfl, h694, l695, b696, h699, T691⟩
   refine ⟨_, rfl, ?_⟩
   obtain ⟨S701, K702⟩ := St.call (Fa := [(is g2)]) (Fr := [F668]) S677 T691
   replace h669 := h669.move (K702.a 0)
   have E703 := T691.ext
   replace h669 := h669.ext E703
   refine lW 119 (new_blk (v := fun g_ => .slice (some ⟨g_, 0, none⟩) 1 1) (cs := #[.slice A697 t687.1.length c698]) (t := 43) S701 kr) ?_
   rintro _ w704 ⟨g705, rfl, b706, S707, K708⟩
   replace b696 := K708.b 0 b696
   replace h699 := h699.move (K708.a 1)
   replace h669 := h669.move (K708.a 2)
   obtain ⟨q709, M⟩ := chk M
   have S711 := S707.pulls [F668, F700, (is g705), (is g2)] [2, 3] rfl
   refine lW 120 (e_append (d := sl70) (n := x665.length) (xs := x665) (cap := c667) (A := A666) (ys := [t687.1]) (A2 := (some ⟨g705, 0, none⟩)) (c2 := 1) (z := .slice none 0 0) (bytes := 24) S711 underlying71 kr rfl (by decide) kr rfl kr h669 (elsO_one1 ⟨A697, c698, rfl, h699⟩) (.inr (blk_news b706 rfl)) (show (x665.length + [t687.1].length) * 24 ≤ _ by first | omega | (simp only [List.length_cons, List.length_nil]; omega)) (by decide)) ?_
   rintro _ w712 ⟨A713, c714, F715, rfl, h716, S717, K718⟩
   replace b696 := K718.b 1 b696
   refine lP 1 (wN (inb_n (tN (wR (lP 3 (wN (tN ?_)))))))
   have S719 := S717.pulls [(is g2), F715, (is g705)] [2] rfl
   have S720 := St.first (Fa := [(is g2), F715]) (Fr := [(is g705)]) S719
   exact ⟨k682, (by omega), _, H690, (x665 ++ [t687.1]), A713, c714, F715, (i64.wrap (x670 + 1)), t687.2.b_, A692, c693, t687.2.i_, (by omega), (hdw (hdc (hdc (hdc (hdc (hdc rfl kr) kr) kr) kr) kr)), b696, h716, h694, l695, (Y664.trans E703), S720, M⟩
  refine cT (bT q563) (wQ ?_)
  refine region_mix (S := (fun (L_ : Array Bool) (w_ : World) => Ext H12 (hp w_) ∧ (∀ b_, (or2 (is g435) no) b_ → hp w_ b_ = hp w434 b_))) kr S442 ?_
  intro w564 S565 K566 hc567
  have o568 := h441
  have hs569 : (fun (L_ : Array Bool) (w_ : World) => Ext H12 (hp w_) ∧ (∀ b_, (or2 (is g435) no) b_ → hp w_ b_ = hp w434 b_)) (Array.replicate 13 false) w564 := ⟨S565.inv, (fun b_ h_ => K566.at 0 rfl b_ h_)⟩
  replace h441 := h441.move (K566.a 0)
  replace b18 := K566.b 2 b18
  refine xV 0 94 rfl hc567 hs569 (fun L_ w_ hc_ hu_ hs_ => eM (.slice (some ⟨g435, 0, none⟩) 12 12)) ?_; intro hc570 hs571
  refine xV 1 95 rfl hc570 hs571 (fun L_ w_ hc_ hu_ hs_ => eM (.pointer (some ⟨g2, 0, none⟩))) ?_; intro hc572 hs573
  refine xV 6 100 rfl hc572 hs573 (fun L_ w_ hc_ hu_ hs_ => eM (.pointer (some ⟨g2, 0, none⟩))) ?_; intro hc574 hs575
  refine xV 7 101 rfl hc574 hs575 (fun L_ w_ hc_ hu_ hs_ => eM (.int .i64 x8)) ?_; intro hc576 hs577
  refine xV 8 102 rfl hc576 hs577 (fun L_ w_ hc_ hu_ hs_ => e_sub (k := .i64) (a := x8) (b := 1) kr rfl) ?_; intro hc578 hs579
  have S580 := S565.pulls [(is g2), (or2 (is g435) no), (or2 (is g426) no)] [2] rfl
  obtain ⟨t581, u582, M⟩ := bnd M
  refine xO 2 hc578 ?_
  refine yC 2 rfl (eE func18) (spec_l4rd_next_2.calls t9.2 h16 l17 b18 (St.own' (Fa := [(is g2)]) (Fr := [(or2 (is g435) no), (or2 (is g426) no)]) S580) u582) ?_
  rintro hc591 _ w583 ⟨A586, c587, H584, rfl, h588, l589, b590, T585⟩
  refine ⟨_, rfl, ?_⟩
  obtain ⟨S592, K593⟩ := St.call (Fa := [(is g2)]) (Fr := [(or2 (is g435) no), (or2 (is g426) no)]) S580 T585
  replace h441 := h441.move (K593.a 0)
  have E594 := T585.ext
  replace h441 := h441.ext E594
  refine ⟨⟨(Ext.trans E594 S592.inv), (fun b_ h_ => (K593.at 0 rfl b_ h_).trans (hs579.2 b_ h_))⟩, fun hs595 => ?_⟩
  refine xV 3 97 rfl hc591 hs595 (fun L_ w_ hc_ hu_ hs_ => e_rem (k := .i64) (a := t581.1) (b := 12) kr rfl (by decide)) ?_; intro hc596 hs597
  obtain ⟨q598, M⟩ := chk M
  obtain ⟨q599, M⟩ := chk M
  obtain ⟨b600, e602⟩ := Row.addr h441 (show ((Int.tmod t581.1 12)).toNat < Lt5.length by have : Lt5.length = 12 := rfl; omega)
  refine xV 4 98 rfl hc596 hs597 (fun L_ w_ hc_ hu_ hs_ => eI b600 0 12 12 1 (Int.tmod t581.1 12) .i64 underlying66 e602 q598 q599) ?_; intro hc603 hs604
  refine xV 5 99 rfl hc603 hs604 (fun L_ w_ hc_ hu_ hs_ => eK underlying9 (hpx (Row.pick (j := 0) (u := str (Lt5.getD (((Int.tmod t581.1 12)).toNat) ([] : List UInt8))) (o568.move hs_.2) e602 (getD_some ([] : List UInt8) (show ((Int.tmod t581.1 12)).toNat < Lt5.length by have : Lt5.length = 12 := rfl; omega)) (fun _ _ o_ => by rw [show _ = _ from o_]; rfl)))) ?_; intro hc605 hs606
  obtain ⟨t607, u608, M⟩ := bnd M
  refine xO 9 hc605 ?_
  refine yC 9 rfl (eE func22) (ih k1_ (by omega) w583 H584 t581.2 g2 A586 c587 (i64.wrap (x8 - 1)) h588 l589 b590 (St.own' (Fa := [(is g2)]) (Fr := [(or2 (is g435) no), (or2 (is g426) no)]) S592) t607 u608) ?_
  rintro hc621 _ w609 ⟨A612, c613, A617, c618, F620, H610, rfl, h614, l615, b616, h619, T611⟩
  refine ⟨_, rfl, ?_⟩
  obtain ⟨S622, K623⟩ := St.call (Fa := [(is g2)]) (Fr := [(or2 (is g435) no), (or2 (is g426) no)]) S592 T611
  have E624 := T611.ext
  refine ⟨⟨(Ext.trans (E594.trans E624) S622.inv), (fun b_ h_ => (K623.at 0 rfl b_ h_).trans (hs606.2 b_ h_))⟩, fun hs625 => ?_⟩
  refine xO 10 hc621 ?_
  refine yE 10 104 rfl (new_blk (v := fun g_ => .slice (some ⟨g_, 0, none⟩) 1 1) (cs := #[.slice A617 t607.1.length c618]) (t := 43) S622 kr) ?_
  rintro hc631 _ w626 ⟨g627, rfl, b628, S629, K630⟩
  replace b616 := K630.b 0 b616
  replace h619 := h619.move (K630.a 1)
  refine ⟨⟨(Ext.trans (E594.trans E624) S629.inv), (fun b_ h_ => (K630.at 2 rfl b_ h_).trans (hs625.2 b_ h_))⟩, fun hs632 => ?_⟩
  have S634 := S629.pulls [(is g627), F620, (is g2), (or2 (is g435) no), (or2 (is g426) no)] [2, 1] rfl
  obtain ⟨h635, S636⟩ := row_lit (d := sl70) (xs := [t607.1]) S634 b628 rfl (elsO_one1 ⟨A617, c618, rfl, h619⟩) (Nat.le_of_ble_eq_true rfl)
  have l637 := h635.le
  obtain ⟨H638, S639, E640, h641, z642⟩ := S636.frzRow h635
  obtain ⟨t643, u644, M⟩ := bnd M
  refine xO 11 hc631 ?_
  refine yC 11 rfl (eE func58) (spec_l2comp.calls h641 l637 (St.own' (Fa := []) (Fr := [(is g2), (or2 (is g435) no), (or2 (is g426) no)]) S639) u644) ?_
  rintro hc652 _ w645 ⟨A648, c649, F651, H646, rfl, h650, T647⟩
  refine ⟨_, rfl, ?_⟩
  obtain ⟨S653, K654⟩ := St.call (Fa := []) (Fr := [(is g2), (or2 (is g435) no), (or2 (is g426) no)]) S639 T647
  replace b616 := K654.b 0 b616
  have E655 := T647.ext
  refine ⟨⟨(Ext.trans (((E594.trans E624).trans E640).trans E655) S653.inv), (fun b_ h_ => (K654.at 1 rfl b_ h_).trans (hs632.2 b_ h_))⟩, fun hs656 => ?_⟩
  refine xO 12 hc652 ?_
  refine yO 12 4 rfl hs656 (eA (.slice A648 t643.length c649)) ?_; intro hc657 hs658
  refine xn kr ?_ _
  refine tN (wT (tR ?_))
  obtain rfl := sj M
  have S659 := S653.pulls [(is g2), F651, (or2 (is g435) no), (or2 (is g426) no)] [1] rfl
  have S660 := St.first (Fa := [(is g2), F651]) (Fr := [(or2 (is g435) no), (or2 (is g426) no)]) S659
  exact ret1 rfl rfl  kr ⟨A612, c613, A648, c649, F651, H646, rfl, (h614.ext (E640.trans E655)), l615, b616, h650, S660⟩
theorem spec_l4term.calls {k : Nat} {w : World} {H : Hp} (x1 : GL4rd) {g2 : Nat} {A4 : Option Addr} {c5 : Nat} {x8 : Int} (h6 : Rd tByte H A4 x1.b_) (l7 : x1.b_.length ≤ c5) (b3 : w.heap[g2]? = some (.cells #[.slice A4 x1.b_.length c5, .int .i64 x1.i_] 51 (0, 0))) (S : Own [(is g2)] H w) {r : (List Cell) × GL4rd} (M : spec_l4term.f k x1 x8 = some r) :
  Calls Tryz.prog 22 #[.pointer (some ⟨g2, 0, none⟩), .int .i64 x8] w (fun e e_w => ∃ (A_1 : Option Addr) (c_1 : Nat) (A_2 : Option Addr) (c_2 : Nat) (F_1 : Foot) (H_ : Hp), e = .returned (.slice A_2 r.1.length c_2) ∧ Rd tByte H_ A_1 r.2.b_ ∧ r.2.b_.length ≤ c_1 ∧ e_w.heap[g2]? = some (.cells #[.slice A_1 r.2.b_.length c_1, .int .i64 r.2.i_] 51 (0, 0)) ∧ Row st70 70 H_ (hp e_w) F_1 A_2 c_2 r.1 ∧ St (anyOf [(is g2)]) H w [(is g2), F_1] H_ e_w) := (spec_l4term.all (k + 1)) k (Nat.lt_succ_self k) w H x1 g2 A4 c5 x8 h6 l7 b3 S r M
def spec_l2cell.f (x1 : Cell) : Option Bool := (if x1.kind = 0 then (if x1.n ≥ 0 then (if x1.n ≤ 1000000 then some (decide ((x1.text.length : Int) = 0)) else some false) else some false) else (if x1.kind = 1 then (if x1.n ≥ (-1000000000000000) then (if x1.n ≤ 1000000000000000 then some (decide ((x1.text.length : Int) = 0)) else some false) else some false) else (if (x1.text.length : Int) > 100 then some false else (if x1.kind = 2 then some (decide (x1.n = 0)) else (if x1.kind = 3 then (if x1.n ≥ 1 then some (decide (x1.n ≤ 20)) else some false) else some false)))))
theorem spec_l2cell.calls {w : World} {H : Hp} (x1 : Cell) {A2 : Option Addr} {c3 : Nat} (h4 : Rd tByte H A2 x1.text) (l5 : x1.text.length ≤ c3) (S : Own [] H w) {r : Bool} (M : spec_l2cell.f x1 = some r) :
  Calls Tryz.prog 59 #[.agg #[.int .i64 x1.kind, .int .i64 x1.n, .slice A2 x1.text.length c3]] w (fun e e_w => e = .returned (.bool r) ∧ Chg no w e_w) := by
 rw [spec_l2cell.f] at M
 refine enter (l := [.agg #[.int .i64 x1.kind, .int .i64 x1.n, .slice A2 x1.text.length c3]]) 60 func59 rfl rfl rfl ?_
 have S0_ := S.st
 refine wQ (wR ?_)
 refine lW 1 (nB #[.int .i64 x1.kind, .int .i64 x1.n, .slice A2 x1.text.length c3] 70 S0_) ?_
 rintro _ w6 ⟨g7, rfl, b9, S10, K11⟩
 refine lP 1 (wN (tN (wQ (wQ (wR (lP 1 (lV 4 (eB 0 b9) (lP 1 (wN (tN ?_))))))))))
 obtain ⟨q12, M⟩ | ⟨q12, M⟩ := ifc M
 ·refine cT (bT q12) (wQ (wR (lP 1 (lV 7 (eB 1 b9) (lP 2 ?_)))))
  obtain ⟨q13, M⟩ | ⟨q13, M⟩ := ifd M
  ·refine lP1 11 9 (bF q13) (wN (tN (wT (tR ?_))))
   obtain rfl := sj M
   exact ret1 rfl rfl  kr ⟨rfl, S10.chg⟩
  refine lP1 1 9 (bT q13) (lG 11 9 (bT q13) (eB 1 b9) (lP1 3 9 (bT q13) ?_))
  obtain ⟨q14, M⟩ | ⟨q14, M⟩ := ifd M
  ·refine lP1 6 14 (bF q14) (wN (tN (wT (tR ?_))))
   obtain rfl := sj M
   exact ret1 rfl rfl  kr ⟨rfl, S10.chg⟩
  refine lP1 1 14 (bT q14) (lG 16 14 (bT q14) (eB 2 b9) (lP1 4 14 (bT q14) (wN (tN (wT (tR ?_))))))
  obtain rfl := sj M
  exact ret1 rfl rfl  kr ⟨rfl, S10.chg⟩
 refine cF (bF q12) (wK (tN (wQ (wQ (wR (lP 1 (lV 21 (eB 0 b9) (lP 1 (wN (tN ?_))))))))))
 obtain ⟨q15, M⟩ | ⟨q15, M⟩ := ifc M
 ·refine cT (bT q15) (wQ (wR (lP 1 (lV 24 (eB 1 b9) (lP 2 ?_)))))
  obtain ⟨q16, M⟩ | ⟨q16, M⟩ := ifd M
  ·refine lP1 11 26 (bF q16) (wN (tN (wT (tR ?_))))
   obtain rfl := sj M
   exact ret1 rfl rfl  kr ⟨rfl, S10.chg⟩
  refine lP1 1 26 (bT q16) (lG 28 26 (bT q16) (eB 1 b9) (lP1 3 26 (bT q16) ?_))
  obtain ⟨q17, M⟩ | ⟨q17, M⟩ := ifd M
  ·refine lP1 6 31 (bF q17) (wN (tN (wT (tR ?_))))
   obtain rfl := sj M
   exact ret1 rfl rfl  kr ⟨rfl, S10.chg⟩
  refine lP1 1 31 (bT q17) (lG 33 31 (bT q17) (eB 2 b9) (lP1 4 31 (bT q17) (wN (tN (wT (tR ?_))))))
  obtain rfl := sj M
  exact ret1 rfl rfl  kr ⟨rfl, S10.chg⟩
 refine cF (bF q15) (wK (tN (wQ (wQ (wR (lP 1 (lV 38 (eB 2 b9) (lP 2 (wN (tN ?_))))))))))
 obtain ⟨q18, M⟩ | ⟨q18, M⟩ := ifc M
 ·refine cT (bT q18) (wQ (wR (lP 1 (wN (tN (wT (tR ?_)))))))
  obtain rfl := sj M
  exact ret1 rfl rfl  kr ⟨rfl, S10.chg⟩
 refine cF (bF q18) (wK (tN (wQ (wQ (wR (lP 1 (lV 42 (eB 0 b9) (lP 1 (wN (tN ?_))))))))))
 obtain ⟨q19, M⟩ | ⟨q19, M⟩ := ifc M
 ·refine cT (bT q19) (wQ (wR (lP 1 (lV 45 (eB 1 b9) (lP 2 (wN (tN (wT (tR ?_)))))))))
  obtain rfl := sj M
  exact ret1 rfl rfl  kr ⟨rfl, S10.chg⟩
 refine cF (bF q19) (wK (tN (wQ (wR (lP 1 (lV 48 (eB 0 b9) (lP 2 ?_)))))))
 obtain ⟨q20, M⟩ | ⟨q20, M⟩ := ifd M
 ·refine lP1 10 50 (bF q20) (wN (tN (wT ?_)))
  obtain rfl := sj M
  exact ret1 rfl rfl  kr ⟨rfl, S10.chg⟩
 refine lP1 1 50 (bT q20) (lG 52 50 (bT q20) (eB 1 b9) (lP1 3 50 (bT q20) ?_))
 obtain ⟨q21, M⟩ | ⟨q21, M⟩ := ifd M
 ·refine lP1 5 55 (bF q21) (wN (tN (wT ?_)))
  obtain rfl := sj M
  exact ret1 rfl rfl  kr ⟨rfl, S10.chg⟩
 refine lP1 1 55 (bT q21) (lG 57 55 (bT q21) (eB 1 b9) (lP1 3 55 (bT q21) (wN (tN (wT ?_)))))
 obtain rfl := sj M
 exact ret1 rfl rfl  kr ⟨rfl, S10.chg⟩
def spec_ValidTerm.l0 : Nat → (List Cell) → Int → Int → Option Bool
 | 0, _, _, _ => none
 | k16 + 1, x1, x9, x10 => (if x10 < (x1.length : Int) then (if x9 = 0 then some false else (if 0 ≤ x10 then ((spec_l2cell.f (x1.getD ((x10).toNat) z70)).bind fun t30 => (if ¬ (t30 = true) then some false else (if ((x1.getD ((x10).toNat) z70).kind) = 3 then (spec_ValidTerm.l0 k16 x1 (i64.wrap ((i64.wrap (x9 - 1)) + ((x1.getD ((x10).toNat) z70).n))) (i64.wrap (x10 + 1))) else (spec_ValidTerm.l0 k16 x1 (i64.wrap (x9 - 1)) (i64.wrap (x10 + 1)))))) else none)) else some (decide (x9 = 0)))
def spec_ValidTerm.f (k : Nat) (x1 : List Cell) : Option Bool := (if (x1.length : Int) > 2000 then some false else (spec_ValidTerm.l0 k x1 1 0))
theorem spec_ValidTerm.calls {k : Nat} {w : World} {H : Hp} {x1 : List Cell} {A2 : Option Addr} {c3 : Nat} (h4 : Rd st70 H A2 x1) (l5 : x1.length ≤ c3) (S : Own [] H w) {r : Bool} (M : spec_ValidTerm.f k x1 = some r) :
  Calls Tryz.prog 23 #[.slice A2 x1.length c3] w (fun e e_w => e = .returned (.bool r) ∧ Chg no w e_w) := by
 rw [spec_ValidTerm.f] at M
 refine enter (l := [.slice A2 x1.length c3]) 41 func23 rfl rfl rfl ?_
 have S0_ := S.st
 refine wQ (wR (lP 1 (wN (tN (wQ (wQ (wR (lP 3 (wN (tN ?_))))))))))
 obtain ⟨q6, M⟩ | ⟨q6, M⟩ := ifc M
 ·refine cT (bT q6) (wQ (wR (lP 1 (wN (tN (wT (tR ?_)))))))
  obtain rfl := sj M
  exact ret1 rfl rfl  kr ⟨rfl, S0_.chg⟩
 refine cF (bF q6) (wK (tN (wQ (wR (lP 1 (wN (tN (wQ (wQ (wR (lP 1 (wN (tN (wp_block ?_))))))))))))))
 refine wp_loop_g (fun k14 a15 w7 => ∃ (f8 : Nat → Value) (x9 : Int) (x10 : Int), a15 = mk 41 (upd (upd (upd f8 0 (.slice A2 x1.length c3)) 3 (.int .i64 x9)) 4 (.int .i64 x10)) ∧ St (anyOf []) H w [] H w7 ∧ spec_ValidTerm.l0 k14 x1 x9 x10 = some r) k ⟨_, 1, 0, (hdw (hdc (hdc (hdc rfl kr) kr) kr)), S0_, M⟩ ?_
 clear M
 rintro k14 a15 w7 ⟨f8, x9, x10, rfl, S11, M⟩
 rcases k14 with _ | k16
 ·rw [spec_ValidTerm.l0] at M
  cases M
 rw [spec_ValidTerm.l0] at M
 refine wQ (wQ (wR (lP 4 (wN (tN ?_)))))
 obtain ⟨q17, M⟩ | ⟨q17, M⟩ := ifd M
 ·refine cF (bF q17) (wp_exit (tE (tE (inb_hit (tN (wQ (wR (lP 3 (wN (tN (wT ?_)))))))))))
  obtain rfl := sj M
  exact ret1 rfl rfl  kr ⟨rfl, S11.chg⟩
 refine cT (bT q17) (wK (tN (wQ (wp_block (wQ (wQ (wR (lP 3 ?_))))))))
 obtain ⟨q18, M⟩ | ⟨q18, M⟩ := ifc M
 ·refine lP1 7 16 (bT q18) (wN (tN (cond_t rfl kr (wQ (wR (lP 1 (wN (tN (wT (tR (inb_r (tR (tR (inb_r (tR ?_)))))))))))))))
  obtain rfl := sj M
  exact ret1 rfl rfl  kr ⟨rfl, S11.chg⟩
 refine lP1 2 16 (bF q18) ?_
 obtain ⟨q19, M⟩ := chk M
 obtain ⟨b20, o21, e22⟩ := Rd.addr h4 (show (x10).toNat < x1.length by omega)
 obtain ⟨y23, r24, k25⟩ := Rd.at h4 e22 (getD_some z70 (show (x10).toNat < x1.length by omega))
 obtain ⟨A26, c27, rfl, l28, h29⟩ := st70_open r24
 refine lG 19 16 (bF q18) (eJ underlying43 e22 q19 q17) (lG 20 16 (bF q18) (e_loadS (b := b20) (off := o21 + (x10 : Int).toNat * 3) (cs := [.int .i64 ((x1.getD ((x10).toNat) z70).kind), .int .i64 ((x1.getD ((x10).toNat) z70).n), .slice A26 ((x1.getD ((x10).toNat) z70).text).length c27]) underlying70 rfl kr kr (fun j_ u_ e_ => (hpx (S11.inv.cell (k25 j_ u_ e_))))) ?_)
 obtain ⟨t30, u31, M⟩ := bnd M
 refine lcallg (d := 21) (t := 16) rfl kr rfl (bF q18) rfl kr (eE func59) (spec_l2cell.calls (x1.getD ((x10).toNat) z70) h29 l28 S11.own0 u31) ?_
 rintro _ w32 ⟨rfl, C33⟩
 refine ⟨_, rfl, ?_⟩
 obtain ⟨S34, K35⟩ := S11.still C33
 refine lG 22 16 (bF q18) (e_notv (c := t30) kr) (lP1 1 16 (bF q18) (wN (tN ?_)))
 obtain ⟨q36, M⟩ | ⟨q36, M⟩ := ifc M
 ·refine cT (bT q36) (wQ (wR (lP 1 (wN (tN (wT (tR ?_)))))))
  refine inb_r (tR (tR (inb_r (tR ?_))))
  obtain rfl := sj M
  exact ret1 rfl rfl  kr ⟨rfl, S34.chg⟩
 refine cF (bF q36) (wK (tN (wQ (wR (lP 3 (wN (tN (wQ (wR (lP 2 ?_))))))))))
 obtain ⟨b37, o38, e39⟩ := Rd.addr h4 (show (x10).toNat < x1.length by omega)
 obtain ⟨y40, r41, k42⟩ := Rd.at h4 e39 (getD_some z70 (show (x10).toNat < x1.length by omega))
 obtain ⟨A43, c44, rfl, l45, h46⟩ := st70_open r41
 refine lV 28 (eJ underlying43 e39 q19 q17) (lP 1 (lV 30 (eK underlying3 (hpx (S34.inv.cell (k42 0 _ rfl)))) (lP 1 (wN (tN ?_)))))
 obtain ⟨q47, M⟩ | ⟨q47, M⟩ := ifd M
 ·refine cF (bF q47) (wK (inb_n (tN (wR (lP 3 (wN (tN ?_)))))))
  exact ⟨k16, (by omega), _, (i64.wrap (x9 - 1)), (i64.wrap (x10 + 1)), (hdw (hdc (hdc (hdc rfl kr) kr) kr)), S34, M⟩
 refine cT (bT q47) (wR (lP 3 ?_))
 obtain ⟨b48, o49, e50⟩ := Rd.addr h4 (show (x10).toNat < x1.length by omega)
 obtain ⟨y51, r52, k53⟩ := Rd.at h4 e50 (getD_some z70 (show (x10).toNat < x1.length by omega))
 obtain ⟨A54, c55, rfl, l56, h57⟩ := st70_open r52
 refine lV 35 (eJ underlying43 e50 q19 q17) (lP 1 (lV 37 (eK underlying3 (hpx (S34.inv.cell (k53 1 _ rfl)))) (lP 2 (wN (inb_n (tN (wR (lP 3 (wN (tN ?_))))))))))
 exact ⟨k16, (by omega), _, (i64.wrap ((i64.wrap (x9 - 1)) + ((x1.getD ((x10).toNat) z70).n))), (i64.wrap (x10 + 1)), (hdw (hdc (hdc (hdc rfl kr) kr) kr)), S34, M⟩
def spec_l3words.l0 : Nat → (List UInt8) → (List (List UInt8)) → (List UInt8) → Int → Option (List (List UInt8))
 | 0, _, _, _, _ => none
 | k16 + 1, x1, x4, x9, x10 => (if x10 ≤ (x1.length : Int) then (if x10 = (x1.length : Int) then (if x9 ≠ ([] : List UInt8) then (if x4.length + 1 ≤ 8796093022208 then (spec_l3words.l0 k16 x1 (x4 ++ [x9]) ([] : List UInt8) (i64.wrap (x10 + 1))) else none) else (spec_l3words.l0 k16 x1 x4 ([] : List UInt8) (i64.wrap (x10 + 1)))) else (if 0 ≤ x10 then (if x10 < (x1.length : Int) then (if ((x1.getD (x10 : Int).toNat (0 : UInt8)).toNat : Int) = 32 then (if x9 ≠ ([] : List UInt8) then (if x4.length + 1 ≤ 8796093022208 then (spec_l3words.l0 k16 x1 (x4 ++ [x9]) ([] : List UInt8) (i64.wrap (x10 + 1))) else none) else (spec_l3words.l0 k16 x1 x4 ([] : List UInt8) (i64.wrap (x10 + 1)))) else (if x10 ≤ (i64.wrap (x10 + 1)) then (if (i64.wrap (x10 + 1)) ≤ (x1.length : Int) then (if x9.length + ((x1.drop (x10 : Int).toNat).take (((i64.wrap (x10 + 1)) : Int).toNat - (x10 : Int).toNat)).length ≤ 9223372036854775807 then (spec_l3words.l0 k16 x1 x4 (x9 ++ ((x1.drop (x10 : Int).toNat).take (((i64.wrap (x10 + 1)) : Int).toNat - (x10 : Int).toNat))) (i64.wrap (x10 + 1))) else none) else none) else none)) else none) else none)) else some x4)
def spec_l3words.f (k : Nat) (x1 : List UInt8) : Option (List (List UInt8)) := (spec_l3words.l0 k x1 [] ([] : List UInt8) 0)
theorem spec_l3words.calls {k : Nat} {w : World} {H : Hp} {x1 : List UInt8} (S : Own [] H w) {r : List (List UInt8)} (M : spec_l3words.f k x1 = some r) :
  Calls Tryz.prog 62 #[str x1] w (fun e e_w => ∃ (A_1 : Option Addr) (c_1 : Nat) (F_1 : Foot) (H_ : Hp), e = .returned (.slice A_1 r.length c_1) ∧ Row tStr 9 H_ (hp e_w) F_1 A_1 c_1 r ∧ St (anyOf []) H w [F_1] H_ e_w) := by
 rw [spec_l3words.f] at M
 refine enter (l := [str x1]) 36 func62 rfl rfl rfl ?_
 have S0_ := S.st
 refine wQ (wR (lP 1 (wN (tN (wQ (wR (lP 1 (wN (tN (wQ (wR (lP 1 (wN (tN (wQ (wQ (wR (lP 1 (wN (tN (wp_block ?_)))))))))))))))))))))
 have S17 := S0_.unit
 refine wp_loop_g (fun k14 a15 w2 => ∃ (f3 : Nat → Value) (x4 : List (List UInt8)) (A5 : Option Addr) (c6 : Nat) (F7 : Foot) (x9 : List UInt8) (x10 : Int), a15 = mk 36 (upd (upd (upd (upd f3 0 (str x1)) 3 (.slice A5 x4.length c6)) 4 (str x9)) 5 (.int .i64 x10)) ∧ Row tStr 9 H (hp w2) F7 A5 c6 x4 ∧ St (anyOf []) H w [F7] H w2 ∧ spec_l3words.l0 k14 x1 x4 x9 x10 = some r) k ⟨_, [], none, 0, no, ([] : List UInt8), 0, (hdw (hdc (hdc (hdc (hdc rfl kr) kr) kr) kr)), (Row.nil _ _ _ _ _), S17, M⟩ ?_
 clear M
 rintro k14 a15 w2 ⟨f3, x4, A5, c6, F7, x9, x10, rfl, h8, S11, M⟩
 rcases k14 with _ | k16
 ·rw [spec_l3words.l0] at M
  cases M
 rw [spec_l3words.l0] at M
 refine wQ (wQ (wR (lP 2 (lV 8 (e_slen (p := x1) underlying9 kr) (lP 1 (wN (tN ?_)))))))
 obtain ⟨q18, M⟩ | ⟨q18, M⟩ := ifd M
 ·refine cF (bF q18) (wp_exit (tE (tE (inb_hit (tN (wQ (wR (lP 2 (wN (tN (wT ?_)))))))))))
  obtain rfl := sj M
  exact ret1 rfl rfl  kr ⟨A5, c6, F7, H, rfl, h8, S11⟩
 refine cT (bT q18) (wK (tN (wQ (wp_block (wQ (wR (lP 2 (lV 14 (e_slen (p := x1) underlying9 kr) (lP 2 ?_)))))))))
 obtain ⟨q19, M⟩ | ⟨q19, M⟩ := ifc M
 ·refine lP1 5 16 (bT q19) (wN (tN (cond_t rfl kr (wQ (wQ (wR (lP 1 (lV 23 (e_sneq (p := x9) (q := ([] : List UInt8)) kr rfl) (wN (tN ?_))))))))))
  obtain ⟨q20, M⟩ | ⟨q20, M⟩ := ifd M
  ·refine cF (bF q20) (wK (tN (wR (lP 1 (wN (inb_n (tN (wR (lP 3 (wN (tN ?_)))))))))))
   exact ⟨k16, (by omega), _, x4, A5, c6, F7, ([] : List UInt8), (i64.wrap (x10 + 1)), (hdw (hdc (hdc (hdc (hdc rfl kr) kr) kr) kr)), h8, S11, M⟩
  refine cT (bT q20) (wR (lP 2 ?_))
  refine lW 26 (new_blk (v := fun g_ => .slice (some ⟨g_, 0, none⟩) 1 1) (cs := #[str x9]) (t := 9) S11 kr) ?_
  rintro _ w21 ⟨g22, rfl, b23, S24, K25⟩
  replace h8 := h8.move (K25.a 0)
  obtain ⟨q26, M⟩ := chk M
  have S27 := S24.pulls [F7, (is g22)] [1] rfl
  have S28 := S27.unit
  have S29 := S28.pulls [F7, no, (is g22)] [1] rfl
  refine lW 27 (e_append (d := tStr) (n := x4.length) (xs := x4) (cap := c6) (A := A5) (ys := [x9]) (A2 := (some ⟨g22, 0, none⟩)) (c2 := 1) (z := str ([] : List UInt8)) (bytes := 16) S29 underlying66 kr rfl (by decide) kr rfl kr h8 (elsO_one1 rfl) (.inr (blk_news b23 rfl)) (show (x4.length + [x9].length) * 16 ≤ _ by first | omega | (simp only [List.length_cons, List.length_nil]; omega)) (by decide)) ?_
  rintro _ w30 ⟨A31, c32, F33, rfl, h34, S35, K36⟩
  refine lP 1 (wN (tN (wR (lP 1 (wN (inb_n (tN (wR (lP 3 (wN (tN ?_)))))))))))
  have S37 := St.first (Fa := [F33]) (Fr := [(is g22)]) S35
  exact ⟨k16, (by omega), _, (x4 ++ [x9]), A31, c32, F33, ([] : List UInt8), (i64.wrap (x10 + 1)), (hdw (hdc (hdc (hdc (hdc rfl kr) kr) kr) kr)), h34, S37, M⟩
 refine lP1 2 16 (bF q19) ?_
 obtain ⟨q38, M⟩ := chk M
 obtain ⟨q39, M⟩ := chk M
 refine lG 19 16 (bF q19) (e_sindex (p := x1) (i := x10) (k := .i64) underlying9 kr kr q38 q39) (lP1 2 16 (bF q19) (wN (tN ?_)))
 obtain ⟨q40, M⟩ | ⟨q40, M⟩ := ifd M
 ·refine cF (bF q40) (wR (lP 5 ?_))
  obtain ⟨q59, M⟩ := chk M
  obtain ⟨q60, M⟩ := chk M
  refine lV 33 (e_sslice_lh (p := x1) (a := x10) (b := (i64.wrap (x10 + 1))) (k := .i64) (k2 := .i64) underlying9 kr kr kr q38 q59 q60) ?_
  obtain ⟨q61, M⟩ := chk M
  refine lV 34 (e_sadd (p := x9) (q := ((x1.drop (x10 : Int).toNat).take (((i64.wrap (x10 + 1)) : Int).toNat - (x10 : Int).toNat))) kr kr q61) (lP 1 (wN (inb_n (tN (wR (lP 3 (wN (tN ?_))))))))
  exact ⟨k16, (by omega), _, x4, A5, c6, F7, (x9 ++ ((x1.drop (x10 : Int).toNat).take (((i64.wrap (x10 + 1)) : Int).toNat - (x10 : Int).toNat))), (i64.wrap (x10 + 1)), (hdw (hdc (hdc (hdc (hdc rfl kr) kr) kr) kr)), h8, S11, M⟩
 refine cT (bT q40) (wQ (wQ (wR (lP 1 (lV 23 (e_sneq (p := x9) (q := ([] : List UInt8)) kr rfl) (wN (tN ?_)))))))
 obtain ⟨q41, M⟩ | ⟨q41, M⟩ := ifd M
 ·refine cF (bF q41) (wK (tN (wR (lP 1 (wN (inb_n (tN (wR (lP 3 (wN (tN ?_)))))))))))
  exact ⟨k16, (by omega), _, x4, A5, c6, F7, ([] : List UInt8), (i64.wrap (x10 + 1)), (hdw (hdc (hdc (hdc (hdc rfl kr) kr) kr) kr)), h8, S11, M⟩
 refine cT (bT q41) (wR (lP 2 ?_))
 refine lW 26 (new_blk (v := fun g_ => .slice (some ⟨g_, 0, none⟩) 1 1) (cs := #[str x9]) (t := 9) S11 kr) ?_
 rintro _ w42 ⟨g43, rfl, b44, S45, K46⟩
 replace h8 := h8.move (K46.a 0)
 obtain ⟨q47, M⟩ := chk M
 have S48 := S45.pulls [F7, (is g43)] [1] rfl
 have S49 := S48.unit
 have S50 := S49.pulls [F7, no, (is g43)] [1] rfl
 refine lW 27 (e_append (d := tStr) (n := x4.length) (xs := x4) (cap := c6) (A := A5) (ys := [x9]) (A2 := (some ⟨g43, 0, none⟩)) (c2 := 1) (z := str ([] : List UInt8)) (bytes := 16) S50 underlying66 kr rfl (by decide) kr rfl kr h8 (elsO_one1 rfl) (.inr (blk_news b44 rfl)) (show (x4.length + [x9].length) * 16 ≤ _ by first | omega | (simp only [List.length_cons, List.length_nil]; omega)) (by decide)) ?_
 rintro _ w51 ⟨A52, c53, F54, rfl, h55, S56, K57⟩
 refine lP 1 (wN (tN (wR (lP 1 (wN (inb_n (tN (wR (lP 3 (wN (tN ?_)))))))))))
 have S58 := St.first (Fa := [F54]) (Fr := [(is g43)]) S56
 exact ⟨k16, (by omega), _, (x4 ++ [x9]), A52, c53, F54, ([] : List UInt8), (i64.wrap (x10 + 1)), (hdw (hdc (hdc (hdc (hdc rfl kr) kr) kr) kr)), h55, S58, M⟩
def st86 : Ty Sy.Op := iso (pair sl5 (pair tInt tInt)) (fun x => (x.name, x.pri, x.typ))
theorem st86_open {H : Hp} {x : Sy.Op} {cs : List Value} (h : st86.R H x cs) : ∃ (A0 : Option Addr) (c0 : Nat), cs = [.slice A0 x.name.length c0, .int .i64 x.pri, .int .i64 x.typ] ∧ x.name.length ≤ c0 ∧ Rd tByte H A0 x.name := by
 obtain ⟨_, _, rfl, ⟨A0, c0, rfl, l0, h0⟩, ⟨_, _, rfl, rfl, rfl⟩⟩ := h
 exact ⟨A0, c0, rfl, l0, h0⟩
theorem st86_mkR {H : Hp} {x : Sy.Op} {A0 : Option Addr} {c0 : Nat} (l0 : x.name.length ≤ c0) (h0 : Rd tByte H A0 x.name) : st86.R H x [.slice A0 x.name.length c0, .int .i64 x.pri, .int .i64 x.typ] := ⟨[.slice A0 x.name.length c0], [.int .i64 x.pri, .int .i64 x.typ], rfl, ⟨A0, c0, rfl, l0, h0⟩, ⟨[.int .i64 x.pri], [.int .i64 x.typ], rfl, rfl, rfl⟩⟩
def z86 : Sy.Op := ⟨([] : List UInt8), (0 : Int), (0 : Int)⟩
def spec_l3prefix.f (x1 : Int) : Option Bool := (if x1 = 3 then some true else some (decide (x1 = 4)))
theorem spec_l3prefix.calls {w : World} {H : Hp} {x1 : Int} (S : Own [] H w) {r : Bool} (M : spec_l3prefix.f x1 = some r) :
  Calls Tryz.prog 75 #[.int .i64 x1] w (fun e e_w => e = .returned (.bool r) ∧ Chg no w e_w) := by
 rw [spec_l3prefix.f] at M
 refine enter (l := [.int .i64 x1]) 9 func75 rfl rfl rfl ?_
 have S0_ := S.st
 refine wQ (wR (lP 1 (wN (tN (wQ (wR (lP 3 ?_)))))))
 obtain ⟨q2, M⟩ | ⟨q2, M⟩ := ifc M
 ·refine lP1 4 5 (bT q2) (wN (tN (wT ?_)))
  obtain rfl := sj M
  exact ret1 rfl rfl  kr ⟨rfl, S0_.chg⟩
 refine lP1 4 5 (bF q2) (wN (tN (wT ?_)))
 obtain rfl := sj M
 exact ret1 rfl rfl  kr ⟨rfl, S0_.chg⟩
end Go.Proofs.YtdkbfcmekppnmaaGreatDoor
