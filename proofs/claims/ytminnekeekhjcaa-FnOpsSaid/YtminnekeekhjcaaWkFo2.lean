import Derived.Test.YtminnekeekhjcaaWkFo1
namespace Go.Proofs.Ytminnekeekhjcaa
open Go.Sx Go.Sy
attribute [local irreducible] Go.wpList Go.wpStill Go.wpQuiet Go.Code.wp
set_option maxRecDepth 100000
set_option maxHeartbeats 1000000
set_option linter.unusedVariables false
set_option linter.unusedSimpArgs false

/-! spec_l4name -/
def spec_l4name.f (x1 : GL4rd) : Option ((List UInt8) × GL4rd) := ((spec_l4rd_next_2.f x1).bind fun t18 => (if t18.1 < 180 then (if 0 ≤ (Int.tmod t18.1 6) then (if (Int.tmod t18.1 6) < (28 : Int) then (if ([([97] : List UInt8), ([102, 111, 111] : List UInt8), ([98, 49] : List UInt8), ([91, 93] : List UInt8), ([45] : List UInt8), ([43] : List UInt8), ([61] : List UInt8), ([58, 45] : List UInt8), ([44] : List UInt8), ([105, 115] : List UInt8), ([] : List UInt8), ([88, 32, 121] : List UInt8), ([92, 43] : List UInt8), ([123, 125] : List UInt8), ([33] : List UInt8), ([59] : List UInt8), ([46] : List UInt8), ([47, 42] : List UInt8), ([105, 116, 39, 115] : List UInt8), ([10, 128] : List UInt8), ([120, 111, 114] : List UInt8), ([109, 111, 100] : List UInt8), ([124] : List UInt8), ([42] : List UInt8), ([100, 121, 110, 97, 109, 105, 99] : List UInt8), ([64] : List UInt8), ([64, 64] : List UInt8), ([104, 101, 108, 108, 111, 95, 87, 111, 114, 108, 100] : List UInt8)].getD (((Int.tmod t18.1 6)).toNat) ([] : List UInt8)).length ≤ 9223372036854775807 then some (([([97] : List UInt8), ([102, 111, 111] : List UInt8), ([98, 49] : List UInt8), ([91, 93] : List UInt8), ([45] : List UInt8), ([43] : List UInt8), ([61] : List UInt8), ([58, 45] : List UInt8), ([44] : List UInt8), ([105, 115] : List UInt8), ([] : List UInt8), ([88, 32, 121] : List UInt8), ([92, 43] : List UInt8), ([123, 125] : List UInt8), ([33] : List UInt8), ([59] : List UInt8), ([46] : List UInt8), ([47, 42] : List UInt8), ([105, 116, 39, 115] : List UInt8), ([10, 128] : List UInt8), ([120, 111, 114] : List UInt8), ([109, 111, 100] : List UInt8), ([124] : List UInt8), ([42] : List UInt8), ([100, 121, 110, 97, 109, 105, 99] : List UInt8), ([64] : List UInt8), ([64, 64] : List UInt8), ([104, 101, 108, 108, 111, 95, 87, 111, 114, 108, 100] : List UInt8)].getD (((Int.tmod t18.1 6)).toNat) ([] : List UInt8)), t18.2) else none) else none) else none) else (if 0 ≤ (Int.tmod t18.1 28) then (if (Int.tmod t18.1 28) < (28 : Int) then (if ([([97] : List UInt8), ([102, 111, 111] : List UInt8), ([98, 49] : List UInt8), ([91, 93] : List UInt8), ([45] : List UInt8), ([43] : List UInt8), ([61] : List UInt8), ([58, 45] : List UInt8), ([44] : List UInt8), ([105, 115] : List UInt8), ([] : List UInt8), ([88, 32, 121] : List UInt8), ([92, 43] : List UInt8), ([123, 125] : List UInt8), ([33] : List UInt8), ([59] : List UInt8), ([46] : List UInt8), ([47, 42] : List UInt8), ([105, 116, 39, 115] : List UInt8), ([10, 128] : List UInt8), ([120, 111, 114] : List UInt8), ([109, 111, 100] : List UInt8), ([124] : List UInt8), ([42] : List UInt8), ([100, 121, 110, 97, 109, 105, 99] : List UInt8), ([64] : List UInt8), ([64, 64] : List UInt8), ([104, 101, 108, 108, 111, 95, 87, 111, 114, 108, 100] : List UInt8)].getD (((Int.tmod t18.1 28)).toNat) ([] : List UInt8)).length ≤ 9223372036854775807 then some (([([97] : List UInt8), ([102, 111, 111] : List UInt8), ([98, 49] : List UInt8), ([91, 93] : List UInt8), ([45] : List UInt8), ([43] : List UInt8), ([61] : List UInt8), ([58, 45] : List UInt8), ([44] : List UInt8), ([105, 115] : List UInt8), ([] : List UInt8), ([88, 32, 121] : List UInt8), ([92, 43] : List UInt8), ([123, 125] : List UInt8), ([33] : List UInt8), ([59] : List UInt8), ([46] : List UInt8), ([47, 42] : List UInt8), ([105, 116, 39, 115] : List UInt8), ([10, 128] : List UInt8), ([120, 111, 114] : List UInt8), ([109, 111, 100] : List UInt8), ([124] : List UInt8), ([42] : List UInt8), ([100, 121, 110, 97, 109, 105, 99] : List UInt8), ([64] : List UInt8), ([64, 64] : List UInt8), ([104, 101, 108, 108, 111, 95, 87, 111, 114, 108, 100] : List UInt8)].getD (((Int.tmod t18.1 28)).toNat) ([] : List UInt8)), t18.2) else none) else none) else none)))
theorem spec_l4name.calls (w : World) (H : Hp) (x1 : GL4rd) (g2 : Nat) (A4 : Option Addr) (c5 : Nat) (h6 : Rd tByte H A4 x1.b_) (l7 : x1.b_.length ≤ c5) (b3 : w.heap[g2]? = some (.cells #[.slice A4 x1.b_.length c5, .int .i64 x1.i_] 66 (0, 0))) (S : Own [(is g2)] H w) (r : (List UInt8) × GL4rd) (M : spec_l4name.f x1 = some r) :
    Calls Try.prog 44 #[.pointer (some ⟨g2, 0, none⟩)] w (fun e e_w => ∃ (A_1 : Option Addr) (c_1 : Nat) (A_2 : Option Addr) (c_2 : Nat) (F_1 : Foot) (H_ : Hp), e = .returned (.slice A_2 r.1.length c_2) ∧ Rd tByte H_ A_1 r.2.b_ ∧ r.2.b_.length ≤ c_1 ∧ e_w.heap[g2]? = some (.cells #[.slice A_1 r.2.b_.length c_1, .int .i64 r.2.i_] 66 (0, 0)) ∧ Row tByte 5 H_ (hp e_w) F_1 A_2 c_2 r.1 ∧ St (anyOf [(is g2)]) H w [(is g2), F_1] H_ e_w) := by
  rw [spec_l4name.f] at M
  refine enter (l := [.pointer (some ⟨g2, 0, none⟩)]) 22 Try.func44 rfl rfl rfl ?_
  have S0_ := S.st
  refine wp_seq (wR (lV 2 (eA (.slice none 0 0)) (wN (then_n (wp_seq (wR ?_))))))
  refine lW 5 (new_blk (v := fun g_ => .slice (some ⟨g_, 0, none⟩) 28 28) (cs := #[str ([97] : List UInt8), str ([102, 111, 111] : List UInt8), str ([98, 49] : List UInt8), str ([91, 93] : List UInt8), str ([45] : List UInt8), str ([43] : List UInt8), str ([61] : List UInt8), str ([58, 45] : List UInt8), str ([44] : List UInt8), str ([105, 115] : List UInt8), str ([] : List UInt8), str ([88, 32, 121] : List UInt8), str ([92, 43] : List UInt8), str ([123, 125] : List UInt8), str ([33] : List UInt8), str ([59] : List UInt8), str ([46] : List UInt8), str ([47, 42] : List UInt8), str ([105, 116, 39, 115] : List UInt8), str ([10, 128] : List UInt8), str ([120, 111, 114] : List UInt8), str ([109, 111, 100] : List UInt8), str ([124] : List UInt8), str ([42] : List UInt8), str ([100, 121, 110, 97, 109, 105, 99] : List UInt8), str ([64] : List UInt8), str ([64, 64] : List UInt8), str ([104, 101, 108, 108, 111, 95, 87, 111, 114, 108, 100] : List UInt8)]) (t := 9) S0_ (by kernel_rfl)) ?_
  rintro _ w8 ⟨g9, rfl, b10, S11, K12⟩
  replace b3 := K12.blk 0 rfl b3
  have S13 := S11.unit
  have S14 := S13.pulls [(is g9), no, (is g2)] [1] rfl
  obtain ⟨h15, S16⟩ := row_lit (d := tStr) (xs := [([97] : List UInt8), ([102, 111, 111] : List UInt8), ([98, 49] : List UInt8), ([91, 93] : List UInt8), ([45] : List UInt8), ([43] : List UInt8), ([61] : List UInt8), ([58, 45] : List UInt8), ([44] : List UInt8), ([105, 115] : List UInt8), ([] : List UInt8), ([88, 32, 121] : List UInt8), ([92, 43] : List UInt8), ([123, 125] : List UInt8), ([33] : List UInt8), ([59] : List UInt8), ([46] : List UInt8), ([47, 42] : List UInt8), ([105, 116, 39, 115] : List UInt8), ([10, 128] : List UInt8), ([120, 111, 114] : List UInt8), ([109, 111, 100] : List UInt8), ([124] : List UInt8), ([42] : List UInt8), ([100, 121, 110, 97, 109, 105, 99] : List UInt8), ([64] : List UInt8), ([64, 64] : List UInt8), ([104, 101, 108, 108, 111, 95, 87, 111, 114, 108, 100] : List UInt8)]) S14 b10 rfl (elsO_no (d := tStr) rfl (elsO_no (d := tStr) rfl (elsO_no (d := tStr) rfl (elsO_no (d := tStr) rfl (elsO_no (d := tStr) rfl (elsO_no (d := tStr) rfl (elsO_no (d := tStr) rfl (elsO_no (d := tStr) rfl (elsO_no (d := tStr) rfl (elsO_no (d := tStr) rfl (elsO_no (d := tStr) rfl (elsO_no (d := tStr) rfl (elsO_no (d := tStr) rfl (elsO_no (d := tStr) rfl (elsO_no (d := tStr) rfl (elsO_no (d := tStr) rfl (elsO_no (d := tStr) rfl (elsO_no (d := tStr) rfl (elsO_no (d := tStr) rfl (elsO_no (d := tStr) rfl (elsO_no (d := tStr) rfl (elsO_no (d := tStr) rfl (elsO_no (d := tStr) rfl (elsO_no (d := tStr) rfl (elsO_no (d := tStr) rfl (elsO_no (d := tStr) rfl (elsO_no (d := tStr) rfl (elsO_no (d := tStr) rfl (elsO_nil _ _ _ no))))))))))))))))))))))))))))) (Nat.le_of_ble_eq_true rfl)
  refine lV 3 (eA (.slice (some ⟨g9, 0, none⟩) 28 28)) (wN (then_n (wp_seq (wR (lV 6 (eM (.pointer (some ⟨g2, 0, none⟩))) ?_)))))
  have S17 := S16.pulls [(is g2), (or2 (is g9) no)] [1] rfl
  obtain ⟨t18, u19, M⟩ := bnd M
  refine lC 7 (eC [.tmp 6] [.pointer (some ⟨g2, 0, none⟩)] Try.func41) (spec_l4rd_next_2.calls w8 H x1 g2 A4 c5 h6 l7 b3 (St.own' (Fa := [(is g2)]) (Fr := [(or2 (is g9) no)]) S17) t18 u19) ?_
  rintro _ w20 ⟨A23, c24, H21, rfl, h25, l26, b27, T22⟩
  refine ⟨_, rfl, ?_⟩
  obtain ⟨S28, K29⟩ := St.call (Fa := [(is g2)]) (Fr := [(or2 (is g9) no)]) S17 T22
  replace h15 := h15.move (K29.at 0 rfl)
  have E30 := T22.ext
  replace h15 := h15.ext E30
  refine lV 4 (eA (.int .i64 t18.1)) (wN (then_n (wp_seq (wp_seq (wR (lV 8 (eM (.int .i64 t18.1)) (lV 9 (eLt .i64 t18.1 180) ?_)))))))
  refine wN (then_n ?_)
  by_cases q31 : t18.1 < 180
  · replace M := ifp q31 M
    refine cT (bT q31) (wp_seq (wR (lV 10 (eM (.slice (some ⟨g9, 0, none⟩) 28 28)) (lV 11 (eM (.int .i64 t18.1)) (lV 12 (e_rem (k := .i64) (a := t18.1) (b := 6) (by kernel_rfl) rfl (by decide)) ?_)))))
    obtain ⟨q32, M⟩ := chk M
    obtain ⟨q33, M⟩ := chk M
    obtain ⟨b34, e36⟩ := Row.addr h15 (show ((Int.tmod t18.1 6)).toNat < [([97] : List UInt8), ([102, 111, 111] : List UInt8), ([98, 49] : List UInt8), ([91, 93] : List UInt8), ([45] : List UInt8), ([43] : List UInt8), ([61] : List UInt8), ([58, 45] : List UInt8), ([44] : List UInt8), ([105, 115] : List UInt8), ([] : List UInt8), ([88, 32, 121] : List UInt8), ([92, 43] : List UInt8), ([123, 125] : List UInt8), ([33] : List UInt8), ([59] : List UInt8), ([46] : List UInt8), ([47, 42] : List UInt8), ([105, 116, 39, 115] : List UInt8), ([10, 128] : List UInt8), ([120, 111, 114] : List UInt8), ([109, 111, 100] : List UInt8), ([124] : List UInt8), ([42] : List UInt8), ([100, 121, 110, 97, 109, 105, 99] : List UInt8), ([64] : List UInt8), ([64, 64] : List UInt8), ([104, 101, 108, 108, 111, 95, 87, 111, 114, 108, 100] : List UInt8)].length by have : [([97] : List UInt8), ([102, 111, 111] : List UInt8), ([98, 49] : List UInt8), ([91, 93] : List UInt8), ([45] : List UInt8), ([43] : List UInt8), ([61] : List UInt8), ([58, 45] : List UInt8), ([44] : List UInt8), ([105, 115] : List UInt8), ([] : List UInt8), ([88, 32, 121] : List UInt8), ([92, 43] : List UInt8), ([123, 125] : List UInt8), ([33] : List UInt8), ([59] : List UInt8), ([46] : List UInt8), ([47, 42] : List UInt8), ([105, 116, 39, 115] : List UInt8), ([10, 128] : List UInt8), ([120, 111, 114] : List UInt8), ([109, 111, 100] : List UInt8), ([124] : List UInt8), ([42] : List UInt8), ([100, 121, 110, 97, 109, 105, 99] : List UInt8), ([64] : List UInt8), ([64, 64] : List UInt8), ([104, 101, 108, 108, 111, 95, 87, 111, 114, 108, 100] : List UInt8)].length = 28 := rfl; omega)
    refine lV 13 (eI b34 0 28 28 1 (Int.tmod t18.1 6) .i64 Try.underlying49 e36 q32 q33) (lV 14 (eL ⟨b34, 0 + ((Int.tmod t18.1 6) : Int).toNat * 1, none⟩ (str ([([97] : List UInt8), ([102, 111, 111] : List UInt8), ([98, 49] : List UInt8), ([91, 93] : List UInt8), ([45] : List UInt8), ([43] : List UInt8), ([61] : List UInt8), ([58, 45] : List UInt8), ([44] : List UInt8), ([105, 115] : List UInt8), ([] : List UInt8), ([88, 32, 121] : List UInt8), ([92, 43] : List UInt8), ([123, 125] : List UInt8), ([33] : List UInt8), ([59] : List UInt8), ([46] : List UInt8), ([47, 42] : List UInt8), ([105, 116, 39, 115] : List UInt8), ([10, 128] : List UInt8), ([120, 111, 114] : List UInt8), ([109, 111, 100] : List UInt8), ([124] : List UInt8), ([42] : List UInt8), ([100, 121, 110, 97, 109, 105, 99] : List UInt8), ([64] : List UInt8), ([64, 64] : List UInt8), ([104, 101, 108, 108, 111, 95, 87, 111, 114, 108, 100] : List UInt8)].getD (((Int.tmod t18.1 6)).toNat) ([] : List UInt8))) Try.underlying9 (hpx (Row.pick (j := 0) (u := str ([([97] : List UInt8), ([102, 111, 111] : List UInt8), ([98, 49] : List UInt8), ([91, 93] : List UInt8), ([45] : List UInt8), ([43] : List UInt8), ([61] : List UInt8), ([58, 45] : List UInt8), ([44] : List UInt8), ([105, 115] : List UInt8), ([] : List UInt8), ([88, 32, 121] : List UInt8), ([92, 43] : List UInt8), ([123, 125] : List UInt8), ([33] : List UInt8), ([59] : List UInt8), ([46] : List UInt8), ([47, 42] : List UInt8), ([105, 116, 39, 115] : List UInt8), ([10, 128] : List UInt8), ([120, 111, 114] : List UInt8), ([109, 111, 100] : List UInt8), ([124] : List UInt8), ([42] : List UInt8), ([100, 121, 110, 97, 109, 105, 99] : List UInt8), ([64] : List UInt8), ([64, 64] : List UInt8), ([104, 101, 108, 108, 111, 95, 87, 111, 114, 108, 100] : List UInt8)].getD (((Int.tmod t18.1 6)).toNat) ([] : List UInt8))) h15 e36 (getD_some ([] : List UInt8) (show ((Int.tmod t18.1 6)).toNat < [([97] : List UInt8), ([102, 111, 111] : List UInt8), ([98, 49] : List UInt8), ([91, 93] : List UInt8), ([45] : List UInt8), ([43] : List UInt8), ([61] : List UInt8), ([58, 45] : List UInt8), ([44] : List UInt8), ([105, 115] : List UInt8), ([] : List UInt8), ([88, 32, 121] : List UInt8), ([92, 43] : List UInt8), ([123, 125] : List UInt8), ([33] : List UInt8), ([59] : List UInt8), ([46] : List UInt8), ([47, 42] : List UInt8), ([105, 116, 39, 115] : List UInt8), ([10, 128] : List UInt8), ([120, 111, 114] : List UInt8), ([109, 111, 100] : List UInt8), ([124] : List UInt8), ([42] : List UInt8), ([100, 121, 110, 97, 109, 105, 99] : List UInt8), ([64] : List UInt8), ([64, 64] : List UInt8), ([104, 101, 108, 108, 111, 95, 87, 111, 114, 108, 100] : List UInt8)].length by have : [([97] : List UInt8), ([102, 111, 111] : List UInt8), ([98, 49] : List UInt8), ([91, 93] : List UInt8), ([45] : List UInt8), ([43] : List UInt8), ([61] : List UInt8), ([58, 45] : List UInt8), ([44] : List UInt8), ([105, 115] : List UInt8), ([] : List UInt8), ([88, 32, 121] : List UInt8), ([92, 43] : List UInt8), ([123, 125] : List UInt8), ([33] : List UInt8), ([59] : List UInt8), ([46] : List UInt8), ([47, 42] : List UInt8), ([105, 116, 39, 115] : List UInt8), ([10, 128] : List UInt8), ([120, 111, 114] : List UInt8), ([109, 111, 100] : List UInt8), ([124] : List UInt8), ([42] : List UInt8), ([100, 121, 110, 97, 109, 105, 99] : List UInt8), ([64] : List UInt8), ([64, 64] : List UInt8), ([104, 101, 108, 108, 111, 95, 87, 111, 114, 108, 100] : List UInt8)].length = 28 := rfl; omega)) (fun _ _ o_ => by rw [show _ = _ from o_]; rfl)))) ?_)
    obtain ⟨q37, M⟩ := chk M
    refine lW 15 (e_conv_sb (xs := ([([97] : List UInt8), ([102, 111, 111] : List UInt8), ([98, 49] : List UInt8), ([91, 93] : List UInt8), ([45] : List UInt8), ([43] : List UInt8), ([61] : List UInt8), ([58, 45] : List UInt8), ([44] : List UInt8), ([105, 115] : List UInt8), ([] : List UInt8), ([88, 32, 121] : List UInt8), ([92, 43] : List UInt8), ([123, 125] : List UInt8), ([33] : List UInt8), ([59] : List UInt8), ([46] : List UInt8), ([47, 42] : List UInt8), ([105, 116, 39, 115] : List UInt8), ([10, 128] : List UInt8), ([120, 111, 114] : List UInt8), ([109, 111, 100] : List UInt8), ([124] : List UInt8), ([42] : List UInt8), ([100, 121, 110, 97, 109, 105, 99] : List UInt8), ([64] : List UInt8), ([64, 64] : List UInt8), ([104, 101, 108, 108, 111, 95, 87, 111, 114, 108, 100] : List UInt8)].getD (((Int.tmod t18.1 6)).toNat) ([] : List UInt8))) S28 Try.underlying9 Try.underlying32 Try.underlying5 (by kernel_rfl) q37) ?_
    rintro _ w38 ⟨A39, c40, F41, rfl, h42, S43, K44⟩
    replace b27 := K44.blk 0 rfl b27
    refine lV 2 (eA (.slice A39 (([([97] : List UInt8), ([102, 111, 111] : List UInt8), ([98, 49] : List UInt8), ([91, 93] : List UInt8), ([45] : List UInt8), ([43] : List UInt8), ([61] : List UInt8), ([58, 45] : List UInt8), ([44] : List UInt8), ([105, 115] : List UInt8), ([] : List UInt8), ([88, 32, 121] : List UInt8), ([92, 43] : List UInt8), ([123, 125] : List UInt8), ([33] : List UInt8), ([59] : List UInt8), ([46] : List UInt8), ([47, 42] : List UInt8), ([105, 116, 39, 115] : List UInt8), ([10, 128] : List UInt8), ([120, 111, 114] : List UInt8), ([109, 111, 100] : List UInt8), ([124] : List UInt8), ([42] : List UInt8), ([100, 121, 110, 97, 109, 105, 99] : List UInt8), ([64] : List UInt8), ([64, 64] : List UInt8), ([104, 101, 108, 108, 111, 95, 87, 111, 114, 108, 100] : List UInt8)].getD (((Int.tmod t18.1 6)).toNat) ([] : List UInt8)).length) c40)) (wN (then_n (wp_ret (then_r ?_))))
    obtain rfl := Option.some.inj M
    have S45 := S43.pulls [(is g2), F41, (or2 (is g9) no)] [1] rfl
    have S46 := St.first (Fa := [(is g2), F41]) (Fr := [(or2 (is g9) no)]) S45
    exact ret1 rfl rfl  (show _ = .slice A39 (([([97] : List UInt8), ([102, 111, 111] : List UInt8), ([98, 49] : List UInt8), ([91, 93] : List UInt8), ([45] : List UInt8), ([43] : List UInt8), ([61] : List UInt8), ([58, 45] : List UInt8), ([44] : List UInt8), ([105, 115] : List UInt8), ([] : List UInt8), ([88, 32, 121] : List UInt8), ([92, 43] : List UInt8), ([123, 125] : List UInt8), ([33] : List UInt8), ([59] : List UInt8), ([46] : List UInt8), ([47, 42] : List UInt8), ([105, 116, 39, 115] : List UInt8), ([10, 128] : List UInt8), ([120, 111, 114] : List UInt8), ([109, 111, 100] : List UInt8), ([124] : List UInt8), ([42] : List UInt8), ([100, 121, 110, 97, 109, 105, 99] : List UInt8), ([64] : List UInt8), ([64, 64] : List UInt8), ([104, 101, 108, 108, 111, 95, 87, 111, 114, 108, 100] : List UInt8)].getD (((Int.tmod t18.1 6)).toNat) ([] : List UInt8)).length) c40 from (by kernel_rfl)) ⟨A23, c24, A39, c40, F41, H21, rfl, h25, l26, b27, h42, S46⟩
  replace M := ifn q31 M
  refine cF (bF q31) (wp_skip (then_n (wp_seq (wR (lV 16 (eM (.slice (some ⟨g9, 0, none⟩) 28 28)) (lV 17 (eM (.int .i64 t18.1)) (lV 18 (e_rem (k := .i64) (a := t18.1) (b := 28) (by kernel_rfl) rfl (by decide)) ?_)))))))
  obtain ⟨q47, M⟩ := chk M
  obtain ⟨q48, M⟩ := chk M
  obtain ⟨b49, e51⟩ := Row.addr h15 (show ((Int.tmod t18.1 28)).toNat < [([97] : List UInt8), ([102, 111, 111] : List UInt8), ([98, 49] : List UInt8), ([91, 93] : List UInt8), ([45] : List UInt8), ([43] : List UInt8), ([61] : List UInt8), ([58, 45] : List UInt8), ([44] : List UInt8), ([105, 115] : List UInt8), ([] : List UInt8), ([88, 32, 121] : List UInt8), ([92, 43] : List UInt8), ([123, 125] : List UInt8), ([33] : List UInt8), ([59] : List UInt8), ([46] : List UInt8), ([47, 42] : List UInt8), ([105, 116, 39, 115] : List UInt8), ([10, 128] : List UInt8), ([120, 111, 114] : List UInt8), ([109, 111, 100] : List UInt8), ([124] : List UInt8), ([42] : List UInt8), ([100, 121, 110, 97, 109, 105, 99] : List UInt8), ([64] : List UInt8), ([64, 64] : List UInt8), ([104, 101, 108, 108, 111, 95, 87, 111, 114, 108, 100] : List UInt8)].length by have : [([97] : List UInt8), ([102, 111, 111] : List UInt8), ([98, 49] : List UInt8), ([91, 93] : List UInt8), ([45] : List UInt8), ([43] : List UInt8), ([61] : List UInt8), ([58, 45] : List UInt8), ([44] : List UInt8), ([105, 115] : List UInt8), ([] : List UInt8), ([88, 32, 121] : List UInt8), ([92, 43] : List UInt8), ([123, 125] : List UInt8), ([33] : List UInt8), ([59] : List UInt8), ([46] : List UInt8), ([47, 42] : List UInt8), ([105, 116, 39, 115] : List UInt8), ([10, 128] : List UInt8), ([120, 111, 114] : List UInt8), ([109, 111, 100] : List UInt8), ([124] : List UInt8), ([42] : List UInt8), ([100, 121, 110, 97, 109, 105, 99] : List UInt8), ([64] : List UInt8), ([64, 64] : List UInt8), ([104, 101, 108, 108, 111, 95, 87, 111, 114, 108, 100] : List UInt8)].length = 28 := rfl; omega)
  refine lV 19 (eI b49 0 28 28 1 (Int.tmod t18.1 28) .i64 Try.underlying49 e51 q47 q48) (lV 20 (eL ⟨b49, 0 + ((Int.tmod t18.1 28) : Int).toNat * 1, none⟩ (str ([([97] : List UInt8), ([102, 111, 111] : List UInt8), ([98, 49] : List UInt8), ([91, 93] : List UInt8), ([45] : List UInt8), ([43] : List UInt8), ([61] : List UInt8), ([58, 45] : List UInt8), ([44] : List UInt8), ([105, 115] : List UInt8), ([] : List UInt8), ([88, 32, 121] : List UInt8), ([92, 43] : List UInt8), ([123, 125] : List UInt8), ([33] : List UInt8), ([59] : List UInt8), ([46] : List UInt8), ([47, 42] : List UInt8), ([105, 116, 39, 115] : List UInt8), ([10, 128] : List UInt8), ([120, 111, 114] : List UInt8), ([109, 111, 100] : List UInt8), ([124] : List UInt8), ([42] : List UInt8), ([100, 121, 110, 97, 109, 105, 99] : List UInt8), ([64] : List UInt8), ([64, 64] : List UInt8), ([104, 101, 108, 108, 111, 95, 87, 111, 114, 108, 100] : List UInt8)].getD (((Int.tmod t18.1 28)).toNat) ([] : List UInt8))) Try.underlying9 (hpx (Row.pick (j := 0) (u := str ([([97] : List UInt8), ([102, 111, 111] : List UInt8), ([98, 49] : List UInt8), ([91, 93] : List UInt8), ([45] : List UInt8), ([43] : List UInt8), ([61] : List UInt8), ([58, 45] : List UInt8), ([44] : List UInt8), ([105, 115] : List UInt8), ([] : List UInt8), ([88, 32, 121] : List UInt8), ([92, 43] : List UInt8), ([123, 125] : List UInt8), ([33] : List UInt8), ([59] : List UInt8), ([46] : List UInt8), ([47, 42] : List UInt8), ([105, 116, 39, 115] : List UInt8), ([10, 128] : List UInt8), ([120, 111, 114] : List UInt8), ([109, 111, 100] : List UInt8), ([124] : List UInt8), ([42] : List UInt8), ([100, 121, 110, 97, 109, 105, 99] : List UInt8), ([64] : List UInt8), ([64, 64] : List UInt8), ([104, 101, 108, 108, 111, 95, 87, 111, 114, 108, 100] : List UInt8)].getD (((Int.tmod t18.1 28)).toNat) ([] : List UInt8))) h15 e51 (getD_some ([] : List UInt8) (show ((Int.tmod t18.1 28)).toNat < [([97] : List UInt8), ([102, 111, 111] : List UInt8), ([98, 49] : List UInt8), ([91, 93] : List UInt8), ([45] : List UInt8), ([43] : List UInt8), ([61] : List UInt8), ([58, 45] : List UInt8), ([44] : List UInt8), ([105, 115] : List UInt8), ([] : List UInt8), ([88, 32, 121] : List UInt8), ([92, 43] : List UInt8), ([123, 125] : List UInt8), ([33] : List UInt8), ([59] : List UInt8), ([46] : List UInt8), ([47, 42] : List UInt8), ([105, 116, 39, 115] : List UInt8), ([10, 128] : List UInt8), ([120, 111, 114] : List UInt8), ([109, 111, 100] : List UInt8), ([124] : List UInt8), ([42] : List UInt8), ([100, 121, 110, 97, 109, 105, 99] : List UInt8), ([64] : List UInt8), ([64, 64] : List UInt8), ([104, 101, 108, 108, 111, 95, 87, 111, 114, 108, 100] : List UInt8)].length by have : [([97] : List UInt8), ([102, 111, 111] : List UInt8), ([98, 49] : List UInt8), ([91, 93] : List UInt8), ([45] : List UInt8), ([43] : List UInt8), ([61] : List UInt8), ([58, 45] : List UInt8), ([44] : List UInt8), ([105, 115] : List UInt8), ([] : List UInt8), ([88, 32, 121] : List UInt8), ([92, 43] : List UInt8), ([123, 125] : List UInt8), ([33] : List UInt8), ([59] : List UInt8), ([46] : List UInt8), ([47, 42] : List UInt8), ([105, 116, 39, 115] : List UInt8), ([10, 128] : List UInt8), ([120, 111, 114] : List UInt8), ([109, 111, 100] : List UInt8), ([124] : List UInt8), ([42] : List UInt8), ([100, 121, 110, 97, 109, 105, 99] : List UInt8), ([64] : List UInt8), ([64, 64] : List UInt8), ([104, 101, 108, 108, 111, 95, 87, 111, 114, 108, 100] : List UInt8)].length = 28 := rfl; omega)) (fun _ _ o_ => by rw [show _ = _ from o_]; rfl)))) ?_)
  obtain ⟨q52, M⟩ := chk M
  refine lW 21 (e_conv_sb (xs := ([([97] : List UInt8), ([102, 111, 111] : List UInt8), ([98, 49] : List UInt8), ([91, 93] : List UInt8), ([45] : List UInt8), ([43] : List UInt8), ([61] : List UInt8), ([58, 45] : List UInt8), ([44] : List UInt8), ([105, 115] : List UInt8), ([] : List UInt8), ([88, 32, 121] : List UInt8), ([92, 43] : List UInt8), ([123, 125] : List UInt8), ([33] : List UInt8), ([59] : List UInt8), ([46] : List UInt8), ([47, 42] : List UInt8), ([105, 116, 39, 115] : List UInt8), ([10, 128] : List UInt8), ([120, 111, 114] : List UInt8), ([109, 111, 100] : List UInt8), ([124] : List UInt8), ([42] : List UInt8), ([100, 121, 110, 97, 109, 105, 99] : List UInt8), ([64] : List UInt8), ([64, 64] : List UInt8), ([104, 101, 108, 108, 111, 95, 87, 111, 114, 108, 100] : List UInt8)].getD (((Int.tmod t18.1 28)).toNat) ([] : List UInt8))) S28 Try.underlying9 Try.underlying32 Try.underlying5 (by kernel_rfl) q52) ?_
  rintro _ w53 ⟨A54, c55, F56, rfl, h57, S58, K59⟩
  replace b27 := K59.blk 0 rfl b27
  refine lV 2 (eA (.slice A54 (([([97] : List UInt8), ([102, 111, 111] : List UInt8), ([98, 49] : List UInt8), ([91, 93] : List UInt8), ([45] : List UInt8), ([43] : List UInt8), ([61] : List UInt8), ([58, 45] : List UInt8), ([44] : List UInt8), ([105, 115] : List UInt8), ([] : List UInt8), ([88, 32, 121] : List UInt8), ([92, 43] : List UInt8), ([123, 125] : List UInt8), ([33] : List UInt8), ([59] : List UInt8), ([46] : List UInt8), ([47, 42] : List UInt8), ([105, 116, 39, 115] : List UInt8), ([10, 128] : List UInt8), ([120, 111, 114] : List UInt8), ([109, 111, 100] : List UInt8), ([124] : List UInt8), ([42] : List UInt8), ([100, 121, 110, 97, 109, 105, 99] : List UInt8), ([64] : List UInt8), ([64, 64] : List UInt8), ([104, 101, 108, 108, 111, 95, 87, 111, 114, 108, 100] : List UInt8)].getD (((Int.tmod t18.1 28)).toNat) ([] : List UInt8)).length) c55)) (wN (then_n (wp_ret ?_)))
  obtain rfl := Option.some.inj M
  have S60 := S58.pulls [(is g2), F56, (or2 (is g9) no)] [1] rfl
  have S61 := St.first (Fa := [(is g2), F56]) (Fr := [(or2 (is g9) no)]) S60
  exact ret1 rfl rfl  (show _ = .slice A54 (([([97] : List UInt8), ([102, 111, 111] : List UInt8), ([98, 49] : List UInt8), ([91, 93] : List UInt8), ([45] : List UInt8), ([43] : List UInt8), ([61] : List UInt8), ([58, 45] : List UInt8), ([44] : List UInt8), ([105, 115] : List UInt8), ([] : List UInt8), ([88, 32, 121] : List UInt8), ([92, 43] : List UInt8), ([123, 125] : List UInt8), ([33] : List UInt8), ([59] : List UInt8), ([46] : List UInt8), ([47, 42] : List UInt8), ([105, 116, 39, 115] : List UInt8), ([10, 128] : List UInt8), ([120, 111, 114] : List UInt8), ([109, 111, 100] : List UInt8), ([124] : List UInt8), ([42] : List UInt8), ([100, 121, 110, 97, 109, 105, 99] : List UInt8), ([64] : List UInt8), ([64, 64] : List UInt8), ([104, 101, 108, 108, 111, 95, 87, 111, 114, 108, 100] : List UInt8)].getD (((Int.tmod t18.1 28)).toNat) ([] : List UInt8)).length) c55 from (by kernel_rfl)) ⟨A23, c24, A54, c55, F56, H21, rfl, h25, l26, b27, h57, S61⟩

/-! spec_DrawAddOp -/
def spec_DrawAddOp.l0 (_k : Nat) (t20 : Int × GL4rd) (x54 : List Sy.Op) (x59 : List UInt8) (x64 : Int) : Option ((List Sy.Op) × Int × Int × (List UInt8)) := ((spec_l4rd_next_2.f (⟨x59, x64⟩ : GL4rd)).bind fun t98 => ((spec_l4rd_next_2.f t98.2).bind fun t111 => (if t20.1 = 1 then (if t20.1 = 2 then ((spec_l4name.f t111.2).bind fun t126 => some (x54, (-1), 7, t126.1)) else ((spec_l4name.f t111.2).bind fun t146 => some (x54, (-1), (Int.tmod t111.1 7), t146.1))) else (if t20.1 = 2 then ((spec_l4name.f t111.2).bind fun t167 => some (x54, (IntKind.i64.wrap (t98.1 * 5)), 7, t167.1)) else ((spec_l4name.f t111.2).bind fun t187 => some (x54, (IntKind.i64.wrap (t98.1 * 5)), (Int.tmod t111.1 7), t187.1))))))
def spec_DrawAddOp.f (k : Nat) (x1 : List UInt8) : Option ((List Sy.Op) × Int × Int × (List UInt8)) := ((spec_l4open.f x1).bind fun t6 => ((spec_l4rd_next_2.f t6).bind fun t20 => ((spec_l4ops.f k t20.2).bind fun t33 => (if (Int.tmod t20.1 16) = 0 then ((spec_l4spoilOps.f k t33.1 t33.2).bind fun t74 => (spec_DrawAddOp.l0 0 t20 t74.1 t74.2.b_ t74.2.i_)) else (spec_DrawAddOp.l0 0 t20 t33.1 t33.2.b_ t33.2.i_)))))
theorem spec_DrawAddOp.calls (k : Nat) (w : World) (H : Hp) (x1 : List UInt8) (A2 : Option Addr) (c3 : Nat) (h4 : Rd tByte H A2 x1) (l5 : x1.length ≤ c3) (S : Own [] H w) (r : (List Sy.Op) × Int × Int × (List UInt8)) (M : spec_DrawAddOp.f k x1 = some r) :
    Calls Try.prog 21 #[.slice A2 x1.length c3] w (fun e e_w => ∃ (A_1 : Option Addr) (c_1 : Nat) (F_1 : Foot) (A_2 : Option Addr) (c_2 : Nat) (F_2 : Foot) (H_ : Hp), e = .returned (.tuple #[.slice A_1 r.1.length c_1, .int .i64 r.2.1, .int .i64 r.2.2.1, .slice A_2 r.2.2.2.length c_2]) ∧ Row (ro st45) 45 H_ (hp e_w) F_1 A_1 c_1 r.1 ∧ Row tByte 5 H_ (hp e_w) F_2 A_2 c_2 r.2.2.2 ∧ St (anyOf []) H w [F_1, F_2] H_ e_w) := by
  rw [spec_DrawAddOp.f] at M
  refine enter (l := [.slice A2 x1.length c3]) 38 Try.func21 rfl rfl rfl ?_
  have S0_ := S.st
  refine wp_seq (wR (lV 2 (eA (.slice none 0 0)) (lV 3 (eA (.int .i64 0)) (lV 4 (eA (.int .i64 0)) (lV 5 (eA (.slice none 0 0)) (wN (then_n ?_)))))))
  refine wp_seq (wR (lV 11 (eM (.slice A2 x1.length c3)) ?_))
  obtain ⟨t6, u7, M⟩ := bnd M
  refine lC 12 (eC [.tmp 11] [.slice A2 x1.length c3] Try.func40) (spec_l4open.calls w H x1 A2 c3 h4 l5 (St.own' (Fa := []) (Fr := []) S0_) t6 u7) ?_
  rintro _ w8 ⟨g11, A13, c14, H9, rfl, h15, l16, b12, T10⟩
  refine ⟨_, rfl, ?_⟩
  obtain ⟨S17, K18⟩ := St.call (Fa := []) (Fr := []) S0_ T10
  have E19 := T10.ext
  refine lV 6 (eA (.pointer (some ⟨g11, 0, none⟩))) (wN (then_n (wp_seq (wR (lV 13 (eM (.pointer (some ⟨g11, 0, none⟩))) ?_)))))
  obtain ⟨t20, u21, M⟩ := bnd M
  refine lC 14 (eC [.tmp 13] [.pointer (some ⟨g11, 0, none⟩)] Try.func41) (spec_l4rd_next_2.calls w8 H9 t6 g11 A13 c14 h15 l16 b12 (St.own' (Fa := [(is g11)]) (Fr := []) S17) t20 u21) ?_
  rintro _ w22 ⟨A25, c26, H23, rfl, h27, l28, b29, T24⟩
  refine ⟨_, rfl, ?_⟩
  obtain ⟨S30, K31⟩ := St.call (Fa := [(is g11)]) (Fr := []) S17 T24
  have E32 := T24.ext
  refine lV 7 (eA (.int .i64 t20.1)) (wN (then_n (wp_seq (wR (lV 15 (eM (.pointer (some ⟨g11, 0, none⟩))) ?_)))))
  obtain ⟨t33, u34, M⟩ := bnd M
  refine lC 16 (eC [.tmp 15] [.pointer (some ⟨g11, 0, none⟩)] Try.func42) (spec_l4ops.calls k w22 H23 t20.2 g11 A25 c26 h27 l28 b29 (St.own' (Fa := [(is g11)]) (Fr := []) S30) t33 u34) ?_
  rintro _ w35 ⟨A38, c39, A43, c44, F46, H36, rfl, h40, l41, b42, h45, T37⟩
  refine ⟨_, rfl, ?_⟩
  obtain ⟨S47, K48⟩ := St.call (Fa := [(is g11)]) (Fr := []) S30 T37
  have E49 := T37.ext
  refine lV 8 (eA (.slice A43 t33.1.length c44)) (wN (then_n ?_))
  refine wp_seq_cut (fun a71 w50 => ∃ (f51 : Nat → Value) (H52 : Hp) (x54 : List Sy.Op) (A55 : Option Addr) (c56 : Nat) (F57 : Foot) (x59 : List UInt8) (A60 : Option Addr) (c61 : Nat) (x64 : Int), a71 = mk 38 f51 ∧ f51 6 = .pointer (some ⟨g11, 0, none⟩) ∧ f51 7 = .int .i64 t20.1 ∧ f51 8 = .slice A55 x54.length c56 ∧ w50.heap[g11]? = some (.cells #[.slice A60 x59.length c61, .int .i64 x64] 66 (0, 0)) ∧ Row (ro st45) 45 H52 (hp w50) F57 A55 c56 x54 ∧ Rd tByte H52 A60 x59 ∧ x59.length ≤ c61 ∧ Ext H36 H52 ∧ St (anyOf []) H w [(is g11), F57] H52 w50 ∧ spec_DrawAddOp.l0 0 t20 x54 x59 x64 = some r) ?_ ?_
  · refine wp_seq (wR (lV 17 (eM (.int .i64 t20.1)) (lV 18 (e_rem (k := .i64) (a := t20.1) (b := 16) (by kernel_rfl) rfl (by decide)) (lV 19 (eEq .i64 (Int.tmod t20.1 16) 0) (wN (then_n ?_))))))
    by_cases q72 : (Int.tmod t20.1 16) = 0
    · replace M := ifp q72 M
      refine cT (bT q72) (wR (lV 20 (eM (.slice A43 t33.1.length c44)) (lV 21 (eM (.pointer (some ⟨g11, 0, none⟩))) ?_)))
      have S73 := S47.pulls [F46, (is g11)] [1] rfl
      obtain ⟨t74, u75, M⟩ := bnd M
      refine lC 22 (eC [.tmp 20, .tmp 21] [.slice A43 t33.1.length c44, .pointer (some ⟨g11, 0, none⟩)] Try.func43) (spec_l4spoilOps.calls k w35 H36 t33.1 A43 c44 F46 t33.2 g11 A38 c39 h45 h40 l41 b42 (St.own' (Fa := [F46, (is g11)]) (Fr := []) S73) t74 u75) ?_
      rintro _ w76 ⟨A79, c80, A84, c85, F87, H77, rfl, h81, l82, b83, h86, T78⟩
      refine ⟨_, rfl, ?_⟩
      obtain ⟨S88, K89⟩ := St.call (Fa := [F46, (is g11)]) (Fr := []) S73 T78
      have E90 := T78.ext
      refine lV 8 (eA (.slice A84 t74.1.length c85)) (wN (then_n ?_))
      exact ⟨_, H77, t74.1, A84, c85, F87, t74.2.b_, A79, c80, t74.2.i_, rfl, (by kernel_rfl), (by kernel_rfl), (by kernel_rfl), b83, h86, h81, l82, E90, S88, M⟩
    replace M := ifn q72 M
    refine cF (bF q72) (wp_skip (then_n ?_))
    have S91 := S47.pulls [F46, (is g11)] [1] rfl
    obtain ⟨H92, F93, S94, E95, h96⟩ := S91.share h45
    have S97 := S94.pulls [(is g11), F93] [1] rfl
    exact ⟨_, H92, t33.1, A43, c44, F93, t33.2.b_, A38, c39, t33.2.i_, rfl, (by kernel_rfl), (by kernel_rfl), (by kernel_rfl), b42, h96, (h40.ext E95), l41, E95, S97, M⟩
  clear M
  rintro a71 w50 ⟨f51, H52, x54, A55, c56, F57, x59, A60, c61, x64, rfl, e65, e66, e67, b42, h58, h62, l63, Y53, S68, M⟩
  rw [spec_DrawAddOp.l0] at M
  refine wp_seq (wR (lV 23 (eM (.pointer (some ⟨g11, 0, none⟩)) (by exact e65)) ?_))
  obtain ⟨t98, u99, M⟩ := bnd M
  refine lC 24 (eC [.tmp 23] [.pointer (some ⟨g11, 0, none⟩)] Try.func41) (spec_l4rd_next_2.calls w50 H52 (⟨x59, x64⟩ : GL4rd) g11 A60 c61 h62 l63 b42 (St.own' (Fa := [(is g11)]) (Fr := [F57]) S68) t98 u99) ?_
  rintro _ w100 ⟨A103, c104, H101, rfl, h105, l106, b107, T102⟩
  refine ⟨_, rfl, ?_⟩
  obtain ⟨S108, K109⟩ := St.call (Fa := [(is g11)]) (Fr := [F57]) S68 T102
  replace h58 := h58.move (K109.at 0 rfl)
  have E110 := T102.ext
  replace h58 := h58.ext E110
  refine lV 25 (e_mul (k := .i64) (a := t98.1) (b := 5) (by kernel_rfl) rfl) (lV 9 (eA (.int .i64 (IntKind.i64.wrap (t98.1 * 5)))) (wN (then_n (wp_seq (wR (lV 26 (eM (.pointer (some ⟨g11, 0, none⟩)) (by exact e65)) ?_))))))
  obtain ⟨t111, u112, M⟩ := bnd M
  refine lC 27 (eC [.tmp 26] [.pointer (some ⟨g11, 0, none⟩)] Try.func41) (spec_l4rd_next_2.calls w100 H101 t98.2 g11 A103 c104 h105 l106 b107 (St.own' (Fa := [(is g11)]) (Fr := [F57]) S108) t111 u112) ?_
  rintro _ w113 ⟨A116, c117, H114, rfl, h118, l119, b120, T115⟩
  refine ⟨_, rfl, ?_⟩
  obtain ⟨S121, K122⟩ := St.call (Fa := [(is g11)]) (Fr := [F57]) S108 T115
  replace h58 := h58.move (K122.at 0 rfl)
  have E123 := T115.ext
  replace h58 := h58.ext E123
  refine lV 28 (e_rem (k := .i64) (a := t111.1) (b := 7) (by kernel_rfl) rfl (by decide)) (lV 10 (eA (.int .i64 (Int.tmod t111.1 7))) (wN (then_n (wp_seq (wp_seq (wR (lV 29 (eM (.int .i64 t20.1) (by exact e66)) ?_)))))))
  refine lV 30 (eEq .i64 t20.1 1) (wN (then_n ?_))
  by_cases q124 : t20.1 = 1
  · replace M := ifp q124 M
    refine cT (bT q124) (wR (lV 9 (eA (.int .i64 (-1))) (wN (then_n (wp_seq (wp_seq (wR ?_)))))))
    refine lV 31 (eM (.int .i64 t20.1) (by exact e66)) (lV 32 (eEq .i64 t20.1 2) (wN (then_n ?_)))
    by_cases q125 : t20.1 = 2
    · replace M := ifp q125 M
      refine cT (bT q125) (wR (lV 10 (eA (.int .i64 7)) (wN (then_n (wp_seq (wR (lV 33 (eM (.slice A55 x54.length c56) (by exact e67)) ?_)))))))
      refine lV 34 (eM (.int .i64 (-1))) (lV 35 (eM (.int .i64 7)) (lV 36 (eM (.pointer (some ⟨g11, 0, none⟩)) (by exact e65)) ?_))
      obtain ⟨t126, u127, M⟩ := bnd M
      refine lC 37 (eC [.tmp 36] [.pointer (some ⟨g11, 0, none⟩)] Try.func44) (spec_l4name.calls w113 H114 t111.2 g11 A116 c117 h118 l119 b120 (St.own' (Fa := [(is g11)]) (Fr := [F57]) S121) t126 u127) ?_
      rintro _ w128 ⟨A131, c132, A136, c137, F139, H129, rfl, h133, l134, b135, h138, T130⟩
      refine ⟨_, rfl, ?_⟩
      obtain ⟨S140, K141⟩ := St.call (Fa := [(is g11)]) (Fr := [F57]) S121 T130
      replace h58 := h58.move (K141.at 0 rfl)
      have E142 := T130.ext
      replace h58 := h58.ext E142
      refine lV 2 (eA (.slice A55 x54.length c56)) (lV 3 (eA (.int .i64 (-1))) (lV 4 (eA (.int .i64 7)) (lV 5 (eA (.slice A136 t126.1.length c137)) (wN (then_n (wp_ret ?_))))))
      obtain rfl := Option.some.inj M
      have S144 := S140.pulls [F57, F139, (is g11)] [1, 2] rfl
      have S145 := St.first (Fa := [F57, F139]) (Fr := [(is g11)]) S144
      exact ret4 rfl rfl rfl rfl rfl (show _ = .slice A55 x54.length c56 from (by kernel_rfl)) (show _ = .int .i64 (-1) from (by kernel_rfl)) (show _ = .int .i64 7 from (by kernel_rfl)) (show _ = .slice A136 t126.1.length c137 from (by kernel_rfl)) ⟨A55, c56, F57, A136, c137, F139, H129, rfl, h58, h138, S145⟩
    replace M := ifn q125 M
    refine cF (bF q125) (wp_skip (then_n (wp_seq (wR (lV 33 (eM (.slice A55 x54.length c56) (by exact e67)) (lV 34 (eM (.int .i64 (-1))) (lV 35 (eM (.int .i64 (Int.tmod t111.1 7))) ?_)))))))
    refine lV 36 (eM (.pointer (some ⟨g11, 0, none⟩)) (by exact e65)) ?_
    obtain ⟨t146, u147, M⟩ := bnd M
    refine lC 37 (eC [.tmp 36] [.pointer (some ⟨g11, 0, none⟩)] Try.func44) (spec_l4name.calls w113 H114 t111.2 g11 A116 c117 h118 l119 b120 (St.own' (Fa := [(is g11)]) (Fr := [F57]) S121) t146 u147) ?_
    rintro _ w148 ⟨A151, c152, A156, c157, F159, H149, rfl, h153, l154, b155, h158, T150⟩
    refine ⟨_, rfl, ?_⟩
    obtain ⟨S160, K161⟩ := St.call (Fa := [(is g11)]) (Fr := [F57]) S121 T150
    replace h58 := h58.move (K161.at 0 rfl)
    have E162 := T150.ext
    replace h58 := h58.ext E162
    refine lV 2 (eA (.slice A55 x54.length c56)) (lV 3 (eA (.int .i64 (-1))) (lV 4 (eA (.int .i64 (Int.tmod t111.1 7))) (lV 5 (eA (.slice A156 t146.1.length c157)) (wN (then_n (wp_ret ?_))))))
    obtain rfl := Option.some.inj M
    have S164 := S160.pulls [F57, F159, (is g11)] [1, 2] rfl
    have S165 := St.first (Fa := [F57, F159]) (Fr := [(is g11)]) S164
    exact ret4 rfl rfl rfl rfl rfl (show _ = .slice A55 x54.length c56 from (by kernel_rfl)) (show _ = .int .i64 (-1) from (by kernel_rfl)) (show _ = .int .i64 (Int.tmod t111.1 7) from (by kernel_rfl)) (show _ = .slice A156 t146.1.length c157 from (by kernel_rfl)) ⟨A55, c56, F57, A156, c157, F159, H149, rfl, h58, h158, S165⟩
  replace M := ifn q124 M
  refine cF (bF q124) (wp_skip (then_n (wp_seq (wp_seq (wR (lV 31 (eM (.int .i64 t20.1) (by exact e66)) (lV 32 (eEq .i64 t20.1 2) ?_)))))))
  refine wN (then_n ?_)
  by_cases q166 : t20.1 = 2
  · replace M := ifp q166 M
    refine cT (bT q166) (wR (lV 10 (eA (.int .i64 7)) (wN (then_n (wp_seq (wR (lV 33 (eM (.slice A55 x54.length c56) (by exact e67)) ?_)))))))
    refine lV 34 (eM (.int .i64 (IntKind.i64.wrap (t98.1 * 5)))) (lV 35 (eM (.int .i64 7)) (lV 36 (eM (.pointer (some ⟨g11, 0, none⟩)) (by exact e65)) ?_))
    obtain ⟨t167, u168, M⟩ := bnd M
    refine lC 37 (eC [.tmp 36] [.pointer (some ⟨g11, 0, none⟩)] Try.func44) (spec_l4name.calls w113 H114 t111.2 g11 A116 c117 h118 l119 b120 (St.own' (Fa := [(is g11)]) (Fr := [F57]) S121) t167 u168) ?_
    rintro _ w169 ⟨A172, c173, A177, c178, F180, H170, rfl, h174, l175, b176, h179, T171⟩
    refine ⟨_, rfl, ?_⟩
    obtain ⟨S181, K182⟩ := St.call (Fa := [(is g11)]) (Fr := [F57]) S121 T171
    replace h58 := h58.move (K182.at 0 rfl)
    have E183 := T171.ext
    replace h58 := h58.ext E183
    refine lV 2 (eA (.slice A55 x54.length c56)) (lV 3 (eA (.int .i64 (IntKind.i64.wrap (t98.1 * 5)))) (lV 4 (eA (.int .i64 7)) (lV 5 (eA (.slice A177 t167.1.length c178)) (wN (then_n (wp_ret ?_))))))
    obtain rfl := Option.some.inj M
    have S185 := S181.pulls [F57, F180, (is g11)] [1, 2] rfl
    have S186 := St.first (Fa := [F57, F180]) (Fr := [(is g11)]) S185
    exact ret4 rfl rfl rfl rfl rfl (show _ = .slice A55 x54.length c56 from (by kernel_rfl)) (show _ = .int .i64 (IntKind.i64.wrap (t98.1 * 5)) from (by kernel_rfl)) (show _ = .int .i64 7 from (by kernel_rfl)) (show _ = .slice A177 t167.1.length c178 from (by kernel_rfl)) ⟨A55, c56, F57, A177, c178, F180, H170, rfl, h58, h179, S186⟩
  replace M := ifn q166 M
  refine cF (bF q166) (wp_skip (then_n (wp_seq (wR (lV 33 (eM (.slice A55 x54.length c56) (by exact e67)) (lV 34 (eM (.int .i64 (IntKind.i64.wrap (t98.1 * 5)))) (lV 35 (eM (.int .i64 (Int.tmod t111.1 7))) ?_)))))))
  refine lV 36 (eM (.pointer (some ⟨g11, 0, none⟩)) (by exact e65)) ?_
  obtain ⟨t187, u188, M⟩ := bnd M
  refine lC 37 (eC [.tmp 36] [.pointer (some ⟨g11, 0, none⟩)] Try.func44) (spec_l4name.calls w113 H114 t111.2 g11 A116 c117 h118 l119 b120 (St.own' (Fa := [(is g11)]) (Fr := [F57]) S121) t187 u188) ?_
  rintro _ w189 ⟨A192, c193, A197, c198, F200, H190, rfl, h194, l195, b196, h199, T191⟩
  refine ⟨_, rfl, ?_⟩
  obtain ⟨S201, K202⟩ := St.call (Fa := [(is g11)]) (Fr := [F57]) S121 T191
  replace h58 := h58.move (K202.at 0 rfl)
  have E203 := T191.ext
  replace h58 := h58.ext E203
  refine lV 2 (eA (.slice A55 x54.length c56)) (lV 3 (eA (.int .i64 (IntKind.i64.wrap (t98.1 * 5)))) (lV 4 (eA (.int .i64 (Int.tmod t111.1 7))) (lV 5 (eA (.slice A197 t187.1.length c198)) (wN (then_n (wp_ret ?_))))))
  obtain rfl := Option.some.inj M
  have S205 := S201.pulls [F57, F200, (is g11)] [1, 2] rfl
  have S206 := St.first (Fa := [F57, F200]) (Fr := [(is g11)]) S205
  exact ret4 rfl rfl rfl rfl rfl (show _ = .slice A55 x54.length c56 from (by kernel_rfl)) (show _ = .int .i64 (IntKind.i64.wrap (t98.1 * 5)) from (by kernel_rfl)) (show _ = .int .i64 (Int.tmod t111.1 7) from (by kernel_rfl)) (show _ = .slice A197 t187.1.length c198 from (by kernel_rfl)) ⟨A55, c56, F57, A197, c198, F200, H190, rfl, h58, h199, S206⟩

/-! impl_ValidOps -/
mutual
def impl_ValidOps.l0 : Nat → (List Sy.Op) → Bool → Int → Option Bool
  | 0, _, _, _ => none
  | k21 + 1, x1, x9, x10 => (if x10 < (x1.length : Int) then (if 0 ≤ x10 then (if (x1.getD ((x10).toNat) z45).name = ([] : List UInt8) then some false else (if (((x1.getD ((x10).toNat) z45).name).length : Int) > 100 then some false else (if (x1.getD ((x10).toNat) z45).name = ([91, 93] : List UInt8) then some false else (if (x1.getD ((x10).toNat) z45).name = ([123, 125] : List UInt8) then some false else (if (x1.getD ((x10).toNat) z45).name = ([124] : List UInt8) then some false else (if ((x1.getD ((x10).toNat) z45).pri) < 1 then some false else (if ((x1.getD ((x10).toNat) z45).pri) > 1200 then some false else (if ((x1.getD ((x10).toNat) z45).typ) < 0 then some false else (if ((x1.getD ((x10).toNat) z45).typ) > 6 then some false else (if (x1.getD ((x10).toNat) z45).name = ([44] : List UInt8) then (if x9 = true then some false else (if ((x1.getD ((x10).toNat) z45).pri) ≠ 1000 then some false else (if ((x1.getD ((x10).toNat) z45).typ) ≠ 1 then some false else (impl_ValidOps.l1 k21 x1 x10 true)))) else (impl_ValidOps.l1 k21 x1 x10 x9))))))))))) else none) else some x9)
def impl_ValidOps.l1 : Nat → (List Sy.Op) → Int → Bool → Option Bool
  | 0, _, _, _ => none
  | k67 + 1, x1, x10, x54 => (if x10 > 0 then (if 0 ≤ (IntKind.i64.wrap (x10 - 1)) then (if (IntKind.i64.wrap (x10 - 1)) < (x1.length : Int) then (if (!(Op.bytesLess ((x1.getD (((IntKind.i64.wrap (x10 - 1))).toNat) z45).name) ((x1.getD ((x10).toNat) z45).name) || ((x1.getD (((IntKind.i64.wrap (x10 - 1))).toNat) z45).name) == ((x1.getD ((x10).toNat) z45).name))) = true then some false else (if (x1.getD (((IntKind.i64.wrap (x10 - 1))).toNat) z45).name = (x1.getD ((x10).toNat) z45).name then ((impl_Op_prefix.f (x1.getD (((IntKind.i64.wrap (x10 - 1))).toNat) z45)).bind fun t97 => (if t97 = true then ((impl_Op_prefix.f (x1.getD ((x10).toNat) z45)).bind fun t104 => (if ¬ (¬ (t104 = true)) then some false else (impl_ValidOps.l0 k67 x1 x54 (IntKind.i64.wrap (x10 + 1))))) else some false)) else (impl_ValidOps.l0 k67 x1 x54 (IntKind.i64.wrap (x10 + 1))))) else none) else none) else (impl_ValidOps.l0 k67 x1 x54 (IntKind.i64.wrap (x10 + 1))))
end
def impl_ValidOps.f (k : Nat) (x1 : List Sy.Op) : Option Bool := (if (x1.length : Int) > 200 then some false else (impl_ValidOps.l0 k x1 false 0))
theorem impl_ValidOps.calls (k : Nat) (w : World) (H : Hp) (x1 : List Sy.Op) (A2 : Option Addr) (c3 : Nat) (h4 : Rd st45 H A2 x1) (l5 : x1.length ≤ c3) (S : Own [] H w) (r : Bool) (M : impl_ValidOps.f k x1 = some r) :
    Calls Try.prog 10 #[.slice A2 x1.length c3] w (fun e e_w => e = .returned (.bool r) ∧ Chg no w e_w) := by
  rw [impl_ValidOps.f] at M
  refine enter (l := [.slice A2 x1.length c3]) 104 Try.func10 rfl rfl rfl ?_
  have S0_ := S.st
  refine wp_seq (wR (lV 2 (eA (.bool false)) (wN (then_n (wp_seq (wp_seq (wR ?_)))))))
  refine lV 9 (eM (.slice A2 x1.length c3)) (lV 10 (e_len (A := A2) (n := x1.length) (c := c3) Try.underlying25 (by kernel_rfl)) (lV 11 (e_gtr (k := .i64) (a := (x1.length : Int)) (b := 200) (by kernel_rfl) rfl) (wN (then_n ?_))))
  by_cases q6 : (x1.length : Int) > 200
  · replace M := ifp q6 M
    refine cT (bT q6) (wp_seq (wR (lV 2 (eA (.bool false)) (wN (then_n (wp_ret (then_r ?_)))))))
    obtain rfl := Option.some.inj M
    exact ret1 rfl rfl  (show _ = .bool false from (by kernel_rfl)) ⟨rfl, S0_.chg⟩
  replace M := ifn q6 M
  refine cF (bF q6) (wp_skip (then_n (wp_seq (wR (lV 3 (eA (.bool false)) (wN (then_n ?_)))))))
  refine wp_seq (wp_seq (wR (lV 12 (eM (.slice A2 x1.length c3)) (lV 13 (e_len (A := A2) (n := x1.length) (c := c3) Try.underlying25 (by kernel_rfl)) (lV 14 (eM (.int .i64 0)) (wN (then_n ?_)))))))
  refine wp_block ?_
  refine wp_loop_g (fun k19 a20 w7 => ∃ (f8 : Nat → Value) (x9 : Bool) (x10 : Int), a20 = mk 104 f8 ∧ f8 0 = .slice A2 x1.length c3 ∧ f8 3 = .bool x9 ∧ f8 12 = .slice A2 x1.length c3 ∧ f8 13 = .int .i64 (x1.length : Int) ∧ f8 14 = .int .i64 x10 ∧ St (anyOf []) H w [] H w7 ∧ impl_ValidOps.l0 k19 x1 x9 x10 = some r) k ⟨_, false, 0, rfl, (by kernel_rfl), (by kernel_rfl), (by kernel_rfl), (by kernel_rfl), (by kernel_rfl), S0_, M⟩ ?_
  clear M
  rintro k19 a20 w7 ⟨f8, x9, x10, rfl, e11, e12, e13, e14, e15, S16, M⟩
  rcases k19 with _ | k21
  · rw [impl_ValidOps.l0] at M
    cases M
  rw [impl_ValidOps.l0] at M
  refine wp_seq (wR (lV 15 (eLt .i64 x10 (x1.length : Int) (by exact e15) (by exact e14)) (wN (then_n (wp_seq ?_)))))
  by_cases q22 : x10 < (x1.length : Int)
  · replace M := ifp q22 M
    refine cT (bT q22) (wp_skip (then_n (wp_seq (wp_block (wp_seq (wR (lV 16 (eM (.int .i64 x10) (by exact e15)) ?_)))))))
    obtain ⟨q23, M⟩ := chk M
    obtain ⟨b24, o25, e26⟩ := Rd.addr h4 (show (x10).toNat < x1.length by omega)
    obtain ⟨y27, r28, k29⟩ := Rd.at h4 e26 (getD_some z45 (show (x10).toNat < x1.length by omega))
    obtain ⟨A30, c31, rfl, l32, h33⟩ := st45_open r28
    refine lV 17 (e_indexAddr (b := b24) (off := o25) (n := x1.length) (c := c3) (sz := 3) (i := x10) (k := .i64) Try.underlying25 e26 (by kernel_rfl) (by exact e13) (by exact e15) q23 q22) (lV 18 (e_loadS (b := b24) (off := o25 + (x10 : Int).toNat * 3) (cs := [.slice A30 ((x1.getD ((x10).toNat) z45).name).length c31, .int .i64 ((x1.getD ((x10).toNat) z45).pri), .int .i64 ((x1.getD ((x10).toNat) z45).typ)]) Try.underlying45 rfl (by kernel_rfl) (by kernel_rfl) (fun j_ u_ e_ => (hpx (S16.inv.cell (k29 j_ u_ e_))))) ?_)
    refine lW 5 (nB #[.slice none 0 0, .int .i64 0, .int .i64 0] 45 S16) ?_
    rintro _ w34 ⟨g35, rfl, b36, S37, K38⟩
    refine lV 4 (eA (.int .i64 x10)) ?_
    refine lE (eSa g35 0 [.slice A30 ((x1.getD ((x10).toNat) z45).name).length c31, .int .i64 ((x1.getD ((x10).toNat) z45).pri), .int .i64 ((x1.getD ((x10).toNat) z45).typ)] S37 b36) ?_
    rintro w39 ⟨b40, S41, K42⟩
    clear b36
    refine wN (then_n (wp_seq (wR (lV 19 (eD g35 0 0 1 Try.underlying45) (lV 20 (eL ⟨g35, 0 + 0, none⟩ (.slice A30 ((x1.getD ((x10).toNat) z45).name).length c31) Try.underlying32 (blk_cell b40 rfl)) (lV 21 (e_conv_bs (A := A30) (n := ((x1.getD ((x10).toNat) z45).name).length) (c := c31) (xs := (x1.getD ((x10).toNat) z45).name) Try.underlying32 Try.underlying5 Try.underlying9 (by kernel_rfl) rfl (Rd.bytesE S41.inv h33)) (lV 6 (eA (str ((x1.getD ((x10).toNat) z45).name))) ?_)))))))
    refine wN (then_n (wp_seq (wp_seq (wR (lV 22 (eM (str ((x1.getD ((x10).toNat) z45).name))) (lV 23 (e_seql (p := (x1.getD ((x10).toNat) z45).name) (q := ([] : List UInt8)) (by kernel_rfl) rfl) (lV 24 (eM (.bool (decide ((x1.getD ((x10).toNat) z45).name = ([] : List UInt8))))) ?_)))))))
    by_cases q43 : (x1.getD ((x10).toNat) z45).name = ([] : List UInt8)
    · replace M := ifp q43 M
      refine lK 24 true (bT q43) ?_
      refine lK 24 true (bT q43) ?_
      refine lK 24 true (bT q43) ?_
      refine lV 28 (eT (.bool true) (bT q43)) (lV 29 (eM (.bool true)) ?_)
      refine lJ 29 true ?_
      refine lJ 29 true ?_
      refine lV 32 (eT (.bool true)) (lV 33 (eM (.bool true)) ?_)
      refine lJ 33 true ?_
      refine lJ 33 true ?_
      refine lV 36 (eT (.bool true)) (lV 37 (eM (.bool true)) ?_)
      refine lJ 37 true ?_
      refine lJ 37 true ?_
      refine lV 40 (eT (.bool true)) (lV 41 (eM (.bool true)) ?_)
      refine lJ 41 true ?_
      refine lJ 41 true ?_
      refine lJ 41 true ?_
      refine lV 45 (eT (.bool true)) (lV 46 (eM (.bool true)) ?_)
      refine lJ 46 true ?_
      refine lJ 46 true ?_
      refine lJ 46 true ?_
      refine lV 50 (eT (.bool true)) (lV 51 (eM (.bool true)) ?_)
      refine lJ 51 true ?_
      refine lJ 51 true ?_
      refine lJ 51 true ?_
      refine lV 55 (eT (.bool true)) (lV 56 (eM (.bool true)) ?_)
      refine lJ 56 true ?_
      refine lJ 56 true ?_
      refine lJ 56 true ?_
      refine lV 60 (eT (.bool true)) (wN (then_n (cond_t rfl (by kernel_rfl) (wp_seq (wR (lV 2 (eA (.bool false)) (wN ?_)))))))
      refine then_n (wp_ret (then_r (inb_r (then_r (then_r (inb_r (then_r ?_)))))))
      obtain rfl := Option.some.inj M
      exact ret1 rfl rfl  (show _ = .bool false from (by kernel_rfl)) ⟨rfl, S41.chg⟩
    replace M := ifn q43 M
    refine lG 25 24 (bF q43) (eM (str ((x1.getD ((x10).toNat) z45).name))) (lG 26 24 (bF q43) (e_slen (p := (x1.getD ((x10).toNat) z45).name) Try.underlying9 (by kernel_rfl)) (lG 27 24 (bF q43) (e_gtr (k := .i64) (a := (((x1.getD ((x10).toNat) z45).name).length : Int)) (b := 100) (by kernel_rfl) rfl) (lV 28 (eF (.bool (decide ((((x1.getD ((x10).toNat) z45).name).length : Int) > 100))) (bF q43)) (lV 29 (eM (.bool (decide ((((x1.getD ((x10).toNat) z45).name).length : Int) > 100)))) ?_))))
    by_cases q44 : (((x1.getD ((x10).toNat) z45).name).length : Int) > 100
    · replace M := ifp q44 M
      refine lK 29 true (bT q44) ?_
      refine lK 29 true (bT q44) ?_
      refine lV 32 (eT (.bool true) (bT q44)) (lV 33 (eM (.bool true)) ?_)
      refine lJ 33 true ?_
      refine lJ 33 true ?_
      refine lV 36 (eT (.bool true)) (lV 37 (eM (.bool true)) ?_)
      refine lJ 37 true ?_
      refine lJ 37 true ?_
      refine lV 40 (eT (.bool true)) (lV 41 (eM (.bool true)) ?_)
      refine lJ 41 true ?_
      refine lJ 41 true ?_
      refine lJ 41 true ?_
      refine lV 45 (eT (.bool true)) (lV 46 (eM (.bool true)) ?_)
      refine lJ 46 true ?_
      refine lJ 46 true ?_
      refine lJ 46 true ?_
      refine lV 50 (eT (.bool true)) (lV 51 (eM (.bool true)) ?_)
      refine lJ 51 true ?_
      refine lJ 51 true ?_
      refine lJ 51 true ?_
      refine lV 55 (eT (.bool true)) (lV 56 (eM (.bool true)) ?_)
      refine lJ 56 true ?_
      refine lJ 56 true ?_
      refine lJ 56 true ?_
      refine lV 60 (eT (.bool true)) (wN (then_n (cond_t rfl (by kernel_rfl) (wp_seq (wR (lV 2 (eA (.bool false)) (wN ?_)))))))
      refine then_n (wp_ret (then_r (inb_r (then_r (then_r (inb_r (then_r ?_)))))))
      obtain rfl := Option.some.inj M
      exact ret1 rfl rfl  (show _ = .bool false from (by kernel_rfl)) ⟨rfl, S41.chg⟩
    replace M := ifn q44 M
    refine lG 30 29 (bF q44) (eM (str ((x1.getD ((x10).toNat) z45).name))) (lG 31 29 (bF q44) (e_seql (p := (x1.getD ((x10).toNat) z45).name) (q := ([91, 93] : List UInt8)) (by kernel_rfl) rfl) (lV 32 (eF (.bool (decide ((x1.getD ((x10).toNat) z45).name = ([91, 93] : List UInt8)))) (bF q44)) (lV 33 (eM (.bool (decide ((x1.getD ((x10).toNat) z45).name = ([91, 93] : List UInt8))))) ?_)))
    by_cases q45 : (x1.getD ((x10).toNat) z45).name = ([91, 93] : List UInt8)
    · replace M := ifp q45 M
      refine lK 33 true (bT q45) ?_
      refine lK 33 true (bT q45) ?_
      refine lV 36 (eT (.bool true) (bT q45)) (lV 37 (eM (.bool true)) ?_)
      refine lJ 37 true ?_
      refine lJ 37 true ?_
      refine lV 40 (eT (.bool true)) (lV 41 (eM (.bool true)) ?_)
      refine lJ 41 true ?_
      refine lJ 41 true ?_
      refine lJ 41 true ?_
      refine lV 45 (eT (.bool true)) (lV 46 (eM (.bool true)) ?_)
      refine lJ 46 true ?_
      refine lJ 46 true ?_
      refine lJ 46 true ?_
      refine lV 50 (eT (.bool true)) (lV 51 (eM (.bool true)) ?_)
      refine lJ 51 true ?_
      refine lJ 51 true ?_
      refine lJ 51 true ?_
      refine lV 55 (eT (.bool true)) (lV 56 (eM (.bool true)) ?_)
      refine lJ 56 true ?_
      refine lJ 56 true ?_
      refine lJ 56 true ?_
      refine lV 60 (eT (.bool true)) (wN (then_n (cond_t rfl (by kernel_rfl) (wp_seq (wR (lV 2 (eA (.bool false)) (wN ?_)))))))
      refine then_n (wp_ret (then_r (inb_r (then_r (then_r (inb_r (then_r ?_)))))))
      obtain rfl := Option.some.inj M
      exact ret1 rfl rfl  (show _ = .bool false from (by kernel_rfl)) ⟨rfl, S41.chg⟩
    replace M := ifn q45 M
    refine lG 34 33 (bF q45) (eM (str ((x1.getD ((x10).toNat) z45).name))) (lG 35 33 (bF q45) (e_seql (p := (x1.getD ((x10).toNat) z45).name) (q := ([123, 125] : List UInt8)) (by kernel_rfl) rfl) (lV 36 (eF (.bool (decide ((x1.getD ((x10).toNat) z45).name = ([123, 125] : List UInt8)))) (bF q45)) (lV 37 (eM (.bool (decide ((x1.getD ((x10).toNat) z45).name = ([123, 125] : List UInt8))))) ?_)))
    by_cases q46 : (x1.getD ((x10).toNat) z45).name = ([123, 125] : List UInt8)
    · replace M := ifp q46 M
      refine lK 37 true (bT q46) ?_
      refine lK 37 true (bT q46) ?_
      refine lV 40 (eT (.bool true) (bT q46)) (lV 41 (eM (.bool true)) ?_)
      refine lJ 41 true ?_
      refine lJ 41 true ?_
      refine lJ 41 true ?_
      refine lV 45 (eT (.bool true)) (lV 46 (eM (.bool true)) ?_)
      refine lJ 46 true ?_
      refine lJ 46 true ?_
      refine lJ 46 true ?_
      refine lV 50 (eT (.bool true)) (lV 51 (eM (.bool true)) ?_)
      refine lJ 51 true ?_
      refine lJ 51 true ?_
      refine lJ 51 true ?_
      refine lV 55 (eT (.bool true)) (lV 56 (eM (.bool true)) ?_)
      refine lJ 56 true ?_
      refine lJ 56 true ?_
      refine lJ 56 true ?_
      refine lV 60 (eT (.bool true)) (wN (then_n (cond_t rfl (by kernel_rfl) (wp_seq (wR (lV 2 (eA (.bool false)) (wN ?_)))))))
      refine then_n (wp_ret (then_r (inb_r (then_r (then_r (inb_r (then_r ?_)))))))
      obtain rfl := Option.some.inj M
      exact ret1 rfl rfl  (show _ = .bool false from (by kernel_rfl)) ⟨rfl, S41.chg⟩
    replace M := ifn q46 M
    refine lG 38 37 (bF q46) (eM (str ((x1.getD ((x10).toNat) z45).name))) (lG 39 37 (bF q46) (e_seql (p := (x1.getD ((x10).toNat) z45).name) (q := ([124] : List UInt8)) (by kernel_rfl) rfl) (lV 40 (eF (.bool (decide ((x1.getD ((x10).toNat) z45).name = ([124] : List UInt8)))) (bF q46)) (lV 41 (eM (.bool (decide ((x1.getD ((x10).toNat) z45).name = ([124] : List UInt8))))) ?_)))
    by_cases q47 : (x1.getD ((x10).toNat) z45).name = ([124] : List UInt8)
    · replace M := ifp q47 M
      refine lK 41 true (bT q47) ?_
      refine lK 41 true (bT q47) ?_
      refine lK 41 true (bT q47) ?_
      refine lV 45 (eT (.bool true) (bT q47)) (lV 46 (eM (.bool true)) ?_)
      refine lJ 46 true ?_
      refine lJ 46 true ?_
      refine lJ 46 true ?_
      refine lV 50 (eT (.bool true)) (lV 51 (eM (.bool true)) ?_)
      refine lJ 51 true ?_
      refine lJ 51 true ?_
      refine lJ 51 true ?_
      refine lV 55 (eT (.bool true)) (lV 56 (eM (.bool true)) ?_)
      refine lJ 56 true ?_
      refine lJ 56 true ?_
      refine lJ 56 true ?_
      refine lV 60 (eT (.bool true)) (wN (then_n (cond_t rfl (by kernel_rfl) (wp_seq (wR (lV 2 (eA (.bool false)) (wN ?_)))))))
      refine then_n (wp_ret (then_r (inb_r (then_r (then_r (inb_r (then_r ?_)))))))
      obtain rfl := Option.some.inj M
      exact ret1 rfl rfl  (show _ = .bool false from (by kernel_rfl)) ⟨rfl, S41.chg⟩
    replace M := ifn q47 M
    refine lG 42 41 (bF q47) (eD g35 0 1 1 Try.underlying45) (lG 43 41 (bF q47) (eL ⟨g35, 0 + 1, none⟩ (.int .i64 ((x1.getD ((x10).toNat) z45).pri)) Try.underlying3 (blk_cell b40 rfl)) (lG 44 41 (bF q47) (eLt .i64 (x1.getD ((x10).toNat) z45).pri 1) (lV 45 (eF (.bool (decide (((x1.getD ((x10).toNat) z45).pri) < 1))) (bF q47)) (lV 46 (eM (.bool (decide (((x1.getD ((x10).toNat) z45).pri) < 1)))) ?_))))
    by_cases q48 : ((x1.getD ((x10).toNat) z45).pri) < 1
    · replace M := ifp q48 M
      refine lK 46 true (bT q48) ?_
      refine lK 46 true (bT q48) ?_
      refine lK 46 true (bT q48) ?_
      refine lV 50 (eT (.bool true) (bT q48)) (lV 51 (eM (.bool true)) ?_)
      refine lJ 51 true ?_
      refine lJ 51 true ?_
      refine lJ 51 true ?_
      refine lV 55 (eT (.bool true)) (lV 56 (eM (.bool true)) ?_)
      refine lJ 56 true ?_
      refine lJ 56 true ?_
      refine lJ 56 true ?_
      refine lV 60 (eT (.bool true)) (wN (then_n (cond_t rfl (by kernel_rfl) (wp_seq (wR (lV 2 (eA (.bool false)) (wN ?_)))))))
      refine then_n (wp_ret (then_r (inb_r (then_r (then_r (inb_r (then_r ?_)))))))
      obtain rfl := Option.some.inj M
      exact ret1 rfl rfl  (show _ = .bool false from (by kernel_rfl)) ⟨rfl, S41.chg⟩
    replace M := ifn q48 M
    refine lG 47 46 (bF q48) (eD g35 0 1 1 Try.underlying45) (lG 48 46 (bF q48) (eL ⟨g35, 0 + 1, none⟩ (.int .i64 ((x1.getD ((x10).toNat) z45).pri)) Try.underlying3 (blk_cell b40 rfl)) (lG 49 46 (bF q48) (e_gtr (k := .i64) (a := (x1.getD ((x10).toNat) z45).pri) (b := 1200) (by kernel_rfl) rfl) (lV 50 (eF (.bool (decide (((x1.getD ((x10).toNat) z45).pri) > 1200))) (bF q48)) (lV 51 (eM (.bool (decide (((x1.getD ((x10).toNat) z45).pri) > 1200)))) ?_))))
    by_cases q49 : ((x1.getD ((x10).toNat) z45).pri) > 1200
    · replace M := ifp q49 M
      refine lK 51 true (bT q49) ?_
      refine lK 51 true (bT q49) ?_
      refine lK 51 true (bT q49) ?_
      refine lV 55 (eT (.bool true) (bT q49)) (lV 56 (eM (.bool true)) ?_)
      refine lJ 56 true ?_
      refine lJ 56 true ?_
      refine lJ 56 true ?_
      refine lV 60 (eT (.bool true)) (wN (then_n (cond_t rfl (by kernel_rfl) (wp_seq (wR (lV 2 (eA (.bool false)) (wN ?_)))))))
      refine then_n (wp_ret (then_r (inb_r (then_r (then_r (inb_r (then_r ?_)))))))
      obtain rfl := Option.some.inj M
      exact ret1 rfl rfl  (show _ = .bool false from (by kernel_rfl)) ⟨rfl, S41.chg⟩
    replace M := ifn q49 M
    refine lG 52 51 (bF q49) (eD g35 0 2 1 Try.underlying45) (lG 53 51 (bF q49) (eL ⟨g35, 0 + 2, none⟩ (.int .i64 ((x1.getD ((x10).toNat) z45).typ)) Try.underlying3 (blk_cell b40 rfl)) (lG 54 51 (bF q49) (eLt .i64 (x1.getD ((x10).toNat) z45).typ 0) (lV 55 (eF (.bool (decide (((x1.getD ((x10).toNat) z45).typ) < 0))) (bF q49)) (lV 56 (eM (.bool (decide (((x1.getD ((x10).toNat) z45).typ) < 0)))) ?_))))
    by_cases q50 : ((x1.getD ((x10).toNat) z45).typ) < 0
    · replace M := ifp q50 M
      refine lK 56 true (bT q50) ?_
      refine lK 56 true (bT q50) ?_
      refine lK 56 true (bT q50) ?_
      refine lV 60 (eT (.bool true) (bT q50)) (wN (then_n (cond_t rfl (by kernel_rfl) (wp_seq (wR (lV 2 (eA (.bool false)) (wN ?_)))))))
      refine then_n (wp_ret (then_r (inb_r (then_r (then_r (inb_r (then_r ?_)))))))
      obtain rfl := Option.some.inj M
      exact ret1 rfl rfl  (show _ = .bool false from (by kernel_rfl)) ⟨rfl, S41.chg⟩
    replace M := ifn q50 M
    refine lG 57 56 (bF q50) (eD g35 0 2 1 Try.underlying45) (lG 58 56 (bF q50) (eL ⟨g35, 0 + 2, none⟩ (.int .i64 ((x1.getD ((x10).toNat) z45).typ)) Try.underlying3 (blk_cell b40 rfl)) (lG 59 56 (bF q50) (e_gtr (k := .i64) (a := (x1.getD ((x10).toNat) z45).typ) (b := 6) (by kernel_rfl) rfl) (lV 60 (eF (.bool (decide (((x1.getD ((x10).toNat) z45).typ) > 6))) (bF q50)) (wN (then_n ?_)))))
    by_cases q51 : ((x1.getD ((x10).toNat) z45).typ) > 6
    · replace M := ifp q51 M
      refine cT (bT q51) (wp_seq (wR (lV 2 (eA (.bool false)) (wN (then_n (wp_ret (then_r ?_)))))))
      refine inb_r (then_r (then_r (inb_r (then_r ?_))))
      obtain rfl := Option.some.inj M
      exact ret1 rfl rfl  (show _ = .bool false from (by kernel_rfl)) ⟨rfl, S41.chg⟩
    replace M := ifn q51 M
    refine cF (bF q51) (wp_skip (then_n ?_))
    refine wp_seq_cut (fun a66 w52 => ∃ (k68 : Nat), k68 ≤ k21 ∧ ∃ (f53 : Nat → Value) (x54 : Bool), a66 = mk 104 f53 ∧ f53 0 = .slice A2 x1.length c3 ∧ f53 3 = .bool x54 ∧ f53 4 = .int .i64 x10 ∧ f53 5 = .pointer (some ⟨g35, 0, none⟩) ∧ f53 6 = str ((x1.getD ((x10).toNat) z45).name) ∧ f53 12 = .slice A2 x1.length c3 ∧ f53 13 = .int .i64 (x1.length : Int) ∧ f53 14 = .int .i64 x10 ∧ w52.heap[g35]? = some (.cells #[.slice A30 ((x1.getD ((x10).toNat) z45).name).length c31, .int .i64 ((x1.getD ((x10).toNat) z45).pri), .int .i64 ((x1.getD ((x10).toNat) z45).typ)] 45 (0, 0)) ∧ St (anyOf []) H w [(is g35)] H w52 ∧ impl_ValidOps.l1 k68 x1 x10 x54 = some r) ?_ ?_
    · refine wp_seq (wR (lV 61 (eM (str ((x1.getD ((x10).toNat) z45).name))) (lV 62 (e_seql (p := (x1.getD ((x10).toNat) z45).name) (q := ([44] : List UInt8)) (by kernel_rfl) rfl) (wN (then_n ?_)))))
      by_cases q69 : (x1.getD ((x10).toNat) z45).name = ([44] : List UInt8)
      · replace M := ifp q69 M
        refine cT (bT q69) (wp_seq (wp_seq (wR (lV 63 (eM (.bool x9) (by exact e12)) (lV 64 (eM (.bool x9)) ?_)))))
        by_cases q70 : x9 = true
        · replace M := ifp q70 M
          refine lK 64 true (bvt q70 (by kernel_rfl)) ?_
          refine lK 64 true (bvt q70 (by kernel_rfl)) ?_
          refine lK 64 true (bvt q70 (by kernel_rfl)) ?_
          refine lV 68 (eT (.bool true) (bvt q70 (by kernel_rfl))) (lV 69 (eM (.bool true)) ?_)
          refine lJ 69 true ?_
          refine lJ 69 true ?_
          refine lJ 69 true ?_
          refine lV 73 (eT (.bool true)) (wN (then_n (cond_t rfl (by kernel_rfl) (wp_seq (wR (lV 2 (eA (.bool false)) (wN ?_)))))))
          refine then_n (wp_ret (then_r (then_r (inb_r (then_r (then_r (inb_r ?_)))))))
          refine then_r ?_
          obtain rfl := Option.some.inj M
          exact ret1 rfl rfl  (show _ = .bool false from (by kernel_rfl)) ⟨rfl, S41.chg⟩
        replace M := ifn q70 M
        refine lG 65 64 (bvf q70 (by kernel_rfl)) (eD g35 0 1 1 Try.underlying45) (lG 66 64 (bvf q70 (by kernel_rfl)) (eL ⟨g35, 0 + 1, none⟩ (.int .i64 ((x1.getD ((x10).toNat) z45).pri)) Try.underlying3 (blk_cell b40 rfl)) (lG 67 64 (bvf q70 (by kernel_rfl)) (eNe .i64 (x1.getD ((x10).toNat) z45).pri 1000) (lV 68 (eF (.bool (decide (((x1.getD ((x10).toNat) z45).pri) ≠ 1000))) (bvf q70 (by kernel_rfl))) (lV 69 (eM (.bool (decide (((x1.getD ((x10).toNat) z45).pri) ≠ 1000)))) ?_))))
        by_cases q71 : ((x1.getD ((x10).toNat) z45).pri) ≠ 1000
        · replace M := ifp q71 M
          refine lK 69 true (bT q71) ?_
          refine lK 69 true (bT q71) ?_
          refine lK 69 true (bT q71) ?_
          refine lV 73 (eT (.bool true) (bT q71)) (wN (then_n (cond_t rfl (by kernel_rfl) (wp_seq (wR (lV 2 (eA (.bool false)) (wN ?_)))))))
          refine then_n (wp_ret (then_r (then_r (inb_r (then_r (then_r (inb_r ?_)))))))
          refine then_r ?_
          obtain rfl := Option.some.inj M
          exact ret1 rfl rfl  (show _ = .bool false from (by kernel_rfl)) ⟨rfl, S41.chg⟩
        replace M := ifn q71 M
        refine lG 70 69 (bF q71) (eD g35 0 2 1 Try.underlying45) (lG 71 69 (bF q71) (eL ⟨g35, 0 + 2, none⟩ (.int .i64 ((x1.getD ((x10).toNat) z45).typ)) Try.underlying3 (blk_cell b40 rfl)) (lG 72 69 (bF q71) (eNe .i64 (x1.getD ((x10).toNat) z45).typ 1) (lV 73 (eF (.bool (decide (((x1.getD ((x10).toNat) z45).typ) ≠ 1))) (bF q71)) (wN (then_n ?_)))))
        by_cases q72 : ((x1.getD ((x10).toNat) z45).typ) ≠ 1
        · replace M := ifp q72 M
          refine cT (bT q72) (wp_seq (wR (lV 2 (eA (.bool false)) (wN (then_n (wp_ret (then_r ?_)))))))
          refine then_r (inb_r (then_r (then_r (inb_r (then_r ?_)))))
          obtain rfl := Option.some.inj M
          exact ret1 rfl rfl  (show _ = .bool false from (by kernel_rfl)) ⟨rfl, S41.chg⟩
        replace M := ifn q72 M
        refine cF (bF q72) (wp_skip (then_n (wR (lV 3 (eA (.bool true)) (wN (then_n ?_))))))
        exact ⟨k21, (by omega), _, true, rfl, (by exact e11), (by kernel_rfl), (by kernel_rfl), (by kernel_rfl), (by kernel_rfl), (by exact e13), (by exact e14), (by exact e15), b40, S41, M⟩
      replace M := ifn q69 M
      refine cF (bF q69) (wp_skip (then_n ?_))
      exact ⟨k21, (by omega), _, x9, rfl, (by exact e11), (by exact e12), (by kernel_rfl), (by kernel_rfl), (by kernel_rfl), (by exact e13), (by exact e14), (by exact e15), b40, S41, M⟩
    clear M
    rintro a66 w52 ⟨k68, z114, f53, x54, rfl, e55, e56, e57, e58, e59, e60, e61, e62, b40, S63, M⟩
    rcases k68 with _ | k67
    · rw [impl_ValidOps.l1] at M
      cases M
    rw [impl_ValidOps.l1] at M
    refine wp_seq (wR (lV 74 (eM (.int .i64 x10) (by exact e57)) (lV 75 (e_gtr (k := .i64) (a := x10) (b := 0) (by kernel_rfl) rfl) (wN (then_n ?_)))))
    by_cases q73 : x10 > 0
    · replace M := ifp q73 M
      refine cT (bT q73) (wp_seq (wR (lV 76 (eM (.slice A2 x1.length c3) (by exact e55)) (lV 77 (eM (.int .i64 x10) (by exact e57)) (lV 78 (e_sub (k := .i64) (a := x10) (b := 1) (by kernel_rfl) rfl) ?_)))))
      obtain ⟨q74, M⟩ := chk M
      obtain ⟨q75, M⟩ := chk M
      obtain ⟨b76, o77, e78⟩ := Rd.addr h4 (show ((IntKind.i64.wrap (x10 - 1))).toNat < x1.length by omega)
      obtain ⟨y79, r80, k81⟩ := Rd.at h4 e78 (getD_some z45 (show ((IntKind.i64.wrap (x10 - 1))).toNat < x1.length by omega))
      obtain ⟨A82, c83, rfl, l84, h85⟩ := st45_open r80
      refine lV 79 (eI b76 o77 x1.length c3 3 (IntKind.i64.wrap (x10 - 1)) .i64 Try.underlying25 e78 q74 q75) (lV 80 (e_loadS (b := b76) (off := o77 + ((IntKind.i64.wrap (x10 - 1)) : Int).toNat * 3) (cs := [.slice A82 ((x1.getD (((IntKind.i64.wrap (x10 - 1))).toNat) z45).name).length c83, .int .i64 ((x1.getD (((IntKind.i64.wrap (x10 - 1))).toNat) z45).pri), .int .i64 ((x1.getD (((IntKind.i64.wrap (x10 - 1))).toNat) z45).typ)]) Try.underlying45 rfl (by kernel_rfl) (by kernel_rfl) (fun j_ u_ e_ => (hpx (S63.inv.cell (k81 j_ u_ e_))))) ?_)
      refine lW 7 (nB #[.slice none 0 0, .int .i64 0, .int .i64 0] 45 S63) ?_
      rintro _ w86 ⟨g87, rfl, b88, S89, K90⟩
      replace b40 := K90.blk 0 rfl b40
      refine lE (eSa g87 0 [.slice A82 ((x1.getD (((IntKind.i64.wrap (x10 - 1))).toNat) z45).name).length c83, .int .i64 ((x1.getD (((IntKind.i64.wrap (x10 - 1))).toNat) z45).pri), .int .i64 ((x1.getD (((IntKind.i64.wrap (x10 - 1))).toNat) z45).typ)] S89 b88) ?_
      rintro w91 ⟨b92, S93, K94⟩
      replace b40 := K94.blk 0 rfl b40
      clear b88
      refine wN (then_n (wp_seq (wR (lV 81 (eD g87 0 0 1 Try.underlying45) (lV 82 (eL ⟨g87, 0 + 0, none⟩ (.slice A82 ((x1.getD (((IntKind.i64.wrap (x10 - 1))).toNat) z45).name).length c83) Try.underlying32 (blk_cell b92 rfl)) (lV 83 (e_conv_bs (A := A82) (n := ((x1.getD (((IntKind.i64.wrap (x10 - 1))).toNat) z45).name).length) (c := c83) (xs := (x1.getD (((IntKind.i64.wrap (x10 - 1))).toNat) z45).name) Try.underlying32 Try.underlying5 Try.underlying9 (by kernel_rfl) rfl (Rd.bytesE S93.inv h85)) (lV 8 (eA (str ((x1.getD (((IntKind.i64.wrap (x10 - 1))).toNat) z45).name))) ?_)))))))
      refine wN (then_n (wp_seq (wR (lV 84 (eM (str ((x1.getD (((IntKind.i64.wrap (x10 - 1))).toNat) z45).name))) (lV 85 (eM (str ((x1.getD ((x10).toNat) z45).name)) (by exact e59)) (lV 86 (e_sgtr (p := (x1.getD (((IntKind.i64.wrap (x10 - 1))).toNat) z45).name) (q := (x1.getD ((x10).toNat) z45).name) (by kernel_rfl) (by kernel_rfl)) (lV 87 (eM (.bool (!(Op.bytesLess ((x1.getD (((IntKind.i64.wrap (x10 - 1))).toNat) z45).name) ((x1.getD ((x10).toNat) z45).name) || ((x1.getD (((IntKind.i64.wrap (x10 - 1))).toNat) z45).name) == ((x1.getD ((x10).toNat) z45).name))))) ?_)))))))
      by_cases q95 : (!(Op.bytesLess ((x1.getD (((IntKind.i64.wrap (x10 - 1))).toNat) z45).name) ((x1.getD ((x10).toNat) z45).name) || ((x1.getD (((IntKind.i64.wrap (x10 - 1))).toNat) z45).name) == ((x1.getD ((x10).toNat) z45).name))) = true
      · replace M := ifp q95 M
        refine lK 87 true (bvt q95 (by kernel_rfl)) ?_
        refine lK 87 true (bvt q95 (by kernel_rfl)) ?_
        refine lK 87 true (bvt q95 (by kernel_rfl)) ?_
        refine lK 87 true (bvt q95 (by kernel_rfl)) ?_
        refine lskipu (t := 91) rfl (by kernel_rfl) rfl (by kernel_rfl) rfl ?_
        refine lskipu (t := 91) rfl (by kernel_rfl) rfl (by kernel_rfl) rfl ?_
        refine lskipu (t := 91) rfl (by kernel_rfl) rfl (by kernel_rfl) rfl ?_
        refine lskipu (t := 94) rfl (by kernel_rfl) rfl (by kernel_rfl) rfl ?_
        refine lskipu (t := 94) rfl (by kernel_rfl) rfl (by kernel_rfl) rfl ?_
        refine lskipu (t := 94) rfl (by kernel_rfl) rfl (by kernel_rfl) rfl ?_
        refine lskipu (t := 91) rfl (by kernel_rfl) rfl (by kernel_rfl) rfl ?_
        refine lskipu (t := 91) rfl (by kernel_rfl) rfl (by kernel_rfl) rfl ?_
        refine lK 87 true (bvt q95 (by kernel_rfl)) ?_
        refine lV 101 (eT (.bool true) (bvt q95 (by kernel_rfl))) (wN (then_n (cond_t rfl (by kernel_rfl) (wp_seq (wR (lV 2 (eA (.bool false)) (wN ?_)))))))
        refine then_n (wp_ret (inb_r (then_r (then_r (inb_r (then_r ?_))))))
        obtain rfl := Option.some.inj M
        exact ret1 rfl rfl  (show _ = .bool false from (by kernel_rfl)) ⟨rfl, S93.chg⟩
      replace M := ifn q95 M
      refine lG 88 87 (bvf q95 (by kernel_rfl)) (eM (str ((x1.getD (((IntKind.i64.wrap (x10 - 1))).toNat) z45).name))) (lG 89 87 (bvf q95 (by kernel_rfl)) (eM (str ((x1.getD ((x10).toNat) z45).name)) (by exact e59)) (lG 90 87 (bvf q95 (by kernel_rfl)) (e_seql (p := (x1.getD (((IntKind.i64.wrap (x10 - 1))).toNat) z45).name) (q := (x1.getD ((x10).toNat) z45).name) (by kernel_rfl) (by kernel_rfl)) (lG 91 87 (bvf q95 (by kernel_rfl)) (eM (.bool (decide ((x1.getD (((IntKind.i64.wrap (x10 - 1))).toNat) z45).name = (x1.getD ((x10).toNat) z45).name)))) ?_)))
      by_cases q96 : (x1.getD (((IntKind.i64.wrap (x10 - 1))).toNat) z45).name = (x1.getD ((x10).toNat) z45).name
      · replace M := ifp q96 M
        refine lG 92 91 (bT q96) (e_loadS (b := g87) (off := 0) (cs := [.slice A82 ((x1.getD (((IntKind.i64.wrap (x10 - 1))).toNat) z45).name).length c83, .int .i64 ((x1.getD (((IntKind.i64.wrap (x10 - 1))).toNat) z45).pri), .int .i64 ((x1.getD (((IntKind.i64.wrap (x10 - 1))).toNat) z45).typ)]) Try.underlying45 rfl (by kernel_rfl) (by kernel_rfl) (blk_cells b92 rfl)) ?_
        obtain ⟨t97, u98, M⟩ := bnd M
        refine lcallg (d := 93) (t := 91) rfl (by kernel_rfl) rfl (bT q96) rfl (by kernel_rfl) (eC [.tmp 92] [.agg #[.slice A82 ((x1.getD (((IntKind.i64.wrap (x10 - 1))).toNat) z45).name).length c83, .int .i64 ((x1.getD (((IntKind.i64.wrap (x10 - 1))).toNat) z45).pri), .int .i64 ((x1.getD (((IntKind.i64.wrap (x10 - 1))).toNat) z45).typ)]] Try.func27) (impl_Op_prefix.calls w91 H (x1.getD (((IntKind.i64.wrap (x10 - 1))).toNat) z45) A82 c83 h85 l84 S93.own0 t97 u98) ?_
        rintro _ w99 ⟨rfl, C100⟩
        refine ⟨_, rfl, ?_⟩
        obtain ⟨S101, K102⟩ := S93.still C100
        replace b40 := K102.blk 1 rfl b40
        refine lG 94 91 (bT q96) (eM (.bool t97)) ?_
        by_cases q103 : t97 = true
        · replace M := ifp q103 M
          refine lG 95 94 (bvt q103 (by kernel_rfl)) (e_loadS (b := g35) (off := 0) (cs := [.slice A30 ((x1.getD ((x10).toNat) z45).name).length c31, .int .i64 ((x1.getD ((x10).toNat) z45).pri), .int .i64 ((x1.getD ((x10).toNat) z45).typ)]) Try.underlying45 rfl (by kernel_rfl) (by exact e58) (blk_cells b40 rfl)) ?_
          obtain ⟨t104, u105, M⟩ := bnd M
          refine lcallg (d := 96) (t := 94) rfl (by kernel_rfl) rfl (bvt q103 (by kernel_rfl)) rfl (by kernel_rfl) (eC [.tmp 95] [.agg #[.slice A30 ((x1.getD ((x10).toNat) z45).name).length c31, .int .i64 ((x1.getD ((x10).toNat) z45).pri), .int .i64 ((x1.getD ((x10).toNat) z45).typ)]] Try.func27) (impl_Op_prefix.calls w99 H (x1.getD ((x10).toNat) z45) A30 c31 h33 l32 S101.own0 t104 u105) ?_
          rintro _ w106 ⟨rfl, C107⟩
          refine ⟨_, rfl, ?_⟩
          obtain ⟨S108, K109⟩ := S101.still C107
          refine lG 97 94 (bvt q103 (by kernel_rfl)) (e_notv (c := t104) (by kernel_rfl)) (lG 98 91 (bT q96) (eT (.bool (decide (¬ (t104 = true)))) (bvt q103 (by kernel_rfl))) (lG 99 91 (bT q96) (e_notd (c := ¬ (t104 = true)) (by kernel_rfl)) (lG 100 87 (bvf q95 (by kernel_rfl)) (eT (.bool (decide (¬ (¬ (t104 = true))))) (bT q96)) (lV 101 (eF (.bool (decide (¬ (¬ (t104 = true))))) (bvf q95 (by kernel_rfl))) (wN (then_n ?_))))))
          by_cases q110 : ¬ (¬ (t104 = true))
          · replace M := ifp q110 M
            refine cT (bT q110) (wp_seq (wR (lV 2 (eA (.bool false)) (wN (then_n (wp_ret (inb_r ?_)))))))
            refine then_r (then_r (inb_r (then_r ?_)))
            obtain rfl := Option.some.inj M
            exact ret1 rfl rfl  (show _ = .bool false from (by kernel_rfl)) ⟨rfl, S108.chg⟩
          replace M := ifn q110 M
          refine cF (bF q110) (wp_skip (inb_n (then_n (wR (lV 102 (eAdd .i64 x10 1 (by exact e62)) (lV 14 (eM (.int .i64 (IntKind.i64.wrap (x10 + 1)))) (wN ?_)))))))
          refine then_n ?_
          have S111 := St.first (Fa := []) (Fr := [(is g87), (is g35)]) S108
          exact ⟨k67, (by omega), _, x54, (IntKind.i64.wrap (x10 + 1)), rfl, (by exact e55), (by exact e56), (by exact e60), (by exact e61), (by kernel_rfl), S111, M⟩
        replace M := ifn q103 M
        refine lK 94 false (bvf q103 (by kernel_rfl)) ?_
        refine lK 94 false (bvf q103 (by kernel_rfl)) ?_
        refine lK 94 false (bvf q103 (by kernel_rfl)) ?_
        refine lG 98 91 (bT q96) (eF (.bool false) (bvf q103 (by kernel_rfl))) (lG 99 91 (bT q96) (e_not (c := false) (by kernel_rfl)) (lG 100 87 (bvf q95 (by kernel_rfl)) (eT (.bool true) (bT q96)) (lV 101 (eF (.bool true) (bvf q95 (by kernel_rfl))) (wN (then_n (cond_t rfl (by kernel_rfl) (wp_seq ?_)))))))
        refine wR (lV 2 (eA (.bool false)) (wN (then_n (wp_ret (inb_r (then_r (then_r ?_)))))))
        refine inb_r (then_r ?_)
        obtain rfl := Option.some.inj M
        exact ret1 rfl rfl  (show _ = .bool false from (by kernel_rfl)) ⟨rfl, S101.chg⟩
      replace M := ifn q96 M
      refine lK 91 false (bF q96) ?_
      refine lK 91 false (bF q96) ?_
      refine lK 91 false (bF q96) ?_
      refine lskipu (t := 94) rfl (by kernel_rfl) rfl (by kernel_rfl) rfl ?_
      refine lskipu (t := 94) rfl (by kernel_rfl) rfl (by kernel_rfl) rfl ?_
      refine lskipu (t := 94) rfl (by kernel_rfl) rfl (by kernel_rfl) rfl ?_
      refine lK 91 false (bF q96) ?_
      refine lK 91 false (bF q96) ?_
      refine lG 100 87 (bvf q95 (by kernel_rfl)) (eF (.bool false) (bF q96)) (lV 101 (eF (.bool false) (bvf q95 (by kernel_rfl))) (wN (then_n (cond_f rfl (by kernel_rfl) (wp_skip (inb_n (then_n ?_)))))))
      refine wR (lV 102 (eAdd .i64 x10 1 (by exact e62)) (lV 14 (eM (.int .i64 (IntKind.i64.wrap (x10 + 1)))) (wN (then_n ?_))))
      have S112 := St.first (Fa := []) (Fr := [(is g87), (is g35)]) S93
      exact ⟨k67, (by omega), _, x54, (IntKind.i64.wrap (x10 + 1)), rfl, (by exact e55), (by exact e56), (by exact e60), (by exact e61), (by kernel_rfl), S112, M⟩
    replace M := ifn q73 M
    refine cF (bF q73) (wp_skip (inb_n (then_n (wR (lV 102 (eAdd .i64 x10 1 (by exact e62)) (lV 14 (eM (.int .i64 (IntKind.i64.wrap (x10 + 1)))) (wN ?_)))))))
    refine then_n ?_
    have S113 := St.first (Fa := []) (Fr := [(is g35)]) S63
    exact ⟨k67, (by omega), _, x54, (IntKind.i64.wrap (x10 + 1)), rfl, (by exact e55), (by exact e56), (by exact e60), (by exact e61), (by kernel_rfl), S113, M⟩
  replace M := ifn q22 M
  refine cF (bF q22) (wp_exit (then_e (then_e (inb_hit (then_n (wp_seq (wR ?_)))))))
  refine lV 103 (eM (.bool x9) (by exact e12)) (lV 2 (eA (.bool x9)) (wN (then_n (wp_ret ?_))))
  obtain rfl := Option.some.inj M
  exact ret1 rfl rfl  (show _ = .bool x9 from (by kernel_rfl)) ⟨rfl, S16.chg⟩

/-! impl_copyOps -/
def impl_copyOps.l0 : Nat → (List Sy.Op) → (List Sy.Op) → Int → Option (List Sy.Op)
  | 0, _, _, _ => none
  | k23 + 1, x1, x8, x13 => (if x13 < (x1.length : Int) then (if 0 ≤ x13 then (if 0 + ((x1.getD ((x13).toNat) z45).name).length ≤ 140737488355328 then (if x8.length + 1 ≤ 3518437208883 then (impl_copyOps.l0 k23 x1 (x8 ++ [(⟨(([] : List UInt8) ++ ((x1.getD ((x13).toNat) z45).name)), (x1.getD ((x13).toNat) z45).pri, (x1.getD ((x13).toNat) z45).typ⟩ : Sy.Op)]) (IntKind.i64.wrap (x13 + 1))) else none) else none) else none) else some x8)
def impl_copyOps.f (k : Nat) (x1 : List Sy.Op) : Option (List Sy.Op) := (impl_copyOps.l0 k x1 [] 0)
theorem impl_copyOps.calls (k : Nat) (w : World) (H : Hp) (x1 : List Sy.Op) (A2 : Option Addr) (c3 : Nat) (h4 : Rd st45 H A2 x1) (l5 : x1.length ≤ c3) (S : Own [] H w) (r : List Sy.Op) (M : impl_copyOps.f k x1 = some r) :
    Calls Try.prog 38 #[.slice A2 x1.length c3] w (fun e e_w => ∃ (A_1 : Option Addr) (c_1 : Nat) (F_1 : Foot) (H_ : Hp), e = .returned (.slice A_1 r.length c_1) ∧ Row st45 45 H_ (hp e_w) F_1 A_1 c_1 r ∧ St (anyOf []) H w [F_1] H_ e_w) := by
  rw [impl_copyOps.f] at M
  refine enter (l := [.slice A2 x1.length c3]) 23 Try.func38 rfl rfl rfl ?_
  have S0_ := S.st
  refine wp_seq (wR (lV 2 (eA (.slice none 0 0)) (wN (then_n (wp_seq (wR (lV 3 (eA (.slice none 0 0)) ?_)))))))
  refine wN (then_n (wp_seq (wp_seq (wR (lV 6 (eM (.slice A2 x1.length c3)) (lV 7 (e_len (A := A2) (n := x1.length) (c := c3) Try.underlying25 (by kernel_rfl)) (lV 8 (eM (.int .i64 0)) ?_)))))))
  refine wN (then_n (wp_block ?_))
  have S24 := S0_.unit
  refine wp_loop_g (fun k21 a22 w6 => ∃ (f7 : Nat → Value) (x8 : List Sy.Op) (A9 : Option Addr) (c10 : Nat) (F11 : Foot) (x13 : Int), a22 = mk 23 f7 ∧ f7 3 = .slice A9 x8.length c10 ∧ f7 6 = .slice A2 x1.length c3 ∧ f7 7 = .int .i64 (x1.length : Int) ∧ f7 8 = .int .i64 x13 ∧ Row st45 45 H (hp w6) F11 A9 c10 x8 ∧ St (anyOf []) H w [F11] H w6 ∧ impl_copyOps.l0 k21 x1 x8 x13 = some r) k ⟨_, [], none, 0, no, 0, rfl, (by kernel_rfl), (by kernel_rfl), (by kernel_rfl), (by kernel_rfl), (Row.nil _ _ _ _ _), S24, M⟩ ?_
  clear M
  rintro k21 a22 w6 ⟨f7, x8, A9, c10, F11, x13, rfl, e14, e15, e16, e17, h12, S18, M⟩
  rcases k21 with _ | k23
  · rw [impl_copyOps.l0] at M
    cases M
  rw [impl_copyOps.l0] at M
  refine wp_seq (wR (lV 9 (eLt .i64 x13 (x1.length : Int) (by exact e17) (by exact e16)) (wN (then_n (wp_seq ?_)))))
  by_cases q25 : x13 < (x1.length : Int)
  · replace M := ifp q25 M
    refine cT (bT q25) (wp_skip (then_n (wp_seq (wp_block (wp_seq (wR ?_))))))
    obtain ⟨q26, M⟩ := chk M
    obtain ⟨b27, o28, e29⟩ := Rd.addr h4 (show (x13).toNat < x1.length by omega)
    obtain ⟨y30, r31, k32⟩ := Rd.at h4 e29 (getD_some z45 (show (x13).toNat < x1.length by omega))
    obtain ⟨A33, c34, rfl, l35, h36⟩ := st45_open r31
    refine lV 10 (e_indexAddr (b := b27) (off := o28) (n := x1.length) (c := c3) (sz := 3) (i := x13) (k := .i64) Try.underlying25 e29 (by kernel_rfl) (by exact e15) (by exact e17) q26 q25) (lV 11 (e_loadS (b := b27) (off := o28 + (x13 : Int).toNat * 3) (cs := [.slice A33 ((x1.getD ((x13).toNat) z45).name).length c34, .int .i64 ((x1.getD ((x13).toNat) z45).pri), .int .i64 ((x1.getD ((x13).toNat) z45).typ)]) Try.underlying45 rfl (by kernel_rfl) (by kernel_rfl) (fun j_ u_ e_ => (hpx (S18.inv.cell (k32 j_ u_ e_))))) ?_)
    refine lW 5 (nB #[.slice none 0 0, .int .i64 0, .int .i64 0] 45 S18) ?_
    rintro _ w37 ⟨g38, rfl, b39, S40, K41⟩
    replace h12 := h12.move (K41.at 0 rfl)
    refine lE (eSa g38 0 [.slice A33 ((x1.getD ((x13).toNat) z45).name).length c34, .int .i64 ((x1.getD ((x13).toNat) z45).pri), .int .i64 ((x1.getD ((x13).toNat) z45).typ)] S40 b39) ?_
    rintro w42 ⟨b43, S44, K45⟩
    replace h12 := h12.move (K45.at 0 rfl)
    clear b39
    refine wN (then_n (wp_seq (wR ?_)))
    refine lW 12 (new_blk (v := fun g_ => .slice (some ⟨g_, 0, none⟩) 0 0) (cs := #[]) (t := 5) S44 (by kernel_rfl)) ?_
    rintro _ w46 ⟨g47, rfl, b48, S49, K50⟩
    replace b43 := K50.blk 0 rfl b43
    replace h12 := h12.move (K50.at 1 rfl)
    have S51 := S49.unit
    have S52 := S51.pulls [(is g47), no, (is g38), F11] [1] rfl
    obtain ⟨h53, S54⟩ := row_lit (d := tByte) (xs := ([] : List UInt8)) S52 b48 rfl (elsO_nil _ _ _ no) (Nat.le_of_ble_eq_true rfl)
    refine lV 13 (eD g38 0 0 1 Try.underlying45) (lV 14 (eL ⟨g38, 0 + 0, none⟩ (.slice A33 ((x1.getD ((x13).toNat) z45).name).length c34) Try.underlying32 (blk_cell b43 rfl)) ?_)
    obtain ⟨y55, h56, h57⟩ := Rd.news (d := tByte) (ro_scal _ _) S54 h36
    obtain ⟨q58, M⟩ := chk M
    have S59 := S54.unit
    have S60 := S59.pulls [(or2 (is g47) no), no, (is g38), F11] [1] rfl
    refine lW 15 (e_append (d := tByte) (n := 0) (xs := ([] : List UInt8)) (cap := 0) (A := (some ⟨g47, 0, none⟩)) (ys := (x1.getD ((x13).toNat) z45).name) (A2 := A33) (c2 := c34) (z := .int .u8 0) (bytes := 1) S60 Try.underlying32 (by kernel_rfl) rfl (by decide) (by kernel_rfl) rfl (by kernel_rfl) h53 h56 h57 (show (0 + ((x1.getD ((x13).toNat) z45).name).length) * 1 ≤ _ by first | omega | (simp only [List.length_cons, List.length_nil]; omega)) (by decide)) ?_
    rintro _ w61 ⟨A62, c63, F64, rfl, h65, S66, K67⟩
    replace b43 := K67.blk 0 rfl b43
    replace h12 := h12.move (K67.at 1 rfl)
    refine lV 16 (eD g38 0 0 1 Try.underlying45) ?_
    have S68 := S66.pulls [(is g38), F64, F11] [1] rfl
    refine lE (eS g38 (0 + 0) (.slice A62 ((([] : List UInt8) ++ ((x1.getD ((x13).toNat) z45).name)).length) c63) #[.slice A62 ((([] : List UInt8) ++ ((x1.getD ((x13).toNat) z45).name)).length) c63, .int .i64 ((x1.getD ((x13).toNat) z45).pri), .int .i64 ((x1.getD ((x13).toNat) z45).typ)] [.slice A62 ((([] : List UInt8) ++ ((x1.getD ((x13).toNat) z45).name)).length) c63] S68 b43) ?_
    rintro w69 ⟨b70, S71, K72⟩
    replace h65 := h65.move (K72.at 0 rfl)
    replace h12 := h12.move (K72.at 1 rfl)
    clear b43
    refine wN (then_n (wR (lV 17 (eM (.slice A9 x8.length c10) (by exact e14)) (lV 18 (e_loadS (b := g38) (off := 0) (cs := [.slice A62 ((([] : List UInt8) ++ ((x1.getD ((x13).toNat) z45).name)).length) c63, .int .i64 ((x1.getD ((x13).toNat) z45).pri), .int .i64 ((x1.getD ((x13).toNat) z45).typ)]) Try.underlying45 rfl (by kernel_rfl) (by kernel_rfl) (blk_cells b70 rfl)) ?_))))
    refine lW 19 (new_blk (v := fun g_ => .slice (some ⟨g_, 0, none⟩) 1 1) (cs := #[.slice A62 ((([] : List UInt8) ++ ((x1.getD ((x13).toNat) z45).name)).length) c63, .int .i64 ((x1.getD ((x13).toNat) z45).pri), .int .i64 ((x1.getD ((x13).toNat) z45).typ)]) (t := 45) S71 (by kernel_rfl)) ?_
    rintro _ w73 ⟨g74, rfl, b75, S76, K77⟩
    replace h65 := h65.move (K77.at 1 rfl)
    replace h12 := h12.move (K77.at 2 rfl)
    obtain ⟨q78, M⟩ := chk M
    have S80 := S76.pulls [F11, F64, (is g74), (is g38)] [2, 3] rfl
    refine lW 20 (e_append (d := st45) (n := x8.length) (xs := x8) (cap := c10) (A := A9) (ys := [(⟨(([] : List UInt8) ++ ((x1.getD ((x13).toNat) z45).name)), (x1.getD ((x13).toNat) z45).pri, (x1.getD ((x13).toNat) z45).typ⟩ : Sy.Op)]) (A2 := (some ⟨g74, 0, none⟩)) (c2 := 1) (z := .agg #[.slice none 0 0, .int .i64 0, .int .i64 0]) (bytes := 40) S80 Try.underlying25 (by kernel_rfl) rfl (by decide) (by kernel_rfl) rfl (by kernel_rfl) h12 (elsO_one1 (st45_mkO (x := (⟨(([] : List UInt8) ++ ((x1.getD ((x13).toNat) z45).name)), (x1.getD ((x13).toNat) z45).pri, (x1.getD ((x13).toNat) z45).typ⟩ : Sy.Op)) h65)) (.inr (blk_news b75 rfl)) (show (x8.length + [(⟨(([] : List UInt8) ++ ((x1.getD ((x13).toNat) z45).name)), (x1.getD ((x13).toNat) z45).pri, (x1.getD ((x13).toNat) z45).typ⟩ : Sy.Op)].length) * 40 ≤ _ by first | omega | (simp only [List.length_cons, List.length_nil]; omega)) (by decide)) ?_
    rintro _ w81 ⟨A82, c83, F84, rfl, h85, S86, K87⟩
    refine lV 3 (eA (.slice A82 ((x8 ++ [(⟨(([] : List UInt8) ++ ((x1.getD ((x13).toNat) z45).name)), (x1.getD ((x13).toNat) z45).pri, (x1.getD ((x13).toNat) z45).typ⟩ : Sy.Op)]).length) c83)) (wN (inb_n (then_n (wR (lV 21 (eAdd .i64 x13 1 (by exact e17)) (lV 8 (eM (.int .i64 (IntKind.i64.wrap (x13 + 1)))) (wN ?_)))))))
    refine then_n ?_
    have S88 := St.first (Fa := [F84]) (Fr := [(is g74), (is g38)]) S86
    exact ⟨k23, (by omega), _, (x8 ++ [(⟨(([] : List UInt8) ++ ((x1.getD ((x13).toNat) z45).name)), (x1.getD ((x13).toNat) z45).pri, (x1.getD ((x13).toNat) z45).typ⟩ : Sy.Op)]), A82, c83, F84, (IntKind.i64.wrap (x13 + 1)), rfl, (by kernel_rfl), (by exact e15), (by exact e16), (by kernel_rfl), h85, S88, M⟩
  replace M := ifn q25 M
  refine cF (bF q25) (wp_exit (then_e (then_e (inb_hit (then_n (wp_seq (wR ?_)))))))
  refine lV 22 (eM (.slice A9 x8.length c10) (by exact e14)) (lV 2 (eA (.slice A9 x8.length c10)) (wN (then_n (wp_ret ?_))))
  obtain rfl := Option.some.inj M
  exact ret1 rfl rfl  (show _ = .slice A9 x8.length c10 from (by kernel_rfl)) ⟨A9, c10, F11, H, rfl, h12, S18⟩

/-! impl_Op_infix -/
def impl_Op_infix.f (x1 : Sy.Op) : Option Bool := some (decide (x1.typ ≤ 2))
theorem impl_Op_infix.calls (w : World) (H : Hp) (x1 : Sy.Op) (A2 : Option Addr) (c3 : Nat) (h4 : Rd tByte H A2 x1.name) (l5 : x1.name.length ≤ c3) (S : Own [] H w) (r : Bool) (M : impl_Op_infix.f x1 = some r) :
    Calls Try.prog 39 #[.agg #[.slice A2 x1.name.length c3, .int .i64 x1.pri, .int .i64 x1.typ]] w (fun e e_w => e = .returned (.bool r) ∧ Chg no w e_w) := by
  rw [impl_Op_infix.f] at M
  refine enter (l := [.agg #[.slice A2 x1.name.length c3, .int .i64 x1.pri, .int .i64 x1.typ]]) 6 Try.func39 rfl rfl rfl ?_
  have S0_ := S.st
  refine wp_seq (wR ?_)
  refine lW 1 (nB #[.slice A2 x1.name.length c3, .int .i64 x1.pri, .int .i64 x1.typ] 45 S0_) ?_
  rintro _ w6 ⟨g7, rfl, b9, S10, K11⟩
  refine lV 2 (eA (.bool false)) (wN (then_n (wp_seq (wR (lV 3 (eD g7 0 2 1 Try.underlying45) (lV 4 (eL ⟨g7, 0 + 2, none⟩ (.int .i64 x1.typ) Try.underlying3 (blk_cell b9 rfl)) (lV 5 (e_leq (k := .i64) (a := x1.typ) (b := 2) (by kernel_rfl) rfl) ?_)))))))
  refine lV 2 (eA (.bool (decide (x1.typ ≤ 2)))) (wN (then_n (wp_ret ?_)))
  obtain rfl := Option.some.inj M
  exact ret1 rfl rfl  (show _ = .bool (decide (x1.typ ≤ 2)) from (by kernel_rfl)) ⟨rfl, S10.chg⟩

/-! impl_AddOp -/
def impl_AddOp.l0 : Nat → Int → Int → (List UInt8) → (List Sy.Op) → (List Sy.Op) → Int → Option ((List Sy.Op) × Int)
  | 0, _, _, _, _, _, _ => none
  | k91 + 1, x6, x7, x8, t58, x72, x77 => (if x77 < (t58.length : Int) then (if 0 ≤ x77 then (if (t58.getD ((x77).toNat) z45).name = x8 then ((impl_Op_prefix.f (t58.getD ((x77).toNat) z45)).bind fun t131 => ((impl_Op_prefix.f (⟨x8, x6, x7⟩ : Sy.Op)).bind fun t140 => (if t131 = t140 then ((impl_Op_infix.f (t58.getD ((x77).toNat) z45)).bind fun t154 => ((impl_Op_infix.f (⟨x8, x6, x7⟩ : Sy.Op)).bind fun t163 => (if t154 ≠ t163 then some ([], 4) else (impl_AddOp.l0 k91 x6 x7 x8 t58 x72 (IntKind.i64.wrap (x77 + 1)))))) else (if x72.length + 1 ≤ 3518437208883 then (impl_AddOp.l0 k91 x6 x7 x8 t58 (x72 ++ [(t58.getD ((x77).toNat) z45)]) (IntKind.i64.wrap (x77 + 1))) else none)))) else (if x72.length + 1 ≤ 3518437208883 then (impl_AddOp.l0 k91 x6 x7 x8 t58 (x72 ++ [(t58.getD ((x77).toNat) z45)]) (IntKind.i64.wrap (x77 + 1))) else none)) else none) else (if x6 > 0 then (if x72.length + 1 ≤ 3518437208883 then ((impl_sortOps.f k91 (x72 ++ [(⟨x8, x6, x7⟩ : Sy.Op)])).bind fun t242 => (if ((x72 ++ [(⟨x8, x6, x7⟩ : Sy.Op)]).length : Int) > 200 then some ([], 3) else some (t242, 0))) else none) else (if (x72.length : Int) > 200 then some ([], 3) else some (x72, 0))))
def impl_AddOp.f (k : Nat) (x1 : List Sy.Op) (x6 : Int) (x7 : Int) (x8 : List UInt8) : Option ((List Sy.Op) × Int) := ((impl_ValidOps.f k x1).bind fun t13 => (if ¬ (t13 = true) then some ([], 1) else (if (x8.length : Int) < 1 then some ([], 1) else (if (x8.length : Int) > 100 then some ([], 1) else (if x6 < 0 then some ([], 1) else (if x6 > 1200 then some ([], 1) else (if x7 < 0 then some ([], 1) else (if x7 > 6 then some ([], 1) else (if x8 = ([44] : List UInt8) then some ([], 4) else (if x8 = ([91, 93] : List UInt8) then some ([], 4) else (if x8 = ([123, 125] : List UInt8) then some ([], 4) else (if x8 = ([124] : List UInt8) then some ([], 4) else (if x8.length ≤ 9223372036854775807 then ((impl_copyOps.f k x1).bind fun t58 => (impl_AddOp.l0 k x6 x7 x8 t58 [] 0)) else none)))))))))))))
theorem impl_AddOp.calls (k : Nat) (w : World) (H : Hp) (x1 : List Sy.Op) (A2 : Option Addr) (c3 : Nat) (x6 : Int) (x7 : Int) (x8 : List UInt8) (A9 : Option Addr) (c10 : Nat) (h4 : Rd st45 H A2 x1) (l5 : x1.length ≤ c3) (h11 : Rd tByte H A9 x8) (l12 : x8.length ≤ c10) (S : Own [] H w) (r : (List Sy.Op) × Int) (M : impl_AddOp.f k x1 x6 x7 x8 = some r) :
    Calls Try.prog 18 #[.slice A2 x1.length c3, .int .i64 x6, .int .i64 x7, .slice A9 x8.length c10] w (fun e e_w => ∃ (A_1 : Option Addr) (c_1 : Nat) (F_1 : Foot) (H_ : Hp), e = .returned (.tuple #[.slice A_1 r.1.length c_1, .int .i64 r.2]) ∧ Row st45 45 H_ (hp e_w) F_1 A_1 c_1 r.1 ∧ St (anyOf []) H w [F_1] H_ e_w) := by
  rw [impl_AddOp.f] at M
  refine enter (l := [.slice A2 x1.length c3, .int .i64 x6, .int .i64 x7, .slice A9 x8.length c10]) 106 Try.func18 rfl rfl rfl ?_
  have S0_ := S.st
  refine wp_seq (wR (lV 8 (eA (.slice none 0 0)) (lV 9 (eA (.int .i64 0)) (wN (then_n (wp_seq (wp_seq ?_)))))))
  refine wR (lV 15 (eM (.slice A2 x1.length c3)) ?_)
  obtain ⟨t13, u14, M⟩ := bnd M
  refine lC 16 (eC [.tmp 15] [.slice A2 x1.length c3] Try.func10) (impl_ValidOps.calls k w H x1 A2 c3 h4 l5 S0_.own0 t13 u14) ?_
  rintro _ w15 ⟨rfl, C16⟩
  refine ⟨_, rfl, ?_⟩
  obtain ⟨S17, K18⟩ := S0_.still C16
  refine lV 17 (e_notv (c := t13) (by kernel_rfl)) (lV 18 (eM (.bool (decide (¬ (t13 = true))))) ?_)
  by_cases q19 : ¬ (t13 = true)
  · replace M := ifp q19 M
    refine lK 18 true (bT q19) ?_
    refine lK 18 true (bT q19) ?_
    refine lK 18 true (bT q19) ?_
    refine lV 22 (eT (.bool true) (bT q19)) (lV 23 (eM (.bool true)) ?_)
    refine lJ 23 true ?_
    refine lJ 23 true ?_
    refine lJ 23 true ?_
    refine lV 27 (eT (.bool true)) (lV 28 (eM (.bool true)) ?_)
    refine lJ 28 true ?_
    refine lJ 28 true ?_
    refine lV 31 (eT (.bool true)) (lV 32 (eM (.bool true)) ?_)
    refine lJ 32 true ?_
    refine lJ 32 true ?_
    refine lV 35 (eT (.bool true)) (lV 36 (eM (.bool true)) ?_)
    refine lJ 36 true ?_
    refine lJ 36 true ?_
    refine lV 39 (eT (.bool true)) (lV 40 (eM (.bool true)) ?_)
    refine lJ 40 true ?_
    refine lJ 40 true ?_
    refine lV 43 (eT (.bool true)) (wN (then_n (cond_t rfl (by kernel_rfl) (wp_seq (wR (lV 8 (eA (.slice none 0 0)) (lV 9 (eA (.int .i64 1)) ?_)))))))
    refine wN (then_n (wp_ret (then_r ?_)))
    obtain rfl := Option.some.inj M
    have S20 := S17.unit
    exact ret2 rfl rfl rfl (show _ = .slice none 0 0 from (by kernel_rfl)) (show _ = .int .i64 1 from (by kernel_rfl)) ⟨none, 0, no, H, rfl, (Row.nil _ _ _ _ no), S20⟩
  replace M := ifn q19 M
  refine lG 19 18 (bF q19) (eM (.slice A9 x8.length c10)) (lG 20 18 (bF q19) (e_len (A := A9) (n := x8.length) (c := c10) Try.underlying32 (by kernel_rfl)) (lG 21 18 (bF q19) (eLt .i64 (x8.length : Int) 1) (lV 22 (eF (.bool (decide ((x8.length : Int) < 1))) (bF q19)) (lV 23 (eM (.bool (decide ((x8.length : Int) < 1)))) ?_))))
  by_cases q21 : (x8.length : Int) < 1
  · replace M := ifp q21 M
    refine lK 23 true (bT q21) ?_
    refine lK 23 true (bT q21) ?_
    refine lK 23 true (bT q21) ?_
    refine lV 27 (eT (.bool true) (bT q21)) (lV 28 (eM (.bool true)) ?_)
    refine lJ 28 true ?_
    refine lJ 28 true ?_
    refine lV 31 (eT (.bool true)) (lV 32 (eM (.bool true)) ?_)
    refine lJ 32 true ?_
    refine lJ 32 true ?_
    refine lV 35 (eT (.bool true)) (lV 36 (eM (.bool true)) ?_)
    refine lJ 36 true ?_
    refine lJ 36 true ?_
    refine lV 39 (eT (.bool true)) (lV 40 (eM (.bool true)) ?_)
    refine lJ 40 true ?_
    refine lJ 40 true ?_
    refine lV 43 (eT (.bool true)) (wN (then_n (cond_t rfl (by kernel_rfl) (wp_seq (wR (lV 8 (eA (.slice none 0 0)) (lV 9 (eA (.int .i64 1)) ?_)))))))
    refine wN (then_n (wp_ret (then_r ?_)))
    obtain rfl := Option.some.inj M
    have S22 := S17.unit
    exact ret2 rfl rfl rfl (show _ = .slice none 0 0 from (by kernel_rfl)) (show _ = .int .i64 1 from (by kernel_rfl)) ⟨none, 0, no, H, rfl, (Row.nil _ _ _ _ no), S22⟩
  replace M := ifn q21 M
  refine lG 24 23 (bF q21) (eM (.slice A9 x8.length c10)) (lG 25 23 (bF q21) (e_len (A := A9) (n := x8.length) (c := c10) Try.underlying32 (by kernel_rfl)) (lG 26 23 (bF q21) (e_gtr (k := .i64) (a := (x8.length : Int)) (b := 100) (by kernel_rfl) rfl) (lV 27 (eF (.bool (decide ((x8.length : Int) > 100))) (bF q21)) (lV 28 (eM (.bool (decide ((x8.length : Int) > 100)))) ?_))))
  by_cases q23 : (x8.length : Int) > 100
  · replace M := ifp q23 M
    refine lK 28 true (bT q23) ?_
    refine lK 28 true (bT q23) ?_
    refine lV 31 (eT (.bool true) (bT q23)) (lV 32 (eM (.bool true)) ?_)
    refine lJ 32 true ?_
    refine lJ 32 true ?_
    refine lV 35 (eT (.bool true)) (lV 36 (eM (.bool true)) ?_)
    refine lJ 36 true ?_
    refine lJ 36 true ?_
    refine lV 39 (eT (.bool true)) (lV 40 (eM (.bool true)) ?_)
    refine lJ 40 true ?_
    refine lJ 40 true ?_
    refine lV 43 (eT (.bool true)) (wN (then_n (cond_t rfl (by kernel_rfl) (wp_seq (wR (lV 8 (eA (.slice none 0 0)) (lV 9 (eA (.int .i64 1)) ?_)))))))
    refine wN (then_n (wp_ret (then_r ?_)))
    obtain rfl := Option.some.inj M
    have S24 := S17.unit
    exact ret2 rfl rfl rfl (show _ = .slice none 0 0 from (by kernel_rfl)) (show _ = .int .i64 1 from (by kernel_rfl)) ⟨none, 0, no, H, rfl, (Row.nil _ _ _ _ no), S24⟩
  replace M := ifn q23 M
  refine lG 29 28 (bF q23) (eM (.int .i64 x6)) (lG 30 28 (bF q23) (eLt .i64 x6 0) (lV 31 (eF (.bool (decide (x6 < 0))) (bF q23)) (lV 32 (eM (.bool (decide (x6 < 0)))) ?_)))
  by_cases q25 : x6 < 0
  · replace M := ifp q25 M
    refine lK 32 true (bT q25) ?_
    refine lK 32 true (bT q25) ?_
    refine lV 35 (eT (.bool true) (bT q25)) (lV 36 (eM (.bool true)) ?_)
    refine lJ 36 true ?_
    refine lJ 36 true ?_
    refine lV 39 (eT (.bool true)) (lV 40 (eM (.bool true)) ?_)
    refine lJ 40 true ?_
    refine lJ 40 true ?_
    refine lV 43 (eT (.bool true)) (wN (then_n (cond_t rfl (by kernel_rfl) (wp_seq (wR (lV 8 (eA (.slice none 0 0)) (lV 9 (eA (.int .i64 1)) ?_)))))))
    refine wN (then_n (wp_ret (then_r ?_)))
    obtain rfl := Option.some.inj M
    have S26 := S17.unit
    exact ret2 rfl rfl rfl (show _ = .slice none 0 0 from (by kernel_rfl)) (show _ = .int .i64 1 from (by kernel_rfl)) ⟨none, 0, no, H, rfl, (Row.nil _ _ _ _ no), S26⟩
  replace M := ifn q25 M
  refine lG 33 32 (bF q25) (eM (.int .i64 x6)) (lG 34 32 (bF q25) (e_gtr (k := .i64) (a := x6) (b := 1200) (by kernel_rfl) rfl) (lV 35 (eF (.bool (decide (x6 > 1200))) (bF q25)) (lV 36 (eM (.bool (decide (x6 > 1200)))) ?_)))
  by_cases q27 : x6 > 1200
  · replace M := ifp q27 M
    refine lK 36 true (bT q27) ?_
    refine lK 36 true (bT q27) ?_
    refine lV 39 (eT (.bool true) (bT q27)) (lV 40 (eM (.bool true)) ?_)
    refine lJ 40 true ?_
    refine lJ 40 true ?_
    refine lV 43 (eT (.bool true)) (wN (then_n (cond_t rfl (by kernel_rfl) (wp_seq (wR (lV 8 (eA (.slice none 0 0)) (lV 9 (eA (.int .i64 1)) ?_)))))))
    refine wN (then_n (wp_ret (then_r ?_)))
    obtain rfl := Option.some.inj M
    have S28 := S17.unit
    exact ret2 rfl rfl rfl (show _ = .slice none 0 0 from (by kernel_rfl)) (show _ = .int .i64 1 from (by kernel_rfl)) ⟨none, 0, no, H, rfl, (Row.nil _ _ _ _ no), S28⟩
  replace M := ifn q27 M
  refine lG 37 36 (bF q27) (eM (.int .i64 x7)) (lG 38 36 (bF q27) (eLt .i64 x7 0) (lV 39 (eF (.bool (decide (x7 < 0))) (bF q27)) (lV 40 (eM (.bool (decide (x7 < 0)))) ?_)))
  by_cases q29 : x7 < 0
  · replace M := ifp q29 M
    refine lK 40 true (bT q29) ?_
    refine lK 40 true (bT q29) ?_
    refine lV 43 (eT (.bool true) (bT q29)) (wN (then_n (cond_t rfl (by kernel_rfl) (wp_seq (wR (lV 8 (eA (.slice none 0 0)) (lV 9 (eA (.int .i64 1)) ?_)))))))
    refine wN (then_n (wp_ret (then_r ?_)))
    obtain rfl := Option.some.inj M
    have S30 := S17.unit
    exact ret2 rfl rfl rfl (show _ = .slice none 0 0 from (by kernel_rfl)) (show _ = .int .i64 1 from (by kernel_rfl)) ⟨none, 0, no, H, rfl, (Row.nil _ _ _ _ no), S30⟩
  replace M := ifn q29 M
  refine lG 41 40 (bF q29) (eM (.int .i64 x7)) (lG 42 40 (bF q29) (e_gtr (k := .i64) (a := x7) (b := 6) (by kernel_rfl) rfl) (lV 43 (eF (.bool (decide (x7 > 6))) (bF q29)) (wN (then_n ?_))))
  by_cases q31 : x7 > 6
  · replace M := ifp q31 M
    refine cT (bT q31) (wp_seq (wR (lV 8 (eA (.slice none 0 0)) (lV 9 (eA (.int .i64 1)) (wN (then_n (wp_ret ?_)))))))
    refine then_r ?_
    obtain rfl := Option.some.inj M
    have S32 := S17.unit
    exact ret2 rfl rfl rfl (show _ = .slice none 0 0 from (by kernel_rfl)) (show _ = .int .i64 1 from (by kernel_rfl)) ⟨none, 0, no, H, rfl, (Row.nil _ _ _ _ no), S32⟩
  replace M := ifn q31 M
  refine cF (bF q31) (wp_skip (then_n (wp_seq (wR (lV 44 (eM (.slice A9 x8.length c10)) (lV 45 (e_conv_bs (A := A9) (n := x8.length) (c := c10) (xs := x8) Try.underlying32 Try.underlying5 Try.underlying9 (by kernel_rfl) rfl (Rd.bytesE S17.inv h11)) (lV 10 (eA (str x8)) ?_)))))))
  refine wN (then_n (wp_seq (wp_seq (wR (lV 46 (eM (str x8)) (lV 47 (e_seql (p := x8) (q := ([44] : List UInt8)) (by kernel_rfl) rfl) (lV 48 (eM (.bool (decide (x8 = ([44] : List UInt8))))) ?_)))))))
  by_cases q33 : x8 = ([44] : List UInt8)
  · replace M := ifp q33 M
    refine lK 48 true (bT q33) ?_
    refine lK 48 true (bT q33) ?_
    refine lV 51 (eT (.bool true) (bT q33)) (lV 52 (eM (.bool true)) ?_)
    refine lJ 52 true ?_
    refine lJ 52 true ?_
    refine lV 55 (eT (.bool true)) (lV 56 (eM (.bool true)) ?_)
    refine lJ 56 true ?_
    refine lJ 56 true ?_
    refine lV 59 (eT (.bool true)) (wN (then_n (cond_t rfl (by kernel_rfl) (wp_seq (wR (lV 8 (eA (.slice none 0 0)) (lV 9 (eA (.int .i64 4)) ?_)))))))
    refine wN (then_n (wp_ret (then_r ?_)))
    obtain rfl := Option.some.inj M
    have S34 := S17.unit
    exact ret2 rfl rfl rfl (show _ = .slice none 0 0 from (by kernel_rfl)) (show _ = .int .i64 4 from (by kernel_rfl)) ⟨none, 0, no, H, rfl, (Row.nil _ _ _ _ no), S34⟩
  replace M := ifn q33 M
  refine lG 49 48 (bF q33) (eM (str x8)) (lG 50 48 (bF q33) (e_seql (p := x8) (q := ([91, 93] : List UInt8)) (by kernel_rfl) rfl) (lV 51 (eF (.bool (decide (x8 = ([91, 93] : List UInt8)))) (bF q33)) (lV 52 (eM (.bool (decide (x8 = ([91, 93] : List UInt8))))) ?_)))
  by_cases q35 : x8 = ([91, 93] : List UInt8)
  · replace M := ifp q35 M
    refine lK 52 true (bT q35) ?_
    refine lK 52 true (bT q35) ?_
    refine lV 55 (eT (.bool true) (bT q35)) (lV 56 (eM (.bool true)) ?_)
    refine lJ 56 true ?_
    refine lJ 56 true ?_
    refine lV 59 (eT (.bool true)) (wN (then_n (cond_t rfl (by kernel_rfl) (wp_seq (wR (lV 8 (eA (.slice none 0 0)) (lV 9 (eA (.int .i64 4)) ?_)))))))
    refine wN (then_n (wp_ret (then_r ?_)))
    obtain rfl := Option.some.inj M
    have S36 := S17.unit
    exact ret2 rfl rfl rfl (show _ = .slice none 0 0 from (by kernel_rfl)) (show _ = .int .i64 4 from (by kernel_rfl)) ⟨none, 0, no, H, rfl, (Row.nil _ _ _ _ no), S36⟩
  replace M := ifn q35 M
  refine lG 53 52 (bF q35) (eM (str x8)) (lG 54 52 (bF q35) (e_seql (p := x8) (q := ([123, 125] : List UInt8)) (by kernel_rfl) rfl) (lV 55 (eF (.bool (decide (x8 = ([123, 125] : List UInt8)))) (bF q35)) (lV 56 (eM (.bool (decide (x8 = ([123, 125] : List UInt8))))) ?_)))
  by_cases q37 : x8 = ([123, 125] : List UInt8)
  · replace M := ifp q37 M
    refine lK 56 true (bT q37) ?_
    refine lK 56 true (bT q37) ?_
    refine lV 59 (eT (.bool true) (bT q37)) (wN (then_n (cond_t rfl (by kernel_rfl) (wp_seq (wR (lV 8 (eA (.slice none 0 0)) (lV 9 (eA (.int .i64 4)) ?_)))))))
    refine wN (then_n (wp_ret (then_r ?_)))
    obtain rfl := Option.some.inj M
    have S38 := S17.unit
    exact ret2 rfl rfl rfl (show _ = .slice none 0 0 from (by kernel_rfl)) (show _ = .int .i64 4 from (by kernel_rfl)) ⟨none, 0, no, H, rfl, (Row.nil _ _ _ _ no), S38⟩
  replace M := ifn q37 M
  refine lG 57 56 (bF q37) (eM (str x8)) (lG 58 56 (bF q37) (e_seql (p := x8) (q := ([124] : List UInt8)) (by kernel_rfl) rfl) (lV 59 (eF (.bool (decide (x8 = ([124] : List UInt8)))) (bF q37)) (wN (then_n ?_))))
  by_cases q39 : x8 = ([124] : List UInt8)
  · replace M := ifp q39 M
    refine cT (bT q39) (wp_seq (wR (lV 8 (eA (.slice none 0 0)) (lV 9 (eA (.int .i64 4)) (wN (then_n (wp_ret ?_)))))))
    refine then_r ?_
    obtain rfl := Option.some.inj M
    have S40 := S17.unit
    exact ret2 rfl rfl rfl (show _ = .slice none 0 0 from (by kernel_rfl)) (show _ = .int .i64 4 from (by kernel_rfl)) ⟨none, 0, no, H, rfl, (Row.nil _ _ _ _ no), S40⟩
  replace M := ifn q39 M
  refine cF (bF q39) (wp_skip (then_n (wp_seq (wR (lV 60 (eM (str x8)) ?_)))))
  obtain ⟨q41, M⟩ := chk M
  refine lW 61 (e_conv_sb (xs := x8) S17 Try.underlying9 Try.underlying32 Try.underlying5 (by kernel_rfl) q41) ?_
  rintro _ w42 ⟨A43, c44, F45, rfl, h46, S47, K48⟩
  refine lV 62 (eM (.int .i64 x6)) (lV 63 (eM (.int .i64 x7)) (lV 64 (show _ = Result.ok (Next.value (.agg #[.slice A43 x8.length c44, .int .i64 x6, .int .i64 x7])) w42 from by kernel_rfl) ?_))
  refine lW 11 (nB #[.slice none 0 0, .int .i64 0, .int .i64 0] 45 S47) ?_
  rintro _ w49 ⟨g50, rfl, b51, S52, K53⟩
  replace h46 := h46.move (K53.at 0 rfl)
  refine lE (eSa g50 0 [.slice A43 x8.length c44, .int .i64 x6, .int .i64 x7] S52 b51) ?_
  rintro w54 ⟨b55, S56, K57⟩
  replace h46 := h46.move (K57.at 0 rfl)
  clear b51
  refine wN (then_n (wp_seq (wR (lV 12 (eA (.slice none 0 0)) (wN (then_n (wp_seq ?_)))))))
  refine wp_seq (wR (lV 65 (eM (.slice A2 x1.length c3)) ?_))
  obtain ⟨t58, u59, M⟩ := bnd M
  refine lC 66 (eC [.tmp 65] [.slice A2 x1.length c3] Try.func38) (impl_copyOps.calls k w54 H x1 A2 c3 h4 l5 (St.own' (Fa := []) (Fr := [(is g50), F45]) S56) t58 u59) ?_
  rintro _ w60 ⟨A63, c64, F66, H61, rfl, h65, T62⟩
  refine ⟨_, rfl, ?_⟩
  obtain ⟨S67, K68⟩ := St.call (Fa := []) (Fr := [(is g50), F45]) S56 T62
  replace b55 := K68.blk 0 rfl b55
  replace h46 := h46.move (K68.at 1 rfl)
  have E69 := T62.ext
  replace h46 := h46.ext E69
  refine lV 67 (e_len (A := A63) (n := t58.length) (c := c64) Try.underlying25 (by kernel_rfl)) (lV 68 (eM (.int .i64 0)) (wN (then_n (wp_block ?_))))
  have S92 := S67.unit
  have S95 := S92.pulls [F66, (is g50), F45, no] [3, 3, 3] rfl
  refine wp_loop_g (fun k89 a90 w70 => ∃ (f71 : Nat → Value) (x72 : List Sy.Op) (A73 : Option Addr) (c74 : Nat) (F75 : Foot) (x77 : Int) (F78 : Foot), a90 = mk 106 f71 ∧ f71 1 = .int .i64 x6 ∧ f71 10 = str x8 ∧ f71 11 = .pointer (some ⟨g50, 0, none⟩) ∧ f71 12 = .slice A73 x72.length c74 ∧ f71 66 = .slice A63 t58.length c64 ∧ f71 67 = .int .i64 (t58.length : Int) ∧ f71 68 = .int .i64 x77 ∧ RowS st45 45 H61 (hp w70) F78 A63 c64 t58 (x77).toNat ∧ w70.heap[g50]? = some (.cells #[.slice A43 x8.length c44, .int .i64 x6, .int .i64 x7] 45 (0, 0)) ∧ Row tByte 5 H61 (hp w70) F45 A43 c44 x8 ∧ Row st45 45 H61 (hp w70) F75 A73 c74 x72 ∧ St (anyOf []) H w [F78, (is g50), F45, F75] H61 w70 ∧ impl_AddOp.l0 k89 x6 x7 x8 t58 x72 x77 = some r) k ⟨_, [], none, 0, no, 0, F66, rfl, (by kernel_rfl), (by kernel_rfl), (by kernel_rfl), (by kernel_rfl), (by kernel_rfl), (by kernel_rfl), (by kernel_rfl), (RowS.of h65), b55, h46, (Row.nil _ _ _ _ _), S95, M⟩ ?_
  clear M
  rintro k89 a90 w70 ⟨f71, x72, A73, c74, F75, x77, F78, rfl, e79, e80, e81, e82, e83, e84, e85, h65, b55, h46, h76, S86, M⟩
  rcases k89 with _ | k91
  · rw [impl_AddOp.l0] at M
    cases M
  rw [impl_AddOp.l0] at M
  refine wp_seq (wR (lV 69 (eLt .i64 x77 (t58.length : Int) (by exact e85) (by exact e84)) (wN (then_n (wp_seq ?_)))))
  by_cases q96 : x77 < (t58.length : Int)
  · replace M := ifp q96 M
    refine cT (bT q96) (wp_skip (then_n (wp_seq (wp_block (wp_seq (wR ?_))))))
    obtain ⟨q97, M⟩ := chk M
    obtain ⟨b98, e100⟩ := RowS.addr h65 (show (x77).toNat < t58.length by omega)
    refine lV 70 (e_indexAddr (b := b98) (off := 0) (n := t58.length) (c := c64) (sz := 3) (i := x77) (k := .i64) Try.underlying25 e100 (by kernel_rfl) (by exact e83) (by exact e85) q97 q96) ?_
    obtain ⟨y106, F107, F108, r109, h110, d111, s112, k113⟩ := RowS.take h65 e100 (Nat.le_refl _) (getD_some z45 (show (x77).toNat < t58.length by omega))
    have S119 := S86.part d111 s112
    obtain ⟨A114, c115, F116, rfl, h117, s118⟩ := st45_openO r109
    have S120 := S119.sub s118
    refine lV 71 (e_loadS (b := b98) (off := 0 + (x77 : Int).toNat * 3) (cs := [.slice A114 (((t58.getD ((x77).toNat) z45).name).length) c115, .int .i64 ((t58.getD ((x77).toNat) z45).pri), .int .i64 ((t58.getD ((x77).toNat) z45).typ)]) Try.underlying45 rfl (by kernel_rfl) (by kernel_rfl) (fun j_ u_ e_ => (hpx (k113 j_ u_ e_)))) ?_
    refine lW 14 (nB #[.slice none 0 0, .int .i64 0, .int .i64 0] 45 S120) ?_
    rintro _ w121 ⟨g122, rfl, b123, S124, K125⟩
    replace h117 := h117.move (K125.at 0 rfl)
    replace h110 := h110.move (K125.at 1 rfl)
    replace b55 := K125.blk 2 rfl b55
    replace h46 := h46.move (K125.at 3 rfl)
    replace h76 := h76.move (K125.at 4 rfl)
    refine lE (eSa g122 0 [.slice A114 (((t58.getD ((x77).toNat) z45).name).length) c115, .int .i64 ((t58.getD ((x77).toNat) z45).pri), .int .i64 ((t58.getD ((x77).toNat) z45).typ)] S124 b123) ?_
    rintro w126 ⟨b127, S128, K129⟩
    replace h117 := h117.move (K129.at 0 rfl)
    replace h110 := h110.move (K129.at 1 rfl)
    replace b55 := K129.blk 2 rfl b55
    replace h46 := h46.move (K129.at 3 rfl)
    replace h76 := h76.move (K129.at 4 rfl)
    clear b123
    refine wN (then_n (wp_seq (wp_seq ?_)))
    refine region_quiet (by kernel_rfl) (by kernel_rfl) ?_
    refine qV 72 (fun wq_ hq_ => eD g122 0 0 1 Try.underlying45) ?_
    refine qV 73 (fun wq_ hq_ => eL ⟨g122, 0 + 0, none⟩ (.slice A114 (((t58.getD ((x77).toNat) z45).name).length) c115) Try.underlying32 (blk_cell ((S128.still hq_).2.blk 0 rfl b127) rfl)) ?_
    refine qV 74 (fun wq_ hq_ => e_conv_bs (A := A114) (n := ((t58.getD ((x77).toNat) z45).name).length) (c := c115) (xs := (t58.getD ((x77).toNat) z45).name) Try.underlying32 Try.underlying5 Try.underlying9 (by kernel_rfl) rfl (Row.bytes (h117.move ((S128.still hq_).2.at 1 rfl)))) ?_
    refine qV 75 (fun wq_ hq_ => eM (str x8) (by exact e80)) ?_
    refine qV 76 (fun wq_ hq_ => e_seql (p := (t58.getD ((x77).toNat) z45).name) (q := x8) (by kernel_rfl) (by kernel_rfl)) ?_
    refine qV 77 (fun wq_ hq_ => eM (.bool (decide ((t58.getD ((x77).toNat) z45).name = x8)))) ?_
    by_cases q130 : (t58.getD ((x77).toNat) z45).name = x8
    · replace M := ifp q130 M
      refine qG 78 77 (bT q130) (fun wq_ hq_ => e_loadS (b := g122) (off := 0) (cs := [.slice A114 (((t58.getD ((x77).toNat) z45).name).length) c115, .int .i64 ((t58.getD ((x77).toNat) z45).pri), .int .i64 ((t58.getD ((x77).toNat) z45).typ)]) Try.underlying45 rfl (by kernel_rfl) (by kernel_rfl) (blk_cells ((S128.still hq_).2.blk 0 rfl b127) rfl)) ?_
      obtain ⟨t131, u132, M⟩ := bnd M
      refine qcallg (v := .bool t131) (d := 79) (t := 77) rfl (by kernel_rfl) rfl (bT q130) rfl (by kernel_rfl) (fun w_ => eC [.tmp 78] [.agg #[.slice A114 (((t58.getD ((x77).toNat) z45).name).length) c115, .int .i64 ((t58.getD ((x77).toNat) z45).pri), .int .i64 ((t58.getD ((x77).toNat) z45).typ)]] Try.func27) (fun wq_ hq_ => (by obtain ⟨S_, K_⟩ := S128.still hq_; replace b127 := K_.blk 0 rfl b127; replace h117 := h117.move (K_.at 1 rfl); replace h110 := h110.move (K_.at 2 rfl); replace b55 := K_.blk 3 rfl b55; replace h46 := h46.move (K_.at 4 rfl); replace h76 := h76.move (K_.at 5 rfl); have l133 := h117.le; have S134 := S_.pull (F := F116) (Fr := [(is g122), F108, (is g50), F45, F75]) 1 rfl rfl; obtain ⟨H135, S136, E137, h138, z139⟩ := S134.frzRow h117; replace h110 := h110.ext E137; replace h46 := h46.ext E137; replace h76 := h76.ext E137; exact (impl_Op_prefix.calls wq_ H135 (t58.getD ((x77).toNat) z45) A114 c115 h138 l133 S136.own0 t131 u132))) ?_
      refine qG 80 77 (bT q130) (fun wq_ hq_ => e_loadS (b := g50) (off := 0) (cs := [.slice A43 x8.length c44, .int .i64 x6, .int .i64 x7]) Try.underlying45 rfl (by kernel_rfl) (by exact e81) (blk_cells ((S128.still hq_).2.blk 3 rfl b55) rfl)) ?_
      obtain ⟨t140, u141, M⟩ := bnd M
      refine qcallg (v := .bool t140) (d := 81) (t := 77) rfl (by kernel_rfl) rfl (bT q130) rfl (by kernel_rfl) (fun w_ => eC [.tmp 80] [.agg #[.slice A43 x8.length c44, .int .i64 x6, .int .i64 x7]] Try.func27) (fun wq_ hq_ => (by obtain ⟨S_, K_⟩ := S128.still hq_; replace b127 := K_.blk 0 rfl b127; replace h117 := h117.move (K_.at 1 rfl); replace h110 := h110.move (K_.at 2 rfl); replace b55 := K_.blk 3 rfl b55; replace h46 := h46.move (K_.at 4 rfl); replace h76 := h76.move (K_.at 5 rfl); have l142 := h46.le; have S143 := S_.pull (F := F45) (Fr := [(is g122), F116, F108, (is g50), F75]) 4 rfl rfl; obtain ⟨H144, S145, E146, h147, z148⟩ := S143.frzRow h46; replace h117 := h117.ext E146; replace h110 := h110.ext E146; replace h76 := h76.ext E146; exact (impl_Op_prefix.calls wq_ H144 (⟨x8, x6, x7⟩ : Sy.Op) A43 c44 h147 l142 S145.own0 t140 u141))) ?_
      refine qG 82 77 (bT q130) (fun wq_ hq_ => e_beql (p := t131) (q := t140) Try.underlying4 (by kernel_rfl) (by kernel_rfl)) ?_
      refine qV 83 (fun wq_ hq_ => eT (.bool (decide (t131 = t140))) (bT q130)) ?_
      refine wpQuiet_nil ?_
      intro w149 C152
      obtain ⟨S150, K151⟩ := S128.still C152
      replace b127 := K151.blk 0 rfl b127
      replace h117 := h117.move (K151.at 1 rfl)
      replace h110 := h110.move (K151.at 2 rfl)
      replace b55 := K151.blk 3 rfl b55
      replace h46 := h46.move (K151.at 4 rfl)
      replace h76 := h76.move (K151.at 5 rfl)
      refine then_n ?_
      by_cases q153 : t131 = t140
      · replace M := ifp q153 M
        refine cT (bT q153) (wp_seq (wp_seq ?_))
        refine region_quiet (by kernel_rfl) (by kernel_rfl) ?_
        refine qV 84 (fun wq_ hq_ => e_loadS (b := g122) (off := 0) (cs := [.slice A114 (((t58.getD ((x77).toNat) z45).name).length) c115, .int .i64 ((t58.getD ((x77).toNat) z45).pri), .int .i64 ((t58.getD ((x77).toNat) z45).typ)]) Try.underlying45 rfl (by kernel_rfl) (by kernel_rfl) (blk_cells ((S150.still hq_).2.blk 0 rfl b127) rfl)) ?_
        obtain ⟨t154, u155, M⟩ := bnd M
        refine qcall (v := .bool t154) (d := 85) rfl rfl (by kernel_rfl) (fun w_ => eC [.tmp 84] [.agg #[.slice A114 (((t58.getD ((x77).toNat) z45).name).length) c115, .int .i64 ((t58.getD ((x77).toNat) z45).pri), .int .i64 ((t58.getD ((x77).toNat) z45).typ)]] Try.func39) (fun wq_ hq_ => (by obtain ⟨S_, K_⟩ := S150.still hq_; replace b127 := K_.blk 0 rfl b127; replace h117 := h117.move (K_.at 1 rfl); replace h110 := h110.move (K_.at 2 rfl); replace b55 := K_.blk 3 rfl b55; replace h46 := h46.move (K_.at 4 rfl); replace h76 := h76.move (K_.at 5 rfl); have l156 := h117.le; have S157 := S_.pull (F := F116) (Fr := [(is g122), F108, (is g50), F45, F75]) 1 rfl rfl; obtain ⟨H158, S159, E160, h161, z162⟩ := S157.frzRow h117; replace h110 := h110.ext E160; replace h46 := h46.ext E160; replace h76 := h76.ext E160; exact (impl_Op_infix.calls wq_ H158 (t58.getD ((x77).toNat) z45) A114 c115 h161 l156 S159.own0 t154 u155))) ?_
        refine qV 86 (fun wq_ hq_ => e_loadS (b := g50) (off := 0) (cs := [.slice A43 x8.length c44, .int .i64 x6, .int .i64 x7]) Try.underlying45 rfl (by kernel_rfl) (by exact e81) (blk_cells ((S150.still hq_).2.blk 3 rfl b55) rfl)) ?_
        obtain ⟨t163, u164, M⟩ := bnd M
        refine qcall (v := .bool t163) (d := 87) rfl rfl (by kernel_rfl) (fun w_ => eC [.tmp 86] [.agg #[.slice A43 x8.length c44, .int .i64 x6, .int .i64 x7]] Try.func39) (fun wq_ hq_ => (by obtain ⟨S_, K_⟩ := S150.still hq_; replace b127 := K_.blk 0 rfl b127; replace h117 := h117.move (K_.at 1 rfl); replace h110 := h110.move (K_.at 2 rfl); replace b55 := K_.blk 3 rfl b55; replace h46 := h46.move (K_.at 4 rfl); replace h76 := h76.move (K_.at 5 rfl); have l165 := h46.le; have S166 := S_.pull (F := F45) (Fr := [(is g122), F116, F108, (is g50), F75]) 4 rfl rfl; obtain ⟨H167, S168, E169, h170, z171⟩ := S166.frzRow h46; replace h117 := h117.ext E169; replace h110 := h110.ext E169; replace h76 := h76.ext E169; exact (impl_Op_infix.calls wq_ H167 (⟨x8, x6, x7⟩ : Sy.Op) A43 c44 h170 l165 S168.own0 t163 u164))) ?_
        refine qV 88 (fun wq_ hq_ => e_bneq (p := t154) (q := t163) Try.underlying4 (by kernel_rfl) (by kernel_rfl)) ?_
        refine wpQuiet_nil ?_
        intro w172 C175
        obtain ⟨S173, K174⟩ := S150.still C175
        replace h110 := h110.move (K174.at 2 rfl)
        replace b55 := K174.blk 3 rfl b55
        replace h46 := h46.move (K174.at 4 rfl)
        replace h76 := h76.move (K174.at 5 rfl)
        refine then_n ?_
        by_cases q176 : t154 ≠ t163
        · replace M := ifp q176 M
          refine cT (bT q176) (wp_seq (wR (lV 8 (eA (.slice none 0 0)) (lV 9 (eA (.int .i64 4)) (wN (then_n (wp_ret ?_)))))))
          refine then_r (then_r (inb_r (then_r (then_r (inb_r (then_r ?_))))))
          obtain rfl := Option.some.inj M
          have S177 := S173.unit
          have S178 := St.first (Fa := [no]) (Fr := [(is g122), F116, F108, (is g50), F45, F75]) S177
          exact ret2 rfl rfl rfl (show _ = .slice none 0 0 from (by kernel_rfl)) (show _ = .int .i64 4 from (by kernel_rfl)) ⟨none, 0, no, H61, rfl, (Row.nil _ _ _ _ no), S178⟩
        replace M := ifn q176 M
        refine cF (bF q176) (wp_skip (then_n (wp_exit (then_e (inb_hit (then_n (wR ?_)))))))
        refine lV 93 (eAdd .i64 x77 1 (by exact e85)) (lV 68 (eM (.int .i64 (IntKind.i64.wrap (x77 + 1)))) (wN (then_n ?_)))
        have S182 := S173.pulls [F108, (is g50), F45, F75, (is g122), F116] [5, 5, 5, 5] rfl
        have S183 := St.first (Fa := [F108, (is g50), F45, F75]) (Fr := [(is g122), F116]) S182
        exact ⟨k91, (by omega), _, x72, A73, c74, F75, (IntKind.i64.wrap (x77 + 1)), F108, rfl, (by exact e79), (by exact e80), (by exact e81), (by exact e82), (by exact e83), (by exact e84), (by kernel_rfl), (RowS.next h110 q97 q96 rfl), b55, h46, h76, S183, M⟩
      replace M := ifn q153 M
      refine cF (bF q153) (wp_skip (then_n (wR (lV 89 (eM (.slice A73 x72.length c74) (by exact e82)) (lV 90 (e_loadS (b := g122) (off := 0) (cs := [.slice A114 (((t58.getD ((x77).toNat) z45).name).length) c115, .int .i64 ((t58.getD ((x77).toNat) z45).pri), .int .i64 ((t58.getD ((x77).toNat) z45).typ)]) Try.underlying45 rfl (by kernel_rfl) (by kernel_rfl) (blk_cells b127 rfl)) ?_)))))
      refine lW 91 (new_blk (v := fun g_ => .slice (some ⟨g_, 0, none⟩) 1 1) (cs := #[.slice A114 (((t58.getD ((x77).toNat) z45).name).length) c115, .int .i64 ((t58.getD ((x77).toNat) z45).pri), .int .i64 ((t58.getD ((x77).toNat) z45).typ)]) (t := 45) S150 (by kernel_rfl)) ?_
      rintro _ w184 ⟨g185, rfl, b186, S187, K188⟩
      replace h117 := h117.move (K188.at 1 rfl)
      replace h110 := h110.move (K188.at 2 rfl)
      replace b55 := K188.blk 3 rfl b55
      replace h46 := h46.move (K188.at 4 rfl)
      replace h76 := h76.move (K188.at 5 rfl)
      obtain ⟨q189, M⟩ := chk M
      have S191 := S187.pulls [F75, F116, (is g185), (is g122), F108, (is g50), F45] [2, 6] rfl
      refine lW 92 (e_append (d := st45) (n := x72.length) (xs := x72) (cap := c74) (A := A73) (ys := [(t58.getD ((x77).toNat) z45)]) (A2 := (some ⟨g185, 0, none⟩)) (c2 := 1) (z := .agg #[.slice none 0 0, .int .i64 0, .int .i64 0]) (bytes := 40) S191 Try.underlying25 (by kernel_rfl) rfl (by decide) (by kernel_rfl) rfl (by kernel_rfl) h76 (elsO_one1 (st45_mkO (x := (t58.getD ((x77).toNat) z45)) h117)) (.inr (blk_news b186 rfl)) (show (x72.length + [(t58.getD ((x77).toNat) z45)].length) * 40 ≤ _ by first | omega | (simp only [List.length_cons, List.length_nil]; omega)) (by decide)) ?_
      rintro _ w192 ⟨A193, c194, F195, rfl, h196, S197, K198⟩
      replace h110 := h110.move (K198.at 2 rfl)
      replace b55 := K198.blk 3 rfl b55
      replace h46 := h46.move (K198.at 4 rfl)
      refine lV 12 (eA (.slice A193 ((x72 ++ [(t58.getD ((x77).toNat) z45)]).length) c194)) (wN (inb_n (then_n (wR (lV 93 (eAdd .i64 x77 1 (by exact e85)) (lV 68 (eM (.int .i64 (IntKind.i64.wrap (x77 + 1)))) (wN ?_)))))))
      refine then_n ?_
      have S201 := S197.pulls [F108, (is g50), F45, F195, (is g185), (is g122)] [5, 5, 5] rfl
      have S202 := St.first (Fa := [F108, (is g50), F45, F195]) (Fr := [(is g185), (is g122)]) S201
      exact ⟨k91, (by omega), _, (x72 ++ [(t58.getD ((x77).toNat) z45)]), A193, c194, F195, (IntKind.i64.wrap (x77 + 1)), F108, rfl, (by exact e79), (by exact e80), (by exact e81), (by kernel_rfl), (by exact e83), (by exact e84), (by kernel_rfl), (RowS.next h110 q97 q96 rfl), b55, h46, h196, S202, M⟩
    replace M := ifn q130 M
    refine qK 77 false (bF q130) ?_
    refine qK 77 false (bF q130) ?_
    refine qK 77 false (bF q130) ?_
    refine qK 77 false (bF q130) ?_
    refine qK 77 false (bF q130) ?_
    refine qV 83 (fun wq_ hq_ => eF (.bool false) (bF q130)) ?_
    refine wpQuiet_nil ?_
    intro w203 C206
    obtain ⟨S204, K205⟩ := S128.still C206
    replace b127 := K205.blk 0 rfl b127
    replace h117 := h117.move (K205.at 1 rfl)
    replace h110 := h110.move (K205.at 2 rfl)
    replace b55 := K205.blk 3 rfl b55
    replace h46 := h46.move (K205.at 4 rfl)
    replace h76 := h76.move (K205.at 5 rfl)
    refine then_n (cond_f rfl (by kernel_rfl) (wp_skip (then_n (wR (lV 89 (eM (.slice A73 x72.length c74) (by exact e82)) (lV 90 (e_loadS (b := g122) (off := 0) (cs := [.slice A114 (((t58.getD ((x77).toNat) z45).name).length) c115, .int .i64 ((t58.getD ((x77).toNat) z45).pri), .int .i64 ((t58.getD ((x77).toNat) z45).typ)]) Try.underlying45 rfl (by kernel_rfl) (by kernel_rfl) (blk_cells b127 rfl)) ?_))))))
    refine lW 91 (new_blk (v := fun g_ => .slice (some ⟨g_, 0, none⟩) 1 1) (cs := #[.slice A114 (((t58.getD ((x77).toNat) z45).name).length) c115, .int .i64 ((t58.getD ((x77).toNat) z45).pri), .int .i64 ((t58.getD ((x77).toNat) z45).typ)]) (t := 45) S204 (by kernel_rfl)) ?_
    rintro _ w207 ⟨g208, rfl, b209, S210, K211⟩
    replace h117 := h117.move (K211.at 1 rfl)
    replace h110 := h110.move (K211.at 2 rfl)
    replace b55 := K211.blk 3 rfl b55
    replace h46 := h46.move (K211.at 4 rfl)
    replace h76 := h76.move (K211.at 5 rfl)
    obtain ⟨q212, M⟩ := chk M
    have S214 := S210.pulls [F75, F116, (is g208), (is g122), F108, (is g50), F45] [2, 6] rfl
    refine lW 92 (e_append (d := st45) (n := x72.length) (xs := x72) (cap := c74) (A := A73) (ys := [(t58.getD ((x77).toNat) z45)]) (A2 := (some ⟨g208, 0, none⟩)) (c2 := 1) (z := .agg #[.slice none 0 0, .int .i64 0, .int .i64 0]) (bytes := 40) S214 Try.underlying25 (by kernel_rfl) rfl (by decide) (by kernel_rfl) rfl (by kernel_rfl) h76 (elsO_one1 (st45_mkO (x := (t58.getD ((x77).toNat) z45)) h117)) (.inr (blk_news b209 rfl)) (show (x72.length + [(t58.getD ((x77).toNat) z45)].length) * 40 ≤ _ by first | omega | (simp only [List.length_cons, List.length_nil]; omega)) (by decide)) ?_
    rintro _ w215 ⟨A216, c217, F218, rfl, h219, S220, K221⟩
    replace h110 := h110.move (K221.at 2 rfl)
    replace b55 := K221.blk 3 rfl b55
    replace h46 := h46.move (K221.at 4 rfl)
    refine lV 12 (eA (.slice A216 ((x72 ++ [(t58.getD ((x77).toNat) z45)]).length) c217)) (wN (inb_n (then_n (wR (lV 93 (eAdd .i64 x77 1 (by exact e85)) (lV 68 (eM (.int .i64 (IntKind.i64.wrap (x77 + 1)))) (wN ?_)))))))
    refine then_n ?_
    have S224 := S220.pulls [F108, (is g50), F45, F218, (is g208), (is g122)] [5, 5, 5] rfl
    have S225 := St.first (Fa := [F108, (is g50), F45, F218]) (Fr := [(is g208), (is g122)]) S224
    exact ⟨k91, (by omega), _, (x72 ++ [(t58.getD ((x77).toNat) z45)]), A216, c217, F218, (IntKind.i64.wrap (x77 + 1)), F108, rfl, (by exact e79), (by exact e80), (by exact e81), (by kernel_rfl), (by exact e83), (by exact e84), (by kernel_rfl), (RowS.next h110 q97 q96 rfl), b55, h46, h219, S225, M⟩
  replace M := ifn q96 M
  refine cF (bF q96) (wp_exit (then_e (then_e (inb_hit (then_n (wp_seq (wp_seq ?_)))))))
  refine wR (lV 94 (eM (.int .i64 x6) (by exact e79)) (lV 95 (e_gtr (k := .i64) (a := x6) (b := 0) (by kernel_rfl) rfl) (wN (then_n ?_))))
  by_cases q226 : x6 > 0
  · replace M := ifp q226 M
    refine cT (bT q226) (wp_seq (wR (lV 96 (eM (.slice A73 x72.length c74) (by exact e82)) (lV 97 (e_loadS (b := g50) (off := 0) (cs := [.slice A43 x8.length c44, .int .i64 x6, .int .i64 x7]) Try.underlying45 rfl (by kernel_rfl) (by exact e81) (blk_cells b55 rfl)) ?_))))
    refine lW 98 (new_blk (v := fun g_ => .slice (some ⟨g_, 0, none⟩) 1 1) (cs := #[.slice A43 x8.length c44, .int .i64 x6, .int .i64 x7]) (t := 45) S86 (by kernel_rfl)) ?_
    rintro _ w227 ⟨g228, rfl, b229, S230, K231⟩
    replace h46 := h46.move (K231.at 2 rfl)
    replace h76 := h76.move (K231.at 3 rfl)
    obtain ⟨q232, M⟩ := chk M
    have S234 := S230.pulls [F75, F45, (is g228), F78, (is g50)] [3, 4] rfl
    refine lW 99 (e_append (d := st45) (n := x72.length) (xs := x72) (cap := c74) (A := A73) (ys := [(⟨x8, x6, x7⟩ : Sy.Op)]) (A2 := (some ⟨g228, 0, none⟩)) (c2 := 1) (z := .agg #[.slice none 0 0, .int .i64 0, .int .i64 0]) (bytes := 40) S234 Try.underlying25 (by kernel_rfl) rfl (by decide) (by kernel_rfl) rfl (by kernel_rfl) h76 (elsO_one1 (st45_mkO (x := (⟨x8, x6, x7⟩ : Sy.Op)) h46)) (.inr (blk_news b229 rfl)) (show (x72.length + [(⟨x8, x6, x7⟩ : Sy.Op)].length) * 40 ≤ _ by first | omega | (simp only [List.length_cons, List.length_nil]; omega)) (by decide)) ?_
    rintro _ w235 ⟨A236, c237, F238, rfl, h239, S240, K241⟩
    refine lV 12 (eA (.slice A236 ((x72 ++ [(⟨x8, x6, x7⟩ : Sy.Op)]).length) c237)) (wN (then_n (wR (lV 100 (eM (.slice A236 ((x72 ++ [(⟨x8, x6, x7⟩ : Sy.Op)]).length) c237)) ?_))))
    obtain ⟨t242, u243, M⟩ := bnd M
    refine lC 101 (eC [.tmp 100] [.slice A236 ((x72 ++ [(⟨x8, x6, x7⟩ : Sy.Op)]).length) c237] Try.func32) (impl_sortOps.calls k91 w235 H61 (x72 ++ [(⟨x8, x6, x7⟩ : Sy.Op)]) A236 c237 F238 h239 (St.own' (Fa := [F238]) (Fr := [(is g228), F78, (is g50)]) S240) t242 u243) ?_
    rintro _ w244 ⟨F248, H245, rfl, n249, h247, T246⟩
    refine ⟨_, rfl, ?_⟩
    obtain ⟨S250, K251⟩ := St.call (Fa := [F238]) (Fr := [(is g228), F78, (is g50)]) S240 T246
    have E252 := T246.ext
    refine wN (then_n (wp_seq (wp_seq (wR (lV 102 (eM (.slice A236 ((x72 ++ [(⟨x8, x6, x7⟩ : Sy.Op)]).length) c237)) (lV 103 (e_len (A := A236) (n := (x72 ++ [(⟨x8, x6, x7⟩ : Sy.Op)]).length) (c := c237) Try.underlying25 (by kernel_rfl)) (lV 104 (e_gtr (k := .i64) (a := ((x72 ++ [(⟨x8, x6, x7⟩ : Sy.Op)]).length : Int)) (b := 200) (by kernel_rfl) rfl) ?_)))))))
    refine wN (then_n ?_)
    by_cases q253 : ((x72 ++ [(⟨x8, x6, x7⟩ : Sy.Op)]).length : Int) > 200
    · replace M := ifp q253 M
      refine cT (bT q253) (wp_seq (wR (lV 8 (eA (.slice none 0 0)) (lV 9 (eA (.int .i64 3)) (wN (then_n (wp_ret ?_)))))))
      refine then_r ?_
      obtain rfl := Option.some.inj M
      have S254 := S250.unit
      have S255 := St.first (Fa := [no]) (Fr := [F248, (is g228), F78, (is g50)]) S254
      exact ret2 rfl rfl rfl (show _ = .slice none 0 0 from (by kernel_rfl)) (show _ = .int .i64 3 from (by kernel_rfl)) ⟨none, 0, no, H245, rfl, (Row.nil _ _ _ _ no), S255⟩
    replace M := ifn q253 M
    refine cF (bF q253) (wp_skip (then_n (wp_seq (wR (lV 105 (eM (.slice A236 ((x72 ++ [(⟨x8, x6, x7⟩ : Sy.Op)]).length) c237)) (lV 8 (eA (.slice A236 ((x72 ++ [(⟨x8, x6, x7⟩ : Sy.Op)]).length) c237)) (lV 9 (eA (.int .i64 0)) ?_)))))))
    refine wN (then_n (wp_ret ?_))
    obtain rfl := Option.some.inj M
    have S256 := St.first (Fa := [F248]) (Fr := [(is g228), F78, (is g50)]) S250
    exact ret2 rfl rfl rfl (show _ = .slice A236 ((x72 ++ [(⟨x8, x6, x7⟩ : Sy.Op)]).length) c237 from (by kernel_rfl)) (show _ = .int .i64 0 from (by kernel_rfl)) ⟨A236, c237, F248, H245, (by rw [(show t242.length = (x72 ++ [(⟨x8, x6, x7⟩ : Sy.Op)]).length from n249)]), h247, S256⟩
  replace M := ifn q226 M
  refine cF (bF q226) (wp_skip (then_n (wp_seq (wp_seq (wR (lV 102 (eM (.slice A73 x72.length c74) (by exact e82)) (lV 103 (e_len (A := A73) (n := x72.length) (c := c74) Try.underlying25 (by kernel_rfl)) ?_)))))))
  refine lV 104 (e_gtr (k := .i64) (a := (x72.length : Int)) (b := 200) (by kernel_rfl) rfl) (wN (then_n ?_))
  by_cases q257 : (x72.length : Int) > 200
  · replace M := ifp q257 M
    refine cT (bT q257) (wp_seq (wR (lV 8 (eA (.slice none 0 0)) (lV 9 (eA (.int .i64 3)) (wN (then_n (wp_ret ?_)))))))
    refine then_r ?_
    obtain rfl := Option.some.inj M
    have S258 := S86.unit
    have S259 := St.first (Fa := [no]) (Fr := [F78, (is g50), F45, F75]) S258
    exact ret2 rfl rfl rfl (show _ = .slice none 0 0 from (by kernel_rfl)) (show _ = .int .i64 3 from (by kernel_rfl)) ⟨none, 0, no, H61, rfl, (Row.nil _ _ _ _ no), S259⟩
  replace M := ifn q257 M
  refine cF (bF q257) (wp_skip (then_n (wp_seq (wR (lV 105 (eM (.slice A73 x72.length c74) (by exact e82)) (lV 8 (eA (.slice A73 x72.length c74)) (lV 9 (eA (.int .i64 0)) ?_)))))))
  refine wN (then_n (wp_ret ?_))
  obtain rfl := Option.some.inj M
  have S260 := S86.pulls [F75, F78, (is g50), F45] [3] rfl
  have S261 := St.first (Fa := [F75]) (Fr := [F78, (is g50), F45]) S260
  exact ret2 rfl rfl rfl (show _ = .slice A73 x72.length c74 from (by kernel_rfl)) (show _ = .int .i64 0 from (by kernel_rfl)) ⟨A73, c74, F75, H61, rfl, h76, S261⟩

/-! laws_sameB -/
def laws_sameB.l0 : Nat → (List UInt8) → (List UInt8) → Int → Option Bool
  | 0, _, _, _ => none
  | k23 + 1, x1, x6, x14 => (if x14 < (x1.length : Int) then (if 0 ≤ x14 then (if x14 < (x6.length : Int) then (if ((x1.getD ((x14).toNat) (0 : UInt8)).toNat : Int) ≠ ((x6.getD ((x14).toNat) (0 : UInt8)).toNat : Int) then some false else (laws_sameB.l0 k23 x1 x6 (IntKind.i64.wrap (x14 + 1)))) else none) else none) else some true)
def laws_sameB.f (k : Nat) (x1 : List UInt8) (x6 : List UInt8) : Option Bool := (if (x1.length : Int) ≠ (x6.length : Int) then some false else (laws_sameB.l0 k x1 x6 0))
theorem laws_sameB.calls (k : Nat) (w : World) (H : Hp) (x1 : List UInt8) (A2 : Option Addr) (c3 : Nat) (x6 : List UInt8) (A7 : Option Addr) (c8 : Nat) (h4 : Rd tByte H A2 x1) (l5 : x1.length ≤ c3) (h9 : Rd tByte H A7 x6) (l10 : x6.length ≤ c8) (S : Own [] H w) (r : Bool) (M : laws_sameB.f k x1 x6 = some r) :
    Calls Try.prog 45 #[.slice A2 x1.length c3, .slice A7 x6.length c8] w (fun e e_w => e = .returned (.bool r) ∧ Chg no w e_w) := by
  rw [laws_sameB.f] at M
  refine enter (l := [.slice A2 x1.length c3, .slice A7 x6.length c8]) 26 Try.func45 rfl rfl rfl ?_
  have S0_ := S.st
  refine wp_seq (wR (lV 4 (eA (.bool false)) (wN (then_n (wp_seq (wp_seq (wR ?_)))))))
  refine lV 6 (eM (.slice A2 x1.length c3)) (lV 7 (e_len (A := A2) (n := x1.length) (c := c3) Try.underlying32 (by kernel_rfl)) (lV 8 (eM (.slice A7 x6.length c8)) (lV 9 (e_len (A := A7) (n := x6.length) (c := c8) Try.underlying32 (by kernel_rfl)) (lV 10 (eNe .i64 (x1.length : Int) (x6.length : Int)) (wN (then_n ?_))))))
  by_cases q11 : (x1.length : Int) ≠ (x6.length : Int)
  · replace M := ifp q11 M
    refine cT (bT q11) (wp_seq (wR (lV 4 (eA (.bool false)) (wN (then_n (wp_ret (then_r ?_)))))))
    obtain rfl := Option.some.inj M
    exact ret1 rfl rfl  (show _ = .bool false from (by kernel_rfl)) ⟨rfl, S0_.chg⟩
  replace M := ifn q11 M
  refine cF (bF q11) (wp_skip (then_n (wp_seq (wp_seq (wR (lV 5 (eA (.int .i64 0)) (wN ?_)))))))
  refine then_n (wp_block ?_)
  refine wp_loop_g (fun k21 a22 w12 => ∃ (f13 : Nat → Value) (x14 : Int), a22 = mk 26 f13 ∧ f13 0 = .slice A2 x1.length c3 ∧ f13 1 = .slice A7 x6.length c8 ∧ f13 5 = .int .i64 x14 ∧ St (anyOf []) H w [] H w12 ∧ laws_sameB.l0 k21 x1 x6 x14 = some r) k ⟨_, 0, rfl, (by kernel_rfl), (by kernel_rfl), (by kernel_rfl), S0_, M⟩ ?_
  clear M
  rintro k21 a22 w12 ⟨f13, x14, rfl, e15, e16, e17, S18, M⟩
  rcases k21 with _ | k23
  · rw [laws_sameB.l0] at M
    cases M
  rw [laws_sameB.l0] at M
  refine wp_seq (wp_seq (wR (lV 11 (eM (.int .i64 x14) (by exact e17)) (lV 12 (eM (.slice A2 x1.length c3) (by exact e15)) (lV 13 (e_len (A := A2) (n := x1.length) (c := c3) Try.underlying32 (by kernel_rfl)) (lV 14 (eLt .i64 x14 (x1.length : Int)) (wN ?_)))))))
  refine then_n ?_
  by_cases q24 : x14 < (x1.length : Int)
  · replace M := ifp q24 M
    refine cT (bT q24) (wp_skip (then_n (wp_seq (wp_block (wp_seq ?_)))))
    refine region_still (by kernel_rfl) (by kernel_rfl) S18 ?_
    intro w25 S26 K27
    refine sV 17 (eM (.slice A2 x1.length c3) (by exact e15)) (sV 18 (eM (.int .i64 x14) (by exact e17)) ?_)
    obtain ⟨q28, M⟩ := chk M
    obtain ⟨b29, o30, e31⟩ := Rd.addr h4 (show (x14).toNat < x1.length by omega)
    obtain ⟨y32, r33, k34⟩ := Rd.at h4 e31 (getD_some (0 : UInt8) (show (x14).toNat < x1.length by omega))
    obtain rfl := r33
    refine sV 19 (eI b29 o30 x1.length c3 1 x14 .i64 Try.underlying32 e31 q28 q24) (sV 20 (eL ⟨b29, o30 + (x14 : Int).toNat * 1, none⟩ (.int .u8 ((x1.getD ((x14).toNat) (0 : UInt8)).toNat : Int)) Try.underlying5 (hpx (S26.inv.cell (k34 0 _ rfl)))) (sV 21 (eM (.slice A7 x6.length c8) (by exact e16)) (sV 22 (eM (.int .i64 x14) (by exact e17)) ?_)))
    obtain ⟨q35, M⟩ := chk M
    obtain ⟨b36, o37, e38⟩ := Rd.addr h9 (show (x14).toNat < x6.length by omega)
    obtain ⟨y39, r40, k41⟩ := Rd.at h9 e38 (getD_some (0 : UInt8) (show (x14).toNat < x6.length by omega))
    obtain rfl := r40
    refine sV 23 (eI b36 o37 x6.length c8 1 x14 .i64 Try.underlying32 e38 q28 q35) (sV 24 (eL ⟨b36, o37 + (x14 : Int).toNat * 1, none⟩ (.int .u8 ((x6.getD ((x14).toNat) (0 : UInt8)).toNat : Int)) Try.underlying5 (hpx (S26.inv.cell (k41 0 _ rfl)))) (sV 25 (eNe .u8 ((x1.getD ((x14).toNat) (0 : UInt8)).toNat : Int) ((x6.getD ((x14).toNat) (0 : UInt8)).toNat : Int)) (wpStill_nil (then_n ?_))))
    by_cases q42 : ((x1.getD ((x14).toNat) (0 : UInt8)).toNat : Int) ≠ ((x6.getD ((x14).toNat) (0 : UInt8)).toNat : Int)
    · replace M := ifp q42 M
      refine cT (bT q42) (wp_seq (wR (lV 4 (eA (.bool false)) (wN (then_n (wp_ret (inb_r ?_)))))))
      refine then_r (then_r (inb_r (then_r ?_)))
      obtain rfl := Option.some.inj M
      exact ret1 rfl rfl  (show _ = .bool false from (by kernel_rfl)) ⟨rfl, S26.chg⟩
    replace M := ifn q42 M
    refine cF (bF q42) (wp_skip (inb_n (then_n (wR (lV 15 (eM (.int .i64 x14) (by exact e17)) (lV 16 (eAdd .i64 x14 1) (lV 5 (eA (.int .i64 (IntKind.i64.wrap (x14 + 1)))) ?_)))))))
    refine wN (then_n ?_)
    exact ⟨k23, (by omega), _, (IntKind.i64.wrap (x14 + 1)), rfl, (by exact e15), (by exact e16), (by kernel_rfl), S26, M⟩
  replace M := ifn q24 M
  refine cF (bF q24) (wp_exit (then_e (then_e (inb_hit (then_n (wp_seq (wR ?_)))))))
  refine lV 4 (eA (.bool true)) (wN (then_n (wp_ret ?_)))
  obtain rfl := Option.some.inj M
  exact ret1 rfl rfl  (show _ = .bool true from (by kernel_rfl)) ⟨rfl, S18.chg⟩

/-! laws_sameOps -/
def laws_sameOps.l0 : Nat → (List Sy.Op) → (List Sy.Op) → Int → Option Bool
  | 0, _, _, _ => none
  | k23 + 1, x1, x6, x14 => (if x14 < (x1.length : Int) then (if 0 ≤ x14 then (if x14 < (x6.length : Int) then (if ((x1.getD ((x14).toNat) z45).pri) ≠ ((x6.getD ((x14).toNat) z45).pri) then some false else (if ((x1.getD ((x14).toNat) z45).typ) ≠ ((x6.getD ((x14).toNat) z45).typ) then some false else ((laws_sameB.f k23 ((x1.getD ((x14).toNat) z45).name) ((x6.getD ((x14).toNat) z45).name)).bind fun t97 => (if ¬ (t97 = true) then some false else (laws_sameOps.l0 k23 x1 x6 (IntKind.i64.wrap (x14 + 1))))))) else none) else none) else some true)
def laws_sameOps.f (k : Nat) (x1 : List Sy.Op) (x6 : List Sy.Op) : Option Bool := (if (x1.length : Int) ≠ (x6.length : Int) then some false else (laws_sameOps.l0 k x1 x6 0))
theorem laws_sameOps.calls (k : Nat) (w : World) (H : Hp) (x1 : List Sy.Op) (A2 : Option Addr) (c3 : Nat) (x6 : List Sy.Op) (A7 : Option Addr) (c8 : Nat) (h4 : Rd st45 H A2 x1) (l5 : x1.length ≤ c3) (h9 : Rd st45 H A7 x6) (l10 : x6.length ≤ c8) (S : Own [] H w) (r : Bool) (M : laws_sameOps.f k x1 x6 = some r) :
    Calls Try.prog 22 #[.slice A2 x1.length c3, .slice A7 x6.length c8] w (fun e e_w => e = .returned (.bool r) ∧ Chg no w e_w) := by
  rw [laws_sameOps.f] at M
  refine enter (l := [.slice A2 x1.length c3, .slice A7 x6.length c8]) 55 Try.func22 rfl rfl rfl ?_
  have S0_ := S.st
  refine wp_seq (wR (lV 4 (eA (.bool false)) (wN (then_n (wp_seq (wp_seq (wR ?_)))))))
  refine lV 6 (eM (.slice A2 x1.length c3)) (lV 7 (e_len (A := A2) (n := x1.length) (c := c3) Try.underlying25 (by kernel_rfl)) (lV 8 (eM (.slice A7 x6.length c8)) (lV 9 (e_len (A := A7) (n := x6.length) (c := c8) Try.underlying25 (by kernel_rfl)) (lV 10 (eNe .i64 (x1.length : Int) (x6.length : Int)) (wN (then_n ?_))))))
  by_cases q11 : (x1.length : Int) ≠ (x6.length : Int)
  · replace M := ifp q11 M
    refine cT (bT q11) (wp_seq (wR (lV 4 (eA (.bool false)) (wN (then_n (wp_ret (then_r ?_)))))))
    obtain rfl := Option.some.inj M
    exact ret1 rfl rfl  (show _ = .bool false from (by kernel_rfl)) ⟨rfl, S0_.chg⟩
  replace M := ifn q11 M
  refine cF (bF q11) (wp_skip (then_n (wp_seq (wp_seq (wR (lV 5 (eA (.int .i64 0)) (wN ?_)))))))
  refine then_n (wp_block ?_)
  refine wp_loop_g (fun k21 a22 w12 => ∃ (f13 : Nat → Value) (x14 : Int), a22 = mk 55 f13 ∧ f13 0 = .slice A2 x1.length c3 ∧ f13 1 = .slice A7 x6.length c8 ∧ f13 5 = .int .i64 x14 ∧ St (anyOf []) H w [] H w12 ∧ laws_sameOps.l0 k21 x1 x6 x14 = some r) k ⟨_, 0, rfl, (by kernel_rfl), (by kernel_rfl), (by kernel_rfl), S0_, M⟩ ?_
  clear M
  rintro k21 a22 w12 ⟨f13, x14, rfl, e15, e16, e17, S18, M⟩
  rcases k21 with _ | k23
  · rw [laws_sameOps.l0] at M
    cases M
  rw [laws_sameOps.l0] at M
  refine wp_seq (wp_seq (wR (lV 11 (eM (.int .i64 x14) (by exact e17)) (lV 12 (eM (.slice A2 x1.length c3) (by exact e15)) (lV 13 (e_len (A := A2) (n := x1.length) (c := c3) Try.underlying25 (by kernel_rfl)) (lV 14 (eLt .i64 x14 (x1.length : Int)) (wN ?_)))))))
  refine then_n ?_
  by_cases q24 : x14 < (x1.length : Int)
  · replace M := ifp q24 M
    refine cT (bT q24) (wp_skip (then_n (wp_seq (wp_block (wp_seq ?_)))))
    refine region_quiet (by kernel_rfl) (by kernel_rfl) ?_
    refine qV 17 (fun wq_ hq_ => eM (.slice A2 x1.length c3) (by exact e15)) ?_
    refine qV 18 (fun wq_ hq_ => eM (.int .i64 x14) (by exact e17)) ?_
    obtain ⟨q25, M⟩ := chk M
    obtain ⟨b26, o27, e28⟩ := Rd.addr h4 (show (x14).toNat < x1.length by omega)
    obtain ⟨y29, r30, k31⟩ := Rd.at h4 e28 (getD_some z45 (show (x14).toNat < x1.length by omega))
    obtain ⟨A32, c33, rfl, l34, h35⟩ := st45_open r30
    refine qV 19 (fun wq_ hq_ => eI b26 o27 x1.length c3 3 x14 .i64 Try.underlying25 e28 q25 q24) ?_
    refine qV 20 (fun wq_ hq_ => eD b26 (o27 + (x14 : Int).toNat * 3) 1 1 Try.underlying45) ?_
    refine qV 21 (fun wq_ hq_ => eL ⟨b26, o27 + (x14 : Int).toNat * 3 + 1, none⟩ (.int .i64 ((x1.getD ((x14).toNat) z45).pri)) Try.underlying3 (hpx ((S18.still hq_).1.inv.cell (k31 1 _ rfl)))) ?_
    refine qV 22 (fun wq_ hq_ => eM (.slice A7 x6.length c8) (by exact e16)) ?_
    refine qV 23 (fun wq_ hq_ => eM (.int .i64 x14) (by exact e17)) ?_
    obtain ⟨q36, M⟩ := chk M
    obtain ⟨b37, o38, e39⟩ := Rd.addr h9 (show (x14).toNat < x6.length by omega)
    obtain ⟨y40, r41, k42⟩ := Rd.at h9 e39 (getD_some z45 (show (x14).toNat < x6.length by omega))
    obtain ⟨A43, c44, rfl, l45, h46⟩ := st45_open r41
    refine qV 24 (fun wq_ hq_ => eI b37 o38 x6.length c8 3 x14 .i64 Try.underlying25 e39 q25 q36) ?_
    refine qV 25 (fun wq_ hq_ => eD b37 (o38 + (x14 : Int).toNat * 3) 1 1 Try.underlying45) ?_
    refine qV 26 (fun wq_ hq_ => eL ⟨b37, o38 + (x14 : Int).toNat * 3 + 1, none⟩ (.int .i64 ((x6.getD ((x14).toNat) z45).pri)) Try.underlying3 (hpx ((S18.still hq_).1.inv.cell (k42 1 _ rfl)))) ?_
    refine qV 27 (fun wq_ hq_ => eNe .i64 (x1.getD ((x14).toNat) z45).pri (x6.getD ((x14).toNat) z45).pri) ?_
    refine qV 28 (fun wq_ hq_ => eM (.bool (decide (((x1.getD ((x14).toNat) z45).pri) ≠ ((x6.getD ((x14).toNat) z45).pri))))) ?_
    by_cases q47 : ((x1.getD ((x14).toNat) z45).pri) ≠ ((x6.getD ((x14).toNat) z45).pri)
    · replace M := ifp q47 M
      refine qK 28 true (bT q47) ?_
      refine qK 28 true (bT q47) ?_
      refine qK 28 true (bT q47) ?_
      refine qK 28 true (bT q47) ?_
      refine qK 28 true (bT q47) ?_
      refine qK 28 true (bT q47) ?_
      refine qK 28 true (bT q47) ?_
      refine qK 28 true (bT q47) ?_
      refine qK 28 true (bT q47) ?_
      refine qK 28 true (bT q47) ?_
      refine qK 28 true (bT q47) ?_
      refine qV 40 (fun wq_ hq_ => eT (.bool true) (bT q47)) ?_
      refine qV 41 (fun wq_ hq_ => eM (.bool true)) ?_
      refine qK 41 true (by kernel_rfl) ?_
      refine qK 41 true (by kernel_rfl) ?_
      refine qK 41 true (by kernel_rfl) ?_
      refine qK 41 true (by kernel_rfl) ?_
      refine qK 41 true (by kernel_rfl) ?_
      refine qK 41 true (by kernel_rfl) ?_
      refine qK 41 true (by kernel_rfl) ?_
      refine qK 41 true (by kernel_rfl) ?_
      refine qK 41 true (by kernel_rfl) ?_
      refine qK 41 true (by kernel_rfl) ?_
      refine qK 41 true (by kernel_rfl) ?_
      refine qK 41 true (by kernel_rfl) ?_
      refine qV 54 (fun wq_ hq_ => eT (.bool true)) ?_
      refine wpQuiet_nil ?_
      intro w48 C51
      obtain ⟨S49, K50⟩ := S18.still C51
      refine then_n (cond_t rfl (by kernel_rfl) (wp_seq (wR (lV 4 (eA (.bool false)) (wN (then_n (wp_ret ?_)))))))
      refine inb_r (then_r (then_r (inb_r (then_r ?_))))
      obtain rfl := Option.some.inj M
      exact ret1 rfl rfl  (show _ = .bool false from (by kernel_rfl)) ⟨rfl, S49.chg⟩
    replace M := ifn q47 M
    refine qG 29 28 (bF q47) (fun wq_ hq_ => eM (.slice A2 x1.length c3) (by exact e15)) ?_
    refine qG 30 28 (bF q47) (fun wq_ hq_ => eM (.int .i64 x14) (by exact e17)) ?_
    obtain ⟨b52, o53, e54⟩ := Rd.addr h4 (show (x14).toNat < x1.length by omega)
    obtain ⟨y55, r56, k57⟩ := Rd.at h4 e54 (getD_some z45 (show (x14).toNat < x1.length by omega))
    obtain ⟨A58, c59, rfl, l60, h61⟩ := st45_open r56
    refine qG 31 28 (bF q47) (fun wq_ hq_ => eI b52 o53 x1.length c3 3 x14 .i64 Try.underlying25 e54 q25 q24) ?_
    refine qG 32 28 (bF q47) (fun wq_ hq_ => eD b52 (o53 + (x14 : Int).toNat * 3) 2 1 Try.underlying45) ?_
    refine qG 33 28 (bF q47) (fun wq_ hq_ => eL ⟨b52, o53 + (x14 : Int).toNat * 3 + 2, none⟩ (.int .i64 ((x1.getD ((x14).toNat) z45).typ)) Try.underlying3 (hpx ((S18.still hq_).1.inv.cell (k57 2 _ rfl)))) ?_
    refine qG 34 28 (bF q47) (fun wq_ hq_ => eM (.slice A7 x6.length c8) (by exact e16)) ?_
    refine qG 35 28 (bF q47) (fun wq_ hq_ => eM (.int .i64 x14) (by exact e17)) ?_
    obtain ⟨b62, o63, e64⟩ := Rd.addr h9 (show (x14).toNat < x6.length by omega)
    obtain ⟨y65, r66, k67⟩ := Rd.at h9 e64 (getD_some z45 (show (x14).toNat < x6.length by omega))
    obtain ⟨A68, c69, rfl, l70, h71⟩ := st45_open r66
    refine qG 36 28 (bF q47) (fun wq_ hq_ => eI b62 o63 x6.length c8 3 x14 .i64 Try.underlying25 e64 q25 q36) ?_
    refine qG 37 28 (bF q47) (fun wq_ hq_ => eD b62 (o63 + (x14 : Int).toNat * 3) 2 1 Try.underlying45) ?_
    refine qG 38 28 (bF q47) (fun wq_ hq_ => eL ⟨b62, o63 + (x14 : Int).toNat * 3 + 2, none⟩ (.int .i64 ((x6.getD ((x14).toNat) z45).typ)) Try.underlying3 (hpx ((S18.still hq_).1.inv.cell (k67 2 _ rfl)))) ?_
    refine qG 39 28 (bF q47) (fun wq_ hq_ => eNe .i64 (x1.getD ((x14).toNat) z45).typ (x6.getD ((x14).toNat) z45).typ) ?_
    refine qV 40 (fun wq_ hq_ => eF (.bool (decide (((x1.getD ((x14).toNat) z45).typ) ≠ ((x6.getD ((x14).toNat) z45).typ)))) (bF q47)) ?_
    refine qV 41 (fun wq_ hq_ => eM (.bool (decide (((x1.getD ((x14).toNat) z45).typ) ≠ ((x6.getD ((x14).toNat) z45).typ))))) ?_
    by_cases q72 : ((x1.getD ((x14).toNat) z45).typ) ≠ ((x6.getD ((x14).toNat) z45).typ)
    · replace M := ifp q72 M
      refine qK 41 true (bT q72) ?_
      refine qK 41 true (bT q72) ?_
      refine qK 41 true (bT q72) ?_
      refine qK 41 true (bT q72) ?_
      refine qK 41 true (bT q72) ?_
      refine qK 41 true (bT q72) ?_
      refine qK 41 true (bT q72) ?_
      refine qK 41 true (bT q72) ?_
      refine qK 41 true (bT q72) ?_
      refine qK 41 true (bT q72) ?_
      refine qK 41 true (bT q72) ?_
      refine qK 41 true (bT q72) ?_
      refine qV 54 (fun wq_ hq_ => eT (.bool true) (bT q72)) ?_
      refine wpQuiet_nil ?_
      intro w73 C76
      obtain ⟨S74, K75⟩ := S18.still C76
      refine then_n (cond_t rfl (by kernel_rfl) (wp_seq (wR (lV 4 (eA (.bool false)) (wN (then_n (wp_ret ?_)))))))
      refine inb_r (then_r (then_r (inb_r (then_r ?_))))
      obtain rfl := Option.some.inj M
      exact ret1 rfl rfl  (show _ = .bool false from (by kernel_rfl)) ⟨rfl, S74.chg⟩
    replace M := ifn q72 M
    refine qG 42 41 (bF q72) (fun wq_ hq_ => eM (.slice A2 x1.length c3) (by exact e15)) ?_
    refine qG 43 41 (bF q72) (fun wq_ hq_ => eM (.int .i64 x14) (by exact e17)) ?_
    obtain ⟨b77, o78, e79⟩ := Rd.addr h4 (show (x14).toNat < x1.length by omega)
    obtain ⟨y80, r81, k82⟩ := Rd.at h4 e79 (getD_some z45 (show (x14).toNat < x1.length by omega))
    obtain ⟨A83, c84, rfl, l85, h86⟩ := st45_open r81
    refine qG 44 41 (bF q72) (fun wq_ hq_ => eI b77 o78 x1.length c3 3 x14 .i64 Try.underlying25 e79 q25 q24) ?_
    refine qG 45 41 (bF q72) (fun wq_ hq_ => eD b77 (o78 + (x14 : Int).toNat * 3) 0 1 Try.underlying45) ?_
    refine qG 46 41 (bF q72) (fun wq_ hq_ => eL ⟨b77, o78 + (x14 : Int).toNat * 3 + 0, none⟩ (.slice A83 ((x1.getD ((x14).toNat) z45).name).length c84) Try.underlying32 (hpx ((S18.still hq_).1.inv.cell (k82 0 _ rfl)))) ?_
    refine qG 47 41 (bF q72) (fun wq_ hq_ => eM (.slice A7 x6.length c8) (by exact e16)) ?_
    refine qG 48 41 (bF q72) (fun wq_ hq_ => eM (.int .i64 x14) (by exact e17)) ?_
    obtain ⟨b87, o88, e89⟩ := Rd.addr h9 (show (x14).toNat < x6.length by omega)
    obtain ⟨y90, r91, k92⟩ := Rd.at h9 e89 (getD_some z45 (show (x14).toNat < x6.length by omega))
    obtain ⟨A93, c94, rfl, l95, h96⟩ := st45_open r91
    refine qG 49 41 (bF q72) (fun wq_ hq_ => eI b87 o88 x6.length c8 3 x14 .i64 Try.underlying25 e89 q25 q36) ?_
    refine qG 50 41 (bF q72) (fun wq_ hq_ => eD b87 (o88 + (x14 : Int).toNat * 3) 0 1 Try.underlying45) ?_
    refine qG 51 41 (bF q72) (fun wq_ hq_ => eL ⟨b87, o88 + (x14 : Int).toNat * 3 + 0, none⟩ (.slice A93 ((x6.getD ((x14).toNat) z45).name).length c94) Try.underlying32 (hpx ((S18.still hq_).1.inv.cell (k92 0 _ rfl)))) ?_
    obtain ⟨t97, u98, M⟩ := bnd M
    refine qcallg (v := .bool t97) (d := 52) (t := 41) rfl (by kernel_rfl) rfl (bF q72) rfl (by kernel_rfl) (fun w_ => eC [.tmp 46, .tmp 51] [.slice A83 ((x1.getD ((x14).toNat) z45).name).length c84, .slice A93 ((x6.getD ((x14).toNat) z45).name).length c94] Try.func45) (fun wq_ hq_ => (by obtain ⟨S_, K_⟩ := S18.still hq_; exact (laws_sameB.calls k23 wq_ H ((x1.getD ((x14).toNat) z45).name) A83 c84 ((x6.getD ((x14).toNat) z45).name) A93 c94 h86 l85 h96 l95 S_.own0 t97 u98))) ?_
    refine qG 53 41 (bF q72) (fun wq_ hq_ => e_notv (c := t97) (by kernel_rfl)) ?_
    refine qV 54 (fun wq_ hq_ => eF (.bool (decide (¬ (t97 = true)))) (bF q72)) ?_
    refine wpQuiet_nil ?_
    intro w99 C102
    obtain ⟨S100, K101⟩ := S18.still C102
    refine then_n ?_
    by_cases q103 : ¬ (t97 = true)
    · replace M := ifp q103 M
      refine cT (bT q103) (wp_seq (wR (lV 4 (eA (.bool false)) (wN (then_n (wp_ret (inb_r ?_)))))))
      refine then_r (then_r (inb_r (then_r ?_)))
      obtain rfl := Option.some.inj M
      exact ret1 rfl rfl  (show _ = .bool false from (by kernel_rfl)) ⟨rfl, S100.chg⟩
    replace M := ifn q103 M
    refine cF (bF q103) (wp_skip (inb_n (then_n (wR (lV 15 (eM (.int .i64 x14) (by exact e17)) (lV 16 (eAdd .i64 x14 1) (lV 5 (eA (.int .i64 (IntKind.i64.wrap (x14 + 1)))) ?_)))))))
    refine wN (then_n ?_)
    exact ⟨k23, (by omega), _, (IntKind.i64.wrap (x14 + 1)), rfl, (by exact e15), (by exact e16), (by kernel_rfl), S100, M⟩
  replace M := ifn q24 M
  refine cF (bF q24) (wp_exit (then_e (then_e (inb_hit (then_n (wp_seq (wR ?_)))))))
  refine lV 4 (eA (.bool true)) (wN (then_n (wp_ret ?_)))
  obtain rfl := Option.some.inj M
  exact ret1 rfl rfl  (show _ = .bool true from (by kernel_rfl)) ⟨rfl, S18.chg⟩

/-! impl_DefaultOps_c1 -/
def impl_DefaultOps_c1.l0 : Nat → Int → Int → (List (List UInt8)) → Int → (List Sy.Op) → Option (List Sy.Op)
  | 0, _, _, _, _, _ => none
  | k34 + 1, x1, x2, x3, x17, x18 => (if x17 < (x3.length : Int) then (if 0 ≤ x17 then (if (x3.getD ((x17).toNat) ([] : List UInt8)).length ≤ 9223372036854775807 then (if x18.length + 1 ≤ 3518437208883 then (impl_DefaultOps_c1.l0 k34 x1 x2 x3 (IntKind.i64.wrap (x17 + 1)) (x18 ++ [(⟨(x3.getD ((x17).toNat) ([] : List UInt8)), x1, x2⟩ : Sy.Op)])) else none) else none) else none) else some x18)
def impl_DefaultOps_c1.f (k : Nat) (x1 : Int) (x2 : Int) (x3 : List (List UInt8)) (x8 : List Sy.Op) : Option (List Sy.Op) := (impl_DefaultOps_c1.l0 k x1 x2 x3 0 x8)
theorem impl_DefaultOps_c1.calls (k : Nat) (w : World) (H : Hp) (x1 : Int) (x2 : Int) (x3 : List (List UInt8)) (A4 : Option Addr) (c5 : Nat) (x8 : List Sy.Op) (g9 : Nat) (A11 : Option Addr) (c12 : Nat) (F14 : Foot) (h6 : Rd tStr H A4 x3) (l7 : x3.length ≤ c5) (h13 : Row st45 45 H (hp w) F14 A11 c12 x8) (b10 : w.heap[g9]? = some (.cells #[.slice A11 x8.length c12] 25 (0, 0))) (S : Own [F14, (is g9)] H w) (r : List Sy.Op) (M : impl_DefaultOps_c1.f k x1 x2 x3 x8 = some r) :
    Calls Try.prog 31 #[.int .i64 x1, .int .i64 x2, .slice A4 x3.length c5, .pointer (some ⟨g9, 0, none⟩)] w (fun e e_w => ∃ (A_1 : Option Addr) (c_1 : Nat) (F_1 : Foot) (H_ : Hp), e = .returned (.tuple #[]) ∧ Row st45 45 H_ (hp e_w) F_1 A_1 c_1 r ∧ e_w.heap[g9]? = some (.cells #[.slice A_1 r.length c_1] 25 (0, 0)) ∧ St (anyOf [F14, (is g9)]) H w [(is g9), F_1] H_ e_w) := by
  rw [impl_DefaultOps_c1.f] at M
  refine enter (l := [.int .i64 x1, .int .i64 x2, .slice A4 x3.length c5, .pointer (some ⟨g9, 0, none⟩)]) 24 Try.func31 rfl rfl rfl ?_
  have S0_ := S.st
  refine wp_seq (wR (lV 9 (eM (.slice A4 x3.length c5)) (lV 10 (e_len (A := A4) (n := x3.length) (c := c5) Try.underlying49 (by kernel_rfl)) (lV 11 (eM (.int .i64 0)) (wN (then_n (wp_block ?_)))))))
  have S35 := S0_.pulls [(is g9), F14] [1] rfl
  refine wp_loop_g (fun k32 a33 w15 => ∃ (f16 : Nat → Value) (x17 : Int) (x18 : List Sy.Op) (A19 : Option Addr) (c20 : Nat) (F21 : Foot), a33 = mk 24 f16 ∧ f16 0 = .int .i64 x1 ∧ f16 1 = .int .i64 x2 ∧ f16 3 = .pointer (some ⟨g9, 0, none⟩) ∧ f16 9 = .slice A4 x3.length c5 ∧ f16 10 = .int .i64 (x3.length : Int) ∧ f16 11 = .int .i64 x17 ∧ w15.heap[g9]? = some (.cells #[.slice A19 x18.length c20] 25 (0, 0)) ∧ Row st45 45 H (hp w15) F21 A19 c20 x18 ∧ St (anyOf [F14, (is g9)]) H w [(is g9), F21] H w15 ∧ impl_DefaultOps_c1.l0 k32 x1 x2 x3 x17 x18 = some r) k ⟨_, 0, x8, A11, c12, F14, rfl, (by kernel_rfl), (by kernel_rfl), (by kernel_rfl), (by kernel_rfl), (by kernel_rfl), (by kernel_rfl), b10, h13, S35, M⟩ ?_
  clear M
  rintro k32 a33 w15 ⟨f16, x17, x18, A19, c20, F21, rfl, e23, e24, e25, e26, e27, e28, b10, h22, S29, M⟩
  rcases k32 with _ | k34
  · rw [impl_DefaultOps_c1.l0] at M
    cases M
  rw [impl_DefaultOps_c1.l0] at M
  refine wp_seq (wR (lV 12 (eLt .i64 x17 (x3.length : Int) (by exact e28) (by exact e27)) (wN (then_n (wp_seq ?_)))))
  by_cases q36 : x17 < (x3.length : Int)
  · replace M := ifp q36 M
    refine cT (bT q36) (wp_skip (then_n (wp_seq (wp_block (wp_seq (wR ?_))))))
    obtain ⟨q37, M⟩ := chk M
    obtain ⟨b38, o39, e40⟩ := Rd.addr h6 (show (x17).toNat < x3.length by omega)
    obtain ⟨y41, r42, k43⟩ := Rd.at h6 e40 (getD_some ([] : List UInt8) (show (x17).toNat < x3.length by omega))
    obtain rfl := r42
    refine lV 13 (e_indexAddr (b := b38) (off := o39) (n := x3.length) (c := c5) (sz := 1) (i := x17) (k := .i64) Try.underlying49 e40 (by kernel_rfl) (by exact e26) (by exact e28) q37 q36) (lV 14 (eL ⟨b38, o39 + (x17 : Int).toNat * 1, none⟩ (str (x3.getD ((x17).toNat) ([] : List UInt8))) Try.underlying9 (hpx (S29.inv.cell (k43 0 _ rfl)))) (lV 8 (eA (str (x3.getD ((x17).toNat) ([] : List UInt8)))) (wN (then_n (wR (lV 15 (eL ⟨g9, 0, none⟩ (.slice A19 x18.length c20) Try.underlying25 (blk_cell b10 rfl) (by exact e25)) (lV 16 (eM (str (x3.getD ((x17).toNat) ([] : List UInt8)))) ?_)))))))
    obtain ⟨q44, M⟩ := chk M
    refine lW 17 (e_conv_sb (xs := (x3.getD ((x17).toNat) ([] : List UInt8))) S29 Try.underlying9 Try.underlying32 Try.underlying5 (by kernel_rfl) q44) ?_
    rintro _ w45 ⟨A46, c47, F48, rfl, h49, S50, K51⟩
    replace b10 := K51.blk 0 rfl b10
    replace h22 := h22.move (K51.at 1 rfl)
    refine lV 18 (eM (.int .i64 x1) (by exact e23)) (lV 19 (eM (.int .i64 x2) (by exact e24)) (lV 20 (show _ = Result.ok (Next.value (.agg #[.slice A46 ((x3.getD ((x17).toNat) ([] : List UInt8)).length) c47, .int .i64 x1, .int .i64 x2])) w45 from by kernel_rfl) ?_))
    refine lW 21 (new_blk (v := fun g_ => .slice (some ⟨g_, 0, none⟩) 1 1) (cs := #[.slice A46 ((x3.getD ((x17).toNat) ([] : List UInt8)).length) c47, .int .i64 x1, .int .i64 x2]) (t := 45) S50 (by kernel_rfl)) ?_
    rintro _ w52 ⟨g53, rfl, b54, S55, K56⟩
    replace h49 := h49.move (K56.at 0 rfl)
    replace b10 := K56.blk 1 rfl b10
    replace h22 := h22.move (K56.at 2 rfl)
    obtain ⟨q57, M⟩ := chk M
    have S59 := S55.pulls [F21, F48, (is g53), (is g9)] [1, 3] rfl
    refine lW 22 (e_append (d := st45) (n := x18.length) (xs := x18) (cap := c20) (A := A19) (ys := [(⟨(x3.getD ((x17).toNat) ([] : List UInt8)), x1, x2⟩ : Sy.Op)]) (A2 := (some ⟨g53, 0, none⟩)) (c2 := 1) (z := .agg #[.slice none 0 0, .int .i64 0, .int .i64 0]) (bytes := 40) S59 Try.underlying25 (by kernel_rfl) rfl (by decide) (by kernel_rfl) rfl (by kernel_rfl) h22 (elsO_one1 (st45_mkO (x := (⟨(x3.getD ((x17).toNat) ([] : List UInt8)), x1, x2⟩ : Sy.Op)) h49)) (.inr (blk_news b54 rfl)) (show (x18.length + [(⟨(x3.getD ((x17).toNat) ([] : List UInt8)), x1, x2⟩ : Sy.Op)].length) * 40 ≤ _ by first | omega | (simp only [List.length_cons, List.length_nil]; omega)) (by decide)) ?_
    rintro _ w60 ⟨A61, c62, F63, rfl, h64, S65, K66⟩
    replace b10 := K66.blk 1 rfl b10
    have S67 := S65.pulls [(is g9), F63, (is g53)] [2] rfl
    refine lE (eS g9 0 (.slice A61 ((x18 ++ [(⟨(x3.getD ((x17).toNat) ([] : List UInt8)), x1, x2⟩ : Sy.Op)]).length) c62) #[.slice A61 ((x18 ++ [(⟨(x3.getD ((x17).toNat) ([] : List UInt8)), x1, x2⟩ : Sy.Op)]).length) c62] [.slice A61 ((x18 ++ [(⟨(x3.getD ((x17).toNat) ([] : List UInt8)), x1, x2⟩ : Sy.Op)]).length) c62] S67 b10 (by exact e25)) ?_
    rintro w68 ⟨b69, S70, K71⟩
    replace h64 := h64.move (K71.at 0 rfl)
    clear b10
    refine wN (inb_n (then_n (wR (lV 23 (eAdd .i64 x17 1 (by exact e28)) (lV 11 (eM (.int .i64 (IntKind.i64.wrap (x17 + 1)))) (wN (then_n ?_)))))))
    have S73 := S70.pulls [(is g9), F63, (is g53)] [1, 1] rfl
    have S74 := St.first (Fa := [(is g9), F63]) (Fr := [(is g53)]) S73
    exact ⟨k34, (by omega), _, (IntKind.i64.wrap (x17 + 1)), (x18 ++ [(⟨(x3.getD ((x17).toNat) ([] : List UInt8)), x1, x2⟩ : Sy.Op)]), A61, c62, F63, rfl, (by exact e23), (by exact e24), (by exact e25), (by exact e26), (by exact e27), (by kernel_rfl), b69, h64, S74, M⟩
  replace M := ifn q36 M
  refine cF (bF q36) (wp_exit (then_e (then_e (inb_hit ?_))))
  obtain rfl := Option.some.inj M
  exact end0 rfl ⟨A19, c20, F21, H, rfl, h22, b10, S29⟩

/-! impl_DefaultOps -/
def impl_DefaultOps.f (k : Nat) : Option (List Sy.Op) := ((impl_DefaultOps_c1.f k 1200 0 [([58, 45] : List UInt8), ([45, 45, 62] : List UInt8)] []).bind fun t25 => ((impl_DefaultOps_c1.f k 1200 4 [([58, 45] : List UInt8), ([63, 45] : List UInt8)] t25).bind fun t54 => ((impl_DefaultOps_c1.f k 1150 4 [([100, 121, 110, 97, 109, 105, 99] : List UInt8)] t54).bind fun t83 => ((impl_DefaultOps_c1.f k 1100 1 [([59] : List UInt8)] t83).bind fun t112 => ((impl_DefaultOps_c1.f k 1050 1 [([45, 62] : List UInt8)] t112).bind fun t141 => ((impl_DefaultOps_c1.f k 1000 1 [([44] : List UInt8)] t141).bind fun t170 => ((impl_DefaultOps_c1.f k 900 3 [([92, 43] : List UInt8)] t170).bind fun t199 => ((impl_DefaultOps_c1.f k 700 0 [([61] : List UInt8), ([92, 61] : List UInt8), ([61, 61] : List UInt8), ([92, 61, 61] : List UInt8), ([64, 60] : List UInt8), ([64, 61, 60] : List UInt8), ([64, 62] : List UInt8), ([64, 62, 61] : List UInt8), ([61, 46, 46] : List UInt8), ([105, 115] : List UInt8), ([61, 58, 61] : List UInt8), ([61, 92, 61] : List UInt8), ([60] : List UInt8), ([61, 60] : List UInt8), ([62] : List UInt8), ([62, 61] : List UInt8)] t199).bind fun t228 => ((impl_DefaultOps_c1.f k 500 2 [([43] : List UInt8), ([45] : List UInt8), ([47, 92] : List UInt8), ([92, 47] : List UInt8), ([120, 111, 114] : List UInt8)] t228).bind fun t257 => ((impl_DefaultOps_c1.f k 400 2 [([42] : List UInt8), ([47] : List UInt8), ([47, 47] : List UInt8), ([109, 111, 100] : List UInt8), ([114, 101, 109] : List UInt8), ([60, 60] : List UInt8), ([62, 62] : List UInt8)] t257).bind fun t286 => ((impl_DefaultOps_c1.f k 200 0 [([42, 42] : List UInt8)] t286).bind fun t315 => ((impl_DefaultOps_c1.f k 200 1 [([94] : List UInt8)] t315).bind fun t344 => ((impl_DefaultOps_c1.f k 200 3 [([45] : List UInt8), ([43] : List UInt8), ([92] : List UInt8)] t344).bind fun t373 => ((impl_sortOps.f k t373).bind fun t387 => some t387))))))))))))))
theorem impl_DefaultOps.calls (k : Nat) (w : World) (H : Hp) (S : Own [] H w) (r : List Sy.Op) (M : impl_DefaultOps.f k = some r) :
    Calls Try.prog 13 #[] w (fun e e_w => ∃ (A_1 : Option Addr) (c_1 : Nat) (F_1 : Foot) (H_ : Hp), e = .returned (.slice A_1 r.length c_1) ∧ Row st45 45 H_ (hp e_w) F_1 A_1 c_1 r ∧ St (anyOf []) H w [F_1] H_ e_w) := by
  rw [impl_DefaultOps.f] at M
  refine enter (l := []) 46 Try.func13 rfl rfl rfl ?_
  have S0_ := S.st
  refine wp_seq (wR (lV 0 (eA (.slice none 0 0)) (wN (then_n (wp_seq (wR ?_))))))
  refine lW 1 (nB #[.slice none 0 0] 25 S0_) ?_
  rintro _ w1 ⟨g2, rfl, b3, S4, K5⟩
  refine wN (then_n (wp_seq (wR (lV 3 (e_makeFunc (cs := [.tmp 1]) (vs := [.pointer (some ⟨g2, 0, none⟩)]) (by kernel_rfl)) (lV 2 (eA (.func (.func 31) #[] #[.pointer (some ⟨g2, 0, none⟩)])) (wN (then_n ?_)))))))
  refine wp_seq (wR (lV 4 (eM (.func (.func 31) #[] #[.pointer (some ⟨g2, 0, none⟩)])) ?_))
  refine lW 5 (new_blk (v := fun g_ => .slice (some ⟨g_, 0, none⟩) 2 2) (cs := #[str ([58, 45] : List UInt8), str ([45, 45, 62] : List UInt8)]) (t := 9) S4 (by kernel_rfl)) ?_
  rintro _ w6 ⟨g7, rfl, b9, S10, K11⟩
  replace b3 := K11.blk 0 rfl b3
  have S12 := S10.unit
  have S13 := S12.pulls [(is g7), no, (is g2)] [1] rfl
  obtain ⟨h14, S15⟩ := row_lit (d := tStr) (xs := [([58, 45] : List UInt8), ([45, 45, 62] : List UInt8)]) S13 b9 rfl (elsO_no (d := tStr) rfl (elsO_no (d := tStr) rfl (elsO_nil _ _ _ no))) (Nat.le_of_ble_eq_true rfl)
  have l16 := h14.le
  obtain ⟨H17, S18, E19, h20, z21⟩ := S15.frzRow h14
  have S22 := S18.unit
  have S24 := S22.pulls [no, (is g2)] [1, 1] rfl
  obtain ⟨t25, u26, M⟩ := bnd M
  refine lC 6 (e_callv (l := [.const (.int .i64 1200), .const (.int .i64 0), .tmp 5]) (vs := [.int .i64 1200, .int .i64 0, .slice (some ⟨g7, 0, none⟩) 2 2]) (cs := [.pointer (some ⟨g2, 0, none⟩)]) Try.func31 (by kernel_rfl) rfl (by kernel_rfl) (by kernel_rfl)) (impl_DefaultOps_c1.calls k w6 H17 1200 0 [([58, 45] : List UInt8), ([45, 45, 62] : List UInt8)] (some ⟨g7, 0, none⟩) 2 [] g2 none 0 no h20 l16 (Row.nil _ _ _ _ no) b3 (St.own' (Fa := [no, (is g2)]) (Fr := []) S24) t25 u26) ?_
  rintro _ w27 ⟨A30, c31, F33, H28, rfl, h32, b34, T29⟩
  refine ⟨_, rfl, ?_⟩
  obtain ⟨S35, K36⟩ := St.call (Fa := [no, (is g2)]) (Fr := []) S24 T29
  have E37 := T29.ext
  refine wN (then_n (wp_seq (wR (lV 7 (eM (.func (.func 31) #[] #[.pointer (some ⟨g2, 0, none⟩)])) ?_))))
  refine lW 8 (new_blk (v := fun g_ => .slice (some ⟨g_, 0, none⟩) 2 2) (cs := #[str ([58, 45] : List UInt8), str ([63, 45] : List UInt8)]) (t := 9) S35 (by kernel_rfl)) ?_
  rintro _ w38 ⟨g39, rfl, b40, S41, K42⟩
  replace b34 := K42.blk 0 rfl b34
  replace h32 := h32.move (K42.at 1 rfl)
  have S43 := S41.unit
  have S44 := S43.pulls [(is g39), no, (is g2), F33] [1] rfl
  obtain ⟨h45, S46⟩ := row_lit (d := tStr) (xs := [([58, 45] : List UInt8), ([63, 45] : List UInt8)]) S44 b40 rfl (elsO_no (d := tStr) rfl (elsO_no (d := tStr) rfl (elsO_nil _ _ _ no))) (Nat.le_of_ble_eq_true rfl)
  have l47 := h45.le
  obtain ⟨H48, S49, E50, h51, z52⟩ := S46.frzRow h45
  replace h32 := h32.ext E50
  have S53 := S49.pulls [F33, (is g2)] [1] rfl
  obtain ⟨t54, u55, M⟩ := bnd M
  refine lC 9 (e_callv (l := [.const (.int .i64 1200), .const (.int .i64 4), .tmp 8]) (vs := [.int .i64 1200, .int .i64 4, .slice (some ⟨g39, 0, none⟩) 2 2]) (cs := [.pointer (some ⟨g2, 0, none⟩)]) Try.func31 (by kernel_rfl) rfl (by kernel_rfl) (by kernel_rfl)) (impl_DefaultOps_c1.calls k w38 H48 1200 4 [([58, 45] : List UInt8), ([63, 45] : List UInt8)] (some ⟨g39, 0, none⟩) 2 t25 g2 A30 c31 F33 h51 l47 h32 b34 (St.own' (Fa := [F33, (is g2)]) (Fr := []) S53) t54 u55) ?_
  rintro _ w56 ⟨A59, c60, F62, H57, rfl, h61, b63, T58⟩
  refine ⟨_, rfl, ?_⟩
  obtain ⟨S64, K65⟩ := St.call (Fa := [F33, (is g2)]) (Fr := []) S53 T58
  have E66 := T58.ext
  refine wN (then_n (wp_seq (wR (lV 10 (eM (.func (.func 31) #[] #[.pointer (some ⟨g2, 0, none⟩)])) ?_))))
  refine lW 11 (new_blk (v := fun g_ => .slice (some ⟨g_, 0, none⟩) 1 1) (cs := #[str ([100, 121, 110, 97, 109, 105, 99] : List UInt8)]) (t := 9) S64 (by kernel_rfl)) ?_
  rintro _ w67 ⟨g68, rfl, b69, S70, K71⟩
  replace b63 := K71.blk 0 rfl b63
  replace h61 := h61.move (K71.at 1 rfl)
  have S72 := S70.unit
  have S73 := S72.pulls [(is g68), no, (is g2), F62] [1] rfl
  obtain ⟨h74, S75⟩ := row_lit (d := tStr) (xs := [([100, 121, 110, 97, 109, 105, 99] : List UInt8)]) S73 b69 rfl (elsO_one1 rfl) (Nat.le_of_ble_eq_true rfl)
  have l76 := h74.le
  obtain ⟨H77, S78, E79, h80, z81⟩ := S75.frzRow h74
  replace h61 := h61.ext E79
  have S82 := S78.pulls [F62, (is g2)] [1] rfl
  obtain ⟨t83, u84, M⟩ := bnd M
  refine lC 12 (e_callv (l := [.const (.int .i64 1150), .const (.int .i64 4), .tmp 11]) (vs := [.int .i64 1150, .int .i64 4, .slice (some ⟨g68, 0, none⟩) 1 1]) (cs := [.pointer (some ⟨g2, 0, none⟩)]) Try.func31 (by kernel_rfl) rfl (by kernel_rfl) (by kernel_rfl)) (impl_DefaultOps_c1.calls k w67 H77 1150 4 [([100, 121, 110, 97, 109, 105, 99] : List UInt8)] (some ⟨g68, 0, none⟩) 1 t54 g2 A59 c60 F62 h80 l76 h61 b63 (St.own' (Fa := [F62, (is g2)]) (Fr := []) S82) t83 u84) ?_
  rintro _ w85 ⟨A88, c89, F91, H86, rfl, h90, b92, T87⟩
  refine ⟨_, rfl, ?_⟩
  obtain ⟨S93, K94⟩ := St.call (Fa := [F62, (is g2)]) (Fr := []) S82 T87
  have E95 := T87.ext
  refine wN (then_n (wp_seq (wR (lV 13 (eM (.func (.func 31) #[] #[.pointer (some ⟨g2, 0, none⟩)])) ?_))))
  refine lW 14 (new_blk (v := fun g_ => .slice (some ⟨g_, 0, none⟩) 1 1) (cs := #[str ([59] : List UInt8)]) (t := 9) S93 (by kernel_rfl)) ?_
  rintro _ w96 ⟨g97, rfl, b98, S99, K100⟩
  replace b92 := K100.blk 0 rfl b92
  replace h90 := h90.move (K100.at 1 rfl)
  have S101 := S99.unit
  have S102 := S101.pulls [(is g97), no, (is g2), F91] [1] rfl
  obtain ⟨h103, S104⟩ := row_lit (d := tStr) (xs := [([59] : List UInt8)]) S102 b98 rfl (elsO_one1 rfl) (Nat.le_of_ble_eq_true rfl)
  have l105 := h103.le
  obtain ⟨H106, S107, E108, h109, z110⟩ := S104.frzRow h103
  replace h90 := h90.ext E108
  have S111 := S107.pulls [F91, (is g2)] [1] rfl
  obtain ⟨t112, u113, M⟩ := bnd M
  refine lC 15 (e_callv (l := [.const (.int .i64 1100), .const (.int .i64 1), .tmp 14]) (vs := [.int .i64 1100, .int .i64 1, .slice (some ⟨g97, 0, none⟩) 1 1]) (cs := [.pointer (some ⟨g2, 0, none⟩)]) Try.func31 (by kernel_rfl) rfl (by kernel_rfl) (by kernel_rfl)) (impl_DefaultOps_c1.calls k w96 H106 1100 1 [([59] : List UInt8)] (some ⟨g97, 0, none⟩) 1 t83 g2 A88 c89 F91 h109 l105 h90 b92 (St.own' (Fa := [F91, (is g2)]) (Fr := []) S111) t112 u113) ?_
  rintro _ w114 ⟨A117, c118, F120, H115, rfl, h119, b121, T116⟩
  refine ⟨_, rfl, ?_⟩
  obtain ⟨S122, K123⟩ := St.call (Fa := [F91, (is g2)]) (Fr := []) S111 T116
  have E124 := T116.ext
  refine wN (then_n (wp_seq (wR (lV 16 (eM (.func (.func 31) #[] #[.pointer (some ⟨g2, 0, none⟩)])) ?_))))
  refine lW 17 (new_blk (v := fun g_ => .slice (some ⟨g_, 0, none⟩) 1 1) (cs := #[str ([45, 62] : List UInt8)]) (t := 9) S122 (by kernel_rfl)) ?_
  rintro _ w125 ⟨g126, rfl, b127, S128, K129⟩
  replace b121 := K129.blk 0 rfl b121
  replace h119 := h119.move (K129.at 1 rfl)
  have S130 := S128.unit
  have S131 := S130.pulls [(is g126), no, (is g2), F120] [1] rfl
  obtain ⟨h132, S133⟩ := row_lit (d := tStr) (xs := [([45, 62] : List UInt8)]) S131 b127 rfl (elsO_one1 rfl) (Nat.le_of_ble_eq_true rfl)
  have l134 := h132.le
  obtain ⟨H135, S136, E137, h138, z139⟩ := S133.frzRow h132
  replace h119 := h119.ext E137
  have S140 := S136.pulls [F120, (is g2)] [1] rfl
  obtain ⟨t141, u142, M⟩ := bnd M
  refine lC 18 (e_callv (l := [.const (.int .i64 1050), .const (.int .i64 1), .tmp 17]) (vs := [.int .i64 1050, .int .i64 1, .slice (some ⟨g126, 0, none⟩) 1 1]) (cs := [.pointer (some ⟨g2, 0, none⟩)]) Try.func31 (by kernel_rfl) rfl (by kernel_rfl) (by kernel_rfl)) (impl_DefaultOps_c1.calls k w125 H135 1050 1 [([45, 62] : List UInt8)] (some ⟨g126, 0, none⟩) 1 t112 g2 A117 c118 F120 h138 l134 h119 b121 (St.own' (Fa := [F120, (is g2)]) (Fr := []) S140) t141 u142) ?_
  rintro _ w143 ⟨A146, c147, F149, H144, rfl, h148, b150, T145⟩
  refine ⟨_, rfl, ?_⟩
  obtain ⟨S151, K152⟩ := St.call (Fa := [F120, (is g2)]) (Fr := []) S140 T145
  have E153 := T145.ext
  refine wN (then_n (wp_seq (wR (lV 19 (eM (.func (.func 31) #[] #[.pointer (some ⟨g2, 0, none⟩)])) ?_))))
  refine lW 20 (new_blk (v := fun g_ => .slice (some ⟨g_, 0, none⟩) 1 1) (cs := #[str ([44] : List UInt8)]) (t := 9) S151 (by kernel_rfl)) ?_
  rintro _ w154 ⟨g155, rfl, b156, S157, K158⟩
  replace b150 := K158.blk 0 rfl b150
  replace h148 := h148.move (K158.at 1 rfl)
  have S159 := S157.unit
  have S160 := S159.pulls [(is g155), no, (is g2), F149] [1] rfl
  obtain ⟨h161, S162⟩ := row_lit (d := tStr) (xs := [([44] : List UInt8)]) S160 b156 rfl (elsO_one1 rfl) (Nat.le_of_ble_eq_true rfl)
  have l163 := h161.le
  obtain ⟨H164, S165, E166, h167, z168⟩ := S162.frzRow h161
  replace h148 := h148.ext E166
  have S169 := S165.pulls [F149, (is g2)] [1] rfl
  obtain ⟨t170, u171, M⟩ := bnd M
  refine lC 21 (e_callv (l := [.const (.int .i64 1000), .const (.int .i64 1), .tmp 20]) (vs := [.int .i64 1000, .int .i64 1, .slice (some ⟨g155, 0, none⟩) 1 1]) (cs := [.pointer (some ⟨g2, 0, none⟩)]) Try.func31 (by kernel_rfl) rfl (by kernel_rfl) (by kernel_rfl)) (impl_DefaultOps_c1.calls k w154 H164 1000 1 [([44] : List UInt8)] (some ⟨g155, 0, none⟩) 1 t141 g2 A146 c147 F149 h167 l163 h148 b150 (St.own' (Fa := [F149, (is g2)]) (Fr := []) S169) t170 u171) ?_
  rintro _ w172 ⟨A175, c176, F178, H173, rfl, h177, b179, T174⟩
  refine ⟨_, rfl, ?_⟩
  obtain ⟨S180, K181⟩ := St.call (Fa := [F149, (is g2)]) (Fr := []) S169 T174
  have E182 := T174.ext
  refine wN (then_n (wp_seq (wR (lV 22 (eM (.func (.func 31) #[] #[.pointer (some ⟨g2, 0, none⟩)])) ?_))))
  refine lW 23 (new_blk (v := fun g_ => .slice (some ⟨g_, 0, none⟩) 1 1) (cs := #[str ([92, 43] : List UInt8)]) (t := 9) S180 (by kernel_rfl)) ?_
  rintro _ w183 ⟨g184, rfl, b185, S186, K187⟩
  replace b179 := K187.blk 0 rfl b179
  replace h177 := h177.move (K187.at 1 rfl)
  have S188 := S186.unit
  have S189 := S188.pulls [(is g184), no, (is g2), F178] [1] rfl
  obtain ⟨h190, S191⟩ := row_lit (d := tStr) (xs := [([92, 43] : List UInt8)]) S189 b185 rfl (elsO_one1 rfl) (Nat.le_of_ble_eq_true rfl)
  have l192 := h190.le
  obtain ⟨H193, S194, E195, h196, z197⟩ := S191.frzRow h190
  replace h177 := h177.ext E195
  have S198 := S194.pulls [F178, (is g2)] [1] rfl
  obtain ⟨t199, u200, M⟩ := bnd M
  refine lC 24 (e_callv (l := [.const (.int .i64 900), .const (.int .i64 3), .tmp 23]) (vs := [.int .i64 900, .int .i64 3, .slice (some ⟨g184, 0, none⟩) 1 1]) (cs := [.pointer (some ⟨g2, 0, none⟩)]) Try.func31 (by kernel_rfl) rfl (by kernel_rfl) (by kernel_rfl)) (impl_DefaultOps_c1.calls k w183 H193 900 3 [([92, 43] : List UInt8)] (some ⟨g184, 0, none⟩) 1 t170 g2 A175 c176 F178 h196 l192 h177 b179 (St.own' (Fa := [F178, (is g2)]) (Fr := []) S198) t199 u200) ?_
  rintro _ w201 ⟨A204, c205, F207, H202, rfl, h206, b208, T203⟩
  refine ⟨_, rfl, ?_⟩
  obtain ⟨S209, K210⟩ := St.call (Fa := [F178, (is g2)]) (Fr := []) S198 T203
  have E211 := T203.ext
  refine wN (then_n (wp_seq (wR (lV 25 (eM (.func (.func 31) #[] #[.pointer (some ⟨g2, 0, none⟩)])) ?_))))
  refine lW 26 (new_blk (v := fun g_ => .slice (some ⟨g_, 0, none⟩) 16 16) (cs := #[str ([61] : List UInt8), str ([92, 61] : List UInt8), str ([61, 61] : List UInt8), str ([92, 61, 61] : List UInt8), str ([64, 60] : List UInt8), str ([64, 61, 60] : List UInt8), str ([64, 62] : List UInt8), str ([64, 62, 61] : List UInt8), str ([61, 46, 46] : List UInt8), str ([105, 115] : List UInt8), str ([61, 58, 61] : List UInt8), str ([61, 92, 61] : List UInt8), str ([60] : List UInt8), str ([61, 60] : List UInt8), str ([62] : List UInt8), str ([62, 61] : List UInt8)]) (t := 9) S209 (by kernel_rfl)) ?_
  rintro _ w212 ⟨g213, rfl, b214, S215, K216⟩
  replace b208 := K216.blk 0 rfl b208
  replace h206 := h206.move (K216.at 1 rfl)
  have S217 := S215.unit
  have S218 := S217.pulls [(is g213), no, (is g2), F207] [1] rfl
  obtain ⟨h219, S220⟩ := row_lit (d := tStr) (xs := [([61] : List UInt8), ([92, 61] : List UInt8), ([61, 61] : List UInt8), ([92, 61, 61] : List UInt8), ([64, 60] : List UInt8), ([64, 61, 60] : List UInt8), ([64, 62] : List UInt8), ([64, 62, 61] : List UInt8), ([61, 46, 46] : List UInt8), ([105, 115] : List UInt8), ([61, 58, 61] : List UInt8), ([61, 92, 61] : List UInt8), ([60] : List UInt8), ([61, 60] : List UInt8), ([62] : List UInt8), ([62, 61] : List UInt8)]) S218 b214 rfl (elsO_no (d := tStr) rfl (elsO_no (d := tStr) rfl (elsO_no (d := tStr) rfl (elsO_no (d := tStr) rfl (elsO_no (d := tStr) rfl (elsO_no (d := tStr) rfl (elsO_no (d := tStr) rfl (elsO_no (d := tStr) rfl (elsO_no (d := tStr) rfl (elsO_no (d := tStr) rfl (elsO_no (d := tStr) rfl (elsO_no (d := tStr) rfl (elsO_no (d := tStr) rfl (elsO_no (d := tStr) rfl (elsO_no (d := tStr) rfl (elsO_no (d := tStr) rfl (elsO_nil _ _ _ no))))))))))))))))) (Nat.le_of_ble_eq_true rfl)
  have l221 := h219.le
  obtain ⟨H222, S223, E224, h225, z226⟩ := S220.frzRow h219
  replace h206 := h206.ext E224
  have S227 := S223.pulls [F207, (is g2)] [1] rfl
  obtain ⟨t228, u229, M⟩ := bnd M
  refine lC 27 (e_callv (l := [.const (.int .i64 700), .const (.int .i64 0), .tmp 26]) (vs := [.int .i64 700, .int .i64 0, .slice (some ⟨g213, 0, none⟩) 16 16]) (cs := [.pointer (some ⟨g2, 0, none⟩)]) Try.func31 (by kernel_rfl) rfl (by kernel_rfl) (by kernel_rfl)) (impl_DefaultOps_c1.calls k w212 H222 700 0 [([61] : List UInt8), ([92, 61] : List UInt8), ([61, 61] : List UInt8), ([92, 61, 61] : List UInt8), ([64, 60] : List UInt8), ([64, 61, 60] : List UInt8), ([64, 62] : List UInt8), ([64, 62, 61] : List UInt8), ([61, 46, 46] : List UInt8), ([105, 115] : List UInt8), ([61, 58, 61] : List UInt8), ([61, 92, 61] : List UInt8), ([60] : List UInt8), ([61, 60] : List UInt8), ([62] : List UInt8), ([62, 61] : List UInt8)] (some ⟨g213, 0, none⟩) 16 t199 g2 A204 c205 F207 h225 l221 h206 b208 (St.own' (Fa := [F207, (is g2)]) (Fr := []) S227) t228 u229) ?_
  rintro _ w230 ⟨A233, c234, F236, H231, rfl, h235, b237, T232⟩
  refine ⟨_, rfl, ?_⟩
  obtain ⟨S238, K239⟩ := St.call (Fa := [F207, (is g2)]) (Fr := []) S227 T232
  have E240 := T232.ext
  refine wN (then_n (wp_seq (wR (lV 28 (eM (.func (.func 31) #[] #[.pointer (some ⟨g2, 0, none⟩)])) ?_))))
  refine lW 29 (new_blk (v := fun g_ => .slice (some ⟨g_, 0, none⟩) 5 5) (cs := #[str ([43] : List UInt8), str ([45] : List UInt8), str ([47, 92] : List UInt8), str ([92, 47] : List UInt8), str ([120, 111, 114] : List UInt8)]) (t := 9) S238 (by kernel_rfl)) ?_
  rintro _ w241 ⟨g242, rfl, b243, S244, K245⟩
  replace b237 := K245.blk 0 rfl b237
  replace h235 := h235.move (K245.at 1 rfl)
  have S246 := S244.unit
  have S247 := S246.pulls [(is g242), no, (is g2), F236] [1] rfl
  obtain ⟨h248, S249⟩ := row_lit (d := tStr) (xs := [([43] : List UInt8), ([45] : List UInt8), ([47, 92] : List UInt8), ([92, 47] : List UInt8), ([120, 111, 114] : List UInt8)]) S247 b243 rfl (elsO_no (d := tStr) rfl (elsO_no (d := tStr) rfl (elsO_no (d := tStr) rfl (elsO_no (d := tStr) rfl (elsO_no (d := tStr) rfl (elsO_nil _ _ _ no)))))) (Nat.le_of_ble_eq_true rfl)
  have l250 := h248.le
  obtain ⟨H251, S252, E253, h254, z255⟩ := S249.frzRow h248
  replace h235 := h235.ext E253
  have S256 := S252.pulls [F236, (is g2)] [1] rfl
  obtain ⟨t257, u258, M⟩ := bnd M
  refine lC 30 (e_callv (l := [.const (.int .i64 500), .const (.int .i64 2), .tmp 29]) (vs := [.int .i64 500, .int .i64 2, .slice (some ⟨g242, 0, none⟩) 5 5]) (cs := [.pointer (some ⟨g2, 0, none⟩)]) Try.func31 (by kernel_rfl) rfl (by kernel_rfl) (by kernel_rfl)) (impl_DefaultOps_c1.calls k w241 H251 500 2 [([43] : List UInt8), ([45] : List UInt8), ([47, 92] : List UInt8), ([92, 47] : List UInt8), ([120, 111, 114] : List UInt8)] (some ⟨g242, 0, none⟩) 5 t228 g2 A233 c234 F236 h254 l250 h235 b237 (St.own' (Fa := [F236, (is g2)]) (Fr := []) S256) t257 u258) ?_
  rintro _ w259 ⟨A262, c263, F265, H260, rfl, h264, b266, T261⟩
  refine ⟨_, rfl, ?_⟩
  obtain ⟨S267, K268⟩ := St.call (Fa := [F236, (is g2)]) (Fr := []) S256 T261
  have E269 := T261.ext
  refine wN (then_n (wp_seq (wR (lV 31 (eM (.func (.func 31) #[] #[.pointer (some ⟨g2, 0, none⟩)])) ?_))))
  refine lW 32 (new_blk (v := fun g_ => .slice (some ⟨g_, 0, none⟩) 7 7) (cs := #[str ([42] : List UInt8), str ([47] : List UInt8), str ([47, 47] : List UInt8), str ([109, 111, 100] : List UInt8), str ([114, 101, 109] : List UInt8), str ([60, 60] : List UInt8), str ([62, 62] : List UInt8)]) (t := 9) S267 (by kernel_rfl)) ?_
  rintro _ w270 ⟨g271, rfl, b272, S273, K274⟩
  replace b266 := K274.blk 0 rfl b266
  replace h264 := h264.move (K274.at 1 rfl)
  have S275 := S273.unit
  have S276 := S275.pulls [(is g271), no, (is g2), F265] [1] rfl
  obtain ⟨h277, S278⟩ := row_lit (d := tStr) (xs := [([42] : List UInt8), ([47] : List UInt8), ([47, 47] : List UInt8), ([109, 111, 100] : List UInt8), ([114, 101, 109] : List UInt8), ([60, 60] : List UInt8), ([62, 62] : List UInt8)]) S276 b272 rfl (elsO_no (d := tStr) rfl (elsO_no (d := tStr) rfl (elsO_no (d := tStr) rfl (elsO_no (d := tStr) rfl (elsO_no (d := tStr) rfl (elsO_no (d := tStr) rfl (elsO_no (d := tStr) rfl (elsO_nil _ _ _ no)))))))) (Nat.le_of_ble_eq_true rfl)
  have l279 := h277.le
  obtain ⟨H280, S281, E282, h283, z284⟩ := S278.frzRow h277
  replace h264 := h264.ext E282
  have S285 := S281.pulls [F265, (is g2)] [1] rfl
  obtain ⟨t286, u287, M⟩ := bnd M
  refine lC 33 (e_callv (l := [.const (.int .i64 400), .const (.int .i64 2), .tmp 32]) (vs := [.int .i64 400, .int .i64 2, .slice (some ⟨g271, 0, none⟩) 7 7]) (cs := [.pointer (some ⟨g2, 0, none⟩)]) Try.func31 (by kernel_rfl) rfl (by kernel_rfl) (by kernel_rfl)) (impl_DefaultOps_c1.calls k w270 H280 400 2 [([42] : List UInt8), ([47] : List UInt8), ([47, 47] : List UInt8), ([109, 111, 100] : List UInt8), ([114, 101, 109] : List UInt8), ([60, 60] : List UInt8), ([62, 62] : List UInt8)] (some ⟨g271, 0, none⟩) 7 t257 g2 A262 c263 F265 h283 l279 h264 b266 (St.own' (Fa := [F265, (is g2)]) (Fr := []) S285) t286 u287) ?_
  rintro _ w288 ⟨A291, c292, F294, H289, rfl, h293, b295, T290⟩
  refine ⟨_, rfl, ?_⟩
  obtain ⟨S296, K297⟩ := St.call (Fa := [F265, (is g2)]) (Fr := []) S285 T290
  have E298 := T290.ext
  refine wN (then_n (wp_seq (wR (lV 34 (eM (.func (.func 31) #[] #[.pointer (some ⟨g2, 0, none⟩)])) ?_))))
  refine lW 35 (new_blk (v := fun g_ => .slice (some ⟨g_, 0, none⟩) 1 1) (cs := #[str ([42, 42] : List UInt8)]) (t := 9) S296 (by kernel_rfl)) ?_
  rintro _ w299 ⟨g300, rfl, b301, S302, K303⟩
  replace b295 := K303.blk 0 rfl b295
  replace h293 := h293.move (K303.at 1 rfl)
  have S304 := S302.unit
  have S305 := S304.pulls [(is g300), no, (is g2), F294] [1] rfl
  obtain ⟨h306, S307⟩ := row_lit (d := tStr) (xs := [([42, 42] : List UInt8)]) S305 b301 rfl (elsO_one1 rfl) (Nat.le_of_ble_eq_true rfl)
  have l308 := h306.le
  obtain ⟨H309, S310, E311, h312, z313⟩ := S307.frzRow h306
  replace h293 := h293.ext E311
  have S314 := S310.pulls [F294, (is g2)] [1] rfl
  obtain ⟨t315, u316, M⟩ := bnd M
  refine lC 36 (e_callv (l := [.const (.int .i64 200), .const (.int .i64 0), .tmp 35]) (vs := [.int .i64 200, .int .i64 0, .slice (some ⟨g300, 0, none⟩) 1 1]) (cs := [.pointer (some ⟨g2, 0, none⟩)]) Try.func31 (by kernel_rfl) rfl (by kernel_rfl) (by kernel_rfl)) (impl_DefaultOps_c1.calls k w299 H309 200 0 [([42, 42] : List UInt8)] (some ⟨g300, 0, none⟩) 1 t286 g2 A291 c292 F294 h312 l308 h293 b295 (St.own' (Fa := [F294, (is g2)]) (Fr := []) S314) t315 u316) ?_
  rintro _ w317 ⟨A320, c321, F323, H318, rfl, h322, b324, T319⟩
  refine ⟨_, rfl, ?_⟩
  obtain ⟨S325, K326⟩ := St.call (Fa := [F294, (is g2)]) (Fr := []) S314 T319
  have E327 := T319.ext
  refine wN (then_n (wp_seq (wR (lV 37 (eM (.func (.func 31) #[] #[.pointer (some ⟨g2, 0, none⟩)])) ?_))))
  refine lW 38 (new_blk (v := fun g_ => .slice (some ⟨g_, 0, none⟩) 1 1) (cs := #[str ([94] : List UInt8)]) (t := 9) S325 (by kernel_rfl)) ?_
  rintro _ w328 ⟨g329, rfl, b330, S331, K332⟩
  replace b324 := K332.blk 0 rfl b324
  replace h322 := h322.move (K332.at 1 rfl)
  have S333 := S331.unit
  have S334 := S333.pulls [(is g329), no, (is g2), F323] [1] rfl
  obtain ⟨h335, S336⟩ := row_lit (d := tStr) (xs := [([94] : List UInt8)]) S334 b330 rfl (elsO_one1 rfl) (Nat.le_of_ble_eq_true rfl)
  have l337 := h335.le
  obtain ⟨H338, S339, E340, h341, z342⟩ := S336.frzRow h335
  replace h322 := h322.ext E340
  have S343 := S339.pulls [F323, (is g2)] [1] rfl
  obtain ⟨t344, u345, M⟩ := bnd M
  refine lC 39 (e_callv (l := [.const (.int .i64 200), .const (.int .i64 1), .tmp 38]) (vs := [.int .i64 200, .int .i64 1, .slice (some ⟨g329, 0, none⟩) 1 1]) (cs := [.pointer (some ⟨g2, 0, none⟩)]) Try.func31 (by kernel_rfl) rfl (by kernel_rfl) (by kernel_rfl)) (impl_DefaultOps_c1.calls k w328 H338 200 1 [([94] : List UInt8)] (some ⟨g329, 0, none⟩) 1 t315 g2 A320 c321 F323 h341 l337 h322 b324 (St.own' (Fa := [F323, (is g2)]) (Fr := []) S343) t344 u345) ?_
  rintro _ w346 ⟨A349, c350, F352, H347, rfl, h351, b353, T348⟩
  refine ⟨_, rfl, ?_⟩
  obtain ⟨S354, K355⟩ := St.call (Fa := [F323, (is g2)]) (Fr := []) S343 T348
  have E356 := T348.ext
  refine wN (then_n (wp_seq (wR (lV 40 (eM (.func (.func 31) #[] #[.pointer (some ⟨g2, 0, none⟩)])) ?_))))
  refine lW 41 (new_blk (v := fun g_ => .slice (some ⟨g_, 0, none⟩) 3 3) (cs := #[str ([45] : List UInt8), str ([43] : List UInt8), str ([92] : List UInt8)]) (t := 9) S354 (by kernel_rfl)) ?_
  rintro _ w357 ⟨g358, rfl, b359, S360, K361⟩
  replace b353 := K361.blk 0 rfl b353
  replace h351 := h351.move (K361.at 1 rfl)
  have S362 := S360.unit
  have S363 := S362.pulls [(is g358), no, (is g2), F352] [1] rfl
  obtain ⟨h364, S365⟩ := row_lit (d := tStr) (xs := [([45] : List UInt8), ([43] : List UInt8), ([92] : List UInt8)]) S363 b359 rfl (elsO_no (d := tStr) rfl (elsO_no (d := tStr) rfl (elsO_no (d := tStr) rfl (elsO_nil _ _ _ no)))) (Nat.le_of_ble_eq_true rfl)
  have l366 := h364.le
  obtain ⟨H367, S368, E369, h370, z371⟩ := S365.frzRow h364
  replace h351 := h351.ext E369
  have S372 := S368.pulls [F352, (is g2)] [1] rfl
  obtain ⟨t373, u374, M⟩ := bnd M
  refine lC 42 (e_callv (l := [.const (.int .i64 200), .const (.int .i64 3), .tmp 41]) (vs := [.int .i64 200, .int .i64 3, .slice (some ⟨g358, 0, none⟩) 3 3]) (cs := [.pointer (some ⟨g2, 0, none⟩)]) Try.func31 (by kernel_rfl) rfl (by kernel_rfl) (by kernel_rfl)) (impl_DefaultOps_c1.calls k w357 H367 200 3 [([45] : List UInt8), ([43] : List UInt8), ([92] : List UInt8)] (some ⟨g358, 0, none⟩) 3 t344 g2 A349 c350 F352 h370 l366 h351 b353 (St.own' (Fa := [F352, (is g2)]) (Fr := []) S372) t373 u374) ?_
  rintro _ w375 ⟨A378, c379, F381, H376, rfl, h380, b382, T377⟩
  refine ⟨_, rfl, ?_⟩
  obtain ⟨S383, K384⟩ := St.call (Fa := [F352, (is g2)]) (Fr := []) S372 T377
  have E385 := T377.ext
  refine wN (then_n (wp_seq (wR (lV 43 (eL ⟨g2, 0, none⟩ (.slice A378 t373.length c379) Try.underlying25 (blk_cell b382 rfl)) ?_))))
  have S386 := S383.pulls [F381, (is g2)] [1] rfl
  obtain ⟨t387, u388, M⟩ := bnd M
  refine lC 44 (eC [.tmp 43] [.slice A378 t373.length c379] Try.func32) (impl_sortOps.calls k w375 H376 t373 A378 c379 F381 h380 (St.own' (Fa := [F381]) (Fr := [(is g2)]) S386) t387 u388) ?_
  rintro _ w389 ⟨F393, H390, rfl, n394, h392, T391⟩
  refine ⟨_, rfl, ?_⟩
  obtain ⟨S395, K396⟩ := St.call (Fa := [F381]) (Fr := [(is g2)]) S386 T391
  replace b382 := K396.blk 0 rfl b382
  have E397 := T391.ext
  refine wN (then_n (wp_seq (wR (lV 45 (eL ⟨g2, 0, none⟩ (.slice A378 t373.length c379) Try.underlying25 (blk_cell b382 rfl)) (lV 0 (eA (.slice A378 t373.length c379)) (wN (then_n ?_)))))))
  refine wp_ret ?_
  obtain rfl := Option.some.inj M
  have S398 := St.first (Fa := [F393]) (Fr := [(is g2)]) S395
  exact ret1 rfl rfl  (show _ = .slice A378 t373.length c379 from (by kernel_rfl)) ⟨A378, c379, F393, H390, (by rw [(show t387.length = t373.length from n394)]), h392, S398⟩
end Go.Proofs.Ytminnekeekhjcaa
