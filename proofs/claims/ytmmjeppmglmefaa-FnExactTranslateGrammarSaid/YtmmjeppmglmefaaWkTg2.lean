import Derived.Test.YtmmjeppmglmefaaWkTg1
namespace Go.Proofs.Ytmmjeppmglmefaa
open Go.Sx Go.Sy
attribute [local irreducible] Go.wpList Go.wpStill Go.wpQuiet Go.Code.wp
set_option maxRecDepth 100000
set_option maxHeartbeats 1000000
set_option linter.unusedVariables false
set_option linter.unusedSimpArgs false

/-! spec_l8phrase -/
def spec_l8phrase.f : Nat → GL8gram → (List Cell) → (List Cell) → (List Cell) → Option ((List Cell) × GL8gram)
  | 0, _, _, _, _ => none
  | k1_ + 1, x1, x4, x9, x14 => (if 0 < (x4.length : Int) then (if ((x4.getD 0 z36).kind) = 0 then ((spec_l2comp.f k1_ ([112, 104, 114, 97, 115, 101] : List UInt8) [x4, x9, x14]).bind fun t46 => some (t46, x1)) else (if ((x4.getD 0 z36).kind) = 1 then ((spec_l8fault.f x1 4).bind fun t70 => some (t70.1, t70.2)) else ((spec_l2args.f k1_ x4).bind fun t83 => ((spec_l2is.f x4 ([44] : List UInt8) 2).bind fun t95 => (if t95 = true then ((spec_l8new.f x1).bind fun t103 => (if 0 < (t83.length : Int) then ((spec_l8phrase.f k1_ t103.2 (t83.getD 0 ([] : List Cell)) x9 t103.1).bind fun t136 => (if 1 < (t83.length : Int) then ((spec_l8phrase.f k1_ t136.2 (t83.getD 1 ([] : List Cell)) t103.1 x14).bind fun t202 => ((spec_l2pair.f k1_ ((x4.getD 0 z36).text) t136.1 t202.1).bind fun t231 => some (t231, t202.2))) else none)) else none)) else ((spec_l2is.f x4 ([45, 62] : List UInt8) 2).bind fun t249 => (if t249 = true then ((spec_l8new.f x1).bind fun t257 => (if 0 < (t83.length : Int) then ((spec_l8phrase.f k1_ t257.2 (t83.getD 0 ([] : List Cell)) x9 t257.1).bind fun t290 => (if 1 < (t83.length : Int) then ((spec_l8phrase.f k1_ t290.2 (t83.getD 1 ([] : List Cell)) t257.1 x14).bind fun t356 => ((spec_l2pair.f k1_ ((x4.getD 0 z36).text) t290.1 t356.1).bind fun t385 => some (t385, t356.2))) else none)) else none)) else ((spec_l2is.f x4 ([59] : List UInt8) 2).bind fun t403 => (if t403 = true then (if 0 < (t83.length : Int) then ((spec_l8phrase.f k1_ x1 (t83.getD 0 ([] : List Cell)) x9 x14).bind fun t424 => (if 1 < (t83.length : Int) then ((spec_l8phrase.f k1_ t424.2 (t83.getD 1 ([] : List Cell)) x9 x14).bind fun t450 => ((spec_l2pair.f k1_ ([59] : List UInt8) t424.1 t450.1).bind fun t477 => some (t477, t450.2))) else none)) else none) else ((spec_l2pair.f k1_ ([61] : List UInt8) x9 x14).bind fun t491 => ((spec_l2is.f x4 ([92, 43] : List UInt8) 1).bind fun t503 => (if t503 = true then ((spec_l8new.f x1).bind fun t511 => (if 0 < (t83.length : Int) then ((spec_l8phrase.f k1_ t511.2 (t83.getD 0 ([] : List Cell)) x9 t511.1).bind fun t544 => ((spec_l2comp.f k1_ ([92, 43] : List UInt8) [t544.1]).bind fun t572 => ((spec_l2pair.f k1_ ([44] : List UInt8) t572 t491).bind fun t597 => some (t597, t544.2)))) else none)) else ((spec_l2is.f x4 ([33] : List UInt8) 0).bind fun t611 => (if t611 = true then ((spec_l2pair.f k1_ ([44] : List UInt8) x4 t491).bind fun t624 => some (t624, x1)) else ((spec_l2is.f x4 ([123, 125] : List UInt8) 1).bind fun t638 => (if t638 = true then (if 0 < (t83.length : Int) then ((spec_l2pair.f k1_ ([44] : List UInt8) (t83.getD 0 ([] : List Cell)) t491).bind fun t664 => some (t664, x1)) else none) else ((spec_l2is.f x4 ([91, 93] : List UInt8) 0).bind fun t678 => (if t678 = true then ((spec_l8terminals.f k1_ x1 x4 x9 x14).bind fun t686 => some (t686.1, t686.2)) else ((spec_l2is.f x4 ([46] : List UInt8) 2).bind fun t702 => (if t702 = true then ((spec_l8terminals.f k1_ x1 x4 x9 x14).bind fun t710 => some (t710.1, t710.2)) else ((spec_l8more.f k1_ x1 x4 x9 x14).bind fun t727 => some (t727.1, t727.2)))))))))))))))))))))) else none)
theorem spec_l8phrase.all : ∀ (K : Nat), (∀ (k : Nat), k < K → ∀ (w : World) (H : Hp) (x1 : GL8gram) (g2 : Nat) (x4 : List Cell) (A5 : Option Addr) (c6 : Nat) (x9 : List Cell) (A10 : Option Addr) (c11 : Nat) (x14 : List Cell) (A15 : Option Addr) (c16 : Nat) (b3 : w.heap[g2]? = some (.cells #[.int .i64 x1.next_, .int .i64 x1.code_] 49 (0, 0))) (h7 : Rd st36 H A5 x4) (l8 : x4.length ≤ c6) (h12 : Rd st36 H A10 x9) (l13 : x9.length ≤ c11) (h17 : Rd st36 H A15 x14) (l18 : x14.length ≤ c16) (S : Own [(is g2)] H w) (r : (List Cell) × GL8gram) (M : spec_l8phrase.f k x1 x4 x9 x14 = some r), Calls Try.prog 30 #[.pointer (some ⟨g2, 0, none⟩), .slice A5 x4.length c6, .slice A10 x9.length c11, .slice A15 x14.length c16] w (fun e e_w => ∃ (A_1 : Option Addr) (c_1 : Nat) (F_1 : Foot) (H_ : Hp), e = .returned (.slice A_1 r.1.length c_1) ∧ e_w.heap[g2]? = some (.cells #[.int .i64 r.2.next_, .int .i64 r.2.code_] 49 (0, 0)) ∧ Row st36 36 H_ (hp e_w) F_1 A_1 c_1 r.1 ∧ St (anyOf [(is g2)]) H w [(is g2), F_1] H_ e_w)) := by
  intro K
  induction K with
  | zero => intro k hk; omega
  | succ K ih =>
    intro k hk w H x1 g2 x4 A5 c6 x9 A10 c11 x14 A15 c16 b3 h7 l8 h12 l13 h17 l18 S r M
    rcases k with _ | k1_
    · rw [spec_l8phrase.f] at M
      cases M
    rw [spec_l8phrase.f] at M
    refine enter (l := [.pointer (some ⟨g2, 0, none⟩), .slice A5 x4.length c6, .slice A10 x9.length c11, .slice A15 x14.length c16]) 127 Try.func30 rfl rfl rfl ?_
    have S0_ := S.st
    refine wp_seq ?_
    refine wp_region_lit ?_
    refine lv (d := 8) rfl rfl (by kernel_rfl) (e_assign (v := .slice none 0 0) rfl) ?_
    refine wpList_nil ?_
    refine then_n ?_
    refine wp_seq ?_
    refine wp_seq ?_
    refine wp_region_lit ?_
    refine lv (d := 15) rfl rfl (by kernel_rfl) (e_move (v := .slice A5 x4.length c6) (by kernel_rfl)) ?_
    obtain ⟨q19, M⟩ := chk M
    obtain ⟨b20, o21, e22⟩ := Rd.addr h7 (show 0 < x4.length by omega)
    obtain ⟨y23, r24, k25⟩ := Rd.at h7 e22 (getD_some z36 (show 0 < x4.length by omega))
    obtain ⟨A26, c27, rfl, l28, h29⟩ := st36_open r24
    refine lv (d := 16) rfl rfl (by kernel_rfl) (e_indexAddr (b := b20) (off := o21) (n := x4.length) (c := c6) (sz := 3) (i := 0) (k := .i64) Try.underlying24 e22 (by kernel_rfl) (by kernel_rfl) rfl (by omega) q19) ?_
    refine lv (d := 17) rfl rfl (by kernel_rfl) (e_fieldAddr (b := b20) (off := o21 + (0 : Int).toNat * 3) (o := 0) Try.underlying36 rfl rfl (sz := 1) (by kernel_rfl) (by decide) (by kernel_rfl)) ?_
    refine lv (d := 18) rfl rfl (by kernel_rfl) (e_load1 (ad := ⟨b20, o21 + (0 : Int).toNat * 3 + 0, none⟩) (v := .int .i64 ((x4.getD 0 z36).kind)) Try.underlying3 rfl (by kernel_rfl) (hpx (S0_.inv.cell (k25 0 _ rfl)))) ?_
    refine lv (d := 19) rfl rfl (by kernel_rfl) (e_eql (k := .i64) (a := (x4.getD 0 z36).kind) (b := 0) (by kernel_rfl) rfl) ?_
    refine wpList_nil ?_
    refine then_n ?_
    by_cases q30 : ((x4.getD 0 z36).kind) = 0
    · replace M := ifp q30 M
      refine cond_t rfl (bt q30 (by kernel_rfl)) ?_
      refine wp_seq ?_
      refine wp_region_lit ?_
      refine lv (d := 20) rfl rfl (by kernel_rfl) (e_move (v := .slice A5 x4.length c6) (by kernel_rfl)) ?_
      refine lv (d := 21) rfl rfl (by kernel_rfl) (e_move (v := .slice A10 x9.length c11) (by kernel_rfl)) ?_
      refine lv (d := 22) rfl rfl (by kernel_rfl) (e_move (v := .slice A15 x14.length c16) (by kernel_rfl)) ?_
      refine lve (d := 23) rfl rfl (by kernel_rfl) (new_blk (v := fun g_ => .slice (some ⟨g_, 0, none⟩) 3 3) (cs := #[.slice A5 x4.length c6, .slice A10 x9.length c11, .slice A15 x14.length c16]) (t := 24) S0_ (by kernel_rfl)) ?_
      rintro _ w31 ⟨g32, rfl, b33, S34, K35⟩
      replace b3 := K35.blk 0 rfl b3
      have S36 := S34.unit
      have S37 := S36.pull (F := (is g32)) (Fr := [no, (is g2)]) 1 rfl rfl
      obtain ⟨h38, S39⟩ := row_lit (d := (ro sl36)) (xs := [x4, x9, x14]) S37 b33 rfl (elsO_no (d := (ro sl36)) ⟨A5, c6, rfl, l8, h7⟩ (elsO_no (d := (ro sl36)) ⟨A10, c11, rfl, l13, h12⟩ (elsO_no (d := (ro sl36)) ⟨A15, c16, rfl, l18, h17⟩ (elsO_nil _ _ _ no)))) (Nat.le_of_ble_eq_true rfl)
      have l40 := h38.le
      obtain ⟨H41, S42, E43, h44, z45⟩ := S39.frzRow h38
      replace h44 := h44.unro
      obtain ⟨t46, u47, M⟩ := bnd M
      refine lcall (d := 24) rfl rfl (by kernel_rfl) (e_call (l := [.const (str ([112, 104, 114, 97, 115, 101] : List UInt8)), .tmp 23]) (vs := [str ([112, 104, 114, 97, 115, 101] : List UInt8), .slice (some ⟨g32, 0, none⟩) 3 3]) Try.func37 (by kernel_rfl) rfl (by kernel_rfl) rfl) (spec_l2comp.calls k1_ w31 H41 ([112, 104, 114, 97, 115, 101] : List UInt8) [x4, x9, x14] (some ⟨g32, 0, none⟩) 3 h44 l40 (St.own' (Fa := []) (Fr := [(is g2)]) S42) t46 u47) ?_
      rintro _ w48 ⟨A51, c52, F54, H49, rfl, h53, T50⟩
      refine ⟨_, rfl, ?_⟩
      obtain ⟨S55, K56⟩ := St.call (Fa := []) (Fr := [(is g2)]) S42 T50
      replace b3 := K56.blk 0 rfl b3
      have E57 := T50.ext
      refine lv (d := 8) rfl rfl (by kernel_rfl) (e_assign (v := .slice A51 t46.length c52) (by kernel_rfl)) ?_
      refine wpList_nil ?_
      refine then_n ?_
      refine wp_ret ?_
      refine then_r ?_
      obtain rfl := Option.some.inj M
      have S58 := S55.pull (F := (is g2)) (Fr := [F54]) 1 rfl rfl
      exact ret1 rfl rfl  (show _ = .slice A51 t46.length c52 from (by kernel_rfl)) ⟨A51, c52, F54, H49, rfl, b3, h53, S58⟩
    replace M := ifn q30 M
    refine cond_f rfl (bf q30 (by kernel_rfl)) ?_
    refine wp_skip ?_
    refine then_n ?_
    refine wp_seq ?_
    refine wp_seq ?_
    refine wp_region_lit ?_
    refine lv (d := 25) rfl rfl (by kernel_rfl) (e_move (v := .slice A5 x4.length c6) (by kernel_rfl)) ?_
    obtain ⟨b59, o60, e61⟩ := Rd.addr h7 (show 0 < x4.length by omega)
    obtain ⟨y62, r63, k64⟩ := Rd.at h7 e61 (getD_some z36 (show 0 < x4.length by omega))
    obtain ⟨A65, c66, rfl, l67, h68⟩ := st36_open r63
    refine lv (d := 26) rfl rfl (by kernel_rfl) (e_indexAddr (b := b59) (off := o60) (n := x4.length) (c := c6) (sz := 3) (i := 0) (k := .i64) Try.underlying24 e61 (by kernel_rfl) (by kernel_rfl) rfl (by omega) q19) ?_
    refine lv (d := 27) rfl rfl (by kernel_rfl) (e_fieldAddr (b := b59) (off := o60 + (0 : Int).toNat * 3) (o := 0) Try.underlying36 rfl rfl (sz := 1) (by kernel_rfl) (by decide) (by kernel_rfl)) ?_
    refine lv (d := 28) rfl rfl (by kernel_rfl) (e_load1 (ad := ⟨b59, o60 + (0 : Int).toNat * 3 + 0, none⟩) (v := .int .i64 ((x4.getD 0 z36).kind)) Try.underlying3 rfl (by kernel_rfl) (hpx (S0_.inv.cell (k64 0 _ rfl)))) ?_
    refine lv (d := 29) rfl rfl (by kernel_rfl) (e_eql (k := .i64) (a := (x4.getD 0 z36).kind) (b := 1) (by kernel_rfl) rfl) ?_
    refine wpList_nil ?_
    refine then_n ?_
    by_cases q69 : ((x4.getD 0 z36).kind) = 1
    · replace M := ifp q69 M
      refine cond_t rfl (bt q69 (by kernel_rfl)) ?_
      refine wp_seq ?_
      refine wp_region_lit ?_
      refine lv (d := 30) rfl rfl (by kernel_rfl) (e_move (v := .pointer (some ⟨g2, 0, none⟩)) (by kernel_rfl)) ?_
      obtain ⟨t70, u71, M⟩ := bnd M
      refine lcall (d := 31) rfl rfl (by kernel_rfl) (e_call (l := [.tmp 30, .const (.int .i64 4)]) (vs := [.pointer (some ⟨g2, 0, none⟩), .int .i64 4]) Try.func51 (by kernel_rfl) rfl (by kernel_rfl) rfl) (spec_l8fault.calls w H x1 g2 4 b3 (St.own' (Fa := [(is g2)]) (Fr := []) S0_) t70 u71) ?_
      rintro _ w72 ⟨A76, c77, F79, H73, rfl, b75, h78, T74⟩
      refine ⟨_, rfl, ?_⟩
      obtain ⟨S80, K81⟩ := St.call (Fa := [(is g2)]) (Fr := []) S0_ T74
      have E82 := T74.ext
      refine lv (d := 8) rfl rfl (by kernel_rfl) (e_assign (v := .slice A76 t70.1.length c77) (by kernel_rfl)) ?_
      refine wpList_nil ?_
      refine then_n ?_
      refine wp_ret ?_
      refine then_r ?_
      obtain rfl := Option.some.inj M
      exact ret1 rfl rfl  (show _ = .slice A76 t70.1.length c77 from (by kernel_rfl)) ⟨A76, c77, F79, H73, rfl, b75, h78, S80⟩
    replace M := ifn q69 M
    refine cond_f rfl (bf q69 (by kernel_rfl)) ?_
    refine wp_skip ?_
    refine then_n ?_
    refine wp_seq ?_
    refine wp_region_lit ?_
    refine lv (d := 32) rfl rfl (by kernel_rfl) (e_move (v := .slice A5 x4.length c6) (by kernel_rfl)) ?_
    obtain ⟨t83, u84, M⟩ := bnd M
    refine lcall (d := 33) rfl rfl (by kernel_rfl) (e_call (l := [.tmp 32]) (vs := [.slice A5 x4.length c6]) Try.func27 (by kernel_rfl) rfl (by kernel_rfl) rfl) (spec_l2args.calls k1_ w H x4 A5 c6 h7 l8 (St.own' (Fa := []) (Fr := [(is g2)]) S0_) t83 u84) ?_
    rintro _ w85 ⟨A88, c89, F91, H86, rfl, h90, T87⟩
    refine ⟨_, rfl, ?_⟩
    obtain ⟨S92, K93⟩ := St.call (Fa := []) (Fr := [(is g2)]) S0_ T87
    replace b3 := K93.blk 0 rfl b3
    have E94 := T87.ext
    refine lv (d := 9) rfl rfl (by kernel_rfl) (e_assign (v := .slice A88 t83.length c89) (by kernel_rfl)) ?_
    refine wpList_nil ?_
    refine then_n ?_
    refine wp_seq ?_
    refine wp_seq ?_
    refine wp_region_lit ?_
    refine lv (d := 34) rfl rfl (by kernel_rfl) (e_move (v := .slice A5 x4.length c6) (by kernel_rfl)) ?_
    obtain ⟨t95, u96, M⟩ := bnd M
    refine lcall (d := 35) rfl rfl (by kernel_rfl) (e_call (l := [.tmp 34, .const (str ([44] : List UInt8)), .const (.int .i64 2)]) (vs := [.slice A5 x4.length c6, str ([44] : List UInt8), .int .i64 2]) Try.func25 (by kernel_rfl) rfl (by kernel_rfl) rfl) (spec_l2is.calls w85 H86 x4 A5 c6 ([44] : List UInt8) 2 (h7.ext E94) l8 S92.own0 t95 u96) ?_
    rintro _ w97 ⟨rfl, C98⟩
    refine ⟨_, rfl, ?_⟩
    obtain ⟨S99, K100⟩ := S92.still C98
    replace h90 := h90.move (K100.at 0 rfl)
    replace b3 := K100.blk 1 rfl b3
    refine lv (d := 36) rfl rfl (by kernel_rfl) (e_move (v := .bool t95) (by kernel_rfl)) ?_
    by_cases q101 : t95 = true
    · replace M := ifp q101 M
      refine lskip (t := 36) (c := true) rfl (by kernel_rfl) rfl (bvt q101 (by kernel_rfl)) rfl rfl ?_
      refine lskip (t := 36) (c := true) rfl (by kernel_rfl) rfl (bvt q101 (by kernel_rfl)) rfl rfl ?_
      refine lv (d := 39) rfl rfl (by kernel_rfl) (e_pick_t (v := .bool true) (bvt q101 (by kernel_rfl)) rfl) ?_
      refine wpList_nil ?_
      refine then_n ?_
      refine cond_t rfl (by kernel_rfl) ?_
      refine wp_seq ?_
      refine wp_region_lit ?_
      refine lv (d := 40) rfl rfl (by kernel_rfl) (e_move (v := .pointer (some ⟨g2, 0, none⟩)) (by kernel_rfl)) ?_
      have S102 := S99.pull (F := (is g2)) (Fr := [F91]) 1 rfl rfl
      obtain ⟨t103, u104, M⟩ := bnd M
      refine lcall (d := 41) rfl rfl (by kernel_rfl) (e_call (l := [.tmp 40]) (vs := [.pointer (some ⟨g2, 0, none⟩)]) Try.func28 (by kernel_rfl) rfl (by kernel_rfl) rfl) (spec_l8new.calls w97 H86 x1 g2 b3 (St.own' (Fa := [(is g2)]) (Fr := [F91]) S102) t103 u104) ?_
      rintro _ w105 ⟨A109, c110, F112, H106, rfl, b108, h111, T107⟩
      refine ⟨_, rfl, ?_⟩
      obtain ⟨S113, K114⟩ := St.call (Fa := [(is g2)]) (Fr := [F91]) S102 T107
      replace h90 := h90.move (K114.at 0 rfl)
      have E115 := T107.ext
      replace h90 := h90.ext E115
      refine lv (d := 10) rfl rfl (by kernel_rfl) (e_assign (v := .slice A109 t103.1.length c110) (by kernel_rfl)) ?_
      refine wpList_nil ?_
      refine then_n ?_
      refine wp_seq ?_
      refine wp_region_lit ?_
      refine lv (d := 42) rfl rfl (by kernel_rfl) (e_move (v := .pointer (some ⟨g2, 0, none⟩)) (by kernel_rfl)) ?_
      refine lv (d := 43) rfl rfl (by kernel_rfl) (e_move (v := .slice A88 t83.length c89) (by kernel_rfl)) ?_
      obtain ⟨q116, M⟩ := chk M
      obtain ⟨b117, e119⟩ := Row.addr h90 (show 0 < t83.length by omega)
      refine lv (d := 44) rfl rfl (by kernel_rfl) (e_indexAddr (b := b117) (off := 0) (n := t83.length) (c := c89) (sz := 1) (i := 0) (k := .i64) Try.underlying50 e119 (by kernel_rfl) (by kernel_rfl) rfl (by omega) q116) ?_
      obtain ⟨y120, F121, r122, s123, k124⟩ := Row.at h90 e119 (getD_some ([] : List Cell) (show 0 < t83.length by omega))
      obtain ⟨A125, c126, rfl, l127, h128⟩ := r122
      refine lv (d := 45) rfl rfl (by kernel_rfl) (e_load1 (ad := ⟨b117, 0 + (0 : Int).toNat * 1, none⟩) (v := .slice A125 (t83.getD 0 ([] : List Cell)).length c126) Try.underlying24 rfl (by kernel_rfl) (hpx (k124 0 _ rfl))) ?_
      refine lv (d := 46) rfl rfl (by kernel_rfl) (e_move (v := .slice A10 x9.length c11) (by kernel_rfl)) ?_
      refine lv (d := 47) rfl rfl (by kernel_rfl) (e_move (v := .slice A109 t103.1.length c110) (by kernel_rfl)) ?_
      have l129 := h111.le
      have S130 := S113.pull (F := F112) (Fr := [(is g2), F91]) 1 rfl rfl
      obtain ⟨H131, S132, E133, h134, z135⟩ := S130.frzRow h111
      replace h90 := h90.ext E133
      obtain ⟨t136, u137, M⟩ := bnd M
      refine lcall (d := 48) rfl rfl (by kernel_rfl) (e_call (l := [.tmp 42, .tmp 45, .tmp 46, .tmp 47]) (vs := [.pointer (some ⟨g2, 0, none⟩), .slice A125 (t83.getD 0 ([] : List Cell)).length c126, .slice A10 x9.length c11, .slice A109 t103.1.length c110]) Try.func30 (by kernel_rfl) rfl (by kernel_rfl) rfl) (ih k1_ (by omega) w105 H131 t103.2 g2 (t83.getD 0 ([] : List Cell)) A125 c126 x9 A10 c11 t103.1 A109 c110 b108 (h128.ext E133) l127 (h12.ext ((E94.trans E115).trans E133)) l13 h134 l129 (St.own' (Fa := [(is g2)]) (Fr := [F91]) S132) t136 u137) ?_
      rintro _ w138 ⟨A142, c143, F145, H139, rfl, b141, h144, T140⟩
      refine ⟨_, rfl, ?_⟩
      obtain ⟨S146, K147⟩ := St.call (Fa := [(is g2)]) (Fr := [F91]) S132 T140
      replace h90 := h90.move (K147.at 0 rfl)
      have E148 := T140.ext
      replace h90 := h90.ext E148
      refine lv (d := 11) rfl rfl (by kernel_rfl) (e_assign (v := .slice A142 t136.1.length c143) (by kernel_rfl)) ?_
      refine wpList_nil ?_
      refine then_n ?_
      refine wp_seq ?_
      refine region_mix (S := (fun (L_ : Array Bool) (w_ : World) => Ext H139 (hp w_) ∧ (∀ b_, F91 b_ → hp w_ b_ = hp w138 b_))) (by kernel_rfl) S146 ?_
      intro w149 S150 K151 hc152
      have o153 := h90
      have hs154 : (fun (L_ : Array Bool) (w_ : World) => Ext H139 (hp w_) ∧ (∀ b_, F91 b_ → hp w_ b_ = hp w138 b_)) (Array.replicate 15 false) w149 := ⟨S150.inv, (fun b_ h_ => K151.at 2 rfl b_ h_)⟩
      replace b141 := K151.blk 0 rfl b141
      replace h144 := h144.move (K151.at 1 rfl)
      replace h90 := h90.move (K151.at 2 rfl)
      refine xv (i := 0) (d := 49) rfl rfl rfl (by kernel_rfl) (by kernel_rfl) (fun _ _ => Iff.rfl) hc152 hs154 (fun L_ w_ hc_ hu_ hs_ => e_move (v := .slice A5 x4.length c6) (by kernel_rfl)) ?_; intro hc155 hs156
      obtain ⟨b157, o158, e159⟩ := Rd.addr h7 (show 0 < x4.length by omega)
      obtain ⟨y160, r161, k162⟩ := Rd.at h7 e159 (getD_some z36 (show 0 < x4.length by omega))
      obtain ⟨A163, c164, rfl, l165, h166⟩ := st36_open r161
      refine xv (i := 1) (d := 50) rfl rfl rfl (by kernel_rfl) (by kernel_rfl) (fun _ _ => Iff.rfl) hc155 hs156 (fun L_ w_ hc_ hu_ hs_ => e_indexAddr (b := b157) (off := o158) (n := x4.length) (c := c6) (sz := 3) (i := 0) (k := .i64) Try.underlying24 e159 (by kernel_rfl) (by kernel_rfl) rfl (by omega) q19) ?_; intro hc167 hs168
      refine xv (i := 2) (d := 51) rfl rfl rfl (by kernel_rfl) (by kernel_rfl) (fun _ _ => Iff.rfl) hc167 hs168 (fun L_ w_ hc_ hu_ hs_ => e_fieldAddr (b := b157) (off := o158 + (0 : Int).toNat * 3) (o := 2) Try.underlying36 rfl rfl (sz := 1) (by kernel_rfl) (by decide) (by kernel_rfl)) ?_; intro hc169 hs170
      refine xv (i := 3) (d := 52) rfl rfl rfl (by kernel_rfl) (by kernel_rfl) (fun _ _ => Iff.rfl) hc169 hs170 (fun L_ w_ hc_ hu_ hs_ => e_load1 (ad := ⟨b157, o158 + (0 : Int).toNat * 3 + 2, none⟩) (v := .slice A163 ((x4.getD 0 z36).text).length c164) Try.underlying32 rfl (by kernel_rfl) (hpx (hs_.1.cell ((((E94.trans E115).trans E133).trans E148).cell (k162 2 _ rfl))))) ?_; intro hc171 hs172
      refine xv (i := 4) (d := 53) rfl rfl rfl (by kernel_rfl) (by kernel_rfl) (fun _ _ => Iff.rfl) hc171 hs172 (fun L_ w_ hc_ hu_ hs_ => e_conv_bs (A := A163) (n := ((x4.getD 0 z36).text).length) (c := c164) (xs := (x4.getD 0 z36).text) Try.underlying32 Try.underlying5 Try.underlying9 (by kernel_rfl) rfl (Rd.bytesE hs_.1 (h166.ext (((E94.trans E115).trans E133).trans E148)))) ?_; intro hc173 hs174
      refine xv (i := 5) (d := 54) rfl rfl rfl (by kernel_rfl) (by kernel_rfl) (fun _ _ => Iff.rfl) hc173 hs174 (fun L_ w_ hc_ hu_ hs_ => e_move (v := .slice A142 t136.1.length c143) (by kernel_rfl)) ?_; intro hc175 hs176
      refine xv (i := 6) (d := 55) rfl rfl rfl (by kernel_rfl) (by kernel_rfl) (fun _ _ => Iff.rfl) hc175 hs176 (fun L_ w_ hc_ hu_ hs_ => e_move (v := .pointer (some ⟨g2, 0, none⟩)) (by kernel_rfl)) ?_; intro hc177 hs178
      refine xv (i := 7) (d := 56) rfl rfl rfl (by kernel_rfl) (by kernel_rfl) (fun _ _ => Iff.rfl) hc177 hs178 (fun L_ w_ hc_ hu_ hs_ => e_move (v := .slice A88 t83.length c89) (by kernel_rfl)) ?_; intro hc179 hs180
      obtain ⟨q181, M⟩ := chk M
      obtain ⟨b182, e184⟩ := Row.addr h90 (show 1 < t83.length by omega)
      refine xv (i := 8) (d := 57) rfl rfl rfl (by kernel_rfl) (by kernel_rfl) (fun _ _ => Iff.rfl) hc179 hs180 (fun L_ w_ hc_ hu_ hs_ => e_indexAddr (b := b182) (off := 0) (n := t83.length) (c := c89) (sz := 1) (i := 1) (k := .i64) Try.underlying50 e184 (by kernel_rfl) (by kernel_rfl) rfl (by omega) q181) ?_; intro hc185 hs186
      obtain ⟨y187, F188, r189, s190, k191⟩ := Row.at o153 e184 (getD_some ([] : List Cell) (show 1 < t83.length by omega))
      obtain ⟨A192, c193, rfl, l194, h195⟩ := r189
      refine xv (i := 9) (d := 58) rfl rfl rfl (by kernel_rfl) (by kernel_rfl) (fun _ _ => Iff.rfl) hc185 hs186 (fun L_ w_ hc_ hu_ hs_ => e_load1 (ad := ⟨b182, 0 + (1 : Int).toNat * 1, none⟩) (v := .slice A192 (t83.getD 1 ([] : List Cell)).length c193) Try.underlying24 rfl (by kernel_rfl) (hpx (cell_same (hs_.2 _ (Row.foot o153 e184)) (k191 0 _ rfl)))) ?_; intro hc196 hs197
      refine xv (i := 10) (d := 59) rfl rfl rfl (by kernel_rfl) (by kernel_rfl) (fun _ _ => Iff.rfl) hc196 hs197 (fun L_ w_ hc_ hu_ hs_ => e_move (v := .slice A109 t103.1.length c110) (by kernel_rfl)) ?_; intro hc198 hs199
      refine xone (i := 11) (by kernel_rfl) hc198 ?_
      refine yo (i := 11) (d := 60) rfl rfl (wanted_none rfl _) (by kernel_rfl) (by kernel_rfl) (fun _ _ => Iff.rfl) hs199 (e_move (v := .slice A15 x14.length c16) (by kernel_rfl)) ?_; intro hc200 hs201
      obtain ⟨t202, u203, M⟩ := bnd M
      refine xone (i := 12) (by kernel_rfl) hc200 ?_
      refine yc (i := 12) rfl (wanted_none rfl _) (by kernel_rfl) (by kernel_rfl) (e_call (l := [.tmp 55, .tmp 58, .tmp 59, .tmp 60]) (vs := [.pointer (some ⟨g2, 0, none⟩), .slice A192 (t83.getD 1 ([] : List Cell)).length c193, .slice A109 t103.1.length c110, .slice A15 x14.length c16]) Try.func30 (by kernel_rfl) rfl (by kernel_rfl) rfl) (ih k1_ (by omega) w149 H139 t136.2 g2 (t83.getD 1 ([] : List Cell)) A192 c193 t103.1 A109 c110 x14 A15 c16 b141 h195 l194 (h134.ext E148) l129 (h17.ext (((E94.trans E115).trans E133).trans E148)) l18 (St.own' (Fa := [(is g2)]) (Fr := [F145, F91]) S150) t202 u203) ?_
      rintro hc212 _ w204 ⟨A208, c209, F211, H205, rfl, b207, h210, T206⟩
      refine ⟨_, rfl, ?_⟩
      obtain ⟨S213, K214⟩ := St.call (Fa := [(is g2)]) (Fr := [F145, F91]) S150 T206
      replace h144 := h144.move (K214.at 0 rfl)
      replace h90 := h90.move (K214.at 1 rfl)
      have E215 := T206.ext
      replace h144 := h144.ext E215
      replace h90 := h90.ext E215
      refine ⟨⟨(Ext.trans E215 S213.inv), (fun b_ h_ => (K214.at 1 rfl b_ h_).trans (hs201.2 b_ h_))⟩, fun hs216 => ?_⟩
      have l217 := h144.le
      have S218 := S213.pull (F := F145) (Fr := [(is g2), F211, F91]) 2 rfl rfl
      obtain ⟨H219, S220, E221, h222, z223⟩ := S218.frzRow h144
      replace h210 := h210.ext E221
      replace h90 := h90.ext E221
      have l224 := h210.le
      have S225 := S220.pull (F := F211) (Fr := [(is g2), F91]) 1 rfl rfl
      obtain ⟨H226, S227, E228, h229, z230⟩ := S225.frzRow h210
      replace h90 := h90.ext E228
      obtain ⟨t231, u232, M⟩ := bnd M
      refine xone (i := 13) (by kernel_rfl) hc212 ?_
      refine yc (i := 13) rfl (wanted_none rfl _) (by kernel_rfl) (by kernel_rfl) (e_call (l := [.tmp 53, .tmp 54, .tmp 61]) (vs := [str ((x4.getD 0 z36).text), .slice A142 t136.1.length c143, .slice A208 t202.1.length c209]) Try.func31 (by kernel_rfl) rfl (by kernel_rfl) rfl) (spec_l2pair.calls k1_ w204 H226 ((x4.getD 0 z36).text) t136.1 A142 c143 t202.1 A208 c209 (h222.ext E228) l217 h229 l224 (St.own' (Fa := []) (Fr := [(is g2), F91]) S227) t231 u232) ?_
      rintro hc240 _ w233 ⟨A236, c237, F239, H234, rfl, h238, T235⟩
      refine ⟨_, rfl, ?_⟩
      obtain ⟨S241, K242⟩ := St.call (Fa := []) (Fr := [(is g2), F91]) S227 T235
      replace b207 := K242.blk 0 rfl b207
      replace h90 := h90.move (K242.at 1 rfl)
      have E243 := T235.ext
      replace h90 := h90.ext E243
      refine ⟨⟨(Ext.trans (((E215.trans E221).trans E228).trans E243) S241.inv), (fun b_ h_ => (K242.at 1 rfl b_ h_).trans (hs216.2 b_ h_))⟩, fun hs244 => ?_⟩
      refine xone (i := 14) (by kernel_rfl) hc240 ?_
      refine yo (i := 14) (d := 8) rfl rfl (wanted_none rfl _) (by kernel_rfl) (by kernel_rfl) (fun _ _ => Iff.rfl) hs244 (e_assign (v := .slice A236 t231.length c237) (by kernel_rfl)) ?_; intro hc245 hs246
      refine xn (by kernel_rfl) ?_ _
      refine then_n ?_
      refine wp_ret ?_
      refine then_r ?_
      obtain rfl := Option.some.inj M
      have S247 := S241.pull (F := (is g2)) (Fr := [F239, F91]) 1 rfl rfl
      have S248 := St.first (Fa := [(is g2), F239]) (Fr := [F91]) S247
      exact ret1 rfl rfl  (show _ = .slice A236 t231.length c237 from (by kernel_rfl)) ⟨A236, c237, F239, H234, rfl, b207, h238, S248⟩
    replace M := ifn q101 M
    refine lvg (d := 37) (t := 36) rfl (by kernel_rfl) rfl (bvf q101 (by kernel_rfl)) rfl (by kernel_rfl) (e_move (v := .slice A5 x4.length c6) (by kernel_rfl)) ?_
    obtain ⟨t249, u250, M⟩ := bnd M
    refine lcallg (d := 38) (t := 36) rfl (by kernel_rfl) rfl (bvf q101 (by kernel_rfl)) rfl (by kernel_rfl) (e_call (l := [.tmp 37, .const (str ([45, 62] : List UInt8)), .const (.int .i64 2)]) (vs := [.slice A5 x4.length c6, str ([45, 62] : List UInt8), .int .i64 2]) Try.func25 (by kernel_rfl) rfl (by kernel_rfl) rfl) (spec_l2is.calls w97 H86 x4 A5 c6 ([45, 62] : List UInt8) 2 (h7.ext E94) l8 S99.own0 t249 u250) ?_
    rintro _ w251 ⟨rfl, C252⟩
    refine ⟨_, rfl, ?_⟩
    obtain ⟨S253, K254⟩ := S99.still C252
    replace h90 := h90.move (K254.at 0 rfl)
    replace b3 := K254.blk 1 rfl b3
    refine lv (d := 39) rfl rfl (by kernel_rfl) (e_pick_f (v := .bool t249) (bvf q101 (by kernel_rfl)) (by kernel_rfl)) ?_
    refine wpList_nil ?_
    refine then_n ?_
    by_cases q255 : t249 = true
    · replace M := ifp q255 M
      refine cond_t rfl (bvt q255 (by kernel_rfl)) ?_
      refine wp_seq ?_
      refine wp_region_lit ?_
      refine lv (d := 40) rfl rfl (by kernel_rfl) (e_move (v := .pointer (some ⟨g2, 0, none⟩)) (by kernel_rfl)) ?_
      have S256 := S253.pull (F := (is g2)) (Fr := [F91]) 1 rfl rfl
      obtain ⟨t257, u258, M⟩ := bnd M
      refine lcall (d := 41) rfl rfl (by kernel_rfl) (e_call (l := [.tmp 40]) (vs := [.pointer (some ⟨g2, 0, none⟩)]) Try.func28 (by kernel_rfl) rfl (by kernel_rfl) rfl) (spec_l8new.calls w251 H86 x1 g2 b3 (St.own' (Fa := [(is g2)]) (Fr := [F91]) S256) t257 u258) ?_
      rintro _ w259 ⟨A263, c264, F266, H260, rfl, b262, h265, T261⟩
      refine ⟨_, rfl, ?_⟩
      obtain ⟨S267, K268⟩ := St.call (Fa := [(is g2)]) (Fr := [F91]) S256 T261
      replace h90 := h90.move (K268.at 0 rfl)
      have E269 := T261.ext
      replace h90 := h90.ext E269
      refine lv (d := 10) rfl rfl (by kernel_rfl) (e_assign (v := .slice A263 t257.1.length c264) (by kernel_rfl)) ?_
      refine wpList_nil ?_
      refine then_n ?_
      refine wp_seq ?_
      refine wp_region_lit ?_
      refine lv (d := 42) rfl rfl (by kernel_rfl) (e_move (v := .pointer (some ⟨g2, 0, none⟩)) (by kernel_rfl)) ?_
      refine lv (d := 43) rfl rfl (by kernel_rfl) (e_move (v := .slice A88 t83.length c89) (by kernel_rfl)) ?_
      obtain ⟨q270, M⟩ := chk M
      obtain ⟨b271, e273⟩ := Row.addr h90 (show 0 < t83.length by omega)
      refine lv (d := 44) rfl rfl (by kernel_rfl) (e_indexAddr (b := b271) (off := 0) (n := t83.length) (c := c89) (sz := 1) (i := 0) (k := .i64) Try.underlying50 e273 (by kernel_rfl) (by kernel_rfl) rfl (by omega) q270) ?_
      obtain ⟨y274, F275, r276, s277, k278⟩ := Row.at h90 e273 (getD_some ([] : List Cell) (show 0 < t83.length by omega))
      obtain ⟨A279, c280, rfl, l281, h282⟩ := r276
      refine lv (d := 45) rfl rfl (by kernel_rfl) (e_load1 (ad := ⟨b271, 0 + (0 : Int).toNat * 1, none⟩) (v := .slice A279 (t83.getD 0 ([] : List Cell)).length c280) Try.underlying24 rfl (by kernel_rfl) (hpx (k278 0 _ rfl))) ?_
      refine lv (d := 46) rfl rfl (by kernel_rfl) (e_move (v := .slice A10 x9.length c11) (by kernel_rfl)) ?_
      refine lv (d := 47) rfl rfl (by kernel_rfl) (e_move (v := .slice A263 t257.1.length c264) (by kernel_rfl)) ?_
      have l283 := h265.le
      have S284 := S267.pull (F := F266) (Fr := [(is g2), F91]) 1 rfl rfl
      obtain ⟨H285, S286, E287, h288, z289⟩ := S284.frzRow h265
      replace h90 := h90.ext E287
      obtain ⟨t290, u291, M⟩ := bnd M
      refine lcall (d := 48) rfl rfl (by kernel_rfl) (e_call (l := [.tmp 42, .tmp 45, .tmp 46, .tmp 47]) (vs := [.pointer (some ⟨g2, 0, none⟩), .slice A279 (t83.getD 0 ([] : List Cell)).length c280, .slice A10 x9.length c11, .slice A263 t257.1.length c264]) Try.func30 (by kernel_rfl) rfl (by kernel_rfl) rfl) (ih k1_ (by omega) w259 H285 t257.2 g2 (t83.getD 0 ([] : List Cell)) A279 c280 x9 A10 c11 t257.1 A263 c264 b262 (h282.ext E287) l281 (h12.ext ((E94.trans E269).trans E287)) l13 h288 l283 (St.own' (Fa := [(is g2)]) (Fr := [F91]) S286) t290 u291) ?_
      rintro _ w292 ⟨A296, c297, F299, H293, rfl, b295, h298, T294⟩
      refine ⟨_, rfl, ?_⟩
      obtain ⟨S300, K301⟩ := St.call (Fa := [(is g2)]) (Fr := [F91]) S286 T294
      replace h90 := h90.move (K301.at 0 rfl)
      have E302 := T294.ext
      replace h90 := h90.ext E302
      refine lv (d := 11) rfl rfl (by kernel_rfl) (e_assign (v := .slice A296 t290.1.length c297) (by kernel_rfl)) ?_
      refine wpList_nil ?_
      refine then_n ?_
      refine wp_seq ?_
      refine region_mix (S := (fun (L_ : Array Bool) (w_ : World) => Ext H293 (hp w_) ∧ (∀ b_, F91 b_ → hp w_ b_ = hp w292 b_))) (by kernel_rfl) S300 ?_
      intro w303 S304 K305 hc306
      have o307 := h90
      have hs308 : (fun (L_ : Array Bool) (w_ : World) => Ext H293 (hp w_) ∧ (∀ b_, F91 b_ → hp w_ b_ = hp w292 b_)) (Array.replicate 15 false) w303 := ⟨S304.inv, (fun b_ h_ => K305.at 2 rfl b_ h_)⟩
      replace b295 := K305.blk 0 rfl b295
      replace h298 := h298.move (K305.at 1 rfl)
      replace h90 := h90.move (K305.at 2 rfl)
      refine xv (i := 0) (d := 49) rfl rfl rfl (by kernel_rfl) (by kernel_rfl) (fun _ _ => Iff.rfl) hc306 hs308 (fun L_ w_ hc_ hu_ hs_ => e_move (v := .slice A5 x4.length c6) (by kernel_rfl)) ?_; intro hc309 hs310
      obtain ⟨b311, o312, e313⟩ := Rd.addr h7 (show 0 < x4.length by omega)
      obtain ⟨y314, r315, k316⟩ := Rd.at h7 e313 (getD_some z36 (show 0 < x4.length by omega))
      obtain ⟨A317, c318, rfl, l319, h320⟩ := st36_open r315
      refine xv (i := 1) (d := 50) rfl rfl rfl (by kernel_rfl) (by kernel_rfl) (fun _ _ => Iff.rfl) hc309 hs310 (fun L_ w_ hc_ hu_ hs_ => e_indexAddr (b := b311) (off := o312) (n := x4.length) (c := c6) (sz := 3) (i := 0) (k := .i64) Try.underlying24 e313 (by kernel_rfl) (by kernel_rfl) rfl (by omega) q19) ?_; intro hc321 hs322
      refine xv (i := 2) (d := 51) rfl rfl rfl (by kernel_rfl) (by kernel_rfl) (fun _ _ => Iff.rfl) hc321 hs322 (fun L_ w_ hc_ hu_ hs_ => e_fieldAddr (b := b311) (off := o312 + (0 : Int).toNat * 3) (o := 2) Try.underlying36 rfl rfl (sz := 1) (by kernel_rfl) (by decide) (by kernel_rfl)) ?_; intro hc323 hs324
      refine xv (i := 3) (d := 52) rfl rfl rfl (by kernel_rfl) (by kernel_rfl) (fun _ _ => Iff.rfl) hc323 hs324 (fun L_ w_ hc_ hu_ hs_ => e_load1 (ad := ⟨b311, o312 + (0 : Int).toNat * 3 + 2, none⟩) (v := .slice A317 ((x4.getD 0 z36).text).length c318) Try.underlying32 rfl (by kernel_rfl) (hpx (hs_.1.cell ((((E94.trans E269).trans E287).trans E302).cell (k316 2 _ rfl))))) ?_; intro hc325 hs326
      refine xv (i := 4) (d := 53) rfl rfl rfl (by kernel_rfl) (by kernel_rfl) (fun _ _ => Iff.rfl) hc325 hs326 (fun L_ w_ hc_ hu_ hs_ => e_conv_bs (A := A317) (n := ((x4.getD 0 z36).text).length) (c := c318) (xs := (x4.getD 0 z36).text) Try.underlying32 Try.underlying5 Try.underlying9 (by kernel_rfl) rfl (Rd.bytesE hs_.1 (h320.ext (((E94.trans E269).trans E287).trans E302)))) ?_; intro hc327 hs328
      refine xv (i := 5) (d := 54) rfl rfl rfl (by kernel_rfl) (by kernel_rfl) (fun _ _ => Iff.rfl) hc327 hs328 (fun L_ w_ hc_ hu_ hs_ => e_move (v := .slice A296 t290.1.length c297) (by kernel_rfl)) ?_; intro hc329 hs330
      refine xv (i := 6) (d := 55) rfl rfl rfl (by kernel_rfl) (by kernel_rfl) (fun _ _ => Iff.rfl) hc329 hs330 (fun L_ w_ hc_ hu_ hs_ => e_move (v := .pointer (some ⟨g2, 0, none⟩)) (by kernel_rfl)) ?_; intro hc331 hs332
      refine xv (i := 7) (d := 56) rfl rfl rfl (by kernel_rfl) (by kernel_rfl) (fun _ _ => Iff.rfl) hc331 hs332 (fun L_ w_ hc_ hu_ hs_ => e_move (v := .slice A88 t83.length c89) (by kernel_rfl)) ?_; intro hc333 hs334
      obtain ⟨q335, M⟩ := chk M
      obtain ⟨b336, e338⟩ := Row.addr h90 (show 1 < t83.length by omega)
      refine xv (i := 8) (d := 57) rfl rfl rfl (by kernel_rfl) (by kernel_rfl) (fun _ _ => Iff.rfl) hc333 hs334 (fun L_ w_ hc_ hu_ hs_ => e_indexAddr (b := b336) (off := 0) (n := t83.length) (c := c89) (sz := 1) (i := 1) (k := .i64) Try.underlying50 e338 (by kernel_rfl) (by kernel_rfl) rfl (by omega) q335) ?_; intro hc339 hs340
      obtain ⟨y341, F342, r343, s344, k345⟩ := Row.at o307 e338 (getD_some ([] : List Cell) (show 1 < t83.length by omega))
      obtain ⟨A346, c347, rfl, l348, h349⟩ := r343
      refine xv (i := 9) (d := 58) rfl rfl rfl (by kernel_rfl) (by kernel_rfl) (fun _ _ => Iff.rfl) hc339 hs340 (fun L_ w_ hc_ hu_ hs_ => e_load1 (ad := ⟨b336, 0 + (1 : Int).toNat * 1, none⟩) (v := .slice A346 (t83.getD 1 ([] : List Cell)).length c347) Try.underlying24 rfl (by kernel_rfl) (hpx (cell_same (hs_.2 _ (Row.foot o307 e338)) (k345 0 _ rfl)))) ?_; intro hc350 hs351
      refine xv (i := 10) (d := 59) rfl rfl rfl (by kernel_rfl) (by kernel_rfl) (fun _ _ => Iff.rfl) hc350 hs351 (fun L_ w_ hc_ hu_ hs_ => e_move (v := .slice A263 t257.1.length c264) (by kernel_rfl)) ?_; intro hc352 hs353
      refine xone (i := 11) (by kernel_rfl) hc352 ?_
      refine yo (i := 11) (d := 60) rfl rfl (wanted_none rfl _) (by kernel_rfl) (by kernel_rfl) (fun _ _ => Iff.rfl) hs353 (e_move (v := .slice A15 x14.length c16) (by kernel_rfl)) ?_; intro hc354 hs355
      obtain ⟨t356, u357, M⟩ := bnd M
      refine xone (i := 12) (by kernel_rfl) hc354 ?_
      refine yc (i := 12) rfl (wanted_none rfl _) (by kernel_rfl) (by kernel_rfl) (e_call (l := [.tmp 55, .tmp 58, .tmp 59, .tmp 60]) (vs := [.pointer (some ⟨g2, 0, none⟩), .slice A346 (t83.getD 1 ([] : List Cell)).length c347, .slice A263 t257.1.length c264, .slice A15 x14.length c16]) Try.func30 (by kernel_rfl) rfl (by kernel_rfl) rfl) (ih k1_ (by omega) w303 H293 t290.2 g2 (t83.getD 1 ([] : List Cell)) A346 c347 t257.1 A263 c264 x14 A15 c16 b295 h349 l348 (h288.ext E302) l283 (h17.ext (((E94.trans E269).trans E287).trans E302)) l18 (St.own' (Fa := [(is g2)]) (Fr := [F299, F91]) S304) t356 u357) ?_
      rintro hc366 _ w358 ⟨A362, c363, F365, H359, rfl, b361, h364, T360⟩
      refine ⟨_, rfl, ?_⟩
      obtain ⟨S367, K368⟩ := St.call (Fa := [(is g2)]) (Fr := [F299, F91]) S304 T360
      replace h298 := h298.move (K368.at 0 rfl)
      replace h90 := h90.move (K368.at 1 rfl)
      have E369 := T360.ext
      replace h298 := h298.ext E369
      replace h90 := h90.ext E369
      refine ⟨⟨(Ext.trans E369 S367.inv), (fun b_ h_ => (K368.at 1 rfl b_ h_).trans (hs355.2 b_ h_))⟩, fun hs370 => ?_⟩
      have l371 := h298.le
      have S372 := S367.pull (F := F299) (Fr := [(is g2), F365, F91]) 2 rfl rfl
      obtain ⟨H373, S374, E375, h376, z377⟩ := S372.frzRow h298
      replace h364 := h364.ext E375
      replace h90 := h90.ext E375
      have l378 := h364.le
      have S379 := S374.pull (F := F365) (Fr := [(is g2), F91]) 1 rfl rfl
      obtain ⟨H380, S381, E382, h383, z384⟩ := S379.frzRow h364
      replace h90 := h90.ext E382
      obtain ⟨t385, u386, M⟩ := bnd M
      refine xone (i := 13) (by kernel_rfl) hc366 ?_
      refine yc (i := 13) rfl (wanted_none rfl _) (by kernel_rfl) (by kernel_rfl) (e_call (l := [.tmp 53, .tmp 54, .tmp 61]) (vs := [str ((x4.getD 0 z36).text), .slice A296 t290.1.length c297, .slice A362 t356.1.length c363]) Try.func31 (by kernel_rfl) rfl (by kernel_rfl) rfl) (spec_l2pair.calls k1_ w358 H380 ((x4.getD 0 z36).text) t290.1 A296 c297 t356.1 A362 c363 (h376.ext E382) l371 h383 l378 (St.own' (Fa := []) (Fr := [(is g2), F91]) S381) t385 u386) ?_
      rintro hc394 _ w387 ⟨A390, c391, F393, H388, rfl, h392, T389⟩
      refine ⟨_, rfl, ?_⟩
      obtain ⟨S395, K396⟩ := St.call (Fa := []) (Fr := [(is g2), F91]) S381 T389
      replace b361 := K396.blk 0 rfl b361
      replace h90 := h90.move (K396.at 1 rfl)
      have E397 := T389.ext
      replace h90 := h90.ext E397
      refine ⟨⟨(Ext.trans (((E369.trans E375).trans E382).trans E397) S395.inv), (fun b_ h_ => (K396.at 1 rfl b_ h_).trans (hs370.2 b_ h_))⟩, fun hs398 => ?_⟩
      refine xone (i := 14) (by kernel_rfl) hc394 ?_
      refine yo (i := 14) (d := 8) rfl rfl (wanted_none rfl _) (by kernel_rfl) (by kernel_rfl) (fun _ _ => Iff.rfl) hs398 (e_assign (v := .slice A390 t385.length c391) (by kernel_rfl)) ?_; intro hc399 hs400
      refine xn (by kernel_rfl) ?_ _
      refine then_n ?_
      refine wp_ret ?_
      refine then_r ?_
      obtain rfl := Option.some.inj M
      have S401 := S395.pull (F := (is g2)) (Fr := [F393, F91]) 1 rfl rfl
      have S402 := St.first (Fa := [(is g2), F393]) (Fr := [F91]) S401
      exact ret1 rfl rfl  (show _ = .slice A390 t385.length c391 from (by kernel_rfl)) ⟨A390, c391, F393, H388, rfl, b361, h392, S402⟩
    replace M := ifn q255 M
    refine cond_f rfl (bvf q255 (by kernel_rfl)) ?_
    refine wp_skip ?_
    refine then_n ?_
    refine wp_seq ?_
    refine wp_seq ?_
    refine wp_region_lit ?_
    refine lv (d := 63) rfl rfl (by kernel_rfl) (e_move (v := .slice A5 x4.length c6) (by kernel_rfl)) ?_
    obtain ⟨t403, u404, M⟩ := bnd M
    refine lcall (d := 64) rfl rfl (by kernel_rfl) (e_call (l := [.tmp 63, .const (str ([59] : List UInt8)), .const (.int .i64 2)]) (vs := [.slice A5 x4.length c6, str ([59] : List UInt8), .int .i64 2]) Try.func25 (by kernel_rfl) rfl (by kernel_rfl) rfl) (spec_l2is.calls w251 H86 x4 A5 c6 ([59] : List UInt8) 2 (h7.ext E94) l8 S253.own0 t403 u404) ?_
    rintro _ w405 ⟨rfl, C406⟩
    refine ⟨_, rfl, ?_⟩
    obtain ⟨S407, K408⟩ := S253.still C406
    replace h90 := h90.move (K408.at 0 rfl)
    replace b3 := K408.blk 1 rfl b3
    refine wpList_nil ?_
    refine then_n ?_
    by_cases q409 : t403 = true
    · replace M := ifp q409 M
      refine cond_t rfl (bvt q409 (by kernel_rfl)) ?_
      refine wp_seq ?_
      refine wp_region_lit ?_
      refine lv (d := 65) rfl rfl (by kernel_rfl) (e_move (v := .pointer (some ⟨g2, 0, none⟩)) (by kernel_rfl)) ?_
      refine lv (d := 66) rfl rfl (by kernel_rfl) (e_move (v := .slice A88 t83.length c89) (by kernel_rfl)) ?_
      obtain ⟨q410, M⟩ := chk M
      obtain ⟨b411, e413⟩ := Row.addr h90 (show 0 < t83.length by omega)
      refine lv (d := 67) rfl rfl (by kernel_rfl) (e_indexAddr (b := b411) (off := 0) (n := t83.length) (c := c89) (sz := 1) (i := 0) (k := .i64) Try.underlying50 e413 (by kernel_rfl) (by kernel_rfl) rfl (by omega) q410) ?_
      obtain ⟨y414, F415, r416, s417, k418⟩ := Row.at h90 e413 (getD_some ([] : List Cell) (show 0 < t83.length by omega))
      obtain ⟨A419, c420, rfl, l421, h422⟩ := r416
      refine lv (d := 68) rfl rfl (by kernel_rfl) (e_load1 (ad := ⟨b411, 0 + (0 : Int).toNat * 1, none⟩) (v := .slice A419 (t83.getD 0 ([] : List Cell)).length c420) Try.underlying24 rfl (by kernel_rfl) (hpx (k418 0 _ rfl))) ?_
      refine lv (d := 69) rfl rfl (by kernel_rfl) (e_move (v := .slice A10 x9.length c11) (by kernel_rfl)) ?_
      refine lv (d := 70) rfl rfl (by kernel_rfl) (e_move (v := .slice A15 x14.length c16) (by kernel_rfl)) ?_
      have S423 := S407.pull (F := (is g2)) (Fr := [F91]) 1 rfl rfl
      obtain ⟨t424, u425, M⟩ := bnd M
      refine lcall (d := 71) rfl rfl (by kernel_rfl) (e_call (l := [.tmp 65, .tmp 68, .tmp 69, .tmp 70]) (vs := [.pointer (some ⟨g2, 0, none⟩), .slice A419 (t83.getD 0 ([] : List Cell)).length c420, .slice A10 x9.length c11, .slice A15 x14.length c16]) Try.func30 (by kernel_rfl) rfl (by kernel_rfl) rfl) (ih k1_ (by omega) w405 H86 x1 g2 (t83.getD 0 ([] : List Cell)) A419 c420 x9 A10 c11 x14 A15 c16 b3 h422 l421 (h12.ext E94) l13 (h17.ext E94) l18 (St.own' (Fa := [(is g2)]) (Fr := [F91]) S423) t424 u425) ?_
      rintro _ w426 ⟨A430, c431, F433, H427, rfl, b429, h432, T428⟩
      refine ⟨_, rfl, ?_⟩
      obtain ⟨S434, K435⟩ := St.call (Fa := [(is g2)]) (Fr := [F91]) S423 T428
      replace h90 := h90.move (K435.at 0 rfl)
      have E436 := T428.ext
      replace h90 := h90.ext E436
      refine lv (d := 12) rfl rfl (by kernel_rfl) (e_assign (v := .slice A430 t424.1.length c431) (by kernel_rfl)) ?_
      refine wpList_nil ?_
      refine then_n ?_
      refine wp_seq ?_
      refine wp_region_lit ?_
      refine lv (d := 72) rfl rfl (by kernel_rfl) (e_move (v := .slice A430 t424.1.length c431) (by kernel_rfl)) ?_
      refine lv (d := 73) rfl rfl (by kernel_rfl) (e_move (v := .pointer (some ⟨g2, 0, none⟩)) (by kernel_rfl)) ?_
      refine lv (d := 74) rfl rfl (by kernel_rfl) (e_move (v := .slice A88 t83.length c89) (by kernel_rfl)) ?_
      obtain ⟨q437, M⟩ := chk M
      obtain ⟨b438, e440⟩ := Row.addr h90 (show 1 < t83.length by omega)
      refine lv (d := 75) rfl rfl (by kernel_rfl) (e_indexAddr (b := b438) (off := 0) (n := t83.length) (c := c89) (sz := 1) (i := 1) (k := .i64) Try.underlying50 e440 (by kernel_rfl) (by kernel_rfl) rfl (by omega) q437) ?_
      obtain ⟨y441, F442, r443, s444, k445⟩ := Row.at h90 e440 (getD_some ([] : List Cell) (show 1 < t83.length by omega))
      obtain ⟨A446, c447, rfl, l448, h449⟩ := r443
      refine lv (d := 76) rfl rfl (by kernel_rfl) (e_load1 (ad := ⟨b438, 0 + (1 : Int).toNat * 1, none⟩) (v := .slice A446 (t83.getD 1 ([] : List Cell)).length c447) Try.underlying24 rfl (by kernel_rfl) (hpx (k445 0 _ rfl))) ?_
      refine lv (d := 77) rfl rfl (by kernel_rfl) (e_move (v := .slice A10 x9.length c11) (by kernel_rfl)) ?_
      refine lv (d := 78) rfl rfl (by kernel_rfl) (e_move (v := .slice A15 x14.length c16) (by kernel_rfl)) ?_
      obtain ⟨t450, u451, M⟩ := bnd M
      refine lcall (d := 79) rfl rfl (by kernel_rfl) (e_call (l := [.tmp 73, .tmp 76, .tmp 77, .tmp 78]) (vs := [.pointer (some ⟨g2, 0, none⟩), .slice A446 (t83.getD 1 ([] : List Cell)).length c447, .slice A10 x9.length c11, .slice A15 x14.length c16]) Try.func30 (by kernel_rfl) rfl (by kernel_rfl) rfl) (ih k1_ (by omega) w426 H427 t424.2 g2 (t83.getD 1 ([] : List Cell)) A446 c447 x9 A10 c11 x14 A15 c16 b429 h449 l448 (h12.ext (E94.trans E436)) l13 (h17.ext (E94.trans E436)) l18 (St.own' (Fa := [(is g2)]) (Fr := [F433, F91]) S434) t450 u451) ?_
      rintro _ w452 ⟨A456, c457, F459, H453, rfl, b455, h458, T454⟩
      refine ⟨_, rfl, ?_⟩
      obtain ⟨S460, K461⟩ := St.call (Fa := [(is g2)]) (Fr := [F433, F91]) S434 T454
      replace h432 := h432.move (K461.at 0 rfl)
      replace h90 := h90.move (K461.at 1 rfl)
      have E462 := T454.ext
      replace h432 := h432.ext E462
      replace h90 := h90.ext E462
      have l463 := h432.le
      have S464 := S460.pull (F := F433) (Fr := [(is g2), F459, F91]) 2 rfl rfl
      obtain ⟨H465, S466, E467, h468, z469⟩ := S464.frzRow h432
      replace h458 := h458.ext E467
      replace h90 := h90.ext E467
      have l470 := h458.le
      have S471 := S466.pull (F := F459) (Fr := [(is g2), F91]) 1 rfl rfl
      obtain ⟨H472, S473, E474, h475, z476⟩ := S471.frzRow h458
      replace h90 := h90.ext E474
      obtain ⟨t477, u478, M⟩ := bnd M
      refine lcall (d := 80) rfl rfl (by kernel_rfl) (e_call (l := [.const (str ([59] : List UInt8)), .tmp 72, .tmp 79]) (vs := [str ([59] : List UInt8), .slice A430 t424.1.length c431, .slice A456 t450.1.length c457]) Try.func31 (by kernel_rfl) rfl (by kernel_rfl) rfl) (spec_l2pair.calls k1_ w452 H472 ([59] : List UInt8) t424.1 A430 c431 t450.1 A456 c457 (h468.ext E474) l463 h475 l470 (St.own' (Fa := []) (Fr := [(is g2), F91]) S473) t477 u478) ?_
      rintro _ w479 ⟨A482, c483, F485, H480, rfl, h484, T481⟩
      refine ⟨_, rfl, ?_⟩
      obtain ⟨S486, K487⟩ := St.call (Fa := []) (Fr := [(is g2), F91]) S473 T481
      replace b455 := K487.blk 0 rfl b455
      replace h90 := h90.move (K487.at 1 rfl)
      have E488 := T481.ext
      replace h90 := h90.ext E488
      refine lv (d := 8) rfl rfl (by kernel_rfl) (e_assign (v := .slice A482 t477.length c483) (by kernel_rfl)) ?_
      refine wpList_nil ?_
      refine then_n ?_
      refine wp_ret ?_
      refine then_r ?_
      obtain rfl := Option.some.inj M
      have S489 := S486.pull (F := (is g2)) (Fr := [F485, F91]) 1 rfl rfl
      have S490 := St.first (Fa := [(is g2), F485]) (Fr := [F91]) S489
      exact ret1 rfl rfl  (show _ = .slice A482 t477.length c483 from (by kernel_rfl)) ⟨A482, c483, F485, H480, rfl, b455, h484, S490⟩
    replace M := ifn q409 M
    refine cond_f rfl (bvf q409 (by kernel_rfl)) ?_
    refine wp_skip ?_
    refine then_n ?_
    refine wp_seq ?_
    refine wp_region_lit ?_
    refine lv (d := 81) rfl rfl (by kernel_rfl) (e_move (v := .slice A10 x9.length c11) (by kernel_rfl)) ?_
    refine lv (d := 82) rfl rfl (by kernel_rfl) (e_move (v := .slice A15 x14.length c16) (by kernel_rfl)) ?_
    obtain ⟨t491, u492, M⟩ := bnd M
    refine lcall (d := 83) rfl rfl (by kernel_rfl) (e_call (l := [.const (str ([61] : List UInt8)), .tmp 81, .tmp 82]) (vs := [str ([61] : List UInt8), .slice A10 x9.length c11, .slice A15 x14.length c16]) Try.func31 (by kernel_rfl) rfl (by kernel_rfl) rfl) (spec_l2pair.calls k1_ w405 H86 ([61] : List UInt8) x9 A10 c11 x14 A15 c16 (h12.ext E94) l13 (h17.ext E94) l18 (St.own' (Fa := []) (Fr := [F91, (is g2)]) S407) t491 u492) ?_
    rintro _ w493 ⟨A496, c497, F499, H494, rfl, h498, T495⟩
    refine ⟨_, rfl, ?_⟩
    obtain ⟨S500, K501⟩ := St.call (Fa := []) (Fr := [F91, (is g2)]) S407 T495
    replace h90 := h90.move (K501.at 0 rfl)
    replace b3 := K501.blk 1 rfl b3
    have E502 := T495.ext
    replace h90 := h90.ext E502
    refine lv (d := 13) rfl rfl (by kernel_rfl) (e_assign (v := .slice A496 t491.length c497) (by kernel_rfl)) ?_
    refine wpList_nil ?_
    refine then_n ?_
    refine wp_seq ?_
    refine wp_seq ?_
    refine wp_region_lit ?_
    refine lv (d := 84) rfl rfl (by kernel_rfl) (e_move (v := .slice A5 x4.length c6) (by kernel_rfl)) ?_
    obtain ⟨t503, u504, M⟩ := bnd M
    refine lcall (d := 85) rfl rfl (by kernel_rfl) (e_call (l := [.tmp 84, .const (str ([92, 43] : List UInt8)), .const (.int .i64 1)]) (vs := [.slice A5 x4.length c6, str ([92, 43] : List UInt8), .int .i64 1]) Try.func25 (by kernel_rfl) rfl (by kernel_rfl) rfl) (spec_l2is.calls w493 H494 x4 A5 c6 ([92, 43] : List UInt8) 1 (h7.ext (E94.trans E502)) l8 S500.own0 t503 u504) ?_
    rintro _ w505 ⟨rfl, C506⟩
    refine ⟨_, rfl, ?_⟩
    obtain ⟨S507, K508⟩ := S500.still C506
    replace h498 := h498.move (K508.at 0 rfl)
    replace h90 := h90.move (K508.at 1 rfl)
    replace b3 := K508.blk 2 rfl b3
    refine wpList_nil ?_
    refine then_n ?_
    by_cases q509 : t503 = true
    · replace M := ifp q509 M
      refine cond_t rfl (bvt q509 (by kernel_rfl)) ?_
      refine wp_seq ?_
      refine wp_region_lit ?_
      refine lv (d := 86) rfl rfl (by kernel_rfl) (e_move (v := .pointer (some ⟨g2, 0, none⟩)) (by kernel_rfl)) ?_
      have S510 := S507.pull (F := (is g2)) (Fr := [F499, F91]) 2 rfl rfl
      obtain ⟨t511, u512, M⟩ := bnd M
      refine lcall (d := 87) rfl rfl (by kernel_rfl) (e_call (l := [.tmp 86]) (vs := [.pointer (some ⟨g2, 0, none⟩)]) Try.func28 (by kernel_rfl) rfl (by kernel_rfl) rfl) (spec_l8new.calls w505 H494 x1 g2 b3 (St.own' (Fa := [(is g2)]) (Fr := [F499, F91]) S510) t511 u512) ?_
      rintro _ w513 ⟨A517, c518, F520, H514, rfl, b516, h519, T515⟩
      refine ⟨_, rfl, ?_⟩
      obtain ⟨S521, K522⟩ := St.call (Fa := [(is g2)]) (Fr := [F499, F91]) S510 T515
      replace h498 := h498.move (K522.at 0 rfl)
      replace h90 := h90.move (K522.at 1 rfl)
      have E523 := T515.ext
      replace h498 := h498.ext E523
      replace h90 := h90.ext E523
      refine lv (d := 14) rfl rfl (by kernel_rfl) (e_assign (v := .slice A517 t511.1.length c518) (by kernel_rfl)) ?_
      refine wpList_nil ?_
      refine then_n ?_
      refine wp_seq ?_
      refine wp_region_lit ?_
      refine lv (d := 88) rfl rfl (by kernel_rfl) (e_move (v := .pointer (some ⟨g2, 0, none⟩)) (by kernel_rfl)) ?_
      refine lv (d := 89) rfl rfl (by kernel_rfl) (e_move (v := .slice A88 t83.length c89) (by kernel_rfl)) ?_
      obtain ⟨q524, M⟩ := chk M
      obtain ⟨b525, e527⟩ := Row.addr h90 (show 0 < t83.length by omega)
      refine lv (d := 90) rfl rfl (by kernel_rfl) (e_indexAddr (b := b525) (off := 0) (n := t83.length) (c := c89) (sz := 1) (i := 0) (k := .i64) Try.underlying50 e527 (by kernel_rfl) (by kernel_rfl) rfl (by omega) q524) ?_
      obtain ⟨y528, F529, r530, s531, k532⟩ := Row.at h90 e527 (getD_some ([] : List Cell) (show 0 < t83.length by omega))
      obtain ⟨A533, c534, rfl, l535, h536⟩ := r530
      refine lv (d := 91) rfl rfl (by kernel_rfl) (e_load1 (ad := ⟨b525, 0 + (0 : Int).toNat * 1, none⟩) (v := .slice A533 (t83.getD 0 ([] : List Cell)).length c534) Try.underlying24 rfl (by kernel_rfl) (hpx (k532 0 _ rfl))) ?_
      refine lv (d := 92) rfl rfl (by kernel_rfl) (e_move (v := .slice A10 x9.length c11) (by kernel_rfl)) ?_
      refine lv (d := 93) rfl rfl (by kernel_rfl) (e_move (v := .slice A517 t511.1.length c518) (by kernel_rfl)) ?_
      have l537 := h519.le
      have S538 := S521.pull (F := F520) (Fr := [(is g2), F499, F91]) 1 rfl rfl
      obtain ⟨H539, S540, E541, h542, z543⟩ := S538.frzRow h519
      replace h498 := h498.ext E541
      replace h90 := h90.ext E541
      obtain ⟨t544, u545, M⟩ := bnd M
      refine lcall (d := 94) rfl rfl (by kernel_rfl) (e_call (l := [.tmp 88, .tmp 91, .tmp 92, .tmp 93]) (vs := [.pointer (some ⟨g2, 0, none⟩), .slice A533 (t83.getD 0 ([] : List Cell)).length c534, .slice A10 x9.length c11, .slice A517 t511.1.length c518]) Try.func30 (by kernel_rfl) rfl (by kernel_rfl) rfl) (ih k1_ (by omega) w513 H539 t511.2 g2 (t83.getD 0 ([] : List Cell)) A533 c534 x9 A10 c11 t511.1 A517 c518 b516 (h536.ext E541) l535 (h12.ext (((E94.trans E502).trans E523).trans E541)) l13 h542 l537 (St.own' (Fa := [(is g2)]) (Fr := [F499, F91]) S540) t544 u545) ?_
      rintro _ w546 ⟨A550, c551, F553, H547, rfl, b549, h552, T548⟩
      refine ⟨_, rfl, ?_⟩
      obtain ⟨S554, K555⟩ := St.call (Fa := [(is g2)]) (Fr := [F499, F91]) S540 T548
      replace h498 := h498.move (K555.at 0 rfl)
      replace h90 := h90.move (K555.at 1 rfl)
      have E556 := T548.ext
      replace h498 := h498.ext E556
      replace h90 := h90.ext E556
      refine lve (d := 95) rfl rfl (by kernel_rfl) (new_blk (v := fun g_ => .slice (some ⟨g_, 0, none⟩) 1 1) (cs := #[.slice A550 t544.1.length c551]) (t := 24) S554 (by kernel_rfl)) ?_
      rintro _ w557 ⟨g558, rfl, b559, S560, K561⟩
      replace b549 := K561.blk 0 rfl b549
      replace h552 := h552.move (K561.at 1 rfl)
      replace h498 := h498.move (K561.at 2 rfl)
      replace h90 := h90.move (K561.at 3 rfl)
      have S562 := S560.pull (F := F553) (Fr := [(is g558), (is g2), F499, F91]) 2 rfl rfl
      have S563 := S562.pull (F := (is g558)) (Fr := [F553, (is g2), F499, F91]) 1 rfl rfl
      obtain ⟨h564, S565⟩ := row_lit (d := sl36) (xs := [t544.1]) S563 b559 rfl (elsO_one1 ⟨A550, c551, rfl, h552⟩) (Nat.le_of_ble_eq_true rfl)
      have l566 := h564.le
      obtain ⟨H567, S568, E569, h570, z571⟩ := S565.frzRow h564
      replace h498 := h498.ext E569
      replace h90 := h90.ext E569
      obtain ⟨t572, u573, M⟩ := bnd M
      refine lcall (d := 96) rfl rfl (by kernel_rfl) (e_call (l := [.const (str ([92, 43] : List UInt8)), .tmp 95]) (vs := [str ([92, 43] : List UInt8), .slice (some ⟨g558, 0, none⟩) 1 1]) Try.func37 (by kernel_rfl) rfl (by kernel_rfl) rfl) (spec_l2comp.calls k1_ w557 H567 ([92, 43] : List UInt8) [t544.1] (some ⟨g558, 0, none⟩) 1 h570 l566 (St.own' (Fa := []) (Fr := [(is g2), F499, F91]) S568) t572 u573) ?_
      rintro _ w574 ⟨A577, c578, F580, H575, rfl, h579, T576⟩
      refine ⟨_, rfl, ?_⟩
      obtain ⟨S581, K582⟩ := St.call (Fa := []) (Fr := [(is g2), F499, F91]) S568 T576
      replace b549 := K582.blk 0 rfl b549
      replace h498 := h498.move (K582.at 1 rfl)
      replace h90 := h90.move (K582.at 2 rfl)
      have E583 := T576.ext
      replace h498 := h498.ext E583
      replace h90 := h90.ext E583
      refine lv (d := 97) rfl rfl (by kernel_rfl) (e_move (v := .slice A496 t491.length c497) (by kernel_rfl)) ?_
      have l584 := h579.le
      obtain ⟨H585, S586, E587, h588, z589⟩ := S581.frzRow h579
      replace h498 := h498.ext E587
      replace h90 := h90.ext E587
      have l590 := h498.le
      have S591 := S586.pull (F := F499) (Fr := [(is g2), F91]) 1 rfl rfl
      obtain ⟨H592, S593, E594, h595, z596⟩ := S591.frzRow h498
      replace h90 := h90.ext E594
      obtain ⟨t597, u598, M⟩ := bnd M
      refine lcall (d := 98) rfl rfl (by kernel_rfl) (e_call (l := [.const (str ([44] : List UInt8)), .tmp 96, .tmp 97]) (vs := [str ([44] : List UInt8), .slice A577 t572.length c578, .slice A496 t491.length c497]) Try.func31 (by kernel_rfl) rfl (by kernel_rfl) rfl) (spec_l2pair.calls k1_ w574 H592 ([44] : List UInt8) t572 A577 c578 t491 A496 c497 (h588.ext E594) l584 h595 l590 (St.own' (Fa := []) (Fr := [(is g2), F91]) S593) t597 u598) ?_
      rintro _ w599 ⟨A602, c603, F605, H600, rfl, h604, T601⟩
      refine ⟨_, rfl, ?_⟩
      obtain ⟨S606, K607⟩ := St.call (Fa := []) (Fr := [(is g2), F91]) S593 T601
      replace b549 := K607.blk 0 rfl b549
      replace h90 := h90.move (K607.at 1 rfl)
      have E608 := T601.ext
      replace h90 := h90.ext E608
      refine lv (d := 8) rfl rfl (by kernel_rfl) (e_assign (v := .slice A602 t597.length c603) (by kernel_rfl)) ?_
      refine wpList_nil ?_
      refine then_n ?_
      refine wp_ret ?_
      refine then_r ?_
      obtain rfl := Option.some.inj M
      have S609 := S606.pull (F := (is g2)) (Fr := [F605, F91]) 1 rfl rfl
      have S610 := St.first (Fa := [(is g2), F605]) (Fr := [F91]) S609
      exact ret1 rfl rfl  (show _ = .slice A602 t597.length c603 from (by kernel_rfl)) ⟨A602, c603, F605, H600, rfl, b549, h604, S610⟩
    replace M := ifn q509 M
    refine cond_f rfl (bvf q509 (by kernel_rfl)) ?_
    refine wp_skip ?_
    refine then_n ?_
    refine wp_seq ?_
    refine wp_seq ?_
    refine wp_region_lit ?_
    refine lv (d := 99) rfl rfl (by kernel_rfl) (e_move (v := .slice A5 x4.length c6) (by kernel_rfl)) ?_
    obtain ⟨t611, u612, M⟩ := bnd M
    refine lcall (d := 100) rfl rfl (by kernel_rfl) (e_call (l := [.tmp 99, .const (str ([33] : List UInt8)), .const (.int .i64 0)]) (vs := [.slice A5 x4.length c6, str ([33] : List UInt8), .int .i64 0]) Try.func25 (by kernel_rfl) rfl (by kernel_rfl) rfl) (spec_l2is.calls w505 H494 x4 A5 c6 ([33] : List UInt8) 0 (h7.ext (E94.trans E502)) l8 S507.own0 t611 u612) ?_
    rintro _ w613 ⟨rfl, C614⟩
    refine ⟨_, rfl, ?_⟩
    obtain ⟨S615, K616⟩ := S507.still C614
    replace h498 := h498.move (K616.at 0 rfl)
    replace h90 := h90.move (K616.at 1 rfl)
    replace b3 := K616.blk 2 rfl b3
    refine wpList_nil ?_
    refine then_n ?_
    by_cases q617 : t611 = true
    · replace M := ifp q617 M
      refine cond_t rfl (bvt q617 (by kernel_rfl)) ?_
      refine wp_seq ?_
      refine wp_region_lit ?_
      refine lv (d := 101) rfl rfl (by kernel_rfl) (e_move (v := .slice A5 x4.length c6) (by kernel_rfl)) ?_
      refine lv (d := 102) rfl rfl (by kernel_rfl) (e_move (v := .slice A496 t491.length c497) (by kernel_rfl)) ?_
      have l618 := h498.le
      obtain ⟨H619, S620, E621, h622, z623⟩ := S615.frzRow h498
      replace h90 := h90.ext E621
      obtain ⟨t624, u625, M⟩ := bnd M
      refine lcall (d := 103) rfl rfl (by kernel_rfl) (e_call (l := [.const (str ([44] : List UInt8)), .tmp 101, .tmp 102]) (vs := [str ([44] : List UInt8), .slice A5 x4.length c6, .slice A496 t491.length c497]) Try.func31 (by kernel_rfl) rfl (by kernel_rfl) rfl) (spec_l2pair.calls k1_ w613 H619 ([44] : List UInt8) x4 A5 c6 t491 A496 c497 (h7.ext ((E94.trans E502).trans E621)) l8 h622 l618 (St.own' (Fa := []) (Fr := [F91, (is g2)]) S620) t624 u625) ?_
      rintro _ w626 ⟨A629, c630, F632, H627, rfl, h631, T628⟩
      refine ⟨_, rfl, ?_⟩
      obtain ⟨S633, K634⟩ := St.call (Fa := []) (Fr := [F91, (is g2)]) S620 T628
      replace h90 := h90.move (K634.at 0 rfl)
      replace b3 := K634.blk 1 rfl b3
      have E635 := T628.ext
      replace h90 := h90.ext E635
      refine lv (d := 8) rfl rfl (by kernel_rfl) (e_assign (v := .slice A629 t624.length c630) (by kernel_rfl)) ?_
      refine wpList_nil ?_
      refine then_n ?_
      refine wp_ret ?_
      refine then_r ?_
      obtain rfl := Option.some.inj M
      have S636 := S633.pull (F := (is g2)) (Fr := [F632, F91]) 2 rfl rfl
      have S637 := St.first (Fa := [(is g2), F632]) (Fr := [F91]) S636
      exact ret1 rfl rfl  (show _ = .slice A629 t624.length c630 from (by kernel_rfl)) ⟨A629, c630, F632, H627, rfl, b3, h631, S637⟩
    replace M := ifn q617 M
    refine cond_f rfl (bvf q617 (by kernel_rfl)) ?_
    refine wp_skip ?_
    refine then_n ?_
    refine wp_seq ?_
    refine wp_seq ?_
    refine wp_region_lit ?_
    refine lv (d := 104) rfl rfl (by kernel_rfl) (e_move (v := .slice A5 x4.length c6) (by kernel_rfl)) ?_
    obtain ⟨t638, u639, M⟩ := bnd M
    refine lcall (d := 105) rfl rfl (by kernel_rfl) (e_call (l := [.tmp 104, .const (str ([123, 125] : List UInt8)), .const (.int .i64 1)]) (vs := [.slice A5 x4.length c6, str ([123, 125] : List UInt8), .int .i64 1]) Try.func25 (by kernel_rfl) rfl (by kernel_rfl) rfl) (spec_l2is.calls w613 H494 x4 A5 c6 ([123, 125] : List UInt8) 1 (h7.ext (E94.trans E502)) l8 S615.own0 t638 u639) ?_
    rintro _ w640 ⟨rfl, C641⟩
    refine ⟨_, rfl, ?_⟩
    obtain ⟨S642, K643⟩ := S615.still C641
    replace h498 := h498.move (K643.at 0 rfl)
    replace h90 := h90.move (K643.at 1 rfl)
    replace b3 := K643.blk 2 rfl b3
    refine wpList_nil ?_
    refine then_n ?_
    by_cases q644 : t638 = true
    · replace M := ifp q644 M
      refine cond_t rfl (bvt q644 (by kernel_rfl)) ?_
      refine wp_seq ?_
      refine wp_region_lit ?_
      refine lv (d := 106) rfl rfl (by kernel_rfl) (e_move (v := .slice A88 t83.length c89) (by kernel_rfl)) ?_
      obtain ⟨q645, M⟩ := chk M
      obtain ⟨b646, e648⟩ := Row.addr h90 (show 0 < t83.length by omega)
      refine lv (d := 107) rfl rfl (by kernel_rfl) (e_indexAddr (b := b646) (off := 0) (n := t83.length) (c := c89) (sz := 1) (i := 0) (k := .i64) Try.underlying50 e648 (by kernel_rfl) (by kernel_rfl) rfl (by omega) q645) ?_
      obtain ⟨y649, F650, r651, s652, k653⟩ := Row.at h90 e648 (getD_some ([] : List Cell) (show 0 < t83.length by omega))
      obtain ⟨A654, c655, rfl, l656, h657⟩ := r651
      refine lv (d := 108) rfl rfl (by kernel_rfl) (e_load1 (ad := ⟨b646, 0 + (0 : Int).toNat * 1, none⟩) (v := .slice A654 (t83.getD 0 ([] : List Cell)).length c655) Try.underlying24 rfl (by kernel_rfl) (hpx (k653 0 _ rfl))) ?_
      refine lv (d := 109) rfl rfl (by kernel_rfl) (e_move (v := .slice A496 t491.length c497) (by kernel_rfl)) ?_
      have l658 := h498.le
      obtain ⟨H659, S660, E661, h662, z663⟩ := S642.frzRow h498
      replace h90 := h90.ext E661
      obtain ⟨t664, u665, M⟩ := bnd M
      refine lcall (d := 110) rfl rfl (by kernel_rfl) (e_call (l := [.const (str ([44] : List UInt8)), .tmp 108, .tmp 109]) (vs := [str ([44] : List UInt8), .slice A654 (t83.getD 0 ([] : List Cell)).length c655, .slice A496 t491.length c497]) Try.func31 (by kernel_rfl) rfl (by kernel_rfl) rfl) (spec_l2pair.calls k1_ w640 H659 ([44] : List UInt8) (t83.getD 0 ([] : List Cell)) A654 c655 t491 A496 c497 (h657.ext E661) l656 h662 l658 (St.own' (Fa := []) (Fr := [F91, (is g2)]) S660) t664 u665) ?_
      rintro _ w666 ⟨A669, c670, F672, H667, rfl, h671, T668⟩
      refine ⟨_, rfl, ?_⟩
      obtain ⟨S673, K674⟩ := St.call (Fa := []) (Fr := [F91, (is g2)]) S660 T668
      replace h90 := h90.move (K674.at 0 rfl)
      replace b3 := K674.blk 1 rfl b3
      have E675 := T668.ext
      replace h90 := h90.ext E675
      refine lv (d := 8) rfl rfl (by kernel_rfl) (e_assign (v := .slice A669 t664.length c670) (by kernel_rfl)) ?_
      refine wpList_nil ?_
      refine then_n ?_
      refine wp_ret ?_
      refine then_r ?_
      obtain rfl := Option.some.inj M
      have S676 := S673.pull (F := (is g2)) (Fr := [F672, F91]) 2 rfl rfl
      have S677 := St.first (Fa := [(is g2), F672]) (Fr := [F91]) S676
      exact ret1 rfl rfl  (show _ = .slice A669 t664.length c670 from (by kernel_rfl)) ⟨A669, c670, F672, H667, rfl, b3, h671, S677⟩
    replace M := ifn q644 M
    refine cond_f rfl (bvf q644 (by kernel_rfl)) ?_
    refine wp_skip ?_
    refine then_n ?_
    refine wp_seq ?_
    refine wp_seq ?_
    refine wp_region_lit ?_
    refine lv (d := 111) rfl rfl (by kernel_rfl) (e_move (v := .slice A5 x4.length c6) (by kernel_rfl)) ?_
    obtain ⟨t678, u679, M⟩ := bnd M
    refine lcall (d := 112) rfl rfl (by kernel_rfl) (e_call (l := [.tmp 111, .const (str ([91, 93] : List UInt8)), .const (.int .i64 0)]) (vs := [.slice A5 x4.length c6, str ([91, 93] : List UInt8), .int .i64 0]) Try.func25 (by kernel_rfl) rfl (by kernel_rfl) rfl) (spec_l2is.calls w640 H494 x4 A5 c6 ([91, 93] : List UInt8) 0 (h7.ext (E94.trans E502)) l8 S642.own0 t678 u679) ?_
    rintro _ w680 ⟨rfl, C681⟩
    refine ⟨_, rfl, ?_⟩
    obtain ⟨S682, K683⟩ := S642.still C681
    replace h498 := h498.move (K683.at 0 rfl)
    replace h90 := h90.move (K683.at 1 rfl)
    replace b3 := K683.blk 2 rfl b3
    refine lv (d := 113) rfl rfl (by kernel_rfl) (e_move (v := .bool t678) (by kernel_rfl)) ?_
    by_cases q684 : t678 = true
    · replace M := ifp q684 M
      refine lskip (t := 113) (c := true) rfl (by kernel_rfl) rfl (bvt q684 (by kernel_rfl)) rfl rfl ?_
      refine lskip (t := 113) (c := true) rfl (by kernel_rfl) rfl (bvt q684 (by kernel_rfl)) rfl rfl ?_
      refine lv (d := 116) rfl rfl (by kernel_rfl) (e_pick_t (v := .bool true) (bvt q684 (by kernel_rfl)) rfl) ?_
      refine wpList_nil ?_
      refine then_n ?_
      refine cond_t rfl (by kernel_rfl) ?_
      refine wp_seq ?_
      refine wp_region_lit ?_
      refine lv (d := 117) rfl rfl (by kernel_rfl) (e_move (v := .pointer (some ⟨g2, 0, none⟩)) (by kernel_rfl)) ?_
      refine lv (d := 118) rfl rfl (by kernel_rfl) (e_move (v := .slice A5 x4.length c6) (by kernel_rfl)) ?_
      refine lv (d := 119) rfl rfl (by kernel_rfl) (e_move (v := .slice A10 x9.length c11) (by kernel_rfl)) ?_
      refine lv (d := 120) rfl rfl (by kernel_rfl) (e_move (v := .slice A15 x14.length c16) (by kernel_rfl)) ?_
      have S685 := S682.pull (F := (is g2)) (Fr := [F499, F91]) 2 rfl rfl
      obtain ⟨t686, u687, M⟩ := bnd M
      refine lcall (d := 121) rfl rfl (by kernel_rfl) (e_call (l := [.tmp 117, .tmp 118, .tmp 119, .tmp 120]) (vs := [.pointer (some ⟨g2, 0, none⟩), .slice A5 x4.length c6, .slice A10 x9.length c11, .slice A15 x14.length c16]) Try.func32 (by kernel_rfl) rfl (by kernel_rfl) rfl) (spec_l8terminals.calls k1_ w680 H494 x1 g2 x4 A5 c6 x9 A10 c11 x14 A15 c16 b3 (h7.ext (E94.trans E502)) l8 (h12.ext (E94.trans E502)) l13 (h17.ext (E94.trans E502)) l18 (St.own' (Fa := [(is g2)]) (Fr := [F499, F91]) S685) t686 u687) ?_
      rintro _ w688 ⟨A692, c693, F695, H689, rfl, b691, h694, T690⟩
      refine ⟨_, rfl, ?_⟩
      obtain ⟨S696, K697⟩ := St.call (Fa := [(is g2)]) (Fr := [F499, F91]) S685 T690
      replace h498 := h498.move (K697.at 0 rfl)
      replace h90 := h90.move (K697.at 1 rfl)
      have E698 := T690.ext
      replace h498 := h498.ext E698
      replace h90 := h90.ext E698
      refine lv (d := 8) rfl rfl (by kernel_rfl) (e_assign (v := .slice A692 t686.1.length c693) (by kernel_rfl)) ?_
      refine wpList_nil ?_
      refine then_n ?_
      refine wp_ret ?_
      refine then_r ?_
      obtain rfl := Option.some.inj M
      have S699 := S696.pull (F := F695) (Fr := [(is g2), F499, F91]) 1 rfl rfl
      have S700 := S699.pull (F := (is g2)) (Fr := [F695, F499, F91]) 1 rfl rfl
      have S701 := St.first (Fa := [(is g2), F695]) (Fr := [F499, F91]) S700
      exact ret1 rfl rfl  (show _ = .slice A692 t686.1.length c693 from (by kernel_rfl)) ⟨A692, c693, F695, H689, rfl, b691, h694, S701⟩
    replace M := ifn q684 M
    refine lvg (d := 114) (t := 113) rfl (by kernel_rfl) rfl (bvf q684 (by kernel_rfl)) rfl (by kernel_rfl) (e_move (v := .slice A5 x4.length c6) (by kernel_rfl)) ?_
    obtain ⟨t702, u703, M⟩ := bnd M
    refine lcallg (d := 115) (t := 113) rfl (by kernel_rfl) rfl (bvf q684 (by kernel_rfl)) rfl (by kernel_rfl) (e_call (l := [.tmp 114, .const (str ([46] : List UInt8)), .const (.int .i64 2)]) (vs := [.slice A5 x4.length c6, str ([46] : List UInt8), .int .i64 2]) Try.func25 (by kernel_rfl) rfl (by kernel_rfl) rfl) (spec_l2is.calls w680 H494 x4 A5 c6 ([46] : List UInt8) 2 (h7.ext (E94.trans E502)) l8 S682.own0 t702 u703) ?_
    rintro _ w704 ⟨rfl, C705⟩
    refine ⟨_, rfl, ?_⟩
    obtain ⟨S706, K707⟩ := S682.still C705
    replace h498 := h498.move (K707.at 0 rfl)
    replace h90 := h90.move (K707.at 1 rfl)
    replace b3 := K707.blk 2 rfl b3
    refine lv (d := 116) rfl rfl (by kernel_rfl) (e_pick_f (v := .bool t702) (bvf q684 (by kernel_rfl)) (by kernel_rfl)) ?_
    refine wpList_nil ?_
    refine then_n ?_
    by_cases q708 : t702 = true
    · replace M := ifp q708 M
      refine cond_t rfl (bvt q708 (by kernel_rfl)) ?_
      refine wp_seq ?_
      refine wp_region_lit ?_
      refine lv (d := 117) rfl rfl (by kernel_rfl) (e_move (v := .pointer (some ⟨g2, 0, none⟩)) (by kernel_rfl)) ?_
      refine lv (d := 118) rfl rfl (by kernel_rfl) (e_move (v := .slice A5 x4.length c6) (by kernel_rfl)) ?_
      refine lv (d := 119) rfl rfl (by kernel_rfl) (e_move (v := .slice A10 x9.length c11) (by kernel_rfl)) ?_
      refine lv (d := 120) rfl rfl (by kernel_rfl) (e_move (v := .slice A15 x14.length c16) (by kernel_rfl)) ?_
      have S709 := S706.pull (F := (is g2)) (Fr := [F499, F91]) 2 rfl rfl
      obtain ⟨t710, u711, M⟩ := bnd M
      refine lcall (d := 121) rfl rfl (by kernel_rfl) (e_call (l := [.tmp 117, .tmp 118, .tmp 119, .tmp 120]) (vs := [.pointer (some ⟨g2, 0, none⟩), .slice A5 x4.length c6, .slice A10 x9.length c11, .slice A15 x14.length c16]) Try.func32 (by kernel_rfl) rfl (by kernel_rfl) rfl) (spec_l8terminals.calls k1_ w704 H494 x1 g2 x4 A5 c6 x9 A10 c11 x14 A15 c16 b3 (h7.ext (E94.trans E502)) l8 (h12.ext (E94.trans E502)) l13 (h17.ext (E94.trans E502)) l18 (St.own' (Fa := [(is g2)]) (Fr := [F499, F91]) S709) t710 u711) ?_
      rintro _ w712 ⟨A716, c717, F719, H713, rfl, b715, h718, T714⟩
      refine ⟨_, rfl, ?_⟩
      obtain ⟨S720, K721⟩ := St.call (Fa := [(is g2)]) (Fr := [F499, F91]) S709 T714
      replace h498 := h498.move (K721.at 0 rfl)
      replace h90 := h90.move (K721.at 1 rfl)
      have E722 := T714.ext
      replace h498 := h498.ext E722
      replace h90 := h90.ext E722
      refine lv (d := 8) rfl rfl (by kernel_rfl) (e_assign (v := .slice A716 t710.1.length c717) (by kernel_rfl)) ?_
      refine wpList_nil ?_
      refine then_n ?_
      refine wp_ret ?_
      refine then_r ?_
      obtain rfl := Option.some.inj M
      have S723 := S720.pull (F := F719) (Fr := [(is g2), F499, F91]) 1 rfl rfl
      have S724 := S723.pull (F := (is g2)) (Fr := [F719, F499, F91]) 1 rfl rfl
      have S725 := St.first (Fa := [(is g2), F719]) (Fr := [F499, F91]) S724
      exact ret1 rfl rfl  (show _ = .slice A716 t710.1.length c717 from (by kernel_rfl)) ⟨A716, c717, F719, H713, rfl, b715, h718, S725⟩
    replace M := ifn q708 M
    refine cond_f rfl (bvf q708 (by kernel_rfl)) ?_
    refine wp_skip ?_
    refine then_n ?_
    refine wp_seq ?_
    refine wp_region_lit ?_
    refine lv (d := 122) rfl rfl (by kernel_rfl) (e_move (v := .pointer (some ⟨g2, 0, none⟩)) (by kernel_rfl)) ?_
    refine lv (d := 123) rfl rfl (by kernel_rfl) (e_move (v := .slice A5 x4.length c6) (by kernel_rfl)) ?_
    refine lv (d := 124) rfl rfl (by kernel_rfl) (e_move (v := .slice A10 x9.length c11) (by kernel_rfl)) ?_
    refine lv (d := 125) rfl rfl (by kernel_rfl) (e_move (v := .slice A15 x14.length c16) (by kernel_rfl)) ?_
    have S726 := S706.pull (F := (is g2)) (Fr := [F499, F91]) 2 rfl rfl
    obtain ⟨t727, u728, M⟩ := bnd M
    refine lcall (d := 126) rfl rfl (by kernel_rfl) (e_call (l := [.tmp 122, .tmp 123, .tmp 124, .tmp 125]) (vs := [.pointer (some ⟨g2, 0, none⟩), .slice A5 x4.length c6, .slice A10 x9.length c11, .slice A15 x14.length c16]) Try.func29 (by kernel_rfl) rfl (by kernel_rfl) rfl) (spec_l8more.calls k1_ w704 H494 x1 g2 x4 A5 c6 x9 A10 c11 x14 A15 c16 b3 (h7.ext (E94.trans E502)) l8 (h12.ext (E94.trans E502)) l13 (h17.ext (E94.trans E502)) l18 (St.own' (Fa := [(is g2)]) (Fr := [F499, F91]) S726) t727 u728) ?_
    rintro _ w729 ⟨A733, c734, F736, H730, rfl, b732, h735, T731⟩
    refine ⟨_, rfl, ?_⟩
    obtain ⟨S737, K738⟩ := St.call (Fa := [(is g2)]) (Fr := [F499, F91]) S726 T731
    replace h498 := h498.move (K738.at 0 rfl)
    replace h90 := h90.move (K738.at 1 rfl)
    have E739 := T731.ext
    replace h498 := h498.ext E739
    replace h90 := h90.ext E739
    refine lv (d := 8) rfl rfl (by kernel_rfl) (e_assign (v := .slice A733 t727.1.length c734) (by kernel_rfl)) ?_
    refine wpList_nil ?_
    refine then_n ?_
    refine wp_ret ?_
    obtain rfl := Option.some.inj M
    have S740 := S737.pull (F := F736) (Fr := [(is g2), F499, F91]) 1 rfl rfl
    have S741 := S740.pull (F := (is g2)) (Fr := [F736, F499, F91]) 1 rfl rfl
    have S742 := St.first (Fa := [(is g2), F736]) (Fr := [F499, F91]) S741
    exact ret1 rfl rfl  (show _ = .slice A733 t727.1.length c734 from (by kernel_rfl)) ⟨A733, c734, F736, H730, rfl, b732, h735, S742⟩
theorem spec_l8phrase.calls (k : Nat) (w : World) (H : Hp) (x1 : GL8gram) (g2 : Nat) (x4 : List Cell) (A5 : Option Addr) (c6 : Nat) (x9 : List Cell) (A10 : Option Addr) (c11 : Nat) (x14 : List Cell) (A15 : Option Addr) (c16 : Nat) (b3 : w.heap[g2]? = some (.cells #[.int .i64 x1.next_, .int .i64 x1.code_] 49 (0, 0))) (h7 : Rd st36 H A5 x4) (l8 : x4.length ≤ c6) (h12 : Rd st36 H A10 x9) (l13 : x9.length ≤ c11) (h17 : Rd st36 H A15 x14) (l18 : x14.length ≤ c16) (S : Own [(is g2)] H w) (r : (List Cell) × GL8gram) (M : spec_l8phrase.f k x1 x4 x9 x14 = some r) :
    Calls Try.prog 30 #[.pointer (some ⟨g2, 0, none⟩), .slice A5 x4.length c6, .slice A10 x9.length c11, .slice A15 x14.length c16] w (fun e e_w => ∃ (A_1 : Option Addr) (c_1 : Nat) (F_1 : Foot) (H_ : Hp), e = .returned (.slice A_1 r.1.length c_1) ∧ e_w.heap[g2]? = some (.cells #[.int .i64 r.2.next_, .int .i64 r.2.code_] 49 (0, 0)) ∧ Row st36 36 H_ (hp e_w) F_1 A_1 c_1 r.1 ∧ St (anyOf [(is g2)]) H w [(is g2), F_1] H_ e_w) := (spec_l8phrase.all (k + 1)) k (Nat.lt_succ_self k) w H x1 g2 x4 A5 c6 x9 A10 c11 x14 A15 c16 b3 h7 l8 h12 l13 h17 l18 S r M

/-! spec_TranslateGrammar -/
def spec_TranslateGrammar.l1 (k : Nat) (t214 : (List Cell) × GL8gram) (x231 : List Cell) (x236 : Int) (x237 : Int) : Option ((List Cell) × Int) := (if x237 ≠ 0 then some ([], x237) else ((spec_l2pair.f k ([58, 45] : List UInt8) t214.1 x231).bind fun t384 => (if (t384.length : Int) > 2000 then some ([], 3) else (if (IntKind.i64.wrap (x236 - 1)) > 1000000 then some ([], 3) else some (t384, 0)))))
def spec_TranslateGrammar.l0 (k : Nat) (t22 : Int) (t33 : List (List Cell)) (x62 : List Cell) (x67 : List Cell) : Option ((List Cell) × Int) := (if 0 < (x62.length : Int) then (if ((x62.getD 0 z36).kind) = 0 then some ([], 4) else (if ((x62.getD 0 z36).kind) = 1 then some ([], 4) else ((spec_l2is.f x62 ([91, 93] : List UInt8) 0).bind fun t155 => (if t155 = true then some ([], 4) else ((spec_l2is.f x62 ([46] : List UInt8) 2).bind fun t164 => (if t164 = true then some ([], 4) else ((spec_l8new.f (⟨(IntKind.i64.wrap (t22 + 1)), 0⟩ : GL8gram)).bind fun t174 => ((spec_l8new.f t174.2).bind fun t187 => ((spec_l8more.f k t187.2 x62 t174.1 t187.1).bind fun t214 => (if (x67.length : Int) > 0 then ((spec_l8new.f t214.2).bind fun t246 => (if 1 < (t33.length : Int) then ((spec_l8phrase.f k t246.2 (t33.getD 1 ([] : List Cell)) t174.1 t246.1).bind fun t279 => ((spec_l8terminals.f k t279.2 x67 t187.1 t246.1).bind fun t292 => ((spec_l2pair.f k ([44] : List UInt8) t279.1 t292.1).bind fun t319 => (spec_TranslateGrammar.l1 k t214 t319 t292.2.next_ t292.2.code_)))) else none)) else (if 1 < (t33.length : Int) then ((spec_l8phrase.f k t214.2 (t33.getD 1 ([] : List Cell)) t174.1 t187.1).bind fun t347 => (spec_TranslateGrammar.l1 k t214 t347.1 t347.2.next_ t347.2.code_)) else none))))))))))) else none)
def spec_TranslateGrammar.f (k : Nat) (x1 : List Cell) : Option ((List Cell) × Int) := ((spec_ValidTerm.f k x1).bind fun t6 => (if ¬ (t6 = true) then some ([], 1) else ((spec_l2is.f x1 ([45, 45, 62] : List UInt8) 2).bind fun t14 => (if ¬ (t14 = true) then some ([], 1) else ((spec_l8maxVar.f k x1).bind fun t22 => ((spec_l2args.f k x1).bind fun t33 => (if 0 < (t33.length : Int) then ((spec_l2is.f (t33.getD 0 ([] : List Cell)) ([44] : List UInt8) 2).bind fun t80 => (if t80 = true then ((spec_l2args.f k (t33.getD 0 ([] : List Cell))).bind fun t87 => (if 0 < (t87.length : Int) then (if 1 < (t87.length : Int) then (spec_TranslateGrammar.l0 k t22 t33 (t87.getD 0 ([] : List Cell)) (t87.getD 1 ([] : List Cell))) else none) else none)) else (spec_TranslateGrammar.l0 k t22 t33 (t33.getD 0 ([] : List Cell)) []))) else none)))))))
theorem spec_TranslateGrammar.calls (k : Nat) (w : World) (H : Hp) (x1 : List Cell) (A2 : Option Addr) (c3 : Nat) (h4 : Rd st36 H A2 x1) (l5 : x1.length ≤ c3) (S : Own [] H w) (r : (List Cell) × Int) (M : spec_TranslateGrammar.f k x1 = some r) :
    Calls Try.prog 12 #[.slice A2 x1.length c3] w (fun e e_w => ∃ (A_1 : Option Addr) (c_1 : Nat) (F_1 : Foot) (H_ : Hp), e = .returned (.tuple #[.slice A_1 r.1.length c_1, .int .i64 r.2]) ∧ Row st36 36 H_ (hp e_w) F_1 A_1 c_1 r.1 ∧ St (anyOf []) H w [F_1] H_ e_w) := by
  rw [spec_TranslateGrammar.f] at M
  refine enter (l := [.slice A2 x1.length c3]) 123 Try.func12 rfl rfl rfl ?_
  have S0_ := S.st
  refine wp_seq ?_
  refine wp_region_lit ?_
  refine lv (d := 2) rfl rfl (by kernel_rfl) (e_assign (v := .slice none 0 0) rfl) ?_
  refine lv (d := 3) rfl rfl (by kernel_rfl) (e_assign (v := .int .i64 0) rfl) ?_
  refine wpList_nil ?_
  refine then_n ?_
  refine wp_seq ?_
  refine wp_seq ?_
  refine wp_region_lit ?_
  refine lv (d := 16) rfl rfl (by kernel_rfl) (e_move (v := .slice A2 x1.length c3) (by kernel_rfl)) ?_
  obtain ⟨t6, u7, M⟩ := bnd M
  refine lcall (d := 17) rfl rfl (by kernel_rfl) (e_call (l := [.tmp 16]) (vs := [.slice A2 x1.length c3]) Try.func15 (by kernel_rfl) rfl (by kernel_rfl) rfl) (spec_ValidTerm.calls k w H x1 A2 c3 h4 l5 S0_.own0 t6 u7) ?_
  rintro _ w8 ⟨rfl, C9⟩
  refine ⟨_, rfl, ?_⟩
  obtain ⟨S10, K11⟩ := S0_.still C9
  refine lv (d := 18) rfl rfl (by kernel_rfl) (e_notv (c := t6) (by kernel_rfl)) ?_
  refine lv (d := 19) rfl rfl (by kernel_rfl) (e_move (v := .bool (decide (¬ (t6 = true)))) (by kernel_rfl)) ?_
  by_cases q12 : ¬ (t6 = true)
  · replace M := ifp q12 M
    refine lskip (t := 19) (c := true) rfl (by kernel_rfl) rfl (bt q12 (by kernel_rfl)) rfl rfl ?_
    refine lskip (t := 19) (c := true) rfl (by kernel_rfl) rfl (bt q12 (by kernel_rfl)) rfl rfl ?_
    refine lskip (t := 19) (c := true) rfl (by kernel_rfl) rfl (bt q12 (by kernel_rfl)) rfl rfl ?_
    refine lv (d := 23) rfl rfl (by kernel_rfl) (e_pick_t (v := .bool true) (bt q12 (by kernel_rfl)) rfl) ?_
    refine wpList_nil ?_
    refine then_n ?_
    refine cond_t rfl (by kernel_rfl) ?_
    refine wp_seq ?_
    refine wp_region_lit ?_
    refine lv (d := 2) rfl rfl (by kernel_rfl) (e_assign (v := .slice none 0 0) rfl) ?_
    refine lv (d := 3) rfl rfl (by kernel_rfl) (e_assign (v := .int .i64 1) rfl) ?_
    refine wpList_nil ?_
    refine then_n ?_
    refine wp_ret ?_
    refine then_r ?_
    obtain rfl := Option.some.inj M
    have S13 := S10.unit
    exact ret2 rfl rfl rfl (show _ = .slice none 0 0 from (by kernel_rfl)) (show _ = .int .i64 1 from (by kernel_rfl)) ⟨none, 0, no, H, rfl, (Row.nil _ _ _ _ no), S13⟩
  replace M := ifn q12 M
  refine lvg (d := 20) (t := 19) rfl (by kernel_rfl) rfl (bf q12 (by kernel_rfl)) rfl (by kernel_rfl) (e_move (v := .slice A2 x1.length c3) (by kernel_rfl)) ?_
  obtain ⟨t14, u15, M⟩ := bnd M
  refine lcallg (d := 21) (t := 19) rfl (by kernel_rfl) rfl (bf q12 (by kernel_rfl)) rfl (by kernel_rfl) (e_call (l := [.tmp 20, .const (str ([45, 45, 62] : List UInt8)), .const (.int .i64 2)]) (vs := [.slice A2 x1.length c3, str ([45, 45, 62] : List UInt8), .int .i64 2]) Try.func25 (by kernel_rfl) rfl (by kernel_rfl) rfl) (spec_l2is.calls w8 H x1 A2 c3 ([45, 45, 62] : List UInt8) 2 h4 l5 S10.own0 t14 u15) ?_
  rintro _ w16 ⟨rfl, C17⟩
  refine ⟨_, rfl, ?_⟩
  obtain ⟨S18, K19⟩ := S10.still C17
  refine lvg (d := 22) (t := 19) rfl (by kernel_rfl) rfl (bf q12 (by kernel_rfl)) rfl (by kernel_rfl) (e_notv (c := t14) (by kernel_rfl)) ?_
  refine lv (d := 23) rfl rfl (by kernel_rfl) (e_pick_f (v := .bool (decide (¬ (t14 = true)))) (bf q12 (by kernel_rfl)) (by kernel_rfl)) ?_
  refine wpList_nil ?_
  refine then_n ?_
  by_cases q20 : ¬ (t14 = true)
  · replace M := ifp q20 M
    refine cond_t rfl (bt q20 (by kernel_rfl)) ?_
    refine wp_seq ?_
    refine wp_region_lit ?_
    refine lv (d := 2) rfl rfl (by kernel_rfl) (e_assign (v := .slice none 0 0) rfl) ?_
    refine lv (d := 3) rfl rfl (by kernel_rfl) (e_assign (v := .int .i64 1) rfl) ?_
    refine wpList_nil ?_
    refine then_n ?_
    refine wp_ret ?_
    refine then_r ?_
    obtain rfl := Option.some.inj M
    have S21 := S18.unit
    exact ret2 rfl rfl rfl (show _ = .slice none 0 0 from (by kernel_rfl)) (show _ = .int .i64 1 from (by kernel_rfl)) ⟨none, 0, no, H, rfl, (Row.nil _ _ _ _ no), S21⟩
  replace M := ifn q20 M
  refine cond_f rfl (bf q20 (by kernel_rfl)) ?_
  refine wp_skip ?_
  refine then_n ?_
  refine wp_seq ?_
  refine wp_region_lit ?_
  refine lv (d := 24) rfl rfl (by kernel_rfl) (e_move (v := .slice A2 x1.length c3) (by kernel_rfl)) ?_
  obtain ⟨t22, u23, M⟩ := bnd M
  refine lcall (d := 25) rfl rfl (by kernel_rfl) (e_call (l := [.tmp 24]) (vs := [.slice A2 x1.length c3]) Try.func26 (by kernel_rfl) rfl (by kernel_rfl) rfl) (spec_l8maxVar.calls k w16 H x1 A2 c3 h4 l5 S18.own0 t22 u23) ?_
  rintro _ w24 ⟨rfl, C25⟩
  refine ⟨_, rfl, ?_⟩
  obtain ⟨S26, K27⟩ := S18.still C25
  refine lv (d := 26) rfl rfl (by kernel_rfl) (e_add (k := .i64) (a := t22) (b := 1) (by kernel_rfl) rfl) ?_
  refine lv (d := 27) rfl rfl (by kernel_rfl) (show _ = Result.ok (Next.value (.agg #[.int .i64 (IntKind.i64.wrap (t22 + 1)), .int .i64 0])) w24 from by kernel_rfl) ?_
  refine lve (d := 28) rfl rfl (by kernel_rfl) (new_blk (v := fun g_ => .pointer (some ⟨g_, 0, none⟩)) (cs := #[.int .i64 (IntKind.i64.wrap (t22 + 1)), .int .i64 0]) (t := 49) S26 (by kernel_rfl)) ?_
  rintro _ w28 ⟨g29, rfl, b30, S31, K32⟩
  refine lv (d := 4) rfl rfl (by kernel_rfl) (e_assign (v := .pointer (some ⟨g29, 0, none⟩)) (by kernel_rfl)) ?_
  refine wpList_nil ?_
  refine then_n ?_
  refine wp_seq ?_
  refine wp_region_lit ?_
  refine lv (d := 29) rfl rfl (by kernel_rfl) (e_move (v := .slice A2 x1.length c3) (by kernel_rfl)) ?_
  obtain ⟨t33, u34, M⟩ := bnd M
  refine lcall (d := 30) rfl rfl (by kernel_rfl) (e_call (l := [.tmp 29]) (vs := [.slice A2 x1.length c3]) Try.func27 (by kernel_rfl) rfl (by kernel_rfl) rfl) (spec_l2args.calls k w28 H x1 A2 c3 h4 l5 (St.own' (Fa := []) (Fr := [(is g29)]) S31) t33 u34) ?_
  rintro _ w35 ⟨A38, c39, F41, H36, rfl, h40, T37⟩
  refine ⟨_, rfl, ?_⟩
  obtain ⟨S42, K43⟩ := St.call (Fa := []) (Fr := [(is g29)]) S31 T37
  replace b30 := K43.blk 0 rfl b30
  have E44 := T37.ext
  refine lv (d := 5) rfl rfl (by kernel_rfl) (e_assign (v := .slice A38 t33.length c39) (by kernel_rfl)) ?_
  refine wpList_nil ?_
  refine then_n ?_
  refine wp_seq ?_
  refine wp_region_lit ?_
  refine lv (d := 31) rfl rfl (by kernel_rfl) (e_move (v := .slice A38 t33.length c39) (by kernel_rfl)) ?_
  obtain ⟨q45, M⟩ := chk M
  obtain ⟨b46, e48⟩ := Row.addr h40 (show 0 < t33.length by omega)
  refine lv (d := 32) rfl rfl (by kernel_rfl) (e_indexAddr (b := b46) (off := 0) (n := t33.length) (c := c39) (sz := 1) (i := 0) (k := .i64) Try.underlying50 e48 (by kernel_rfl) (by kernel_rfl) rfl (by omega) q45) ?_
  obtain ⟨y49, F50, r51, s52, k53⟩ := Row.at h40 e48 (getD_some ([] : List Cell) (show 0 < t33.length by omega))
  obtain ⟨A54, c55, rfl, l56, h57⟩ := r51
  refine lv (d := 33) rfl rfl (by kernel_rfl) (e_load1 (ad := ⟨b46, 0 + (0 : Int).toNat * 1, none⟩) (v := .slice A54 (t33.getD 0 ([] : List Cell)).length c55) Try.underlying24 rfl (by kernel_rfl) (hpx (k53 0 _ rfl))) ?_
  refine lv (d := 6) rfl rfl (by kernel_rfl) (e_assign (v := .slice A54 (t33.getD 0 ([] : List Cell)).length c55) (by kernel_rfl)) ?_
  refine wpList_nil ?_
  refine then_n ?_
  refine wp_seq ?_
  refine wp_region_lit ?_
  refine lv (d := 7) rfl rfl (by kernel_rfl) (e_assign (v := .slice none 0 0) rfl) ?_
  refine wpList_nil ?_
  refine then_n ?_
  refine wp_seq_cut (fun a79 w58 => ∃ (f59 : Nat → Value) (H60 : Hp) (x62 : List Cell) (A63 : Option Addr) (c64 : Nat) (x67 : List Cell) (A68 : Option Addr) (c69 : Nat), a79 = mk 123 f59 ∧ f59 4 = .pointer (some ⟨g29, 0, none⟩) ∧ f59 5 = .slice A38 t33.length c39 ∧ f59 6 = .slice A63 x62.length c64 ∧ f59 7 = .slice A68 x67.length c69 ∧ Row (ro sl36) 24 H60 (hp w58) F41 A38 c39 t33 ∧ w58.heap[g29]? = some (.cells #[.int .i64 (IntKind.i64.wrap (t22 + 1)), .int .i64 0] 49 (0, 0)) ∧ Rd st36 H60 A63 x62 ∧ x62.length ≤ c64 ∧ Rd st36 H60 A68 x67 ∧ x67.length ≤ c69 ∧ Ext H36 H60 ∧ St (anyOf []) H w [F41, (is g29)] H60 w58 ∧ spec_TranslateGrammar.l0 k t22 t33 x62 x67 = some r) ?_ ?_
  · refine wp_seq ?_
    refine wp_region_lit ?_
    refine lv (d := 34) rfl rfl (by kernel_rfl) (e_move (v := .slice A54 (t33.getD 0 ([] : List Cell)).length c55) (by kernel_rfl)) ?_
    obtain ⟨t80, u81, M⟩ := bnd M
    refine lcall (d := 35) rfl rfl (by kernel_rfl) (e_call (l := [.tmp 34, .const (str ([44] : List UInt8)), .const (.int .i64 2)]) (vs := [.slice A54 (t33.getD 0 ([] : List Cell)).length c55, str ([44] : List UInt8), .int .i64 2]) Try.func25 (by kernel_rfl) rfl (by kernel_rfl) rfl) (spec_l2is.calls w35 H36 (t33.getD 0 ([] : List Cell)) A54 c55 ([44] : List UInt8) 2 h57 l56 S42.own0 t80 u81) ?_
    rintro _ w82 ⟨rfl, C83⟩
    refine ⟨_, rfl, ?_⟩
    obtain ⟨S84, K85⟩ := S42.still C83
    replace h40 := h40.move (K85.at 0 rfl)
    replace b30 := K85.blk 1 rfl b30
    refine wpList_nil ?_
    refine then_n ?_
    by_cases q86 : t80 = true
    · replace M := ifp q86 M
      refine cond_t rfl (bvt q86 (by kernel_rfl)) ?_
      refine wp_seq ?_
      refine wp_region_lit ?_
      refine lv (d := 36) rfl rfl (by kernel_rfl) (e_move (v := .slice A54 (t33.getD 0 ([] : List Cell)).length c55) (by kernel_rfl)) ?_
      obtain ⟨t87, u88, M⟩ := bnd M
      refine lcall (d := 37) rfl rfl (by kernel_rfl) (e_call (l := [.tmp 36]) (vs := [.slice A54 (t33.getD 0 ([] : List Cell)).length c55]) Try.func27 (by kernel_rfl) rfl (by kernel_rfl) rfl) (spec_l2args.calls k w82 H36 (t33.getD 0 ([] : List Cell)) A54 c55 h57 l56 (St.own' (Fa := []) (Fr := [F41, (is g29)]) S84) t87 u88) ?_
      rintro _ w89 ⟨A92, c93, F95, H90, rfl, h94, T91⟩
      refine ⟨_, rfl, ?_⟩
      obtain ⟨S96, K97⟩ := St.call (Fa := []) (Fr := [F41, (is g29)]) S84 T91
      replace h40 := h40.move (K97.at 0 rfl)
      replace b30 := K97.blk 1 rfl b30
      have E98 := T91.ext
      replace h40 := h40.ext E98
      refine lv (d := 8) rfl rfl (by kernel_rfl) (e_assign (v := .slice A92 t87.length c93) (by kernel_rfl)) ?_
      refine wpList_nil ?_
      refine then_n ?_
      refine wp_seq ?_
      refine wp_region_lit ?_
      refine lv (d := 38) rfl rfl (by kernel_rfl) (e_move (v := .slice A92 t87.length c93) (by kernel_rfl)) ?_
      obtain ⟨q99, M⟩ := chk M
      obtain ⟨b100, e102⟩ := Row.addr h94 (show 0 < t87.length by omega)
      refine lv (d := 39) rfl rfl (by kernel_rfl) (e_indexAddr (b := b100) (off := 0) (n := t87.length) (c := c93) (sz := 1) (i := 0) (k := .i64) Try.underlying50 e102 (by kernel_rfl) (by kernel_rfl) rfl (by omega) q99) ?_
      obtain ⟨y103, F104, r105, s106, k107⟩ := Row.at h94 e102 (getD_some ([] : List Cell) (show 0 < t87.length by omega))
      obtain ⟨A108, c109, rfl, l110, h111⟩ := r105
      refine lv (d := 40) rfl rfl (by kernel_rfl) (e_load1 (ad := ⟨b100, 0 + (0 : Int).toNat * 1, none⟩) (v := .slice A108 (t87.getD 0 ([] : List Cell)).length c109) Try.underlying24 rfl (by kernel_rfl) (hpx (k107 0 _ rfl))) ?_
      refine lv (d := 6) rfl rfl (by kernel_rfl) (e_assign (v := .slice A108 (t87.getD 0 ([] : List Cell)).length c109) (by kernel_rfl)) ?_
      refine wpList_nil ?_
      refine then_n ?_
      refine wp_region_lit ?_
      refine lv (d := 41) rfl rfl (by kernel_rfl) (e_move (v := .slice A92 t87.length c93) (by kernel_rfl)) ?_
      obtain ⟨q112, M⟩ := chk M
      obtain ⟨b113, e115⟩ := Row.addr h94 (show 1 < t87.length by omega)
      refine lv (d := 42) rfl rfl (by kernel_rfl) (e_indexAddr (b := b113) (off := 0) (n := t87.length) (c := c93) (sz := 1) (i := 1) (k := .i64) Try.underlying50 e115 (by kernel_rfl) (by kernel_rfl) rfl (by omega) q112) ?_
      obtain ⟨y116, F117, r118, s119, k120⟩ := Row.at h94 e115 (getD_some ([] : List Cell) (show 1 < t87.length by omega))
      obtain ⟨A121, c122, rfl, l123, h124⟩ := r118
      refine lv (d := 43) rfl rfl (by kernel_rfl) (e_load1 (ad := ⟨b113, 0 + (1 : Int).toNat * 1, none⟩) (v := .slice A121 (t87.getD 1 ([] : List Cell)).length c122) Try.underlying24 rfl (by kernel_rfl) (hpx (k120 0 _ rfl))) ?_
      refine lv (d := 7) rfl rfl (by kernel_rfl) (e_assign (v := .slice A121 (t87.getD 1 ([] : List Cell)).length c122) (by kernel_rfl)) ?_
      refine wpList_nil ?_
      refine then_n ?_
      have S125 := S96.pull (F := (is g29)) (Fr := [F95, F41]) 2 rfl rfl
      have S126 := S125.pull (F := F41) (Fr := [(is g29), F95]) 2 rfl rfl
      have S127 := St.first (Fa := [F41, (is g29)]) (Fr := [F95]) S126
      exact ⟨_, H90, (t87.getD 0 ([] : List Cell)), A108, c109, (t87.getD 1 ([] : List Cell)), A121, c122, rfl, (by kernel_rfl), (by kernel_rfl), (by kernel_rfl), (by kernel_rfl), h40, b30, h111, l110, h124, l123, E98, S127, M⟩
    replace M := ifn q86 M
    refine cond_f rfl (bvf q86 (by kernel_rfl)) ?_
    refine wp_skip ?_
    refine then_n ?_
    exact ⟨_, H36, (t33.getD 0 ([] : List Cell)), A54, c55, [], none, 0, rfl, (by kernel_rfl), (by kernel_rfl), (by kernel_rfl), (by kernel_rfl), h40, b30, h57, l56, (Rd.nil _ _ _), (Nat.le_refl _), (Ext.refl _), S84, M⟩
  clear M
  rintro a79 w58 ⟨f59, H60, x62, A63, c64, x67, A68, c69, rfl, e72, e73, e74, e75, h40, b30, h65, l66, h70, l71, Y61, S76, M⟩
  rw [spec_TranslateGrammar.l0] at M
  refine wp_seq ?_
  refine wp_seq ?_
  refine wp_region_lit ?_
  refine lv (d := 44) rfl rfl (by kernel_rfl) (e_move (v := .slice A63 x62.length c64) (by exact e74)) ?_
  obtain ⟨q128, M⟩ := chk M
  obtain ⟨b129, o130, e131⟩ := Rd.addr h65 (show 0 < x62.length by omega)
  obtain ⟨y132, r133, k134⟩ := Rd.at h65 e131 (getD_some z36 (show 0 < x62.length by omega))
  obtain ⟨A135, c136, rfl, l137, h138⟩ := st36_open r133
  refine lv (d := 45) rfl rfl (by kernel_rfl) (e_indexAddr (b := b129) (off := o130) (n := x62.length) (c := c64) (sz := 3) (i := 0) (k := .i64) Try.underlying24 e131 (by kernel_rfl) (by kernel_rfl) rfl (by omega) q128) ?_
  refine lv (d := 46) rfl rfl (by kernel_rfl) (e_fieldAddr (b := b129) (off := o130 + (0 : Int).toNat * 3) (o := 0) Try.underlying36 rfl rfl (sz := 1) (by kernel_rfl) (by decide) (by kernel_rfl)) ?_
  refine lv (d := 47) rfl rfl (by kernel_rfl) (e_load1 (ad := ⟨b129, o130 + (0 : Int).toNat * 3 + 0, none⟩) (v := .int .i64 ((x62.getD 0 z36).kind)) Try.underlying3 rfl (by kernel_rfl) (hpx (S76.inv.cell (k134 0 _ rfl)))) ?_
  refine lv (d := 48) rfl rfl (by kernel_rfl) (e_eql (k := .i64) (a := (x62.getD 0 z36).kind) (b := 0) (by kernel_rfl) rfl) ?_
  refine lv (d := 49) rfl rfl (by kernel_rfl) (e_move (v := .bool (decide (((x62.getD 0 z36).kind) = 0))) (by kernel_rfl)) ?_
  by_cases q139 : ((x62.getD 0 z36).kind) = 0
  · replace M := ifp q139 M
    refine lskip (t := 49) (c := true) rfl (by kernel_rfl) rfl (bt q139 (by kernel_rfl)) rfl rfl ?_
    refine lskip (t := 49) (c := true) rfl (by kernel_rfl) rfl (bt q139 (by kernel_rfl)) rfl rfl ?_
    refine lskip (t := 49) (c := true) rfl (by kernel_rfl) rfl (bt q139 (by kernel_rfl)) rfl rfl ?_
    refine lskip (t := 49) (c := true) rfl (by kernel_rfl) rfl (bt q139 (by kernel_rfl)) rfl rfl ?_
    refine lskip (t := 49) (c := true) rfl (by kernel_rfl) rfl (bt q139 (by kernel_rfl)) rfl rfl ?_
    refine lv (d := 55) rfl rfl (by kernel_rfl) (e_pick_t (v := .bool true) (bt q139 (by kernel_rfl)) rfl) ?_
    refine lv (d := 56) rfl rfl (by kernel_rfl) (e_move (v := .bool true) (by kernel_rfl)) ?_
    refine lskip (t := 56) (c := true) rfl (by kernel_rfl) rfl (by kernel_rfl) rfl rfl ?_
    refine lskip (t := 56) (c := true) rfl (by kernel_rfl) rfl (by kernel_rfl) rfl rfl ?_
    refine lv (d := 59) rfl rfl (by kernel_rfl) (e_pick_t (v := .bool true) (by kernel_rfl) rfl) ?_
    refine lv (d := 60) rfl rfl (by kernel_rfl) (e_move (v := .bool true) (by kernel_rfl)) ?_
    refine lskip (t := 60) (c := true) rfl (by kernel_rfl) rfl (by kernel_rfl) rfl rfl ?_
    refine lskip (t := 60) (c := true) rfl (by kernel_rfl) rfl (by kernel_rfl) rfl rfl ?_
    refine lv (d := 63) rfl rfl (by kernel_rfl) (e_pick_t (v := .bool true) (by kernel_rfl) rfl) ?_
    refine wpList_nil ?_
    refine then_n ?_
    refine cond_t rfl (by kernel_rfl) ?_
    refine wp_seq ?_
    refine wp_region_lit ?_
    refine lv (d := 2) rfl rfl (by kernel_rfl) (e_assign (v := .slice none 0 0) rfl) ?_
    refine lv (d := 3) rfl rfl (by kernel_rfl) (e_assign (v := .int .i64 4) rfl) ?_
    refine wpList_nil ?_
    refine then_n ?_
    refine wp_ret ?_
    refine then_r ?_
    obtain rfl := Option.some.inj M
    have S140 := S76.unit
    have S141 := St.first (Fa := [no]) (Fr := [F41, (is g29)]) S140
    exact ret2 rfl rfl rfl (show _ = .slice none 0 0 from (by kernel_rfl)) (show _ = .int .i64 4 from (by kernel_rfl)) ⟨none, 0, no, H60, rfl, (Row.nil _ _ _ _ no), S141⟩
  replace M := ifn q139 M
  refine lvg (d := 50) (t := 49) rfl (by kernel_rfl) rfl (bf q139 (by kernel_rfl)) rfl (by kernel_rfl) (e_move (v := .slice A63 x62.length c64) (by exact e74)) ?_
  obtain ⟨b142, o143, e144⟩ := Rd.addr h65 (show 0 < x62.length by omega)
  obtain ⟨y145, r146, k147⟩ := Rd.at h65 e144 (getD_some z36 (show 0 < x62.length by omega))
  obtain ⟨A148, c149, rfl, l150, h151⟩ := st36_open r146
  refine lvg (d := 51) (t := 49) rfl (by kernel_rfl) rfl (bf q139 (by kernel_rfl)) rfl (by kernel_rfl) (e_indexAddr (b := b142) (off := o143) (n := x62.length) (c := c64) (sz := 3) (i := 0) (k := .i64) Try.underlying24 e144 (by kernel_rfl) (by kernel_rfl) rfl (by omega) q128) ?_
  refine lvg (d := 52) (t := 49) rfl (by kernel_rfl) rfl (bf q139 (by kernel_rfl)) rfl (by kernel_rfl) (e_fieldAddr (b := b142) (off := o143 + (0 : Int).toNat * 3) (o := 0) Try.underlying36 rfl rfl (sz := 1) (by kernel_rfl) (by decide) (by kernel_rfl)) ?_
  refine lvg (d := 53) (t := 49) rfl (by kernel_rfl) rfl (bf q139 (by kernel_rfl)) rfl (by kernel_rfl) (e_load1 (ad := ⟨b142, o143 + (0 : Int).toNat * 3 + 0, none⟩) (v := .int .i64 ((x62.getD 0 z36).kind)) Try.underlying3 rfl (by kernel_rfl) (hpx (S76.inv.cell (k147 0 _ rfl)))) ?_
  refine lvg (d := 54) (t := 49) rfl (by kernel_rfl) rfl (bf q139 (by kernel_rfl)) rfl (by kernel_rfl) (e_eql (k := .i64) (a := (x62.getD 0 z36).kind) (b := 1) (by kernel_rfl) rfl) ?_
  refine lv (d := 55) rfl rfl (by kernel_rfl) (e_pick_f (v := .bool (decide (((x62.getD 0 z36).kind) = 1))) (bf q139 (by kernel_rfl)) (by kernel_rfl)) ?_
  refine lv (d := 56) rfl rfl (by kernel_rfl) (e_move (v := .bool (decide (((x62.getD 0 z36).kind) = 1))) (by kernel_rfl)) ?_
  by_cases q152 : ((x62.getD 0 z36).kind) = 1
  · replace M := ifp q152 M
    refine lskip (t := 56) (c := true) rfl (by kernel_rfl) rfl (bt q152 (by kernel_rfl)) rfl rfl ?_
    refine lskip (t := 56) (c := true) rfl (by kernel_rfl) rfl (bt q152 (by kernel_rfl)) rfl rfl ?_
    refine lv (d := 59) rfl rfl (by kernel_rfl) (e_pick_t (v := .bool true) (bt q152 (by kernel_rfl)) rfl) ?_
    refine lv (d := 60) rfl rfl (by kernel_rfl) (e_move (v := .bool true) (by kernel_rfl)) ?_
    refine lskip (t := 60) (c := true) rfl (by kernel_rfl) rfl (by kernel_rfl) rfl rfl ?_
    refine lskip (t := 60) (c := true) rfl (by kernel_rfl) rfl (by kernel_rfl) rfl rfl ?_
    refine lv (d := 63) rfl rfl (by kernel_rfl) (e_pick_t (v := .bool true) (by kernel_rfl) rfl) ?_
    refine wpList_nil ?_
    refine then_n ?_
    refine cond_t rfl (by kernel_rfl) ?_
    refine wp_seq ?_
    refine wp_region_lit ?_
    refine lv (d := 2) rfl rfl (by kernel_rfl) (e_assign (v := .slice none 0 0) rfl) ?_
    refine lv (d := 3) rfl rfl (by kernel_rfl) (e_assign (v := .int .i64 4) rfl) ?_
    refine wpList_nil ?_
    refine then_n ?_
    refine wp_ret ?_
    refine then_r ?_
    obtain rfl := Option.some.inj M
    have S153 := S76.unit
    have S154 := St.first (Fa := [no]) (Fr := [F41, (is g29)]) S153
    exact ret2 rfl rfl rfl (show _ = .slice none 0 0 from (by kernel_rfl)) (show _ = .int .i64 4 from (by kernel_rfl)) ⟨none, 0, no, H60, rfl, (Row.nil _ _ _ _ no), S154⟩
  replace M := ifn q152 M
  refine lvg (d := 57) (t := 56) rfl (by kernel_rfl) rfl (bf q152 (by kernel_rfl)) rfl (by kernel_rfl) (e_move (v := .slice A63 x62.length c64) (by exact e74)) ?_
  obtain ⟨t155, u156, M⟩ := bnd M
  refine lcallg (d := 58) (t := 56) rfl (by kernel_rfl) rfl (bf q152 (by kernel_rfl)) rfl (by kernel_rfl) (e_call (l := [.tmp 57, .const (str ([91, 93] : List UInt8)), .const (.int .i64 0)]) (vs := [.slice A63 x62.length c64, str ([91, 93] : List UInt8), .int .i64 0]) Try.func25 (by kernel_rfl) rfl (by kernel_rfl) rfl) (spec_l2is.calls w58 H60 x62 A63 c64 ([91, 93] : List UInt8) 0 h65 l66 S76.own0 t155 u156) ?_
  rintro _ w157 ⟨rfl, C158⟩
  refine ⟨_, rfl, ?_⟩
  obtain ⟨S159, K160⟩ := S76.still C158
  replace h40 := h40.move (K160.at 0 rfl)
  replace b30 := K160.blk 1 rfl b30
  refine lv (d := 59) rfl rfl (by kernel_rfl) (e_pick_f (v := .bool t155) (bf q152 (by kernel_rfl)) (by kernel_rfl)) ?_
  refine lv (d := 60) rfl rfl (by kernel_rfl) (e_move (v := .bool t155) (by kernel_rfl)) ?_
  by_cases q161 : t155 = true
  · replace M := ifp q161 M
    refine lskip (t := 60) (c := true) rfl (by kernel_rfl) rfl (bvt q161 (by kernel_rfl)) rfl rfl ?_
    refine lskip (t := 60) (c := true) rfl (by kernel_rfl) rfl (bvt q161 (by kernel_rfl)) rfl rfl ?_
    refine lv (d := 63) rfl rfl (by kernel_rfl) (e_pick_t (v := .bool true) (bvt q161 (by kernel_rfl)) rfl) ?_
    refine wpList_nil ?_
    refine then_n ?_
    refine cond_t rfl (by kernel_rfl) ?_
    refine wp_seq ?_
    refine wp_region_lit ?_
    refine lv (d := 2) rfl rfl (by kernel_rfl) (e_assign (v := .slice none 0 0) rfl) ?_
    refine lv (d := 3) rfl rfl (by kernel_rfl) (e_assign (v := .int .i64 4) rfl) ?_
    refine wpList_nil ?_
    refine then_n ?_
    refine wp_ret ?_
    refine then_r ?_
    obtain rfl := Option.some.inj M
    have S162 := S159.unit
    have S163 := St.first (Fa := [no]) (Fr := [F41, (is g29)]) S162
    exact ret2 rfl rfl rfl (show _ = .slice none 0 0 from (by kernel_rfl)) (show _ = .int .i64 4 from (by kernel_rfl)) ⟨none, 0, no, H60, rfl, (Row.nil _ _ _ _ no), S163⟩
  replace M := ifn q161 M
  refine lvg (d := 61) (t := 60) rfl (by kernel_rfl) rfl (bvf q161 (by kernel_rfl)) rfl (by kernel_rfl) (e_move (v := .slice A63 x62.length c64) (by exact e74)) ?_
  obtain ⟨t164, u165, M⟩ := bnd M
  refine lcallg (d := 62) (t := 60) rfl (by kernel_rfl) rfl (bvf q161 (by kernel_rfl)) rfl (by kernel_rfl) (e_call (l := [.tmp 61, .const (str ([46] : List UInt8)), .const (.int .i64 2)]) (vs := [.slice A63 x62.length c64, str ([46] : List UInt8), .int .i64 2]) Try.func25 (by kernel_rfl) rfl (by kernel_rfl) rfl) (spec_l2is.calls w157 H60 x62 A63 c64 ([46] : List UInt8) 2 h65 l66 S159.own0 t164 u165) ?_
  rintro _ w166 ⟨rfl, C167⟩
  refine ⟨_, rfl, ?_⟩
  obtain ⟨S168, K169⟩ := S159.still C167
  replace h40 := h40.move (K169.at 0 rfl)
  replace b30 := K169.blk 1 rfl b30
  refine lv (d := 63) rfl rfl (by kernel_rfl) (e_pick_f (v := .bool t164) (bvf q161 (by kernel_rfl)) (by kernel_rfl)) ?_
  refine wpList_nil ?_
  refine then_n ?_
  by_cases q170 : t164 = true
  · replace M := ifp q170 M
    refine cond_t rfl (bvt q170 (by kernel_rfl)) ?_
    refine wp_seq ?_
    refine wp_region_lit ?_
    refine lv (d := 2) rfl rfl (by kernel_rfl) (e_assign (v := .slice none 0 0) rfl) ?_
    refine lv (d := 3) rfl rfl (by kernel_rfl) (e_assign (v := .int .i64 4) rfl) ?_
    refine wpList_nil ?_
    refine then_n ?_
    refine wp_ret ?_
    refine then_r ?_
    obtain rfl := Option.some.inj M
    have S171 := S168.unit
    have S172 := St.first (Fa := [no]) (Fr := [F41, (is g29)]) S171
    exact ret2 rfl rfl rfl (show _ = .slice none 0 0 from (by kernel_rfl)) (show _ = .int .i64 4 from (by kernel_rfl)) ⟨none, 0, no, H60, rfl, (Row.nil _ _ _ _ no), S172⟩
  replace M := ifn q170 M
  refine cond_f rfl (bvf q170 (by kernel_rfl)) ?_
  refine wp_skip ?_
  refine then_n ?_
  refine wp_seq ?_
  refine wp_region_lit ?_
  refine lv (d := 64) rfl rfl (by kernel_rfl) (e_move (v := .pointer (some ⟨g29, 0, none⟩)) (by exact e72)) ?_
  have S173 := S168.pull (F := (is g29)) (Fr := [F41]) 1 rfl rfl
  obtain ⟨t174, u175, M⟩ := bnd M
  refine lcall (d := 65) rfl rfl (by kernel_rfl) (e_call (l := [.tmp 64]) (vs := [.pointer (some ⟨g29, 0, none⟩)]) Try.func28 (by kernel_rfl) rfl (by kernel_rfl) rfl) (spec_l8new.calls w166 H60 (⟨(IntKind.i64.wrap (t22 + 1)), 0⟩ : GL8gram) g29 b30 (St.own' (Fa := [(is g29)]) (Fr := [F41]) S173) t174 u175) ?_
  rintro _ w176 ⟨A180, c181, F183, H177, rfl, b179, h182, T178⟩
  refine ⟨_, rfl, ?_⟩
  obtain ⟨S184, K185⟩ := St.call (Fa := [(is g29)]) (Fr := [F41]) S173 T178
  replace h40 := h40.move (K185.at 0 rfl)
  have E186 := T178.ext
  replace h40 := h40.ext E186
  refine lv (d := 9) rfl rfl (by kernel_rfl) (e_assign (v := .slice A180 t174.1.length c181) (by kernel_rfl)) ?_
  refine wpList_nil ?_
  refine then_n ?_
  refine wp_seq ?_
  refine wp_region_lit ?_
  refine lv (d := 66) rfl rfl (by kernel_rfl) (e_move (v := .pointer (some ⟨g29, 0, none⟩)) (by exact e72)) ?_
  obtain ⟨t187, u188, M⟩ := bnd M
  refine lcall (d := 67) rfl rfl (by kernel_rfl) (e_call (l := [.tmp 66]) (vs := [.pointer (some ⟨g29, 0, none⟩)]) Try.func28 (by kernel_rfl) rfl (by kernel_rfl) rfl) (spec_l8new.calls w176 H177 t174.2 g29 b179 (St.own' (Fa := [(is g29)]) (Fr := [F183, F41]) S184) t187 u188) ?_
  rintro _ w189 ⟨A193, c194, F196, H190, rfl, b192, h195, T191⟩
  refine ⟨_, rfl, ?_⟩
  obtain ⟨S197, K198⟩ := St.call (Fa := [(is g29)]) (Fr := [F183, F41]) S184 T191
  replace h182 := h182.move (K198.at 0 rfl)
  replace h40 := h40.move (K198.at 1 rfl)
  have E199 := T191.ext
  replace h182 := h182.ext E199
  replace h40 := h40.ext E199
  refine lv (d := 10) rfl rfl (by kernel_rfl) (e_assign (v := .slice A193 t187.1.length c194) (by kernel_rfl)) ?_
  refine wpList_nil ?_
  refine then_n ?_
  refine wp_seq ?_
  refine wp_region_lit ?_
  refine lv (d := 68) rfl rfl (by kernel_rfl) (e_move (v := .pointer (some ⟨g29, 0, none⟩)) (by exact e72)) ?_
  refine lv (d := 69) rfl rfl (by kernel_rfl) (e_move (v := .slice A63 x62.length c64) (by exact e74)) ?_
  refine lv (d := 70) rfl rfl (by kernel_rfl) (e_move (v := .slice A180 t174.1.length c181) (by kernel_rfl)) ?_
  refine lv (d := 71) rfl rfl (by kernel_rfl) (e_move (v := .slice A193 t187.1.length c194) (by kernel_rfl)) ?_
  have l200 := h182.le
  have S201 := S197.pull (F := F183) (Fr := [(is g29), F196, F41]) 2 rfl rfl
  obtain ⟨H202, S203, E204, h205, z206⟩ := S201.frzRow h182
  replace h195 := h195.ext E204
  replace h40 := h40.ext E204
  have l207 := h195.le
  have S208 := S203.pull (F := F196) (Fr := [(is g29), F41]) 1 rfl rfl
  obtain ⟨H209, S210, E211, h212, z213⟩ := S208.frzRow h195
  replace h40 := h40.ext E211
  obtain ⟨t214, u215, M⟩ := bnd M
  refine lcall (d := 72) rfl rfl (by kernel_rfl) (e_call (l := [.tmp 68, .tmp 69, .tmp 70, .tmp 71]) (vs := [.pointer (some ⟨g29, 0, none⟩), .slice A63 x62.length c64, .slice A180 t174.1.length c181, .slice A193 t187.1.length c194]) Try.func29 (by kernel_rfl) rfl (by kernel_rfl) rfl) (spec_l8more.calls k w189 H209 t187.2 g29 x62 A63 c64 t174.1 A180 c181 t187.1 A193 c194 b192 (h65.ext (((E186.trans E199).trans E204).trans E211)) l66 (h205.ext E211) l200 h212 l207 (St.own' (Fa := [(is g29)]) (Fr := [F41]) S210) t214 u215) ?_
  rintro _ w216 ⟨A220, c221, F223, H217, rfl, b219, h222, T218⟩
  refine ⟨_, rfl, ?_⟩
  obtain ⟨S224, K225⟩ := St.call (Fa := [(is g29)]) (Fr := [F41]) S210 T218
  replace h40 := h40.move (K225.at 0 rfl)
  have E226 := T218.ext
  replace h40 := h40.ext E226
  refine lv (d := 11) rfl rfl (by kernel_rfl) (e_assign (v := .slice A220 t214.1.length c221) (by kernel_rfl)) ?_
  refine wpList_nil ?_
  refine then_n ?_
  refine wp_seq ?_
  refine wp_region_lit ?_
  refine lv (d := 12) rfl rfl (by kernel_rfl) (e_assign (v := .slice none 0 0) rfl) ?_
  refine wpList_nil ?_
  refine then_n ?_
  refine wp_seq_cut (fun a244 w227 => ∃ (f228 : Nat → Value) (H229 : Hp) (x231 : List Cell) (A232 : Option Addr) (c233 : Nat) (F234 : Foot) (x236 : Int) (x237 : Int), a244 = mk 123 f228 ∧ f228 4 = .pointer (some ⟨g29, 0, none⟩) ∧ f228 11 = .slice A220 t214.1.length c221 ∧ f228 12 = .slice A232 x231.length c233 ∧ w227.heap[g29]? = some (.cells #[.int .i64 x236, .int .i64 x237] 49 (0, 0)) ∧ Row st36 36 H229 (hp w227) F223 A220 c221 t214.1 ∧ Row st36 36 H229 (hp w227) F234 A232 c233 x231 ∧ Ext H217 H229 ∧ St (anyOf []) H w [(is g29), F223, F234] H229 w227 ∧ spec_TranslateGrammar.l1 k t214 x231 x236 x237 = some r) ?_ ?_
  · refine wp_seq ?_
    refine wp_region_lit ?_
    refine lv (d := 73) rfl rfl (by kernel_rfl) (e_move (v := .slice A68 x67.length c69) (by exact e75)) ?_
    refine lv (d := 74) rfl rfl (by kernel_rfl) (e_len (A := A68) (n := x67.length) (c := c69) Try.underlying24 (by kernel_rfl)) ?_
    refine lv (d := 75) rfl rfl (by kernel_rfl) (e_gtr (k := .i64) (a := (x67.length : Int)) (b := 0) (by kernel_rfl) rfl) ?_
    refine wpList_nil ?_
    refine then_n ?_
    by_cases q245 : (x67.length : Int) > 0
    · replace M := ifp q245 M
      refine cond_t rfl (bt q245 (by kernel_rfl)) ?_
      refine wp_seq ?_
      refine wp_region_lit ?_
      refine lv (d := 76) rfl rfl (by kernel_rfl) (e_move (v := .pointer (some ⟨g29, 0, none⟩)) (by exact e72)) ?_
      obtain ⟨t246, u247, M⟩ := bnd M
      refine lcall (d := 77) rfl rfl (by kernel_rfl) (e_call (l := [.tmp 76]) (vs := [.pointer (some ⟨g29, 0, none⟩)]) Try.func28 (by kernel_rfl) rfl (by kernel_rfl) rfl) (spec_l8new.calls w216 H217 t214.2 g29 b219 (St.own' (Fa := [(is g29)]) (Fr := [F223, F41]) S224) t246 u247) ?_
      rintro _ w248 ⟨A252, c253, F255, H249, rfl, b251, h254, T250⟩
      refine ⟨_, rfl, ?_⟩
      obtain ⟨S256, K257⟩ := St.call (Fa := [(is g29)]) (Fr := [F223, F41]) S224 T250
      replace h222 := h222.move (K257.at 0 rfl)
      replace h40 := h40.move (K257.at 1 rfl)
      have E258 := T250.ext
      replace h222 := h222.ext E258
      replace h40 := h40.ext E258
      refine lv (d := 13) rfl rfl (by kernel_rfl) (e_assign (v := .slice A252 t246.1.length c253) (by kernel_rfl)) ?_
      refine wpList_nil ?_
      refine then_n ?_
      refine wp_seq ?_
      refine wp_region_lit ?_
      refine lv (d := 78) rfl rfl (by kernel_rfl) (e_move (v := .pointer (some ⟨g29, 0, none⟩)) (by exact e72)) ?_
      refine lv (d := 79) rfl rfl (by kernel_rfl) (e_move (v := .slice A38 t33.length c39) (by exact e73)) ?_
      obtain ⟨q259, M⟩ := chk M
      obtain ⟨b260, e262⟩ := Row.addr h40 (show 1 < t33.length by omega)
      refine lv (d := 80) rfl rfl (by kernel_rfl) (e_indexAddr (b := b260) (off := 0) (n := t33.length) (c := c39) (sz := 1) (i := 1) (k := .i64) Try.underlying50 e262 (by kernel_rfl) (by kernel_rfl) rfl (by omega) q259) ?_
      obtain ⟨y263, F264, r265, s266, k267⟩ := Row.at h40 e262 (getD_some ([] : List Cell) (show 1 < t33.length by omega))
      obtain ⟨A268, c269, rfl, l270, h271⟩ := r265
      refine lv (d := 81) rfl rfl (by kernel_rfl) (e_load1 (ad := ⟨b260, 0 + (1 : Int).toNat * 1, none⟩) (v := .slice A268 (t33.getD 1 ([] : List Cell)).length c269) Try.underlying24 rfl (by kernel_rfl) (hpx (k267 0 _ rfl))) ?_
      refine lv (d := 82) rfl rfl (by kernel_rfl) (e_move (v := .slice A180 t174.1.length c181) (by kernel_rfl)) ?_
      refine lv (d := 83) rfl rfl (by kernel_rfl) (e_move (v := .slice A252 t246.1.length c253) (by kernel_rfl)) ?_
      have l272 := h254.le
      have S273 := S256.pull (F := F255) (Fr := [(is g29), F223, F41]) 1 rfl rfl
      obtain ⟨H274, S275, E276, h277, z278⟩ := S273.frzRow h254
      replace h222 := h222.ext E276
      replace h40 := h40.ext E276
      obtain ⟨t279, u280, M⟩ := bnd M
      refine lcall (d := 84) rfl rfl (by kernel_rfl) (e_call (l := [.tmp 78, .tmp 81, .tmp 82, .tmp 83]) (vs := [.pointer (some ⟨g29, 0, none⟩), .slice A268 (t33.getD 1 ([] : List Cell)).length c269, .slice A180 t174.1.length c181, .slice A252 t246.1.length c253]) Try.func30 (by kernel_rfl) rfl (by kernel_rfl) rfl) (spec_l8phrase.calls k w248 H274 t246.2 g29 (t33.getD 1 ([] : List Cell)) A268 c269 t174.1 A180 c181 t246.1 A252 c253 b251 (h271.ext E276) l270 (h205.ext (((E211.trans E226).trans E258).trans E276)) l200 h277 l272 (St.own' (Fa := [(is g29)]) (Fr := [F223, F41]) S275) t279 u280) ?_
      rintro _ w281 ⟨A285, c286, F288, H282, rfl, b284, h287, T283⟩
      refine ⟨_, rfl, ?_⟩
      obtain ⟨S289, K290⟩ := St.call (Fa := [(is g29)]) (Fr := [F223, F41]) S275 T283
      replace h222 := h222.move (K290.at 0 rfl)
      replace h40 := h40.move (K290.at 1 rfl)
      have E291 := T283.ext
      replace h222 := h222.ext E291
      replace h40 := h40.ext E291
      refine lv (d := 14) rfl rfl (by kernel_rfl) (e_assign (v := .slice A285 t279.1.length c286) (by kernel_rfl)) ?_
      refine wpList_nil ?_
      refine then_n ?_
      refine wp_region_lit ?_
      refine lv (d := 85) rfl rfl (by kernel_rfl) (e_move (v := .slice A285 t279.1.length c286) (by kernel_rfl)) ?_
      refine lv (d := 86) rfl rfl (by kernel_rfl) (e_move (v := .pointer (some ⟨g29, 0, none⟩)) (by exact e72)) ?_
      refine lv (d := 87) rfl rfl (by kernel_rfl) (e_move (v := .slice A68 x67.length c69) (by exact e75)) ?_
      refine lv (d := 88) rfl rfl (by kernel_rfl) (e_move (v := .slice A193 t187.1.length c194) (by kernel_rfl)) ?_
      refine lv (d := 89) rfl rfl (by kernel_rfl) (e_move (v := .slice A252 t246.1.length c253) (by kernel_rfl)) ?_
      obtain ⟨t292, u293, M⟩ := bnd M
      refine lcall (d := 90) rfl rfl (by kernel_rfl) (e_call (l := [.tmp 86, .tmp 87, .tmp 88, .tmp 89]) (vs := [.pointer (some ⟨g29, 0, none⟩), .slice A68 x67.length c69, .slice A193 t187.1.length c194, .slice A252 t246.1.length c253]) Try.func32 (by kernel_rfl) rfl (by kernel_rfl) rfl) (spec_l8terminals.calls k w281 H282 t279.2 g29 x67 A68 c69 t187.1 A193 c194 t246.1 A252 c253 b284 (h70.ext (((((((E186.trans E199).trans E204).trans E211).trans E226).trans E258).trans E276).trans E291)) l71 (h212.ext (((E226.trans E258).trans E276).trans E291)) l207 (h277.ext E291) l272 (St.own' (Fa := [(is g29)]) (Fr := [F288, F223, F41]) S289) t292 u293) ?_
      rintro _ w294 ⟨A298, c299, F301, H295, rfl, b297, h300, T296⟩
      refine ⟨_, rfl, ?_⟩
      obtain ⟨S302, K303⟩ := St.call (Fa := [(is g29)]) (Fr := [F288, F223, F41]) S289 T296
      replace h287 := h287.move (K303.at 0 rfl)
      replace h222 := h222.move (K303.at 1 rfl)
      replace h40 := h40.move (K303.at 2 rfl)
      have E304 := T296.ext
      replace h287 := h287.ext E304
      replace h222 := h222.ext E304
      replace h40 := h40.ext E304
      have l305 := h287.le
      have S306 := S302.pull (F := F288) (Fr := [(is g29), F301, F223, F41]) 2 rfl rfl
      obtain ⟨H307, S308, E309, h310, z311⟩ := S306.frzRow h287
      replace h300 := h300.ext E309
      replace h222 := h222.ext E309
      replace h40 := h40.ext E309
      have l312 := h300.le
      have S313 := S308.pull (F := F301) (Fr := [(is g29), F223, F41]) 1 rfl rfl
      obtain ⟨H314, S315, E316, h317, z318⟩ := S313.frzRow h300
      replace h222 := h222.ext E316
      replace h40 := h40.ext E316
      obtain ⟨t319, u320, M⟩ := bnd M
      refine lcall (d := 91) rfl rfl (by kernel_rfl) (e_call (l := [.const (str ([44] : List UInt8)), .tmp 85, .tmp 90]) (vs := [str ([44] : List UInt8), .slice A285 t279.1.length c286, .slice A298 t292.1.length c299]) Try.func31 (by kernel_rfl) rfl (by kernel_rfl) rfl) (spec_l2pair.calls k w294 H314 ([44] : List UInt8) t279.1 A285 c286 t292.1 A298 c299 (h310.ext E316) l305 h317 l312 (St.own' (Fa := []) (Fr := [(is g29), F223, F41]) S315) t319 u320) ?_
      rintro _ w321 ⟨A324, c325, F327, H322, rfl, h326, T323⟩
      refine ⟨_, rfl, ?_⟩
      obtain ⟨S328, K329⟩ := St.call (Fa := []) (Fr := [(is g29), F223, F41]) S315 T323
      replace b297 := K329.blk 0 rfl b297
      replace h222 := h222.move (K329.at 1 rfl)
      replace h40 := h40.move (K329.at 2 rfl)
      have E330 := T323.ext
      replace h222 := h222.ext E330
      replace h40 := h40.ext E330
      refine lv (d := 12) rfl rfl (by kernel_rfl) (e_assign (v := .slice A324 t319.length c325) (by kernel_rfl)) ?_
      refine wpList_nil ?_
      refine then_n ?_
      have S331 := S328.pull (F := F223) (Fr := [F327, (is g29), F41]) 2 rfl rfl
      have S332 := S331.pull (F := (is g29)) (Fr := [F223, F327, F41]) 2 rfl rfl
      have S333 := St.first (Fa := [(is g29), F223, F327]) (Fr := [F41]) S332
      exact ⟨_, H322, t319, A324, c325, F327, t292.2.next_, t292.2.code_, rfl, (by exact e72), (by kernel_rfl), (by kernel_rfl), b297, h222, h326, ((((((E258.trans E276).trans E291).trans E304).trans E309).trans E316).trans E330), S333, M⟩
    replace M := ifn q245 M
    refine cond_f rfl (bf q245 (by kernel_rfl)) ?_
    refine wp_region_lit ?_
    refine lv (d := 92) rfl rfl (by kernel_rfl) (e_move (v := .pointer (some ⟨g29, 0, none⟩)) (by exact e72)) ?_
    refine lv (d := 93) rfl rfl (by kernel_rfl) (e_move (v := .slice A38 t33.length c39) (by exact e73)) ?_
    obtain ⟨q334, M⟩ := chk M
    obtain ⟨b335, e337⟩ := Row.addr h40 (show 1 < t33.length by omega)
    refine lv (d := 94) rfl rfl (by kernel_rfl) (e_indexAddr (b := b335) (off := 0) (n := t33.length) (c := c39) (sz := 1) (i := 1) (k := .i64) Try.underlying50 e337 (by kernel_rfl) (by kernel_rfl) rfl (by omega) q334) ?_
    obtain ⟨y338, F339, r340, s341, k342⟩ := Row.at h40 e337 (getD_some ([] : List Cell) (show 1 < t33.length by omega))
    obtain ⟨A343, c344, rfl, l345, h346⟩ := r340
    refine lv (d := 95) rfl rfl (by kernel_rfl) (e_load1 (ad := ⟨b335, 0 + (1 : Int).toNat * 1, none⟩) (v := .slice A343 (t33.getD 1 ([] : List Cell)).length c344) Try.underlying24 rfl (by kernel_rfl) (hpx (k342 0 _ rfl))) ?_
    refine lv (d := 96) rfl rfl (by kernel_rfl) (e_move (v := .slice A180 t174.1.length c181) (by kernel_rfl)) ?_
    refine lv (d := 97) rfl rfl (by kernel_rfl) (e_move (v := .slice A193 t187.1.length c194) (by kernel_rfl)) ?_
    obtain ⟨t347, u348, M⟩ := bnd M
    refine lcall (d := 98) rfl rfl (by kernel_rfl) (e_call (l := [.tmp 92, .tmp 95, .tmp 96, .tmp 97]) (vs := [.pointer (some ⟨g29, 0, none⟩), .slice A343 (t33.getD 1 ([] : List Cell)).length c344, .slice A180 t174.1.length c181, .slice A193 t187.1.length c194]) Try.func30 (by kernel_rfl) rfl (by kernel_rfl) rfl) (spec_l8phrase.calls k w216 H217 t214.2 g29 (t33.getD 1 ([] : List Cell)) A343 c344 t174.1 A180 c181 t187.1 A193 c194 b219 h346 l345 (h205.ext (E211.trans E226)) l200 (h212.ext E226) l207 (St.own' (Fa := [(is g29)]) (Fr := [F223, F41]) S224) t347 u348) ?_
    rintro _ w349 ⟨A353, c354, F356, H350, rfl, b352, h355, T351⟩
    refine ⟨_, rfl, ?_⟩
    obtain ⟨S357, K358⟩ := St.call (Fa := [(is g29)]) (Fr := [F223, F41]) S224 T351
    replace h222 := h222.move (K358.at 0 rfl)
    replace h40 := h40.move (K358.at 1 rfl)
    have E359 := T351.ext
    replace h222 := h222.ext E359
    replace h40 := h40.ext E359
    refine lv (d := 12) rfl rfl (by kernel_rfl) (e_assign (v := .slice A353 t347.1.length c354) (by kernel_rfl)) ?_
    refine wpList_nil ?_
    refine then_n ?_
    have S360 := S357.pull (F := F356) (Fr := [(is g29), F223, F41]) 1 rfl rfl
    have S361 := S360.pull (F := F223) (Fr := [F356, (is g29), F41]) 2 rfl rfl
    have S362 := S361.pull (F := (is g29)) (Fr := [F223, F356, F41]) 2 rfl rfl
    have S363 := St.first (Fa := [(is g29), F223, F356]) (Fr := [F41]) S362
    exact ⟨_, H350, t347.1, A353, c354, F356, t347.2.next_, t347.2.code_, rfl, (by exact e72), (by kernel_rfl), (by kernel_rfl), b352, h222, h355, E359, S363, M⟩
  clear M
  rintro a244 w227 ⟨f228, H229, x231, A232, c233, F234, x236, x237, rfl, e238, e239, e240, b219, h222, h235, Y230, S241, M⟩
  rw [spec_TranslateGrammar.l1] at M
  refine wp_seq ?_
  refine wp_seq ?_
  refine wp_region_lit ?_
  refine lv (d := 99) rfl rfl (by kernel_rfl) (e_move (v := .pointer (some ⟨g29, 0, none⟩)) (by exact e238)) ?_
  refine lv (d := 100) rfl rfl (by kernel_rfl) (e_nilCheck (ad := ⟨g29, 0, none⟩) (by kernel_rfl)) ?_
  refine lv (d := 101) rfl rfl (by kernel_rfl) (e_fieldAddr (b := g29) (off := 0) (o := 1) Try.underlying49 rfl rfl (sz := 1) (by kernel_rfl) (by decide) (by kernel_rfl)) ?_
  refine lv (d := 102) rfl rfl (by kernel_rfl) (e_load1 (ad := ⟨g29, 0 + 1, none⟩) (v := .int .i64 x237) Try.underlying3 rfl (by kernel_rfl) (blk_cell b219 rfl)) ?_
  refine lv (d := 103) rfl rfl (by kernel_rfl) (e_neq (k := .i64) (a := x237) (b := 0) (by kernel_rfl) rfl) ?_
  refine wpList_nil ?_
  refine then_n ?_
  by_cases q364 : x237 ≠ 0
  · replace M := ifp q364 M
    refine cond_t rfl (bt q364 (by kernel_rfl)) ?_
    refine wp_seq ?_
    refine region_still (by kernel_rfl) (by kernel_rfl) S241 ?_
    intro w365 S366 K367
    replace b219 := K367.blk 0 rfl b219
    replace h222 := h222.move (K367.at 1 rfl)
    replace h235 := h235.move (K367.at 2 rfl)
    refine sv (d := 104) rfl rfl (by kernel_rfl) (e_move (v := .pointer (some ⟨g29, 0, none⟩)) (by exact e238)) ?_
    refine sv (d := 105) rfl rfl (by kernel_rfl) (e_nilCheck (ad := ⟨g29, 0, none⟩) (by kernel_rfl)) ?_
    refine sv (d := 106) rfl rfl (by kernel_rfl) (e_fieldAddr (b := g29) (off := 0) (o := 1) Try.underlying49 rfl rfl (sz := 1) (by kernel_rfl) (by decide) (by kernel_rfl)) ?_
    refine sv (d := 107) rfl rfl (by kernel_rfl) (e_load1 (ad := ⟨g29, 0 + 1, none⟩) (v := .int .i64 x237) Try.underlying3 rfl (by kernel_rfl) (blk_cell b219 rfl)) ?_
    refine sv (d := 2) rfl rfl (by kernel_rfl) (e_assign (v := .slice none 0 0) rfl) ?_
    refine sv (d := 3) rfl rfl (by kernel_rfl) (e_assign (v := .int .i64 x237) (by kernel_rfl)) ?_
    refine wpStill_nil ?_
    refine then_n ?_
    refine wp_ret ?_
    refine then_r ?_
    obtain rfl := Option.some.inj M
    have S368 := S366.unit
    have S369 := St.first (Fa := [no]) (Fr := [(is g29), F223, F234]) S368
    exact ret2 rfl rfl rfl (show _ = .slice none 0 0 from (by kernel_rfl)) (show _ = .int .i64 x237 from (by kernel_rfl)) ⟨none, 0, no, H229, rfl, (Row.nil _ _ _ _ no), S369⟩
  replace M := ifn q364 M
  refine cond_f rfl (bf q364 (by kernel_rfl)) ?_
  refine wp_skip ?_
  refine then_n ?_
  refine wp_seq ?_
  refine wp_region_lit ?_
  refine lv (d := 108) rfl rfl (by kernel_rfl) (e_move (v := .slice A220 t214.1.length c221) (by exact e239)) ?_
  refine lv (d := 109) rfl rfl (by kernel_rfl) (e_move (v := .slice A232 x231.length c233) (by exact e240)) ?_
  have l370 := h222.le
  have S371 := S241.pull (F := F223) (Fr := [(is g29), F234]) 1 rfl rfl
  obtain ⟨H372, S373, E374, h375, z376⟩ := S371.frzRow h222
  replace h235 := h235.ext E374
  have l377 := h235.le
  have S378 := S373.pull (F := F234) (Fr := [(is g29)]) 1 rfl rfl
  obtain ⟨H379, S380, E381, h382, z383⟩ := S378.frzRow h235
  obtain ⟨t384, u385, M⟩ := bnd M
  refine lcall (d := 110) rfl rfl (by kernel_rfl) (e_call (l := [.const (str ([58, 45] : List UInt8)), .tmp 108, .tmp 109]) (vs := [str ([58, 45] : List UInt8), .slice A220 t214.1.length c221, .slice A232 x231.length c233]) Try.func31 (by kernel_rfl) rfl (by kernel_rfl) rfl) (spec_l2pair.calls k w227 H379 ([58, 45] : List UInt8) t214.1 A220 c221 x231 A232 c233 (h375.ext E381) l370 h382 l377 (St.own' (Fa := []) (Fr := [(is g29)]) S380) t384 u385) ?_
  rintro _ w386 ⟨A389, c390, F392, H387, rfl, h391, T388⟩
  refine ⟨_, rfl, ?_⟩
  obtain ⟨S393, K394⟩ := St.call (Fa := []) (Fr := [(is g29)]) S380 T388
  replace b219 := K394.blk 0 rfl b219
  have E395 := T388.ext
  refine lv (d := 15) rfl rfl (by kernel_rfl) (e_assign (v := .slice A389 t384.length c390) (by kernel_rfl)) ?_
  refine wpList_nil ?_
  refine then_n ?_
  refine wp_seq ?_
  refine wp_seq ?_
  refine wp_region_lit ?_
  refine lv (d := 111) rfl rfl (by kernel_rfl) (e_move (v := .slice A389 t384.length c390) (by kernel_rfl)) ?_
  refine lv (d := 112) rfl rfl (by kernel_rfl) (e_len (A := A389) (n := t384.length) (c := c390) Try.underlying24 (by kernel_rfl)) ?_
  refine lv (d := 113) rfl rfl (by kernel_rfl) (e_gtr (k := .i64) (a := (t384.length : Int)) (b := 2000) (by kernel_rfl) rfl) ?_
  refine lv (d := 114) rfl rfl (by kernel_rfl) (e_move (v := .bool (decide ((t384.length : Int) > 2000))) (by kernel_rfl)) ?_
  by_cases q396 : (t384.length : Int) > 2000
  · replace M := ifp q396 M
    refine lskip (t := 114) (c := true) rfl (by kernel_rfl) rfl (bt q396 (by kernel_rfl)) rfl rfl ?_
    refine lskip (t := 114) (c := true) rfl (by kernel_rfl) rfl (bt q396 (by kernel_rfl)) rfl rfl ?_
    refine lskip (t := 114) (c := true) rfl (by kernel_rfl) rfl (bt q396 (by kernel_rfl)) rfl rfl ?_
    refine lskip (t := 114) (c := true) rfl (by kernel_rfl) rfl (bt q396 (by kernel_rfl)) rfl rfl ?_
    refine lskip (t := 114) (c := true) rfl (by kernel_rfl) rfl (bt q396 (by kernel_rfl)) rfl rfl ?_
    refine lskip (t := 114) (c := true) rfl (by kernel_rfl) rfl (bt q396 (by kernel_rfl)) rfl rfl ?_
    refine lv (d := 121) rfl rfl (by kernel_rfl) (e_pick_t (v := .bool true) (bt q396 (by kernel_rfl)) rfl) ?_
    refine wpList_nil ?_
    refine then_n ?_
    refine cond_t rfl (by kernel_rfl) ?_
    refine wp_seq ?_
    refine wp_region_lit ?_
    refine lv (d := 2) rfl rfl (by kernel_rfl) (e_assign (v := .slice none 0 0) rfl) ?_
    refine lv (d := 3) rfl rfl (by kernel_rfl) (e_assign (v := .int .i64 3) rfl) ?_
    refine wpList_nil ?_
    refine then_n ?_
    refine wp_ret ?_
    refine then_r ?_
    obtain rfl := Option.some.inj M
    have S397 := S393.unit
    have S398 := St.first (Fa := [no]) (Fr := [F392, (is g29)]) S397
    exact ret2 rfl rfl rfl (show _ = .slice none 0 0 from (by kernel_rfl)) (show _ = .int .i64 3 from (by kernel_rfl)) ⟨none, 0, no, H387, rfl, (Row.nil _ _ _ _ no), S398⟩
  replace M := ifn q396 M
  refine lvg (d := 115) (t := 114) rfl (by kernel_rfl) rfl (bf q396 (by kernel_rfl)) rfl (by kernel_rfl) (e_move (v := .pointer (some ⟨g29, 0, none⟩)) (by exact e238)) ?_
  refine lvg (d := 116) (t := 114) rfl (by kernel_rfl) rfl (bf q396 (by kernel_rfl)) rfl (by kernel_rfl) (e_nilCheck (ad := ⟨g29, 0, none⟩) (by kernel_rfl)) ?_
  refine lvg (d := 117) (t := 114) rfl (by kernel_rfl) rfl (bf q396 (by kernel_rfl)) rfl (by kernel_rfl) (e_fieldAddr (b := g29) (off := 0) (o := 0) Try.underlying49 rfl rfl (sz := 1) (by kernel_rfl) (by decide) (by kernel_rfl)) ?_
  refine lvg (d := 118) (t := 114) rfl (by kernel_rfl) rfl (bf q396 (by kernel_rfl)) rfl (by kernel_rfl) (e_load1 (ad := ⟨g29, 0 + 0, none⟩) (v := .int .i64 x236) Try.underlying3 rfl (by kernel_rfl) (blk_cell b219 rfl)) ?_
  refine lvg (d := 119) (t := 114) rfl (by kernel_rfl) rfl (bf q396 (by kernel_rfl)) rfl (by kernel_rfl) (e_sub (k := .i64) (a := x236) (b := 1) (by kernel_rfl) rfl) ?_
  refine lvg (d := 120) (t := 114) rfl (by kernel_rfl) rfl (bf q396 (by kernel_rfl)) rfl (by kernel_rfl) (e_gtr (k := .i64) (a := (IntKind.i64.wrap (x236 - 1))) (b := 1000000) (by kernel_rfl) rfl) ?_
  refine lv (d := 121) rfl rfl (by kernel_rfl) (e_pick_f (v := .bool (decide ((IntKind.i64.wrap (x236 - 1)) > 1000000))) (bf q396 (by kernel_rfl)) (by kernel_rfl)) ?_
  refine wpList_nil ?_
  refine then_n ?_
  by_cases q399 : (IntKind.i64.wrap (x236 - 1)) > 1000000
  · replace M := ifp q399 M
    refine cond_t rfl (bt q399 (by kernel_rfl)) ?_
    refine wp_seq ?_
    refine wp_region_lit ?_
    refine lv (d := 2) rfl rfl (by kernel_rfl) (e_assign (v := .slice none 0 0) rfl) ?_
    refine lv (d := 3) rfl rfl (by kernel_rfl) (e_assign (v := .int .i64 3) rfl) ?_
    refine wpList_nil ?_
    refine then_n ?_
    refine wp_ret ?_
    refine then_r ?_
    obtain rfl := Option.some.inj M
    have S400 := S393.unit
    have S401 := St.first (Fa := [no]) (Fr := [F392, (is g29)]) S400
    exact ret2 rfl rfl rfl (show _ = .slice none 0 0 from (by kernel_rfl)) (show _ = .int .i64 3 from (by kernel_rfl)) ⟨none, 0, no, H387, rfl, (Row.nil _ _ _ _ no), S401⟩
  replace M := ifn q399 M
  refine cond_f rfl (bf q399 (by kernel_rfl)) ?_
  refine wp_skip ?_
  refine then_n ?_
  refine wp_seq ?_
  refine wp_region_lit ?_
  refine lv (d := 122) rfl rfl (by kernel_rfl) (e_move (v := .slice A389 t384.length c390) (by kernel_rfl)) ?_
  refine lv (d := 2) rfl rfl (by kernel_rfl) (e_assign (v := .slice A389 t384.length c390) (by kernel_rfl)) ?_
  refine lv (d := 3) rfl rfl (by kernel_rfl) (e_assign (v := .int .i64 0) rfl) ?_
  refine wpList_nil ?_
  refine then_n ?_
  refine wp_ret ?_
  obtain rfl := Option.some.inj M
  have S402 := St.first (Fa := [F392]) (Fr := [(is g29)]) S393
  exact ret2 rfl rfl rfl (show _ = .slice A389 t384.length c390 from (by kernel_rfl)) (show _ = .int .i64 0 from (by kernel_rfl)) ⟨A389, c390, F392, H387, rfl, h391, S402⟩

/-! impl_cellOk -/
def impl_cellOk.f (x1 : Cell) : Option Bool := (if x1.kind = 0 then (if x1.n ≥ 0 then (if x1.n ≤ 1000000 then some (decide ((x1.text.length : Int) = 0)) else some false) else some false) else (if x1.kind = 1 then (if x1.n ≥ (-1000000000000000) then (if x1.n ≤ 1000000000000000 then some (decide ((x1.text.length : Int) = 0)) else some false) else some false) else (if x1.kind = 2 then (if x1.n = 0 then some (decide ((x1.text.length : Int) ≤ 100)) else some false) else (if x1.kind = 3 then (if x1.n ≥ 1 then (if x1.n ≤ 20 then some (decide ((x1.text.length : Int) ≤ 100)) else some false) else some false) else some false))))
theorem impl_cellOk.calls (w : World) (H : Hp) (x1 : Cell) (A2 : Option Addr) (c3 : Nat) (h4 : Rd tByte H A2 x1.text) (l5 : x1.text.length ≤ c3) (S : Own [] H w) (r : Bool) (M : impl_cellOk.f x1 = some r) :
    Calls Try.prog 43 #[.agg #[.int .i64 x1.kind, .int .i64 x1.n, .slice A2 x1.text.length c3]] w (fun e e_w => e = .returned (.bool r) ∧ Chg no w e_w) := by
  rw [impl_cellOk.f] at M
  refine enter (l := [.agg #[.int .i64 x1.kind, .int .i64 x1.n, .slice A2 x1.text.length c3]]) 64 Try.func43 rfl rfl rfl ?_
  have S0_ := S.st
  refine wp_seq ?_
  refine wp_region_lit ?_
  refine lve (d := 1) rfl rfl (by kernel_rfl) (new_blk (v := fun g_ => .pointer (some ⟨g_, 0, none⟩)) (cs := #[.int .i64 x1.kind, .int .i64 x1.n, .slice A2 x1.text.length c3]) (t := 36) S0_ (by kernel_rfl)) ?_
  rintro _ w6 ⟨g7, rfl, b8, S9, K10⟩
  refine lv (d := 2) rfl rfl (by kernel_rfl) (e_assign (v := .bool false) rfl) ?_
  refine wpList_nil ?_
  refine then_n ?_
  refine wp_seq ?_
  refine wp_seq ?_
  refine wp_region_lit ?_
  refine lv (d := 3) rfl rfl (by kernel_rfl) (e_fieldAddr (b := g7) (off := 0) (o := 0) Try.underlying36 rfl rfl (sz := 1) (by kernel_rfl) (by decide) (by kernel_rfl)) ?_
  refine lv (d := 4) rfl rfl (by kernel_rfl) (e_load1 (ad := ⟨g7, 0 + 0, none⟩) (v := .int .i64 x1.kind) Try.underlying3 rfl (by kernel_rfl) (blk_cell b8 rfl)) ?_
  refine wpList_nil ?_
  refine then_n ?_
  refine wp_block ?_
  refine wp_seq ?_
  refine wp_region_lit ?_
  refine lv (d := 6) rfl rfl (by kernel_rfl) (e_eql (k := .i64) (a := x1.kind) (b := 0) (by kernel_rfl) rfl) ?_
  refine lv (d := 5) rfl rfl (by kernel_rfl) (e_assign (v := .bool (decide (x1.kind = 0))) (by kernel_rfl)) ?_
  refine wpList_nil ?_
  refine then_n ?_
  by_cases q11 : x1.kind = 0
  · replace M := ifp q11 M
    refine cond_t rfl (bt q11 (by kernel_rfl)) ?_
    refine wp_seq ?_
    refine wp_region_lit ?_
    refine lv (d := 7) rfl rfl (by kernel_rfl) (e_fieldAddr (b := g7) (off := 0) (o := 1) Try.underlying36 rfl rfl (sz := 1) (by kernel_rfl) (by decide) (by kernel_rfl)) ?_
    refine lv (d := 8) rfl rfl (by kernel_rfl) (e_load1 (ad := ⟨g7, 0 + 1, none⟩) (v := .int .i64 x1.n) Try.underlying3 rfl (by kernel_rfl) (blk_cell b8 rfl)) ?_
    refine lv (d := 9) rfl rfl (by kernel_rfl) (e_geq (k := .i64) (a := x1.n) (b := 0) (by kernel_rfl) rfl) ?_
    refine lv (d := 10) rfl rfl (by kernel_rfl) (e_move (v := .bool (decide (x1.n ≥ 0))) (by kernel_rfl)) ?_
    by_cases q12 : x1.n ≥ 0
    · replace M := ifp q12 M
      refine lvg (d := 11) (t := 10) rfl (by kernel_rfl) rfl (bt q12 (by kernel_rfl)) rfl (by kernel_rfl) (e_fieldAddr (b := g7) (off := 0) (o := 1) Try.underlying36 rfl rfl (sz := 1) (by kernel_rfl) (by decide) (by kernel_rfl)) ?_
      refine lvg (d := 12) (t := 10) rfl (by kernel_rfl) rfl (bt q12 (by kernel_rfl)) rfl (by kernel_rfl) (e_load1 (ad := ⟨g7, 0 + 1, none⟩) (v := .int .i64 x1.n) Try.underlying3 rfl (by kernel_rfl) (blk_cell b8 rfl)) ?_
      refine lvg (d := 13) (t := 10) rfl (by kernel_rfl) rfl (bt q12 (by kernel_rfl)) rfl (by kernel_rfl) (e_leq (k := .i64) (a := x1.n) (b := 1000000) (by kernel_rfl) rfl) ?_
      refine lv (d := 14) rfl rfl (by kernel_rfl) (e_pick_t (v := .bool (decide (x1.n ≤ 1000000))) (bt q12 (by kernel_rfl)) (by kernel_rfl)) ?_
      refine lv (d := 15) rfl rfl (by kernel_rfl) (e_move (v := .bool (decide (x1.n ≤ 1000000))) (by kernel_rfl)) ?_
      by_cases q13 : x1.n ≤ 1000000
      · replace M := ifp q13 M
        refine lvg (d := 16) (t := 15) rfl (by kernel_rfl) rfl (bt q13 (by kernel_rfl)) rfl (by kernel_rfl) (e_fieldAddr (b := g7) (off := 0) (o := 2) Try.underlying36 rfl rfl (sz := 1) (by kernel_rfl) (by decide) (by kernel_rfl)) ?_
        refine lvg (d := 17) (t := 15) rfl (by kernel_rfl) rfl (bt q13 (by kernel_rfl)) rfl (by kernel_rfl) (e_load1 (ad := ⟨g7, 0 + 2, none⟩) (v := .slice A2 x1.text.length c3) Try.underlying32 rfl (by kernel_rfl) (blk_cell b8 rfl)) ?_
        refine lvg (d := 18) (t := 15) rfl (by kernel_rfl) rfl (bt q13 (by kernel_rfl)) rfl (by kernel_rfl) (e_len (A := A2) (n := x1.text.length) (c := c3) Try.underlying32 (by kernel_rfl)) ?_
        refine lvg (d := 19) (t := 15) rfl (by kernel_rfl) rfl (bt q13 (by kernel_rfl)) rfl (by kernel_rfl) (e_eql (k := .i64) (a := (x1.text.length : Int)) (b := 0) (by kernel_rfl) rfl) ?_
        refine lv (d := 20) rfl rfl (by kernel_rfl) (e_pick_t (v := .bool (decide ((x1.text.length : Int) = 0))) (bt q13 (by kernel_rfl)) (by kernel_rfl)) ?_
        refine lv (d := 2) rfl rfl (by kernel_rfl) (e_assign (v := .bool (decide ((x1.text.length : Int) = 0))) (by kernel_rfl)) ?_
        refine wpList_nil ?_
        refine then_n ?_
        refine wp_ret ?_
        refine inb_r ?_
        refine then_r ?_
        obtain rfl := Option.some.inj M
        exact ret1 rfl rfl  (show _ = .bool (decide ((x1.text.length : Int) = 0)) from (by kernel_rfl)) ⟨rfl, S9.chg⟩
      replace M := ifn q13 M
      refine lskip (t := 15) (c := false) rfl (by kernel_rfl) rfl (bf q13 (by kernel_rfl)) rfl rfl ?_
      refine lskip (t := 15) (c := false) rfl (by kernel_rfl) rfl (bf q13 (by kernel_rfl)) rfl rfl ?_
      refine lskip (t := 15) (c := false) rfl (by kernel_rfl) rfl (bf q13 (by kernel_rfl)) rfl rfl ?_
      refine lskip (t := 15) (c := false) rfl (by kernel_rfl) rfl (bf q13 (by kernel_rfl)) rfl rfl ?_
      refine lv (d := 20) rfl rfl (by kernel_rfl) (e_pick_f (v := .bool false) (bf q13 (by kernel_rfl)) rfl) ?_
      refine lv (d := 2) rfl rfl (by kernel_rfl) (e_assign (v := .bool false) (by kernel_rfl)) ?_
      refine wpList_nil ?_
      refine then_n ?_
      refine wp_ret ?_
      refine inb_r ?_
      refine then_r ?_
      obtain rfl := Option.some.inj M
      exact ret1 rfl rfl  (show _ = .bool false from (by kernel_rfl)) ⟨rfl, S9.chg⟩
    replace M := ifn q12 M
    refine lskip (t := 10) (c := false) rfl (by kernel_rfl) rfl (bf q12 (by kernel_rfl)) rfl rfl ?_
    refine lskip (t := 10) (c := false) rfl (by kernel_rfl) rfl (bf q12 (by kernel_rfl)) rfl rfl ?_
    refine lskip (t := 10) (c := false) rfl (by kernel_rfl) rfl (bf q12 (by kernel_rfl)) rfl rfl ?_
    refine lv (d := 14) rfl rfl (by kernel_rfl) (e_pick_f (v := .bool false) (bf q12 (by kernel_rfl)) rfl) ?_
    refine lv (d := 15) rfl rfl (by kernel_rfl) (e_move (v := .bool false) (by kernel_rfl)) ?_
    refine lskip (t := 15) (c := false) rfl (by kernel_rfl) rfl (by kernel_rfl) rfl rfl ?_
    refine lskip (t := 15) (c := false) rfl (by kernel_rfl) rfl (by kernel_rfl) rfl rfl ?_
    refine lskip (t := 15) (c := false) rfl (by kernel_rfl) rfl (by kernel_rfl) rfl rfl ?_
    refine lskip (t := 15) (c := false) rfl (by kernel_rfl) rfl (by kernel_rfl) rfl rfl ?_
    refine lv (d := 20) rfl rfl (by kernel_rfl) (e_pick_f (v := .bool false) (by kernel_rfl) rfl) ?_
    refine lv (d := 2) rfl rfl (by kernel_rfl) (e_assign (v := .bool false) (by kernel_rfl)) ?_
    refine wpList_nil ?_
    refine then_n ?_
    refine wp_ret ?_
    refine inb_r ?_
    refine then_r ?_
    obtain rfl := Option.some.inj M
    exact ret1 rfl rfl  (show _ = .bool false from (by kernel_rfl)) ⟨rfl, S9.chg⟩
  replace M := ifn q11 M
  refine cond_f rfl (bf q11 (by kernel_rfl)) ?_
  refine wp_seq ?_
  refine wp_region_lit ?_
  refine lv (d := 22) rfl rfl (by kernel_rfl) (e_eql (k := .i64) (a := x1.kind) (b := 1) (by kernel_rfl) rfl) ?_
  refine lv (d := 21) rfl rfl (by kernel_rfl) (e_assign (v := .bool (decide (x1.kind = 1))) (by kernel_rfl)) ?_
  refine wpList_nil ?_
  refine then_n ?_
  by_cases q14 : x1.kind = 1
  · replace M := ifp q14 M
    refine cond_t rfl (bt q14 (by kernel_rfl)) ?_
    refine wp_seq ?_
    refine wp_region_lit ?_
    refine lv (d := 23) rfl rfl (by kernel_rfl) (e_fieldAddr (b := g7) (off := 0) (o := 1) Try.underlying36 rfl rfl (sz := 1) (by kernel_rfl) (by decide) (by kernel_rfl)) ?_
    refine lv (d := 24) rfl rfl (by kernel_rfl) (e_load1 (ad := ⟨g7, 0 + 1, none⟩) (v := .int .i64 x1.n) Try.underlying3 rfl (by kernel_rfl) (blk_cell b8 rfl)) ?_
    refine lv (d := 25) rfl rfl (by kernel_rfl) (e_geq (k := .i64) (a := x1.n) (b := (-1000000000000000)) (by kernel_rfl) rfl) ?_
    refine lv (d := 26) rfl rfl (by kernel_rfl) (e_move (v := .bool (decide (x1.n ≥ (-1000000000000000)))) (by kernel_rfl)) ?_
    by_cases q15 : x1.n ≥ (-1000000000000000)
    · replace M := ifp q15 M
      refine lvg (d := 27) (t := 26) rfl (by kernel_rfl) rfl (bt q15 (by kernel_rfl)) rfl (by kernel_rfl) (e_fieldAddr (b := g7) (off := 0) (o := 1) Try.underlying36 rfl rfl (sz := 1) (by kernel_rfl) (by decide) (by kernel_rfl)) ?_
      refine lvg (d := 28) (t := 26) rfl (by kernel_rfl) rfl (bt q15 (by kernel_rfl)) rfl (by kernel_rfl) (e_load1 (ad := ⟨g7, 0 + 1, none⟩) (v := .int .i64 x1.n) Try.underlying3 rfl (by kernel_rfl) (blk_cell b8 rfl)) ?_
      refine lvg (d := 29) (t := 26) rfl (by kernel_rfl) rfl (bt q15 (by kernel_rfl)) rfl (by kernel_rfl) (e_leq (k := .i64) (a := x1.n) (b := 1000000000000000) (by kernel_rfl) rfl) ?_
      refine lv (d := 30) rfl rfl (by kernel_rfl) (e_pick_t (v := .bool (decide (x1.n ≤ 1000000000000000))) (bt q15 (by kernel_rfl)) (by kernel_rfl)) ?_
      refine lv (d := 31) rfl rfl (by kernel_rfl) (e_move (v := .bool (decide (x1.n ≤ 1000000000000000))) (by kernel_rfl)) ?_
      by_cases q16 : x1.n ≤ 1000000000000000
      · replace M := ifp q16 M
        refine lvg (d := 32) (t := 31) rfl (by kernel_rfl) rfl (bt q16 (by kernel_rfl)) rfl (by kernel_rfl) (e_fieldAddr (b := g7) (off := 0) (o := 2) Try.underlying36 rfl rfl (sz := 1) (by kernel_rfl) (by decide) (by kernel_rfl)) ?_
        refine lvg (d := 33) (t := 31) rfl (by kernel_rfl) rfl (bt q16 (by kernel_rfl)) rfl (by kernel_rfl) (e_load1 (ad := ⟨g7, 0 + 2, none⟩) (v := .slice A2 x1.text.length c3) Try.underlying32 rfl (by kernel_rfl) (blk_cell b8 rfl)) ?_
        refine lvg (d := 34) (t := 31) rfl (by kernel_rfl) rfl (bt q16 (by kernel_rfl)) rfl (by kernel_rfl) (e_len (A := A2) (n := x1.text.length) (c := c3) Try.underlying32 (by kernel_rfl)) ?_
        refine lvg (d := 35) (t := 31) rfl (by kernel_rfl) rfl (bt q16 (by kernel_rfl)) rfl (by kernel_rfl) (e_eql (k := .i64) (a := (x1.text.length : Int)) (b := 0) (by kernel_rfl) rfl) ?_
        refine lv (d := 36) rfl rfl (by kernel_rfl) (e_pick_t (v := .bool (decide ((x1.text.length : Int) = 0))) (bt q16 (by kernel_rfl)) (by kernel_rfl)) ?_
        refine lv (d := 2) rfl rfl (by kernel_rfl) (e_assign (v := .bool (decide ((x1.text.length : Int) = 0))) (by kernel_rfl)) ?_
        refine wpList_nil ?_
        refine then_n ?_
        refine wp_ret ?_
        refine inb_r ?_
        refine then_r ?_
        obtain rfl := Option.some.inj M
        exact ret1 rfl rfl  (show _ = .bool (decide ((x1.text.length : Int) = 0)) from (by kernel_rfl)) ⟨rfl, S9.chg⟩
      replace M := ifn q16 M
      refine lskip (t := 31) (c := false) rfl (by kernel_rfl) rfl (bf q16 (by kernel_rfl)) rfl rfl ?_
      refine lskip (t := 31) (c := false) rfl (by kernel_rfl) rfl (bf q16 (by kernel_rfl)) rfl rfl ?_
      refine lskip (t := 31) (c := false) rfl (by kernel_rfl) rfl (bf q16 (by kernel_rfl)) rfl rfl ?_
      refine lskip (t := 31) (c := false) rfl (by kernel_rfl) rfl (bf q16 (by kernel_rfl)) rfl rfl ?_
      refine lv (d := 36) rfl rfl (by kernel_rfl) (e_pick_f (v := .bool false) (bf q16 (by kernel_rfl)) rfl) ?_
      refine lv (d := 2) rfl rfl (by kernel_rfl) (e_assign (v := .bool false) (by kernel_rfl)) ?_
      refine wpList_nil ?_
      refine then_n ?_
      refine wp_ret ?_
      refine inb_r ?_
      refine then_r ?_
      obtain rfl := Option.some.inj M
      exact ret1 rfl rfl  (show _ = .bool false from (by kernel_rfl)) ⟨rfl, S9.chg⟩
    replace M := ifn q15 M
    refine lskip (t := 26) (c := false) rfl (by kernel_rfl) rfl (bf q15 (by kernel_rfl)) rfl rfl ?_
    refine lskip (t := 26) (c := false) rfl (by kernel_rfl) rfl (bf q15 (by kernel_rfl)) rfl rfl ?_
    refine lskip (t := 26) (c := false) rfl (by kernel_rfl) rfl (bf q15 (by kernel_rfl)) rfl rfl ?_
    refine lv (d := 30) rfl rfl (by kernel_rfl) (e_pick_f (v := .bool false) (bf q15 (by kernel_rfl)) rfl) ?_
    refine lv (d := 31) rfl rfl (by kernel_rfl) (e_move (v := .bool false) (by kernel_rfl)) ?_
    refine lskip (t := 31) (c := false) rfl (by kernel_rfl) rfl (by kernel_rfl) rfl rfl ?_
    refine lskip (t := 31) (c := false) rfl (by kernel_rfl) rfl (by kernel_rfl) rfl rfl ?_
    refine lskip (t := 31) (c := false) rfl (by kernel_rfl) rfl (by kernel_rfl) rfl rfl ?_
    refine lskip (t := 31) (c := false) rfl (by kernel_rfl) rfl (by kernel_rfl) rfl rfl ?_
    refine lv (d := 36) rfl rfl (by kernel_rfl) (e_pick_f (v := .bool false) (by kernel_rfl) rfl) ?_
    refine lv (d := 2) rfl rfl (by kernel_rfl) (e_assign (v := .bool false) (by kernel_rfl)) ?_
    refine wpList_nil ?_
    refine then_n ?_
    refine wp_ret ?_
    refine inb_r ?_
    refine then_r ?_
    obtain rfl := Option.some.inj M
    exact ret1 rfl rfl  (show _ = .bool false from (by kernel_rfl)) ⟨rfl, S9.chg⟩
  replace M := ifn q14 M
  refine cond_f rfl (bf q14 (by kernel_rfl)) ?_
  refine wp_seq ?_
  refine wp_region_lit ?_
  refine lv (d := 38) rfl rfl (by kernel_rfl) (e_eql (k := .i64) (a := x1.kind) (b := 2) (by kernel_rfl) rfl) ?_
  refine lv (d := 37) rfl rfl (by kernel_rfl) (e_assign (v := .bool (decide (x1.kind = 2))) (by kernel_rfl)) ?_
  refine wpList_nil ?_
  refine then_n ?_
  by_cases q17 : x1.kind = 2
  · replace M := ifp q17 M
    refine cond_t rfl (bt q17 (by kernel_rfl)) ?_
    refine wp_seq ?_
    refine wp_region_lit ?_
    refine lv (d := 39) rfl rfl (by kernel_rfl) (e_fieldAddr (b := g7) (off := 0) (o := 1) Try.underlying36 rfl rfl (sz := 1) (by kernel_rfl) (by decide) (by kernel_rfl)) ?_
    refine lv (d := 40) rfl rfl (by kernel_rfl) (e_load1 (ad := ⟨g7, 0 + 1, none⟩) (v := .int .i64 x1.n) Try.underlying3 rfl (by kernel_rfl) (blk_cell b8 rfl)) ?_
    refine lv (d := 41) rfl rfl (by kernel_rfl) (e_eql (k := .i64) (a := x1.n) (b := 0) (by kernel_rfl) rfl) ?_
    refine lv (d := 42) rfl rfl (by kernel_rfl) (e_move (v := .bool (decide (x1.n = 0))) (by kernel_rfl)) ?_
    by_cases q18 : x1.n = 0
    · replace M := ifp q18 M
      refine lvg (d := 43) (t := 42) rfl (by kernel_rfl) rfl (bt q18 (by kernel_rfl)) rfl (by kernel_rfl) (e_fieldAddr (b := g7) (off := 0) (o := 2) Try.underlying36 rfl rfl (sz := 1) (by kernel_rfl) (by decide) (by kernel_rfl)) ?_
      refine lvg (d := 44) (t := 42) rfl (by kernel_rfl) rfl (bt q18 (by kernel_rfl)) rfl (by kernel_rfl) (e_load1 (ad := ⟨g7, 0 + 2, none⟩) (v := .slice A2 x1.text.length c3) Try.underlying32 rfl (by kernel_rfl) (blk_cell b8 rfl)) ?_
      refine lvg (d := 45) (t := 42) rfl (by kernel_rfl) rfl (bt q18 (by kernel_rfl)) rfl (by kernel_rfl) (e_len (A := A2) (n := x1.text.length) (c := c3) Try.underlying32 (by kernel_rfl)) ?_
      refine lvg (d := 46) (t := 42) rfl (by kernel_rfl) rfl (bt q18 (by kernel_rfl)) rfl (by kernel_rfl) (e_leq (k := .i64) (a := (x1.text.length : Int)) (b := 100) (by kernel_rfl) rfl) ?_
      refine lv (d := 47) rfl rfl (by kernel_rfl) (e_pick_t (v := .bool (decide ((x1.text.length : Int) ≤ 100))) (bt q18 (by kernel_rfl)) (by kernel_rfl)) ?_
      refine lv (d := 2) rfl rfl (by kernel_rfl) (e_assign (v := .bool (decide ((x1.text.length : Int) ≤ 100))) (by kernel_rfl)) ?_
      refine wpList_nil ?_
      refine then_n ?_
      refine wp_ret ?_
      refine inb_r ?_
      refine then_r ?_
      obtain rfl := Option.some.inj M
      exact ret1 rfl rfl  (show _ = .bool (decide ((x1.text.length : Int) ≤ 100)) from (by kernel_rfl)) ⟨rfl, S9.chg⟩
    replace M := ifn q18 M
    refine lskip (t := 42) (c := false) rfl (by kernel_rfl) rfl (bf q18 (by kernel_rfl)) rfl rfl ?_
    refine lskip (t := 42) (c := false) rfl (by kernel_rfl) rfl (bf q18 (by kernel_rfl)) rfl rfl ?_
    refine lskip (t := 42) (c := false) rfl (by kernel_rfl) rfl (bf q18 (by kernel_rfl)) rfl rfl ?_
    refine lskip (t := 42) (c := false) rfl (by kernel_rfl) rfl (bf q18 (by kernel_rfl)) rfl rfl ?_
    refine lv (d := 47) rfl rfl (by kernel_rfl) (e_pick_f (v := .bool false) (bf q18 (by kernel_rfl)) rfl) ?_
    refine lv (d := 2) rfl rfl (by kernel_rfl) (e_assign (v := .bool false) (by kernel_rfl)) ?_
    refine wpList_nil ?_
    refine then_n ?_
    refine wp_ret ?_
    refine inb_r ?_
    refine then_r ?_
    obtain rfl := Option.some.inj M
    exact ret1 rfl rfl  (show _ = .bool false from (by kernel_rfl)) ⟨rfl, S9.chg⟩
  replace M := ifn q17 M
  refine cond_f rfl (bf q17 (by kernel_rfl)) ?_
  refine wp_seq ?_
  refine wp_region_lit ?_
  refine lv (d := 49) rfl rfl (by kernel_rfl) (e_eql (k := .i64) (a := x1.kind) (b := 3) (by kernel_rfl) rfl) ?_
  refine lv (d := 48) rfl rfl (by kernel_rfl) (e_assign (v := .bool (decide (x1.kind = 3))) (by kernel_rfl)) ?_
  refine wpList_nil ?_
  refine then_n ?_
  by_cases q19 : x1.kind = 3
  · replace M := ifp q19 M
    refine cond_t rfl (bt q19 (by kernel_rfl)) ?_
    refine wp_seq ?_
    refine wp_region_lit ?_
    refine lv (d := 50) rfl rfl (by kernel_rfl) (e_fieldAddr (b := g7) (off := 0) (o := 1) Try.underlying36 rfl rfl (sz := 1) (by kernel_rfl) (by decide) (by kernel_rfl)) ?_
    refine lv (d := 51) rfl rfl (by kernel_rfl) (e_load1 (ad := ⟨g7, 0 + 1, none⟩) (v := .int .i64 x1.n) Try.underlying3 rfl (by kernel_rfl) (blk_cell b8 rfl)) ?_
    refine lv (d := 52) rfl rfl (by kernel_rfl) (e_geq (k := .i64) (a := x1.n) (b := 1) (by kernel_rfl) rfl) ?_
    refine lv (d := 53) rfl rfl (by kernel_rfl) (e_move (v := .bool (decide (x1.n ≥ 1))) (by kernel_rfl)) ?_
    by_cases q20 : x1.n ≥ 1
    · replace M := ifp q20 M
      refine lvg (d := 54) (t := 53) rfl (by kernel_rfl) rfl (bt q20 (by kernel_rfl)) rfl (by kernel_rfl) (e_fieldAddr (b := g7) (off := 0) (o := 1) Try.underlying36 rfl rfl (sz := 1) (by kernel_rfl) (by decide) (by kernel_rfl)) ?_
      refine lvg (d := 55) (t := 53) rfl (by kernel_rfl) rfl (bt q20 (by kernel_rfl)) rfl (by kernel_rfl) (e_load1 (ad := ⟨g7, 0 + 1, none⟩) (v := .int .i64 x1.n) Try.underlying3 rfl (by kernel_rfl) (blk_cell b8 rfl)) ?_
      refine lvg (d := 56) (t := 53) rfl (by kernel_rfl) rfl (bt q20 (by kernel_rfl)) rfl (by kernel_rfl) (e_leq (k := .i64) (a := x1.n) (b := 20) (by kernel_rfl) rfl) ?_
      refine lv (d := 57) rfl rfl (by kernel_rfl) (e_pick_t (v := .bool (decide (x1.n ≤ 20))) (bt q20 (by kernel_rfl)) (by kernel_rfl)) ?_
      refine lv (d := 58) rfl rfl (by kernel_rfl) (e_move (v := .bool (decide (x1.n ≤ 20))) (by kernel_rfl)) ?_
      by_cases q21 : x1.n ≤ 20
      · replace M := ifp q21 M
        refine lvg (d := 59) (t := 58) rfl (by kernel_rfl) rfl (bt q21 (by kernel_rfl)) rfl (by kernel_rfl) (e_fieldAddr (b := g7) (off := 0) (o := 2) Try.underlying36 rfl rfl (sz := 1) (by kernel_rfl) (by decide) (by kernel_rfl)) ?_
        refine lvg (d := 60) (t := 58) rfl (by kernel_rfl) rfl (bt q21 (by kernel_rfl)) rfl (by kernel_rfl) (e_load1 (ad := ⟨g7, 0 + 2, none⟩) (v := .slice A2 x1.text.length c3) Try.underlying32 rfl (by kernel_rfl) (blk_cell b8 rfl)) ?_
        refine lvg (d := 61) (t := 58) rfl (by kernel_rfl) rfl (bt q21 (by kernel_rfl)) rfl (by kernel_rfl) (e_len (A := A2) (n := x1.text.length) (c := c3) Try.underlying32 (by kernel_rfl)) ?_
        refine lvg (d := 62) (t := 58) rfl (by kernel_rfl) rfl (bt q21 (by kernel_rfl)) rfl (by kernel_rfl) (e_leq (k := .i64) (a := (x1.text.length : Int)) (b := 100) (by kernel_rfl) rfl) ?_
        refine lv (d := 63) rfl rfl (by kernel_rfl) (e_pick_t (v := .bool (decide ((x1.text.length : Int) ≤ 100))) (bt q21 (by kernel_rfl)) (by kernel_rfl)) ?_
        refine lv (d := 2) rfl rfl (by kernel_rfl) (e_assign (v := .bool (decide ((x1.text.length : Int) ≤ 100))) (by kernel_rfl)) ?_
        refine wpList_nil ?_
        refine then_n ?_
        refine wp_ret ?_
        refine inb_r ?_
        refine then_r ?_
        obtain rfl := Option.some.inj M
        exact ret1 rfl rfl  (show _ = .bool (decide ((x1.text.length : Int) ≤ 100)) from (by kernel_rfl)) ⟨rfl, S9.chg⟩
      replace M := ifn q21 M
      refine lskip (t := 58) (c := false) rfl (by kernel_rfl) rfl (bf q21 (by kernel_rfl)) rfl rfl ?_
      refine lskip (t := 58) (c := false) rfl (by kernel_rfl) rfl (bf q21 (by kernel_rfl)) rfl rfl ?_
      refine lskip (t := 58) (c := false) rfl (by kernel_rfl) rfl (bf q21 (by kernel_rfl)) rfl rfl ?_
      refine lskip (t := 58) (c := false) rfl (by kernel_rfl) rfl (bf q21 (by kernel_rfl)) rfl rfl ?_
      refine lv (d := 63) rfl rfl (by kernel_rfl) (e_pick_f (v := .bool false) (bf q21 (by kernel_rfl)) rfl) ?_
      refine lv (d := 2) rfl rfl (by kernel_rfl) (e_assign (v := .bool false) (by kernel_rfl)) ?_
      refine wpList_nil ?_
      refine then_n ?_
      refine wp_ret ?_
      refine inb_r ?_
      refine then_r ?_
      obtain rfl := Option.some.inj M
      exact ret1 rfl rfl  (show _ = .bool false from (by kernel_rfl)) ⟨rfl, S9.chg⟩
    replace M := ifn q20 M
    refine lskip (t := 53) (c := false) rfl (by kernel_rfl) rfl (bf q20 (by kernel_rfl)) rfl rfl ?_
    refine lskip (t := 53) (c := false) rfl (by kernel_rfl) rfl (bf q20 (by kernel_rfl)) rfl rfl ?_
    refine lskip (t := 53) (c := false) rfl (by kernel_rfl) rfl (bf q20 (by kernel_rfl)) rfl rfl ?_
    refine lv (d := 57) rfl rfl (by kernel_rfl) (e_pick_f (v := .bool false) (bf q20 (by kernel_rfl)) rfl) ?_
    refine lv (d := 58) rfl rfl (by kernel_rfl) (e_move (v := .bool false) (by kernel_rfl)) ?_
    refine lskip (t := 58) (c := false) rfl (by kernel_rfl) rfl (by kernel_rfl) rfl rfl ?_
    refine lskip (t := 58) (c := false) rfl (by kernel_rfl) rfl (by kernel_rfl) rfl rfl ?_
    refine lskip (t := 58) (c := false) rfl (by kernel_rfl) rfl (by kernel_rfl) rfl rfl ?_
    refine lskip (t := 58) (c := false) rfl (by kernel_rfl) rfl (by kernel_rfl) rfl rfl ?_
    refine lv (d := 63) rfl rfl (by kernel_rfl) (e_pick_f (v := .bool false) (by kernel_rfl) rfl) ?_
    refine lv (d := 2) rfl rfl (by kernel_rfl) (e_assign (v := .bool false) (by kernel_rfl)) ?_
    refine wpList_nil ?_
    refine then_n ?_
    refine wp_ret ?_
    refine inb_r ?_
    refine then_r ?_
    obtain rfl := Option.some.inj M
    exact ret1 rfl rfl  (show _ = .bool false from (by kernel_rfl)) ⟨rfl, S9.chg⟩
  replace M := ifn q19 M
  refine cond_f rfl (bf q19 (by kernel_rfl)) ?_
  refine wp_skip ?_
  refine inb_n ?_
  refine then_n ?_
  refine wp_seq ?_
  refine wp_region_lit ?_
  refine lv (d := 2) rfl rfl (by kernel_rfl) (e_assign (v := .bool false) rfl) ?_
  refine wpList_nil ?_
  refine then_n ?_
  refine wp_ret ?_
  obtain rfl := Option.some.inj M
  exact ret1 rfl rfl  (show _ = .bool false from (by kernel_rfl)) ⟨rfl, S9.chg⟩

/-! impl_ValidTerm -/
def impl_ValidTerm.l0 : Nat → (List Cell) → Int → Int → Option Bool
  | 0, _, _, _ => none
  | k20 + 1, x1, x9, x10 => (if x10 < (x1.length : Int) then (if 0 ≤ x10 then (if x9 = 0 then some false else ((impl_cellOk.f (x1.getD ((x10).toNat) z36)).bind fun t43 => (if ¬ (t43 = true) then some false else (if ((x1.getD ((x10).toNat) z36).kind) = 3 then (impl_ValidTerm.l0 k20 x1 (IntKind.i64.wrap ((IntKind.i64.wrap (x9 - 1)) + ((x1.getD ((x10).toNat) z36).n))) (IntKind.i64.wrap (x10 + 1))) else (impl_ValidTerm.l0 k20 x1 (IntKind.i64.wrap (x9 - 1)) (IntKind.i64.wrap (x10 + 1))))))) else none) else some (decide (x9 = 0)))
def impl_ValidTerm.f (k : Nat) (x1 : List Cell) : Option Bool := (if (x1.length : Int) > 2000 then some false else (impl_ValidTerm.l0 k x1 1 0))
theorem impl_ValidTerm.calls (k : Nat) (w : World) (H : Hp) (x1 : List Cell) (A2 : Option Addr) (c3 : Nat) (h4 : Rd st36 H A2 x1) (l5 : x1.length ≤ c3) (S : Own [] H w) (r : Bool) (M : impl_ValidTerm.f k x1 = some r) :
    Calls Try.prog 18 #[.slice A2 x1.length c3] w (fun e e_w => e = .returned (.bool r) ∧ Chg no w e_w) := by
  rw [impl_ValidTerm.f] at M
  refine enter (l := [.slice A2 x1.length c3]) 34 Try.func18 rfl rfl rfl ?_
  have S0_ := S.st
  refine wp_seq ?_
  refine wp_region_lit ?_
  refine lv (d := 2) rfl rfl (by kernel_rfl) (e_assign (v := .bool false) rfl) ?_
  refine wpList_nil ?_
  refine then_n ?_
  refine wp_seq ?_
  refine wp_seq ?_
  refine wp_region_lit ?_
  refine lv (d := 6) rfl rfl (by kernel_rfl) (e_move (v := .slice A2 x1.length c3) (by kernel_rfl)) ?_
  refine lv (d := 7) rfl rfl (by kernel_rfl) (e_len (A := A2) (n := x1.length) (c := c3) Try.underlying24 (by kernel_rfl)) ?_
  refine lv (d := 8) rfl rfl (by kernel_rfl) (e_gtr (k := .i64) (a := (x1.length : Int)) (b := 2000) (by kernel_rfl) rfl) ?_
  refine wpList_nil ?_
  refine then_n ?_
  by_cases q6 : (x1.length : Int) > 2000
  · replace M := ifp q6 M
    refine cond_t rfl (bt q6 (by kernel_rfl)) ?_
    refine wp_seq ?_
    refine wp_region_lit ?_
    refine lv (d := 2) rfl rfl (by kernel_rfl) (e_assign (v := .bool false) rfl) ?_
    refine wpList_nil ?_
    refine then_n ?_
    refine wp_ret ?_
    refine then_r ?_
    obtain rfl := Option.some.inj M
    exact ret1 rfl rfl  (show _ = .bool false from (by kernel_rfl)) ⟨rfl, S0_.chg⟩
  replace M := ifn q6 M
  refine cond_f rfl (bf q6 (by kernel_rfl)) ?_
  refine wp_skip ?_
  refine then_n ?_
  refine wp_seq ?_
  refine wp_region_lit ?_
  refine lv (d := 3) rfl rfl (by kernel_rfl) (e_assign (v := .int .i64 1) rfl) ?_
  refine wpList_nil ?_
  refine then_n ?_
  refine wp_seq ?_
  refine wp_seq ?_
  refine wp_region_lit ?_
  refine lv (d := 9) rfl rfl (by kernel_rfl) (e_move (v := .slice A2 x1.length c3) (by kernel_rfl)) ?_
  refine lv (d := 10) rfl rfl (by kernel_rfl) (e_len (A := A2) (n := x1.length) (c := c3) Try.underlying24 (by kernel_rfl)) ?_
  refine lv (d := 11) rfl rfl (by kernel_rfl) (e_move (v := .int .i64 0) rfl) ?_
  refine wpList_nil ?_
  refine then_n ?_
  refine wp_block ?_
  refine wp_loop_g (fun k18 a19 w7 => ∃ (f8 : Nat → Value) (x9 : Int) (x10 : Int), a19 = mk 34 f8 ∧ f8 3 = .int .i64 x9 ∧ f8 9 = .slice A2 x1.length c3 ∧ f8 10 = .int .i64 (x1.length : Int) ∧ f8 11 = .int .i64 x10 ∧ St (anyOf []) H w [] H w7 ∧ impl_ValidTerm.l0 k18 x1 x9 x10 = some r) k ⟨_, 1, 0, rfl, (by kernel_rfl), (by kernel_rfl), (by kernel_rfl), (by kernel_rfl), S0_, M⟩ ?_
  clear M
  rintro k18 a19 w7 ⟨f8, x9, x10, rfl, e11, e12, e13, e14, S15, M⟩
  rcases k18 with _ | k20
  · rw [impl_ValidTerm.l0] at M
    cases M
  rw [impl_ValidTerm.l0] at M
  refine wp_seq ?_
  refine wp_region_lit ?_
  refine lv (d := 12) rfl rfl (by kernel_rfl) (e_lss (k := .i64) (a := x10) (b := (x1.length : Int)) (by exact e14) (by exact e13)) ?_
  refine wpList_nil ?_
  refine then_n ?_
  refine wp_seq ?_
  by_cases q21 : x10 < (x1.length : Int)
  · replace M := ifp q21 M
    refine cond_t rfl (bt q21 (by kernel_rfl)) ?_
    refine wp_skip ?_
    refine then_n ?_
    refine wp_seq ?_
    refine wp_block ?_
    refine wp_seq ?_
    refine wp_region_lit ?_
    obtain ⟨q22, M⟩ := chk M
    obtain ⟨b23, o24, e25⟩ := Rd.addr h4 (show (x10).toNat < x1.length by omega)
    obtain ⟨y26, r27, k28⟩ := Rd.at h4 e25 (getD_some z36 (show (x10).toNat < x1.length by omega))
    obtain ⟨A29, c30, rfl, l31, h32⟩ := st36_open r27
    refine lv (d := 13) rfl rfl (by kernel_rfl) (e_indexAddr (b := b23) (off := o24) (n := x1.length) (c := c3) (sz := 3) (i := x10) (k := .i64) Try.underlying24 e25 (by kernel_rfl) (by exact e12) (by exact e14) q22 q21) ?_
    refine lv (d := 14) rfl rfl (by kernel_rfl) (e_loadS (b := b23) (off := o24 + (x10 : Int).toNat * 3) (cs := [.int .i64 ((x1.getD ((x10).toNat) z36).kind), .int .i64 ((x1.getD ((x10).toNat) z36).n), .slice A29 ((x1.getD ((x10).toNat) z36).text).length c30]) Try.underlying36 rfl (by kernel_rfl) (by kernel_rfl) (fun j_ u_ e_ => (hpx (S15.inv.cell (k28 j_ u_ e_))))) ?_
    refine lve (d := 5) rfl rfl (by kernel_rfl) (new_blk (v := fun g_ => .pointer (some ⟨g_, 0, none⟩)) (cs := #[.int .i64 0, .int .i64 0, .slice none 0 0]) (t := 36) S15 (by kernel_rfl)) ?_
    rintro _ w33 ⟨g34, rfl, b35, S36, K37⟩
    refine lse rfl rfl (by kernel_rfl) (e_store (g := g34) (o := 0) (v := .agg #[.int .i64 ((x1.getD ((x10).toNat) z36).kind), .int .i64 ((x1.getD ((x10).toNat) z36).n), .slice A29 ((x1.getD ((x10).toNat) z36).text).length c30]) (cur' := #[.int .i64 ((x1.getD ((x10).toNat) z36).kind), .int .i64 ((x1.getD ((x10).toNat) z36).n), .slice A29 ((x1.getD ((x10).toNat) z36).text).length c30]) (vs := [.int .i64 ((x1.getD ((x10).toNat) z36).kind), .int .i64 ((x1.getD ((x10).toNat) z36).n), .slice A29 ((x1.getD ((x10).toNat) z36).text).length c30]) S36 (by kernel_rfl) (by kernel_rfl) rfl (by kernel_rfl) b35 (Nat.le_of_ble_eq_true rfl) (List.forall_mem_cons.2 ⟨rfl, (List.forall_mem_cons.2 ⟨rfl, (List.forall_mem_cons.2 ⟨rfl, (fun _ h_ => by cases h_)⟩)⟩)⟩) rfl) ?_
    rintro w38 ⟨b39, S40, K41⟩
    clear b35
    refine wpList_nil ?_
    refine then_n ?_
    refine wp_seq ?_
    refine wp_seq ?_
    refine wp_region_lit ?_
    refine lv (d := 15) rfl rfl (by kernel_rfl) (e_move (v := .int .i64 x9) (by exact e11)) ?_
    refine lv (d := 16) rfl rfl (by kernel_rfl) (e_eql (k := .i64) (a := x9) (b := 0) (by kernel_rfl) rfl) ?_
    refine lv (d := 17) rfl rfl (by kernel_rfl) (e_move (v := .bool (decide (x9 = 0))) (by kernel_rfl)) ?_
    by_cases q42 : x9 = 0
    · replace M := ifp q42 M
      refine lskip (t := 17) (c := true) rfl (by kernel_rfl) rfl (bt q42 (by kernel_rfl)) rfl rfl ?_
      refine lskip (t := 17) (c := true) rfl (by kernel_rfl) rfl (bt q42 (by kernel_rfl)) rfl rfl ?_
      refine lskip (t := 17) (c := true) rfl (by kernel_rfl) rfl (bt q42 (by kernel_rfl)) rfl rfl ?_
      refine lv (d := 21) rfl rfl (by kernel_rfl) (e_pick_t (v := .bool true) (bt q42 (by kernel_rfl)) rfl) ?_
      refine wpList_nil ?_
      refine then_n ?_
      refine cond_t rfl (by kernel_rfl) ?_
      refine wp_seq ?_
      refine wp_region_lit ?_
      refine lv (d := 2) rfl rfl (by kernel_rfl) (e_assign (v := .bool false) rfl) ?_
      refine wpList_nil ?_
      refine then_n ?_
      refine wp_ret ?_
      refine then_r ?_
      refine inb_r ?_
      refine then_r ?_
      refine then_r ?_
      refine inb_r ?_
      refine then_r ?_
      obtain rfl := Option.some.inj M
      exact ret1 rfl rfl  (show _ = .bool false from (by kernel_rfl)) ⟨rfl, S40.chg⟩
    replace M := ifn q42 M
    refine lvg (d := 18) (t := 17) rfl (by kernel_rfl) rfl (bf q42 (by kernel_rfl)) rfl (by kernel_rfl) (e_loadS (b := g34) (off := 0) (cs := [.int .i64 ((x1.getD ((x10).toNat) z36).kind), .int .i64 ((x1.getD ((x10).toNat) z36).n), .slice A29 ((x1.getD ((x10).toNat) z36).text).length c30]) Try.underlying36 rfl (by kernel_rfl) (by kernel_rfl) (blk_cells b39 rfl)) ?_
    obtain ⟨t43, u44, M⟩ := bnd M
    refine lcallg (d := 19) (t := 17) rfl (by kernel_rfl) rfl (bf q42 (by kernel_rfl)) rfl (by kernel_rfl) (e_call (l := [.tmp 18]) (vs := [.agg #[.int .i64 ((x1.getD ((x10).toNat) z36).kind), .int .i64 ((x1.getD ((x10).toNat) z36).n), .slice A29 ((x1.getD ((x10).toNat) z36).text).length c30]]) Try.func43 (by kernel_rfl) rfl (by kernel_rfl) rfl) (impl_cellOk.calls w38 H (x1.getD ((x10).toNat) z36) A29 c30 h32 l31 S40.own0 t43 u44) ?_
    rintro _ w45 ⟨rfl, C46⟩
    refine ⟨_, rfl, ?_⟩
    obtain ⟨S47, K48⟩ := S40.still C46
    replace b39 := K48.blk 0 rfl b39
    refine lvg (d := 20) (t := 17) rfl (by kernel_rfl) rfl (bf q42 (by kernel_rfl)) rfl (by kernel_rfl) (e_notv (c := t43) (by kernel_rfl)) ?_
    refine lv (d := 21) rfl rfl (by kernel_rfl) (e_pick_f (v := .bool (decide (¬ (t43 = true)))) (bf q42 (by kernel_rfl)) (by kernel_rfl)) ?_
    refine wpList_nil ?_
    refine then_n ?_
    by_cases q49 : ¬ (t43 = true)
    · replace M := ifp q49 M
      refine cond_t rfl (bt q49 (by kernel_rfl)) ?_
      refine wp_seq ?_
      refine wp_region_lit ?_
      refine lv (d := 2) rfl rfl (by kernel_rfl) (e_assign (v := .bool false) rfl) ?_
      refine wpList_nil ?_
      refine then_n ?_
      refine wp_ret ?_
      refine then_r ?_
      refine inb_r ?_
      refine then_r ?_
      refine then_r ?_
      refine inb_r ?_
      refine then_r ?_
      obtain rfl := Option.some.inj M
      exact ret1 rfl rfl  (show _ = .bool false from (by kernel_rfl)) ⟨rfl, S47.chg⟩
    replace M := ifn q49 M
    refine cond_f rfl (bf q49 (by kernel_rfl)) ?_
    refine wp_skip ?_
    refine then_n ?_
    refine wp_seq ?_
    refine wp_region_lit ?_
    refine lv (d := 22) rfl rfl (by kernel_rfl) (e_move (v := .int .i64 x9) (by exact e11)) ?_
    refine lv (d := 23) rfl rfl (by kernel_rfl) (e_sub (k := .i64) (a := x9) (b := 1) (by kernel_rfl) rfl) ?_
    refine lv (d := 3) rfl rfl (by kernel_rfl) (e_assign (v := .int .i64 (IntKind.i64.wrap (x9 - 1))) (by kernel_rfl)) ?_
    refine wpList_nil ?_
    refine then_n ?_
    refine wp_seq ?_
    refine wp_region_lit ?_
    refine lv (d := 24) rfl rfl (by kernel_rfl) (e_fieldAddr (b := g34) (off := 0) (o := 0) Try.underlying36 rfl rfl (sz := 1) (by kernel_rfl) (by decide) (by kernel_rfl)) ?_
    refine lv (d := 25) rfl rfl (by kernel_rfl) (e_load1 (ad := ⟨g34, 0 + 0, none⟩) (v := .int .i64 ((x1.getD ((x10).toNat) z36).kind)) Try.underlying3 rfl (by kernel_rfl) (blk_cell b39 rfl)) ?_
    refine lv (d := 26) rfl rfl (by kernel_rfl) (e_eql (k := .i64) (a := (x1.getD ((x10).toNat) z36).kind) (b := 3) (by kernel_rfl) rfl) ?_
    refine wpList_nil ?_
    refine then_n ?_
    by_cases q50 : ((x1.getD ((x10).toNat) z36).kind) = 3
    · replace M := ifp q50 M
      refine cond_t rfl (bt q50 (by kernel_rfl)) ?_
      refine wp_region_lit ?_
      refine lv (d := 27) rfl rfl (by kernel_rfl) (e_move (v := .int .i64 (IntKind.i64.wrap (x9 - 1))) (by kernel_rfl)) ?_
      refine lv (d := 28) rfl rfl (by kernel_rfl) (e_fieldAddr (b := g34) (off := 0) (o := 1) Try.underlying36 rfl rfl (sz := 1) (by kernel_rfl) (by decide) (by kernel_rfl)) ?_
      refine lv (d := 29) rfl rfl (by kernel_rfl) (e_load1 (ad := ⟨g34, 0 + 1, none⟩) (v := .int .i64 ((x1.getD ((x10).toNat) z36).n)) Try.underlying3 rfl (by kernel_rfl) (blk_cell b39 rfl)) ?_
      refine lv (d := 30) rfl rfl (by kernel_rfl) (e_add (k := .i64) (a := (IntKind.i64.wrap (x9 - 1))) (b := (x1.getD ((x10).toNat) z36).n) (by kernel_rfl) (by kernel_rfl)) ?_
      refine lv (d := 3) rfl rfl (by kernel_rfl) (e_assign (v := .int .i64 (IntKind.i64.wrap ((IntKind.i64.wrap (x9 - 1)) + ((x1.getD ((x10).toNat) z36).n)))) (by kernel_rfl)) ?_
      refine wpList_nil ?_
      refine inb_n ?_
      refine then_n ?_
      refine wp_region_lit ?_
      refine lv (d := 31) rfl rfl (by kernel_rfl) (e_add (k := .i64) (a := x10) (b := 1) (by exact e14) rfl) ?_
      refine lv (d := 11) rfl rfl (by kernel_rfl) (e_move (v := .int .i64 (IntKind.i64.wrap (x10 + 1))) (by kernel_rfl)) ?_
      refine wpList_nil ?_
      refine then_n ?_
      have S51 := St.first (Fa := []) (Fr := [(is g34)]) S47
      exact ⟨k20, (by omega), _, (IntKind.i64.wrap ((IntKind.i64.wrap (x9 - 1)) + ((x1.getD ((x10).toNat) z36).n))), (IntKind.i64.wrap (x10 + 1)), rfl, (by kernel_rfl), (by exact e12), (by exact e13), (by kernel_rfl), S51, M⟩
    replace M := ifn q50 M
    refine cond_f rfl (bf q50 (by kernel_rfl)) ?_
    refine wp_skip ?_
    refine inb_n ?_
    refine then_n ?_
    refine wp_region_lit ?_
    refine lv (d := 31) rfl rfl (by kernel_rfl) (e_add (k := .i64) (a := x10) (b := 1) (by exact e14) rfl) ?_
    refine lv (d := 11) rfl rfl (by kernel_rfl) (e_move (v := .int .i64 (IntKind.i64.wrap (x10 + 1))) (by kernel_rfl)) ?_
    refine wpList_nil ?_
    refine then_n ?_
    have S52 := St.first (Fa := []) (Fr := [(is g34)]) S47
    exact ⟨k20, (by omega), _, (IntKind.i64.wrap (x9 - 1)), (IntKind.i64.wrap (x10 + 1)), rfl, (by kernel_rfl), (by exact e12), (by exact e13), (by kernel_rfl), S52, M⟩
  replace M := ifn q21 M
  refine cond_f rfl (bf q21 (by kernel_rfl)) ?_
  refine wp_exit ?_
  refine then_e ?_
  refine then_e ?_
  refine inb_hit ?_
  refine then_n ?_
  refine wp_seq ?_
  refine wp_region_lit ?_
  refine lv (d := 32) rfl rfl (by kernel_rfl) (e_move (v := .int .i64 x9) (by exact e11)) ?_
  refine lv (d := 33) rfl rfl (by kernel_rfl) (e_eql (k := .i64) (a := x9) (b := 0) (by kernel_rfl) rfl) ?_
  refine lv (d := 2) rfl rfl (by kernel_rfl) (e_assign (v := .bool (decide (x9 = 0))) (by kernel_rfl)) ?_
  refine wpList_nil ?_
  refine then_n ?_
  refine wp_ret ?_
  obtain rfl := Option.some.inj M
  exact ret1 rfl rfl  (show _ = .bool (decide (x9 = 0)) from (by kernel_rfl)) ⟨rfl, S15.chg⟩

/-! impl_fromCells -/
mutual
def impl_fromCells.l0 : Nat → (List Cell) → (List Cell) → Int → (List Tm) → Option (Tm × (List Cell))
  | 0, _, _, _, _ => none
  | k61 + 1, x1, x41, x46, x47 => (if x46 < ((x1.getD 0 z36).n) then ((impl_fromCells.f k61 x41).bind fun t66 => (if x47.length + 1 ≤ 17592186044416 then (impl_fromCells.l0 k61 x1 t66.2 (IntKind.i64.wrap (x46 + 1)) (x47 ++ [t66.1])) else none)) else some ((Tm.mk ((x1.getD 0 z36).kind) ((x1.getD 0 z36).n) ((x1.getD 0 z36).text) x47), x41))
def impl_fromCells.f : Nat → (List Cell) → Option (Tm × (List Cell))
  | 0, _ => none
  | k1_ + 1, x1 => (if 0 < (x1.length : Int) then (if 1 ≤ (x1.length : Int) then (if ((x1.getD 0 z36).kind) = 3 then (impl_fromCells.l0 k1_ x1 (x1.drop ((1 : Int).toNat)) 0 []) else some ((Tm.mk ((x1.getD 0 z36).kind) ((x1.getD 0 z36).n) ((x1.getD 0 z36).text) []), (x1.drop ((1 : Int).toNat)))) else none) else none)
end
theorem impl_fromCells.all : ∀ (K : Nat), (∀ (k : Nat), k < K → ∀ (w : World) (H : Hp) (x1 : List Cell) (A2 : Option Addr) (c3 : Nat) (h4 : Rd st36 H A2 x1) (l5 : x1.length ≤ c3) (S : Own [] H w) (r : Tm × (List Cell)) (M : impl_fromCells.f k x1 = some r), Calls Try.prog 46 #[.slice A2 x1.length c3] w (fun e e_w => ∃ (g_1 : Nat) (A_1 : Option Addr) (c_1 : Nat) (H_ : Hp), e = .returned (.tuple #[.pointer (some ⟨g_1, 0, none⟩), .slice A_1 r.2.length c_1]) ∧ NodeR 74 H_ r.1 (.pointer (some ⟨g_1, 0, none⟩)) ∧ Rd st36 H_ A_1 r.2 ∧ r.2.length ≤ c_1 ∧ St (anyOf []) H w [] H_ e_w)) := by
  intro K
  induction K with
  | zero => intro k hk; omega
  | succ K ih =>
    intro k hk w H x1 A2 c3 h4 l5 S r M
    rcases k with _ | k1_
    · rw [impl_fromCells.f] at M
      cases M
    rw [impl_fromCells.f] at M
    refine enter (l := [.slice A2 x1.length c3]) 48 Try.func46 rfl rfl rfl ?_
    have S0_ := S.st
    refine wp_seq ?_
    refine wp_region_lit ?_
    refine lv (d := 2) rfl rfl (by kernel_rfl) (e_assign (v := .pointer none) rfl) ?_
    refine lv (d := 3) rfl rfl (by kernel_rfl) (e_assign (v := .slice none 0 0) rfl) ?_
    refine wpList_nil ?_
    refine then_n ?_
    refine wp_seq ?_
    refine wp_region_lit ?_
    refine lv (d := 8) rfl rfl (by kernel_rfl) (e_move (v := .slice A2 x1.length c3) (by kernel_rfl)) ?_
    obtain ⟨q6, M⟩ := chk M
    obtain ⟨b7, o8, e9⟩ := Rd.addr h4 (show 0 < x1.length by omega)
    obtain ⟨y10, r11, k12⟩ := Rd.at h4 e9 (getD_some z36 (show 0 < x1.length by omega))
    obtain ⟨A13, c14, rfl, l15, h16⟩ := st36_open r11
    refine lv (d := 9) rfl rfl (by kernel_rfl) (e_indexAddr (b := b7) (off := o8) (n := x1.length) (c := c3) (sz := 3) (i := 0) (k := .i64) Try.underlying24 e9 (by kernel_rfl) (by kernel_rfl) rfl (by omega) q6) ?_
    refine lv (d := 10) rfl rfl (by kernel_rfl) (e_loadS (b := b7) (off := o8 + (0 : Int).toNat * 3) (cs := [.int .i64 ((x1.getD 0 z36).kind), .int .i64 ((x1.getD 0 z36).n), .slice A13 ((x1.getD 0 z36).text).length c14]) Try.underlying36 rfl (by kernel_rfl) (by kernel_rfl) (fun j_ u_ e_ => (hpx (S0_.inv.cell (k12 j_ u_ e_))))) ?_
    refine lve (d := 4) rfl rfl (by kernel_rfl) (new_blk (v := fun g_ => .pointer (some ⟨g_, 0, none⟩)) (cs := #[.int .i64 0, .int .i64 0, .slice none 0 0]) (t := 36) S0_ (by kernel_rfl)) ?_
    rintro _ w17 ⟨g18, rfl, b19, S20, K21⟩
    refine lse rfl rfl (by kernel_rfl) (e_store (g := g18) (o := 0) (v := .agg #[.int .i64 ((x1.getD 0 z36).kind), .int .i64 ((x1.getD 0 z36).n), .slice A13 ((x1.getD 0 z36).text).length c14]) (cur' := #[.int .i64 ((x1.getD 0 z36).kind), .int .i64 ((x1.getD 0 z36).n), .slice A13 ((x1.getD 0 z36).text).length c14]) (vs := [.int .i64 ((x1.getD 0 z36).kind), .int .i64 ((x1.getD 0 z36).n), .slice A13 ((x1.getD 0 z36).text).length c14]) S20 (by kernel_rfl) (by kernel_rfl) rfl (by kernel_rfl) b19 (Nat.le_of_ble_eq_true rfl) (List.forall_mem_cons.2 ⟨rfl, (List.forall_mem_cons.2 ⟨rfl, (List.forall_mem_cons.2 ⟨rfl, (fun _ h_ => by cases h_)⟩)⟩)⟩) rfl) ?_
    rintro w22 ⟨b23, S24, K25⟩
    clear b19
    refine wpList_nil ?_
    refine then_n ?_
    refine wp_seq ?_
    refine wp_region_lit ?_
    refine lv (d := 11) rfl rfl (by kernel_rfl) (e_move (v := .slice A2 x1.length c3) (by kernel_rfl)) ?_
    obtain ⟨q26, M⟩ := chk M
    obtain ⟨A27, h30, l29, h28⟩ := Rd.sub1 (d := st36) (n := x1.length) (m := 3) (cap := c3) (a := 1) rfl h4 (by decide) q26 rfl l5
    refine lv (d := 12) rfl rfl (by kernel_rfl) (e_slice_l (n := x1.length) (m := 3) (cap := c3) (A := A2) (a := 1) (k := .i64) Try.underlying24 (by kernel_rfl) (by kernel_rfl) rfl (by decide) q26 l5 h30) ?_
    refine lv (d := 0) rfl rfl (by kernel_rfl) (e_assign (v := .slice A27 (x1.drop ((1 : Int).toNat)).length (c3 - ((1 : Int).toNat))) (by kernel_rfl)) ?_
    refine wpList_nil ?_
    refine then_n ?_
    refine wp_seq ?_
    refine wp_region_lit ?_
    refine lv (d := 13) rfl rfl (by kernel_rfl) (e_fieldAddr (b := g18) (off := 0) (o := 0) Try.underlying36 rfl rfl (sz := 1) (by kernel_rfl) (by decide) (by kernel_rfl)) ?_
    refine lv (d := 14) rfl rfl (by kernel_rfl) (e_load1 (ad := ⟨g18, 0 + 0, none⟩) (v := .int .i64 ((x1.getD 0 z36).kind)) Try.underlying3 rfl (by kernel_rfl) (blk_cell b23 rfl)) ?_
    refine lv (d := 15) rfl rfl (by kernel_rfl) (e_fieldAddr (b := g18) (off := 0) (o := 1) Try.underlying36 rfl rfl (sz := 1) (by kernel_rfl) (by decide) (by kernel_rfl)) ?_
    refine lv (d := 16) rfl rfl (by kernel_rfl) (e_load1 (ad := ⟨g18, 0 + 1, none⟩) (v := .int .i64 ((x1.getD 0 z36).n)) Try.underlying3 rfl (by kernel_rfl) (blk_cell b23 rfl)) ?_
    refine lv (d := 17) rfl rfl (by kernel_rfl) (e_fieldAddr (b := g18) (off := 0) (o := 2) Try.underlying36 rfl rfl (sz := 1) (by kernel_rfl) (by decide) (by kernel_rfl)) ?_
    refine lv (d := 18) rfl rfl (by kernel_rfl) (e_load1 (ad := ⟨g18, 0 + 2, none⟩) (v := .slice A13 ((x1.getD 0 z36).text).length c14) Try.underlying32 rfl (by kernel_rfl) (blk_cell b23 rfl)) ?_
    refine lv (d := 19) rfl rfl (by kernel_rfl) (e_conv_bs (A := A13) (n := ((x1.getD 0 z36).text).length) (c := c14) (xs := (x1.getD 0 z36).text) Try.underlying32 Try.underlying5 Try.underlying9 (by kernel_rfl) rfl (Rd.bytesE S24.inv h16)) ?_
    refine lv (d := 20) rfl rfl (by kernel_rfl) (show _ = Result.ok (Next.value (.agg #[.int .i64 ((x1.getD 0 z36).kind), .int .i64 ((x1.getD 0 z36).n), str ((x1.getD 0 z36).text), .slice none 0 0])) w22 from by kernel_rfl) ?_
    refine lve (d := 21) rfl rfl (by kernel_rfl) (new_blk (v := fun g_ => .pointer (some ⟨g_, 0, none⟩)) (cs := #[.int .i64 ((x1.getD 0 z36).kind), .int .i64 ((x1.getD 0 z36).n), str ((x1.getD 0 z36).text), .slice none 0 0]) (t := 74) S24 (by kernel_rfl)) ?_
    rintro _ w31 ⟨g32, rfl, b33, S34, K35⟩
    replace b23 := K35.blk 0 rfl b23
    refine lv (d := 5) rfl rfl (by kernel_rfl) (e_assign (v := .pointer (some ⟨g32, 0, none⟩)) (by kernel_rfl)) ?_
    refine wpList_nil ?_
    refine then_n ?_
    refine wp_seq ?_
    refine wp_seq ?_
    refine wp_region_lit ?_
    refine lv (d := 22) rfl rfl (by kernel_rfl) (e_fieldAddr (b := g18) (off := 0) (o := 0) Try.underlying36 rfl rfl (sz := 1) (by kernel_rfl) (by decide) (by kernel_rfl)) ?_
    refine lv (d := 23) rfl rfl (by kernel_rfl) (e_load1 (ad := ⟨g18, 0 + 0, none⟩) (v := .int .i64 ((x1.getD 0 z36).kind)) Try.underlying3 rfl (by kernel_rfl) (blk_cell b23 rfl)) ?_
    refine lv (d := 24) rfl rfl (by kernel_rfl) (e_eql (k := .i64) (a := (x1.getD 0 z36).kind) (b := 3) (by kernel_rfl) rfl) ?_
    refine wpList_nil ?_
    refine then_n ?_
    by_cases q36 : ((x1.getD 0 z36).kind) = 3
    · replace M := ifp q36 M
      refine cond_t rfl (bt q36 (by kernel_rfl)) ?_
      refine wp_seq ?_
      refine wp_region_lit ?_
      refine lv (d := 6) rfl rfl (by kernel_rfl) (e_assign (v := .int .i64 0) rfl) ?_
      refine wpList_nil ?_
      refine then_n ?_
      refine wp_block ?_
      have S62 := S34.unit
      have S63 := S62.pull (F := (is g18)) (Fr := [no, (is g32)]) 2 rfl rfl
      have S64 := S63.pull (F := (is g32)) (Fr := [(is g18), no]) 2 rfl rfl
      refine wp_loop_g (fun k59 a60 w37 => ∃ (f38 : Nat → Value) (H39 : Hp) (x41 : List Cell) (A42 : Option Addr) (c43 : Nat) (x46 : Int) (x47 : List Tm) (A48 : Option Addr) (c49 : Nat) (F50 : Foot), k59 < K ∧ a60 = mk 48 f38 ∧ f38 0 = .slice A42 x41.length c43 ∧ f38 4 = .pointer (some ⟨g18, 0, none⟩) ∧ f38 5 = .pointer (some ⟨g32, 0, none⟩) ∧ f38 6 = .int .i64 x46 ∧ w37.heap[g32]? = some (.cells #[.int .i64 ((x1.getD 0 z36).kind), .int .i64 ((x1.getD 0 z36).n), str ((x1.getD 0 z36).text), .slice A48 x47.length c49] 74 (0, 0)) ∧ w37.heap[g18]? = some (.cells #[.int .i64 ((x1.getD 0 z36).kind), .int .i64 ((x1.getD 0 z36).n), .slice A13 ((x1.getD 0 z36).text).length c14] 36 (0, 0)) ∧ Row (node 74) 38 H39 (hp w37) F50 A48 c49 x47 ∧ Rd st36 H39 A42 x41 ∧ x41.length ≤ c43 ∧ Ext H H39 ∧ St (anyOf []) H w [(is g32), (is g18), F50] H39 w37 ∧ impl_fromCells.l0 k59 x1 x41 x46 x47 = some r) k1_ ⟨_, H, (x1.drop ((1 : Int).toNat)), A27, (c3 - ((1 : Int).toNat)), 0, [], none, 0, no, (by omega), rfl, (by kernel_rfl), (by kernel_rfl), (by kernel_rfl), (by kernel_rfl), b33, b23, (Row.nil _ _ _ _ _), h28, l29, (Ext.refl _), S64, M⟩ ?_
      clear M
      rintro k59 a60 w37 ⟨f38, H39, x41, A42, c43, x46, x47, A48, c49, F50, z57, rfl, e52, e53, e54, e55, b33, b23, h51, h44, l45, Y40, S56, M⟩
      rcases k59 with _ | k61
      · rw [impl_fromCells.l0] at M
        cases M
      rw [impl_fromCells.l0] at M
      refine wp_seq ?_
      refine wp_seq ?_
      refine wp_region_lit ?_
      refine lv (d := 25) rfl rfl (by kernel_rfl) (e_move (v := .int .i64 x46) (by exact e55)) ?_
      refine lv (d := 26) rfl rfl (by kernel_rfl) (e_fieldAddr (b := g18) (off := 0) (o := 1) Try.underlying36 rfl rfl (sz := 1) (by kernel_rfl) (by decide) (by exact e53)) ?_
      refine lv (d := 27) rfl rfl (by kernel_rfl) (e_load1 (ad := ⟨g18, 0 + 1, none⟩) (v := .int .i64 ((x1.getD 0 z36).n)) Try.underlying3 rfl (by kernel_rfl) (blk_cell b23 rfl)) ?_
      refine lv (d := 28) rfl rfl (by kernel_rfl) (e_lss (k := .i64) (a := x46) (b := (x1.getD 0 z36).n) (by kernel_rfl) (by kernel_rfl)) ?_
      refine wpList_nil ?_
      refine then_n ?_
      by_cases q65 : x46 < ((x1.getD 0 z36).n)
      · replace M := ifp q65 M
        refine cond_t rfl (bt q65 (by kernel_rfl)) ?_
        refine wp_skip ?_
        refine then_n ?_
        refine wp_seq ?_
        refine wp_block ?_
        refine wp_seq ?_
        refine wp_region_lit ?_
        refine lv (d := 7) rfl rfl (by kernel_rfl) (e_assign (v := .pointer none) rfl) ?_
        refine wpList_nil ?_
        refine then_n ?_
        refine wp_seq ?_
        refine wp_region_lit ?_
        refine lv (d := 32) rfl rfl (by kernel_rfl) (e_move (v := .slice A42 x41.length c43) (by exact e52)) ?_
        obtain ⟨t66, u67, M⟩ := bnd M
        refine lcall (d := 33) rfl rfl (by kernel_rfl) (e_call (l := [.tmp 32]) (vs := [.slice A42 x41.length c43]) Try.func46 (by kernel_rfl) rfl (by kernel_rfl) rfl) (ih k61 (by omega) w37 H39 x41 A42 c43 h44 l45 (St.own' (Fa := []) (Fr := [(is g32), (is g18), F50]) S56) t66 u67) ?_
        rintro _ w68 ⟨g71, A73, c74, H69, rfl, h72, h75, l76, T70⟩
        refine ⟨_, rfl, ?_⟩
        obtain ⟨S77, K78⟩ := St.call (Fa := []) (Fr := [(is g32), (is g18), F50]) S56 T70
        replace b33 := K78.blk 0 rfl b33
        replace b23 := K78.blk 1 rfl b23
        replace h51 := h51.move (K78.at 2 rfl)
        have E79 := T70.ext
        replace h51 := h51.ext E79
        refine lv (d := 31) rfl rfl (by kernel_rfl) (e_move (v := .tuple #[.pointer (some ⟨g71, 0, none⟩), .slice A73 t66.2.length c74]) (by kernel_rfl)) ?_
        refine lv (d := 34) rfl rfl (by kernel_rfl) (e_extract (vs := #[.pointer (some ⟨g71, 0, none⟩), .slice A73 t66.2.length c74]) (v := .pointer (some ⟨g71, 0, none⟩)) (by kernel_rfl) rfl) ?_
        refine lv (d := 35) rfl rfl (by kernel_rfl) (e_extract (vs := #[.pointer (some ⟨g71, 0, none⟩), .slice A73 t66.2.length c74]) (v := .slice A73 t66.2.length c74) (by kernel_rfl) rfl) ?_
        refine lv (d := 7) rfl rfl (by kernel_rfl) (e_assign (v := .pointer (some ⟨g71, 0, none⟩)) (by kernel_rfl)) ?_
        refine lv (d := 0) rfl rfl (by kernel_rfl) (e_assign (v := .slice A73 t66.2.length c74) (by kernel_rfl)) ?_
        refine wpList_nil ?_
        refine then_n ?_
        refine wp_region_lit ?_
        refine lv (d := 36) rfl rfl (by kernel_rfl) (e_move (v := .pointer (some ⟨g32, 0, none⟩)) (by exact e54)) ?_
        refine lv (d := 37) rfl rfl (by kernel_rfl) (e_move (v := .pointer (some ⟨g32, 0, none⟩)) (by exact e54)) ?_
        refine lv (d := 38) rfl rfl (by kernel_rfl) (e_nilCheck (ad := ⟨g32, 0, none⟩) (by kernel_rfl)) ?_
        refine lv (d := 39) rfl rfl (by kernel_rfl) (e_fieldAddr (b := g32) (off := 0) (o := 3) Try.underlying74 rfl rfl (sz := 1) (by kernel_rfl) (by decide) (by kernel_rfl)) ?_
        refine lv (d := 40) rfl rfl (by kernel_rfl) (e_load1 (ad := ⟨g32, 0 + 3, none⟩) (v := .slice A48 x47.length c49) Try.underlying72 rfl (by kernel_rfl) (blk_cell b33 rfl)) ?_
        refine lv (d := 41) rfl rfl (by kernel_rfl) (e_move (v := .pointer (some ⟨g71, 0, none⟩)) (by kernel_rfl)) ?_
        refine lve (d := 42) rfl rfl (by kernel_rfl) (new_blk (v := fun g_ => .slice (some ⟨g_, 0, none⟩) 1 1) (cs := #[.pointer (some ⟨g71, 0, none⟩)]) (t := 38) S77 (by kernel_rfl)) ?_
        rintro _ w80 ⟨g81, rfl, b82, S83, K84⟩
        replace b33 := K84.blk 0 rfl b33
        replace b23 := K84.blk 1 rfl b23
        replace h51 := h51.move (K84.at 2 rfl)
        obtain ⟨q85, M⟩ := chk M
        have S86 := S83.pull (F := F50) (Fr := [(is g81), (is g32), (is g18)]) 3 rfl rfl
        have S87 := S86.unit
        have S88 := S87.pull (F := F50) (Fr := [no, (is g81), (is g32), (is g18)]) 1 rfl rfl
        refine lve (d := 43) rfl rfl (by kernel_rfl) (e_append (d := (node 74)) (n := x47.length) (xs := x47) (cap := c49) (A := A48) (ys := [t66.1]) (A2 := (some ⟨g81, 0, none⟩)) (c2 := 1) (z := .pointer none) (bytes := 8) S88 Try.underlying72 (by kernel_rfl) rfl (by decide) (by kernel_rfl) rfl (by kernel_rfl) h51 (elsO_one1 ⟨_, rfl, h72⟩) (.inr (blk_news b82 rfl)) (show (x47.length + [t66.1].length) * 8 ≤ _ by first | omega | (simp only [List.length_cons, List.length_nil]; omega)) (by decide)) ?_
        rintro _ w89 ⟨A90, c91, F92, rfl, h93, S94, K95⟩
        replace b82 := K95.blk 0 rfl b82
        replace b33 := K95.blk 1 rfl b33
        replace b23 := K95.blk 2 rfl b23
        refine lv (d := 44) rfl rfl (by kernel_rfl) (e_nilCheck (ad := ⟨g32, 0, none⟩) (by kernel_rfl)) ?_
        refine lv (d := 45) rfl rfl (by kernel_rfl) (e_fieldAddr (b := g32) (off := 0) (o := 3) Try.underlying74 rfl rfl (sz := 1) (by kernel_rfl) (by decide) (by kernel_rfl)) ?_
        have S96 := S94.pull (F := (is g32)) (Fr := [F92, (is g81), (is g18)]) 2 rfl rfl
        refine lse rfl rfl (by kernel_rfl) (e_store (g := g32) (o := 0 + 3) (v := .slice A90 ((x47 ++ [t66.1]).length) c91) (cur' := #[.int .i64 ((x1.getD 0 z36).kind), .int .i64 ((x1.getD 0 z36).n), str ((x1.getD 0 z36).text), .slice A90 ((x47 ++ [t66.1]).length) c91]) (vs := [.slice A90 ((x47 ++ [t66.1]).length) c91]) S96 (by kernel_rfl) (by kernel_rfl) rfl (by kernel_rfl) b33 (Nat.le_of_ble_eq_true rfl) (List.forall_mem_cons.2 ⟨rfl, (fun _ h_ => by cases h_)⟩) rfl) ?_
        rintro w97 ⟨b98, S99, K100⟩
        replace h93 := h93.move (K100.at 0 rfl)
        replace b82 := K100.blk 1 rfl b82
        replace b23 := K100.blk 2 rfl b23
        clear b33
        refine wpList_nil ?_
        refine inb_n ?_
        refine then_n ?_
        refine wp_region_lit ?_
        refine lv (d := 29) rfl rfl (by kernel_rfl) (e_move (v := .int .i64 x46) (by exact e55)) ?_
        refine lv (d := 30) rfl rfl (by kernel_rfl) (e_add (k := .i64) (a := x46) (b := 1) (by kernel_rfl) rfl) ?_
        refine lv (d := 6) rfl rfl (by kernel_rfl) (e_assign (v := .int .i64 (IntKind.i64.wrap (x46 + 1))) (by kernel_rfl)) ?_
        refine wpList_nil ?_
        refine then_n ?_
        have S101 := S99.pull (F := F92) (Fr := [(is g32), (is g81), (is g18)]) 1 rfl rfl
        have S102 := S101.pull (F := (is g18)) (Fr := [F92, (is g32), (is g81)]) 3 rfl rfl
        have S103 := S102.pull (F := (is g32)) (Fr := [(is g18), F92, (is g81)]) 2 rfl rfl
        have S104 := St.first (Fa := [(is g32), (is g18), F92]) (Fr := [(is g81)]) S103
        exact ⟨k61, (by omega), _, H69, t66.2, A73, c74, (IntKind.i64.wrap (x46 + 1)), (x47 ++ [t66.1]), A90, c91, F92, (by omega), rfl, (by kernel_rfl), (by exact e53), (by exact e54), (by kernel_rfl), b98, b23, h93, h75, l76, (Y40.trans E79), S104, M⟩
      replace M := ifn q65 M
      refine cond_f rfl (bf q65 (by kernel_rfl)) ?_
      refine wp_exit ?_
      refine then_e ?_
      refine then_e ?_
      refine inb_hit ?_
      refine then_n ?_
      refine wp_seq ?_
      refine wp_region_lit ?_
      refine lv (d := 46) rfl rfl (by kernel_rfl) (e_move (v := .pointer (some ⟨g32, 0, none⟩)) (by exact e54)) ?_
      refine lv (d := 47) rfl rfl (by kernel_rfl) (e_move (v := .slice A42 x41.length c43) (by exact e52)) ?_
      refine lv (d := 2) rfl rfl (by kernel_rfl) (e_assign (v := .pointer (some ⟨g32, 0, none⟩)) (by kernel_rfl)) ?_
      refine lv (d := 3) rfl rfl (by kernel_rfl) (e_assign (v := .slice A42 x41.length c43) (by kernel_rfl)) ?_
      refine wpList_nil ?_
      refine then_n ?_
      refine wp_ret ?_
      have l105 := h51.le
      have S106 := S56.pull (F := F50) (Fr := [(is g32), (is g18)]) 2 rfl rfl
      obtain ⟨H107, S108, E109, h110, z111⟩ := S106.frzRow h51
      obtain ⟨H112, S113, E114, h115, z116⟩ := S108.frzBlk b33
      have h117 : NodeR 74 H112 (Tm.mk ((x1.getD 0 z36).kind) ((x1.getD 0 z36).n) ((x1.getD 0 z36).text) x47) (.pointer (some ⟨g32, 0, none⟩)) := node_mk (A := A48) (c := c49) h115 rfl l105 (h110.ext E114)
      obtain rfl := Option.some.inj M
      have S118 := St.first (Fa := []) (Fr := [(is g18)]) S113
      exact ret2 rfl rfl rfl (show _ = .pointer (some ⟨g32, 0, none⟩) from (by kernel_rfl)) (show _ = .slice A42 x41.length c43 from (by kernel_rfl)) ⟨g32, A42, c43, H112, rfl, h117, (h44.ext (E109.trans E114)), l45, S118⟩
    replace M := ifn q36 M
    refine cond_f rfl (bf q36 (by kernel_rfl)) ?_
    refine wp_skip ?_
    refine then_n ?_
    refine wp_seq ?_
    refine wp_region_lit ?_
    refine lv (d := 46) rfl rfl (by kernel_rfl) (e_move (v := .pointer (some ⟨g32, 0, none⟩)) (by kernel_rfl)) ?_
    refine lv (d := 47) rfl rfl (by kernel_rfl) (e_move (v := .slice A27 (x1.drop ((1 : Int).toNat)).length (c3 - ((1 : Int).toNat))) (by kernel_rfl)) ?_
    refine lv (d := 2) rfl rfl (by kernel_rfl) (e_assign (v := .pointer (some ⟨g32, 0, none⟩)) (by kernel_rfl)) ?_
    refine lv (d := 3) rfl rfl (by kernel_rfl) (e_assign (v := .slice A27 (x1.drop ((1 : Int).toNat)).length (c3 - ((1 : Int).toNat))) (by kernel_rfl)) ?_
    refine wpList_nil ?_
    refine then_n ?_
    refine wp_ret ?_
    obtain ⟨H119, S120, E121, h122, z123⟩ := S34.frzBlk b33
    have h124 : NodeR 74 H119 (Tm.mk ((x1.getD 0 z36).kind) ((x1.getD 0 z36).n) ((x1.getD 0 z36).text) []) (.pointer (some ⟨g32, 0, none⟩)) := node_mk (A := none) (c := 0) h122 rfl (Nat.le_refl _) (Rd.nil _ _ _)
    obtain rfl := Option.some.inj M
    have S125 := St.first (Fa := []) (Fr := [(is g18)]) S120
    exact ret2 rfl rfl rfl (show _ = .pointer (some ⟨g32, 0, none⟩) from (by kernel_rfl)) (show _ = .slice A27 (x1.drop ((1 : Int).toNat)).length (c3 - ((1 : Int).toNat)) from (by kernel_rfl)) ⟨g32, A27, (c3 - ((1 : Int).toNat)), H119, rfl, h124, (h28.ext E121), l29, S125⟩
theorem impl_fromCells.calls (k : Nat) (w : World) (H : Hp) (x1 : List Cell) (A2 : Option Addr) (c3 : Nat) (h4 : Rd st36 H A2 x1) (l5 : x1.length ≤ c3) (S : Own [] H w) (r : Tm × (List Cell)) (M : impl_fromCells.f k x1 = some r) :
    Calls Try.prog 46 #[.slice A2 x1.length c3] w (fun e e_w => ∃ (g_1 : Nat) (A_1 : Option Addr) (c_1 : Nat) (H_ : Hp), e = .returned (.tuple #[.pointer (some ⟨g_1, 0, none⟩), .slice A_1 r.2.length c_1]) ∧ NodeR 74 H_ r.1 (.pointer (some ⟨g_1, 0, none⟩)) ∧ Rd st36 H_ A_1 r.2 ∧ r.2.length ≤ c_1 ∧ St (anyOf []) H w [] H_ e_w) := (impl_fromCells.all (k + 1)) k (Nat.lt_succ_self k) w H x1 A2 c3 h4 l5 S r M

/-! impl_tree -/
def impl_tree.f (k : Nat) (x1 : List Cell) : Option Tm := ((impl_fromCells.f k x1).bind fun t6 => some t6.1)
theorem impl_tree.calls (k : Nat) (w : World) (H : Hp) (x1 : List Cell) (A2 : Option Addr) (c3 : Nat) (h4 : Rd st36 H A2 x1) (l5 : x1.length ≤ c3) (S : Own [] H w) (r : Tm) (M : impl_tree.f k x1 = some r) :
    Calls Try.prog 20 #[.slice A2 x1.length c3] w (fun e e_w => ∃ (g_1 : Nat) (H_ : Hp), e = .returned (.pointer (some ⟨g_1, 0, none⟩)) ∧ NodeR 74 H_ r (.pointer (some ⟨g_1, 0, none⟩)) ∧ St (anyOf []) H w [] H_ e_w) := by
  rw [impl_tree.f] at M
  refine enter (l := [.slice A2 x1.length c3]) 11 Try.func20 rfl rfl rfl ?_
  have S0_ := S.st
  refine wp_seq ?_
  refine wp_region_lit ?_
  refine lv (d := 2) rfl rfl (by kernel_rfl) (e_assign (v := .pointer none) rfl) ?_
  refine wpList_nil ?_
  refine then_n ?_
  refine wp_seq ?_
  refine wp_region_lit ?_
  refine lv (d := 6) rfl rfl (by kernel_rfl) (e_move (v := .slice A2 x1.length c3) (by kernel_rfl)) ?_
  obtain ⟨t6, u7, M⟩ := bnd M
  refine lcall (d := 7) rfl rfl (by kernel_rfl) (e_call (l := [.tmp 6]) (vs := [.slice A2 x1.length c3]) Try.func46 (by kernel_rfl) rfl (by kernel_rfl) rfl) (impl_fromCells.calls k w H x1 A2 c3 h4 l5 (St.own' (Fa := []) (Fr := []) S0_) t6 u7) ?_
  rintro _ w8 ⟨g11, A13, c14, H9, rfl, h12, h15, l16, T10⟩
  refine ⟨_, rfl, ?_⟩
  obtain ⟨S17, K18⟩ := St.call (Fa := []) (Fr := []) S0_ T10
  have E19 := T10.ext
  refine lv (d := 5) rfl rfl (by kernel_rfl) (e_move (v := .tuple #[.pointer (some ⟨g11, 0, none⟩), .slice A13 t6.2.length c14]) (by kernel_rfl)) ?_
  refine lv (d := 8) rfl rfl (by kernel_rfl) (e_extract (vs := #[.pointer (some ⟨g11, 0, none⟩), .slice A13 t6.2.length c14]) (v := .pointer (some ⟨g11, 0, none⟩)) (by kernel_rfl) rfl) ?_
  refine lv (d := 9) rfl rfl (by kernel_rfl) (e_extract (vs := #[.pointer (some ⟨g11, 0, none⟩), .slice A13 t6.2.length c14]) (v := .slice A13 t6.2.length c14) (by kernel_rfl) rfl) ?_
  refine lv (d := 3) rfl rfl (by kernel_rfl) (e_assign (v := .pointer (some ⟨g11, 0, none⟩)) (by kernel_rfl)) ?_
  refine lv (d := 4) rfl rfl (by kernel_rfl) (e_assign (v := .slice A13 t6.2.length c14) (by kernel_rfl)) ?_
  refine wpList_nil ?_
  refine then_n ?_
  refine wp_seq ?_
  refine wp_region_lit ?_
  refine lv (d := 10) rfl rfl (by kernel_rfl) (e_move (v := .pointer (some ⟨g11, 0, none⟩)) (by kernel_rfl)) ?_
  refine lv (d := 2) rfl rfl (by kernel_rfl) (e_assign (v := .pointer (some ⟨g11, 0, none⟩)) (by kernel_rfl)) ?_
  refine wpList_nil ?_
  refine then_n ?_
  refine wp_ret ?_
  obtain rfl := Option.some.inj M
  exact ret1 rfl rfl  (show _ = .pointer (some ⟨g11, 0, none⟩) from (by kernel_rfl)) ⟨g11, H9, rfl, h12, S17⟩

/-! impl_node_is -/
def impl_node_is.f (x1 : Tm) (x4 : List UInt8) (x5 : Int) : Option Bool := (if x5 = 0 then (if x1.kind = 2 then some (decide (x1.text = x4)) else some false) else (if x1.kind = 3 then (if x1.text = x4 then some (decide (x1.n = x5)) else some false) else some false))
theorem impl_node_is.calls (w : World) (H : Hp) (x1 : Tm) (g2 : Nat) (x4 : List UInt8) (x5 : Int) (h3 : NodeR 74 H x1 (.pointer (some ⟨g2, 0, none⟩))) (S : Own [] H w) (r : Bool) (M : impl_node_is.f x1 x4 x5 = some r) :
    Calls Try.prog 33 #[.pointer (some ⟨g2, 0, none⟩), str x4, .int .i64 x5] w (fun e e_w => e = .returned (.bool r) ∧ Chg no w e_w) := by
  rw [impl_node_is.f] at M
  refine enter (l := [.pointer (some ⟨g2, 0, none⟩), str x4, .int .i64 x5]) 43 Try.func33 rfl rfl rfl ?_
  have S0_ := S.st
  refine wp_seq ?_
  refine wp_region_lit ?_
  refine lv (d := 6) rfl rfl (by kernel_rfl) (e_assign (v := .bool false) rfl) ?_
  refine wpList_nil ?_
  refine then_n ?_
  refine wp_seq ?_
  refine wp_seq ?_
  refine wp_region_lit ?_
  refine lv (d := 7) rfl rfl (by kernel_rfl) (e_move (v := .int .i64 x5) (by kernel_rfl)) ?_
  refine lv (d := 8) rfl rfl (by kernel_rfl) (e_eql (k := .i64) (a := x5) (b := 0) (by kernel_rfl) rfl) ?_
  refine wpList_nil ?_
  refine then_n ?_
  by_cases q6 : x5 = 0
  · replace M := ifp q6 M
    refine cond_t rfl (bt q6 (by kernel_rfl)) ?_
    refine wp_seq ?_
    refine wp_region_lit ?_
    refine lv (d := 9) rfl rfl (by kernel_rfl) (e_move (v := .pointer (some ⟨g2, 0, none⟩)) (by kernel_rfl)) ?_
    refine lv (d := 10) rfl rfl (by kernel_rfl) (e_nilCheck (ad := ⟨g2, 0, none⟩) (by kernel_rfl)) ?_
    refine lv (d := 11) rfl rfl (by kernel_rfl) (e_fieldAddr (b := g2) (off := 0) (o := 0) Try.underlying74 rfl rfl (sz := 1) (by kernel_rfl) (by decide) (by kernel_rfl)) ?_
    obtain ⟨A7, c8, y9, q10, h11, h12, l13, h14⟩ := node_open h3
    refine lv (d := 12) rfl rfl (by kernel_rfl) (e_load1 (ad := ⟨g2, 0 + 0, none⟩) (v := .int .i64 x1.kind) Try.underlying3 rfl (by kernel_rfl) (blk_cells (S0_.inv _ _ h11) h12 0 _ rfl)) ?_
    refine lv (d := 13) rfl rfl (by kernel_rfl) (e_eql (k := .i64) (a := x1.kind) (b := 2) (by kernel_rfl) rfl) ?_
    refine lv (d := 14) rfl rfl (by kernel_rfl) (e_move (v := .bool (decide (x1.kind = 2))) (by kernel_rfl)) ?_
    by_cases q15 : x1.kind = 2
    · replace M := ifp q15 M
      refine lvg (d := 15) (t := 14) rfl (by kernel_rfl) rfl (bt q15 (by kernel_rfl)) rfl (by kernel_rfl) (e_move (v := .pointer (some ⟨g2, 0, none⟩)) (by kernel_rfl)) ?_
      refine lvg (d := 16) (t := 14) rfl (by kernel_rfl) rfl (bt q15 (by kernel_rfl)) rfl (by kernel_rfl) (e_nilCheck (ad := ⟨g2, 0, none⟩) (by kernel_rfl)) ?_
      refine lvg (d := 17) (t := 14) rfl (by kernel_rfl) rfl (bt q15 (by kernel_rfl)) rfl (by kernel_rfl) (e_fieldAddr (b := g2) (off := 0) (o := 2) Try.underlying74 rfl rfl (sz := 1) (by kernel_rfl) (by decide) (by kernel_rfl)) ?_
      refine lvg (d := 18) (t := 14) rfl (by kernel_rfl) rfl (bt q15 (by kernel_rfl)) rfl (by kernel_rfl) (e_load1 (ad := ⟨g2, 0 + 2, none⟩) (v := str x1.text) Try.underlying9 rfl (by kernel_rfl) (blk_cells (S0_.inv _ _ h11) h12 2 _ rfl)) ?_
      refine lvg (d := 19) (t := 14) rfl (by kernel_rfl) rfl (bt q15 (by kernel_rfl)) rfl (by kernel_rfl) (e_move (v := str x4) (by kernel_rfl)) ?_
      refine lvg (d := 20) (t := 14) rfl (by kernel_rfl) rfl (bt q15 (by kernel_rfl)) rfl (by kernel_rfl) (e_seql (p := x1.text) (q := x4) (by kernel_rfl) (by kernel_rfl)) ?_
      refine lv (d := 21) rfl rfl (by kernel_rfl) (e_pick_t (v := .bool (decide (x1.text = x4))) (bt q15 (by kernel_rfl)) (by kernel_rfl)) ?_
      refine lv (d := 6) rfl rfl (by kernel_rfl) (e_assign (v := .bool (decide (x1.text = x4))) (by kernel_rfl)) ?_
      refine wpList_nil ?_
      refine then_n ?_
      refine wp_ret ?_
      refine then_r ?_
      obtain rfl := Option.some.inj M
      exact ret1 rfl rfl  (show _ = .bool (decide (x1.text = x4)) from (by kernel_rfl)) ⟨rfl, S0_.chg⟩
    replace M := ifn q15 M
    refine lskip (t := 14) (c := false) rfl (by kernel_rfl) rfl (bf q15 (by kernel_rfl)) rfl rfl ?_
    refine lskip (t := 14) (c := false) rfl (by kernel_rfl) rfl (bf q15 (by kernel_rfl)) rfl rfl ?_
    refine lskip (t := 14) (c := false) rfl (by kernel_rfl) rfl (bf q15 (by kernel_rfl)) rfl rfl ?_
    refine lskip (t := 14) (c := false) rfl (by kernel_rfl) rfl (bf q15 (by kernel_rfl)) rfl rfl ?_
    refine lskip (t := 14) (c := false) rfl (by kernel_rfl) rfl (bf q15 (by kernel_rfl)) rfl rfl ?_
    refine lskip (t := 14) (c := false) rfl (by kernel_rfl) rfl (bf q15 (by kernel_rfl)) rfl rfl ?_
    refine lv (d := 21) rfl rfl (by kernel_rfl) (e_pick_f (v := .bool false) (bf q15 (by kernel_rfl)) rfl) ?_
    refine lv (d := 6) rfl rfl (by kernel_rfl) (e_assign (v := .bool false) (by kernel_rfl)) ?_
    refine wpList_nil ?_
    refine then_n ?_
    refine wp_ret ?_
    refine then_r ?_
    obtain rfl := Option.some.inj M
    exact ret1 rfl rfl  (show _ = .bool false from (by kernel_rfl)) ⟨rfl, S0_.chg⟩
  replace M := ifn q6 M
  refine cond_f rfl (bf q6 (by kernel_rfl)) ?_
  refine wp_skip ?_
  refine then_n ?_
  refine wp_seq ?_
  refine wp_region_lit ?_
  refine lv (d := 22) rfl rfl (by kernel_rfl) (e_move (v := .pointer (some ⟨g2, 0, none⟩)) (by kernel_rfl)) ?_
  refine lv (d := 23) rfl rfl (by kernel_rfl) (e_nilCheck (ad := ⟨g2, 0, none⟩) (by kernel_rfl)) ?_
  refine lv (d := 24) rfl rfl (by kernel_rfl) (e_fieldAddr (b := g2) (off := 0) (o := 0) Try.underlying74 rfl rfl (sz := 1) (by kernel_rfl) (by decide) (by kernel_rfl)) ?_
  obtain ⟨A16, c17, y18, q19, h20, h21, l22, h23⟩ := node_open h3
  refine lv (d := 25) rfl rfl (by kernel_rfl) (e_load1 (ad := ⟨g2, 0 + 0, none⟩) (v := .int .i64 x1.kind) Try.underlying3 rfl (by kernel_rfl) (blk_cells (S0_.inv _ _ h20) h21 0 _ rfl)) ?_
  refine lv (d := 26) rfl rfl (by kernel_rfl) (e_eql (k := .i64) (a := x1.kind) (b := 3) (by kernel_rfl) rfl) ?_
  refine lv (d := 27) rfl rfl (by kernel_rfl) (e_move (v := .bool (decide (x1.kind = 3))) (by kernel_rfl)) ?_
  by_cases q24 : x1.kind = 3
  · replace M := ifp q24 M
    refine lvg (d := 28) (t := 27) rfl (by kernel_rfl) rfl (bt q24 (by kernel_rfl)) rfl (by kernel_rfl) (e_move (v := .pointer (some ⟨g2, 0, none⟩)) (by kernel_rfl)) ?_
    refine lvg (d := 29) (t := 27) rfl (by kernel_rfl) rfl (bt q24 (by kernel_rfl)) rfl (by kernel_rfl) (e_nilCheck (ad := ⟨g2, 0, none⟩) (by kernel_rfl)) ?_
    refine lvg (d := 30) (t := 27) rfl (by kernel_rfl) rfl (bt q24 (by kernel_rfl)) rfl (by kernel_rfl) (e_fieldAddr (b := g2) (off := 0) (o := 2) Try.underlying74 rfl rfl (sz := 1) (by kernel_rfl) (by decide) (by kernel_rfl)) ?_
    refine lvg (d := 31) (t := 27) rfl (by kernel_rfl) rfl (bt q24 (by kernel_rfl)) rfl (by kernel_rfl) (e_load1 (ad := ⟨g2, 0 + 2, none⟩) (v := str x1.text) Try.underlying9 rfl (by kernel_rfl) (blk_cells (S0_.inv _ _ h20) h21 2 _ rfl)) ?_
    refine lvg (d := 32) (t := 27) rfl (by kernel_rfl) rfl (bt q24 (by kernel_rfl)) rfl (by kernel_rfl) (e_move (v := str x4) (by kernel_rfl)) ?_
    refine lvg (d := 33) (t := 27) rfl (by kernel_rfl) rfl (bt q24 (by kernel_rfl)) rfl (by kernel_rfl) (e_seql (p := x1.text) (q := x4) (by kernel_rfl) (by kernel_rfl)) ?_
    refine lv (d := 34) rfl rfl (by kernel_rfl) (e_pick_t (v := .bool (decide (x1.text = x4))) (bt q24 (by kernel_rfl)) (by kernel_rfl)) ?_
    refine lv (d := 35) rfl rfl (by kernel_rfl) (e_move (v := .bool (decide (x1.text = x4))) (by kernel_rfl)) ?_
    by_cases q25 : x1.text = x4
    · replace M := ifp q25 M
      refine lvg (d := 36) (t := 35) rfl (by kernel_rfl) rfl (bt q25 (by kernel_rfl)) rfl (by kernel_rfl) (e_move (v := .pointer (some ⟨g2, 0, none⟩)) (by kernel_rfl)) ?_
      refine lvg (d := 37) (t := 35) rfl (by kernel_rfl) rfl (bt q25 (by kernel_rfl)) rfl (by kernel_rfl) (e_nilCheck (ad := ⟨g2, 0, none⟩) (by kernel_rfl)) ?_
      refine lvg (d := 38) (t := 35) rfl (by kernel_rfl) rfl (bt q25 (by kernel_rfl)) rfl (by kernel_rfl) (e_fieldAddr (b := g2) (off := 0) (o := 1) Try.underlying74 rfl rfl (sz := 1) (by kernel_rfl) (by decide) (by kernel_rfl)) ?_
      refine lvg (d := 39) (t := 35) rfl (by kernel_rfl) rfl (bt q25 (by kernel_rfl)) rfl (by kernel_rfl) (e_load1 (ad := ⟨g2, 0 + 1, none⟩) (v := .int .i64 x1.n) Try.underlying3 rfl (by kernel_rfl) (blk_cells (S0_.inv _ _ h20) h21 1 _ rfl)) ?_
      refine lvg (d := 40) (t := 35) rfl (by kernel_rfl) rfl (bt q25 (by kernel_rfl)) rfl (by kernel_rfl) (e_move (v := .int .i64 x5) (by kernel_rfl)) ?_
      refine lvg (d := 41) (t := 35) rfl (by kernel_rfl) rfl (bt q25 (by kernel_rfl)) rfl (by kernel_rfl) (e_eql (k := .i64) (a := x1.n) (b := x5) (by kernel_rfl) (by kernel_rfl)) ?_
      refine lv (d := 42) rfl rfl (by kernel_rfl) (e_pick_t (v := .bool (decide (x1.n = x5))) (bt q25 (by kernel_rfl)) (by kernel_rfl)) ?_
      refine lv (d := 6) rfl rfl (by kernel_rfl) (e_assign (v := .bool (decide (x1.n = x5))) (by kernel_rfl)) ?_
      refine wpList_nil ?_
      refine then_n ?_
      refine wp_ret ?_
      obtain rfl := Option.some.inj M
      exact ret1 rfl rfl  (show _ = .bool (decide (x1.n = x5)) from (by kernel_rfl)) ⟨rfl, S0_.chg⟩
    replace M := ifn q25 M
    refine lskip (t := 35) (c := false) rfl (by kernel_rfl) rfl (bf q25 (by kernel_rfl)) rfl rfl ?_
    refine lskip (t := 35) (c := false) rfl (by kernel_rfl) rfl (bf q25 (by kernel_rfl)) rfl rfl ?_
    refine lskip (t := 35) (c := false) rfl (by kernel_rfl) rfl (bf q25 (by kernel_rfl)) rfl rfl ?_
    refine lskip (t := 35) (c := false) rfl (by kernel_rfl) rfl (bf q25 (by kernel_rfl)) rfl rfl ?_
    refine lskip (t := 35) (c := false) rfl (by kernel_rfl) rfl (bf q25 (by kernel_rfl)) rfl rfl ?_
    refine lskip (t := 35) (c := false) rfl (by kernel_rfl) rfl (bf q25 (by kernel_rfl)) rfl rfl ?_
    refine lv (d := 42) rfl rfl (by kernel_rfl) (e_pick_f (v := .bool false) (bf q25 (by kernel_rfl)) rfl) ?_
    refine lv (d := 6) rfl rfl (by kernel_rfl) (e_assign (v := .bool false) (by kernel_rfl)) ?_
    refine wpList_nil ?_
    refine then_n ?_
    refine wp_ret ?_
    obtain rfl := Option.some.inj M
    exact ret1 rfl rfl  (show _ = .bool false from (by kernel_rfl)) ⟨rfl, S0_.chg⟩
  replace M := ifn q24 M
  refine lskip (t := 27) (c := false) rfl (by kernel_rfl) rfl (bf q24 (by kernel_rfl)) rfl rfl ?_
  refine lskip (t := 27) (c := false) rfl (by kernel_rfl) rfl (bf q24 (by kernel_rfl)) rfl rfl ?_
  refine lskip (t := 27) (c := false) rfl (by kernel_rfl) rfl (bf q24 (by kernel_rfl)) rfl rfl ?_
  refine lskip (t := 27) (c := false) rfl (by kernel_rfl) rfl (bf q24 (by kernel_rfl)) rfl rfl ?_
  refine lskip (t := 27) (c := false) rfl (by kernel_rfl) rfl (bf q24 (by kernel_rfl)) rfl rfl ?_
  refine lskip (t := 27) (c := false) rfl (by kernel_rfl) rfl (bf q24 (by kernel_rfl)) rfl rfl ?_
  refine lv (d := 34) rfl rfl (by kernel_rfl) (e_pick_f (v := .bool false) (bf q24 (by kernel_rfl)) rfl) ?_
  refine lv (d := 35) rfl rfl (by kernel_rfl) (e_move (v := .bool false) (by kernel_rfl)) ?_
  refine lskip (t := 35) (c := false) rfl (by kernel_rfl) rfl (by kernel_rfl) rfl rfl ?_
  refine lskip (t := 35) (c := false) rfl (by kernel_rfl) rfl (by kernel_rfl) rfl rfl ?_
  refine lskip (t := 35) (c := false) rfl (by kernel_rfl) rfl (by kernel_rfl) rfl rfl ?_
  refine lskip (t := 35) (c := false) rfl (by kernel_rfl) rfl (by kernel_rfl) rfl rfl ?_
  refine lskip (t := 35) (c := false) rfl (by kernel_rfl) rfl (by kernel_rfl) rfl rfl ?_
  refine lskip (t := 35) (c := false) rfl (by kernel_rfl) rfl (by kernel_rfl) rfl rfl ?_
  refine lv (d := 42) rfl rfl (by kernel_rfl) (e_pick_f (v := .bool false) (by kernel_rfl) rfl) ?_
  refine lv (d := 6) rfl rfl (by kernel_rfl) (e_assign (v := .bool false) (by kernel_rfl)) ?_
  refine wpList_nil ?_
  refine then_n ?_
  refine wp_ret ?_
  obtain rfl := Option.some.inj M
  exact ret1 rfl rfl  (show _ = .bool false from (by kernel_rfl)) ⟨rfl, S0_.chg⟩

/-! impl_node_vars -/
mutual
def impl_node_vars_2.l0 : Nat → Tm → (List Int) → (List (Int × Bool)) → Option ((List Int) × (List (Int × Bool)))
  | 0, _, _, _ => none
  | k27 + 1, x1, x14, x19 => (impl_node_vars_2.l1 k27 x1 x14 0 x19)
def impl_node_vars_2.l1 : Nat → Tm → (List Int) → Int → (List (Int × Bool)) → Option ((List Int) × (List (Int × Bool)))
  | 0, _, _, _, _ => none
  | k90 + 1, x1, x73, x78, x79 => (if x78 < (x1.args.length : Int) then (if 0 ≤ x78 then ((impl_node_vars_2.f k90 (x1.args.getD ((x78).toNat) (Tm.mk 0 0 [] [])) x79 x73).bind fun t104 => (impl_node_vars_2.l1 k90 x1 t104.1 (IntKind.i64.wrap (x78 + 1)) t104.2)) else none) else some (x73, x79))
def impl_node_vars_2.f : Nat → Tm → (List (Int × Bool)) → (List Int) → Option ((List Int) × (List (Int × Bool)))
  | 0, _, _, _ => none
  | k1_ + 1, x1, x4, x7 => (if x1.kind = 0 then (if ¬ (((mget x4 x1.n).getD false) = true) then (if x7.length + 1 ≤ 17592186044416 then (impl_node_vars_2.l0 k1_ x1 (x7 ++ [x1.n]) (mset x4 x1.n true)) else none) else (impl_node_vars_2.l0 k1_ x1 x7 x4)) else (impl_node_vars_2.l0 k1_ x1 x7 x4))
end
theorem impl_node_vars_2.all : ∀ (K : Nat), (∀ (k : Nat), k < K → ∀ (w : World) (H : Hp) (x1 : Tm) (g2 : Nat) (x4 : List (Int × Bool)) (g5 : Nat) (x7 : List Int) (A8 : Option Addr) (c9 : Nat) (F11 : Foot) (h3 : NodeR 74 H x1 (.pointer (some ⟨g2, 0, none⟩))) (h6 : MapO encI tBool H (hp w) g5 x4) (h10 : Row tInt 3 H (hp w) F11 A8 c9 x7) (S : Own [(is g5), F11] H w) (r : (List Int) × (List (Int × Bool))) (M : impl_node_vars_2.f k x1 x4 x7 = some r), Calls Try.prog 74 #[.pointer (some ⟨g2, 0, none⟩), .map (some g5), .slice A8 x7.length c9] w (fun e e_w => ∃ (A_1 : Option Addr) (c_1 : Nat) (F_1 : Foot) (H_ : Hp), e = .returned (.slice A_1 r.1.length c_1) ∧ MapO encI tBool H_ (hp e_w) g5 r.2 ∧ Row tInt 3 H_ (hp e_w) F_1 A_1 c_1 r.1 ∧ St (anyOf [(is g5), F11]) H w [(is g5), F_1] H_ e_w)) := by
  intro K
  induction K with
  | zero => intro k hk; omega
  | succ K ih =>
    intro k hk w H x1 g2 x4 g5 x7 A8 c9 F11 h3 h6 h10 S r M
    rcases k with _ | k1_
    · rw [impl_node_vars_2.f] at M
      cases M
    rw [impl_node_vars_2.f] at M
    refine enter (l := [.pointer (some ⟨g2, 0, none⟩), .map (some g5), .slice A8 x7.length c9]) 50 Try.func74 rfl rfl rfl ?_
    have S0_ := S.st
    refine wp_seq ?_
    refine wp_region_lit ?_
    refine lv (d := 6) rfl rfl (by kernel_rfl) (e_assign (v := .slice none 0 0) rfl) ?_
    refine wpList_nil ?_
    refine then_n ?_
    refine wp_seq_cut (fun a26 w12 => ∃ (k28 : Nat), k28 ≤ k1_ ∧ ∃ (f13 : Nat → Value) (x14 : List Int) (A15 : Option Addr) (c16 : Nat) (F17 : Foot) (x19 : List (Int × Bool)), k28 < K ∧ a26 = mk 50 f13 ∧ f13 0 = .pointer (some ⟨g2, 0, none⟩) ∧ f13 1 = .map (some g5) ∧ f13 2 = .slice A15 x14.length c16 ∧ MapO encI tBool H (hp w12) g5 x19 ∧ Row tInt 3 H (hp w12) F17 A15 c16 x14 ∧ St (anyOf [(is g5), F11]) H w [(is g5), F17] H w12 ∧ impl_node_vars_2.l0 k28 x1 x14 x19 = some r) ?_ ?_
    · refine wp_seq ?_
      refine wp_region_lit ?_
      refine lv (d := 9) rfl rfl (by kernel_rfl) (e_move (v := .pointer (some ⟨g2, 0, none⟩)) (by kernel_rfl)) ?_
      refine lv (d := 10) rfl rfl (by kernel_rfl) (e_nilCheck (ad := ⟨g2, 0, none⟩) (by kernel_rfl)) ?_
      refine lv (d := 11) rfl rfl (by kernel_rfl) (e_fieldAddr (b := g2) (off := 0) (o := 0) Try.underlying74 rfl rfl (sz := 1) (by kernel_rfl) (by decide) (by kernel_rfl)) ?_
      obtain ⟨A29, c30, y31, q32, h33, h34, l35, h36⟩ := node_open h3
      refine lv (d := 12) rfl rfl (by kernel_rfl) (e_load1 (ad := ⟨g2, 0 + 0, none⟩) (v := .int .i64 x1.kind) Try.underlying3 rfl (by kernel_rfl) (blk_cells (S0_.inv _ _ h33) h34 0 _ rfl)) ?_
      refine lv (d := 13) rfl rfl (by kernel_rfl) (e_eql (k := .i64) (a := x1.kind) (b := 0) (by kernel_rfl) rfl) ?_
      refine lv (d := 14) rfl rfl (by kernel_rfl) (e_move (v := .bool (decide (x1.kind = 0))) (by kernel_rfl)) ?_
      by_cases q37 : x1.kind = 0
      · replace M := ifp q37 M
        refine lvg (d := 15) (t := 14) rfl (by kernel_rfl) rfl (bt q37 (by kernel_rfl)) rfl (by kernel_rfl) (e_move (v := .map (some g5)) (by kernel_rfl)) ?_
        refine lvg (d := 16) (t := 14) rfl (by kernel_rfl) rfl (bt q37 (by kernel_rfl)) rfl (by kernel_rfl) (e_move (v := .pointer (some ⟨g2, 0, none⟩)) (by kernel_rfl)) ?_
        refine lvg (d := 17) (t := 14) rfl (by kernel_rfl) rfl (bt q37 (by kernel_rfl)) rfl (by kernel_rfl) (e_nilCheck (ad := ⟨g2, 0, none⟩) (by kernel_rfl)) ?_
        refine lvg (d := 18) (t := 14) rfl (by kernel_rfl) rfl (bt q37 (by kernel_rfl)) rfl (by kernel_rfl) (e_fieldAddr (b := g2) (off := 0) (o := 1) Try.underlying74 rfl rfl (sz := 1) (by kernel_rfl) (by decide) (by kernel_rfl)) ?_
        refine lvg (d := 19) (t := 14) rfl (by kernel_rfl) rfl (bt q37 (by kernel_rfl)) rfl (by kernel_rfl) (e_load1 (ad := ⟨g2, 0 + 1, none⟩) (v := .int .i64 x1.n) Try.underlying3 rfl (by kernel_rfl) (blk_cells (S0_.inv _ _ h33) h34 1 _ rfl)) ?_
        refine lvg (d := 20) (t := 14) rfl (by kernel_rfl) rfl (bt q37 (by kernel_rfl)) rfl (by kernel_rfl) (e_look1_s (k := x1.n) false h6 keyI Try.underlying96 Try.underlying3 (by kernel_rfl) (by kernel_rfl) (by kernel_rfl)) ?_
        refine lvg (d := 21) (t := 14) rfl (by kernel_rfl) rfl (bt q37 (by kernel_rfl)) rfl (by kernel_rfl) (e_notv (c := ((mget x4 x1.n).getD false)) (by kernel_rfl)) ?_
        refine lv (d := 22) rfl rfl (by kernel_rfl) (e_pick_t (v := .bool (decide (¬ (((mget x4 x1.n).getD false) = true)))) (bt q37 (by kernel_rfl)) (by kernel_rfl)) ?_
        refine wpList_nil ?_
        refine then_n ?_
        by_cases q38 : ¬ (((mget x4 x1.n).getD false) = true)
        · replace M := ifp q38 M
          refine cond_t rfl (bt q38 (by kernel_rfl)) ?_
          refine wp_seq ?_
          refine wp_region_lit ?_
          refine lv (d := 23) rfl rfl (by kernel_rfl) (e_move (v := .map (some g5)) (by kernel_rfl)) ?_
          refine lv (d := 24) rfl rfl (by kernel_rfl) (e_move (v := .pointer (some ⟨g2, 0, none⟩)) (by kernel_rfl)) ?_
          refine lv (d := 25) rfl rfl (by kernel_rfl) (e_nilCheck (ad := ⟨g2, 0, none⟩) (by kernel_rfl)) ?_
          refine lv (d := 26) rfl rfl (by kernel_rfl) (e_fieldAddr (b := g2) (off := 0) (o := 1) Try.underlying74 rfl rfl (sz := 1) (by kernel_rfl) (by decide) (by kernel_rfl)) ?_
          refine lv (d := 27) rfl rfl (by kernel_rfl) (e_load1 (ad := ⟨g2, 0 + 1, none⟩) (v := .int .i64 x1.n) Try.underlying3 rfl (by kernel_rfl) (blk_cells (S0_.inv _ _ h33) h34 1 _ rfl)) ?_
          refine lse rfl rfl (by kernel_rfl) (e_mapUpdate (k := x1.n) (a := true) S0_ h6 keyI Try.underlying96 Try.underlying3 (by kernel_rfl) (by kernel_rfl) rfl rfl) ?_
          rintro w39 ⟨h40, S41, K42⟩
          replace h10 := h10.move (K42.at 0 rfl)
          clear h6
          refine wpList_nil ?_
          refine then_n ?_
          refine wp_region_lit ?_
          refine lv (d := 28) rfl rfl (by kernel_rfl) (e_move (v := .slice A8 x7.length c9) (by kernel_rfl)) ?_
          refine lv (d := 29) rfl rfl (by kernel_rfl) (e_move (v := .pointer (some ⟨g2, 0, none⟩)) (by kernel_rfl)) ?_
          refine lv (d := 30) rfl rfl (by kernel_rfl) (e_nilCheck (ad := ⟨g2, 0, none⟩) (by kernel_rfl)) ?_
          refine lv (d := 31) rfl rfl (by kernel_rfl) (e_fieldAddr (b := g2) (off := 0) (o := 1) Try.underlying74 rfl rfl (sz := 1) (by kernel_rfl) (by decide) (by kernel_rfl)) ?_
          refine lv (d := 32) rfl rfl (by kernel_rfl) (e_load1 (ad := ⟨g2, 0 + 1, none⟩) (v := .int .i64 x1.n) Try.underlying3 rfl (by kernel_rfl) (blk_cells (S41.inv _ _ h33) h34 1 _ rfl)) ?_
          refine lve (d := 33) rfl rfl (by kernel_rfl) (new_blk (v := fun g_ => .slice (some ⟨g_, 0, none⟩) 1 1) (cs := #[.int .i64 x1.n]) (t := 3) S41 (by kernel_rfl)) ?_
          rintro _ w43 ⟨g44, rfl, b45, S46, K47⟩
          replace h40 := h40.move (K47.at 0 rfl)
          replace h10 := h10.move (K47.at 1 rfl)
          obtain ⟨q48, M⟩ := chk M
          have S49 := S46.pull (F := F11) (Fr := [(is g44), (is g5)]) 2 rfl rfl
          have S50 := S49.unit
          have S51 := S50.pull (F := F11) (Fr := [no, (is g44), (is g5)]) 1 rfl rfl
          refine lve (d := 34) rfl rfl (by kernel_rfl) (e_append (d := tInt) (n := x7.length) (xs := x7) (cap := c9) (A := A8) (ys := [x1.n]) (A2 := (some ⟨g44, 0, none⟩)) (c2 := 1) (z := .int .i64 0) (bytes := 8) S51 Try.underlying90 (by kernel_rfl) rfl (by decide) (by kernel_rfl) rfl (by kernel_rfl) h10 (elsO_one1 rfl) (.inr (blk_news b45 rfl)) (show (x7.length + [x1.n].length) * 8 ≤ _ by first | omega | (simp only [List.length_cons, List.length_nil]; omega)) (by decide)) ?_
          rintro _ w52 ⟨A53, c54, F55, rfl, h56, S57, K58⟩
          replace b45 := K58.blk 0 rfl b45
          replace h40 := h40.move (K58.at 1 rfl)
          refine lv (d := 2) rfl rfl (by kernel_rfl) (e_assign (v := .slice A53 ((x7 ++ [x1.n]).length) c54) (by kernel_rfl)) ?_
          refine wpList_nil ?_
          refine then_n ?_
          have S59 := S57.pull (F := (is g5)) (Fr := [F55, (is g44)]) 2 rfl rfl
          have S60 := St.first (Fa := [(is g5), F55]) (Fr := [(is g44)]) S59
          exact ⟨k1_, (by omega), _, (x7 ++ [x1.n]), A53, c54, F55, (mset x4 x1.n true), (by omega), rfl, (by kernel_rfl), (by kernel_rfl), (by kernel_rfl), h40, h56, S60, M⟩
        replace M := ifn q38 M
        refine cond_f rfl (bf q38 (by kernel_rfl)) ?_
        refine wp_skip ?_
        refine then_n ?_
        exact ⟨k1_, (by omega), _, x7, A8, c9, F11, x4, (by omega), rfl, (by kernel_rfl), (by kernel_rfl), (by kernel_rfl), h6, h10, S0_, M⟩
      replace M := ifn q37 M
      refine lskip (t := 14) (c := false) rfl (by kernel_rfl) rfl (bf q37 (by kernel_rfl)) rfl rfl ?_
      refine lskip (t := 14) (c := false) rfl (by kernel_rfl) rfl (bf q37 (by kernel_rfl)) rfl rfl ?_
      refine lskip (t := 14) (c := false) rfl (by kernel_rfl) rfl (bf q37 (by kernel_rfl)) rfl rfl ?_
      refine lskip (t := 14) (c := false) rfl (by kernel_rfl) rfl (bf q37 (by kernel_rfl)) rfl rfl ?_
      refine lskip (t := 14) (c := false) rfl (by kernel_rfl) rfl (bf q37 (by kernel_rfl)) rfl rfl ?_
      refine lskip (t := 14) (c := false) rfl (by kernel_rfl) rfl (bf q37 (by kernel_rfl)) rfl rfl ?_
      refine lskip (t := 14) (c := false) rfl (by kernel_rfl) rfl (bf q37 (by kernel_rfl)) rfl rfl ?_
      refine lv (d := 22) rfl rfl (by kernel_rfl) (e_pick_f (v := .bool false) (bf q37 (by kernel_rfl)) rfl) ?_
      refine wpList_nil ?_
      refine then_n ?_
      refine cond_f rfl (by kernel_rfl) ?_
      refine wp_skip ?_
      refine then_n ?_
      exact ⟨k1_, (by omega), _, x7, A8, c9, F11, x4, (by omega), rfl, (by kernel_rfl), (by kernel_rfl), (by kernel_rfl), h6, h10, S0_, M⟩
    clear M
    rintro a26 w12 ⟨k28, z117, f13, x14, A15, c16, F17, x19, z24, rfl, e20, e21, e22, h6, h18, S23, M⟩
    rcases k28 with _ | k27
    · rw [impl_node_vars_2.l0] at M
      cases M
    rw [impl_node_vars_2.l0] at M
    refine wp_seq ?_
    refine wp_seq ?_
    refine wp_region_lit ?_
    refine lv (d := 35) rfl rfl (by kernel_rfl) (e_move (v := .pointer (some ⟨g2, 0, none⟩)) (by exact e20)) ?_
    refine lv (d := 36) rfl rfl (by kernel_rfl) (e_nilCheck (ad := ⟨g2, 0, none⟩) (by kernel_rfl)) ?_
    refine lv (d := 37) rfl rfl (by kernel_rfl) (e_fieldAddr (b := g2) (off := 0) (o := 3) Try.underlying74 rfl rfl (sz := 1) (by kernel_rfl) (by decide) (by kernel_rfl)) ?_
    obtain ⟨A61, c62, y63, q64, h65, h66, l67, h68⟩ := node_open h3
    refine lv (d := 38) rfl rfl (by kernel_rfl) (e_load1 (ad := ⟨g2, 0 + 3, none⟩) (v := .slice A61 x1.args.length c62) Try.underlying72 rfl (by kernel_rfl) (blk_cells (S23.inv _ _ h65) h66 3 _ rfl)) ?_
    refine lv (d := 39) rfl rfl (by kernel_rfl) (e_len (A := A61) (n := x1.args.length) (c := c62) Try.underlying72 (by kernel_rfl)) ?_
    refine lv (d := 40) rfl rfl (by kernel_rfl) (e_move (v := .int .i64 0) rfl) ?_
    refine wpList_nil ?_
    refine then_n ?_
    refine wp_block ?_
    refine wp_loop_g (fun k88 a89 w69 => ∃ (f70 : Nat → Value) (H71 : Hp) (x73 : List Int) (A74 : Option Addr) (c75 : Nat) (F76 : Foot) (x78 : Int) (x79 : List (Int × Bool)), k88 < K ∧ a89 = mk 50 f70 ∧ f70 1 = .map (some g5) ∧ f70 2 = .slice A74 x73.length c75 ∧ f70 38 = .slice A61 x1.args.length c62 ∧ f70 39 = .int .i64 (x1.args.length : Int) ∧ f70 40 = .int .i64 x78 ∧ MapO encI tBool H71 (hp w69) g5 x79 ∧ Row tInt 3 H71 (hp w69) F76 A74 c75 x73 ∧ Ext H H71 ∧ St (anyOf [(is g5), F11]) H w [(is g5), F76] H71 w69 ∧ impl_node_vars_2.l1 k88 x1 x73 x78 x79 = some r) k27 ⟨_, H, x14, A15, c16, F17, 0, x19, (by omega), rfl, (by exact e21), (by exact e22), (by kernel_rfl), (by kernel_rfl), (by kernel_rfl), h6, h18, (Ext.refl _), S23, M⟩ ?_
    clear M
    rintro k88 a89 w69 ⟨f70, H71, x73, A74, c75, F76, x78, x79, z86, rfl, e80, e81, e82, e83, e84, h6, h77, Y72, S85, M⟩
    rcases k88 with _ | k90
    · rw [impl_node_vars_2.l1] at M
      cases M
    rw [impl_node_vars_2.l1] at M
    refine wp_seq ?_
    refine wp_region_lit ?_
    refine lv (d := 41) rfl rfl (by kernel_rfl) (e_lss (k := .i64) (a := x78) (b := (x1.args.length : Int)) (by exact e84) (by exact e83)) ?_
    refine wpList_nil ?_
    refine then_n ?_
    refine wp_seq ?_
    by_cases q91 : x78 < (x1.args.length : Int)
    · replace M := ifp q91 M
      refine cond_t rfl (bt q91 (by kernel_rfl)) ?_
      refine wp_skip ?_
      refine then_n ?_
      refine wp_seq ?_
      refine wp_block ?_
      refine wp_seq ?_
      refine wp_region_lit ?_
      obtain ⟨q92, M⟩ := chk M
      obtain ⟨b93, o94, e95⟩ := Rd.addr h68 (show (x78).toNat < x1.args.length by omega)
      obtain ⟨y96, r97, k98⟩ := Rd.at h68 e95 (getD_some (Tm.mk 0 0 [] []) (show (x78).toNat < x1.args.length by omega))
      obtain ⟨v99, rfl, h100⟩ := r97
      obtain ⟨g101, rfl⟩ := node_ptr h100
      refine lv (d := 42) rfl rfl (by kernel_rfl) (e_indexAddr (b := b93) (off := o94) (n := x1.args.length) (c := c62) (sz := 1) (i := x78) (k := .i64) Try.underlying72 e95 (by kernel_rfl) (by exact e82) (by exact e84) q92 q91) ?_
      refine lv (d := 43) rfl rfl (by kernel_rfl) (e_load1 (ad := ⟨b93, o94 + (x78 : Int).toNat * 1, none⟩) (v := .pointer (some ⟨g101, 0, none⟩)) Try.underlying38 rfl (by kernel_rfl) (hpx (S85.inv.cell (Y72.cell (k98 0 _ rfl))))) ?_
      refine lv (d := 8) rfl rfl (by kernel_rfl) (e_assign (v := .pointer (some ⟨g101, 0, none⟩)) (by kernel_rfl)) ?_
      refine wpList_nil ?_
      refine then_n ?_
      refine wp_region_lit ?_
      refine lv (d := 44) rfl rfl (by kernel_rfl) (e_move (v := .pointer (some ⟨g101, 0, none⟩)) (by kernel_rfl)) ?_
      refine lv (d := 45) rfl rfl (by kernel_rfl) (e_move (v := .map (some g5)) (by exact e80)) ?_
      refine lv (d := 46) rfl rfl (by kernel_rfl) (e_move (v := .slice A74 x73.length c75) (by exact e81)) ?_
      have S102 := S85.pull (F := F76) (Fr := [(is g5)]) 1 rfl rfl
      have S103 := S102.pull (F := (is g5)) (Fr := [F76]) 1 rfl rfl
      obtain ⟨t104, u105, M⟩ := bnd M
      refine lcall (d := 47) rfl rfl (by kernel_rfl) (e_call (l := [.tmp 44, .tmp 45, .tmp 46]) (vs := [.pointer (some ⟨g101, 0, none⟩), .map (some g5), .slice A74 x73.length c75]) Try.func74 (by kernel_rfl) rfl (by kernel_rfl) rfl) (ih k90 (by omega) w69 H71 (x1.args.getD ((x78).toNat) (Tm.mk 0 0 [] [])) g101 x79 g5 x73 A74 c75 F76 (h100.ext' Y72) h6 h77 (St.own' (Fa := [(is g5), F76]) (Fr := []) S103) t104 u105) ?_
      rintro _ w106 ⟨A110, c111, F113, H107, rfl, h109, h112, T108⟩
      refine ⟨_, rfl, ?_⟩
      obtain ⟨S114, K115⟩ := St.call (Fa := [(is g5), F76]) (Fr := []) S103 T108
      have E116 := T108.ext
      refine lv (d := 2) rfl rfl (by kernel_rfl) (e_assign (v := .slice A110 t104.1.length c111) (by kernel_rfl)) ?_
      refine wpList_nil ?_
      refine inb_n ?_
      refine then_n ?_
      refine wp_region_lit ?_
      refine lv (d := 48) rfl rfl (by kernel_rfl) (e_add (k := .i64) (a := x78) (b := 1) (by exact e84) rfl) ?_
      refine lv (d := 40) rfl rfl (by kernel_rfl) (e_move (v := .int .i64 (IntKind.i64.wrap (x78 + 1))) (by kernel_rfl)) ?_
      refine wpList_nil ?_
      refine then_n ?_
      exact ⟨k90, (by omega), _, H107, t104.1, A110, c111, F113, (IntKind.i64.wrap (x78 + 1)), t104.2, (by omega), rfl, (by exact e80), (by kernel_rfl), (by exact e82), (by exact e83), (by kernel_rfl), h109, h112, (Y72.trans E116), S114, M⟩
    replace M := ifn q91 M
    refine cond_f rfl (bf q91 (by kernel_rfl)) ?_
    refine wp_exit ?_
    refine then_e ?_
    refine then_e ?_
    refine inb_hit ?_
    refine then_n ?_
    refine wp_seq ?_
    refine wp_region_lit ?_
    refine lv (d := 49) rfl rfl (by kernel_rfl) (e_move (v := .slice A74 x73.length c75) (by exact e81)) ?_
    refine lv (d := 6) rfl rfl (by kernel_rfl) (e_assign (v := .slice A74 x73.length c75) (by kernel_rfl)) ?_
    refine wpList_nil ?_
    refine then_n ?_
    refine wp_ret ?_
    obtain rfl := Option.some.inj M
    exact ret1 rfl rfl  (show _ = .slice A74 x73.length c75 from (by kernel_rfl)) ⟨A74, c75, F76, H71, rfl, h6, h77, S85⟩
theorem impl_node_vars_2.calls (k : Nat) (w : World) (H : Hp) (x1 : Tm) (g2 : Nat) (x4 : List (Int × Bool)) (g5 : Nat) (x7 : List Int) (A8 : Option Addr) (c9 : Nat) (F11 : Foot) (h3 : NodeR 74 H x1 (.pointer (some ⟨g2, 0, none⟩))) (h6 : MapO encI tBool H (hp w) g5 x4) (h10 : Row tInt 3 H (hp w) F11 A8 c9 x7) (S : Own [(is g5), F11] H w) (r : (List Int) × (List (Int × Bool))) (M : impl_node_vars_2.f k x1 x4 x7 = some r) :
    Calls Try.prog 74 #[.pointer (some ⟨g2, 0, none⟩), .map (some g5), .slice A8 x7.length c9] w (fun e e_w => ∃ (A_1 : Option Addr) (c_1 : Nat) (F_1 : Foot) (H_ : Hp), e = .returned (.slice A_1 r.1.length c_1) ∧ MapO encI tBool H_ (hp e_w) g5 r.2 ∧ Row tInt 3 H_ (hp e_w) F_1 A_1 c_1 r.1 ∧ St (anyOf [(is g5), F11]) H w [(is g5), F_1] H_ e_w) := (impl_node_vars_2.all (k + 1)) k (Nat.lt_succ_self k) w H x1 g2 x4 g5 x7 A8 c9 F11 h3 h6 h10 S r M

/-! impl_varsOf -/
def impl_varsOf.f (k : Nat) (x1 : Tm) : Option (List Int) := ((impl_node_vars_2.f k x1 [] []).bind fun t11 => some t11.1)
theorem impl_varsOf.calls (k : Nat) (w : World) (H : Hp) (x1 : Tm) (g2 : Nat) (h3 : NodeR 74 H x1 (.pointer (some ⟨g2, 0, none⟩))) (S : Own [] H w) (r : List Int) (M : impl_varsOf.f k x1 = some r) :
    Calls Try.prog 68 #[.pointer (some ⟨g2, 0, none⟩)] w (fun e e_w => ∃ (A_1 : Option Addr) (c_1 : Nat) (F_1 : Foot) (H_ : Hp), e = .returned (.slice A_1 r.length c_1) ∧ Row tInt 3 H_ (hp e_w) F_1 A_1 c_1 r ∧ St (anyOf []) H w [F_1] H_ e_w) := by
  rw [impl_varsOf.f] at M
  refine enter (l := [.pointer (some ⟨g2, 0, none⟩)]) 6 Try.func68 rfl rfl rfl ?_
  have S0_ := S.st
  refine wp_seq ?_
  refine wp_region_lit ?_
  refine lv (d := 2) rfl rfl (by kernel_rfl) (e_assign (v := .slice none 0 0) rfl) ?_
  refine wpList_nil ?_
  refine then_n ?_
  refine wp_seq ?_
  refine wp_region_lit ?_
  refine lv (d := 3) rfl rfl (by kernel_rfl) (e_move (v := .pointer (some ⟨g2, 0, none⟩)) (by kernel_rfl)) ?_
  refine lve (d := 4) rfl rfl (by kernel_rfl) (e_makeMap S0_ encI tBool) ?_
  rintro _ w4 ⟨g5, rfl, h6, S7, K8⟩
  have S9 := S7.unit
  have S10 := S9.pull (F := (is g5)) (Fr := [no]) 1 rfl rfl
  obtain ⟨t11, u12, M⟩ := bnd M
  refine lcall (d := 5) rfl rfl (by kernel_rfl) (e_call (l := [.tmp 3, .tmp 4, .const (.slice none 0 0)]) (vs := [.pointer (some ⟨g2, 0, none⟩), .map (some g5), .slice none 0 0]) Try.func74 (by kernel_rfl) rfl (by kernel_rfl) rfl) (impl_node_vars_2.calls k w4 H x1 g2 [] g5 [] none 0 no h3 h6 (Row.nil _ _ _ _ no) (St.own' (Fa := [(is g5), no]) (Fr := []) S10) t11 u12) ?_
  rintro _ w13 ⟨A17, c18, F20, H14, rfl, h16, h19, T15⟩
  refine ⟨_, rfl, ?_⟩
  obtain ⟨S21, K22⟩ := St.call (Fa := [(is g5), no]) (Fr := []) S10 T15
  have E23 := T15.ext
  refine lv (d := 2) rfl rfl (by kernel_rfl) (e_assign (v := .slice A17 t11.1.length c18) (by kernel_rfl)) ?_
  refine wpList_nil ?_
  refine then_n ?_
  refine wp_ret ?_
  obtain rfl := Option.some.inj M
  have S24 := S21.pull (F := F20) (Fr := [(is g5)]) 1 rfl rfl
  have S25 := St.first (Fa := [F20]) (Fr := [(is g5)]) S24
  exact ret1 rfl rfl  (show _ = .slice A17 t11.1.length c18 from (by kernel_rfl)) ⟨A17, c18, F20, H14, rfl, h19, S25⟩

/-! impl_maxVar -/
def impl_maxVar.l0 : Nat → (List Int) → Int → Int → Option Int
  | 0, _, _, _ => none
  | k29 + 1, t4, x18, x19 => (if x19 < (t4.length : Int) then (if 0 ≤ x19 then (impl_maxVar.l0 k29 t4 (if (t4.getD ((x19).toNat) (0 : Int)) > x18 then (t4.getD ((x19).toNat) (0 : Int)) else x18) (IntKind.i64.wrap (x19 + 1))) else none) else some x18)
def impl_maxVar.f (k : Nat) (x1 : Tm) : Option Int := ((impl_varsOf.f k x1).bind fun t4 => (impl_maxVar.l0 k t4 (-1) 0))
theorem impl_maxVar.calls (k : Nat) (w : World) (H : Hp) (x1 : Tm) (g2 : Nat) (h3 : NodeR 74 H x1 (.pointer (some ⟨g2, 0, none⟩))) (S : Own [] H w) (r : Int) (M : impl_maxVar.f k x1 = some r) :
    Calls Try.prog 54 #[.pointer (some ⟨g2, 0, none⟩)] w (fun e e_w => e = .returned (.int .i64 r) ∧ Chg no w e_w) := by
  rw [impl_maxVar.f] at M
  refine enter (l := [.pointer (some ⟨g2, 0, none⟩)]) 18 Try.func54 rfl rfl rfl ?_
  have S0_ := S.st
  refine wp_seq ?_
  refine wp_region_lit ?_
  refine lv (d := 2) rfl rfl (by kernel_rfl) (e_assign (v := .int .i64 0) rfl) ?_
  refine wpList_nil ?_
  refine then_n ?_
  refine wp_seq ?_
  refine wp_region_lit ?_
  refine lv (d := 3) rfl rfl (by kernel_rfl) (e_assign (v := .int .i64 (-1)) rfl) ?_
  refine wpList_nil ?_
  refine then_n ?_
  refine wp_seq ?_
  refine wp_seq ?_
  refine wp_region_lit ?_
  refine lv (d := 6) rfl rfl (by kernel_rfl) (e_move (v := .pointer (some ⟨g2, 0, none⟩)) (by kernel_rfl)) ?_
  obtain ⟨t4, u5, M⟩ := bnd M
  refine lcall (d := 7) rfl rfl (by kernel_rfl) (e_call (l := [.tmp 6]) (vs := [.pointer (some ⟨g2, 0, none⟩)]) Try.func68 (by kernel_rfl) rfl (by kernel_rfl) rfl) (impl_varsOf.calls k w H x1 g2 h3 (St.own' (Fa := []) (Fr := []) S0_) t4 u5) ?_
  rintro _ w6 ⟨A9, c10, F12, H7, rfl, h11, T8⟩
  refine ⟨_, rfl, ?_⟩
  obtain ⟨S13, K14⟩ := St.call (Fa := []) (Fr := []) S0_ T8
  have E15 := T8.ext
  refine lv (d := 8) rfl rfl (by kernel_rfl) (e_len (A := A9) (n := t4.length) (c := c10) Try.underlying90 (by kernel_rfl)) ?_
  refine lv (d := 9) rfl rfl (by kernel_rfl) (e_move (v := .int .i64 0) rfl) ?_
  refine wpList_nil ?_
  refine then_n ?_
  refine wp_block ?_
  refine wp_loop_g (fun k27 a28 w16 => ∃ (f17 : Nat → Value) (x18 : Int) (x19 : Int), a28 = mk 18 f17 ∧ f17 3 = .int .i64 x18 ∧ f17 7 = .slice A9 t4.length c10 ∧ f17 8 = .int .i64 (t4.length : Int) ∧ f17 9 = .int .i64 x19 ∧ Row tInt 3 H7 (hp w16) F12 A9 c10 t4 ∧ St (anyOf []) H w [F12] H7 w16 ∧ impl_maxVar.l0 k27 t4 x18 x19 = some r) k ⟨_, (-1), 0, rfl, (by kernel_rfl), (by kernel_rfl), (by kernel_rfl), (by kernel_rfl), h11, S13, M⟩ ?_
  clear M
  rintro k27 a28 w16 ⟨f17, x18, x19, rfl, e20, e21, e22, e23, h11, S24, M⟩
  rcases k27 with _ | k29
  · rw [impl_maxVar.l0] at M
    cases M
  rw [impl_maxVar.l0] at M
  refine wp_seq ?_
  refine wp_region_lit ?_
  refine lv (d := 10) rfl rfl (by kernel_rfl) (e_lss (k := .i64) (a := x19) (b := (t4.length : Int)) (by exact e23) (by exact e22)) ?_
  refine wpList_nil ?_
  refine then_n ?_
  refine wp_seq ?_
  by_cases q30 : x19 < (t4.length : Int)
  · replace M := ifp q30 M
    refine cond_t rfl (bt q30 (by kernel_rfl)) ?_
    refine wp_skip ?_
    refine then_n ?_
    refine wp_seq ?_
    refine wp_block ?_
    refine wp_seq ?_
    refine wp_region_lit ?_
    obtain ⟨q31, M⟩ := chk M
    obtain ⟨b32, e34⟩ := Row.addr h11 (show (x19).toNat < t4.length by omega)
    refine lv (d := 11) rfl rfl (by kernel_rfl) (e_indexAddr (b := b32) (off := 0) (n := t4.length) (c := c10) (sz := 1) (i := x19) (k := .i64) Try.underlying90 e34 (by kernel_rfl) (by exact e21) (by exact e23) q31 q30) ?_
    refine lv (d := 12) rfl rfl (by kernel_rfl) (e_load1 (ad := ⟨b32, 0 + (x19 : Int).toNat * 1, none⟩) (v := .int .i64 (t4.getD ((x19).toNat) (0 : Int))) Try.underlying3 rfl (by kernel_rfl) (hpx (Row.pick (j := 0) (u := .int .i64 (t4.getD ((x19).toNat) (0 : Int))) h11 e34 (getD_some (0 : Int) (show (x19).toNat < t4.length by omega)) (fun _ _ o_ => by rw [show _ = _ from o_]; rfl)))) ?_
    refine lv (d := 5) rfl rfl (by kernel_rfl) (e_assign (v := .int .i64 (t4.getD ((x19).toNat) (0 : Int))) (by kernel_rfl)) ?_
    refine wpList_nil ?_
    refine then_n ?_
    refine wp_region_lit ?_
    refine lv (d := 13) rfl rfl (by kernel_rfl) (e_move (v := .int .i64 x18) (by exact e20)) ?_
    refine lv (d := 14) rfl rfl (by kernel_rfl) (e_move (v := .int .i64 (t4.getD ((x19).toNat) (0 : Int))) (by kernel_rfl)) ?_
    refine lv (d := 15) rfl rfl (by kernel_rfl) (e_max (k := .i64) (a := x18) (b := (t4.getD ((x19).toNat) (0 : Int))) (by kernel_rfl) (by kernel_rfl)) ?_
    refine lv (d := 3) rfl rfl (by kernel_rfl) (e_assign (v := .int .i64 (if (t4.getD ((x19).toNat) (0 : Int)) > x18 then (t4.getD ((x19).toNat) (0 : Int)) else x18)) (by kernel_rfl)) ?_
    refine wpList_nil ?_
    refine inb_n ?_
    refine then_n ?_
    refine wp_region_lit ?_
    refine lv (d := 16) rfl rfl (by kernel_rfl) (e_add (k := .i64) (a := x19) (b := 1) (by exact e23) rfl) ?_
    refine lv (d := 9) rfl rfl (by kernel_rfl) (e_move (v := .int .i64 (IntKind.i64.wrap (x19 + 1))) (by kernel_rfl)) ?_
    refine wpList_nil ?_
    refine then_n ?_
    exact ⟨k29, (by omega), _, (if (t4.getD ((x19).toNat) (0 : Int)) > x18 then (t4.getD ((x19).toNat) (0 : Int)) else x18), (IntKind.i64.wrap (x19 + 1)), rfl, (by kernel_rfl), (by exact e21), (by exact e22), (by kernel_rfl), h11, S24, M⟩
  replace M := ifn q30 M
  refine cond_f rfl (bf q30 (by kernel_rfl)) ?_
  refine wp_exit ?_
  refine then_e ?_
  refine then_e ?_
  refine inb_hit ?_
  refine then_n ?_
  refine wp_seq ?_
  refine wp_region_lit ?_
  refine lv (d := 17) rfl rfl (by kernel_rfl) (e_move (v := .int .i64 x18) (by exact e20)) ?_
  refine lv (d := 2) rfl rfl (by kernel_rfl) (e_assign (v := .int .i64 x18) (by kernel_rfl)) ?_
  refine wpList_nil ?_
  refine then_n ?_
  refine wp_ret ?_
  obtain rfl := Option.some.inj M
  exact ret1 rfl rfl  (show _ = .int .i64 x18 from (by kernel_rfl)) ⟨rfl, S24.chg⟩

/-! impl_variable -/
def impl_variable.f (x1 : Int) : Option Tm := some (Tm.mk 0 x1 ([] : List UInt8) [])
theorem impl_variable.calls (w : World) (H : Hp) (x1 : Int) (S : Own [] H w) (r : Tm) (M : impl_variable.f x1 = some r) :
    Calls Try.prog 69 #[.int .i64 x1] w (fun e e_w => ∃ (g_1 : Nat) (H_ : Hp), e = .returned (.pointer (some ⟨g_1, 0, none⟩)) ∧ NodeR 74 H_ r (.pointer (some ⟨g_1, 0, none⟩)) ∧ St (anyOf []) H w [] H_ e_w) := by
  rw [impl_variable.f] at M
  refine enter (l := [.int .i64 x1]) 6 Try.func69 rfl rfl rfl ?_
  have S0_ := S.st
  refine wp_seq ?_
  refine wp_region_lit ?_
  refine lv (d := 2) rfl rfl (by kernel_rfl) (e_assign (v := .pointer none) rfl) ?_
  refine wpList_nil ?_
  refine then_n ?_
  refine wp_seq ?_
  refine wp_region_lit ?_
  refine lv (d := 3) rfl rfl (by kernel_rfl) (e_move (v := .int .i64 x1) (by kernel_rfl)) ?_
  refine lv (d := 4) rfl rfl (by kernel_rfl) (show _ = Result.ok (Next.value (.agg #[.int .i64 0, .int .i64 x1, str ([] : List UInt8), .slice none 0 0])) w from by kernel_rfl) ?_
  refine lve (d := 5) rfl rfl (by kernel_rfl) (new_blk (v := fun g_ => .pointer (some ⟨g_, 0, none⟩)) (cs := #[.int .i64 0, .int .i64 x1, str ([] : List UInt8), .slice none 0 0]) (t := 74) S0_ (by kernel_rfl)) ?_
  rintro _ w2 ⟨g3, rfl, b4, S5, K6⟩
  refine lv (d := 2) rfl rfl (by kernel_rfl) (e_assign (v := .pointer (some ⟨g3, 0, none⟩)) (by kernel_rfl)) ?_
  refine wpList_nil ?_
  refine then_n ?_
  refine wp_ret ?_
  obtain ⟨H7, S8, E9, h10, z11⟩ := S5.frzBlk b4
  have h12 : NodeR 74 H7 (Tm.mk 0 x1 ([] : List UInt8) []) (.pointer (some ⟨g3, 0, none⟩)) := node_mk (A := none) (c := 0) h10 rfl (Nat.le_refl _) (Rd.nil _ _ _)
  obtain rfl := Option.some.inj M
  exact ret1 rfl rfl  (show _ = .pointer (some ⟨g3, 0, none⟩) from (by kernel_rfl)) ⟨g3, H7, rfl, h12, S8⟩

/-! impl_grammar_need -/
def impl_grammar_need.f (x1 : GL8gram) : Option (Tm × GL8gram) := ((impl_variable.f (IntKind.i64.wrap ((IntKind.i64.wrap (x1.next_ + 1)) - 1))).bind fun t8 => some (t8, (⟨(IntKind.i64.wrap (x1.next_ + 1)), x1.code_⟩ : GL8gram)))
theorem impl_grammar_need.calls (w : World) (H : Hp) (x1 : GL8gram) (g2 : Nat) (b3 : w.heap[g2]? = some (.cells #[.int .i64 x1.next_, .int .i64 x1.code_] 78 (0, 0))) (S : Own [(is g2)] H w) (r : Tm × GL8gram) (M : impl_grammar_need.f x1 = some r) :
    Calls Try.prog 55 #[.pointer (some ⟨g2, 0, none⟩)] w (fun e e_w => ∃ (g_1 : Nat) (H_ : Hp), e = .returned (.pointer (some ⟨g_1, 0, none⟩)) ∧ e_w.heap[g2]? = some (.cells #[.int .i64 r.2.next_, .int .i64 r.2.code_] 78 (0, 0)) ∧ NodeR 74 H_ r.1 (.pointer (some ⟨g_1, 0, none⟩)) ∧ St (anyOf [(is g2)]) H w [(is g2)] H_ e_w) := by
  rw [impl_grammar_need.f] at M
  refine enter (l := [.pointer (some ⟨g2, 0, none⟩)]) 16 Try.func55 rfl rfl rfl ?_
  have S0_ := S.st
  refine wp_seq ?_
  refine wp_region_lit ?_
  refine lv (d := 2) rfl rfl (by kernel_rfl) (e_assign (v := .pointer none) rfl) ?_
  refine wpList_nil ?_
  refine then_n ?_
  refine wp_seq ?_
  refine wp_region_lit ?_
  refine lv (d := 3) rfl rfl (by kernel_rfl) (e_move (v := .pointer (some ⟨g2, 0, none⟩)) (by kernel_rfl)) ?_
  refine lv (d := 4) rfl rfl (by kernel_rfl) (e_nilCheck (ad := ⟨g2, 0, none⟩) (by kernel_rfl)) ?_
  refine lv (d := 5) rfl rfl (by kernel_rfl) (e_fieldAddr (b := g2) (off := 0) (o := 0) Try.underlying78 rfl rfl (sz := 1) (by kernel_rfl) (by decide) (by kernel_rfl)) ?_
  refine lv (d := 6) rfl rfl (by kernel_rfl) (e_load1 (ad := ⟨g2, 0 + 0, none⟩) (v := .int .i64 x1.next_) Try.underlying3 rfl (by kernel_rfl) (blk_cell b3 rfl)) ?_
  refine lv (d := 7) rfl rfl (by kernel_rfl) (e_add (k := .i64) (a := x1.next_) (b := 1) (by kernel_rfl) rfl) ?_
  refine lv (d := 8) rfl rfl (by kernel_rfl) (e_nilCheck (ad := ⟨g2, 0, none⟩) (by kernel_rfl)) ?_
  refine lv (d := 9) rfl rfl (by kernel_rfl) (e_fieldAddr (b := g2) (off := 0) (o := 0) Try.underlying78 rfl rfl (sz := 1) (by kernel_rfl) (by decide) (by kernel_rfl)) ?_
  refine lse rfl rfl (by kernel_rfl) (e_store (g := g2) (o := 0 + 0) (v := .int .i64 (IntKind.i64.wrap (x1.next_ + 1))) (cur' := #[.int .i64 (IntKind.i64.wrap (x1.next_ + 1)), .int .i64 x1.code_]) (vs := [.int .i64 (IntKind.i64.wrap (x1.next_ + 1))]) S0_ (by kernel_rfl) (by kernel_rfl) rfl (by kernel_rfl) b3 (Nat.le_of_ble_eq_true rfl) (List.forall_mem_cons.2 ⟨rfl, (fun _ h_ => by cases h_)⟩) rfl) ?_
  rintro w4 ⟨b5, S6, K7⟩
  clear b3
  refine wpList_nil ?_
  refine then_n ?_
  refine wp_seq ?_
  refine wp_region_lit ?_
  refine lv (d := 10) rfl rfl (by kernel_rfl) (e_move (v := .pointer (some ⟨g2, 0, none⟩)) (by kernel_rfl)) ?_
  refine lv (d := 11) rfl rfl (by kernel_rfl) (e_nilCheck (ad := ⟨g2, 0, none⟩) (by kernel_rfl)) ?_
  refine lv (d := 12) rfl rfl (by kernel_rfl) (e_fieldAddr (b := g2) (off := 0) (o := 0) Try.underlying78 rfl rfl (sz := 1) (by kernel_rfl) (by decide) (by kernel_rfl)) ?_
  refine lv (d := 13) rfl rfl (by kernel_rfl) (e_load1 (ad := ⟨g2, 0 + 0, none⟩) (v := .int .i64 (IntKind.i64.wrap (x1.next_ + 1))) Try.underlying3 rfl (by kernel_rfl) (blk_cell b5 rfl)) ?_
  refine lv (d := 14) rfl rfl (by kernel_rfl) (e_sub (k := .i64) (a := (IntKind.i64.wrap (x1.next_ + 1))) (b := 1) (by kernel_rfl) rfl) ?_
  obtain ⟨t8, u9, M⟩ := bnd M
  refine lcall (d := 15) rfl rfl (by kernel_rfl) (e_call (l := [.tmp 14]) (vs := [.int .i64 (IntKind.i64.wrap ((IntKind.i64.wrap (x1.next_ + 1)) - 1))]) Try.func69 (by kernel_rfl) rfl (by kernel_rfl) rfl) (impl_variable.calls w4 H (IntKind.i64.wrap ((IntKind.i64.wrap (x1.next_ + 1)) - 1))  (St.own' (Fa := []) (Fr := [(is g2)]) S6) t8 u9) ?_
  rintro _ w10 ⟨g13, H11, rfl, h14, T12⟩
  refine ⟨_, rfl, ?_⟩
  obtain ⟨S15, K16⟩ := St.call (Fa := []) (Fr := [(is g2)]) S6 T12
  replace b5 := K16.blk 0 rfl b5
  have E17 := T12.ext
  refine lv (d := 2) rfl rfl (by kernel_rfl) (e_assign (v := .pointer (some ⟨g13, 0, none⟩)) (by kernel_rfl)) ?_
  refine wpList_nil ?_
  refine then_n ?_
  refine wp_ret ?_
  obtain rfl := Option.some.inj M
  exact ret1 rfl rfl  (show _ = .pointer (some ⟨g13, 0, none⟩) from (by kernel_rfl)) ⟨g13, H11, rfl, b5, h14, S15⟩

/-! impl_node_arity -/
def impl_node_arity.f (x1 : Tm) : Option Int := some (x1.args.length : Int)
theorem impl_node_arity.calls (w : World) (H : Hp) (x1 : Tm) (g2 : Nat) (h3 : NodeR 74 H x1 (.pointer (some ⟨g2, 0, none⟩))) (S : Own [] H w) (r : Int) (M : impl_node_arity.f x1 = some r) :
    Calls Try.prog 70 #[.pointer (some ⟨g2, 0, none⟩)] w (fun e e_w => e = .returned (.int .i64 r) ∧ Chg no w e_w) := by
  rw [impl_node_arity.f] at M
  refine enter (l := [.pointer (some ⟨g2, 0, none⟩)]) 8 Try.func70 rfl rfl rfl ?_
  have S0_ := S.st
  refine wp_seq ?_
  refine wp_region_lit ?_
  refine lv (d := 2) rfl rfl (by kernel_rfl) (e_assign (v := .int .i64 0) rfl) ?_
  refine wpList_nil ?_
  refine then_n ?_
  refine wp_seq ?_
  refine wp_region_lit ?_
  refine lv (d := 3) rfl rfl (by kernel_rfl) (e_move (v := .pointer (some ⟨g2, 0, none⟩)) (by kernel_rfl)) ?_
  refine lv (d := 4) rfl rfl (by kernel_rfl) (e_nilCheck (ad := ⟨g2, 0, none⟩) (by kernel_rfl)) ?_
  refine lv (d := 5) rfl rfl (by kernel_rfl) (e_fieldAddr (b := g2) (off := 0) (o := 3) Try.underlying74 rfl rfl (sz := 1) (by kernel_rfl) (by decide) (by kernel_rfl)) ?_
  obtain ⟨A4, c5, y6, q7, h8, h9, l10, h11⟩ := node_open h3
  refine lv (d := 6) rfl rfl (by kernel_rfl) (e_load1 (ad := ⟨g2, 0 + 3, none⟩) (v := .slice A4 x1.args.length c5) Try.underlying72 rfl (by kernel_rfl) (blk_cells (S0_.inv _ _ h8) h9 3 _ rfl)) ?_
  refine lv (d := 7) rfl rfl (by kernel_rfl) (e_len (A := A4) (n := x1.args.length) (c := c5) Try.underlying72 (by kernel_rfl)) ?_
  refine lv (d := 2) rfl rfl (by kernel_rfl) (e_assign (v := .int .i64 (x1.args.length : Int)) (by kernel_rfl)) ?_
  refine wpList_nil ?_
  refine then_n ?_
  refine wp_ret ?_
  obtain rfl := Option.some.inj M
  exact ret1 rfl rfl  (show _ = .int .i64 (x1.args.length : Int) from (by kernel_rfl)) ⟨rfl, S0_.chg⟩

/-! impl_grammar_fault -/
def impl_grammar_fault.f (x1 : GL8gram) (x4 : Int) : Option GL8gram := (if x1.code_ = 0 then some (⟨x1.next_, x4⟩ : GL8gram) else some x1)
theorem impl_grammar_fault.calls (w : World) (H : Hp) (x1 : GL8gram) (g2 : Nat) (x4 : Int) (b3 : w.heap[g2]? = some (.cells #[.int .i64 x1.next_, .int .i64 x1.code_] 78 (0, 0))) (S : Own [(is g2)] H w) (r : GL8gram) (M : impl_grammar_fault.f x1 x4 = some r) :
    Calls Try.prog 59 #[.pointer (some ⟨g2, 0, none⟩), .int .i64 x4] w (fun e e_w => ∃ (H_ : Hp), e = .returned (.tuple #[]) ∧ e_w.heap[g2]? = some (.cells #[.int .i64 r.next_, .int .i64 r.code_] 78 (0, 0)) ∧ St (anyOf [(is g2)]) H w [(is g2)] H_ e_w) := by
  rw [impl_grammar_fault.f] at M
  refine enter (l := [.pointer (some ⟨g2, 0, none⟩), .int .i64 x4]) 13 Try.func59 rfl rfl rfl ?_
  have S0_ := S.st
  refine wp_seq ?_
  refine wp_region_lit ?_
  refine lv (d := 4) rfl rfl (by kernel_rfl) (e_move (v := .pointer (some ⟨g2, 0, none⟩)) (by kernel_rfl)) ?_
  refine lv (d := 5) rfl rfl (by kernel_rfl) (e_nilCheck (ad := ⟨g2, 0, none⟩) (by kernel_rfl)) ?_
  refine lv (d := 6) rfl rfl (by kernel_rfl) (e_fieldAddr (b := g2) (off := 0) (o := 1) Try.underlying78 rfl rfl (sz := 1) (by kernel_rfl) (by decide) (by kernel_rfl)) ?_
  refine lv (d := 7) rfl rfl (by kernel_rfl) (e_load1 (ad := ⟨g2, 0 + 1, none⟩) (v := .int .i64 x1.code_) Try.underlying3 rfl (by kernel_rfl) (blk_cell b3 rfl)) ?_
  refine lv (d := 8) rfl rfl (by kernel_rfl) (e_eql (k := .i64) (a := x1.code_) (b := 0) (by kernel_rfl) rfl) ?_
  refine wpList_nil ?_
  refine then_n ?_
  by_cases q5 : x1.code_ = 0
  · replace M := ifp q5 M
    refine cond_t rfl (bt q5 (by kernel_rfl)) ?_
    refine wp_region_lit ?_
    refine lv (d := 9) rfl rfl (by kernel_rfl) (e_move (v := .pointer (some ⟨g2, 0, none⟩)) (by kernel_rfl)) ?_
    refine lv (d := 10) rfl rfl (by kernel_rfl) (e_move (v := .int .i64 x4) (by kernel_rfl)) ?_
    refine lv (d := 11) rfl rfl (by kernel_rfl) (e_nilCheck (ad := ⟨g2, 0, none⟩) (by kernel_rfl)) ?_
    refine lv (d := 12) rfl rfl (by kernel_rfl) (e_fieldAddr (b := g2) (off := 0) (o := 1) Try.underlying78 rfl rfl (sz := 1) (by kernel_rfl) (by decide) (by kernel_rfl)) ?_
    refine lse rfl rfl (by kernel_rfl) (e_store (g := g2) (o := 0 + 1) (v := .int .i64 x4) (cur' := #[.int .i64 x1.next_, .int .i64 x4]) (vs := [.int .i64 x4]) S0_ (by kernel_rfl) (by kernel_rfl) rfl (by kernel_rfl) b3 (Nat.le_of_ble_eq_true rfl) (List.forall_mem_cons.2 ⟨rfl, (fun _ h_ => by cases h_)⟩) rfl) ?_
    rintro w6 ⟨b7, S8, K9⟩
    clear b3
    refine wpList_nil ?_
    obtain rfl := Option.some.inj M
    exact end0 rfl ⟨H, rfl, b7, S8⟩
  replace M := ifn q5 M
  refine cond_f rfl (bf q5 (by kernel_rfl)) ?_
  refine wp_skip ?_
  obtain rfl := Option.some.inj M
  exact end0 rfl ⟨H, rfl, b3, S0_⟩

/-! impl_comp -/
def impl_comp.f (x1 : List UInt8) (x2 : List Tm) : Option Tm := some (Tm.mk 3 (x2.length : Int) x1 x2)
theorem impl_comp.calls (w : World) (H : Hp) (x1 : List UInt8) (x2 : List Tm) (A3 : Option Addr) (c4 : Nat) (h5 : Rd (node 74) H A3 x2) (l6 : x2.length ≤ c4) (S : Own [] H w) (r : Tm) (M : impl_comp.f x1 x2 = some r) :
    Calls Try.prog 60 #[str x1, .slice A3 x2.length c4] w (fun e e_w => ∃ (g_1 : Nat) (H_ : Hp), e = .returned (.pointer (some ⟨g_1, 0, none⟩)) ∧ NodeR 74 H_ r (.pointer (some ⟨g_1, 0, none⟩)) ∧ St (anyOf []) H w [] H_ e_w) := by
  rw [impl_comp.f] at M
  refine enter (l := [str x1, .slice A3 x2.length c4]) 11 Try.func60 rfl rfl rfl ?_
  have S0_ := S.st
  refine wp_seq ?_
  refine wp_region_lit ?_
  refine lv (d := 4) rfl rfl (by kernel_rfl) (e_assign (v := .pointer none) rfl) ?_
  refine wpList_nil ?_
  refine then_n ?_
  refine wp_seq ?_
  refine wp_region_lit ?_
  refine lv (d := 5) rfl rfl (by kernel_rfl) (e_move (v := .slice A3 x2.length c4) (by kernel_rfl)) ?_
  refine lv (d := 6) rfl rfl (by kernel_rfl) (e_len (A := A3) (n := x2.length) (c := c4) Try.underlying72 (by kernel_rfl)) ?_
  refine lv (d := 7) rfl rfl (by kernel_rfl) (e_move (v := str x1) (by kernel_rfl)) ?_
  refine lv (d := 8) rfl rfl (by kernel_rfl) (e_move (v := .slice A3 x2.length c4) (by kernel_rfl)) ?_
  refine lv (d := 9) rfl rfl (by kernel_rfl) (show _ = Result.ok (Next.value (.agg #[.int .i64 3, .int .i64 (x2.length : Int), str x1, .slice A3 x2.length c4])) w from by kernel_rfl) ?_
  refine lve (d := 10) rfl rfl (by kernel_rfl) (new_blk (v := fun g_ => .pointer (some ⟨g_, 0, none⟩)) (cs := #[.int .i64 3, .int .i64 (x2.length : Int), str x1, .slice A3 x2.length c4]) (t := 74) S0_ (by kernel_rfl)) ?_
  rintro _ w7 ⟨g8, rfl, b9, S10, K11⟩
  refine lv (d := 4) rfl rfl (by kernel_rfl) (e_assign (v := .pointer (some ⟨g8, 0, none⟩)) (by kernel_rfl)) ?_
  refine wpList_nil ?_
  refine then_n ?_
  refine wp_ret ?_
  obtain ⟨H12, S13, E14, h15, z16⟩ := S10.frzBlk b9
  have h17 : NodeR 74 H12 (Tm.mk 3 (x2.length : Int) x1 x2) (.pointer (some ⟨g8, 0, none⟩)) := node_mk (A := A3) (c := c4) h15 rfl l6 (h5.ext E14)
  obtain rfl := Option.some.inj M
  exact ret1 rfl rfl  (show _ = .pointer (some ⟨g8, 0, none⟩) from (by kernel_rfl)) ⟨g8, H12, rfl, h17, S13⟩

/-! impl_grammar_more -/
def impl_grammar_more.l1 (_k : Nat) (x17 : Int) (x18 : Int) (x46 : Tm) : Option (Tm × GL8gram) := some (x46, (⟨x17, x18⟩ : GL8gram))
def impl_grammar_more.l0 (_k : Nat) (x4 : Tm) (x7 : Tm) (x10 : Tm) (x17 : Int) (x18 : Int) : Option (Tm × GL8gram) := (if 0 + x4.args.length ≤ 17592186044416 then (if (([] : List Tm) ++ x4.args).length + 2 ≤ 17592186044416 then ((impl_comp.f x4.text ((([] : List Tm) ++ x4.args) ++ [x7, x10])).bind fun t139 => (impl_grammar_more.l1 0 x17 x18 t139)) else none) else none)
def impl_grammar_more.f (x1 : GL8gram) (x4 : Tm) (x7 : Tm) (x10 : Tm) : Option (Tm × GL8gram) := ((impl_node_arity.f x4).bind fun t26 => (if (IntKind.i64.wrap (t26 + 2)) > 20 then ((impl_grammar_fault.f x1 3).bind fun t33 => (impl_grammar_more.l0 0 x4 x7 x10 t33.next_ t33.code_)) else (impl_grammar_more.l0 0 x4 x7 x10 x1.next_ x1.code_)))
theorem impl_grammar_more.calls (w : World) (H : Hp) (x1 : GL8gram) (g2 : Nat) (x4 : Tm) (g5 : Nat) (x7 : Tm) (g8 : Nat) (x10 : Tm) (g11 : Nat) (b3 : w.heap[g2]? = some (.cells #[.int .i64 x1.next_, .int .i64 x1.code_] 78 (0, 0))) (h6 : NodeR 74 H x4 (.pointer (some ⟨g5, 0, none⟩))) (h9 : NodeR 74 H x7 (.pointer (some ⟨g8, 0, none⟩))) (h12 : NodeR 74 H x10 (.pointer (some ⟨g11, 0, none⟩))) (S : Own [(is g2)] H w) (r : Tm × GL8gram) (M : impl_grammar_more.f x1 x4 x7 x10 = some r) :
    Calls Try.prog 56 #[.pointer (some ⟨g2, 0, none⟩), .pointer (some ⟨g5, 0, none⟩), .pointer (some ⟨g8, 0, none⟩), .pointer (some ⟨g11, 0, none⟩)] w (fun e e_w => ∃ (g_1 : Nat) (H_ : Hp), e = .returned (.pointer (some ⟨g_1, 0, none⟩)) ∧ e_w.heap[g2]? = some (.cells #[.int .i64 r.2.next_, .int .i64 r.2.code_] 78 (0, 0)) ∧ NodeR 74 H_ r.1 (.pointer (some ⟨g_1, 0, none⟩)) ∧ St (anyOf [(is g2)]) H w [(is g2)] H_ e_w) := by
  rw [impl_grammar_more.f] at M
  refine enter (l := [.pointer (some ⟨g2, 0, none⟩), .pointer (some ⟨g5, 0, none⟩), .pointer (some ⟨g8, 0, none⟩), .pointer (some ⟨g11, 0, none⟩)]) 30 Try.func56 rfl rfl rfl ?_
  have S0_ := S.st
  refine wp_seq ?_
  refine wp_region_lit ?_
  refine lv (d := 8) rfl rfl (by kernel_rfl) (e_assign (v := .pointer none) rfl) ?_
  refine wpList_nil ?_
  refine then_n ?_
  refine wp_seq_cut (fun a25 w13 => ∃ (f14 : Nat → Value) (H15 : Hp) (x17 : Int) (x18 : Int), a25 = mk 30 f14 ∧ f14 1 = .pointer (some ⟨g5, 0, none⟩) ∧ f14 2 = .pointer (some ⟨g8, 0, none⟩) ∧ f14 3 = .pointer (some ⟨g11, 0, none⟩) ∧ w13.heap[g2]? = some (.cells #[.int .i64 x17, .int .i64 x18] 78 (0, 0)) ∧ Ext H H15 ∧ St (anyOf [(is g2)]) H w [(is g2)] H15 w13 ∧ impl_grammar_more.l0 0 x4 x7 x10 x17 x18 = some r) ?_ ?_
  · refine wp_seq ?_
    refine wp_region_lit ?_
    refine lv (d := 9) rfl rfl (by kernel_rfl) (e_move (v := .pointer (some ⟨g5, 0, none⟩)) (by kernel_rfl)) ?_
    obtain ⟨t26, u27, M⟩ := bnd M
    refine lcall (d := 10) rfl rfl (by kernel_rfl) (e_call (l := [.tmp 9]) (vs := [.pointer (some ⟨g5, 0, none⟩)]) Try.func70 (by kernel_rfl) rfl (by kernel_rfl) rfl) (impl_node_arity.calls w H x4 g5 h6 S0_.own0 t26 u27) ?_
    rintro _ w28 ⟨rfl, C29⟩
    refine ⟨_, rfl, ?_⟩
    obtain ⟨S30, K31⟩ := S0_.still C29
    replace b3 := K31.blk 0 rfl b3
    refine lv (d := 11) rfl rfl (by kernel_rfl) (e_add (k := .i64) (a := t26) (b := 2) (by kernel_rfl) rfl) ?_
    refine lv (d := 12) rfl rfl (by kernel_rfl) (e_gtr (k := .i64) (a := (IntKind.i64.wrap (t26 + 2))) (b := 20) (by kernel_rfl) rfl) ?_
    refine wpList_nil ?_
    refine then_n ?_
    by_cases q32 : (IntKind.i64.wrap (t26 + 2)) > 20
    · replace M := ifp q32 M
      refine cond_t rfl (bt q32 (by kernel_rfl)) ?_
      refine wp_region_lit ?_
      refine lv (d := 13) rfl rfl (by kernel_rfl) (e_move (v := .pointer (some ⟨g2, 0, none⟩)) (by kernel_rfl)) ?_
      obtain ⟨t33, u34, M⟩ := bnd M
      refine lcall (d := 14) rfl rfl (by kernel_rfl) (e_call (l := [.tmp 13, .const (.int .i64 3)]) (vs := [.pointer (some ⟨g2, 0, none⟩), .int .i64 3]) Try.func59 (by kernel_rfl) rfl (by kernel_rfl) rfl) (impl_grammar_fault.calls w28 H x1 g2 3 b3 (St.own' (Fa := [(is g2)]) (Fr := []) S30) t33 u34) ?_
      rintro _ w35 ⟨H36, rfl, b38, T37⟩
      refine ⟨_, rfl, ?_⟩
      obtain ⟨S39, K40⟩ := St.call (Fa := [(is g2)]) (Fr := []) S30 T37
      have E41 := T37.ext
      refine wpList_nil ?_
      refine then_n ?_
      exact ⟨_, H36, t33.next_, t33.code_, rfl, (by kernel_rfl), (by kernel_rfl), (by kernel_rfl), b38, E41, S39, M⟩
    replace M := ifn q32 M
    refine cond_f rfl (bf q32 (by kernel_rfl)) ?_
    refine wp_skip ?_
    refine then_n ?_
    exact ⟨_, H, x1.next_, x1.code_, rfl, (by kernel_rfl), (by kernel_rfl), (by kernel_rfl), b3, (Ext.refl _), S30, M⟩
  clear M
  rintro a25 w13 ⟨f14, H15, x17, x18, rfl, e19, e20, e21, b3, Y16, S22, M⟩
  rw [impl_grammar_more.l0] at M
  refine wp_seq ?_
  refine wp_cut (fun a53 w42 => ∃ (f43 : Nat → Value) (H44 : Hp) (x46 : Tm) (g47 : Nat), a53 = mk 30 f43 ∧ f43 8 = .pointer (some ⟨g47, 0, none⟩) ∧ w42.heap[g2]? = some (.cells #[.int .i64 x17, .int .i64 x18] 78 (0, 0)) ∧ NodeR 74 H44 x46 (.pointer (some ⟨g47, 0, none⟩)) ∧ Ext H15 H44 ∧ St (anyOf [(is g2)]) H w [(is g2)] H44 w42 ∧ impl_grammar_more.l1 0 x17 x18 x46 = some r) ?_ ?_
  · refine region_mix (S := (fun (L_ : Array Bool) (w_ : World) => Ext H15 (hp w_) ∧ True)) (by kernel_rfl) S22 ?_
    intro w54 S55 K56 hc57
    have hs58 : (fun (L_ : Array Bool) (w_ : World) => Ext H15 (hp w_) ∧ True) (Array.replicate 16 false) w54 := ⟨S55.inv, trivial⟩
    replace b3 := K56.blk 0 rfl b3
    refine xv (i := 0) (d := 15) rfl rfl rfl (by kernel_rfl) (by kernel_rfl) (fun _ _ => Iff.rfl) hc57 hs58 (fun L_ w_ hc_ hu_ hs_ => e_move (v := .pointer (some ⟨g5, 0, none⟩)) (by exact e19)) ?_; intro hc59 hs60
    refine xv (i := 1) (d := 16) rfl rfl rfl (by kernel_rfl) (by kernel_rfl) (fun _ _ => Iff.rfl) hc59 hs60 (fun L_ w_ hc_ hu_ hs_ => e_nilCheck (ad := ⟨g5, 0, none⟩) (by kernel_rfl)) ?_; intro hc61 hs62
    refine xv (i := 2) (d := 17) rfl rfl rfl (by kernel_rfl) (by kernel_rfl) (fun _ _ => Iff.rfl) hc61 hs62 (fun L_ w_ hc_ hu_ hs_ => e_fieldAddr (b := g5) (off := 0) (o := 2) Try.underlying74 rfl rfl (sz := 1) (by kernel_rfl) (by decide) (by kernel_rfl)) ?_; intro hc63 hs64
    obtain ⟨A65, c66, y67, q68, h69, h70, l71, h72⟩ := node_open h6
    refine xv (i := 3) (d := 18) rfl rfl rfl (by kernel_rfl) (by kernel_rfl) (fun _ _ => Iff.rfl) hc63 hs64 (fun L_ w_ hc_ hu_ hs_ => e_load1 (ad := ⟨g5, 0 + 2, none⟩) (v := str x4.text) Try.underlying9 rfl (by kernel_rfl) (blk_cells (hs_.1 _ _ (Y16 _ _ h69)) h70 2 _ rfl)) ?_; intro hc73 hs74
    refine xv (i := 5) (d := 20) rfl rfl rfl (by kernel_rfl) (by kernel_rfl) (fun _ _ => Iff.rfl) hc73 hs74 (fun L_ w_ hc_ hu_ hs_ => e_move (v := .pointer (some ⟨g5, 0, none⟩)) (by exact e19)) ?_; intro hc75 hs76
    refine xv (i := 6) (d := 21) rfl rfl rfl (by kernel_rfl) (by kernel_rfl) (fun _ _ => Iff.rfl) hc75 hs76 (fun L_ w_ hc_ hu_ hs_ => e_nilCheck (ad := ⟨g5, 0, none⟩) (by kernel_rfl)) ?_; intro hc77 hs78
    refine xv (i := 7) (d := 22) rfl rfl rfl (by kernel_rfl) (by kernel_rfl) (fun _ _ => Iff.rfl) hc77 hs78 (fun L_ w_ hc_ hu_ hs_ => e_fieldAddr (b := g5) (off := 0) (o := 3) Try.underlying74 rfl rfl (sz := 1) (by kernel_rfl) (by decide) (by kernel_rfl)) ?_; intro hc79 hs80
    refine xv (i := 8) (d := 23) rfl rfl rfl (by kernel_rfl) (by kernel_rfl) (fun _ _ => Iff.rfl) hc79 hs80 (fun L_ w_ hc_ hu_ hs_ => e_load1 (ad := ⟨g5, 0 + 3, none⟩) (v := .slice A65 x4.args.length c66) Try.underlying72 rfl (by kernel_rfl) (blk_cells (hs_.1 _ _ (Y16 _ _ h69)) h70 3 _ rfl)) ?_; intro hc81 hs82
    refine xv (i := 10) (d := 25) rfl rfl rfl (by kernel_rfl) (by kernel_rfl) (fun _ _ => Iff.rfl) hc81 hs82 (fun L_ w_ hc_ hu_ hs_ => e_move (v := .pointer (some ⟨g8, 0, none⟩)) (by exact e20)) ?_; intro hc83 hs84
    refine xv (i := 11) (d := 26) rfl rfl rfl (by kernel_rfl) (by kernel_rfl) (fun _ _ => Iff.rfl) hc83 hs84 (fun L_ w_ hc_ hu_ hs_ => e_move (v := .pointer (some ⟨g11, 0, none⟩)) (by exact e21)) ?_; intro hc85 hs86
    refine xall [4, 12] (by kernel_rfl) (by decide) hc85 (List.forall_mem_cons.2 ⟨?_, List.forall_mem_cons.2 ⟨?_, fun _ h_ => by cases h_⟩⟩)
    · refine ye (i := 4) (d := 19) rfl rfl (wanted_none rfl _) (by kernel_rfl) (by kernel_rfl) (new_blk (v := fun g_ => .slice (some ⟨g_, 0, none⟩) 0 0) (cs := #[]) (t := 38) S55 (by kernel_rfl)) ?_
      rintro hc92 _ w87 ⟨g88, rfl, b89, S90, K91⟩
      replace b3 := K91.blk 0 rfl b3
      refine ⟨⟨S90.inv, trivial⟩, fun hs93 => ?_⟩
      have S94 := S90.unit
      have S95 := S94.pull (F := (is g88)) (Fr := [no, (is g2)]) 1 rfl rfl
      obtain ⟨h96, S97⟩ := row_lit (d := (node 74)) (xs := ([] : List Tm)) S95 b89 rfl (elsO_nil _ _ _ no) (Nat.le_of_ble_eq_true rfl)
      refine xall [9, 12] (by kernel_rfl) (by decide) hc92 (List.forall_mem_cons.2 ⟨?_, List.forall_mem_cons.2 ⟨?_, fun _ h_ => by cases h_⟩⟩)
      · obtain ⟨y98, h99, h100⟩ := Rd.news (d := (node 74)) (ro_node _) S97 (h72.ext Y16)
        obtain ⟨q101, M⟩ := chk M
        have S102 := S97.unit
        have S103 := S102.pull (F := (or2 (is g88) no)) (Fr := [no, (is g2)]) 1 rfl rfl
        refine ye (i := 9) (d := 24) rfl rfl (wanted_none rfl _) (by kernel_rfl) (by kernel_rfl) (e_append (d := (node 74)) (n := 0) (xs := ([] : List Tm)) (cap := 0) (A := (some ⟨g88, 0, none⟩)) (ys := x4.args) (A2 := A65) (c2 := c66) (z := .pointer none) (bytes := 8) S103 Try.underlying72 (by kernel_rfl) rfl (by decide) (by kernel_rfl) rfl (by kernel_rfl) h96 h99 h100 (show (0 + x4.args.length) * 8 ≤ _ by first | omega | (simp only [List.length_cons, List.length_nil]; omega)) (by decide)) ?_
        rintro hc111 _ w104 ⟨A105, c106, F107, rfl, h108, S109, K110⟩
        replace b3 := K110.blk 0 rfl b3
        refine ⟨⟨S109.inv, trivial⟩, fun hs112 => ?_⟩
        refine xone (i := 12) (by kernel_rfl) hc111 ?_
        refine ye (i := 12) (d := 27) rfl rfl (wanted_none rfl _) (by kernel_rfl) (by kernel_rfl) (new_blk (v := fun g_ => .slice (some ⟨g_, 0, none⟩) 2 2) (cs := #[.pointer (some ⟨g8, 0, none⟩), .pointer (some ⟨g11, 0, none⟩)]) (t := 38) S109 (by kernel_rfl)) ?_
        rintro hc118 _ w113 ⟨g114, rfl, b115, S116, K117⟩
        replace h108 := h108.move (K117.at 0 rfl)
        replace b3 := K117.blk 1 rfl b3
        refine ⟨⟨S116.inv, trivial⟩, fun hs119 => ?_⟩
        obtain ⟨q120, M⟩ := chk M
        have S121 := S116.pull (F := F107) (Fr := [(is g114), (is g2)]) 1 rfl rfl
        have S122 := S121.unit
        have S123 := S122.pull (F := F107) (Fr := [no, (is g114), (is g2)]) 1 rfl rfl
        refine xone (i := 13) (by kernel_rfl) hc118 ?_
        refine ye (i := 13) (d := 28) rfl rfl (wanted_none rfl _) (by kernel_rfl) (by kernel_rfl) (e_append (d := (node 74)) (n := (([] : List Tm) ++ x4.args).length) (xs := (([] : List Tm) ++ x4.args)) (cap := c106) (A := A105) (ys := [x7, x10]) (A2 := (some ⟨g114, 0, none⟩)) (c2 := 2) (z := .pointer none) (bytes := 8) S123 Try.underlying72 (by kernel_rfl) rfl (by decide) (by kernel_rfl) rfl (by kernel_rfl) h108 (elsO_no (d := (node 74)) ⟨_, rfl, (h9.ext' Y16)⟩ (elsO_no (d := (node 74)) ⟨_, rfl, (h12.ext' Y16)⟩ (elsO_nil _ _ _ no))) (.inr (blk_news b115 rfl)) (show ((([] : List Tm) ++ x4.args).length + [x7, x10].length) * 8 ≤ _ by first | omega | (simp only [List.length_cons, List.length_nil]; omega)) (by decide)) ?_
        rintro hc131 _ w124 ⟨A125, c126, F127, rfl, h128, S129, K130⟩
        replace b115 := K130.blk 0 rfl b115
        replace b3 := K130.blk 1 rfl b3
        refine ⟨⟨S129.inv, trivial⟩, fun hs132 => ?_⟩
        have l133 := h128.le
        obtain ⟨H134, S135, E136, h137, z138⟩ := S129.frzRow h128
        obtain ⟨t139, u140, M⟩ := bnd M
        refine xone (i := 14) (by kernel_rfl) hc131 ?_
        refine yc (i := 14) rfl (wanted_none rfl _) (by kernel_rfl) (by kernel_rfl) (e_call (l := [.tmp 18, .tmp 28]) (vs := [str x4.text, .slice A125 ((([] : List Tm) ++ x4.args) ++ [x7, x10]).length c126]) Try.func60 (by kernel_rfl) rfl (by kernel_rfl) rfl) (impl_comp.calls w124 H134 x4.text ((([] : List Tm) ++ x4.args) ++ [x7, x10]) A125 c126 h137 l133 (St.own' (Fa := []) (Fr := [(is g114), (is g2)]) S135) t139 u140) ?_
        rintro hc146 _ w141 ⟨g144, H142, rfl, h145, T143⟩
        refine ⟨_, rfl, ?_⟩
        obtain ⟨S147, K148⟩ := St.call (Fa := []) (Fr := [(is g114), (is g2)]) S135 T143
        replace b115 := K148.blk 0 rfl b115
        replace b3 := K148.blk 1 rfl b3
        have E149 := T143.ext
        refine ⟨⟨(Ext.trans (E136.trans E149) S147.inv), trivial⟩, fun hs150 => ?_⟩
        refine xone (i := 15) (by kernel_rfl) hc146 ?_
        refine yo (i := 15) (d := 8) rfl rfl (wanted_none rfl _) (by kernel_rfl) (by kernel_rfl) (fun _ _ => Iff.rfl) hs150 (e_assign (v := .pointer (some ⟨g144, 0, none⟩)) (by kernel_rfl)) ?_; intro hc151 hs152
        refine xn (by kernel_rfl) ?_ _
        have S153 := S147.pull (F := (is g2)) (Fr := [(is g114)]) 1 rfl rfl
        have S154 := St.first (Fa := [(is g2)]) (Fr := [(is g114)]) S153
        exact ⟨rfl, _, H142, t139, g144, rfl, (by kernel_rfl), b3, h145, (E136.trans E149), S154, M⟩
      refine ye (i := 12) (d := 27) rfl rfl (wanted_none rfl _) (by kernel_rfl) (by kernel_rfl) (new_blk (v := fun g_ => .slice (some ⟨g_, 0, none⟩) 2 2) (cs := #[.pointer (some ⟨g8, 0, none⟩), .pointer (some ⟨g11, 0, none⟩)]) (t := 38) S97 (by kernel_rfl)) ?_
      rintro hc160 _ w155 ⟨g156, rfl, b157, S158, K159⟩
      replace h96 := h96.move (K159.at 0 rfl)
      replace b3 := K159.blk 1 rfl b3
      refine ⟨⟨S158.inv, trivial⟩, fun hs161 => ?_⟩
      obtain ⟨y162, h163, h164⟩ := Rd.news (d := (node 74)) (ro_node _) S158 (h72.ext Y16)
      obtain ⟨q165, M⟩ := chk M
      have S166 := S158.pull (F := (or2 (is g88) no)) (Fr := [(is g156), (is g2)]) 1 rfl rfl
      have S167 := S166.unit
      have S168 := S167.pull (F := (or2 (is g88) no)) (Fr := [no, (is g156), (is g2)]) 1 rfl rfl
      refine xone (i := 9) (by kernel_rfl) hc160 ?_
      refine ye (i := 9) (d := 24) rfl rfl (wanted_none rfl _) (by kernel_rfl) (by kernel_rfl) (e_append (d := (node 74)) (n := 0) (xs := ([] : List Tm)) (cap := 0) (A := (some ⟨g88, 0, none⟩)) (ys := x4.args) (A2 := A65) (c2 := c66) (z := .pointer none) (bytes := 8) S168 Try.underlying72 (by kernel_rfl) rfl (by decide) (by kernel_rfl) rfl (by kernel_rfl) h96 h163 h164 (show (0 + x4.args.length) * 8 ≤ _ by first | omega | (simp only [List.length_cons, List.length_nil]; omega)) (by decide)) ?_
      rintro hc176 _ w169 ⟨A170, c171, F172, rfl, h173, S174, K175⟩
      replace b157 := K175.blk 0 rfl b157
      replace b3 := K175.blk 1 rfl b3
      refine ⟨⟨S174.inv, trivial⟩, fun hs177 => ?_⟩
      obtain ⟨q178, M⟩ := chk M
      have S179 := S174.unit
      have S180 := S179.pull (F := F172) (Fr := [no, (is g156), (is g2)]) 1 rfl rfl
      refine xone (i := 13) (by kernel_rfl) hc176 ?_
      refine ye (i := 13) (d := 28) rfl rfl (wanted_none rfl _) (by kernel_rfl) (by kernel_rfl) (e_append (d := (node 74)) (n := (([] : List Tm) ++ x4.args).length) (xs := (([] : List Tm) ++ x4.args)) (cap := c171) (A := A170) (ys := [x7, x10]) (A2 := (some ⟨g156, 0, none⟩)) (c2 := 2) (z := .pointer none) (bytes := 8) S180 Try.underlying72 (by kernel_rfl) rfl (by decide) (by kernel_rfl) rfl (by kernel_rfl) h173 (elsO_no (d := (node 74)) ⟨_, rfl, (h9.ext' Y16)⟩ (elsO_no (d := (node 74)) ⟨_, rfl, (h12.ext' Y16)⟩ (elsO_nil _ _ _ no))) (.inr (blk_news b157 rfl)) (show ((([] : List Tm) ++ x4.args).length + [x7, x10].length) * 8 ≤ _ by first | omega | (simp only [List.length_cons, List.length_nil]; omega)) (by decide)) ?_
      rintro hc188 _ w181 ⟨A182, c183, F184, rfl, h185, S186, K187⟩
      replace b157 := K187.blk 0 rfl b157
      replace b3 := K187.blk 1 rfl b3
      refine ⟨⟨S186.inv, trivial⟩, fun hs189 => ?_⟩
      have l190 := h185.le
      obtain ⟨H191, S192, E193, h194, z195⟩ := S186.frzRow h185
      obtain ⟨t196, u197, M⟩ := bnd M
      refine xone (i := 14) (by kernel_rfl) hc188 ?_
      refine yc (i := 14) rfl (wanted_none rfl _) (by kernel_rfl) (by kernel_rfl) (e_call (l := [.tmp 18, .tmp 28]) (vs := [str x4.text, .slice A182 ((([] : List Tm) ++ x4.args) ++ [x7, x10]).length c183]) Try.func60 (by kernel_rfl) rfl (by kernel_rfl) rfl) (impl_comp.calls w181 H191 x4.text ((([] : List Tm) ++ x4.args) ++ [x7, x10]) A182 c183 h194 l190 (St.own' (Fa := []) (Fr := [(is g156), (is g2)]) S192) t196 u197) ?_
      rintro hc203 _ w198 ⟨g201, H199, rfl, h202, T200⟩
      refine ⟨_, rfl, ?_⟩
      obtain ⟨S204, K205⟩ := St.call (Fa := []) (Fr := [(is g156), (is g2)]) S192 T200
      replace b157 := K205.blk 0 rfl b157
      replace b3 := K205.blk 1 rfl b3
      have E206 := T200.ext
      refine ⟨⟨(Ext.trans (E193.trans E206) S204.inv), trivial⟩, fun hs207 => ?_⟩
      refine xone (i := 15) (by kernel_rfl) hc203 ?_
      refine yo (i := 15) (d := 8) rfl rfl (wanted_none rfl _) (by kernel_rfl) (by kernel_rfl) (fun _ _ => Iff.rfl) hs207 (e_assign (v := .pointer (some ⟨g201, 0, none⟩)) (by kernel_rfl)) ?_; intro hc208 hs209
      refine xn (by kernel_rfl) ?_ _
      have S210 := S204.pull (F := (is g2)) (Fr := [(is g156)]) 1 rfl rfl
      have S211 := St.first (Fa := [(is g2)]) (Fr := [(is g156)]) S210
      exact ⟨rfl, _, H199, t196, g201, rfl, (by kernel_rfl), b3, h202, (E193.trans E206), S211, M⟩
    refine ye (i := 12) (d := 27) rfl rfl (wanted_none rfl _) (by kernel_rfl) (by kernel_rfl) (new_blk (v := fun g_ => .slice (some ⟨g_, 0, none⟩) 2 2) (cs := #[.pointer (some ⟨g8, 0, none⟩), .pointer (some ⟨g11, 0, none⟩)]) (t := 38) S55 (by kernel_rfl)) ?_
    rintro hc217 _ w212 ⟨g213, rfl, b214, S215, K216⟩
    replace b3 := K216.blk 0 rfl b3
    refine ⟨⟨S215.inv, trivial⟩, fun hs218 => ?_⟩
    refine xone (i := 4) (by kernel_rfl) hc217 ?_
    refine ye (i := 4) (d := 19) rfl rfl (wanted_none rfl _) (by kernel_rfl) (by kernel_rfl) (new_blk (v := fun g_ => .slice (some ⟨g_, 0, none⟩) 0 0) (cs := #[]) (t := 38) S215 (by kernel_rfl)) ?_
    rintro hc224 _ w219 ⟨g220, rfl, b221, S222, K223⟩
    replace b214 := K223.blk 0 rfl b214
    replace b3 := K223.blk 1 rfl b3
    refine ⟨⟨S222.inv, trivial⟩, fun hs225 => ?_⟩
    have S226 := S222.unit
    have S227 := S226.pull (F := (is g220)) (Fr := [no, (is g213), (is g2)]) 1 rfl rfl
    obtain ⟨h228, S229⟩ := row_lit (d := (node 74)) (xs := ([] : List Tm)) S227 b221 rfl (elsO_nil _ _ _ no) (Nat.le_of_ble_eq_true rfl)
    obtain ⟨y230, h231, h232⟩ := Rd.news (d := (node 74)) (ro_node _) S229 (h72.ext Y16)
    obtain ⟨q233, M⟩ := chk M
    have S234 := S229.unit
    have S235 := S234.pull (F := (or2 (is g220) no)) (Fr := [no, (is g213), (is g2)]) 1 rfl rfl
    refine xone (i := 9) (by kernel_rfl) hc224 ?_
    refine ye (i := 9) (d := 24) rfl rfl (wanted_none rfl _) (by kernel_rfl) (by kernel_rfl) (e_append (d := (node 74)) (n := 0) (xs := ([] : List Tm)) (cap := 0) (A := (some ⟨g220, 0, none⟩)) (ys := x4.args) (A2 := A65) (c2 := c66) (z := .pointer none) (bytes := 8) S235 Try.underlying72 (by kernel_rfl) rfl (by decide) (by kernel_rfl) rfl (by kernel_rfl) h228 h231 h232 (show (0 + x4.args.length) * 8 ≤ _ by first | omega | (simp only [List.length_cons, List.length_nil]; omega)) (by decide)) ?_
    rintro hc243 _ w236 ⟨A237, c238, F239, rfl, h240, S241, K242⟩
    replace b214 := K242.blk 0 rfl b214
    replace b3 := K242.blk 1 rfl b3
    refine ⟨⟨S241.inv, trivial⟩, fun hs244 => ?_⟩
    obtain ⟨q245, M⟩ := chk M
    have S246 := S241.unit
    have S247 := S246.pull (F := F239) (Fr := [no, (is g213), (is g2)]) 1 rfl rfl
    refine xone (i := 13) (by kernel_rfl) hc243 ?_
    refine ye (i := 13) (d := 28) rfl rfl (wanted_none rfl _) (by kernel_rfl) (by kernel_rfl) (e_append (d := (node 74)) (n := (([] : List Tm) ++ x4.args).length) (xs := (([] : List Tm) ++ x4.args)) (cap := c238) (A := A237) (ys := [x7, x10]) (A2 := (some ⟨g213, 0, none⟩)) (c2 := 2) (z := .pointer none) (bytes := 8) S247 Try.underlying72 (by kernel_rfl) rfl (by decide) (by kernel_rfl) rfl (by kernel_rfl) h240 (elsO_no (d := (node 74)) ⟨_, rfl, (h9.ext' Y16)⟩ (elsO_no (d := (node 74)) ⟨_, rfl, (h12.ext' Y16)⟩ (elsO_nil _ _ _ no))) (.inr (blk_news b214 rfl)) (show ((([] : List Tm) ++ x4.args).length + [x7, x10].length) * 8 ≤ _ by first | omega | (simp only [List.length_cons, List.length_nil]; omega)) (by decide)) ?_
    rintro hc255 _ w248 ⟨A249, c250, F251, rfl, h252, S253, K254⟩
    replace b214 := K254.blk 0 rfl b214
    replace b3 := K254.blk 1 rfl b3
    refine ⟨⟨S253.inv, trivial⟩, fun hs256 => ?_⟩
    have l257 := h252.le
    obtain ⟨H258, S259, E260, h261, z262⟩ := S253.frzRow h252
    obtain ⟨t263, u264, M⟩ := bnd M
    refine xone (i := 14) (by kernel_rfl) hc255 ?_
    refine yc (i := 14) rfl (wanted_none rfl _) (by kernel_rfl) (by kernel_rfl) (e_call (l := [.tmp 18, .tmp 28]) (vs := [str x4.text, .slice A249 ((([] : List Tm) ++ x4.args) ++ [x7, x10]).length c250]) Try.func60 (by kernel_rfl) rfl (by kernel_rfl) rfl) (impl_comp.calls w248 H258 x4.text ((([] : List Tm) ++ x4.args) ++ [x7, x10]) A249 c250 h261 l257 (St.own' (Fa := []) (Fr := [(is g213), (is g2)]) S259) t263 u264) ?_
    rintro hc270 _ w265 ⟨g268, H266, rfl, h269, T267⟩
    refine ⟨_, rfl, ?_⟩
    obtain ⟨S271, K272⟩ := St.call (Fa := []) (Fr := [(is g213), (is g2)]) S259 T267
    replace b214 := K272.blk 0 rfl b214
    replace b3 := K272.blk 1 rfl b3
    have E273 := T267.ext
    refine ⟨⟨(Ext.trans (E260.trans E273) S271.inv), trivial⟩, fun hs274 => ?_⟩
    refine xone (i := 15) (by kernel_rfl) hc270 ?_
    refine yo (i := 15) (d := 8) rfl rfl (wanted_none rfl _) (by kernel_rfl) (by kernel_rfl) (fun _ _ => Iff.rfl) hs274 (e_assign (v := .pointer (some ⟨g268, 0, none⟩)) (by kernel_rfl)) ?_; intro hc275 hs276
    refine xn (by kernel_rfl) ?_ _
    have S277 := S271.pull (F := (is g2)) (Fr := [(is g213)]) 1 rfl rfl
    have S278 := St.first (Fa := [(is g2)]) (Fr := [(is g213)]) S277
    exact ⟨rfl, _, H266, t263, g268, rfl, (by kernel_rfl), b3, h269, (E260.trans E273), S278, M⟩
  clear M
  rintro a53 w42 ⟨f43, H44, x46, g47, rfl, e49, b3, h48, Y45, S50, M⟩
  rw [impl_grammar_more.l1] at M
  refine then_n ?_
  refine wp_ret ?_
  obtain rfl := Option.some.inj M
  exact ret1 rfl rfl  (show _ = .pointer (some ⟨g47, 0, none⟩) from (by exact e49)) ⟨g47, H44, rfl, b3, h48, S50⟩

/-! impl_grammar_body_c1 -/
def impl_grammar_body_c1.f (x1 : Tm) (x4 : Tm) : Option Tm := ((impl_comp.f ([61] : List UInt8) [x4, x1]).bind fun t24 => some t24)
theorem impl_grammar_body_c1.calls (w : World) (H : Hp) (x1 : Tm) (g2 : Nat) (x4 : Tm) (g5 : Nat) (g7 : Nat) (h3 : NodeR 74 H x1 (.pointer (some ⟨g2, 0, none⟩))) (h8 : NodeR 74 H x4 (.pointer (some ⟨g7, 0, none⟩))) (b6 : w.heap[g5]? = some (.cells #[.pointer (some ⟨g7, 0, none⟩)] 38 (0, 0))) (S : Own [(is g5)] H w) (r : Tm) (M : impl_grammar_body_c1.f x1 x4 = some r) :
    Calls Try.prog 71 #[.pointer (some ⟨g2, 0, none⟩), .pointer (some ⟨g5, 0, none⟩)] w (fun e e_w => ∃ (g_1 : Nat) (H_ : Hp), e = .returned (.pointer (some ⟨g_1, 0, none⟩)) ∧ e_w.heap[g5]? = some (.cells #[.pointer (some ⟨g7, 0, none⟩)] 38 (0, 0)) ∧ NodeR 74 H_ r (.pointer (some ⟨g_1, 0, none⟩)) ∧ St (anyOf [(is g5)]) H w [(is g5)] H_ e_w) := by
  rw [impl_grammar_body_c1.f] at M
  refine enter (l := [.pointer (some ⟨g2, 0, none⟩), .pointer (some ⟨g5, 0, none⟩)]) 8 Try.func71 rfl rfl rfl ?_
  have S0_ := S.st
  refine wp_seq ?_
  refine wp_region_lit ?_
  refine lv (d := 3) rfl rfl (by kernel_rfl) (e_assign (v := .pointer none) rfl) ?_
  refine wpList_nil ?_
  refine then_n ?_
  refine wp_seq ?_
  refine wp_region_lit ?_
  refine lv (d := 4) rfl rfl (by kernel_rfl) (e_load1 (ad := ⟨g5, 0, none⟩) (v := .pointer (some ⟨g7, 0, none⟩)) Try.underlying38 rfl (by kernel_rfl) (blk_cell b6 rfl)) ?_
  refine lv (d := 5) rfl rfl (by kernel_rfl) (e_move (v := .pointer (some ⟨g2, 0, none⟩)) (by kernel_rfl)) ?_
  refine lve (d := 6) rfl rfl (by kernel_rfl) (new_blk (v := fun g_ => .slice (some ⟨g_, 0, none⟩) 2 2) (cs := #[.pointer (some ⟨g7, 0, none⟩), .pointer (some ⟨g2, 0, none⟩)]) (t := 38) S0_ (by kernel_rfl)) ?_
  rintro _ w9 ⟨g10, rfl, b11, S12, K13⟩
  replace b6 := K13.blk 0 rfl b6
  have S14 := S12.unit
  have S15 := S14.pull (F := (is g10)) (Fr := [no, (is g5)]) 1 rfl rfl
  obtain ⟨h16, S17⟩ := row_lit (d := (node 74)) (xs := [x4, x1]) S15 b11 rfl (elsO_no (d := (node 74)) ⟨_, rfl, h8⟩ (elsO_no (d := (node 74)) ⟨_, rfl, h3⟩ (elsO_nil _ _ _ no))) (Nat.le_of_ble_eq_true rfl)
  have l18 := h16.le
  obtain ⟨H19, S20, E21, h22, z23⟩ := S17.frzRow h16
  obtain ⟨t24, u25, M⟩ := bnd M
  refine lcall (d := 7) rfl rfl (by kernel_rfl) (e_call (l := [.const (str ([61] : List UInt8)), .tmp 6]) (vs := [str ([61] : List UInt8), .slice (some ⟨g10, 0, none⟩) 2 2]) Try.func60 (by kernel_rfl) rfl (by kernel_rfl) rfl) (impl_comp.calls w9 H19 ([61] : List UInt8) [x4, x1] (some ⟨g10, 0, none⟩) 2 h22 l18 (St.own' (Fa := []) (Fr := [(is g5)]) S20) t24 u25) ?_
  rintro _ w26 ⟨g29, H27, rfl, h30, T28⟩
  refine ⟨_, rfl, ?_⟩
  obtain ⟨S31, K32⟩ := St.call (Fa := []) (Fr := [(is g5)]) S20 T28
  replace b6 := K32.blk 0 rfl b6
  have E33 := T28.ext
  refine lv (d := 3) rfl rfl (by kernel_rfl) (e_assign (v := .pointer (some ⟨g29, 0, none⟩)) (by kernel_rfl)) ?_
  refine wpList_nil ?_
  refine then_n ?_
  refine wp_ret ?_
  obtain rfl := Option.some.inj M
  exact ret1 rfl rfl  (show _ = .pointer (some ⟨g29, 0, none⟩) from (by kernel_rfl)) ⟨g29, H27, rfl, b6, h30, S31⟩
end Go.Proofs.Ytmmjeppmglmefaa
