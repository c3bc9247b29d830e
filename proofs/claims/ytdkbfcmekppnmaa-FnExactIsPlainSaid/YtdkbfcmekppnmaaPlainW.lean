import Derived.Test.YtdkbfcmekppnmaaProg
import Derived.Test.YtdkbfcmekppnmaaMore4
namespace Go.Proofs.Ytdkbfcmekppnmaa
open Go.Sx
attribute [local irreducible] Go.wpList Go.wpStill Go.wpQuiet Go.Code.wp
set_option maxRecDepth 100000
set_option maxHeartbeats 1000000
set_option linter.unusedVariables false
set_option linter.unusedSimpArgs false

/-! spec.l1small -/
def spec_l1small.f (x1 : UInt8) : Option Bool := (if (x1.toNat : Int) ≥ 97 then some (decide ((x1.toNat : Int) ≤ 122)) else some false)
theorem spec_l1small.calls (w : World) (x1 : UInt8) (r : Bool) (H : spec_l1small.f x1 = some r) :
    Calls Try.prog 16 #[.int .u8 (x1.toNat : Int)] w (fun e e_w => e = .returned (.bool r) ∧ Chg [] w e_w) := by
  rw [spec_l1small.f] at H
  refine enter (l := [.int .u8 (x1.toNat : Int)]) 9 Try.func16 rfl rfl rfl ?_
  have hC := Chg.refl [] w
  refine wp_seq ?_
  refine wp_region_lit ?_
  refine lv (d := 2) rfl rfl (by kernel_rfl) (e_assign (v := .bool false) rfl) ?_
  refine wpList_nil ?_
  refine then_n ?_
  refine wp_seq ?_
  refine wp_region_lit ?_
  refine lv (d := 3) rfl rfl (by kernel_rfl) (e_move (v := .int .u8 (x1.toNat : Int)) (by kernel_rfl)) ?_
  refine lv (d := 4) rfl rfl (by kernel_rfl) (e_geq (k := .u8) (a := (x1.toNat : Int)) (b := 97) (by kernel_rfl) rfl) ?_
  refine lv (d := 5) rfl rfl (by kernel_rfl) (e_move (v := .bool (decide ((x1.toNat : Int) ≥ 97))) (by kernel_rfl)) ?_
  by_cases q2 : (x1.toNat : Int) ≥ 97
  · replace H := ifp q2 H
    refine lvg (d := 6) (t := 5) rfl (by kernel_rfl) rfl (bt q2 (by kernel_rfl)) rfl (by kernel_rfl) (e_move (v := .int .u8 (x1.toNat : Int)) (by kernel_rfl)) ?_
    refine lvg (d := 7) (t := 5) rfl (by kernel_rfl) rfl (bt q2 (by kernel_rfl)) rfl (by kernel_rfl) (e_leq (k := .u8) (a := (x1.toNat : Int)) (b := 122) (by kernel_rfl) rfl) ?_
    refine lv (d := 8) rfl rfl (by kernel_rfl) (e_pick_t (v := .bool (decide ((x1.toNat : Int) ≤ 122))) (bt q2 (by kernel_rfl)) (by kernel_rfl)) ?_
    refine lv (d := 2) rfl rfl (by kernel_rfl) (e_assign (v := .bool (decide ((x1.toNat : Int) ≤ 122))) (by kernel_rfl)) ?_
    refine wpList_nil ?_
    refine then_n ?_
    refine wp_ret ?_
    obtain rfl := Option.some.inj H
    exact ret1 (rfl) rfl  (show _ = .bool (decide ((x1.toNat : Int) ≤ 122)) from (by kernel_rfl)) ⟨rfl, hC⟩
  replace H := ifn q2 H
  refine lskip (t := 5) (c := false) rfl (by kernel_rfl) rfl (bf q2 (by kernel_rfl)) rfl rfl ?_
  refine lskip (t := 5) (c := false) rfl (by kernel_rfl) rfl (bf q2 (by kernel_rfl)) rfl rfl ?_
  refine lv (d := 8) rfl rfl (by kernel_rfl) (e_pick_f (v := .bool false) (bf q2 (by kernel_rfl)) rfl) ?_
  refine lv (d := 2) rfl rfl (by kernel_rfl) (e_assign (v := .bool false) (by kernel_rfl)) ?_
  refine wpList_nil ?_
  refine then_n ?_
  refine wp_ret ?_
  obtain rfl := Option.some.inj H
  exact ret1 (rfl) rfl  (show _ = .bool false from (by kernel_rfl)) ⟨rfl, hC⟩

/-! spec.l1symbol -/
def spec_l1symbol.l0 : Nat → UInt8 → Int → Option Bool
  | 0, _, _ => none
  | k11 + 1, x1, x6 => (if x6 < (([43, 45, 42, 47, 92, 94, 60, 62, 61, 126, 58, 46, 63, 64, 35, 38, 36] : List UInt8).length : Int) then (if 0 ≤ x6 then (if ((([43, 45, 42, 47, 92, 94, 60, 62, 61, 126, 58, 46, 63, 64, 35, 38, 36] : List UInt8).getD (x6 : Int).toNat (0 : UInt8)).toNat : Int) = (x1.toNat : Int) then some true else (spec_l1symbol.l0 k11 x1 (IntKind.i64.wrap (x6 + 1)))) else none) else some false)
def spec_l1symbol.f (k : Nat) (x1 : UInt8) : Option Bool := (spec_l1symbol.l0 k x1 0)
theorem spec_l1symbol.calls (k : Nat) (w : World) (x1 : UInt8) (r : Bool) (H : spec_l1symbol.f k x1 = some r) :
    Calls Try.prog 25 #[.int .u8 (x1.toNat : Int)] w (fun e e_w => e = .returned (.bool r) ∧ Chg [] w e_w) := by
  rw [spec_l1symbol.f] at H
  refine enter (l := [.int .u8 (x1.toNat : Int)]) 16 Try.func25 rfl rfl rfl ?_
  have hC := Chg.refl [] w
  refine wp_seq ?_
  refine wp_region_lit ?_
  refine lv (d := 2) rfl rfl (by kernel_rfl) (e_assign (v := .bool false) rfl) ?_
  refine wpList_nil ?_
  refine then_n ?_
  refine wp_seq ?_
  refine wp_region_lit ?_
  refine lv (d := 3) rfl rfl (by kernel_rfl) (e_assign (v := str ([43, 45, 42, 47, 92, 94, 60, 62, 61, 126, 58, 46, 63, 64, 35, 38, 36] : List UInt8)) rfl) ?_
  refine wpList_nil ?_
  refine then_n ?_
  refine wp_seq ?_
  refine wp_seq ?_
  refine wp_region_lit ?_
  refine lv (d := 4) rfl rfl (by kernel_rfl) (e_assign (v := .int .i64 0) rfl) ?_
  refine wpList_nil ?_
  refine then_n ?_
  refine wp_block ?_
  refine wp_loop_g (fun k9 a10 w2 => ∃ (f3 : Nat → Value) (x6 : Int), a10 = mk 16 f3 ∧ f3 0 = .int .u8 (x1.toNat : Int) ∧ f3 3 = str ([43, 45, 42, 47, 92, 94, 60, 62, 61, 126, 58, 46, 63, 64, 35, 38, 36] : List UInt8) ∧ f3 4 = .int .i64 x6 ∧ Chg [] w w2 ∧ w.heap.size ≤ w2.heap.size ∧ spec_l1symbol.l0 k9 x1 x6 = some r) k ⟨_, 0, rfl, (by kernel_rfl), (by kernel_rfl), (by kernel_rfl), hC, (by omega), H⟩ ?_
  rintro k9 a10 w2 ⟨f3, x6, rfl, e4, e5, e7, hC, z8, H⟩
  rcases k9 with _ | k11
  · rw [spec_l1symbol.l0] at H
    cases H
  rw [spec_l1symbol.l0] at H
  refine wp_seq ?_
  refine wp_seq ?_
  refine wp_region_lit ?_
  refine lv (d := 5) rfl rfl (by kernel_rfl) (e_move (v := .int .i64 x6) (by exact e7)) ?_
  refine lv (d := 6) rfl rfl (by kernel_rfl) (e_move (v := str ([43, 45, 42, 47, 92, 94, 60, 62, 61, 126, 58, 46, 63, 64, 35, 38, 36] : List UInt8)) (by exact e5)) ?_
  refine lv (d := 7) rfl rfl (by kernel_rfl) (e_slen (p := ([43, 45, 42, 47, 92, 94, 60, 62, 61, 126, 58, 46, 63, 64, 35, 38, 36] : List UInt8)) Try.underlying9 (by kernel_rfl)) ?_
  refine lv (d := 8) rfl rfl (by kernel_rfl) (e_lss (k := .i64) (a := x6) (b := (([43, 45, 42, 47, 92, 94, 60, 62, 61, 126, 58, 46, 63, 64, 35, 38, 36] : List UInt8).length : Int)) (by kernel_rfl) (by kernel_rfl)) ?_
  refine wpList_nil ?_
  refine then_n ?_
  by_cases q12 : x6 < (([43, 45, 42, 47, 92, 94, 60, 62, 61, 126, 58, 46, 63, 64, 35, 38, 36] : List UInt8).length : Int)
  · replace H := ifp q12 H
    refine cond_t rfl (bt q12 (by kernel_rfl)) ?_
    refine wp_skip ?_
    refine then_n ?_
    refine wp_seq ?_
    refine wp_block ?_
    refine wp_seq ?_
    refine wp_region_lit ?_
    refine lv (d := 11) rfl rfl (by kernel_rfl) (e_move (v := str ([43, 45, 42, 47, 92, 94, 60, 62, 61, 126, 58, 46, 63, 64, 35, 38, 36] : List UInt8)) (by exact e5)) ?_
    refine lv (d := 12) rfl rfl (by kernel_rfl) (e_move (v := .int .i64 x6) (by exact e7)) ?_
    obtain ⟨q13, H⟩ := chk H
    refine lv (d := 13) rfl rfl (by kernel_rfl) (e_sindex (p := ([43, 45, 42, 47, 92, 94, 60, 62, 61, 126, 58, 46, 63, 64, 35, 38, 36] : List UInt8)) (i := x6) (k := .i64) Try.underlying9 (by kernel_rfl) (by kernel_rfl) q13 q12) ?_
    refine lv (d := 14) rfl rfl (by kernel_rfl) (e_move (v := .int .u8 (x1.toNat : Int)) (by exact e4)) ?_
    refine lv (d := 15) rfl rfl (by kernel_rfl) (e_eql (k := .u8) (a := ((([43, 45, 42, 47, 92, 94, 60, 62, 61, 126, 58, 46, 63, 64, 35, 38, 36] : List UInt8).getD (x6 : Int).toNat (0 : UInt8)).toNat : Int)) (b := (x1.toNat : Int)) (by kernel_rfl) (by kernel_rfl)) ?_
    refine wpList_nil ?_
    refine then_n ?_
    by_cases q14 : ((([43, 45, 42, 47, 92, 94, 60, 62, 61, 126, 58, 46, 63, 64, 35, 38, 36] : List UInt8).getD (x6 : Int).toNat (0 : UInt8)).toNat : Int) = (x1.toNat : Int)
    · replace H := ifp q14 H
      refine cond_t rfl (bt q14 (by kernel_rfl)) ?_
      refine wp_seq ?_
      refine wp_region_lit ?_
      refine lv (d := 2) rfl rfl (by kernel_rfl) (e_assign (v := .bool true) rfl) ?_
      refine wpList_nil ?_
      refine then_n ?_
      refine wp_ret ?_
      refine inb_r ?_
      refine then_r ?_
      refine then_r ?_
      refine inb_r ?_
      refine then_r ?_
      obtain rfl := Option.some.inj H
      exact ret1 (rfl) rfl  (show _ = .bool true from (by kernel_rfl)) ⟨rfl, hC⟩
    replace H := ifn q14 H
    refine cond_f rfl (bf q14 (by kernel_rfl)) ?_
    refine wp_skip ?_
    refine inb_n ?_
    refine then_n ?_
    refine wp_region_lit ?_
    refine lv (d := 9) rfl rfl (by kernel_rfl) (e_move (v := .int .i64 x6) (by exact e7)) ?_
    refine lv (d := 10) rfl rfl (by kernel_rfl) (e_add (k := .i64) (a := x6) (b := 1) (by kernel_rfl) rfl) ?_
    refine lv (d := 4) rfl rfl (by kernel_rfl) (e_assign (v := .int .i64 (IntKind.i64.wrap (x6 + 1))) (by kernel_rfl)) ?_
    refine wpList_nil ?_
    refine then_n ?_
    exact ⟨k11, Nat.lt_succ_self _, _, (IntKind.i64.wrap (x6 + 1)), rfl, (by exact e4), (by exact e5), (by kernel_rfl), hC, (by omega), H⟩
  replace H := ifn q12 H
  refine cond_f rfl (bf q12 (by kernel_rfl)) ?_
  refine wp_exit ?_
  refine then_e ?_
  refine then_e ?_
  refine inb_hit ?_
  refine then_n ?_
  refine wp_seq ?_
  refine wp_region_lit ?_
  refine lv (d := 2) rfl rfl (by kernel_rfl) (e_assign (v := .bool false) rfl) ?_
  refine wpList_nil ?_
  refine then_n ?_
  refine wp_ret ?_
  obtain rfl := Option.some.inj H
  exact ret1 (rfl) rfl  (show _ = .bool false from (by kernel_rfl)) ⟨rfl, hC⟩

/-! spec.l1digit -/
def spec_l1digit.f (x1 : UInt8) : Option Bool := (if (x1.toNat : Int) ≥ 48 then some (decide ((x1.toNat : Int) ≤ 57)) else some false)
theorem spec_l1digit.calls (w : World) (x1 : UInt8) (r : Bool) (H : spec_l1digit.f x1 = some r) :
    Calls Try.prog 31 #[.int .u8 (x1.toNat : Int)] w (fun e e_w => e = .returned (.bool r) ∧ Chg [] w e_w) := by
  rw [spec_l1digit.f] at H
  refine enter (l := [.int .u8 (x1.toNat : Int)]) 9 Try.func31 rfl rfl rfl ?_
  have hC := Chg.refl [] w
  refine wp_seq ?_
  refine wp_region_lit ?_
  refine lv (d := 2) rfl rfl (by kernel_rfl) (e_assign (v := .bool false) rfl) ?_
  refine wpList_nil ?_
  refine then_n ?_
  refine wp_seq ?_
  refine wp_region_lit ?_
  refine lv (d := 3) rfl rfl (by kernel_rfl) (e_move (v := .int .u8 (x1.toNat : Int)) (by kernel_rfl)) ?_
  refine lv (d := 4) rfl rfl (by kernel_rfl) (e_geq (k := .u8) (a := (x1.toNat : Int)) (b := 48) (by kernel_rfl) rfl) ?_
  refine lv (d := 5) rfl rfl (by kernel_rfl) (e_move (v := .bool (decide ((x1.toNat : Int) ≥ 48))) (by kernel_rfl)) ?_
  by_cases q2 : (x1.toNat : Int) ≥ 48
  · replace H := ifp q2 H
    refine lvg (d := 6) (t := 5) rfl (by kernel_rfl) rfl (bt q2 (by kernel_rfl)) rfl (by kernel_rfl) (e_move (v := .int .u8 (x1.toNat : Int)) (by kernel_rfl)) ?_
    refine lvg (d := 7) (t := 5) rfl (by kernel_rfl) rfl (bt q2 (by kernel_rfl)) rfl (by kernel_rfl) (e_leq (k := .u8) (a := (x1.toNat : Int)) (b := 57) (by kernel_rfl) rfl) ?_
    refine lv (d := 8) rfl rfl (by kernel_rfl) (e_pick_t (v := .bool (decide ((x1.toNat : Int) ≤ 57))) (bt q2 (by kernel_rfl)) (by kernel_rfl)) ?_
    refine lv (d := 2) rfl rfl (by kernel_rfl) (e_assign (v := .bool (decide ((x1.toNat : Int) ≤ 57))) (by kernel_rfl)) ?_
    refine wpList_nil ?_
    refine then_n ?_
    refine wp_ret ?_
    obtain rfl := Option.some.inj H
    exact ret1 (rfl) rfl  (show _ = .bool (decide ((x1.toNat : Int) ≤ 57)) from (by kernel_rfl)) ⟨rfl, hC⟩
  replace H := ifn q2 H
  refine lskip (t := 5) (c := false) rfl (by kernel_rfl) rfl (bf q2 (by kernel_rfl)) rfl rfl ?_
  refine lskip (t := 5) (c := false) rfl (by kernel_rfl) rfl (bf q2 (by kernel_rfl)) rfl rfl ?_
  refine lv (d := 8) rfl rfl (by kernel_rfl) (e_pick_f (v := .bool false) (bf q2 (by kernel_rfl)) rfl) ?_
  refine lv (d := 2) rfl rfl (by kernel_rfl) (e_assign (v := .bool false) (by kernel_rfl)) ?_
  refine wpList_nil ?_
  refine then_n ?_
  refine wp_ret ?_
  obtain rfl := Option.some.inj H
  exact ret1 (rfl) rfl  (show _ = .bool false from (by kernel_rfl)) ⟨rfl, hC⟩

/-! spec.l1alnum -/
def spec_l1alnum.f (x1 : UInt8) : Option Bool := ((spec_l1small.f x1).bind fun t2 => (if t2 = true then some true else (if (x1.toNat : Int) ≥ 65 then (if (x1.toNat : Int) ≤ 90 then some true else (if (x1.toNat : Int) = 95 then some true else ((spec_l1digit.f x1).bind fun t12 => some t12))) else (if (x1.toNat : Int) = 95 then some true else ((spec_l1digit.f x1).bind fun t19 => some t19)))))
theorem spec_l1alnum.calls (w : World) (x1 : UInt8) (r : Bool) (H : spec_l1alnum.f x1 = some r) :
    Calls Try.prog 26 #[.int .u8 (x1.toNat : Int)] w (fun e e_w => e = .returned (.bool r) ∧ Chg [] w e_w) := by
  rw [spec_l1alnum.f] at H
  refine enter (l := [.int .u8 (x1.toNat : Int)]) 21 Try.func26 rfl rfl rfl ?_
  have hC := Chg.refl [] w
  refine wp_seq ?_
  refine wp_region_lit ?_
  refine lv (d := 2) rfl rfl (by kernel_rfl) (e_assign (v := .bool false) rfl) ?_
  refine wpList_nil ?_
  refine then_n ?_
  refine wp_seq ?_
  refine wp_region_lit ?_
  refine lv (d := 3) rfl rfl (by kernel_rfl) (e_move (v := .int .u8 (x1.toNat : Int)) (by kernel_rfl)) ?_
  obtain ⟨t2, u3, H⟩ := bnd H
  refine lcall (d := 4) rfl rfl (by kernel_rfl) (e_call (l := [.tmp 3]) (vs := [.int .u8 (x1.toNat : Int)]) Try.func16 (by kernel_rfl) rfl (by kernel_rfl) rfl) (spec_l1small.calls w x1  t2 u3) ?_
  rintro _ w4 ⟨rfl, C5⟩
  refine ⟨_, rfl, ?_⟩
  have u6 : Lt [] w.heap.size := (Lt.nil _)
  have z7 := C5.size
  replace hC := hC.step C5 (fun _ h_ => by cases h_)
  refine lv (d := 5) rfl rfl (by kernel_rfl) (e_move (v := .bool t2) (by kernel_rfl)) ?_
  by_cases q8 : t2 = true
  · replace H := ifp q8 H
    refine lskip (t := 5) (c := true) rfl (by kernel_rfl) rfl (bvt q8 (by kernel_rfl)) rfl rfl ?_
    refine lskip (t := 5) (c := true) rfl (by kernel_rfl) rfl (bvt q8 (by kernel_rfl)) rfl rfl ?_
    refine lskip (t := 5) (c := true) rfl (by kernel_rfl) rfl (bvt q8 (by kernel_rfl)) rfl rfl ?_
    refine lskipu (t := 8) rfl (by kernel_rfl) rfl (by kernel_rfl) rfl ?_
    refine lskipu (t := 8) rfl (by kernel_rfl) rfl (by kernel_rfl) rfl ?_
    refine lskip (t := 5) (c := true) rfl (by kernel_rfl) rfl (bvt q8 (by kernel_rfl)) rfl rfl ?_
    refine lv (d := 12) rfl rfl (by kernel_rfl) (e_pick_t (v := .bool true) (bvt q8 (by kernel_rfl)) rfl) ?_
    refine lv (d := 13) rfl rfl (by kernel_rfl) (e_move (v := .bool true) (by kernel_rfl)) ?_
    refine lskip (t := 13) (c := true) rfl (by kernel_rfl) rfl (by kernel_rfl) rfl rfl ?_
    refine lskip (t := 13) (c := true) rfl (by kernel_rfl) rfl (by kernel_rfl) rfl rfl ?_
    refine lv (d := 16) rfl rfl (by kernel_rfl) (e_pick_t (v := .bool true) (by kernel_rfl) rfl) ?_
    refine lv (d := 17) rfl rfl (by kernel_rfl) (e_move (v := .bool true) (by kernel_rfl)) ?_
    refine lskip (t := 17) (c := true) rfl (by kernel_rfl) rfl (by kernel_rfl) rfl rfl ?_
    refine lskip (t := 17) (c := true) rfl (by kernel_rfl) rfl (by kernel_rfl) rfl rfl ?_
    refine lv (d := 20) rfl rfl (by kernel_rfl) (e_pick_t (v := .bool true) (by kernel_rfl) rfl) ?_
    refine lv (d := 2) rfl rfl (by kernel_rfl) (e_assign (v := .bool true) (by kernel_rfl)) ?_
    refine wpList_nil ?_
    refine then_n ?_
    refine wp_ret ?_
    obtain rfl := Option.some.inj H
    exact ret1 (rfl) rfl  (show _ = .bool true from (by kernel_rfl)) ⟨rfl, hC⟩
  replace H := ifn q8 H
  refine lvg (d := 6) (t := 5) rfl (by kernel_rfl) rfl (bvf q8 (by kernel_rfl)) rfl (by kernel_rfl) (e_move (v := .int .u8 (x1.toNat : Int)) (by kernel_rfl)) ?_
  refine lvg (d := 7) (t := 5) rfl (by kernel_rfl) rfl (bvf q8 (by kernel_rfl)) rfl (by kernel_rfl) (e_geq (k := .u8) (a := (x1.toNat : Int)) (b := 65) (by kernel_rfl) rfl) ?_
  refine lvg (d := 8) (t := 5) rfl (by kernel_rfl) rfl (bvf q8 (by kernel_rfl)) rfl (by kernel_rfl) (e_move (v := .bool (decide ((x1.toNat : Int) ≥ 65))) (by kernel_rfl)) ?_
  by_cases q9 : (x1.toNat : Int) ≥ 65
  · replace H := ifp q9 H
    refine lvg (d := 9) (t := 8) rfl (by kernel_rfl) rfl (bt q9 (by kernel_rfl)) rfl (by kernel_rfl) (e_move (v := .int .u8 (x1.toNat : Int)) (by kernel_rfl)) ?_
    refine lvg (d := 10) (t := 8) rfl (by kernel_rfl) rfl (bt q9 (by kernel_rfl)) rfl (by kernel_rfl) (e_leq (k := .u8) (a := (x1.toNat : Int)) (b := 90) (by kernel_rfl) rfl) ?_
    refine lvg (d := 11) (t := 5) rfl (by kernel_rfl) rfl (bvf q8 (by kernel_rfl)) rfl (by kernel_rfl) (e_pick_t (v := .bool (decide ((x1.toNat : Int) ≤ 90))) (bt q9 (by kernel_rfl)) (by kernel_rfl)) ?_
    refine lv (d := 12) rfl rfl (by kernel_rfl) (e_pick_f (v := .bool (decide ((x1.toNat : Int) ≤ 90))) (bvf q8 (by kernel_rfl)) (by kernel_rfl)) ?_
    refine lv (d := 13) rfl rfl (by kernel_rfl) (e_move (v := .bool (decide ((x1.toNat : Int) ≤ 90))) (by kernel_rfl)) ?_
    by_cases q10 : (x1.toNat : Int) ≤ 90
    · replace H := ifp q10 H
      refine lskip (t := 13) (c := true) rfl (by kernel_rfl) rfl (bt q10 (by kernel_rfl)) rfl rfl ?_
      refine lskip (t := 13) (c := true) rfl (by kernel_rfl) rfl (bt q10 (by kernel_rfl)) rfl rfl ?_
      refine lv (d := 16) rfl rfl (by kernel_rfl) (e_pick_t (v := .bool true) (bt q10 (by kernel_rfl)) rfl) ?_
      refine lv (d := 17) rfl rfl (by kernel_rfl) (e_move (v := .bool true) (by kernel_rfl)) ?_
      refine lskip (t := 17) (c := true) rfl (by kernel_rfl) rfl (by kernel_rfl) rfl rfl ?_
      refine lskip (t := 17) (c := true) rfl (by kernel_rfl) rfl (by kernel_rfl) rfl rfl ?_
      refine lv (d := 20) rfl rfl (by kernel_rfl) (e_pick_t (v := .bool true) (by kernel_rfl) rfl) ?_
      refine lv (d := 2) rfl rfl (by kernel_rfl) (e_assign (v := .bool true) (by kernel_rfl)) ?_
      refine wpList_nil ?_
      refine then_n ?_
      refine wp_ret ?_
      obtain rfl := Option.some.inj H
      exact ret1 (rfl) rfl  (show _ = .bool true from (by kernel_rfl)) ⟨rfl, hC⟩
    replace H := ifn q10 H
    refine lvg (d := 14) (t := 13) rfl (by kernel_rfl) rfl (bf q10 (by kernel_rfl)) rfl (by kernel_rfl) (e_move (v := .int .u8 (x1.toNat : Int)) (by kernel_rfl)) ?_
    refine lvg (d := 15) (t := 13) rfl (by kernel_rfl) rfl (bf q10 (by kernel_rfl)) rfl (by kernel_rfl) (e_eql (k := .u8) (a := (x1.toNat : Int)) (b := 95) (by kernel_rfl) rfl) ?_
    refine lv (d := 16) rfl rfl (by kernel_rfl) (e_pick_f (v := .bool (decide ((x1.toNat : Int) = 95))) (bf q10 (by kernel_rfl)) (by kernel_rfl)) ?_
    refine lv (d := 17) rfl rfl (by kernel_rfl) (e_move (v := .bool (decide ((x1.toNat : Int) = 95))) (by kernel_rfl)) ?_
    by_cases q11 : (x1.toNat : Int) = 95
    · replace H := ifp q11 H
      refine lskip (t := 17) (c := true) rfl (by kernel_rfl) rfl (bt q11 (by kernel_rfl)) rfl rfl ?_
      refine lskip (t := 17) (c := true) rfl (by kernel_rfl) rfl (bt q11 (by kernel_rfl)) rfl rfl ?_
      refine lv (d := 20) rfl rfl (by kernel_rfl) (e_pick_t (v := .bool true) (bt q11 (by kernel_rfl)) rfl) ?_
      refine lv (d := 2) rfl rfl (by kernel_rfl) (e_assign (v := .bool true) (by kernel_rfl)) ?_
      refine wpList_nil ?_
      refine then_n ?_
      refine wp_ret ?_
      obtain rfl := Option.some.inj H
      exact ret1 (rfl) rfl  (show _ = .bool true from (by kernel_rfl)) ⟨rfl, hC⟩
    replace H := ifn q11 H
    refine lvg (d := 18) (t := 17) rfl (by kernel_rfl) rfl (bf q11 (by kernel_rfl)) rfl (by kernel_rfl) (e_move (v := .int .u8 (x1.toNat : Int)) (by kernel_rfl)) ?_
    obtain ⟨t12, u13, H⟩ := bnd H
    refine lcallg (d := 19) (t := 17) rfl (by kernel_rfl) rfl (bf q11 (by kernel_rfl)) rfl (by kernel_rfl) (e_call (l := [.tmp 18]) (vs := [.int .u8 (x1.toNat : Int)]) Try.func31 (by kernel_rfl) rfl (by kernel_rfl) rfl) (spec_l1digit.calls w4 x1  t12 u13) ?_
    rintro _ w14 ⟨rfl, C15⟩
    refine ⟨_, rfl, ?_⟩
    have u16 : Lt [] w4.heap.size := (Lt.nil _)
    have z17 := C15.size
    replace hC := hC.step C15 (fun _ h_ => by cases h_)
    refine lv (d := 20) rfl rfl (by kernel_rfl) (e_pick_f (v := .bool t12) (bf q11 (by kernel_rfl)) (by kernel_rfl)) ?_
    refine lv (d := 2) rfl rfl (by kernel_rfl) (e_assign (v := .bool t12) (by kernel_rfl)) ?_
    refine wpList_nil ?_
    refine then_n ?_
    refine wp_ret ?_
    obtain rfl := Option.some.inj H
    exact ret1 (rfl) rfl  (show _ = .bool t12 from (by kernel_rfl)) ⟨rfl, hC⟩
  replace H := ifn q9 H
  refine lskip (t := 8) (c := false) rfl (by kernel_rfl) rfl (bf q9 (by kernel_rfl)) rfl rfl ?_
  refine lskip (t := 8) (c := false) rfl (by kernel_rfl) rfl (bf q9 (by kernel_rfl)) rfl rfl ?_
  refine lvg (d := 11) (t := 5) rfl (by kernel_rfl) rfl (bvf q8 (by kernel_rfl)) rfl (by kernel_rfl) (e_pick_f (v := .bool false) (bf q9 (by kernel_rfl)) rfl) ?_
  refine lv (d := 12) rfl rfl (by kernel_rfl) (e_pick_f (v := .bool false) (bvf q8 (by kernel_rfl)) (by kernel_rfl)) ?_
  refine lv (d := 13) rfl rfl (by kernel_rfl) (e_move (v := .bool false) (by kernel_rfl)) ?_
  refine lvg (d := 14) (t := 13) rfl (by kernel_rfl) rfl (by kernel_rfl) rfl (by kernel_rfl) (e_move (v := .int .u8 (x1.toNat : Int)) (by kernel_rfl)) ?_
  refine lvg (d := 15) (t := 13) rfl (by kernel_rfl) rfl (by kernel_rfl) rfl (by kernel_rfl) (e_eql (k := .u8) (a := (x1.toNat : Int)) (b := 95) (by kernel_rfl) rfl) ?_
  refine lv (d := 16) rfl rfl (by kernel_rfl) (e_pick_f (v := .bool (decide ((x1.toNat : Int) = 95))) (by kernel_rfl) (by kernel_rfl)) ?_
  refine lv (d := 17) rfl rfl (by kernel_rfl) (e_move (v := .bool (decide ((x1.toNat : Int) = 95))) (by kernel_rfl)) ?_
  by_cases q18 : (x1.toNat : Int) = 95
  · replace H := ifp q18 H
    refine lskip (t := 17) (c := true) rfl (by kernel_rfl) rfl (bt q18 (by kernel_rfl)) rfl rfl ?_
    refine lskip (t := 17) (c := true) rfl (by kernel_rfl) rfl (bt q18 (by kernel_rfl)) rfl rfl ?_
    refine lv (d := 20) rfl rfl (by kernel_rfl) (e_pick_t (v := .bool true) (bt q18 (by kernel_rfl)) rfl) ?_
    refine lv (d := 2) rfl rfl (by kernel_rfl) (e_assign (v := .bool true) (by kernel_rfl)) ?_
    refine wpList_nil ?_
    refine then_n ?_
    refine wp_ret ?_
    obtain rfl := Option.some.inj H
    exact ret1 (rfl) rfl  (show _ = .bool true from (by kernel_rfl)) ⟨rfl, hC⟩
  replace H := ifn q18 H
  refine lvg (d := 18) (t := 17) rfl (by kernel_rfl) rfl (bf q18 (by kernel_rfl)) rfl (by kernel_rfl) (e_move (v := .int .u8 (x1.toNat : Int)) (by kernel_rfl)) ?_
  obtain ⟨t19, u20, H⟩ := bnd H
  refine lcallg (d := 19) (t := 17) rfl (by kernel_rfl) rfl (bf q18 (by kernel_rfl)) rfl (by kernel_rfl) (e_call (l := [.tmp 18]) (vs := [.int .u8 (x1.toNat : Int)]) Try.func31 (by kernel_rfl) rfl (by kernel_rfl) rfl) (spec_l1digit.calls w4 x1  t19 u20) ?_
  rintro _ w21 ⟨rfl, C22⟩
  refine ⟨_, rfl, ?_⟩
  have u23 : Lt [] w4.heap.size := (Lt.nil _)
  have z24 := C22.size
  replace hC := hC.step C22 (fun _ h_ => by cases h_)
  refine lv (d := 20) rfl rfl (by kernel_rfl) (e_pick_f (v := .bool t19) (bf q18 (by kernel_rfl)) (by kernel_rfl)) ?_
  refine lv (d := 2) rfl rfl (by kernel_rfl) (e_assign (v := .bool t19) (by kernel_rfl)) ?_
  refine wpList_nil ?_
  refine then_n ?_
  refine wp_ret ?_
  obtain rfl := Option.some.inj H
  exact ret1 (rfl) rfl  (show _ = .bool t19 from (by kernel_rfl)) ⟨rfl, hC⟩

/-! spec.l1run -/
def spec_l1run.l0 : Nat → (List UInt8) → Int → Bool → Int → Option Int
  | 0, _, _, _, _ => none
  | k18 + 1, x1, x6, x7, x13 => (if (IntKind.i64.wrap (x6 + x13)) < (x1.length : Int) then (if x7 = true then (if 0 ≤ (IntKind.i64.wrap (x6 + x13)) then ((spec_l1symbol.f k18 (x1.getD ((IntKind.i64.wrap (x6 + x13))).toNat (0 : UInt8))).bind fun t28 => (if t28 = true then (spec_l1run.l0 k18 x1 x6 x7 (IntKind.i64.wrap (x13 + 1))) else (if ¬ (x7 = true) then ((spec_l1alnum.f (x1.getD ((IntKind.i64.wrap (x6 + x13))).toNat (0 : UInt8))).bind fun t42 => (if t42 = true then (spec_l1run.l0 k18 x1 x6 x7 (IntKind.i64.wrap (x13 + 1))) else some x13)) else some x13))) else none) else (if ¬ (x7 = true) then (if 0 ≤ (IntKind.i64.wrap (x6 + x13)) then ((spec_l1alnum.f (x1.getD ((IntKind.i64.wrap (x6 + x13))).toNat (0 : UInt8))).bind fun t57 => (if t57 = true then (spec_l1run.l0 k18 x1 x6 x7 (IntKind.i64.wrap (x13 + 1))) else some x13)) else none) else some x13)) else some x13)
def spec_l1run.f (k : Nat) (x1 : List UInt8) (x6 : Int) (x7 : Bool) : Option Int := (spec_l1run.l0 k x1 x6 x7 0)
theorem spec_l1run.calls (k : Nat) (w : World) (x1 : List UInt8) (A2 : Option Addr) (c3 : Nat) (x6 : Int) (x7 : Bool) (h4 : Rd tByte w any A2 x1) (l5 : x1.length ≤ c3) (r : Int) (H : spec_l1run.f k x1 x6 x7 = some r) :
    Calls Try.prog 17 #[.slice A2 x1.length c3, .int .i64 x6, .bool x7] w (fun e e_w => e = .returned (.int .i64 r) ∧ Chg [] w e_w) := by
  rw [spec_l1run.f] at H
  refine enter (l := [.slice A2 x1.length c3, .int .i64 x6, .bool x7]) 42 Try.func17 rfl rfl rfl ?_
  replace h4 := rd_canon (M := []) (by decide) h4 (by simp)
  have hC := Chg.refl [] w
  refine wp_seq ?_
  refine wp_region_lit ?_
  refine lv (d := 6) rfl rfl (by kernel_rfl) (e_assign (v := .int .i64 0) rfl) ?_
  refine wpList_nil ?_
  refine then_n ?_
  refine wp_seq ?_
  refine wp_region_lit ?_
  refine lv (d := 7) rfl rfl (by kernel_rfl) (e_assign (v := .int .i64 0) rfl) ?_
  refine wpList_nil ?_
  refine then_n ?_
  refine wp_seq ?_
  refine wp_block ?_
  refine wp_loop_g (fun k16 a17 w8 => ∃ (f9 : Nat → Value) (x13 : Int), a17 = mk 42 f9 ∧ f9 0 = .slice A2 x1.length c3 ∧ f9 1 = .int .i64 x6 ∧ f9 2 = .bool x7 ∧ f9 7 = .int .i64 x13 ∧ Rd tByte w8 (FP any w.heap.size []) A2 x1 ∧ Chg [] w w8 ∧ w.heap.size ≤ w8.heap.size ∧ spec_l1run.l0 k16 x1 x6 x7 x13 = some r) k ⟨_, 0, rfl, (by kernel_rfl), (by kernel_rfl), (by kernel_rfl), (by kernel_rfl), (Rd.mono (fp_sub (fun _ h_ => h_) (by omega) (by simp [bk])) h4), hC, (by omega), H⟩ ?_
  rintro k16 a17 w8 ⟨f9, x13, rfl, e10, e11, e12, e14, h4, hC, z15, H⟩
  rcases k16 with _ | k18
  · rw [spec_l1run.l0] at H
    cases H
  rw [spec_l1run.l0] at H
  refine wp_seq ?_
  refine wp_seq ?_
  refine wp_region_lit ?_
  refine lv (d := 8) rfl rfl (by kernel_rfl) (e_move (v := .int .i64 x6) (by exact e11)) ?_
  refine lv (d := 9) rfl rfl (by kernel_rfl) (e_move (v := .int .i64 x13) (by exact e14)) ?_
  refine lv (d := 10) rfl rfl (by kernel_rfl) (e_add (k := .i64) (a := x6) (b := x13) (by kernel_rfl) (by kernel_rfl)) ?_
  refine lv (d := 11) rfl rfl (by kernel_rfl) (e_move (v := .slice A2 x1.length c3) (by exact e10)) ?_
  refine lv (d := 12) rfl rfl (by kernel_rfl) (e_len (A := A2) (n := x1.length) (c := c3) Try.underlying23 (by kernel_rfl)) ?_
  refine lv (d := 13) rfl rfl (by kernel_rfl) (e_lss (k := .i64) (a := (IntKind.i64.wrap (x6 + x13))) (b := (x1.length : Int)) (by kernel_rfl) (by kernel_rfl)) ?_
  refine lv (d := 14) rfl rfl (by kernel_rfl) (e_move (v := .bool (decide ((IntKind.i64.wrap (x6 + x13)) < (x1.length : Int)))) (by kernel_rfl)) ?_
  by_cases q19 : (IntKind.i64.wrap (x6 + x13)) < (x1.length : Int)
  · replace H := ifp q19 H
    refine lvg (d := 15) (t := 14) rfl (by kernel_rfl) rfl (bt q19 (by kernel_rfl)) rfl (by kernel_rfl) (e_move (v := .bool x7) (by exact e12)) ?_
    refine lvg (d := 16) (t := 14) rfl (by kernel_rfl) rfl (bt q19 (by kernel_rfl)) rfl (by kernel_rfl) (e_move (v := .bool x7) (by kernel_rfl)) ?_
    by_cases q20 : x7 = true
    · replace H := ifp q20 H
      refine lvg (d := 17) (t := 16) rfl (by kernel_rfl) rfl (bvt q20 (by kernel_rfl)) rfl (by kernel_rfl) (e_move (v := .slice A2 x1.length c3) (by exact e10)) ?_
      refine lvg (d := 18) (t := 16) rfl (by kernel_rfl) rfl (bvt q20 (by kernel_rfl)) rfl (by kernel_rfl) (e_move (v := .int .i64 x6) (by exact e11)) ?_
      refine lvg (d := 19) (t := 16) rfl (by kernel_rfl) rfl (bvt q20 (by kernel_rfl)) rfl (by kernel_rfl) (e_move (v := .int .i64 x13) (by exact e14)) ?_
      refine lvg (d := 20) (t := 16) rfl (by kernel_rfl) rfl (bvt q20 (by kernel_rfl)) rfl (by kernel_rfl) (e_add (k := .i64) (a := x6) (b := x13) (by kernel_rfl) (by kernel_rfl)) ?_
      obtain ⟨q21, H⟩ := chk H
      obtain ⟨b22, o23, y24, e27, _, r25, k26⟩ := Rd.get h4 ((IntKind.i64.wrap (x6 + x13))).toNat _ (getD_some (0 : UInt8) (by omega))
      obtain rfl := r25
      refine lvg (d := 21) (t := 16) rfl (by kernel_rfl) rfl (bvt q20 (by kernel_rfl)) rfl (by kernel_rfl) (e_indexAddr (b := b22) (off := o23) (n := x1.length) (c := c3) (sz := 1) (i := (IntKind.i64.wrap (x6 + x13))) (k := .i64) Try.underlying23 e27 (by kernel_rfl) (by kernel_rfl) (by kernel_rfl) q21 q19) ?_
      refine lvg (d := 22) (t := 16) rfl (by kernel_rfl) rfl (bvt q20 (by kernel_rfl)) rfl (by kernel_rfl) (e_load1 (ad := ⟨b22, o23 + ((IntKind.i64.wrap (x6 + x13)) : Int).toNat * 1, none⟩) (v := .int .u8 ((x1.getD ((IntKind.i64.wrap (x6 + x13))).toNat (0 : UInt8)).toNat : Int)) Try.underlying5 rfl (by kernel_rfl) (k26 0 _ rfl)) ?_
      obtain ⟨t28, u29, H⟩ := bnd H
      refine lcallg (d := 23) (t := 16) rfl (by kernel_rfl) rfl (bvt q20 (by kernel_rfl)) rfl (by kernel_rfl) (e_call (l := [.tmp 22]) (vs := [.int .u8 ((x1.getD ((IntKind.i64.wrap (x6 + x13))).toNat (0 : UInt8)).toNat : Int)]) Try.func25 (by kernel_rfl) rfl (by kernel_rfl) rfl) (spec_l1symbol.calls k18 w8 (x1.getD ((IntKind.i64.wrap (x6 + x13))).toNat (0 : UInt8))  t28 u29) ?_
      rintro _ w30 ⟨rfl, C31⟩
      refine ⟨_, rfl, ?_⟩
      have u32 : Lt [] w8.heap.size := (Lt.nil _)
      have z33 := C31.size
      replace h4 := Rd.move (fp_chg C31 (by omega) (by simp)) h4
      replace hC := hC.step C31 (fun _ h_ => by cases h_)
      refine lvg (d := 24) (t := 14) rfl (by kernel_rfl) rfl (bt q19 (by kernel_rfl)) rfl (by kernel_rfl) (e_pick_t (v := .bool t28) (bvt q20 (by kernel_rfl)) (by kernel_rfl)) ?_
      refine lvg (d := 25) (t := 14) rfl (by kernel_rfl) rfl (bt q19 (by kernel_rfl)) rfl (by kernel_rfl) (e_move (v := .bool t28) (by kernel_rfl)) ?_
      by_cases q34 : t28 = true
      · replace H := ifp q34 H
        refine lskip (t := 25) (c := true) rfl (by kernel_rfl) rfl (bvt q34 (by kernel_rfl)) rfl rfl ?_
        refine lskip (t := 25) (c := true) rfl (by kernel_rfl) rfl (bvt q34 (by kernel_rfl)) rfl rfl ?_
        refine lskip (t := 25) (c := true) rfl (by kernel_rfl) rfl (bvt q34 (by kernel_rfl)) rfl rfl ?_
        refine lskipu (t := 28) rfl (by kernel_rfl) rfl (by kernel_rfl) rfl ?_
        refine lskipu (t := 28) rfl (by kernel_rfl) rfl (by kernel_rfl) rfl ?_
        refine lskipu (t := 28) rfl (by kernel_rfl) rfl (by kernel_rfl) rfl ?_
        refine lskipu (t := 28) rfl (by kernel_rfl) rfl (by kernel_rfl) rfl ?_
        refine lskipu (t := 28) rfl (by kernel_rfl) rfl (by kernel_rfl) rfl ?_
        refine lskipu (t := 28) rfl (by kernel_rfl) rfl (by kernel_rfl) rfl ?_
        refine lskipu (t := 28) rfl (by kernel_rfl) rfl (by kernel_rfl) rfl ?_
        refine lskip (t := 25) (c := true) rfl (by kernel_rfl) rfl (bvt q34 (by kernel_rfl)) rfl rfl ?_
        refine lvg (d := 37) (t := 14) rfl (by kernel_rfl) rfl (bt q19 (by kernel_rfl)) rfl (by kernel_rfl) (e_pick_t (v := .bool true) (bvt q34 (by kernel_rfl)) rfl) ?_
        refine lv (d := 38) rfl rfl (by kernel_rfl) (e_pick_t (v := .bool true) (bt q19 (by kernel_rfl)) (by kernel_rfl)) ?_
        refine wpList_nil ?_
        refine then_n ?_
        refine cond_t rfl (by kernel_rfl) ?_
        refine wp_skip ?_
        refine then_n ?_
        refine wp_block ?_
        refine wp_region_lit ?_
        refine lv (d := 39) rfl rfl (by kernel_rfl) (e_move (v := .int .i64 x13) (by exact e14)) ?_
        refine lv (d := 40) rfl rfl (by kernel_rfl) (e_add (k := .i64) (a := x13) (b := 1) (by kernel_rfl) rfl) ?_
        refine lv (d := 7) rfl rfl (by kernel_rfl) (e_assign (v := .int .i64 (IntKind.i64.wrap (x13 + 1))) (by kernel_rfl)) ?_
        refine wpList_nil ?_
        refine inb_n ?_
        refine then_n ?_
        exact ⟨k18, Nat.lt_succ_self _, _, (IntKind.i64.wrap (x13 + 1)), rfl, (by exact e10), (by exact e11), (by exact e12), (by kernel_rfl), (Rd.mono (fp_sub (fun _ h_ => h_) (by omega) (by simp [bk])) h4), hC, (by omega), H⟩
      replace H := ifn q34 H
      refine lvg (d := 26) (t := 25) rfl (by kernel_rfl) rfl (bvf q34 (by kernel_rfl)) rfl (by kernel_rfl) (e_move (v := .bool x7) (by exact e12)) ?_
      refine lvg (d := 27) (t := 25) rfl (by kernel_rfl) rfl (bvf q34 (by kernel_rfl)) rfl (by kernel_rfl) (e_notv (c := x7) (by kernel_rfl)) ?_
      refine lvg (d := 28) (t := 25) rfl (by kernel_rfl) rfl (bvf q34 (by kernel_rfl)) rfl (by kernel_rfl) (e_move (v := .bool (decide (¬ (x7 = true)))) (by kernel_rfl)) ?_
      by_cases q35 : ¬ (x7 = true)
      · replace H := ifp q35 H
        refine lvg (d := 29) (t := 28) rfl (by kernel_rfl) rfl (bt q35 (by kernel_rfl)) rfl (by kernel_rfl) (e_move (v := .slice A2 x1.length c3) (by exact e10)) ?_
        refine lvg (d := 30) (t := 28) rfl (by kernel_rfl) rfl (bt q35 (by kernel_rfl)) rfl (by kernel_rfl) (e_move (v := .int .i64 x6) (by exact e11)) ?_
        refine lvg (d := 31) (t := 28) rfl (by kernel_rfl) rfl (bt q35 (by kernel_rfl)) rfl (by kernel_rfl) (e_move (v := .int .i64 x13) (by exact e14)) ?_
        refine lvg (d := 32) (t := 28) rfl (by kernel_rfl) rfl (bt q35 (by kernel_rfl)) rfl (by kernel_rfl) (e_add (k := .i64) (a := x6) (b := x13) (by kernel_rfl) (by kernel_rfl)) ?_
        obtain ⟨b36, o37, y38, e41, _, r39, k40⟩ := Rd.get h4 ((IntKind.i64.wrap (x6 + x13))).toNat _ (getD_some (0 : UInt8) (by omega))
        obtain rfl := r39
        refine lvg (d := 33) (t := 28) rfl (by kernel_rfl) rfl (bt q35 (by kernel_rfl)) rfl (by kernel_rfl) (e_indexAddr (b := b36) (off := o37) (n := x1.length) (c := c3) (sz := 1) (i := (IntKind.i64.wrap (x6 + x13))) (k := .i64) Try.underlying23 e41 (by kernel_rfl) (by kernel_rfl) (by kernel_rfl) q21 q19) ?_
        refine lvg (d := 34) (t := 28) rfl (by kernel_rfl) rfl (bt q35 (by kernel_rfl)) rfl (by kernel_rfl) (e_load1 (ad := ⟨b36, o37 + ((IntKind.i64.wrap (x6 + x13)) : Int).toNat * 1, none⟩) (v := .int .u8 ((x1.getD ((IntKind.i64.wrap (x6 + x13))).toNat (0 : UInt8)).toNat : Int)) Try.underlying5 rfl (by kernel_rfl) (k40 0 _ rfl)) ?_
        obtain ⟨t42, u43, H⟩ := bnd H
        refine lcallg (d := 35) (t := 28) rfl (by kernel_rfl) rfl (bt q35 (by kernel_rfl)) rfl (by kernel_rfl) (e_call (l := [.tmp 34]) (vs := [.int .u8 ((x1.getD ((IntKind.i64.wrap (x6 + x13))).toNat (0 : UInt8)).toNat : Int)]) Try.func26 (by kernel_rfl) rfl (by kernel_rfl) rfl) (spec_l1alnum.calls w30 (x1.getD ((IntKind.i64.wrap (x6 + x13))).toNat (0 : UInt8))  t42 u43) ?_
        rintro _ w44 ⟨rfl, C45⟩
        refine ⟨_, rfl, ?_⟩
        have u46 : Lt [] w30.heap.size := (Lt.nil _)
        have z47 := C45.size
        replace h4 := Rd.move (fp_chg C45 (by omega) (by simp)) h4
        replace hC := hC.step C45 (fun _ h_ => by cases h_)
        refine lvg (d := 36) (t := 25) rfl (by kernel_rfl) rfl (bvf q34 (by kernel_rfl)) rfl (by kernel_rfl) (e_pick_t (v := .bool t42) (bt q35 (by kernel_rfl)) (by kernel_rfl)) ?_
        refine lvg (d := 37) (t := 14) rfl (by kernel_rfl) rfl (bt q19 (by kernel_rfl)) rfl (by kernel_rfl) (e_pick_f (v := .bool t42) (bvf q34 (by kernel_rfl)) (by kernel_rfl)) ?_
        refine lv (d := 38) rfl rfl (by kernel_rfl) (e_pick_t (v := .bool t42) (bt q19 (by kernel_rfl)) (by kernel_rfl)) ?_
        refine wpList_nil ?_
        refine then_n ?_
        by_cases q48 : t42 = true
        · replace H := ifp q48 H
          refine cond_t rfl (bvt q48 (by kernel_rfl)) ?_
          refine wp_skip ?_
          refine then_n ?_
          refine wp_block ?_
          refine wp_region_lit ?_
          refine lv (d := 39) rfl rfl (by kernel_rfl) (e_move (v := .int .i64 x13) (by exact e14)) ?_
          refine lv (d := 40) rfl rfl (by kernel_rfl) (e_add (k := .i64) (a := x13) (b := 1) (by kernel_rfl) rfl) ?_
          refine lv (d := 7) rfl rfl (by kernel_rfl) (e_assign (v := .int .i64 (IntKind.i64.wrap (x13 + 1))) (by kernel_rfl)) ?_
          refine wpList_nil ?_
          refine inb_n ?_
          refine then_n ?_
          exact ⟨k18, Nat.lt_succ_self _, _, (IntKind.i64.wrap (x13 + 1)), rfl, (by exact e10), (by exact e11), (by exact e12), (by kernel_rfl), (Rd.mono (fp_sub (fun _ h_ => h_) (by omega) (by simp [bk])) h4), hC, (by omega), H⟩
        replace H := ifn q48 H
        refine cond_f rfl (bvf q48 (by kernel_rfl)) ?_
        refine wp_exit ?_
        refine then_e ?_
        refine then_e ?_
        refine inb_hit ?_
        refine then_n ?_
        refine wp_seq ?_
        refine wp_region_lit ?_
        refine lv (d := 41) rfl rfl (by kernel_rfl) (e_move (v := .int .i64 x13) (by exact e14)) ?_
        refine lv (d := 6) rfl rfl (by kernel_rfl) (e_assign (v := .int .i64 x13) (by kernel_rfl)) ?_
        refine wpList_nil ?_
        refine then_n ?_
        refine wp_ret ?_
        obtain rfl := Option.some.inj H
        exact ret1 (rfl) rfl  (show _ = .int .i64 x13 from (by kernel_rfl)) ⟨rfl, hC⟩
      replace H := ifn q35 H
      refine lskip (t := 28) (c := false) rfl (by kernel_rfl) rfl (bf q35 (by kernel_rfl)) rfl rfl ?_
      refine lskip (t := 28) (c := false) rfl (by kernel_rfl) rfl (bf q35 (by kernel_rfl)) rfl rfl ?_
      refine lskip (t := 28) (c := false) rfl (by kernel_rfl) rfl (bf q35 (by kernel_rfl)) rfl rfl ?_
      refine lskip (t := 28) (c := false) rfl (by kernel_rfl) rfl (bf q35 (by kernel_rfl)) rfl rfl ?_
      refine lskip (t := 28) (c := false) rfl (by kernel_rfl) rfl (bf q35 (by kernel_rfl)) rfl rfl ?_
      refine lskip (t := 28) (c := false) rfl (by kernel_rfl) rfl (bf q35 (by kernel_rfl)) rfl rfl ?_
      refine lskip (t := 28) (c := false) rfl (by kernel_rfl) rfl (bf q35 (by kernel_rfl)) rfl rfl ?_
      refine lvg (d := 36) (t := 25) rfl (by kernel_rfl) rfl (bvf q34 (by kernel_rfl)) rfl (by kernel_rfl) (e_pick_f (v := .bool false) (bf q35 (by kernel_rfl)) rfl) ?_
      refine lvg (d := 37) (t := 14) rfl (by kernel_rfl) rfl (bt q19 (by kernel_rfl)) rfl (by kernel_rfl) (e_pick_f (v := .bool false) (bvf q34 (by kernel_rfl)) (by kernel_rfl)) ?_
      refine lv (d := 38) rfl rfl (by kernel_rfl) (e_pick_t (v := .bool false) (bt q19 (by kernel_rfl)) (by kernel_rfl)) ?_
      refine wpList_nil ?_
      refine then_n ?_
      refine cond_f rfl (by kernel_rfl) ?_
      refine wp_exit ?_
      refine then_e ?_
      refine then_e ?_
      refine inb_hit ?_
      refine then_n ?_
      refine wp_seq ?_
      refine wp_region_lit ?_
      refine lv (d := 41) rfl rfl (by kernel_rfl) (e_move (v := .int .i64 x13) (by exact e14)) ?_
      refine lv (d := 6) rfl rfl (by kernel_rfl) (e_assign (v := .int .i64 x13) (by kernel_rfl)) ?_
      refine wpList_nil ?_
      refine then_n ?_
      refine wp_ret ?_
      obtain rfl := Option.some.inj H
      exact ret1 (rfl) rfl  (show _ = .int .i64 x13 from (by kernel_rfl)) ⟨rfl, hC⟩
    replace H := ifn q20 H
    refine lskip (t := 16) (c := false) rfl (by kernel_rfl) rfl (bvf q20 (by kernel_rfl)) rfl rfl ?_
    refine lskip (t := 16) (c := false) rfl (by kernel_rfl) rfl (bvf q20 (by kernel_rfl)) rfl rfl ?_
    refine lskip (t := 16) (c := false) rfl (by kernel_rfl) rfl (bvf q20 (by kernel_rfl)) rfl rfl ?_
    refine lskip (t := 16) (c := false) rfl (by kernel_rfl) rfl (bvf q20 (by kernel_rfl)) rfl rfl ?_
    refine lskip (t := 16) (c := false) rfl (by kernel_rfl) rfl (bvf q20 (by kernel_rfl)) rfl rfl ?_
    refine lskip (t := 16) (c := false) rfl (by kernel_rfl) rfl (bvf q20 (by kernel_rfl)) rfl rfl ?_
    refine lskip (t := 16) (c := false) rfl (by kernel_rfl) rfl (bvf q20 (by kernel_rfl)) rfl rfl ?_
    refine lvg (d := 24) (t := 14) rfl (by kernel_rfl) rfl (bt q19 (by kernel_rfl)) rfl (by kernel_rfl) (e_pick_f (v := .bool false) (bvf q20 (by kernel_rfl)) rfl) ?_
    refine lvg (d := 25) (t := 14) rfl (by kernel_rfl) rfl (bt q19 (by kernel_rfl)) rfl (by kernel_rfl) (e_move (v := .bool false) (by kernel_rfl)) ?_
    refine lvg (d := 26) (t := 25) rfl (by kernel_rfl) rfl (by kernel_rfl) rfl (by kernel_rfl) (e_move (v := .bool x7) (by exact e12)) ?_
    refine lvg (d := 27) (t := 25) rfl (by kernel_rfl) rfl (by kernel_rfl) rfl (by kernel_rfl) (e_notv (c := x7) (by kernel_rfl)) ?_
    refine lvg (d := 28) (t := 25) rfl (by kernel_rfl) rfl (by kernel_rfl) rfl (by kernel_rfl) (e_move (v := .bool (decide (¬ (x7 = true)))) (by kernel_rfl)) ?_
    by_cases q49 : ¬ (x7 = true)
    · replace H := ifp q49 H
      refine lvg (d := 29) (t := 28) rfl (by kernel_rfl) rfl (bt q49 (by kernel_rfl)) rfl (by kernel_rfl) (e_move (v := .slice A2 x1.length c3) (by exact e10)) ?_
      refine lvg (d := 30) (t := 28) rfl (by kernel_rfl) rfl (bt q49 (by kernel_rfl)) rfl (by kernel_rfl) (e_move (v := .int .i64 x6) (by exact e11)) ?_
      refine lvg (d := 31) (t := 28) rfl (by kernel_rfl) rfl (bt q49 (by kernel_rfl)) rfl (by kernel_rfl) (e_move (v := .int .i64 x13) (by exact e14)) ?_
      refine lvg (d := 32) (t := 28) rfl (by kernel_rfl) rfl (bt q49 (by kernel_rfl)) rfl (by kernel_rfl) (e_add (k := .i64) (a := x6) (b := x13) (by kernel_rfl) (by kernel_rfl)) ?_
      obtain ⟨q50, H⟩ := chk H
      obtain ⟨b51, o52, y53, e56, _, r54, k55⟩ := Rd.get h4 ((IntKind.i64.wrap (x6 + x13))).toNat _ (getD_some (0 : UInt8) (by omega))
      obtain rfl := r54
      refine lvg (d := 33) (t := 28) rfl (by kernel_rfl) rfl (bt q49 (by kernel_rfl)) rfl (by kernel_rfl) (e_indexAddr (b := b51) (off := o52) (n := x1.length) (c := c3) (sz := 1) (i := (IntKind.i64.wrap (x6 + x13))) (k := .i64) Try.underlying23 e56 (by kernel_rfl) (by kernel_rfl) (by kernel_rfl) q50 q19) ?_
      refine lvg (d := 34) (t := 28) rfl (by kernel_rfl) rfl (bt q49 (by kernel_rfl)) rfl (by kernel_rfl) (e_load1 (ad := ⟨b51, o52 + ((IntKind.i64.wrap (x6 + x13)) : Int).toNat * 1, none⟩) (v := .int .u8 ((x1.getD ((IntKind.i64.wrap (x6 + x13))).toNat (0 : UInt8)).toNat : Int)) Try.underlying5 rfl (by kernel_rfl) (k55 0 _ rfl)) ?_
      obtain ⟨t57, u58, H⟩ := bnd H
      refine lcallg (d := 35) (t := 28) rfl (by kernel_rfl) rfl (bt q49 (by kernel_rfl)) rfl (by kernel_rfl) (e_call (l := [.tmp 34]) (vs := [.int .u8 ((x1.getD ((IntKind.i64.wrap (x6 + x13))).toNat (0 : UInt8)).toNat : Int)]) Try.func26 (by kernel_rfl) rfl (by kernel_rfl) rfl) (spec_l1alnum.calls w8 (x1.getD ((IntKind.i64.wrap (x6 + x13))).toNat (0 : UInt8))  t57 u58) ?_
      rintro _ w59 ⟨rfl, C60⟩
      refine ⟨_, rfl, ?_⟩
      have u61 : Lt [] w8.heap.size := (Lt.nil _)
      have z62 := C60.size
      replace h4 := Rd.move (fp_chg C60 (by omega) (by simp)) h4
      replace hC := hC.step C60 (fun _ h_ => by cases h_)
      refine lvg (d := 36) (t := 25) rfl (by kernel_rfl) rfl (by kernel_rfl) rfl (by kernel_rfl) (e_pick_t (v := .bool t57) (bt q49 (by kernel_rfl)) (by kernel_rfl)) ?_
      refine lvg (d := 37) (t := 14) rfl (by kernel_rfl) rfl (bt q19 (by kernel_rfl)) rfl (by kernel_rfl) (e_pick_f (v := .bool t57) (by kernel_rfl) (by kernel_rfl)) ?_
      refine lv (d := 38) rfl rfl (by kernel_rfl) (e_pick_t (v := .bool t57) (bt q19 (by kernel_rfl)) (by kernel_rfl)) ?_
      refine wpList_nil ?_
      refine then_n ?_
      by_cases q63 : t57 = true
      · replace H := ifp q63 H
        refine cond_t rfl (bvt q63 (by kernel_rfl)) ?_
        refine wp_skip ?_
        refine then_n ?_
        refine wp_block ?_
        refine wp_region_lit ?_
        refine lv (d := 39) rfl rfl (by kernel_rfl) (e_move (v := .int .i64 x13) (by exact e14)) ?_
        refine lv (d := 40) rfl rfl (by kernel_rfl) (e_add (k := .i64) (a := x13) (b := 1) (by kernel_rfl) rfl) ?_
        refine lv (d := 7) rfl rfl (by kernel_rfl) (e_assign (v := .int .i64 (IntKind.i64.wrap (x13 + 1))) (by kernel_rfl)) ?_
        refine wpList_nil ?_
        refine inb_n ?_
        refine then_n ?_
        exact ⟨k18, Nat.lt_succ_self _, _, (IntKind.i64.wrap (x13 + 1)), rfl, (by exact e10), (by exact e11), (by exact e12), (by kernel_rfl), (Rd.mono (fp_sub (fun _ h_ => h_) (by omega) (by simp [bk])) h4), hC, (by omega), H⟩
      replace H := ifn q63 H
      refine cond_f rfl (bvf q63 (by kernel_rfl)) ?_
      refine wp_exit ?_
      refine then_e ?_
      refine then_e ?_
      refine inb_hit ?_
      refine then_n ?_
      refine wp_seq ?_
      refine wp_region_lit ?_
      refine lv (d := 41) rfl rfl (by kernel_rfl) (e_move (v := .int .i64 x13) (by exact e14)) ?_
      refine lv (d := 6) rfl rfl (by kernel_rfl) (e_assign (v := .int .i64 x13) (by kernel_rfl)) ?_
      refine wpList_nil ?_
      refine then_n ?_
      refine wp_ret ?_
      obtain rfl := Option.some.inj H
      exact ret1 (rfl) rfl  (show _ = .int .i64 x13 from (by kernel_rfl)) ⟨rfl, hC⟩
    replace H := ifn q49 H
    refine lskip (t := 28) (c := false) rfl (by kernel_rfl) rfl (bf q49 (by kernel_rfl)) rfl rfl ?_
    refine lskip (t := 28) (c := false) rfl (by kernel_rfl) rfl (bf q49 (by kernel_rfl)) rfl rfl ?_
    refine lskip (t := 28) (c := false) rfl (by kernel_rfl) rfl (bf q49 (by kernel_rfl)) rfl rfl ?_
    refine lskip (t := 28) (c := false) rfl (by kernel_rfl) rfl (bf q49 (by kernel_rfl)) rfl rfl ?_
    refine lskip (t := 28) (c := false) rfl (by kernel_rfl) rfl (bf q49 (by kernel_rfl)) rfl rfl ?_
    refine lskip (t := 28) (c := false) rfl (by kernel_rfl) rfl (bf q49 (by kernel_rfl)) rfl rfl ?_
    refine lskip (t := 28) (c := false) rfl (by kernel_rfl) rfl (bf q49 (by kernel_rfl)) rfl rfl ?_
    refine lvg (d := 36) (t := 25) rfl (by kernel_rfl) rfl (by kernel_rfl) rfl (by kernel_rfl) (e_pick_f (v := .bool false) (bf q49 (by kernel_rfl)) rfl) ?_
    refine lvg (d := 37) (t := 14) rfl (by kernel_rfl) rfl (bt q19 (by kernel_rfl)) rfl (by kernel_rfl) (e_pick_f (v := .bool false) (by kernel_rfl) (by kernel_rfl)) ?_
    refine lv (d := 38) rfl rfl (by kernel_rfl) (e_pick_t (v := .bool false) (bt q19 (by kernel_rfl)) (by kernel_rfl)) ?_
    refine wpList_nil ?_
    refine then_n ?_
    refine cond_f rfl (by kernel_rfl) ?_
    refine wp_exit ?_
    refine then_e ?_
    refine then_e ?_
    refine inb_hit ?_
    refine then_n ?_
    refine wp_seq ?_
    refine wp_region_lit ?_
    refine lv (d := 41) rfl rfl (by kernel_rfl) (e_move (v := .int .i64 x13) (by exact e14)) ?_
    refine lv (d := 6) rfl rfl (by kernel_rfl) (e_assign (v := .int .i64 x13) (by kernel_rfl)) ?_
    refine wpList_nil ?_
    refine then_n ?_
    refine wp_ret ?_
    obtain rfl := Option.some.inj H
    exact ret1 (rfl) rfl  (show _ = .int .i64 x13 from (by kernel_rfl)) ⟨rfl, hC⟩
  replace H := ifn q19 H
  refine lskip (t := 14) (c := false) rfl (by kernel_rfl) rfl (bf q19 (by kernel_rfl)) rfl rfl ?_
  refine lskip (t := 14) (c := false) rfl (by kernel_rfl) rfl (bf q19 (by kernel_rfl)) rfl rfl ?_
  refine lskipu (t := 16) rfl (by kernel_rfl) rfl (by kernel_rfl) rfl ?_
  refine lskipu (t := 16) rfl (by kernel_rfl) rfl (by kernel_rfl) rfl ?_
  refine lskipu (t := 16) rfl (by kernel_rfl) rfl (by kernel_rfl) rfl ?_
  refine lskipu (t := 16) rfl (by kernel_rfl) rfl (by kernel_rfl) rfl ?_
  refine lskipu (t := 16) rfl (by kernel_rfl) rfl (by kernel_rfl) rfl ?_
  refine lskipu (t := 16) rfl (by kernel_rfl) rfl (by kernel_rfl) rfl ?_
  refine lskipu (t := 16) rfl (by kernel_rfl) rfl (by kernel_rfl) rfl ?_
  refine lskip (t := 14) (c := false) rfl (by kernel_rfl) rfl (bf q19 (by kernel_rfl)) rfl rfl ?_
  refine lskip (t := 14) (c := false) rfl (by kernel_rfl) rfl (bf q19 (by kernel_rfl)) rfl rfl ?_
  refine lskipu (t := 25) rfl (by kernel_rfl) rfl (by kernel_rfl) rfl ?_
  refine lskipu (t := 25) rfl (by kernel_rfl) rfl (by kernel_rfl) rfl ?_
  refine lskipu (t := 25) rfl (by kernel_rfl) rfl (by kernel_rfl) rfl ?_
  refine lskipu (t := 28) rfl (by kernel_rfl) rfl (by kernel_rfl) rfl ?_
  refine lskipu (t := 28) rfl (by kernel_rfl) rfl (by kernel_rfl) rfl ?_
  refine lskipu (t := 28) rfl (by kernel_rfl) rfl (by kernel_rfl) rfl ?_
  refine lskipu (t := 28) rfl (by kernel_rfl) rfl (by kernel_rfl) rfl ?_
  refine lskipu (t := 28) rfl (by kernel_rfl) rfl (by kernel_rfl) rfl ?_
  refine lskipu (t := 28) rfl (by kernel_rfl) rfl (by kernel_rfl) rfl ?_
  refine lskipu (t := 28) rfl (by kernel_rfl) rfl (by kernel_rfl) rfl ?_
  refine lskipu (t := 25) rfl (by kernel_rfl) rfl (by kernel_rfl) rfl ?_
  refine lskip (t := 14) (c := false) rfl (by kernel_rfl) rfl (bf q19 (by kernel_rfl)) rfl rfl ?_
  refine lv (d := 38) rfl rfl (by kernel_rfl) (e_pick_f (v := .bool false) (bf q19 (by kernel_rfl)) rfl) ?_
  refine wpList_nil ?_
  refine then_n ?_
  refine cond_f rfl (by kernel_rfl) ?_
  refine wp_exit ?_
  refine then_e ?_
  refine then_e ?_
  refine inb_hit ?_
  refine then_n ?_
  refine wp_seq ?_
  refine wp_region_lit ?_
  refine lv (d := 41) rfl rfl (by kernel_rfl) (e_move (v := .int .i64 x13) (by exact e14)) ?_
  refine lv (d := 6) rfl rfl (by kernel_rfl) (e_assign (v := .int .i64 x13) (by kernel_rfl)) ?_
  refine wpList_nil ?_
  refine then_n ?_
  refine wp_ret ?_
  obtain rfl := Option.some.inj H
  exact ret1 (rfl) rfl  (show _ = .int .i64 x13 from (by kernel_rfl)) ⟨rfl, hC⟩

/-! spec.IsPlain -/
def spec_IsPlain.f (k : Nat) (x1 : List UInt8) : Option Bool := (if (x1.length : Int) = 0 then some false else (if (x1.length : Int) > 100 then some false else (if x1 = ([33] : List UInt8) then some true else (if x1 = ([59] : List UInt8) then some true else (if x1 = ([91, 93] : List UInt8) then some true else (if x1 = ([123, 125] : List UInt8) then some true else (if 0 < (x1.length : Int) then ((spec_l1small.f (x1.getD 0 (0 : UInt8))).bind fun t19 => (if t19 = true then ((spec_l1run.f k x1 0 false).bind fun t26 => some (decide (t26 = (x1.length : Int)))) else (if x1 = ([46] : List UInt8) then some false else (if (x1.length : Int) > 1 then (if 2 ≤ (x1.length : Int) then (if (x1.take (2 : Int).toNat) = ([47, 42] : List UInt8) then some false else ((spec_l1run.f k x1 0 true).bind fun t36 => some (decide (t36 = (x1.length : Int))))) else none) else ((spec_l1run.f k x1 0 true).bind fun t42 => some (decide (t42 = (x1.length : Int)))))))) else none)))))))
theorem spec_IsPlain.calls (k : Nat) (w : World) (x1 : List UInt8) (A2 : Option Addr) (c3 : Nat) (h4 : Rd tByte w any A2 x1) (l5 : x1.length ≤ c3) (r : Bool) (H : spec_IsPlain.f k x1 = some r) :
    Calls Try.prog 6 #[.slice A2 x1.length c3] w (fun e e_w => e = .returned (.bool r) ∧ Chg [] w e_w) := by
  rw [spec_IsPlain.f] at H
  refine enter (l := [.slice A2 x1.length c3]) 52 Try.func6 rfl rfl rfl ?_
  replace h4 := rd_canon (M := []) (by decide) h4 (by simp)
  have hC := Chg.refl [] w
  refine wp_seq ?_
  refine wp_region_lit ?_
  refine lv (d := 2) rfl rfl (by kernel_rfl) (e_assign (v := .bool false) rfl) ?_
  refine wpList_nil ?_
  refine then_n ?_
  refine wp_seq ?_
  refine wp_region_lit ?_
  refine lv (d := 5) rfl rfl (by kernel_rfl) (e_move (v := .slice A2 x1.length c3) (by kernel_rfl)) ?_
  refine lv (d := 6) rfl rfl (by kernel_rfl) (e_len (A := A2) (n := x1.length) (c := c3) Try.underlying23 (by kernel_rfl)) ?_
  refine lv (d := 3) rfl rfl (by kernel_rfl) (e_assign (v := .int .i64 (x1.length : Int)) (by kernel_rfl)) ?_
  refine wpList_nil ?_
  refine then_n ?_
  refine wp_seq ?_
  refine wp_region_lit ?_
  refine lv (d := 7) rfl rfl (by kernel_rfl) (e_move (v := .slice A2 x1.length c3) (by kernel_rfl)) ?_
  refine lv (d := 8) rfl rfl (by kernel_rfl) (e_conv_bs (c := c3) Try.underlying23 Try.underlying5 Try.underlying9 (by kernel_rfl) h4) ?_
  refine lv (d := 4) rfl rfl (by kernel_rfl) (e_assign (v := str x1) (by kernel_rfl)) ?_
  refine wpList_nil ?_
  refine then_n ?_
  refine wp_seq ?_
  refine wp_seq ?_
  refine wp_region_lit ?_
  refine lv (d := 9) rfl rfl (by kernel_rfl) (e_move (v := .int .i64 (x1.length : Int)) (by kernel_rfl)) ?_
  refine lv (d := 10) rfl rfl (by kernel_rfl) (e_eql (k := .i64) (a := (x1.length : Int)) (b := 0) (by kernel_rfl) rfl) ?_
  refine lv (d := 11) rfl rfl (by kernel_rfl) (e_move (v := .bool (decide ((x1.length : Int) = 0))) (by kernel_rfl)) ?_
  by_cases q6 : (x1.length : Int) = 0
  · replace H := ifp q6 H
    refine lskip (t := 11) (c := true) rfl (by kernel_rfl) rfl (bt q6 (by kernel_rfl)) rfl rfl ?_
    refine lskip (t := 11) (c := true) rfl (by kernel_rfl) rfl (bt q6 (by kernel_rfl)) rfl rfl ?_
    refine lv (d := 14) rfl rfl (by kernel_rfl) (e_pick_t (v := .bool true) (bt q6 (by kernel_rfl)) rfl) ?_
    refine wpList_nil ?_
    refine then_n ?_
    refine cond_t rfl (by kernel_rfl) ?_
    refine wp_seq ?_
    refine wp_region_lit ?_
    refine lv (d := 2) rfl rfl (by kernel_rfl) (e_assign (v := .bool false) rfl) ?_
    refine wpList_nil ?_
    refine then_n ?_
    refine wp_ret ?_
    refine then_r ?_
    obtain rfl := Option.some.inj H
    exact ret1 (rfl) rfl  (show _ = .bool false from (by kernel_rfl)) ⟨rfl, hC⟩
  replace H := ifn q6 H
  refine lvg (d := 12) (t := 11) rfl (by kernel_rfl) rfl (bf q6 (by kernel_rfl)) rfl (by kernel_rfl) (e_move (v := .int .i64 (x1.length : Int)) (by kernel_rfl)) ?_
  refine lvg (d := 13) (t := 11) rfl (by kernel_rfl) rfl (bf q6 (by kernel_rfl)) rfl (by kernel_rfl) (e_gtr (k := .i64) (a := (x1.length : Int)) (b := 100) (by kernel_rfl) rfl) ?_
  refine lv (d := 14) rfl rfl (by kernel_rfl) (e_pick_f (v := .bool (decide ((x1.length : Int) > 100))) (bf q6 (by kernel_rfl)) (by kernel_rfl)) ?_
  refine wpList_nil ?_
  refine then_n ?_
  by_cases q7 : (x1.length : Int) > 100
  · replace H := ifp q7 H
    refine cond_t rfl (bt q7 (by kernel_rfl)) ?_
    refine wp_seq ?_
    refine wp_region_lit ?_
    refine lv (d := 2) rfl rfl (by kernel_rfl) (e_assign (v := .bool false) rfl) ?_
    refine wpList_nil ?_
    refine then_n ?_
    refine wp_ret ?_
    refine then_r ?_
    obtain rfl := Option.some.inj H
    exact ret1 (rfl) rfl  (show _ = .bool false from (by kernel_rfl)) ⟨rfl, hC⟩
  replace H := ifn q7 H
  refine cond_f rfl (bf q7 (by kernel_rfl)) ?_
  refine wp_skip ?_
  refine then_n ?_
  refine wp_seq ?_
  refine wp_seq ?_
  refine wp_region_lit ?_
  refine lv (d := 15) rfl rfl (by kernel_rfl) (e_move (v := str x1) (by kernel_rfl)) ?_
  refine lv (d := 16) rfl rfl (by kernel_rfl) (e_seql (p := x1) (q := ([33] : List UInt8)) (by kernel_rfl) rfl) ?_
  refine lv (d := 17) rfl rfl (by kernel_rfl) (e_move (v := .bool (decide (x1 = ([33] : List UInt8)))) (by kernel_rfl)) ?_
  by_cases q8 : x1 = ([33] : List UInt8)
  · replace H := ifp q8 H
    refine lskip (t := 17) (c := true) rfl (by kernel_rfl) rfl (bt q8 (by kernel_rfl)) rfl rfl ?_
    refine lskip (t := 17) (c := true) rfl (by kernel_rfl) rfl (bt q8 (by kernel_rfl)) rfl rfl ?_
    refine lv (d := 20) rfl rfl (by kernel_rfl) (e_pick_t (v := .bool true) (bt q8 (by kernel_rfl)) rfl) ?_
    refine lv (d := 21) rfl rfl (by kernel_rfl) (e_move (v := .bool true) (by kernel_rfl)) ?_
    refine lskip (t := 21) (c := true) rfl (by kernel_rfl) rfl (by kernel_rfl) rfl rfl ?_
    refine lskip (t := 21) (c := true) rfl (by kernel_rfl) rfl (by kernel_rfl) rfl rfl ?_
    refine lv (d := 24) rfl rfl (by kernel_rfl) (e_pick_t (v := .bool true) (by kernel_rfl) rfl) ?_
    refine lv (d := 25) rfl rfl (by kernel_rfl) (e_move (v := .bool true) (by kernel_rfl)) ?_
    refine lskip (t := 25) (c := true) rfl (by kernel_rfl) rfl (by kernel_rfl) rfl rfl ?_
    refine lskip (t := 25) (c := true) rfl (by kernel_rfl) rfl (by kernel_rfl) rfl rfl ?_
    refine lv (d := 28) rfl rfl (by kernel_rfl) (e_pick_t (v := .bool true) (by kernel_rfl) rfl) ?_
    refine wpList_nil ?_
    refine then_n ?_
    refine cond_t rfl (by kernel_rfl) ?_
    refine wp_seq ?_
    refine wp_region_lit ?_
    refine lv (d := 2) rfl rfl (by kernel_rfl) (e_assign (v := .bool true) rfl) ?_
    refine wpList_nil ?_
    refine then_n ?_
    refine wp_ret ?_
    refine then_r ?_
    obtain rfl := Option.some.inj H
    exact ret1 (rfl) rfl  (show _ = .bool true from (by kernel_rfl)) ⟨rfl, hC⟩
  replace H := ifn q8 H
  refine lvg (d := 18) (t := 17) rfl (by kernel_rfl) rfl (bf q8 (by kernel_rfl)) rfl (by kernel_rfl) (e_move (v := str x1) (by kernel_rfl)) ?_
  refine lvg (d := 19) (t := 17) rfl (by kernel_rfl) rfl (bf q8 (by kernel_rfl)) rfl (by kernel_rfl) (e_seql (p := x1) (q := ([59] : List UInt8)) (by kernel_rfl) rfl) ?_
  refine lv (d := 20) rfl rfl (by kernel_rfl) (e_pick_f (v := .bool (decide (x1 = ([59] : List UInt8)))) (bf q8 (by kernel_rfl)) (by kernel_rfl)) ?_
  refine lv (d := 21) rfl rfl (by kernel_rfl) (e_move (v := .bool (decide (x1 = ([59] : List UInt8)))) (by kernel_rfl)) ?_
  by_cases q9 : x1 = ([59] : List UInt8)
  · replace H := ifp q9 H
    refine lskip (t := 21) (c := true) rfl (by kernel_rfl) rfl (bt q9 (by kernel_rfl)) rfl rfl ?_
    refine lskip (t := 21) (c := true) rfl (by kernel_rfl) rfl (bt q9 (by kernel_rfl)) rfl rfl ?_
    refine lv (d := 24) rfl rfl (by kernel_rfl) (e_pick_t (v := .bool true) (bt q9 (by kernel_rfl)) rfl) ?_
    refine lv (d := 25) rfl rfl (by kernel_rfl) (e_move (v := .bool true) (by kernel_rfl)) ?_
    refine lskip (t := 25) (c := true) rfl (by kernel_rfl) rfl (by kernel_rfl) rfl rfl ?_
    refine lskip (t := 25) (c := true) rfl (by kernel_rfl) rfl (by kernel_rfl) rfl rfl ?_
    refine lv (d := 28) rfl rfl (by kernel_rfl) (e_pick_t (v := .bool true) (by kernel_rfl) rfl) ?_
    refine wpList_nil ?_
    refine then_n ?_
    refine cond_t rfl (by kernel_rfl) ?_
    refine wp_seq ?_
    refine wp_region_lit ?_
    refine lv (d := 2) rfl rfl (by kernel_rfl) (e_assign (v := .bool true) rfl) ?_
    refine wpList_nil ?_
    refine then_n ?_
    refine wp_ret ?_
    refine then_r ?_
    obtain rfl := Option.some.inj H
    exact ret1 (rfl) rfl  (show _ = .bool true from (by kernel_rfl)) ⟨rfl, hC⟩
  replace H := ifn q9 H
  refine lvg (d := 22) (t := 21) rfl (by kernel_rfl) rfl (bf q9 (by kernel_rfl)) rfl (by kernel_rfl) (e_move (v := str x1) (by kernel_rfl)) ?_
  refine lvg (d := 23) (t := 21) rfl (by kernel_rfl) rfl (bf q9 (by kernel_rfl)) rfl (by kernel_rfl) (e_seql (p := x1) (q := ([91, 93] : List UInt8)) (by kernel_rfl) rfl) ?_
  refine lv (d := 24) rfl rfl (by kernel_rfl) (e_pick_f (v := .bool (decide (x1 = ([91, 93] : List UInt8)))) (bf q9 (by kernel_rfl)) (by kernel_rfl)) ?_
  refine lv (d := 25) rfl rfl (by kernel_rfl) (e_move (v := .bool (decide (x1 = ([91, 93] : List UInt8)))) (by kernel_rfl)) ?_
  by_cases q10 : x1 = ([91, 93] : List UInt8)
  · replace H := ifp q10 H
    refine lskip (t := 25) (c := true) rfl (by kernel_rfl) rfl (bt q10 (by kernel_rfl)) rfl rfl ?_
    refine lskip (t := 25) (c := true) rfl (by kernel_rfl) rfl (bt q10 (by kernel_rfl)) rfl rfl ?_
    refine lv (d := 28) rfl rfl (by kernel_rfl) (e_pick_t (v := .bool true) (bt q10 (by kernel_rfl)) rfl) ?_
    refine wpList_nil ?_
    refine then_n ?_
    refine cond_t rfl (by kernel_rfl) ?_
    refine wp_seq ?_
    refine wp_region_lit ?_
    refine lv (d := 2) rfl rfl (by kernel_rfl) (e_assign (v := .bool true) rfl) ?_
    refine wpList_nil ?_
    refine then_n ?_
    refine wp_ret ?_
    refine then_r ?_
    obtain rfl := Option.some.inj H
    exact ret1 (rfl) rfl  (show _ = .bool true from (by kernel_rfl)) ⟨rfl, hC⟩
  replace H := ifn q10 H
  refine lvg (d := 26) (t := 25) rfl (by kernel_rfl) rfl (bf q10 (by kernel_rfl)) rfl (by kernel_rfl) (e_move (v := str x1) (by kernel_rfl)) ?_
  refine lvg (d := 27) (t := 25) rfl (by kernel_rfl) rfl (bf q10 (by kernel_rfl)) rfl (by kernel_rfl) (e_seql (p := x1) (q := ([123, 125] : List UInt8)) (by kernel_rfl) rfl) ?_
  refine lv (d := 28) rfl rfl (by kernel_rfl) (e_pick_f (v := .bool (decide (x1 = ([123, 125] : List UInt8)))) (bf q10 (by kernel_rfl)) (by kernel_rfl)) ?_
  refine wpList_nil ?_
  refine then_n ?_
  by_cases q11 : x1 = ([123, 125] : List UInt8)
  · replace H := ifp q11 H
    refine cond_t rfl (bt q11 (by kernel_rfl)) ?_
    refine wp_seq ?_
    refine wp_region_lit ?_
    refine lv (d := 2) rfl rfl (by kernel_rfl) (e_assign (v := .bool true) rfl) ?_
    refine wpList_nil ?_
    refine then_n ?_
    refine wp_ret ?_
    refine then_r ?_
    obtain rfl := Option.some.inj H
    exact ret1 (rfl) rfl  (show _ = .bool true from (by kernel_rfl)) ⟨rfl, hC⟩
  replace H := ifn q11 H
  refine cond_f rfl (bf q11 (by kernel_rfl)) ?_
  refine wp_skip ?_
  refine then_n ?_
  refine wp_seq ?_
  refine wp_seq ?_
  refine wp_region_lit ?_
  refine lv (d := 29) rfl rfl (by kernel_rfl) (e_move (v := .slice A2 x1.length c3) (by kernel_rfl)) ?_
  obtain ⟨q12, H⟩ := chk H
  obtain ⟨b13, o14, y15, e18, _, r16, k17⟩ := Rd.get h4 0 _ (getD_some (0 : UInt8) (by omega))
  obtain rfl := r16
  refine lv (d := 30) rfl rfl (by kernel_rfl) (e_indexAddr (b := b13) (off := o14) (n := x1.length) (c := c3) (sz := 1) (i := 0) (k := .i64) Try.underlying23 e18 (by kernel_rfl) (by kernel_rfl) rfl (by omega) q12) ?_
  refine lv (d := 31) rfl rfl (by kernel_rfl) (e_load1 (ad := ⟨b13, o14 + (0 : Int).toNat * 1, none⟩) (v := .int .u8 ((x1.getD 0 (0 : UInt8)).toNat : Int)) Try.underlying5 rfl (by kernel_rfl) (k17 0 _ rfl)) ?_
  obtain ⟨t19, u20, H⟩ := bnd H
  refine lcall (d := 32) rfl rfl (by kernel_rfl) (e_call (l := [.tmp 31]) (vs := [.int .u8 ((x1.getD 0 (0 : UInt8)).toNat : Int)]) Try.func16 (by kernel_rfl) rfl (by kernel_rfl) rfl) (spec_l1small.calls w (x1.getD 0 (0 : UInt8))  t19 u20) ?_
  rintro _ w21 ⟨rfl, C22⟩
  refine ⟨_, rfl, ?_⟩
  have u23 : Lt [] w.heap.size := (Lt.nil _)
  have z24 := C22.size
  replace h4 := Rd.move (fp_chg C22 (by omega) (by simp)) h4
  replace hC := hC.step C22 (fun _ h_ => by cases h_)
  refine wpList_nil ?_
  refine then_n ?_
  by_cases q25 : t19 = true
  · replace H := ifp q25 H
    refine cond_t rfl (bvt q25 (by kernel_rfl)) ?_
    refine wp_seq ?_
    refine wp_region_lit ?_
    refine lv (d := 33) rfl rfl (by kernel_rfl) (e_move (v := .slice A2 x1.length c3) (by kernel_rfl)) ?_
    obtain ⟨t26, u27, H⟩ := bnd H
    refine lcall (d := 34) rfl rfl (by kernel_rfl) (e_call (l := [.tmp 33, .const (.int .i64 0), .const (.bool false)]) (vs := [.slice A2 x1.length c3, .int .i64 0, .bool false]) Try.func17 (by kernel_rfl) rfl (by kernel_rfl) rfl) (spec_l1run.calls k w21 x1 A2 c3 0 false (Rd.mono (fun _ _ => trivial) h4) l5 t26 u27) ?_
    rintro _ w28 ⟨rfl, C29⟩
    refine ⟨_, rfl, ?_⟩
    have u30 : Lt [] w21.heap.size := (Lt.nil _)
    have z31 := C29.size
    replace hC := hC.step C29 (fun _ h_ => by cases h_)
    refine lv (d := 35) rfl rfl (by kernel_rfl) (e_move (v := .int .i64 (x1.length : Int)) (by kernel_rfl)) ?_
    refine lv (d := 36) rfl rfl (by kernel_rfl) (e_eql (k := .i64) (a := t26) (b := (x1.length : Int)) (by kernel_rfl) (by kernel_rfl)) ?_
    refine lv (d := 2) rfl rfl (by kernel_rfl) (e_assign (v := .bool (decide (t26 = (x1.length : Int)))) (by kernel_rfl)) ?_
    refine wpList_nil ?_
    refine then_n ?_
    refine wp_ret ?_
    refine then_r ?_
    obtain rfl := Option.some.inj H
    exact ret1 (rfl) rfl  (show _ = .bool (decide (t26 = (x1.length : Int))) from (by kernel_rfl)) ⟨rfl, hC⟩
  replace H := ifn q25 H
  refine cond_f rfl (bvf q25 (by kernel_rfl)) ?_
  refine wp_skip ?_
  refine then_n ?_
  refine wp_seq ?_
  refine wp_seq ?_
  refine wp_region_lit ?_
  refine lv (d := 37) rfl rfl (by kernel_rfl) (e_move (v := str x1) (by kernel_rfl)) ?_
  refine lv (d := 38) rfl rfl (by kernel_rfl) (e_seql (p := x1) (q := ([46] : List UInt8)) (by kernel_rfl) rfl) ?_
  refine lv (d := 39) rfl rfl (by kernel_rfl) (e_move (v := .bool (decide (x1 = ([46] : List UInt8)))) (by kernel_rfl)) ?_
  by_cases q32 : x1 = ([46] : List UInt8)
  · replace H := ifp q32 H
    refine lskip (t := 39) (c := true) rfl (by kernel_rfl) rfl (bt q32 (by kernel_rfl)) rfl rfl ?_
    refine lskip (t := 39) (c := true) rfl (by kernel_rfl) rfl (bt q32 (by kernel_rfl)) rfl rfl ?_
    refine lskip (t := 39) (c := true) rfl (by kernel_rfl) rfl (bt q32 (by kernel_rfl)) rfl rfl ?_
    refine lskipu (t := 42) rfl (by kernel_rfl) rfl (by kernel_rfl) rfl ?_
    refine lskipu (t := 42) rfl (by kernel_rfl) rfl (by kernel_rfl) rfl ?_
    refine lskipu (t := 42) rfl (by kernel_rfl) rfl (by kernel_rfl) rfl ?_
    refine lskip (t := 39) (c := true) rfl (by kernel_rfl) rfl (bt q32 (by kernel_rfl)) rfl rfl ?_
    refine lv (d := 47) rfl rfl (by kernel_rfl) (e_pick_t (v := .bool true) (bt q32 (by kernel_rfl)) rfl) ?_
    refine wpList_nil ?_
    refine then_n ?_
    refine cond_t rfl (by kernel_rfl) ?_
    refine wp_seq ?_
    refine wp_region_lit ?_
    refine lv (d := 2) rfl rfl (by kernel_rfl) (e_assign (v := .bool false) rfl) ?_
    refine wpList_nil ?_
    refine then_n ?_
    refine wp_ret ?_
    refine then_r ?_
    obtain rfl := Option.some.inj H
    exact ret1 (rfl) rfl  (show _ = .bool false from (by kernel_rfl)) ⟨rfl, hC⟩
  replace H := ifn q32 H
  refine lvg (d := 40) (t := 39) rfl (by kernel_rfl) rfl (bf q32 (by kernel_rfl)) rfl (by kernel_rfl) (e_move (v := .int .i64 (x1.length : Int)) (by kernel_rfl)) ?_
  refine lvg (d := 41) (t := 39) rfl (by kernel_rfl) rfl (bf q32 (by kernel_rfl)) rfl (by kernel_rfl) (e_gtr (k := .i64) (a := (x1.length : Int)) (b := 1) (by kernel_rfl) rfl) ?_
  refine lvg (d := 42) (t := 39) rfl (by kernel_rfl) rfl (bf q32 (by kernel_rfl)) rfl (by kernel_rfl) (e_move (v := .bool (decide ((x1.length : Int) > 1))) (by kernel_rfl)) ?_
  by_cases q33 : (x1.length : Int) > 1
  · replace H := ifp q33 H
    refine lvg (d := 43) (t := 42) rfl (by kernel_rfl) rfl (bt q33 (by kernel_rfl)) rfl (by kernel_rfl) (e_move (v := str x1) (by kernel_rfl)) ?_
    obtain ⟨q34, H⟩ := chk H
    refine lvg (d := 44) (t := 42) rfl (by kernel_rfl) rfl (bt q33 (by kernel_rfl)) rfl (by kernel_rfl) (e_sslice_h (p := x1) (b := 2) (k2 := .i64) Try.underlying9 (by kernel_rfl) rfl (by decide) q34) ?_
    refine lvg (d := 45) (t := 42) rfl (by kernel_rfl) rfl (bt q33 (by kernel_rfl)) rfl (by kernel_rfl) (e_seql (p := (x1.take (2 : Int).toNat)) (q := ([47, 42] : List UInt8)) (by kernel_rfl) rfl) ?_
    refine lvg (d := 46) (t := 39) rfl (by kernel_rfl) rfl (bf q32 (by kernel_rfl)) rfl (by kernel_rfl) (e_pick_t (v := .bool (decide ((x1.take (2 : Int).toNat) = ([47, 42] : List UInt8)))) (bt q33 (by kernel_rfl)) (by kernel_rfl)) ?_
    refine lv (d := 47) rfl rfl (by kernel_rfl) (e_pick_f (v := .bool (decide ((x1.take (2 : Int).toNat) = ([47, 42] : List UInt8)))) (bf q32 (by kernel_rfl)) (by kernel_rfl)) ?_
    refine wpList_nil ?_
    refine then_n ?_
    by_cases q35 : (x1.take (2 : Int).toNat) = ([47, 42] : List UInt8)
    · replace H := ifp q35 H
      refine cond_t rfl (bt q35 (by kernel_rfl)) ?_
      refine wp_seq ?_
      refine wp_region_lit ?_
      refine lv (d := 2) rfl rfl (by kernel_rfl) (e_assign (v := .bool false) rfl) ?_
      refine wpList_nil ?_
      refine then_n ?_
      refine wp_ret ?_
      refine then_r ?_
      obtain rfl := Option.some.inj H
      exact ret1 (rfl) rfl  (show _ = .bool false from (by kernel_rfl)) ⟨rfl, hC⟩
    replace H := ifn q35 H
    refine cond_f rfl (bf q35 (by kernel_rfl)) ?_
    refine wp_skip ?_
    refine then_n ?_
    refine wp_seq ?_
    refine wp_region_lit ?_
    refine lv (d := 48) rfl rfl (by kernel_rfl) (e_move (v := .slice A2 x1.length c3) (by kernel_rfl)) ?_
    obtain ⟨t36, u37, H⟩ := bnd H
    refine lcall (d := 49) rfl rfl (by kernel_rfl) (e_call (l := [.tmp 48, .const (.int .i64 0), .const (.bool true)]) (vs := [.slice A2 x1.length c3, .int .i64 0, .bool true]) Try.func17 (by kernel_rfl) rfl (by kernel_rfl) rfl) (spec_l1run.calls k w21 x1 A2 c3 0 true (Rd.mono (fun _ _ => trivial) h4) l5 t36 u37) ?_
    rintro _ w38 ⟨rfl, C39⟩
    refine ⟨_, rfl, ?_⟩
    have u40 : Lt [] w21.heap.size := (Lt.nil _)
    have z41 := C39.size
    replace hC := hC.step C39 (fun _ h_ => by cases h_)
    refine lv (d := 50) rfl rfl (by kernel_rfl) (e_move (v := .int .i64 (x1.length : Int)) (by kernel_rfl)) ?_
    refine lv (d := 51) rfl rfl (by kernel_rfl) (e_eql (k := .i64) (a := t36) (b := (x1.length : Int)) (by kernel_rfl) (by kernel_rfl)) ?_
    refine lv (d := 2) rfl rfl (by kernel_rfl) (e_assign (v := .bool (decide (t36 = (x1.length : Int)))) (by kernel_rfl)) ?_
    refine wpList_nil ?_
    refine then_n ?_
    refine wp_ret ?_
    obtain rfl := Option.some.inj H
    exact ret1 (rfl) rfl  (show _ = .bool (decide (t36 = (x1.length : Int))) from (by kernel_rfl)) ⟨rfl, hC⟩
  replace H := ifn q33 H
  refine lskip (t := 42) (c := false) rfl (by kernel_rfl) rfl (bf q33 (by kernel_rfl)) rfl rfl ?_
  refine lskip (t := 42) (c := false) rfl (by kernel_rfl) rfl (bf q33 (by kernel_rfl)) rfl rfl ?_
  refine lskip (t := 42) (c := false) rfl (by kernel_rfl) rfl (bf q33 (by kernel_rfl)) rfl rfl ?_
  refine lvg (d := 46) (t := 39) rfl (by kernel_rfl) rfl (bf q32 (by kernel_rfl)) rfl (by kernel_rfl) (e_pick_f (v := .bool false) (bf q33 (by kernel_rfl)) rfl) ?_
  refine lv (d := 47) rfl rfl (by kernel_rfl) (e_pick_f (v := .bool false) (bf q32 (by kernel_rfl)) (by kernel_rfl)) ?_
  refine wpList_nil ?_
  refine then_n ?_
  refine cond_f rfl (by kernel_rfl) ?_
  refine wp_skip ?_
  refine then_n ?_
  refine wp_seq ?_
  refine wp_region_lit ?_
  refine lv (d := 48) rfl rfl (by kernel_rfl) (e_move (v := .slice A2 x1.length c3) (by kernel_rfl)) ?_
  obtain ⟨t42, u43, H⟩ := bnd H
  refine lcall (d := 49) rfl rfl (by kernel_rfl) (e_call (l := [.tmp 48, .const (.int .i64 0), .const (.bool true)]) (vs := [.slice A2 x1.length c3, .int .i64 0, .bool true]) Try.func17 (by kernel_rfl) rfl (by kernel_rfl) rfl) (spec_l1run.calls k w21 x1 A2 c3 0 true (Rd.mono (fun _ _ => trivial) h4) l5 t42 u43) ?_
  rintro _ w44 ⟨rfl, C45⟩
  refine ⟨_, rfl, ?_⟩
  have u46 : Lt [] w21.heap.size := (Lt.nil _)
  have z47 := C45.size
  replace hC := hC.step C45 (fun _ h_ => by cases h_)
  refine lv (d := 50) rfl rfl (by kernel_rfl) (e_move (v := .int .i64 (x1.length : Int)) (by kernel_rfl)) ?_
  refine lv (d := 51) rfl rfl (by kernel_rfl) (e_eql (k := .i64) (a := t42) (b := (x1.length : Int)) (by kernel_rfl) (by kernel_rfl)) ?_
  refine lv (d := 2) rfl rfl (by kernel_rfl) (e_assign (v := .bool (decide (t42 = (x1.length : Int)))) (by kernel_rfl)) ?_
  refine wpList_nil ?_
  refine then_n ?_
  refine wp_ret ?_
  obtain rfl := Option.some.inj H
  exact ret1 (rfl) rfl  (show _ = .bool (decide (t42 = (x1.length : Int))) from (by kernel_rfl)) ⟨rfl, hC⟩

/-! laws.toByteS -/
def laws_toByteS.l0 : Nat → (List UInt8) → (List UInt8) → Int → Option (List UInt8)
  | 0, _, _, _ => none
  | k29 + 1, x1, x19, x24 => (if x24 < (x1.length : Int) then (if 0 ≤ x24 then (if x24 < (x19.length : Int) then (laws_toByteS.l0 k29 x1 (x19.set ((x24).toNat) (x1.getD (x24).toNat (0 : UInt8))) (IntKind.i64.wrap (x24 + 1))) else none) else none) else some x19)
def laws_toByteS.f (k : Nat) (x1 : List UInt8) : Option (List UInt8) := (if 0 ≤ (x1.length : Int) then (if ((x1.length : Int)).toNat ≤ 281474976710656 then (laws_toByteS.l0 k x1 (List.replicate ((x1.length : Int)).toNat (0 : UInt8)) 0) else none) else none)
theorem laws_toByteS.calls (k : Nat) (w : World) (x1 : List UInt8) (A2 : Option Addr) (c3 : Nat) (h4 : Rd tByte w any A2 x1) (l5 : x1.length ≤ c3) (r : List UInt8) (H : laws_toByteS.f k x1 = some r) :
    Calls Try.prog 7 #[.slice A2 x1.length c3] w (fun e e_w => ∃ (A_0 : Option Addr) (c_0 : Nat), e = .returned (.slice A_0 r.length c_0) ∧ Row tByte 5 e_w (FP (ge w.heap.size) e_w.heap.size []) A_0 c_0 r ∧ Chg [] w e_w) := by
  rw [laws_toByteS.f] at H
  refine enter (l := [.slice A2 x1.length c3]) 22 Try.func7 rfl rfl rfl ?_
  replace h4 := rd_canon (M := []) (by decide) h4 (by simp)
  have hC := Chg.refl [] w
  refine wp_seq ?_
  refine wp_region_lit ?_
  refine lv (d := 2) rfl rfl (by kernel_rfl) (e_assign (v := .slice none 0 0) rfl) ?_
  refine wpList_nil ?_
  refine then_n ?_
  refine wp_seq ?_
  refine wp_region_lit ?_
  refine lv (d := 5) rfl rfl (by kernel_rfl) (e_move (v := .slice A2 x1.length c3) (by kernel_rfl)) ?_
  refine lv (d := 6) rfl rfl (by kernel_rfl) (e_len (A := A2) (n := x1.length) (c := c3) Try.underlying23 (by kernel_rfl)) ?_
  obtain ⟨q6, H⟩ := chk H
  obtain ⟨q7, H⟩ := chk H
  refine lve (d := 7) rfl rfl (by kernel_rfl) (e_make' (d := tByte) (k := .i64) (k2 := .i64) (n := (x1.length : Int)) (z := .int .u8 0) (zx := (0 : UInt8)) (bytes := 1) Try.underlying23 (by kernel_rfl) rfl (by decide) (fun _ => rfl) (by kernel_rfl) (by kernel_rfl) q6 (by omega) (by omega)) ?_
  rintro _ w8 ⟨A9, c10, rfl, h11, C12, n13⟩
  have u14 : Lt [] w.heap.size := (Lt.nil _)
  have z15 := C12.size
  replace h4 := Rd.move (fp_chg C12 (by omega) (by simp)) h4
  replace hC := hC.step C12 (fun _ h_ => by cases h_)
  replace h4 := Rd.mono (fp_cons (fun b_ e_ => by have := n13 b_ e_; omega)) h4
  replace h11 := row_canon (L := ge w.heap.size) (M := []) h11 (fun b_ h_ _ => ⟨h_, fun hm_ => by have := u14 _ hm_ b_ rfl; omega⟩)
  refine lv (d := 3) rfl rfl (by kernel_rfl) (e_assign (v := .slice A9 (List.replicate ((x1.length : Int)).toNat (0 : UInt8)).length c10) (by kernel_rfl)) ?_
  refine wpList_nil ?_
  refine then_n ?_
  refine wp_seq ?_
  refine wp_seq ?_
  refine wp_region_lit ?_
  refine lv (d := 4) rfl rfl (by kernel_rfl) (e_assign (v := .int .i64 0) rfl) ?_
  refine wpList_nil ?_
  refine then_n ?_
  refine wp_block ?_
  refine wp_loop_g (fun k27 a28 w16 => ∃ (f17 : Nat → Value) (x19 : List UInt8) (A20 : Option Addr) (c21 : Nat) (x24 : Int), a28 = mk 22 f17 ∧ f17 0 = .slice A2 x1.length c3 ∧ f17 3 = .slice A20 x19.length c21 ∧ f17 4 = .int .i64 x24 ∧ Rd tByte w16 (FP any w.heap.size [bk A20]) A2 x1 ∧ Row tByte 5 w16 (FP (ge w.heap.size) w16.heap.size []) A20 c21 x19 ∧ Chg [] w w16 ∧ w8.heap.size ≤ w16.heap.size ∧ laws_toByteS.l0 k27 x1 x19 x24 = some r) k ⟨_, (List.replicate ((x1.length : Int)).toNat (0 : UInt8)), A9, c10, 0, rfl, (by kernel_rfl), (by kernel_rfl), (by kernel_rfl), (Rd.mono (fp_sub (fun _ h_ => h_) (by omega) (by simp [bk])) h4), (Row.mono (fp_sub (fun _ h_ => h_) (by omega) (by simp [bk])) h11), hC, (by omega), H⟩ ?_
  rintro k27 a28 w16 ⟨f17, x19, A20, c21, x24, rfl, e18, e23, e25, h4, h22, hC, z26, H⟩
  rcases k27 with _ | k29
  · rw [laws_toByteS.l0] at H
    cases H
  rw [laws_toByteS.l0] at H
  refine wp_seq ?_
  refine wp_seq ?_
  refine wp_region_lit ?_
  refine lv (d := 8) rfl rfl (by kernel_rfl) (e_move (v := .int .i64 x24) (by exact e25)) ?_
  refine lv (d := 9) rfl rfl (by kernel_rfl) (e_move (v := .slice A2 x1.length c3) (by exact e18)) ?_
  refine lv (d := 10) rfl rfl (by kernel_rfl) (e_len (A := A2) (n := x1.length) (c := c3) Try.underlying23 (by kernel_rfl)) ?_
  refine lv (d := 11) rfl rfl (by kernel_rfl) (e_lss (k := .i64) (a := x24) (b := (x1.length : Int)) (by kernel_rfl) (by kernel_rfl)) ?_
  refine wpList_nil ?_
  refine then_n ?_
  by_cases q30 : x24 < (x1.length : Int)
  · replace H := ifp q30 H
    refine cond_t rfl (bt q30 (by kernel_rfl)) ?_
    refine wp_skip ?_
    refine then_n ?_
    refine wp_seq ?_
    refine wp_block ?_
    refine wp_region_lit ?_
    refine lv (d := 14) rfl rfl (by kernel_rfl) (e_move (v := .slice A20 x19.length c21) (by exact e23)) ?_
    refine lv (d := 15) rfl rfl (by kernel_rfl) (e_move (v := .int .i64 x24) (by exact e25)) ?_
    refine lv (d := 16) rfl rfl (by kernel_rfl) (e_move (v := .slice A2 x1.length c3) (by exact e18)) ?_
    refine lv (d := 17) rfl rfl (by kernel_rfl) (e_move (v := .int .i64 x24) (by exact e25)) ?_
    obtain ⟨q31, H⟩ := chk H
    obtain ⟨b32, o33, y34, e37, _, r35, k36⟩ := Rd.get h4 (x24).toNat _ (getD_some (0 : UInt8) (by omega))
    obtain rfl := r35
    refine lv (d := 18) rfl rfl (by kernel_rfl) (e_indexAddr (b := b32) (off := o33) (n := x1.length) (c := c3) (sz := 1) (i := x24) (k := .i64) Try.underlying23 e37 (by kernel_rfl) (by kernel_rfl) (by kernel_rfl) q31 q30) ?_
    refine lv (d := 19) rfl rfl (by kernel_rfl) (e_load1 (ad := ⟨b32, o33 + (x24 : Int).toNat * 1, none⟩) (v := .int .u8 ((x1.getD (x24).toNat (0 : UInt8)).toNat : Int)) Try.underlying5 rfl (by kernel_rfl) (k36 0 _ rfl)) ?_
    obtain ⟨q38, H⟩ := chk H
    obtain ⟨b39, o40, y41, e44, _, r42, k43⟩ := Row.get h22 (x24).toNat _ (getD_some (0 : UInt8) (by omega))
    obtain rfl := r42
    refine lv (d := 20) rfl rfl (by kernel_rfl) (e_indexAddr (b := b39) (off := o40) (n := x19.length) (c := c21) (sz := 1) (i := x24) (k := .i64) Try.underlying23 e44 (by kernel_rfl) (by kernel_rfl) (by kernel_rfl) q31 q38) ?_
    refine lse rfl rfl (by kernel_rfl) (e_setel (d := tByte) (b := b39) (off := o40) (i := (x24).toNat) (v := .int .u8 ((x1.getD (x24).toNat (0 : UInt8)).toNat : Int)) (vs := [.int .u8 ((x1.getD (x24).toNat (0 : UInt8)).toNat : Int)]) (yv := (x1.getD (x24).toNat (0 : UInt8))) (F2 := (fun _ => False)) (by kernel_rfl) e44 (by kernel_rfl) rfl (by kernel_rfl) h22 (by omega) rfl (fun h_ => Bool.noConfusion (show false = true from h_)) (fun _ _ h_ => h_)) ?_
    rintro w45 ⟨h46, C47, s48⟩
    have z49 := C47.size
    replace h4 := Rd.move (fp_chg C47 (by omega) (by simp)) h4
    replace hC := hC.step C47 (fun o_ h_ => by simp only [List.mem_singleton] at h_; subst h_; exact .inr (fun b_ e_ => by have q_ := (h22.own b_ e_).1.1; simp only [ge] at q_; omega))
    replace h46 := row_or0 (N := []) h46 (by simp)
    refine wpList_nil ?_
    refine inb_n ?_
    refine then_n ?_
    refine wp_region_lit ?_
    refine lv (d := 12) rfl rfl (by kernel_rfl) (e_move (v := .int .i64 x24) (by exact e25)) ?_
    refine lv (d := 13) rfl rfl (by kernel_rfl) (e_add (k := .i64) (a := x24) (b := 1) (by kernel_rfl) rfl) ?_
    refine lv (d := 4) rfl rfl (by kernel_rfl) (e_assign (v := .int .i64 (IntKind.i64.wrap (x24 + 1))) (by kernel_rfl)) ?_
    refine wpList_nil ?_
    refine then_n ?_
    exact ⟨k29, Nat.lt_succ_self _, _, (x19.set ((x24).toNat) (x1.getD (x24).toNat (0 : UInt8))), A20, c21, (IntKind.i64.wrap (x24 + 1)), rfl, (by exact e18), (by simp only [List.length_set]; exact (by exact e23)), (by kernel_rfl), (Rd.mono (fp_sub (fun _ h_ => h_) (by omega) (by simp [bk])) h4), (Row.mono (fp_sub (fun _ h_ => h_) (by omega) (by simp [bk])) h46), hC, (by omega), H⟩
  replace H := ifn q30 H
  refine cond_f rfl (bf q30 (by kernel_rfl)) ?_
  refine wp_exit ?_
  refine then_e ?_
  refine then_e ?_
  refine inb_hit ?_
  refine then_n ?_
  refine wp_seq ?_
  refine wp_region_lit ?_
  refine lv (d := 21) rfl rfl (by kernel_rfl) (e_move (v := .slice A20 x19.length c21) (by exact e23)) ?_
  refine lv (d := 2) rfl rfl (by kernel_rfl) (e_assign (v := .slice A20 x19.length c21) (by kernel_rfl)) ?_
  refine wpList_nil ?_
  refine then_n ?_
  refine wp_ret ?_
  obtain rfl := Option.some.inj H
  exact ret1 (rfl) rfl  (show _ = .slice A20 x19.length c21 from (by kernel_rfl)) ⟨A20, c21, rfl, (h22.mono (fp_sub (fun _ h_ => h_) (by omega) (by simp))), hC⟩

/-! impl.isSmall -/
def impl_isSmall.f (x1 : UInt8) : Option Bool := (if (x1.toNat : Int) ≥ 97 then some (decide ((x1.toNat : Int) ≤ 122)) else some false)
theorem impl_isSmall.calls (w : World) (x1 : UInt8) (r : Bool) (H : impl_isSmall.f x1 = some r) :
    Calls Try.prog 27 #[.int .u8 (x1.toNat : Int)] w (fun e e_w => e = .returned (.bool r) ∧ Chg [] w e_w) := by
  rw [impl_isSmall.f] at H
  refine enter (l := [.int .u8 (x1.toNat : Int)]) 9 Try.func27 rfl rfl rfl ?_
  have hC := Chg.refl [] w
  refine wp_seq ?_
  refine wp_region_lit ?_
  refine lv (d := 2) rfl rfl (by kernel_rfl) (e_assign (v := .bool false) rfl) ?_
  refine wpList_nil ?_
  refine then_n ?_
  refine wp_seq ?_
  refine wp_region_lit ?_
  refine lv (d := 3) rfl rfl (by kernel_rfl) (e_move (v := .int .u8 (x1.toNat : Int)) (by kernel_rfl)) ?_
  refine lv (d := 4) rfl rfl (by kernel_rfl) (e_geq (k := .u8) (a := (x1.toNat : Int)) (b := 97) (by kernel_rfl) rfl) ?_
  refine lv (d := 5) rfl rfl (by kernel_rfl) (e_move (v := .bool (decide ((x1.toNat : Int) ≥ 97))) (by kernel_rfl)) ?_
  by_cases q2 : (x1.toNat : Int) ≥ 97
  · replace H := ifp q2 H
    refine lvg (d := 6) (t := 5) rfl (by kernel_rfl) rfl (bt q2 (by kernel_rfl)) rfl (by kernel_rfl) (e_move (v := .int .u8 (x1.toNat : Int)) (by kernel_rfl)) ?_
    refine lvg (d := 7) (t := 5) rfl (by kernel_rfl) rfl (bt q2 (by kernel_rfl)) rfl (by kernel_rfl) (e_leq (k := .u8) (a := (x1.toNat : Int)) (b := 122) (by kernel_rfl) rfl) ?_
    refine lv (d := 8) rfl rfl (by kernel_rfl) (e_pick_t (v := .bool (decide ((x1.toNat : Int) ≤ 122))) (bt q2 (by kernel_rfl)) (by kernel_rfl)) ?_
    refine lv (d := 2) rfl rfl (by kernel_rfl) (e_assign (v := .bool (decide ((x1.toNat : Int) ≤ 122))) (by kernel_rfl)) ?_
    refine wpList_nil ?_
    refine then_n ?_
    refine wp_ret ?_
    obtain rfl := Option.some.inj H
    exact ret1 (rfl) rfl  (show _ = .bool (decide ((x1.toNat : Int) ≤ 122)) from (by kernel_rfl)) ⟨rfl, hC⟩
  replace H := ifn q2 H
  refine lskip (t := 5) (c := false) rfl (by kernel_rfl) rfl (bf q2 (by kernel_rfl)) rfl rfl ?_
  refine lskip (t := 5) (c := false) rfl (by kernel_rfl) rfl (bf q2 (by kernel_rfl)) rfl rfl ?_
  refine lv (d := 8) rfl rfl (by kernel_rfl) (e_pick_f (v := .bool false) (bf q2 (by kernel_rfl)) rfl) ?_
  refine lv (d := 2) rfl rfl (by kernel_rfl) (e_assign (v := .bool false) (by kernel_rfl)) ?_
  refine wpList_nil ?_
  refine then_n ?_
  refine wp_ret ?_
  obtain rfl := Option.some.inj H
  exact ret1 (rfl) rfl  (show _ = .bool false from (by kernel_rfl)) ⟨rfl, hC⟩

/-! impl.isLetter -/
def impl_isLetter.f (x1 : UInt8) : Option Bool := ((impl_isSmall.f x1).bind fun t2 => (if t2 = true then some true else (if (x1.toNat : Int) ≥ 65 then (if (x1.toNat : Int) ≤ 90 then some true else some (decide ((x1.toNat : Int) = 95))) else some (decide ((x1.toNat : Int) = 95)))))
theorem impl_isLetter.calls (w : World) (x1 : UInt8) (r : Bool) (H : impl_isLetter.f x1 = some r) :
    Calls Try.prog 39 #[.int .u8 (x1.toNat : Int)] w (fun e e_w => e = .returned (.bool r) ∧ Chg [] w e_w) := by
  rw [impl_isLetter.f] at H
  refine enter (l := [.int .u8 (x1.toNat : Int)]) 17 Try.func39 rfl rfl rfl ?_
  have hC := Chg.refl [] w
  refine wp_seq ?_
  refine wp_region_lit ?_
  refine lv (d := 2) rfl rfl (by kernel_rfl) (e_assign (v := .bool false) rfl) ?_
  refine wpList_nil ?_
  refine then_n ?_
  refine wp_seq ?_
  refine wp_region_lit ?_
  refine lv (d := 3) rfl rfl (by kernel_rfl) (e_move (v := .int .u8 (x1.toNat : Int)) (by kernel_rfl)) ?_
  obtain ⟨t2, u3, H⟩ := bnd H
  refine lcall (d := 4) rfl rfl (by kernel_rfl) (e_call (l := [.tmp 3]) (vs := [.int .u8 (x1.toNat : Int)]) Try.func27 (by kernel_rfl) rfl (by kernel_rfl) rfl) (impl_isSmall.calls w x1  t2 u3) ?_
  rintro _ w4 ⟨rfl, C5⟩
  refine ⟨_, rfl, ?_⟩
  have u6 : Lt [] w.heap.size := (Lt.nil _)
  have z7 := C5.size
  replace hC := hC.step C5 (fun _ h_ => by cases h_)
  refine lv (d := 5) rfl rfl (by kernel_rfl) (e_move (v := .bool t2) (by kernel_rfl)) ?_
  by_cases q8 : t2 = true
  · replace H := ifp q8 H
    refine lskip (t := 5) (c := true) rfl (by kernel_rfl) rfl (bvt q8 (by kernel_rfl)) rfl rfl ?_
    refine lskip (t := 5) (c := true) rfl (by kernel_rfl) rfl (bvt q8 (by kernel_rfl)) rfl rfl ?_
    refine lskip (t := 5) (c := true) rfl (by kernel_rfl) rfl (bvt q8 (by kernel_rfl)) rfl rfl ?_
    refine lskipu (t := 8) rfl (by kernel_rfl) rfl (by kernel_rfl) rfl ?_
    refine lskipu (t := 8) rfl (by kernel_rfl) rfl (by kernel_rfl) rfl ?_
    refine lskip (t := 5) (c := true) rfl (by kernel_rfl) rfl (bvt q8 (by kernel_rfl)) rfl rfl ?_
    refine lv (d := 12) rfl rfl (by kernel_rfl) (e_pick_t (v := .bool true) (bvt q8 (by kernel_rfl)) rfl) ?_
    refine lv (d := 13) rfl rfl (by kernel_rfl) (e_move (v := .bool true) (by kernel_rfl)) ?_
    refine lskip (t := 13) (c := true) rfl (by kernel_rfl) rfl (by kernel_rfl) rfl rfl ?_
    refine lskip (t := 13) (c := true) rfl (by kernel_rfl) rfl (by kernel_rfl) rfl rfl ?_
    refine lv (d := 16) rfl rfl (by kernel_rfl) (e_pick_t (v := .bool true) (by kernel_rfl) rfl) ?_
    refine lv (d := 2) rfl rfl (by kernel_rfl) (e_assign (v := .bool true) (by kernel_rfl)) ?_
    refine wpList_nil ?_
    refine then_n ?_
    refine wp_ret ?_
    obtain rfl := Option.some.inj H
    exact ret1 (rfl) rfl  (show _ = .bool true from (by kernel_rfl)) ⟨rfl, hC⟩
  replace H := ifn q8 H
  refine lvg (d := 6) (t := 5) rfl (by kernel_rfl) rfl (bvf q8 (by kernel_rfl)) rfl (by kernel_rfl) (e_move (v := .int .u8 (x1.toNat : Int)) (by kernel_rfl)) ?_
  refine lvg (d := 7) (t := 5) rfl (by kernel_rfl) rfl (bvf q8 (by kernel_rfl)) rfl (by kernel_rfl) (e_geq (k := .u8) (a := (x1.toNat : Int)) (b := 65) (by kernel_rfl) rfl) ?_
  refine lvg (d := 8) (t := 5) rfl (by kernel_rfl) rfl (bvf q8 (by kernel_rfl)) rfl (by kernel_rfl) (e_move (v := .bool (decide ((x1.toNat : Int) ≥ 65))) (by kernel_rfl)) ?_
  by_cases q9 : (x1.toNat : Int) ≥ 65
  · replace H := ifp q9 H
    refine lvg (d := 9) (t := 8) rfl (by kernel_rfl) rfl (bt q9 (by kernel_rfl)) rfl (by kernel_rfl) (e_move (v := .int .u8 (x1.toNat : Int)) (by kernel_rfl)) ?_
    refine lvg (d := 10) (t := 8) rfl (by kernel_rfl) rfl (bt q9 (by kernel_rfl)) rfl (by kernel_rfl) (e_leq (k := .u8) (a := (x1.toNat : Int)) (b := 90) (by kernel_rfl) rfl) ?_
    refine lvg (d := 11) (t := 5) rfl (by kernel_rfl) rfl (bvf q8 (by kernel_rfl)) rfl (by kernel_rfl) (e_pick_t (v := .bool (decide ((x1.toNat : Int) ≤ 90))) (bt q9 (by kernel_rfl)) (by kernel_rfl)) ?_
    refine lv (d := 12) rfl rfl (by kernel_rfl) (e_pick_f (v := .bool (decide ((x1.toNat : Int) ≤ 90))) (bvf q8 (by kernel_rfl)) (by kernel_rfl)) ?_
    refine lv (d := 13) rfl rfl (by kernel_rfl) (e_move (v := .bool (decide ((x1.toNat : Int) ≤ 90))) (by kernel_rfl)) ?_
    by_cases q10 : (x1.toNat : Int) ≤ 90
    · replace H := ifp q10 H
      refine lskip (t := 13) (c := true) rfl (by kernel_rfl) rfl (bt q10 (by kernel_rfl)) rfl rfl ?_
      refine lskip (t := 13) (c := true) rfl (by kernel_rfl) rfl (bt q10 (by kernel_rfl)) rfl rfl ?_
      refine lv (d := 16) rfl rfl (by kernel_rfl) (e_pick_t (v := .bool true) (bt q10 (by kernel_rfl)) rfl) ?_
      refine lv (d := 2) rfl rfl (by kernel_rfl) (e_assign (v := .bool true) (by kernel_rfl)) ?_
      refine wpList_nil ?_
      refine then_n ?_
      refine wp_ret ?_
      obtain rfl := Option.some.inj H
      exact ret1 (rfl) rfl  (show _ = .bool true from (by kernel_rfl)) ⟨rfl, hC⟩
    replace H := ifn q10 H
    refine lvg (d := 14) (t := 13) rfl (by kernel_rfl) rfl (bf q10 (by kernel_rfl)) rfl (by kernel_rfl) (e_move (v := .int .u8 (x1.toNat : Int)) (by kernel_rfl)) ?_
    refine lvg (d := 15) (t := 13) rfl (by kernel_rfl) rfl (bf q10 (by kernel_rfl)) rfl (by kernel_rfl) (e_eql (k := .u8) (a := (x1.toNat : Int)) (b := 95) (by kernel_rfl) rfl) ?_
    refine lv (d := 16) rfl rfl (by kernel_rfl) (e_pick_f (v := .bool (decide ((x1.toNat : Int) = 95))) (bf q10 (by kernel_rfl)) (by kernel_rfl)) ?_
    refine lv (d := 2) rfl rfl (by kernel_rfl) (e_assign (v := .bool (decide ((x1.toNat : Int) = 95))) (by kernel_rfl)) ?_
    refine wpList_nil ?_
    refine then_n ?_
    refine wp_ret ?_
    obtain rfl := Option.some.inj H
    exact ret1 (rfl) rfl  (show _ = .bool (decide ((x1.toNat : Int) = 95)) from (by kernel_rfl)) ⟨rfl, hC⟩
  replace H := ifn q9 H
  refine lskip (t := 8) (c := false) rfl (by kernel_rfl) rfl (bf q9 (by kernel_rfl)) rfl rfl ?_
  refine lskip (t := 8) (c := false) rfl (by kernel_rfl) rfl (bf q9 (by kernel_rfl)) rfl rfl ?_
  refine lvg (d := 11) (t := 5) rfl (by kernel_rfl) rfl (bvf q8 (by kernel_rfl)) rfl (by kernel_rfl) (e_pick_f (v := .bool false) (bf q9 (by kernel_rfl)) rfl) ?_
  refine lv (d := 12) rfl rfl (by kernel_rfl) (e_pick_f (v := .bool false) (bvf q8 (by kernel_rfl)) (by kernel_rfl)) ?_
  refine lv (d := 13) rfl rfl (by kernel_rfl) (e_move (v := .bool false) (by kernel_rfl)) ?_
  refine lvg (d := 14) (t := 13) rfl (by kernel_rfl) rfl (by kernel_rfl) rfl (by kernel_rfl) (e_move (v := .int .u8 (x1.toNat : Int)) (by kernel_rfl)) ?_
  refine lvg (d := 15) (t := 13) rfl (by kernel_rfl) rfl (by kernel_rfl) rfl (by kernel_rfl) (e_eql (k := .u8) (a := (x1.toNat : Int)) (b := 95) (by kernel_rfl) rfl) ?_
  refine lv (d := 16) rfl rfl (by kernel_rfl) (e_pick_f (v := .bool (decide ((x1.toNat : Int) = 95))) (by kernel_rfl) (by kernel_rfl)) ?_
  refine lv (d := 2) rfl rfl (by kernel_rfl) (e_assign (v := .bool (decide ((x1.toNat : Int) = 95))) (by kernel_rfl)) ?_
  refine wpList_nil ?_
  refine then_n ?_
  refine wp_ret ?_
  obtain rfl := Option.some.inj H
  exact ret1 (rfl) rfl  (show _ = .bool (decide ((x1.toNat : Int) = 95)) from (by kernel_rfl)) ⟨rfl, hC⟩

/-! impl.isDigit -/
def impl_isDigit.f (x1 : UInt8) : Option Bool := (if (x1.toNat : Int) ≥ 48 then some (decide ((x1.toNat : Int) ≤ 57)) else some false)
theorem impl_isDigit.calls (w : World) (x1 : UInt8) (r : Bool) (H : impl_isDigit.f x1 = some r) :
    Calls Try.prog 40 #[.int .u8 (x1.toNat : Int)] w (fun e e_w => e = .returned (.bool r) ∧ Chg [] w e_w) := by
  rw [impl_isDigit.f] at H
  refine enter (l := [.int .u8 (x1.toNat : Int)]) 9 Try.func40 rfl rfl rfl ?_
  have hC := Chg.refl [] w
  refine wp_seq ?_
  refine wp_region_lit ?_
  refine lv (d := 2) rfl rfl (by kernel_rfl) (e_assign (v := .bool false) rfl) ?_
  refine wpList_nil ?_
  refine then_n ?_
  refine wp_seq ?_
  refine wp_region_lit ?_
  refine lv (d := 3) rfl rfl (by kernel_rfl) (e_move (v := .int .u8 (x1.toNat : Int)) (by kernel_rfl)) ?_
  refine lv (d := 4) rfl rfl (by kernel_rfl) (e_geq (k := .u8) (a := (x1.toNat : Int)) (b := 48) (by kernel_rfl) rfl) ?_
  refine lv (d := 5) rfl rfl (by kernel_rfl) (e_move (v := .bool (decide ((x1.toNat : Int) ≥ 48))) (by kernel_rfl)) ?_
  by_cases q2 : (x1.toNat : Int) ≥ 48
  · replace H := ifp q2 H
    refine lvg (d := 6) (t := 5) rfl (by kernel_rfl) rfl (bt q2 (by kernel_rfl)) rfl (by kernel_rfl) (e_move (v := .int .u8 (x1.toNat : Int)) (by kernel_rfl)) ?_
    refine lvg (d := 7) (t := 5) rfl (by kernel_rfl) rfl (bt q2 (by kernel_rfl)) rfl (by kernel_rfl) (e_leq (k := .u8) (a := (x1.toNat : Int)) (b := 57) (by kernel_rfl) rfl) ?_
    refine lv (d := 8) rfl rfl (by kernel_rfl) (e_pick_t (v := .bool (decide ((x1.toNat : Int) ≤ 57))) (bt q2 (by kernel_rfl)) (by kernel_rfl)) ?_
    refine lv (d := 2) rfl rfl (by kernel_rfl) (e_assign (v := .bool (decide ((x1.toNat : Int) ≤ 57))) (by kernel_rfl)) ?_
    refine wpList_nil ?_
    refine then_n ?_
    refine wp_ret ?_
    obtain rfl := Option.some.inj H
    exact ret1 (rfl) rfl  (show _ = .bool (decide ((x1.toNat : Int) ≤ 57)) from (by kernel_rfl)) ⟨rfl, hC⟩
  replace H := ifn q2 H
  refine lskip (t := 5) (c := false) rfl (by kernel_rfl) rfl (bf q2 (by kernel_rfl)) rfl rfl ?_
  refine lskip (t := 5) (c := false) rfl (by kernel_rfl) rfl (bf q2 (by kernel_rfl)) rfl rfl ?_
  refine lv (d := 8) rfl rfl (by kernel_rfl) (e_pick_f (v := .bool false) (bf q2 (by kernel_rfl)) rfl) ?_
  refine lv (d := 2) rfl rfl (by kernel_rfl) (e_assign (v := .bool false) (by kernel_rfl)) ?_
  refine wpList_nil ?_
  refine then_n ?_
  refine wp_ret ?_
  obtain rfl := Option.some.inj H
  exact ret1 (rfl) rfl  (show _ = .bool false from (by kernel_rfl)) ⟨rfl, hC⟩

/-! impl.isAlnum -/
def impl_isAlnum.f (x1 : UInt8) : Option Bool := ((impl_isLetter.f x1).bind fun t2 => (if t2 = true then some true else ((impl_isDigit.f x1).bind fun t9 => some t9)))
theorem impl_isAlnum.calls (w : World) (x1 : UInt8) (r : Bool) (H : impl_isAlnum.f x1 = some r) :
    Calls Try.prog 28 #[.int .u8 (x1.toNat : Int)] w (fun e e_w => e = .returned (.bool r) ∧ Chg [] w e_w) := by
  rw [impl_isAlnum.f] at H
  refine enter (l := [.int .u8 (x1.toNat : Int)]) 9 Try.func28 rfl rfl rfl ?_
  have hC := Chg.refl [] w
  refine wp_seq ?_
  refine wp_region_lit ?_
  refine lv (d := 2) rfl rfl (by kernel_rfl) (e_assign (v := .bool false) rfl) ?_
  refine wpList_nil ?_
  refine then_n ?_
  refine wp_seq ?_
  refine wp_region_lit ?_
  refine lv (d := 3) rfl rfl (by kernel_rfl) (e_move (v := .int .u8 (x1.toNat : Int)) (by kernel_rfl)) ?_
  obtain ⟨t2, u3, H⟩ := bnd H
  refine lcall (d := 4) rfl rfl (by kernel_rfl) (e_call (l := [.tmp 3]) (vs := [.int .u8 (x1.toNat : Int)]) Try.func39 (by kernel_rfl) rfl (by kernel_rfl) rfl) (impl_isLetter.calls w x1  t2 u3) ?_
  rintro _ w4 ⟨rfl, C5⟩
  refine ⟨_, rfl, ?_⟩
  have u6 : Lt [] w.heap.size := (Lt.nil _)
  have z7 := C5.size
  replace hC := hC.step C5 (fun _ h_ => by cases h_)
  refine lv (d := 5) rfl rfl (by kernel_rfl) (e_move (v := .bool t2) (by kernel_rfl)) ?_
  by_cases q8 : t2 = true
  · replace H := ifp q8 H
    refine lskip (t := 5) (c := true) rfl (by kernel_rfl) rfl (bvt q8 (by kernel_rfl)) rfl rfl ?_
    refine lskip (t := 5) (c := true) rfl (by kernel_rfl) rfl (bvt q8 (by kernel_rfl)) rfl rfl ?_
    refine lv (d := 8) rfl rfl (by kernel_rfl) (e_pick_t (v := .bool true) (bvt q8 (by kernel_rfl)) rfl) ?_
    refine lv (d := 2) rfl rfl (by kernel_rfl) (e_assign (v := .bool true) (by kernel_rfl)) ?_
    refine wpList_nil ?_
    refine then_n ?_
    refine wp_ret ?_
    obtain rfl := Option.some.inj H
    exact ret1 (rfl) rfl  (show _ = .bool true from (by kernel_rfl)) ⟨rfl, hC⟩
  replace H := ifn q8 H
  refine lvg (d := 6) (t := 5) rfl (by kernel_rfl) rfl (bvf q8 (by kernel_rfl)) rfl (by kernel_rfl) (e_move (v := .int .u8 (x1.toNat : Int)) (by kernel_rfl)) ?_
  obtain ⟨t9, u10, H⟩ := bnd H
  refine lcallg (d := 7) (t := 5) rfl (by kernel_rfl) rfl (bvf q8 (by kernel_rfl)) rfl (by kernel_rfl) (e_call (l := [.tmp 6]) (vs := [.int .u8 (x1.toNat : Int)]) Try.func40 (by kernel_rfl) rfl (by kernel_rfl) rfl) (impl_isDigit.calls w4 x1  t9 u10) ?_
  rintro _ w11 ⟨rfl, C12⟩
  refine ⟨_, rfl, ?_⟩
  have u13 : Lt [] w4.heap.size := (Lt.nil _)
  have z14 := C12.size
  replace hC := hC.step C12 (fun _ h_ => by cases h_)
  refine lv (d := 8) rfl rfl (by kernel_rfl) (e_pick_f (v := .bool t9) (bvf q8 (by kernel_rfl)) (by kernel_rfl)) ?_
  refine lv (d := 2) rfl rfl (by kernel_rfl) (e_assign (v := .bool t9) (by kernel_rfl)) ?_
  refine wpList_nil ?_
  refine then_n ?_
  refine wp_ret ?_
  obtain rfl := Option.some.inj H
  exact ret1 (rfl) rfl  (show _ = .bool t9 from (by kernel_rfl)) ⟨rfl, hC⟩

/-! impl.isSymbol -/
def impl_isSymbol.f (x1 : UInt8) : Option Bool := (if (x1.toNat : Int) = 43 then some true else (if (x1.toNat : Int) = 45 then some true else (if (x1.toNat : Int) = 42 then some true else (if (x1.toNat : Int) = 47 then some true else (if (x1.toNat : Int) = 92 then some true else (if (x1.toNat : Int) = 94 then some true else (if (x1.toNat : Int) = 60 then some true else (if (x1.toNat : Int) = 62 then some true else (if (x1.toNat : Int) = 61 then some true else (if (x1.toNat : Int) = 126 then some true else (if (x1.toNat : Int) = 58 then some true else (if (x1.toNat : Int) = 46 then some true else (if (x1.toNat : Int) = 63 then some true else (if (x1.toNat : Int) = 64 then some true else (if (x1.toNat : Int) = 35 then some true else (if (x1.toNat : Int) = 38 then some true else (if (x1.toNat : Int) = 36 then some true else some false)))))))))))))))))
theorem impl_isSymbol.calls (w : World) (x1 : UInt8) (r : Bool) (H : impl_isSymbol.f x1 = some r) :
    Calls Try.prog 29 #[.int .u8 (x1.toNat : Int)] w (fun e e_w => e = .returned (.bool r) ∧ Chg [] w e_w) := by
  rw [impl_isSymbol.f] at H
  refine enter (l := [.int .u8 (x1.toNat : Int)]) 22 Try.func29 rfl rfl rfl ?_
  have hC := Chg.refl [] w
  refine wp_seq ?_
  refine wp_region_lit ?_
  refine lv (d := 2) rfl rfl (by kernel_rfl) (e_assign (v := .bool false) rfl) ?_
  refine wpList_nil ?_
  refine then_n ?_
  refine wp_seq ?_
  refine wp_seq ?_
  refine wp_region_lit ?_
  refine lv (d := 3) rfl rfl (by kernel_rfl) (e_move (v := .int .u8 (x1.toNat : Int)) (by kernel_rfl)) ?_
  refine wpList_nil ?_
  refine then_n ?_
  refine wp_block ?_
  refine wp_seq ?_
  refine wp_seq ?_
  refine wp_region_lit ?_
  refine lv (d := 5) rfl rfl (by kernel_rfl) (e_eql (k := .u8) (a := (x1.toNat : Int)) (b := 43) (by kernel_rfl) rfl) ?_
  refine lv (d := 4) rfl rfl (by kernel_rfl) (e_assign (v := .bool (decide ((x1.toNat : Int) = 43))) (by kernel_rfl)) ?_
  refine wpList_nil ?_
  refine then_n ?_
  by_cases q2 : (x1.toNat : Int) = 43
  · replace H := ifp q2 H
    refine cond_t rfl (bt q2 (by kernel_rfl)) ?_
    refine wp_skip ?_
    refine then_n ?_
    refine cond_t rfl (bt q2 (by kernel_rfl)) ?_
    refine wp_seq ?_
    refine wp_region_lit ?_
    refine lv (d := 2) rfl rfl (by kernel_rfl) (e_assign (v := .bool true) rfl) ?_
    refine wpList_nil ?_
    refine then_n ?_
    refine wp_ret ?_
    refine inb_r ?_
    refine then_r ?_
    obtain rfl := Option.some.inj H
    exact ret1 (rfl) rfl  (show _ = .bool true from (by kernel_rfl)) ⟨rfl, hC⟩
  replace H := ifn q2 H
  refine cond_f rfl (bf q2 (by kernel_rfl)) ?_
  refine wp_seq ?_
  refine wp_region_lit ?_
  refine lv (d := 6) rfl rfl (by kernel_rfl) (e_eql (k := .u8) (a := (x1.toNat : Int)) (b := 45) (by kernel_rfl) rfl) ?_
  refine lv (d := 4) rfl rfl (by kernel_rfl) (e_assign (v := .bool (decide ((x1.toNat : Int) = 45))) (by kernel_rfl)) ?_
  refine wpList_nil ?_
  refine then_n ?_
  by_cases q3 : (x1.toNat : Int) = 45
  · replace H := ifp q3 H
    refine cond_t rfl (bt q3 (by kernel_rfl)) ?_
    refine wp_skip ?_
    refine then_n ?_
    refine cond_t rfl (bt q3 (by kernel_rfl)) ?_
    refine wp_seq ?_
    refine wp_region_lit ?_
    refine lv (d := 2) rfl rfl (by kernel_rfl) (e_assign (v := .bool true) rfl) ?_
    refine wpList_nil ?_
    refine then_n ?_
    refine wp_ret ?_
    refine inb_r ?_
    refine then_r ?_
    obtain rfl := Option.some.inj H
    exact ret1 (rfl) rfl  (show _ = .bool true from (by kernel_rfl)) ⟨rfl, hC⟩
  replace H := ifn q3 H
  refine cond_f rfl (bf q3 (by kernel_rfl)) ?_
  refine wp_seq ?_
  refine wp_region_lit ?_
  refine lv (d := 7) rfl rfl (by kernel_rfl) (e_eql (k := .u8) (a := (x1.toNat : Int)) (b := 42) (by kernel_rfl) rfl) ?_
  refine lv (d := 4) rfl rfl (by kernel_rfl) (e_assign (v := .bool (decide ((x1.toNat : Int) = 42))) (by kernel_rfl)) ?_
  refine wpList_nil ?_
  refine then_n ?_
  by_cases q4 : (x1.toNat : Int) = 42
  · replace H := ifp q4 H
    refine cond_t rfl (bt q4 (by kernel_rfl)) ?_
    refine wp_skip ?_
    refine then_n ?_
    refine cond_t rfl (bt q4 (by kernel_rfl)) ?_
    refine wp_seq ?_
    refine wp_region_lit ?_
    refine lv (d := 2) rfl rfl (by kernel_rfl) (e_assign (v := .bool true) rfl) ?_
    refine wpList_nil ?_
    refine then_n ?_
    refine wp_ret ?_
    refine inb_r ?_
    refine then_r ?_
    obtain rfl := Option.some.inj H
    exact ret1 (rfl) rfl  (show _ = .bool true from (by kernel_rfl)) ⟨rfl, hC⟩
  replace H := ifn q4 H
  refine cond_f rfl (bf q4 (by kernel_rfl)) ?_
  refine wp_seq ?_
  refine wp_region_lit ?_
  refine lv (d := 8) rfl rfl (by kernel_rfl) (e_eql (k := .u8) (a := (x1.toNat : Int)) (b := 47) (by kernel_rfl) rfl) ?_
  refine lv (d := 4) rfl rfl (by kernel_rfl) (e_assign (v := .bool (decide ((x1.toNat : Int) = 47))) (by kernel_rfl)) ?_
  refine wpList_nil ?_
  refine then_n ?_
  by_cases q5 : (x1.toNat : Int) = 47
  · replace H := ifp q5 H
    refine cond_t rfl (bt q5 (by kernel_rfl)) ?_
    refine wp_skip ?_
    refine then_n ?_
    refine cond_t rfl (bt q5 (by kernel_rfl)) ?_
    refine wp_seq ?_
    refine wp_region_lit ?_
    refine lv (d := 2) rfl rfl (by kernel_rfl) (e_assign (v := .bool true) rfl) ?_
    refine wpList_nil ?_
    refine then_n ?_
    refine wp_ret ?_
    refine inb_r ?_
    refine then_r ?_
    obtain rfl := Option.some.inj H
    exact ret1 (rfl) rfl  (show _ = .bool true from (by kernel_rfl)) ⟨rfl, hC⟩
  replace H := ifn q5 H
  refine cond_f rfl (bf q5 (by kernel_rfl)) ?_
  refine wp_seq ?_
  refine wp_region_lit ?_
  refine lv (d := 9) rfl rfl (by kernel_rfl) (e_eql (k := .u8) (a := (x1.toNat : Int)) (b := 92) (by kernel_rfl) rfl) ?_
  refine lv (d := 4) rfl rfl (by kernel_rfl) (e_assign (v := .bool (decide ((x1.toNat : Int) = 92))) (by kernel_rfl)) ?_
  refine wpList_nil ?_
  refine then_n ?_
  by_cases q6 : (x1.toNat : Int) = 92
  · replace H := ifp q6 H
    refine cond_t rfl (bt q6 (by kernel_rfl)) ?_
    refine wp_skip ?_
    refine then_n ?_
    refine cond_t rfl (bt q6 (by kernel_rfl)) ?_
    refine wp_seq ?_
    refine wp_region_lit ?_
    refine lv (d := 2) rfl rfl (by kernel_rfl) (e_assign (v := .bool true) rfl) ?_
    refine wpList_nil ?_
    refine then_n ?_
    refine wp_ret ?_
    refine inb_r ?_
    refine then_r ?_
    obtain rfl := Option.some.inj H
    exact ret1 (rfl) rfl  (show _ = .bool true from (by kernel_rfl)) ⟨rfl, hC⟩
  replace H := ifn q6 H
  refine cond_f rfl (bf q6 (by kernel_rfl)) ?_
  refine wp_seq ?_
  refine wp_region_lit ?_
  refine lv (d := 10) rfl rfl (by kernel_rfl) (e_eql (k := .u8) (a := (x1.toNat : Int)) (b := 94) (by kernel_rfl) rfl) ?_
  refine lv (d := 4) rfl rfl (by kernel_rfl) (e_assign (v := .bool (decide ((x1.toNat : Int) = 94))) (by kernel_rfl)) ?_
  refine wpList_nil ?_
  refine then_n ?_
  by_cases q7 : (x1.toNat : Int) = 94
  · replace H := ifp q7 H
    refine cond_t rfl (bt q7 (by kernel_rfl)) ?_
    refine wp_skip ?_
    refine then_n ?_
    refine cond_t rfl (bt q7 (by kernel_rfl)) ?_
    refine wp_seq ?_
    refine wp_region_lit ?_
    refine lv (d := 2) rfl rfl (by kernel_rfl) (e_assign (v := .bool true) rfl) ?_
    refine wpList_nil ?_
    refine then_n ?_
    refine wp_ret ?_
    refine inb_r ?_
    refine then_r ?_
    obtain rfl := Option.some.inj H
    exact ret1 (rfl) rfl  (show _ = .bool true from (by kernel_rfl)) ⟨rfl, hC⟩
  replace H := ifn q7 H
  refine cond_f rfl (bf q7 (by kernel_rfl)) ?_
  refine wp_seq ?_
  refine wp_region_lit ?_
  refine lv (d := 11) rfl rfl (by kernel_rfl) (e_eql (k := .u8) (a := (x1.toNat : Int)) (b := 60) (by kernel_rfl) rfl) ?_
  refine lv (d := 4) rfl rfl (by kernel_rfl) (e_assign (v := .bool (decide ((x1.toNat : Int) = 60))) (by kernel_rfl)) ?_
  refine wpList_nil ?_
  refine then_n ?_
  by_cases q8 : (x1.toNat : Int) = 60
  · replace H := ifp q8 H
    refine cond_t rfl (bt q8 (by kernel_rfl)) ?_
    refine wp_skip ?_
    refine then_n ?_
    refine cond_t rfl (bt q8 (by kernel_rfl)) ?_
    refine wp_seq ?_
    refine wp_region_lit ?_
    refine lv (d := 2) rfl rfl (by kernel_rfl) (e_assign (v := .bool true) rfl) ?_
    refine wpList_nil ?_
    refine then_n ?_
    refine wp_ret ?_
    refine inb_r ?_
    refine then_r ?_
    obtain rfl := Option.some.inj H
    exact ret1 (rfl) rfl  (show _ = .bool true from (by kernel_rfl)) ⟨rfl, hC⟩
  replace H := ifn q8 H
  refine cond_f rfl (bf q8 (by kernel_rfl)) ?_
  refine wp_seq ?_
  refine wp_region_lit ?_
  refine lv (d := 12) rfl rfl (by kernel_rfl) (e_eql (k := .u8) (a := (x1.toNat : Int)) (b := 62) (by kernel_rfl) rfl) ?_
  refine lv (d := 4) rfl rfl (by kernel_rfl) (e_assign (v := .bool (decide ((x1.toNat : Int) = 62))) (by kernel_rfl)) ?_
  refine wpList_nil ?_
  refine then_n ?_
  by_cases q9 : (x1.toNat : Int) = 62
  · replace H := ifp q9 H
    refine cond_t rfl (bt q9 (by kernel_rfl)) ?_
    refine wp_skip ?_
    refine then_n ?_
    refine cond_t rfl (bt q9 (by kernel_rfl)) ?_
    refine wp_seq ?_
    refine wp_region_lit ?_
    refine lv (d := 2) rfl rfl (by kernel_rfl) (e_assign (v := .bool true) rfl) ?_
    refine wpList_nil ?_
    refine then_n ?_
    refine wp_ret ?_
    refine inb_r ?_
    refine then_r ?_
    obtain rfl := Option.some.inj H
    exact ret1 (rfl) rfl  (show _ = .bool true from (by kernel_rfl)) ⟨rfl, hC⟩
  replace H := ifn q9 H
  refine cond_f rfl (bf q9 (by kernel_rfl)) ?_
  refine wp_seq ?_
  refine wp_region_lit ?_
  refine lv (d := 13) rfl rfl (by kernel_rfl) (e_eql (k := .u8) (a := (x1.toNat : Int)) (b := 61) (by kernel_rfl) rfl) ?_
  refine lv (d := 4) rfl rfl (by kernel_rfl) (e_assign (v := .bool (decide ((x1.toNat : Int) = 61))) (by kernel_rfl)) ?_
  refine wpList_nil ?_
  refine then_n ?_
  by_cases q10 : (x1.toNat : Int) = 61
  · replace H := ifp q10 H
    refine cond_t rfl (bt q10 (by kernel_rfl)) ?_
    refine wp_skip ?_
    refine then_n ?_
    refine cond_t rfl (bt q10 (by kernel_rfl)) ?_
    refine wp_seq ?_
    refine wp_region_lit ?_
    refine lv (d := 2) rfl rfl (by kernel_rfl) (e_assign (v := .bool true) rfl) ?_
    refine wpList_nil ?_
    refine then_n ?_
    refine wp_ret ?_
    refine inb_r ?_
    refine then_r ?_
    obtain rfl := Option.some.inj H
    exact ret1 (rfl) rfl  (show _ = .bool true from (by kernel_rfl)) ⟨rfl, hC⟩
  replace H := ifn q10 H
  refine cond_f rfl (bf q10 (by kernel_rfl)) ?_
  refine wp_seq ?_
  refine wp_region_lit ?_
  refine lv (d := 14) rfl rfl (by kernel_rfl) (e_eql (k := .u8) (a := (x1.toNat : Int)) (b := 126) (by kernel_rfl) rfl) ?_
  refine lv (d := 4) rfl rfl (by kernel_rfl) (e_assign (v := .bool (decide ((x1.toNat : Int) = 126))) (by kernel_rfl)) ?_
  refine wpList_nil ?_
  refine then_n ?_
  by_cases q11 : (x1.toNat : Int) = 126
  · replace H := ifp q11 H
    refine cond_t rfl (bt q11 (by kernel_rfl)) ?_
    refine wp_skip ?_
    refine then_n ?_
    refine cond_t rfl (bt q11 (by kernel_rfl)) ?_
    refine wp_seq ?_
    refine wp_region_lit ?_
    refine lv (d := 2) rfl rfl (by kernel_rfl) (e_assign (v := .bool true) rfl) ?_
    refine wpList_nil ?_
    refine then_n ?_
    refine wp_ret ?_
    refine inb_r ?_
    refine then_r ?_
    obtain rfl := Option.some.inj H
    exact ret1 (rfl) rfl  (show _ = .bool true from (by kernel_rfl)) ⟨rfl, hC⟩
  replace H := ifn q11 H
  refine cond_f rfl (bf q11 (by kernel_rfl)) ?_
  refine wp_seq ?_
  refine wp_region_lit ?_
  refine lv (d := 15) rfl rfl (by kernel_rfl) (e_eql (k := .u8) (a := (x1.toNat : Int)) (b := 58) (by kernel_rfl) rfl) ?_
  refine lv (d := 4) rfl rfl (by kernel_rfl) (e_assign (v := .bool (decide ((x1.toNat : Int) = 58))) (by kernel_rfl)) ?_
  refine wpList_nil ?_
  refine then_n ?_
  by_cases q12 : (x1.toNat : Int) = 58
  · replace H := ifp q12 H
    refine cond_t rfl (bt q12 (by kernel_rfl)) ?_
    refine wp_skip ?_
    refine then_n ?_
    refine cond_t rfl (bt q12 (by kernel_rfl)) ?_
    refine wp_seq ?_
    refine wp_region_lit ?_
    refine lv (d := 2) rfl rfl (by kernel_rfl) (e_assign (v := .bool true) rfl) ?_
    refine wpList_nil ?_
    refine then_n ?_
    refine wp_ret ?_
    refine inb_r ?_
    refine then_r ?_
    obtain rfl := Option.some.inj H
    exact ret1 (rfl) rfl  (show _ = .bool true from (by kernel_rfl)) ⟨rfl, hC⟩
  replace H := ifn q12 H
  refine cond_f rfl (bf q12 (by kernel_rfl)) ?_
  refine wp_seq ?_
  refine wp_region_lit ?_
  refine lv (d := 16) rfl rfl (by kernel_rfl) (e_eql (k := .u8) (a := (x1.toNat : Int)) (b := 46) (by kernel_rfl) rfl) ?_
  refine lv (d := 4) rfl rfl (by kernel_rfl) (e_assign (v := .bool (decide ((x1.toNat : Int) = 46))) (by kernel_rfl)) ?_
  refine wpList_nil ?_
  refine then_n ?_
  by_cases q13 : (x1.toNat : Int) = 46
  · replace H := ifp q13 H
    refine cond_t rfl (bt q13 (by kernel_rfl)) ?_
    refine wp_skip ?_
    refine then_n ?_
    refine cond_t rfl (bt q13 (by kernel_rfl)) ?_
    refine wp_seq ?_
    refine wp_region_lit ?_
    refine lv (d := 2) rfl rfl (by kernel_rfl) (e_assign (v := .bool true) rfl) ?_
    refine wpList_nil ?_
    refine then_n ?_
    refine wp_ret ?_
    refine inb_r ?_
    refine then_r ?_
    obtain rfl := Option.some.inj H
    exact ret1 (rfl) rfl  (show _ = .bool true from (by kernel_rfl)) ⟨rfl, hC⟩
  replace H := ifn q13 H
  refine cond_f rfl (bf q13 (by kernel_rfl)) ?_
  refine wp_seq ?_
  refine wp_region_lit ?_
  refine lv (d := 17) rfl rfl (by kernel_rfl) (e_eql (k := .u8) (a := (x1.toNat : Int)) (b := 63) (by kernel_rfl) rfl) ?_
  refine lv (d := 4) rfl rfl (by kernel_rfl) (e_assign (v := .bool (decide ((x1.toNat : Int) = 63))) (by kernel_rfl)) ?_
  refine wpList_nil ?_
  refine then_n ?_
  by_cases q14 : (x1.toNat : Int) = 63
  · replace H := ifp q14 H
    refine cond_t rfl (bt q14 (by kernel_rfl)) ?_
    refine wp_skip ?_
    refine then_n ?_
    refine cond_t rfl (bt q14 (by kernel_rfl)) ?_
    refine wp_seq ?_
    refine wp_region_lit ?_
    refine lv (d := 2) rfl rfl (by kernel_rfl) (e_assign (v := .bool true) rfl) ?_
    refine wpList_nil ?_
    refine then_n ?_
    refine wp_ret ?_
    refine inb_r ?_
    refine then_r ?_
    obtain rfl := Option.some.inj H
    exact ret1 (rfl) rfl  (show _ = .bool true from (by kernel_rfl)) ⟨rfl, hC⟩
  replace H := ifn q14 H
  refine cond_f rfl (bf q14 (by kernel_rfl)) ?_
  refine wp_seq ?_
  refine wp_region_lit ?_
  refine lv (d := 18) rfl rfl (by kernel_rfl) (e_eql (k := .u8) (a := (x1.toNat : Int)) (b := 64) (by kernel_rfl) rfl) ?_
  refine lv (d := 4) rfl rfl (by kernel_rfl) (e_assign (v := .bool (decide ((x1.toNat : Int) = 64))) (by kernel_rfl)) ?_
  refine wpList_nil ?_
  refine then_n ?_
  by_cases q15 : (x1.toNat : Int) = 64
  · replace H := ifp q15 H
    refine cond_t rfl (bt q15 (by kernel_rfl)) ?_
    refine wp_skip ?_
    refine then_n ?_
    refine cond_t rfl (bt q15 (by kernel_rfl)) ?_
    refine wp_seq ?_
    refine wp_region_lit ?_
    refine lv (d := 2) rfl rfl (by kernel_rfl) (e_assign (v := .bool true) rfl) ?_
    refine wpList_nil ?_
    refine then_n ?_
    refine wp_ret ?_
    refine inb_r ?_
    refine then_r ?_
    obtain rfl := Option.some.inj H
    exact ret1 (rfl) rfl  (show _ = .bool true from (by kernel_rfl)) ⟨rfl, hC⟩
  replace H := ifn q15 H
  refine cond_f rfl (bf q15 (by kernel_rfl)) ?_
  refine wp_seq ?_
  refine wp_region_lit ?_
  refine lv (d := 19) rfl rfl (by kernel_rfl) (e_eql (k := .u8) (a := (x1.toNat : Int)) (b := 35) (by kernel_rfl) rfl) ?_
  refine lv (d := 4) rfl rfl (by kernel_rfl) (e_assign (v := .bool (decide ((x1.toNat : Int) = 35))) (by kernel_rfl)) ?_
  refine wpList_nil ?_
  refine then_n ?_
  by_cases q16 : (x1.toNat : Int) = 35
  · replace H := ifp q16 H
    refine cond_t rfl (bt q16 (by kernel_rfl)) ?_
    refine wp_skip ?_
    refine then_n ?_
    refine cond_t rfl (bt q16 (by kernel_rfl)) ?_
    refine wp_seq ?_
    refine wp_region_lit ?_
    refine lv (d := 2) rfl rfl (by kernel_rfl) (e_assign (v := .bool true) rfl) ?_
    refine wpList_nil ?_
    refine then_n ?_
    refine wp_ret ?_
    refine inb_r ?_
    refine then_r ?_
    obtain rfl := Option.some.inj H
    exact ret1 (rfl) rfl  (show _ = .bool true from (by kernel_rfl)) ⟨rfl, hC⟩
  replace H := ifn q16 H
  refine cond_f rfl (bf q16 (by kernel_rfl)) ?_
  refine wp_seq ?_
  refine wp_region_lit ?_
  refine lv (d := 20) rfl rfl (by kernel_rfl) (e_eql (k := .u8) (a := (x1.toNat : Int)) (b := 38) (by kernel_rfl) rfl) ?_
  refine lv (d := 4) rfl rfl (by kernel_rfl) (e_assign (v := .bool (decide ((x1.toNat : Int) = 38))) (by kernel_rfl)) ?_
  refine wpList_nil ?_
  refine then_n ?_
  by_cases q17 : (x1.toNat : Int) = 38
  · replace H := ifp q17 H
    refine cond_t rfl (bt q17 (by kernel_rfl)) ?_
    refine wp_skip ?_
    refine then_n ?_
    refine cond_t rfl (bt q17 (by kernel_rfl)) ?_
    refine wp_seq ?_
    refine wp_region_lit ?_
    refine lv (d := 2) rfl rfl (by kernel_rfl) (e_assign (v := .bool true) rfl) ?_
    refine wpList_nil ?_
    refine then_n ?_
    refine wp_ret ?_
    refine inb_r ?_
    refine then_r ?_
    obtain rfl := Option.some.inj H
    exact ret1 (rfl) rfl  (show _ = .bool true from (by kernel_rfl)) ⟨rfl, hC⟩
  replace H := ifn q17 H
  refine cond_f rfl (bf q17 (by kernel_rfl)) ?_
  refine wp_region_lit ?_
  refine lv (d := 21) rfl rfl (by kernel_rfl) (e_eql (k := .u8) (a := (x1.toNat : Int)) (b := 36) (by kernel_rfl) rfl) ?_
  refine lv (d := 4) rfl rfl (by kernel_rfl) (e_assign (v := .bool (decide ((x1.toNat : Int) = 36))) (by kernel_rfl)) ?_
  refine wpList_nil ?_
  refine then_n ?_
  by_cases q18 : (x1.toNat : Int) = 36
  · replace H := ifp q18 H
    refine cond_t rfl (bt q18 (by kernel_rfl)) ?_
    refine wp_seq ?_
    refine wp_region_lit ?_
    refine lv (d := 2) rfl rfl (by kernel_rfl) (e_assign (v := .bool true) rfl) ?_
    refine wpList_nil ?_
    refine then_n ?_
    refine wp_ret ?_
    refine inb_r ?_
    refine then_r ?_
    obtain rfl := Option.some.inj H
    exact ret1 (rfl) rfl  (show _ = .bool true from (by kernel_rfl)) ⟨rfl, hC⟩
  replace H := ifn q18 H
  refine cond_f rfl (bf q18 (by kernel_rfl)) ?_
  refine wp_skip ?_
  refine inb_n ?_
  refine then_n ?_
  refine wp_seq ?_
  refine wp_region_lit ?_
  refine lv (d := 2) rfl rfl (by kernel_rfl) (e_assign (v := .bool false) rfl) ?_
  refine wpList_nil ?_
  refine then_n ?_
  refine wp_ret ?_
  obtain rfl := Option.some.inj H
  exact ret1 (rfl) rfl  (show _ = .bool false from (by kernel_rfl)) ⟨rfl, hC⟩

/-! impl.plain -/
def impl_plain.l1 : Nat → (List UInt8) → Int → Option Bool
  | 0, _, _ => none
  | k25 + 1, x1, x20 => (if x20 < (x1.length : Int) then (if 0 < (x1.length : Int) then ((impl_isSmall.f (x1.getD (0 : Int).toNat (0 : UInt8))).bind fun t28 => (if t28 = true then (if 0 ≤ x20 then ((impl_isAlnum.f (x1.getD (x20 : Int).toNat (0 : UInt8))).bind fun t36 => (if ¬ (t36 = true) then some false else ((impl_isSmall.f (x1.getD (0 : Int).toNat (0 : UInt8))).bind fun t43 => (if ¬ (t43 = true) then ((impl_isSymbol.f (x1.getD (x20 : Int).toNat (0 : UInt8))).bind fun t50 => (if ¬ (t50 = true) then some false else (impl_plain.l1 k25 x1 (IntKind.i64.wrap (x20 + 1))))) else (impl_plain.l1 k25 x1 (IntKind.i64.wrap (x20 + 1))))))) else none) else ((impl_isSmall.f (x1.getD (0 : Int).toNat (0 : UInt8))).bind fun t57 => (if ¬ (t57 = true) then (if 0 ≤ x20 then ((impl_isSymbol.f (x1.getD (x20 : Int).toNat (0 : UInt8))).bind fun t65 => (if ¬ (t65 = true) then some false else (impl_plain.l1 k25 x1 (IntKind.i64.wrap (x20 + 1))))) else none) else (impl_plain.l1 k25 x1 (IntKind.i64.wrap (x20 + 1))))))) else none) else some true)
def impl_plain.l2 : Nat → (List UInt8) → Int → Option Bool
  | 0, _, _ => none
  | k80 + 1, x1, x75 => (if x75 < (x1.length : Int) then (if 0 < (x1.length : Int) then ((impl_isSmall.f (x1.getD (0 : Int).toNat (0 : UInt8))).bind fun t83 => (if t83 = true then (if 0 ≤ x75 then ((impl_isAlnum.f (x1.getD (x75 : Int).toNat (0 : UInt8))).bind fun t91 => (if ¬ (t91 = true) then some false else ((impl_isSmall.f (x1.getD (0 : Int).toNat (0 : UInt8))).bind fun t98 => (if ¬ (t98 = true) then ((impl_isSymbol.f (x1.getD (x75 : Int).toNat (0 : UInt8))).bind fun t105 => (if ¬ (t105 = true) then some false else (impl_plain.l2 k80 x1 (IntKind.i64.wrap (x75 + 1))))) else (impl_plain.l2 k80 x1 (IntKind.i64.wrap (x75 + 1))))))) else none) else ((impl_isSmall.f (x1.getD (0 : Int).toNat (0 : UInt8))).bind fun t112 => (if ¬ (t112 = true) then (if 0 ≤ x75 then ((impl_isSymbol.f (x1.getD (x75 : Int).toNat (0 : UInt8))).bind fun t120 => (if ¬ (t120 = true) then some false else (impl_plain.l2 k80 x1 (IntKind.i64.wrap (x75 + 1))))) else none) else (impl_plain.l2 k80 x1 (IntKind.i64.wrap (x75 + 1))))))) else none) else some true)
def impl_plain.l0 (k : Nat) (x1 : List UInt8) : Option Bool := (if (x1.length : Int) > 100 then some false else (if (x1.length : Int) > 1 then (if 2 ≤ (x1.length : Int) then (if (x1.take (2 : Int).toNat) = ([47, 42] : List UInt8) then some false else (impl_plain.l1 k x1 0)) else none) else (impl_plain.l2 k x1 0)))
def impl_plain.f (k : Nat) (x1 : List UInt8) : Option Bool := (if x1 = ([33] : List UInt8) then some true else (if x1 = ([59] : List UInt8) then some true else (if x1 = ([91, 93] : List UInt8) then some true else (if x1 = ([123, 125] : List UInt8) then some true else (if x1 = ([] : List UInt8) then some false else (if x1 = ([46] : List UInt8) then some false else (impl_plain.l0 k x1)))))))
theorem impl_plain.calls (k : Nat) (w : World) (x1 : List UInt8) (r : Bool) (H : impl_plain.f k x1 = some r) :
    Calls Try.prog 18 #[str x1] w (fun e e_w => e = .returned (.bool r) ∧ Chg [] w e_w) := by
  rw [impl_plain.f] at H
  refine enter (l := [str x1]) 55 Try.func18 rfl rfl rfl ?_
  have hC := Chg.refl [] w
  refine wp_seq ?_
  refine wp_region_lit ?_
  refine lv (d := 2) rfl rfl (by kernel_rfl) (e_assign (v := .bool false) rfl) ?_
  refine wpList_nil ?_
  refine then_n ?_
  refine wp_seq_cut (fun a6 w2 => ∃ (f3 : Nat → Value), a6 = mk 55 f3 ∧ f3 0 = str x1 ∧ Chg [] w w2 ∧ w.heap.size ≤ w2.heap.size ∧ impl_plain.l0 k x1 = some r) ?_ ?_
  · refine wp_seq ?_
    refine wp_region_lit ?_
    refine lv (d := 4) rfl rfl (by kernel_rfl) (e_move (v := str x1) (by kernel_rfl)) ?_
    refine wpList_nil ?_
    refine then_n ?_
    refine wp_block ?_
    refine wp_seq ?_
    refine wp_seq ?_
    refine wp_region_lit ?_
    refine lv (d := 6) rfl rfl (by kernel_rfl) (e_seql (p := x1) (q := ([33] : List UInt8)) (by kernel_rfl) rfl) ?_
    refine lv (d := 5) rfl rfl (by kernel_rfl) (e_assign (v := .bool (decide (x1 = ([33] : List UInt8)))) (by kernel_rfl)) ?_
    refine wpList_nil ?_
    refine then_n ?_
    by_cases q7 : x1 = ([33] : List UInt8)
    · replace H := ifp q7 H
      refine cond_t rfl (bt q7 (by kernel_rfl)) ?_
      refine wp_skip ?_
      refine then_n ?_
      refine cond_t rfl (bt q7 (by kernel_rfl)) ?_
      refine wp_seq ?_
      refine wp_region_lit ?_
      refine lv (d := 2) rfl rfl (by kernel_rfl) (e_assign (v := .bool true) rfl) ?_
      refine wpList_nil ?_
      refine then_n ?_
      refine wp_ret ?_
      refine inb_r ?_
      refine then_r ?_
      obtain rfl := Option.some.inj H
      exact ret1 (rfl) rfl  (show _ = .bool true from (by kernel_rfl)) ⟨rfl, hC⟩
    replace H := ifn q7 H
    refine cond_f rfl (bf q7 (by kernel_rfl)) ?_
    refine wp_seq ?_
    refine wp_region_lit ?_
    refine lv (d := 7) rfl rfl (by kernel_rfl) (e_seql (p := x1) (q := ([59] : List UInt8)) (by kernel_rfl) rfl) ?_
    refine lv (d := 5) rfl rfl (by kernel_rfl) (e_assign (v := .bool (decide (x1 = ([59] : List UInt8)))) (by kernel_rfl)) ?_
    refine wpList_nil ?_
    refine then_n ?_
    by_cases q8 : x1 = ([59] : List UInt8)
    · replace H := ifp q8 H
      refine cond_t rfl (bt q8 (by kernel_rfl)) ?_
      refine wp_skip ?_
      refine then_n ?_
      refine cond_t rfl (bt q8 (by kernel_rfl)) ?_
      refine wp_seq ?_
      refine wp_region_lit ?_
      refine lv (d := 2) rfl rfl (by kernel_rfl) (e_assign (v := .bool true) rfl) ?_
      refine wpList_nil ?_
      refine then_n ?_
      refine wp_ret ?_
      refine inb_r ?_
      refine then_r ?_
      obtain rfl := Option.some.inj H
      exact ret1 (rfl) rfl  (show _ = .bool true from (by kernel_rfl)) ⟨rfl, hC⟩
    replace H := ifn q8 H
    refine cond_f rfl (bf q8 (by kernel_rfl)) ?_
    refine wp_seq ?_
    refine wp_region_lit ?_
    refine lv (d := 8) rfl rfl (by kernel_rfl) (e_seql (p := x1) (q := ([91, 93] : List UInt8)) (by kernel_rfl) rfl) ?_
    refine lv (d := 5) rfl rfl (by kernel_rfl) (e_assign (v := .bool (decide (x1 = ([91, 93] : List UInt8)))) (by kernel_rfl)) ?_
    refine wpList_nil ?_
    refine then_n ?_
    by_cases q9 : x1 = ([91, 93] : List UInt8)
    · replace H := ifp q9 H
      refine cond_t rfl (bt q9 (by kernel_rfl)) ?_
      refine wp_skip ?_
      refine then_n ?_
      refine cond_t rfl (bt q9 (by kernel_rfl)) ?_
      refine wp_seq ?_
      refine wp_region_lit ?_
      refine lv (d := 2) rfl rfl (by kernel_rfl) (e_assign (v := .bool true) rfl) ?_
      refine wpList_nil ?_
      refine then_n ?_
      refine wp_ret ?_
      refine inb_r ?_
      refine then_r ?_
      obtain rfl := Option.some.inj H
      exact ret1 (rfl) rfl  (show _ = .bool true from (by kernel_rfl)) ⟨rfl, hC⟩
    replace H := ifn q9 H
    refine cond_f rfl (bf q9 (by kernel_rfl)) ?_
    refine wp_region_lit ?_
    refine lv (d := 9) rfl rfl (by kernel_rfl) (e_seql (p := x1) (q := ([123, 125] : List UInt8)) (by kernel_rfl) rfl) ?_
    refine lv (d := 5) rfl rfl (by kernel_rfl) (e_assign (v := .bool (decide (x1 = ([123, 125] : List UInt8)))) (by kernel_rfl)) ?_
    refine wpList_nil ?_
    refine then_n ?_
    by_cases q10 : x1 = ([123, 125] : List UInt8)
    · replace H := ifp q10 H
      refine cond_t rfl (bt q10 (by kernel_rfl)) ?_
      refine wp_seq ?_
      refine wp_region_lit ?_
      refine lv (d := 2) rfl rfl (by kernel_rfl) (e_assign (v := .bool true) rfl) ?_
      refine wpList_nil ?_
      refine then_n ?_
      refine wp_ret ?_
      refine inb_r ?_
      refine then_r ?_
      obtain rfl := Option.some.inj H
      exact ret1 (rfl) rfl  (show _ = .bool true from (by kernel_rfl)) ⟨rfl, hC⟩
    replace H := ifn q10 H
    refine cond_f rfl (bf q10 (by kernel_rfl)) ?_
    refine wp_seq ?_
    refine wp_seq ?_
    refine wp_region_lit ?_
    refine lv (d := 11) rfl rfl (by kernel_rfl) (e_seql (p := x1) (q := ([] : List UInt8)) (by kernel_rfl) rfl) ?_
    refine lv (d := 10) rfl rfl (by kernel_rfl) (e_assign (v := .bool (decide (x1 = ([] : List UInt8)))) (by kernel_rfl)) ?_
    refine wpList_nil ?_
    refine then_n ?_
    by_cases q11 : x1 = ([] : List UInt8)
    · replace H := ifp q11 H
      refine cond_t rfl (bt q11 (by kernel_rfl)) ?_
      refine wp_skip ?_
      refine then_n ?_
      refine cond_t rfl (bt q11 (by kernel_rfl)) ?_
      refine wp_seq ?_
      refine wp_region_lit ?_
      refine lv (d := 2) rfl rfl (by kernel_rfl) (e_assign (v := .bool false) rfl) ?_
      refine wpList_nil ?_
      refine then_n ?_
      refine wp_ret ?_
      refine inb_r ?_
      refine then_r ?_
      obtain rfl := Option.some.inj H
      exact ret1 (rfl) rfl  (show _ = .bool false from (by kernel_rfl)) ⟨rfl, hC⟩
    replace H := ifn q11 H
    refine cond_f rfl (bf q11 (by kernel_rfl)) ?_
    refine wp_region_lit ?_
    refine lv (d := 12) rfl rfl (by kernel_rfl) (e_seql (p := x1) (q := ([46] : List UInt8)) (by kernel_rfl) rfl) ?_
    refine lv (d := 10) rfl rfl (by kernel_rfl) (e_assign (v := .bool (decide (x1 = ([46] : List UInt8)))) (by kernel_rfl)) ?_
    refine wpList_nil ?_
    refine then_n ?_
    by_cases q12 : x1 = ([46] : List UInt8)
    · replace H := ifp q12 H
      refine cond_t rfl (bt q12 (by kernel_rfl)) ?_
      refine wp_seq ?_
      refine wp_region_lit ?_
      refine lv (d := 2) rfl rfl (by kernel_rfl) (e_assign (v := .bool false) rfl) ?_
      refine wpList_nil ?_
      refine then_n ?_
      refine wp_ret ?_
      refine inb_r ?_
      refine then_r ?_
      obtain rfl := Option.some.inj H
      exact ret1 (rfl) rfl  (show _ = .bool false from (by kernel_rfl)) ⟨rfl, hC⟩
    replace H := ifn q12 H
    refine cond_f rfl (bf q12 (by kernel_rfl)) ?_
    refine wp_skip ?_
    refine inb_n ?_
    refine then_n ?_
    exact ⟨_, rfl, (by kernel_rfl), hC, (by omega), H⟩
  rintro a6 w2 ⟨f3, rfl, e4, hC, z5, H⟩
  rw [impl_plain.l0] at H
  refine wp_seq ?_
  refine wp_seq ?_
  refine wp_region_lit ?_
  refine lv (d := 13) rfl rfl (by kernel_rfl) (e_move (v := str x1) (by exact e4)) ?_
  refine lv (d := 14) rfl rfl (by kernel_rfl) (e_slen (p := x1) Try.underlying9 (by kernel_rfl)) ?_
  refine lv (d := 15) rfl rfl (by kernel_rfl) (e_gtr (k := .i64) (a := (x1.length : Int)) (b := 100) (by kernel_rfl) rfl) ?_
  refine lv (d := 16) rfl rfl (by kernel_rfl) (e_move (v := .bool (decide ((x1.length : Int) > 100))) (by kernel_rfl)) ?_
  by_cases q13 : (x1.length : Int) > 100
  · replace H := ifp q13 H
    refine lskip (t := 16) (c := true) rfl (by kernel_rfl) rfl (bt q13 (by kernel_rfl)) rfl rfl ?_
    refine lskip (t := 16) (c := true) rfl (by kernel_rfl) rfl (bt q13 (by kernel_rfl)) rfl rfl ?_
    refine lskip (t := 16) (c := true) rfl (by kernel_rfl) rfl (bt q13 (by kernel_rfl)) rfl rfl ?_
    refine lskip (t := 16) (c := true) rfl (by kernel_rfl) rfl (bt q13 (by kernel_rfl)) rfl rfl ?_
    refine lskipu (t := 20) rfl (by kernel_rfl) rfl (by kernel_rfl) rfl ?_
    refine lskipu (t := 20) rfl (by kernel_rfl) rfl (by kernel_rfl) rfl ?_
    refine lskipu (t := 20) rfl (by kernel_rfl) rfl (by kernel_rfl) rfl ?_
    refine lskip (t := 16) (c := true) rfl (by kernel_rfl) rfl (bt q13 (by kernel_rfl)) rfl rfl ?_
    refine lv (d := 25) rfl rfl (by kernel_rfl) (e_pick_t (v := .bool true) (bt q13 (by kernel_rfl)) rfl) ?_
    refine wpList_nil ?_
    refine then_n ?_
    refine cond_t rfl (by kernel_rfl) ?_
    refine wp_seq ?_
    refine wp_region_lit ?_
    refine lv (d := 2) rfl rfl (by kernel_rfl) (e_assign (v := .bool false) rfl) ?_
    refine wpList_nil ?_
    refine then_n ?_
    refine wp_ret ?_
    refine then_r ?_
    obtain rfl := Option.some.inj H
    exact ret1 (rfl) rfl  (show _ = .bool false from (by kernel_rfl)) ⟨rfl, hC⟩
  replace H := ifn q13 H
  refine lvg (d := 17) (t := 16) rfl (by kernel_rfl) rfl (bf q13 (by kernel_rfl)) rfl (by kernel_rfl) (e_move (v := str x1) (by exact e4)) ?_
  refine lvg (d := 18) (t := 16) rfl (by kernel_rfl) rfl (bf q13 (by kernel_rfl)) rfl (by kernel_rfl) (e_slen (p := x1) Try.underlying9 (by kernel_rfl)) ?_
  refine lvg (d := 19) (t := 16) rfl (by kernel_rfl) rfl (bf q13 (by kernel_rfl)) rfl (by kernel_rfl) (e_gtr (k := .i64) (a := (x1.length : Int)) (b := 1) (by kernel_rfl) rfl) ?_
  refine lvg (d := 20) (t := 16) rfl (by kernel_rfl) rfl (bf q13 (by kernel_rfl)) rfl (by kernel_rfl) (e_move (v := .bool (decide ((x1.length : Int) > 1))) (by kernel_rfl)) ?_
  by_cases q14 : (x1.length : Int) > 1
  · replace H := ifp q14 H
    refine lvg (d := 21) (t := 20) rfl (by kernel_rfl) rfl (bt q14 (by kernel_rfl)) rfl (by kernel_rfl) (e_move (v := str x1) (by exact e4)) ?_
    obtain ⟨q15, H⟩ := chk H
    refine lvg (d := 22) (t := 20) rfl (by kernel_rfl) rfl (bt q14 (by kernel_rfl)) rfl (by kernel_rfl) (e_sslice_h (p := x1) (b := 2) (k2 := .i64) Try.underlying9 (by kernel_rfl) rfl (by decide) q15) ?_
    refine lvg (d := 23) (t := 20) rfl (by kernel_rfl) rfl (bt q14 (by kernel_rfl)) rfl (by kernel_rfl) (e_seql (p := (x1.take (2 : Int).toNat)) (q := ([47, 42] : List UInt8)) (by kernel_rfl) rfl) ?_
    refine lvg (d := 24) (t := 16) rfl (by kernel_rfl) rfl (bf q13 (by kernel_rfl)) rfl (by kernel_rfl) (e_pick_t (v := .bool (decide ((x1.take (2 : Int).toNat) = ([47, 42] : List UInt8)))) (bt q14 (by kernel_rfl)) (by kernel_rfl)) ?_
    refine lv (d := 25) rfl rfl (by kernel_rfl) (e_pick_f (v := .bool (decide ((x1.take (2 : Int).toNat) = ([47, 42] : List UInt8)))) (bf q13 (by kernel_rfl)) (by kernel_rfl)) ?_
    refine wpList_nil ?_
    refine then_n ?_
    by_cases q16 : (x1.take (2 : Int).toNat) = ([47, 42] : List UInt8)
    · replace H := ifp q16 H
      refine cond_t rfl (bt q16 (by kernel_rfl)) ?_
      refine wp_seq ?_
      refine wp_region_lit ?_
      refine lv (d := 2) rfl rfl (by kernel_rfl) (e_assign (v := .bool false) rfl) ?_
      refine wpList_nil ?_
      refine then_n ?_
      refine wp_ret ?_
      refine then_r ?_
      obtain rfl := Option.some.inj H
      exact ret1 (rfl) rfl  (show _ = .bool false from (by kernel_rfl)) ⟨rfl, hC⟩
    replace H := ifn q16 H
    refine cond_f rfl (bf q16 (by kernel_rfl)) ?_
    refine wp_skip ?_
    refine then_n ?_
    refine wp_seq ?_
    refine wp_seq ?_
    refine wp_region_lit ?_
    refine lv (d := 3) rfl rfl (by kernel_rfl) (e_assign (v := .int .i64 0) rfl) ?_
    refine wpList_nil ?_
    refine then_n ?_
    refine wp_block ?_
    refine wp_loop_g (fun k23 a24 w17 => ∃ (f18 : Nat → Value) (x20 : Int), a24 = mk 55 f18 ∧ f18 0 = str x1 ∧ f18 3 = .int .i64 x20 ∧ Chg [] w w17 ∧ w2.heap.size ≤ w17.heap.size ∧ impl_plain.l1 k23 x1 x20 = some r) k ⟨_, 0, rfl, (by exact e4), (by kernel_rfl), hC, (by omega), H⟩ ?_
    rintro k23 a24 w17 ⟨f18, x20, rfl, e19, e21, hC, z22, H⟩
    rcases k23 with _ | k25
    · rw [impl_plain.l1] at H
      cases H
    rw [impl_plain.l1] at H
    refine wp_seq ?_
    refine wp_seq ?_
    refine wp_region_lit ?_
    refine lv (d := 26) rfl rfl (by kernel_rfl) (e_move (v := .int .i64 x20) (by exact e21)) ?_
    refine lv (d := 27) rfl rfl (by kernel_rfl) (e_move (v := str x1) (by exact e19)) ?_
    refine lv (d := 28) rfl rfl (by kernel_rfl) (e_slen (p := x1) Try.underlying9 (by kernel_rfl)) ?_
    refine lv (d := 29) rfl rfl (by kernel_rfl) (e_lss (k := .i64) (a := x20) (b := (x1.length : Int)) (by kernel_rfl) (by kernel_rfl)) ?_
    refine wpList_nil ?_
    refine then_n ?_
    by_cases q26 : x20 < (x1.length : Int)
    · replace H := ifp q26 H
      refine cond_t rfl (bt q26 (by kernel_rfl)) ?_
      refine wp_skip ?_
      refine then_n ?_
      refine wp_seq ?_
      refine wp_block ?_
      refine wp_seq ?_
      refine wp_region_lit ?_
      refine lv (d := 32) rfl rfl (by kernel_rfl) (e_move (v := str x1) (by exact e19)) ?_
      obtain ⟨q27, H⟩ := chk H
      refine lv (d := 33) rfl rfl (by kernel_rfl) (e_sindex (p := x1) (i := 0) (k := .i64) Try.underlying9 (by kernel_rfl) rfl (by decide) q27) ?_
      obtain ⟨t28, u29, H⟩ := bnd H
      refine lcall (d := 34) rfl rfl (by kernel_rfl) (e_call (l := [.tmp 33]) (vs := [.int .u8 ((x1.getD (0 : Int).toNat (0 : UInt8)).toNat : Int)]) Try.func27 (by kernel_rfl) rfl (by kernel_rfl) rfl) (impl_isSmall.calls w17 (x1.getD (0 : Int).toNat (0 : UInt8))  t28 u29) ?_
      rintro _ w30 ⟨rfl, C31⟩
      refine ⟨_, rfl, ?_⟩
      have u32 : Lt [] w17.heap.size := (Lt.nil _)
      have z33 := C31.size
      replace hC := hC.step C31 (fun _ h_ => by cases h_)
      refine lv (d := 35) rfl rfl (by kernel_rfl) (e_move (v := .bool t28) (by kernel_rfl)) ?_
      by_cases q34 : t28 = true
      · replace H := ifp q34 H
        refine lvg (d := 36) (t := 35) rfl (by kernel_rfl) rfl (bvt q34 (by kernel_rfl)) rfl (by kernel_rfl) (e_move (v := str x1) (by exact e19)) ?_
        refine lvg (d := 37) (t := 35) rfl (by kernel_rfl) rfl (bvt q34 (by kernel_rfl)) rfl (by kernel_rfl) (e_move (v := .int .i64 x20) (by exact e21)) ?_
        obtain ⟨q35, H⟩ := chk H
        refine lvg (d := 38) (t := 35) rfl (by kernel_rfl) rfl (bvt q34 (by kernel_rfl)) rfl (by kernel_rfl) (e_sindex (p := x1) (i := x20) (k := .i64) Try.underlying9 (by kernel_rfl) (by kernel_rfl) q35 q26) ?_
        obtain ⟨t36, u37, H⟩ := bnd H
        refine lcallg (d := 39) (t := 35) rfl (by kernel_rfl) rfl (bvt q34 (by kernel_rfl)) rfl (by kernel_rfl) (e_call (l := [.tmp 38]) (vs := [.int .u8 ((x1.getD (x20 : Int).toNat (0 : UInt8)).toNat : Int)]) Try.func28 (by kernel_rfl) rfl (by kernel_rfl) rfl) (impl_isAlnum.calls w30 (x1.getD (x20 : Int).toNat (0 : UInt8))  t36 u37) ?_
        rintro _ w38 ⟨rfl, C39⟩
        refine ⟨_, rfl, ?_⟩
        have u40 : Lt [] w30.heap.size := (Lt.nil _)
        have z41 := C39.size
        replace hC := hC.step C39 (fun _ h_ => by cases h_)
        refine lvg (d := 40) (t := 35) rfl (by kernel_rfl) rfl (bvt q34 (by kernel_rfl)) rfl (by kernel_rfl) (e_notv (c := t36) (by kernel_rfl)) ?_
        refine lv (d := 41) rfl rfl (by kernel_rfl) (e_pick_t (v := .bool (decide (¬ (t36 = true)))) (bvt q34 (by kernel_rfl)) (by kernel_rfl)) ?_
        refine lv (d := 42) rfl rfl (by kernel_rfl) (e_move (v := .bool (decide (¬ (t36 = true)))) (by kernel_rfl)) ?_
        by_cases q42 : ¬ (t36 = true)
        · replace H := ifp q42 H
          refine lskip (t := 42) (c := true) rfl (by kernel_rfl) rfl (bt q42 (by kernel_rfl)) rfl rfl ?_
          refine lskip (t := 42) (c := true) rfl (by kernel_rfl) rfl (bt q42 (by kernel_rfl)) rfl rfl ?_
          refine lskip (t := 42) (c := true) rfl (by kernel_rfl) rfl (bt q42 (by kernel_rfl)) rfl rfl ?_
          refine lskip (t := 42) (c := true) rfl (by kernel_rfl) rfl (bt q42 (by kernel_rfl)) rfl rfl ?_
          refine lskip (t := 42) (c := true) rfl (by kernel_rfl) rfl (bt q42 (by kernel_rfl)) rfl rfl ?_
          refine lskipu (t := 47) rfl (by kernel_rfl) rfl (by kernel_rfl) rfl ?_
          refine lskipu (t := 47) rfl (by kernel_rfl) rfl (by kernel_rfl) rfl ?_
          refine lskipu (t := 47) rfl (by kernel_rfl) rfl (by kernel_rfl) rfl ?_
          refine lskipu (t := 47) rfl (by kernel_rfl) rfl (by kernel_rfl) rfl ?_
          refine lskipu (t := 47) rfl (by kernel_rfl) rfl (by kernel_rfl) rfl ?_
          refine lskip (t := 42) (c := true) rfl (by kernel_rfl) rfl (bt q42 (by kernel_rfl)) rfl rfl ?_
          refine lv (d := 54) rfl rfl (by kernel_rfl) (e_pick_t (v := .bool true) (bt q42 (by kernel_rfl)) rfl) ?_
          refine wpList_nil ?_
          refine then_n ?_
          refine cond_t rfl (by kernel_rfl) ?_
          refine wp_seq ?_
          refine wp_region_lit ?_
          refine lv (d := 2) rfl rfl (by kernel_rfl) (e_assign (v := .bool false) rfl) ?_
          refine wpList_nil ?_
          refine then_n ?_
          refine wp_ret ?_
          refine inb_r ?_
          refine then_r ?_
          refine then_r ?_
          refine inb_r ?_
          refine then_r ?_
          obtain rfl := Option.some.inj H
          exact ret1 (rfl) rfl  (show _ = .bool false from (by kernel_rfl)) ⟨rfl, hC⟩
        replace H := ifn q42 H
        refine lvg (d := 43) (t := 42) rfl (by kernel_rfl) rfl (bf q42 (by kernel_rfl)) rfl (by kernel_rfl) (e_move (v := str x1) (by exact e19)) ?_
        refine lvg (d := 44) (t := 42) rfl (by kernel_rfl) rfl (bf q42 (by kernel_rfl)) rfl (by kernel_rfl) (e_sindex (p := x1) (i := 0) (k := .i64) Try.underlying9 (by kernel_rfl) rfl (by decide) q27) ?_
        obtain ⟨t43, u44, H⟩ := bnd H
        refine lcallg (d := 45) (t := 42) rfl (by kernel_rfl) rfl (bf q42 (by kernel_rfl)) rfl (by kernel_rfl) (e_call (l := [.tmp 44]) (vs := [.int .u8 ((x1.getD (0 : Int).toNat (0 : UInt8)).toNat : Int)]) Try.func27 (by kernel_rfl) rfl (by kernel_rfl) rfl) (impl_isSmall.calls w38 (x1.getD (0 : Int).toNat (0 : UInt8))  t43 u44) ?_
        rintro _ w45 ⟨rfl, C46⟩
        refine ⟨_, rfl, ?_⟩
        have u47 : Lt [] w38.heap.size := (Lt.nil _)
        have z48 := C46.size
        replace hC := hC.step C46 (fun _ h_ => by cases h_)
        refine lvg (d := 46) (t := 42) rfl (by kernel_rfl) rfl (bf q42 (by kernel_rfl)) rfl (by kernel_rfl) (e_notv (c := t43) (by kernel_rfl)) ?_
        refine lvg (d := 47) (t := 42) rfl (by kernel_rfl) rfl (bf q42 (by kernel_rfl)) rfl (by kernel_rfl) (e_move (v := .bool (decide (¬ (t43 = true)))) (by kernel_rfl)) ?_
        by_cases q49 : ¬ (t43 = true)
        · replace H := ifp q49 H
          refine lvg (d := 48) (t := 47) rfl (by kernel_rfl) rfl (bt q49 (by kernel_rfl)) rfl (by kernel_rfl) (e_move (v := str x1) (by exact e19)) ?_
          refine lvg (d := 49) (t := 47) rfl (by kernel_rfl) rfl (bt q49 (by kernel_rfl)) rfl (by kernel_rfl) (e_move (v := .int .i64 x20) (by exact e21)) ?_
          refine lvg (d := 50) (t := 47) rfl (by kernel_rfl) rfl (bt q49 (by kernel_rfl)) rfl (by kernel_rfl) (e_sindex (p := x1) (i := x20) (k := .i64) Try.underlying9 (by kernel_rfl) (by kernel_rfl) q35 q26) ?_
          obtain ⟨t50, u51, H⟩ := bnd H
          refine lcallg (d := 51) (t := 47) rfl (by kernel_rfl) rfl (bt q49 (by kernel_rfl)) rfl (by kernel_rfl) (e_call (l := [.tmp 50]) (vs := [.int .u8 ((x1.getD (x20 : Int).toNat (0 : UInt8)).toNat : Int)]) Try.func29 (by kernel_rfl) rfl (by kernel_rfl) rfl) (impl_isSymbol.calls w45 (x1.getD (x20 : Int).toNat (0 : UInt8))  t50 u51) ?_
          rintro _ w52 ⟨rfl, C53⟩
          refine ⟨_, rfl, ?_⟩
          have u54 : Lt [] w45.heap.size := (Lt.nil _)
          have z55 := C53.size
          replace hC := hC.step C53 (fun _ h_ => by cases h_)
          refine lvg (d := 52) (t := 47) rfl (by kernel_rfl) rfl (bt q49 (by kernel_rfl)) rfl (by kernel_rfl) (e_notv (c := t50) (by kernel_rfl)) ?_
          refine lvg (d := 53) (t := 42) rfl (by kernel_rfl) rfl (bf q42 (by kernel_rfl)) rfl (by kernel_rfl) (e_pick_t (v := .bool (decide (¬ (t50 = true)))) (bt q49 (by kernel_rfl)) (by kernel_rfl)) ?_
          refine lv (d := 54) rfl rfl (by kernel_rfl) (e_pick_f (v := .bool (decide (¬ (t50 = true)))) (bf q42 (by kernel_rfl)) (by kernel_rfl)) ?_
          refine wpList_nil ?_
          refine then_n ?_
          by_cases q56 : ¬ (t50 = true)
          · replace H := ifp q56 H
            refine cond_t rfl (bt q56 (by kernel_rfl)) ?_
            refine wp_seq ?_
            refine wp_region_lit ?_
            refine lv (d := 2) rfl rfl (by kernel_rfl) (e_assign (v := .bool false) rfl) ?_
            refine wpList_nil ?_
            refine then_n ?_
            refine wp_ret ?_
            refine inb_r ?_
            refine then_r ?_
            refine then_r ?_
            refine inb_r ?_
            refine then_r ?_
            obtain rfl := Option.some.inj H
            exact ret1 (rfl) rfl  (show _ = .bool false from (by kernel_rfl)) ⟨rfl, hC⟩
          replace H := ifn q56 H
          refine cond_f rfl (bf q56 (by kernel_rfl)) ?_
          refine wp_skip ?_
          refine inb_n ?_
          refine then_n ?_
          refine wp_region_lit ?_
          refine lv (d := 30) rfl rfl (by kernel_rfl) (e_move (v := .int .i64 x20) (by exact e21)) ?_
          refine lv (d := 31) rfl rfl (by kernel_rfl) (e_add (k := .i64) (a := x20) (b := 1) (by kernel_rfl) rfl) ?_
          refine lv (d := 3) rfl rfl (by kernel_rfl) (e_assign (v := .int .i64 (IntKind.i64.wrap (x20 + 1))) (by kernel_rfl)) ?_
          refine wpList_nil ?_
          refine then_n ?_
          exact ⟨k25, Nat.lt_succ_self _, _, (IntKind.i64.wrap (x20 + 1)), rfl, (by exact e19), (by kernel_rfl), hC, (by omega), H⟩
        replace H := ifn q49 H
        refine lskip (t := 47) (c := false) rfl (by kernel_rfl) rfl (bf q49 (by kernel_rfl)) rfl rfl ?_
        refine lskip (t := 47) (c := false) rfl (by kernel_rfl) rfl (bf q49 (by kernel_rfl)) rfl rfl ?_
        refine lskip (t := 47) (c := false) rfl (by kernel_rfl) rfl (bf q49 (by kernel_rfl)) rfl rfl ?_
        refine lskip (t := 47) (c := false) rfl (by kernel_rfl) rfl (bf q49 (by kernel_rfl)) rfl rfl ?_
        refine lskip (t := 47) (c := false) rfl (by kernel_rfl) rfl (bf q49 (by kernel_rfl)) rfl rfl ?_
        refine lvg (d := 53) (t := 42) rfl (by kernel_rfl) rfl (bf q42 (by kernel_rfl)) rfl (by kernel_rfl) (e_pick_f (v := .bool false) (bf q49 (by kernel_rfl)) rfl) ?_
        refine lv (d := 54) rfl rfl (by kernel_rfl) (e_pick_f (v := .bool false) (bf q42 (by kernel_rfl)) (by kernel_rfl)) ?_
        refine wpList_nil ?_
        refine then_n ?_
        refine cond_f rfl (by kernel_rfl) ?_
        refine wp_skip ?_
        refine inb_n ?_
        refine then_n ?_
        refine wp_region_lit ?_
        refine lv (d := 30) rfl rfl (by kernel_rfl) (e_move (v := .int .i64 x20) (by exact e21)) ?_
        refine lv (d := 31) rfl rfl (by kernel_rfl) (e_add (k := .i64) (a := x20) (b := 1) (by kernel_rfl) rfl) ?_
        refine lv (d := 3) rfl rfl (by kernel_rfl) (e_assign (v := .int .i64 (IntKind.i64.wrap (x20 + 1))) (by kernel_rfl)) ?_
        refine wpList_nil ?_
        refine then_n ?_
        exact ⟨k25, Nat.lt_succ_self _, _, (IntKind.i64.wrap (x20 + 1)), rfl, (by exact e19), (by kernel_rfl), hC, (by omega), H⟩
      replace H := ifn q34 H
      refine lskip (t := 35) (c := false) rfl (by kernel_rfl) rfl (bvf q34 (by kernel_rfl)) rfl rfl ?_
      refine lskip (t := 35) (c := false) rfl (by kernel_rfl) rfl (bvf q34 (by kernel_rfl)) rfl rfl ?_
      refine lskip (t := 35) (c := false) rfl (by kernel_rfl) rfl (bvf q34 (by kernel_rfl)) rfl rfl ?_
      refine lskip (t := 35) (c := false) rfl (by kernel_rfl) rfl (bvf q34 (by kernel_rfl)) rfl rfl ?_
      refine lskip (t := 35) (c := false) rfl (by kernel_rfl) rfl (bvf q34 (by kernel_rfl)) rfl rfl ?_
      refine lv (d := 41) rfl rfl (by kernel_rfl) (e_pick_f (v := .bool false) (bvf q34 (by kernel_rfl)) rfl) ?_
      refine lv (d := 42) rfl rfl (by kernel_rfl) (e_move (v := .bool false) (by kernel_rfl)) ?_
      refine lvg (d := 43) (t := 42) rfl (by kernel_rfl) rfl (by kernel_rfl) rfl (by kernel_rfl) (e_move (v := str x1) (by exact e19)) ?_
      refine lvg (d := 44) (t := 42) rfl (by kernel_rfl) rfl (by kernel_rfl) rfl (by kernel_rfl) (e_sindex (p := x1) (i := 0) (k := .i64) Try.underlying9 (by kernel_rfl) rfl (by decide) q27) ?_
      obtain ⟨t57, u58, H⟩ := bnd H
      refine lcallg (d := 45) (t := 42) rfl (by kernel_rfl) rfl (by kernel_rfl) rfl (by kernel_rfl) (e_call (l := [.tmp 44]) (vs := [.int .u8 ((x1.getD (0 : Int).toNat (0 : UInt8)).toNat : Int)]) Try.func27 (by kernel_rfl) rfl (by kernel_rfl) rfl) (impl_isSmall.calls w30 (x1.getD (0 : Int).toNat (0 : UInt8))  t57 u58) ?_
      rintro _ w59 ⟨rfl, C60⟩
      refine ⟨_, rfl, ?_⟩
      have u61 : Lt [] w30.heap.size := (Lt.nil _)
      have z62 := C60.size
      replace hC := hC.step C60 (fun _ h_ => by cases h_)
      refine lvg (d := 46) (t := 42) rfl (by kernel_rfl) rfl (by kernel_rfl) rfl (by kernel_rfl) (e_notv (c := t57) (by kernel_rfl)) ?_
      refine lvg (d := 47) (t := 42) rfl (by kernel_rfl) rfl (by kernel_rfl) rfl (by kernel_rfl) (e_move (v := .bool (decide (¬ (t57 = true)))) (by kernel_rfl)) ?_
      by_cases q63 : ¬ (t57 = true)
      · replace H := ifp q63 H
        refine lvg (d := 48) (t := 47) rfl (by kernel_rfl) rfl (bt q63 (by kernel_rfl)) rfl (by kernel_rfl) (e_move (v := str x1) (by exact e19)) ?_
        refine lvg (d := 49) (t := 47) rfl (by kernel_rfl) rfl (bt q63 (by kernel_rfl)) rfl (by kernel_rfl) (e_move (v := .int .i64 x20) (by exact e21)) ?_
        obtain ⟨q64, H⟩ := chk H
        refine lvg (d := 50) (t := 47) rfl (by kernel_rfl) rfl (bt q63 (by kernel_rfl)) rfl (by kernel_rfl) (e_sindex (p := x1) (i := x20) (k := .i64) Try.underlying9 (by kernel_rfl) (by kernel_rfl) q64 q26) ?_
        obtain ⟨t65, u66, H⟩ := bnd H
        refine lcallg (d := 51) (t := 47) rfl (by kernel_rfl) rfl (bt q63 (by kernel_rfl)) rfl (by kernel_rfl) (e_call (l := [.tmp 50]) (vs := [.int .u8 ((x1.getD (x20 : Int).toNat (0 : UInt8)).toNat : Int)]) Try.func29 (by kernel_rfl) rfl (by kernel_rfl) rfl) (impl_isSymbol.calls w59 (x1.getD (x20 : Int).toNat (0 : UInt8))  t65 u66) ?_
        rintro _ w67 ⟨rfl, C68⟩
        refine ⟨_, rfl, ?_⟩
        have u69 : Lt [] w59.heap.size := (Lt.nil _)
        have z70 := C68.size
        replace hC := hC.step C68 (fun _ h_ => by cases h_)
        refine lvg (d := 52) (t := 47) rfl (by kernel_rfl) rfl (bt q63 (by kernel_rfl)) rfl (by kernel_rfl) (e_notv (c := t65) (by kernel_rfl)) ?_
        refine lvg (d := 53) (t := 42) rfl (by kernel_rfl) rfl (by kernel_rfl) rfl (by kernel_rfl) (e_pick_t (v := .bool (decide (¬ (t65 = true)))) (bt q63 (by kernel_rfl)) (by kernel_rfl)) ?_
        refine lv (d := 54) rfl rfl (by kernel_rfl) (e_pick_f (v := .bool (decide (¬ (t65 = true)))) (by kernel_rfl) (by kernel_rfl)) ?_
        refine wpList_nil ?_
        refine then_n ?_
        by_cases q71 : ¬ (t65 = true)
        · replace H := ifp q71 H
          refine cond_t rfl (bt q71 (by kernel_rfl)) ?_
          refine wp_seq ?_
          refine wp_region_lit ?_
          refine lv (d := 2) rfl rfl (by kernel_rfl) (e_assign (v := .bool false) rfl) ?_
          refine wpList_nil ?_
          refine then_n ?_
          refine wp_ret ?_
          refine inb_r ?_
          refine then_r ?_
          refine then_r ?_
          refine inb_r ?_
          refine then_r ?_
          obtain rfl := Option.some.inj H
          exact ret1 (rfl) rfl  (show _ = .bool false from (by kernel_rfl)) ⟨rfl, hC⟩
        replace H := ifn q71 H
        refine cond_f rfl (bf q71 (by kernel_rfl)) ?_
        refine wp_skip ?_
        refine inb_n ?_
        refine then_n ?_
        refine wp_region_lit ?_
        refine lv (d := 30) rfl rfl (by kernel_rfl) (e_move (v := .int .i64 x20) (by exact e21)) ?_
        refine lv (d := 31) rfl rfl (by kernel_rfl) (e_add (k := .i64) (a := x20) (b := 1) (by kernel_rfl) rfl) ?_
        refine lv (d := 3) rfl rfl (by kernel_rfl) (e_assign (v := .int .i64 (IntKind.i64.wrap (x20 + 1))) (by kernel_rfl)) ?_
        refine wpList_nil ?_
        refine then_n ?_
        exact ⟨k25, Nat.lt_succ_self _, _, (IntKind.i64.wrap (x20 + 1)), rfl, (by exact e19), (by kernel_rfl), hC, (by omega), H⟩
      replace H := ifn q63 H
      refine lskip (t := 47) (c := false) rfl (by kernel_rfl) rfl (bf q63 (by kernel_rfl)) rfl rfl ?_
      refine lskip (t := 47) (c := false) rfl (by kernel_rfl) rfl (bf q63 (by kernel_rfl)) rfl rfl ?_
      refine lskip (t := 47) (c := false) rfl (by kernel_rfl) rfl (bf q63 (by kernel_rfl)) rfl rfl ?_
      refine lskip (t := 47) (c := false) rfl (by kernel_rfl) rfl (bf q63 (by kernel_rfl)) rfl rfl ?_
      refine lskip (t := 47) (c := false) rfl (by kernel_rfl) rfl (bf q63 (by kernel_rfl)) rfl rfl ?_
      refine lvg (d := 53) (t := 42) rfl (by kernel_rfl) rfl (by kernel_rfl) rfl (by kernel_rfl) (e_pick_f (v := .bool false) (bf q63 (by kernel_rfl)) rfl) ?_
      refine lv (d := 54) rfl rfl (by kernel_rfl) (e_pick_f (v := .bool false) (by kernel_rfl) (by kernel_rfl)) ?_
      refine wpList_nil ?_
      refine then_n ?_
      refine cond_f rfl (by kernel_rfl) ?_
      refine wp_skip ?_
      refine inb_n ?_
      refine then_n ?_
      refine wp_region_lit ?_
      refine lv (d := 30) rfl rfl (by kernel_rfl) (e_move (v := .int .i64 x20) (by exact e21)) ?_
      refine lv (d := 31) rfl rfl (by kernel_rfl) (e_add (k := .i64) (a := x20) (b := 1) (by kernel_rfl) rfl) ?_
      refine lv (d := 3) rfl rfl (by kernel_rfl) (e_assign (v := .int .i64 (IntKind.i64.wrap (x20 + 1))) (by kernel_rfl)) ?_
      refine wpList_nil ?_
      refine then_n ?_
      exact ⟨k25, Nat.lt_succ_self _, _, (IntKind.i64.wrap (x20 + 1)), rfl, (by exact e19), (by kernel_rfl), hC, (by omega), H⟩
    replace H := ifn q26 H
    refine cond_f rfl (bf q26 (by kernel_rfl)) ?_
    refine wp_exit ?_
    refine then_e ?_
    refine then_e ?_
    refine inb_hit ?_
    refine then_n ?_
    refine wp_seq ?_
    refine wp_region_lit ?_
    refine lv (d := 2) rfl rfl (by kernel_rfl) (e_assign (v := .bool true) rfl) ?_
    refine wpList_nil ?_
    refine then_n ?_
    refine wp_ret ?_
    obtain rfl := Option.some.inj H
    exact ret1 (rfl) rfl  (show _ = .bool true from (by kernel_rfl)) ⟨rfl, hC⟩
  replace H := ifn q14 H
  refine lskip (t := 20) (c := false) rfl (by kernel_rfl) rfl (bf q14 (by kernel_rfl)) rfl rfl ?_
  refine lskip (t := 20) (c := false) rfl (by kernel_rfl) rfl (bf q14 (by kernel_rfl)) rfl rfl ?_
  refine lskip (t := 20) (c := false) rfl (by kernel_rfl) rfl (bf q14 (by kernel_rfl)) rfl rfl ?_
  refine lvg (d := 24) (t := 16) rfl (by kernel_rfl) rfl (bf q13 (by kernel_rfl)) rfl (by kernel_rfl) (e_pick_f (v := .bool false) (bf q14 (by kernel_rfl)) rfl) ?_
  refine lv (d := 25) rfl rfl (by kernel_rfl) (e_pick_f (v := .bool false) (bf q13 (by kernel_rfl)) (by kernel_rfl)) ?_
  refine wpList_nil ?_
  refine then_n ?_
  refine cond_f rfl (by kernel_rfl) ?_
  refine wp_skip ?_
  refine then_n ?_
  refine wp_seq ?_
  refine wp_seq ?_
  refine wp_region_lit ?_
  refine lv (d := 3) rfl rfl (by kernel_rfl) (e_assign (v := .int .i64 0) rfl) ?_
  refine wpList_nil ?_
  refine then_n ?_
  refine wp_block ?_
  refine wp_loop_g (fun k78 a79 w72 => ∃ (f73 : Nat → Value) (x75 : Int), a79 = mk 55 f73 ∧ f73 0 = str x1 ∧ f73 3 = .int .i64 x75 ∧ Chg [] w w72 ∧ w2.heap.size ≤ w72.heap.size ∧ impl_plain.l2 k78 x1 x75 = some r) k ⟨_, 0, rfl, (by exact e4), (by kernel_rfl), hC, (by omega), H⟩ ?_
  rintro k78 a79 w72 ⟨f73, x75, rfl, e74, e76, hC, z77, H⟩
  rcases k78 with _ | k80
  · rw [impl_plain.l2] at H
    cases H
  rw [impl_plain.l2] at H
  refine wp_seq ?_
  refine wp_seq ?_
  refine wp_region_lit ?_
  refine lv (d := 26) rfl rfl (by kernel_rfl) (e_move (v := .int .i64 x75) (by exact e76)) ?_
  refine lv (d := 27) rfl rfl (by kernel_rfl) (e_move (v := str x1) (by exact e74)) ?_
  refine lv (d := 28) rfl rfl (by kernel_rfl) (e_slen (p := x1) Try.underlying9 (by kernel_rfl)) ?_
  refine lv (d := 29) rfl rfl (by kernel_rfl) (e_lss (k := .i64) (a := x75) (b := (x1.length : Int)) (by kernel_rfl) (by kernel_rfl)) ?_
  refine wpList_nil ?_
  refine then_n ?_
  by_cases q81 : x75 < (x1.length : Int)
  · replace H := ifp q81 H
    refine cond_t rfl (bt q81 (by kernel_rfl)) ?_
    refine wp_skip ?_
    refine then_n ?_
    refine wp_seq ?_
    refine wp_block ?_
    refine wp_seq ?_
    refine wp_region_lit ?_
    refine lv (d := 32) rfl rfl (by kernel_rfl) (e_move (v := str x1) (by exact e74)) ?_
    obtain ⟨q82, H⟩ := chk H
    refine lv (d := 33) rfl rfl (by kernel_rfl) (e_sindex (p := x1) (i := 0) (k := .i64) Try.underlying9 (by kernel_rfl) rfl (by decide) q82) ?_
    obtain ⟨t83, u84, H⟩ := bnd H
    refine lcall (d := 34) rfl rfl (by kernel_rfl) (e_call (l := [.tmp 33]) (vs := [.int .u8 ((x1.getD (0 : Int).toNat (0 : UInt8)).toNat : Int)]) Try.func27 (by kernel_rfl) rfl (by kernel_rfl) rfl) (impl_isSmall.calls w72 (x1.getD (0 : Int).toNat (0 : UInt8))  t83 u84) ?_
    rintro _ w85 ⟨rfl, C86⟩
    refine ⟨_, rfl, ?_⟩
    have u87 : Lt [] w72.heap.size := (Lt.nil _)
    have z88 := C86.size
    replace hC := hC.step C86 (fun _ h_ => by cases h_)
    refine lv (d := 35) rfl rfl (by kernel_rfl) (e_move (v := .bool t83) (by kernel_rfl)) ?_
    by_cases q89 : t83 = true
    · replace H := ifp q89 H
      refine lvg (d := 36) (t := 35) rfl (by kernel_rfl) rfl (bvt q89 (by kernel_rfl)) rfl (by kernel_rfl) (e_move (v := str x1) (by exact e74)) ?_
      refine lvg (d := 37) (t := 35) rfl (by kernel_rfl) rfl (bvt q89 (by kernel_rfl)) rfl (by kernel_rfl) (e_move (v := .int .i64 x75) (by exact e76)) ?_
      obtain ⟨q90, H⟩ := chk H
      refine lvg (d := 38) (t := 35) rfl (by kernel_rfl) rfl (bvt q89 (by kernel_rfl)) rfl (by kernel_rfl) (e_sindex (p := x1) (i := x75) (k := .i64) Try.underlying9 (by kernel_rfl) (by kernel_rfl) q90 q81) ?_
      obtain ⟨t91, u92, H⟩ := bnd H
      refine lcallg (d := 39) (t := 35) rfl (by kernel_rfl) rfl (bvt q89 (by kernel_rfl)) rfl (by kernel_rfl) (e_call (l := [.tmp 38]) (vs := [.int .u8 ((x1.getD (x75 : Int).toNat (0 : UInt8)).toNat : Int)]) Try.func28 (by kernel_rfl) rfl (by kernel_rfl) rfl) (impl_isAlnum.calls w85 (x1.getD (x75 : Int).toNat (0 : UInt8))  t91 u92) ?_
      rintro _ w93 ⟨rfl, C94⟩
      refine ⟨_, rfl, ?_⟩
      have u95 : Lt [] w85.heap.size := (Lt.nil _)
      have z96 := C94.size
      replace hC := hC.step C94 (fun _ h_ => by cases h_)
      refine lvg (d := 40) (t := 35) rfl (by kernel_rfl) rfl (bvt q89 (by kernel_rfl)) rfl (by kernel_rfl) (e_notv (c := t91) (by kernel_rfl)) ?_
      refine lv (d := 41) rfl rfl (by kernel_rfl) (e_pick_t (v := .bool (decide (¬ (t91 = true)))) (bvt q89 (by kernel_rfl)) (by kernel_rfl)) ?_
      refine lv (d := 42) rfl rfl (by kernel_rfl) (e_move (v := .bool (decide (¬ (t91 = true)))) (by kernel_rfl)) ?_
      by_cases q97 : ¬ (t91 = true)
      · replace H := ifp q97 H
        refine lskip (t := 42) (c := true) rfl (by kernel_rfl) rfl (bt q97 (by kernel_rfl)) rfl rfl ?_
        refine lskip (t := 42) (c := true) rfl (by kernel_rfl) rfl (bt q97 (by kernel_rfl)) rfl rfl ?_
        refine lskip (t := 42) (c := true) rfl (by kernel_rfl) rfl (bt q97 (by kernel_rfl)) rfl rfl ?_
        refine lskip (t := 42) (c := true) rfl (by kernel_rfl) rfl (bt q97 (by kernel_rfl)) rfl rfl ?_
        refine lskip (t := 42) (c := true) rfl (by kernel_rfl) rfl (bt q97 (by kernel_rfl)) rfl rfl ?_
        refine lskipu (t := 47) rfl (by kernel_rfl) rfl (by kernel_rfl) rfl ?_
        refine lskipu (t := 47) rfl (by kernel_rfl) rfl (by kernel_rfl) rfl ?_
        refine lskipu (t := 47) rfl (by kernel_rfl) rfl (by kernel_rfl) rfl ?_
        refine lskipu (t := 47) rfl (by kernel_rfl) rfl (by kernel_rfl) rfl ?_
        refine lskipu (t := 47) rfl (by kernel_rfl) rfl (by kernel_rfl) rfl ?_
        refine lskip (t := 42) (c := true) rfl (by kernel_rfl) rfl (bt q97 (by kernel_rfl)) rfl rfl ?_
        refine lv (d := 54) rfl rfl (by kernel_rfl) (e_pick_t (v := .bool true) (bt q97 (by kernel_rfl)) rfl) ?_
        refine wpList_nil ?_
        refine then_n ?_
        refine cond_t rfl (by kernel_rfl) ?_
        refine wp_seq ?_
        refine wp_region_lit ?_
        refine lv (d := 2) rfl rfl (by kernel_rfl) (e_assign (v := .bool false) rfl) ?_
        refine wpList_nil ?_
        refine then_n ?_
        refine wp_ret ?_
        refine inb_r ?_
        refine then_r ?_
        refine then_r ?_
        refine inb_r ?_
        refine then_r ?_
        obtain rfl := Option.some.inj H
        exact ret1 (rfl) rfl  (show _ = .bool false from (by kernel_rfl)) ⟨rfl, hC⟩
      replace H := ifn q97 H
      refine lvg (d := 43) (t := 42) rfl (by kernel_rfl) rfl (bf q97 (by kernel_rfl)) rfl (by kernel_rfl) (e_move (v := str x1) (by exact e74)) ?_
      refine lvg (d := 44) (t := 42) rfl (by kernel_rfl) rfl (bf q97 (by kernel_rfl)) rfl (by kernel_rfl) (e_sindex (p := x1) (i := 0) (k := .i64) Try.underlying9 (by kernel_rfl) rfl (by decide) q82) ?_
      obtain ⟨t98, u99, H⟩ := bnd H
      refine lcallg (d := 45) (t := 42) rfl (by kernel_rfl) rfl (bf q97 (by kernel_rfl)) rfl (by kernel_rfl) (e_call (l := [.tmp 44]) (vs := [.int .u8 ((x1.getD (0 : Int).toNat (0 : UInt8)).toNat : Int)]) Try.func27 (by kernel_rfl) rfl (by kernel_rfl) rfl) (impl_isSmall.calls w93 (x1.getD (0 : Int).toNat (0 : UInt8))  t98 u99) ?_
      rintro _ w100 ⟨rfl, C101⟩
      refine ⟨_, rfl, ?_⟩
      have u102 : Lt [] w93.heap.size := (Lt.nil _)
      have z103 := C101.size
      replace hC := hC.step C101 (fun _ h_ => by cases h_)
      refine lvg (d := 46) (t := 42) rfl (by kernel_rfl) rfl (bf q97 (by kernel_rfl)) rfl (by kernel_rfl) (e_notv (c := t98) (by kernel_rfl)) ?_
      refine lvg (d := 47) (t := 42) rfl (by kernel_rfl) rfl (bf q97 (by kernel_rfl)) rfl (by kernel_rfl) (e_move (v := .bool (decide (¬ (t98 = true)))) (by kernel_rfl)) ?_
      by_cases q104 : ¬ (t98 = true)
      · replace H := ifp q104 H
        refine lvg (d := 48) (t := 47) rfl (by kernel_rfl) rfl (bt q104 (by kernel_rfl)) rfl (by kernel_rfl) (e_move (v := str x1) (by exact e74)) ?_
        refine lvg (d := 49) (t := 47) rfl (by kernel_rfl) rfl (bt q104 (by kernel_rfl)) rfl (by kernel_rfl) (e_move (v := .int .i64 x75) (by exact e76)) ?_
        refine lvg (d := 50) (t := 47) rfl (by kernel_rfl) rfl (bt q104 (by kernel_rfl)) rfl (by kernel_rfl) (e_sindex (p := x1) (i := x75) (k := .i64) Try.underlying9 (by kernel_rfl) (by kernel_rfl) q90 q81) ?_
        obtain ⟨t105, u106, H⟩ := bnd H
        refine lcallg (d := 51) (t := 47) rfl (by kernel_rfl) rfl (bt q104 (by kernel_rfl)) rfl (by kernel_rfl) (e_call (l := [.tmp 50]) (vs := [.int .u8 ((x1.getD (x75 : Int).toNat (0 : UInt8)).toNat : Int)]) Try.func29 (by kernel_rfl) rfl (by kernel_rfl) rfl) (impl_isSymbol.calls w100 (x1.getD (x75 : Int).toNat (0 : UInt8))  t105 u106) ?_
        rintro _ w107 ⟨rfl, C108⟩
        refine ⟨_, rfl, ?_⟩
        have u109 : Lt [] w100.heap.size := (Lt.nil _)
        have z110 := C108.size
        replace hC := hC.step C108 (fun _ h_ => by cases h_)
        refine lvg (d := 52) (t := 47) rfl (by kernel_rfl) rfl (bt q104 (by kernel_rfl)) rfl (by kernel_rfl) (e_notv (c := t105) (by kernel_rfl)) ?_
        refine lvg (d := 53) (t := 42) rfl (by kernel_rfl) rfl (bf q97 (by kernel_rfl)) rfl (by kernel_rfl) (e_pick_t (v := .bool (decide (¬ (t105 = true)))) (bt q104 (by kernel_rfl)) (by kernel_rfl)) ?_
        refine lv (d := 54) rfl rfl (by kernel_rfl) (e_pick_f (v := .bool (decide (¬ (t105 = true)))) (bf q97 (by kernel_rfl)) (by kernel_rfl)) ?_
        refine wpList_nil ?_
        refine then_n ?_
        by_cases q111 : ¬ (t105 = true)
        · replace H := ifp q111 H
          refine cond_t rfl (bt q111 (by kernel_rfl)) ?_
          refine wp_seq ?_
          refine wp_region_lit ?_
          refine lv (d := 2) rfl rfl (by kernel_rfl) (e_assign (v := .bool false) rfl) ?_
          refine wpList_nil ?_
          refine then_n ?_
          refine wp_ret ?_
          refine inb_r ?_
          refine then_r ?_
          refine then_r ?_
          refine inb_r ?_
          refine then_r ?_
          obtain rfl := Option.some.inj H
          exact ret1 (rfl) rfl  (show _ = .bool false from (by kernel_rfl)) ⟨rfl, hC⟩
        replace H := ifn q111 H
        refine cond_f rfl (bf q111 (by kernel_rfl)) ?_
        refine wp_skip ?_
        refine inb_n ?_
        refine then_n ?_
        refine wp_region_lit ?_
        refine lv (d := 30) rfl rfl (by kernel_rfl) (e_move (v := .int .i64 x75) (by exact e76)) ?_
        refine lv (d := 31) rfl rfl (by kernel_rfl) (e_add (k := .i64) (a := x75) (b := 1) (by kernel_rfl) rfl) ?_
        refine lv (d := 3) rfl rfl (by kernel_rfl) (e_assign (v := .int .i64 (IntKind.i64.wrap (x75 + 1))) (by kernel_rfl)) ?_
        refine wpList_nil ?_
        refine then_n ?_
        exact ⟨k80, Nat.lt_succ_self _, _, (IntKind.i64.wrap (x75 + 1)), rfl, (by exact e74), (by kernel_rfl), hC, (by omega), H⟩
      replace H := ifn q104 H
      refine lskip (t := 47) (c := false) rfl (by kernel_rfl) rfl (bf q104 (by kernel_rfl)) rfl rfl ?_
      refine lskip (t := 47) (c := false) rfl (by kernel_rfl) rfl (bf q104 (by kernel_rfl)) rfl rfl ?_
      refine lskip (t := 47) (c := false) rfl (by kernel_rfl) rfl (bf q104 (by kernel_rfl)) rfl rfl ?_
      refine lskip (t := 47) (c := false) rfl (by kernel_rfl) rfl (bf q104 (by kernel_rfl)) rfl rfl ?_
      refine lskip (t := 47) (c := false) rfl (by kernel_rfl) rfl (bf q104 (by kernel_rfl)) rfl rfl ?_
      refine lvg (d := 53) (t := 42) rfl (by kernel_rfl) rfl (bf q97 (by kernel_rfl)) rfl (by kernel_rfl) (e_pick_f (v := .bool false) (bf q104 (by kernel_rfl)) rfl) ?_
      refine lv (d := 54) rfl rfl (by kernel_rfl) (e_pick_f (v := .bool false) (bf q97 (by kernel_rfl)) (by kernel_rfl)) ?_
      refine wpList_nil ?_
      refine then_n ?_
      refine cond_f rfl (by kernel_rfl) ?_
      refine wp_skip ?_
      refine inb_n ?_
      refine then_n ?_
      refine wp_region_lit ?_
      refine lv (d := 30) rfl rfl (by kernel_rfl) (e_move (v := .int .i64 x75) (by exact e76)) ?_
      refine lv (d := 31) rfl rfl (by kernel_rfl) (e_add (k := .i64) (a := x75) (b := 1) (by kernel_rfl) rfl) ?_
      refine lv (d := 3) rfl rfl (by kernel_rfl) (e_assign (v := .int .i64 (IntKind.i64.wrap (x75 + 1))) (by kernel_rfl)) ?_
      refine wpList_nil ?_
      refine then_n ?_
      exact ⟨k80, Nat.lt_succ_self _, _, (IntKind.i64.wrap (x75 + 1)), rfl, (by exact e74), (by kernel_rfl), hC, (by omega), H⟩
    replace H := ifn q89 H
    refine lskip (t := 35) (c := false) rfl (by kernel_rfl) rfl (bvf q89 (by kernel_rfl)) rfl rfl ?_
    refine lskip (t := 35) (c := false) rfl (by kernel_rfl) rfl (bvf q89 (by kernel_rfl)) rfl rfl ?_
    refine lskip (t := 35) (c := false) rfl (by kernel_rfl) rfl (bvf q89 (by kernel_rfl)) rfl rfl ?_
    refine lskip (t := 35) (c := false) rfl (by kernel_rfl) rfl (bvf q89 (by kernel_rfl)) rfl rfl ?_
    refine lskip (t := 35) (c := false) rfl (by kernel_rfl) rfl (bvf q89 (by kernel_rfl)) rfl rfl ?_
    refine lv (d := 41) rfl rfl (by kernel_rfl) (e_pick_f (v := .bool false) (bvf q89 (by kernel_rfl)) rfl) ?_
    refine lv (d := 42) rfl rfl (by kernel_rfl) (e_move (v := .bool false) (by kernel_rfl)) ?_
    refine lvg (d := 43) (t := 42) rfl (by kernel_rfl) rfl (by kernel_rfl) rfl (by kernel_rfl) (e_move (v := str x1) (by exact e74)) ?_
    refine lvg (d := 44) (t := 42) rfl (by kernel_rfl) rfl (by kernel_rfl) rfl (by kernel_rfl) (e_sindex (p := x1) (i := 0) (k := .i64) Try.underlying9 (by kernel_rfl) rfl (by decide) q82) ?_
    obtain ⟨t112, u113, H⟩ := bnd H
    refine lcallg (d := 45) (t := 42) rfl (by kernel_rfl) rfl (by kernel_rfl) rfl (by kernel_rfl) (e_call (l := [.tmp 44]) (vs := [.int .u8 ((x1.getD (0 : Int).toNat (0 : UInt8)).toNat : Int)]) Try.func27 (by kernel_rfl) rfl (by kernel_rfl) rfl) (impl_isSmall.calls w85 (x1.getD (0 : Int).toNat (0 : UInt8))  t112 u113) ?_
    rintro _ w114 ⟨rfl, C115⟩
    refine ⟨_, rfl, ?_⟩
    have u116 : Lt [] w85.heap.size := (Lt.nil _)
    have z117 := C115.size
    replace hC := hC.step C115 (fun _ h_ => by cases h_)
    refine lvg (d := 46) (t := 42) rfl (by kernel_rfl) rfl (by kernel_rfl) rfl (by kernel_rfl) (e_notv (c := t112) (by kernel_rfl)) ?_
    refine lvg (d := 47) (t := 42) rfl (by kernel_rfl) rfl (by kernel_rfl) rfl (by kernel_rfl) (e_move (v := .bool (decide (¬ (t112 = true)))) (by kernel_rfl)) ?_
    by_cases q118 : ¬ (t112 = true)
    · replace H := ifp q118 H
      refine lvg (d := 48) (t := 47) rfl (by kernel_rfl) rfl (bt q118 (by kernel_rfl)) rfl (by kernel_rfl) (e_move (v := str x1) (by exact e74)) ?_
      refine lvg (d := 49) (t := 47) rfl (by kernel_rfl) rfl (bt q118 (by kernel_rfl)) rfl (by kernel_rfl) (e_move (v := .int .i64 x75) (by exact e76)) ?_
      obtain ⟨q119, H⟩ := chk H
      refine lvg (d := 50) (t := 47) rfl (by kernel_rfl) rfl (bt q118 (by kernel_rfl)) rfl (by kernel_rfl) (e_sindex (p := x1) (i := x75) (k := .i64) Try.underlying9 (by kernel_rfl) (by kernel_rfl) q119 q81) ?_
      obtain ⟨t120, u121, H⟩ := bnd H
      refine lcallg (d := 51) (t := 47) rfl (by kernel_rfl) rfl (bt q118 (by kernel_rfl)) rfl (by kernel_rfl) (e_call (l := [.tmp 50]) (vs := [.int .u8 ((x1.getD (x75 : Int).toNat (0 : UInt8)).toNat : Int)]) Try.func29 (by kernel_rfl) rfl (by kernel_rfl) rfl) (impl_isSymbol.calls w114 (x1.getD (x75 : Int).toNat (0 : UInt8))  t120 u121) ?_
      rintro _ w122 ⟨rfl, C123⟩
      refine ⟨_, rfl, ?_⟩
      have u124 : Lt [] w114.heap.size := (Lt.nil _)
      have z125 := C123.size
      replace hC := hC.step C123 (fun _ h_ => by cases h_)
      refine lvg (d := 52) (t := 47) rfl (by kernel_rfl) rfl (bt q118 (by kernel_rfl)) rfl (by kernel_rfl) (e_notv (c := t120) (by kernel_rfl)) ?_
      refine lvg (d := 53) (t := 42) rfl (by kernel_rfl) rfl (by kernel_rfl) rfl (by kernel_rfl) (e_pick_t (v := .bool (decide (¬ (t120 = true)))) (bt q118 (by kernel_rfl)) (by kernel_rfl)) ?_
      refine lv (d := 54) rfl rfl (by kernel_rfl) (e_pick_f (v := .bool (decide (¬ (t120 = true)))) (by kernel_rfl) (by kernel_rfl)) ?_
      refine wpList_nil ?_
      refine then_n ?_
      by_cases q126 : ¬ (t120 = true)
      · replace H := ifp q126 H
        refine cond_t rfl (bt q126 (by kernel_rfl)) ?_
        refine wp_seq ?_
        refine wp_region_lit ?_
        refine lv (d := 2) rfl rfl (by kernel_rfl) (e_assign (v := .bool false) rfl) ?_
        refine wpList_nil ?_
        refine then_n ?_
        refine wp_ret ?_
        refine inb_r ?_
        refine then_r ?_
        refine then_r ?_
        refine inb_r ?_
        refine then_r ?_
        obtain rfl := Option.some.inj H
        exact ret1 (rfl) rfl  (show _ = .bool false from (by kernel_rfl)) ⟨rfl, hC⟩
      replace H := ifn q126 H
      refine cond_f rfl (bf q126 (by kernel_rfl)) ?_
      refine wp_skip ?_
      refine inb_n ?_
      refine then_n ?_
      refine wp_region_lit ?_
      refine lv (d := 30) rfl rfl (by kernel_rfl) (e_move (v := .int .i64 x75) (by exact e76)) ?_
      refine lv (d := 31) rfl rfl (by kernel_rfl) (e_add (k := .i64) (a := x75) (b := 1) (by kernel_rfl) rfl) ?_
      refine lv (d := 3) rfl rfl (by kernel_rfl) (e_assign (v := .int .i64 (IntKind.i64.wrap (x75 + 1))) (by kernel_rfl)) ?_
      refine wpList_nil ?_
      refine then_n ?_
      exact ⟨k80, Nat.lt_succ_self _, _, (IntKind.i64.wrap (x75 + 1)), rfl, (by exact e74), (by kernel_rfl), hC, (by omega), H⟩
    replace H := ifn q118 H
    refine lskip (t := 47) (c := false) rfl (by kernel_rfl) rfl (bf q118 (by kernel_rfl)) rfl rfl ?_
    refine lskip (t := 47) (c := false) rfl (by kernel_rfl) rfl (bf q118 (by kernel_rfl)) rfl rfl ?_
    refine lskip (t := 47) (c := false) rfl (by kernel_rfl) rfl (bf q118 (by kernel_rfl)) rfl rfl ?_
    refine lskip (t := 47) (c := false) rfl (by kernel_rfl) rfl (bf q118 (by kernel_rfl)) rfl rfl ?_
    refine lskip (t := 47) (c := false) rfl (by kernel_rfl) rfl (bf q118 (by kernel_rfl)) rfl rfl ?_
    refine lvg (d := 53) (t := 42) rfl (by kernel_rfl) rfl (by kernel_rfl) rfl (by kernel_rfl) (e_pick_f (v := .bool false) (bf q118 (by kernel_rfl)) rfl) ?_
    refine lv (d := 54) rfl rfl (by kernel_rfl) (e_pick_f (v := .bool false) (by kernel_rfl) (by kernel_rfl)) ?_
    refine wpList_nil ?_
    refine then_n ?_
    refine cond_f rfl (by kernel_rfl) ?_
    refine wp_skip ?_
    refine inb_n ?_
    refine then_n ?_
    refine wp_region_lit ?_
    refine lv (d := 30) rfl rfl (by kernel_rfl) (e_move (v := .int .i64 x75) (by exact e76)) ?_
    refine lv (d := 31) rfl rfl (by kernel_rfl) (e_add (k := .i64) (a := x75) (b := 1) (by kernel_rfl) rfl) ?_
    refine lv (d := 3) rfl rfl (by kernel_rfl) (e_assign (v := .int .i64 (IntKind.i64.wrap (x75 + 1))) (by kernel_rfl)) ?_
    refine wpList_nil ?_
    refine then_n ?_
    exact ⟨k80, Nat.lt_succ_self _, _, (IntKind.i64.wrap (x75 + 1)), rfl, (by exact e74), (by kernel_rfl), hC, (by omega), H⟩
  replace H := ifn q81 H
  refine cond_f rfl (bf q81 (by kernel_rfl)) ?_
  refine wp_exit ?_
  refine then_e ?_
  refine then_e ?_
  refine inb_hit ?_
  refine then_n ?_
  refine wp_seq ?_
  refine wp_region_lit ?_
  refine lv (d := 2) rfl rfl (by kernel_rfl) (e_assign (v := .bool true) rfl) ?_
  refine wpList_nil ?_
  refine then_n ?_
  refine wp_ret ?_
  obtain rfl := Option.some.inj H
  exact ret1 (rfl) rfl  (show _ = .bool true from (by kernel_rfl)) ⟨rfl, hC⟩

/-! impl.IsPlain -/
def impl_IsPlain.f (k : Nat) (x1 : List UInt8) : Option Bool := ((impl_plain.f k x1).bind fun t6 => some t6)
theorem impl_IsPlain.calls (k : Nat) (w : World) (x1 : List UInt8) (A2 : Option Addr) (c3 : Nat) (h4 : Rd tByte w any A2 x1) (l5 : x1.length ≤ c3) (r : Bool) (H : impl_IsPlain.f k x1 = some r) :
    Calls Try.prog 8 #[.slice A2 x1.length c3] w (fun e e_w => e = .returned (.bool r) ∧ Chg [] w e_w) := by
  rw [impl_IsPlain.f] at H
  refine enter (l := [.slice A2 x1.length c3]) 6 Try.func8 rfl rfl rfl ?_
  replace h4 := rd_canon (M := []) (by decide) h4 (by simp)
  have hC := Chg.refl [] w
  refine wp_seq ?_
  refine wp_region_lit ?_
  refine lv (d := 2) rfl rfl (by kernel_rfl) (e_assign (v := .bool false) rfl) ?_
  refine wpList_nil ?_
  refine then_n ?_
  refine wp_seq ?_
  refine wp_region_lit ?_
  refine lv (d := 3) rfl rfl (by kernel_rfl) (e_move (v := .slice A2 x1.length c3) (by kernel_rfl)) ?_
  refine lv (d := 4) rfl rfl (by kernel_rfl) (e_conv_bs (c := c3) Try.underlying23 Try.underlying5 Try.underlying9 (by kernel_rfl) h4) ?_
  obtain ⟨t6, u7, H⟩ := bnd H
  refine lcall (d := 5) rfl rfl (by kernel_rfl) (e_call (l := [.tmp 4]) (vs := [str x1]) Try.func18 (by kernel_rfl) rfl (by kernel_rfl) rfl) (impl_plain.calls k w x1  t6 u7) ?_
  rintro _ w8 ⟨rfl, C9⟩
  refine ⟨_, rfl, ?_⟩
  have u10 : Lt [] w.heap.size := (Lt.nil _)
  have z11 := C9.size
  replace hC := hC.step C9 (fun _ h_ => by cases h_)
  refine lv (d := 2) rfl rfl (by kernel_rfl) (e_assign (v := .bool t6) (by kernel_rfl)) ?_
  refine wpList_nil ?_
  refine then_n ?_
  refine wp_ret ?_
  obtain rfl := Option.some.inj H
  exact ret1 (rfl) rfl  (show _ = .bool t6 from (by kernel_rfl)) ⟨rfl, hC⟩

/-! laws.eqByteS -/
def laws_eqByteS.l0 : Nat → (List UInt8) → (List UInt8) → Int → Option Bool
  | 0, _, _, _ => none
  | k21 + 1, x1, x6, x16 => (if x16 < (x1.length : Int) then (if 0 ≤ x16 then (if x16 < (x6.length : Int) then (if ((x1.getD (x16).toNat (0 : UInt8)).toNat : Int) ≠ ((x6.getD (x16).toNat (0 : UInt8)).toNat : Int) then some false else (laws_eqByteS.l0 k21 x1 x6 (IntKind.i64.wrap (x16 + 1)))) else none) else none) else some true)
def laws_eqByteS.f (k : Nat) (x1 : List UInt8) (x6 : List UInt8) : Option Bool := (if (x1.length : Int) ≠ (x6.length : Int) then some false else (laws_eqByteS.l0 k x1 x6 0))
theorem laws_eqByteS.calls (k : Nat) (w : World) (x1 : List UInt8) (A2 : Option Addr) (c3 : Nat) (x6 : List UInt8) (A7 : Option Addr) (c8 : Nat) (h4 : Rd tByte w any A2 x1) (l5 : x1.length ≤ c3) (h9 : Rd tByte w any A7 x6) (l10 : x6.length ≤ c8) (r : Bool) (H : laws_eqByteS.f k x1 x6 = some r) :
    Calls Try.prog 9 #[.slice A2 x1.length c3, .slice A7 x6.length c8] w (fun e e_w => e = .returned (.bool r) ∧ Chg [] w e_w) := by
  rw [laws_eqByteS.f] at H
  refine enter (l := [.slice A2 x1.length c3, .slice A7 x6.length c8]) 26 Try.func9 rfl rfl rfl ?_
  replace h4 := rd_canon (M := []) (by decide) h4 (by simp)
  replace h9 := rd_canon (M := []) (by decide) h9 (by simp)
  have hC := Chg.refl [] w
  refine wp_seq ?_
  refine wp_region_lit ?_
  refine lv (d := 4) rfl rfl (by kernel_rfl) (e_assign (v := .bool false) rfl) ?_
  refine wpList_nil ?_
  refine then_n ?_
  refine wp_seq ?_
  refine wp_seq ?_
  refine wp_region_lit ?_
  refine lv (d := 6) rfl rfl (by kernel_rfl) (e_move (v := .slice A2 x1.length c3) (by kernel_rfl)) ?_
  refine lv (d := 7) rfl rfl (by kernel_rfl) (e_len (A := A2) (n := x1.length) (c := c3) Try.underlying23 (by kernel_rfl)) ?_
  refine lv (d := 8) rfl rfl (by kernel_rfl) (e_move (v := .slice A7 x6.length c8) (by kernel_rfl)) ?_
  refine lv (d := 9) rfl rfl (by kernel_rfl) (e_len (A := A7) (n := x6.length) (c := c8) Try.underlying23 (by kernel_rfl)) ?_
  refine lv (d := 10) rfl rfl (by kernel_rfl) (e_neq (k := .i64) (a := (x1.length : Int)) (b := (x6.length : Int)) (by kernel_rfl) (by kernel_rfl)) ?_
  refine wpList_nil ?_
  refine then_n ?_
  by_cases q11 : (x1.length : Int) ≠ (x6.length : Int)
  · replace H := ifp q11 H
    refine cond_t rfl (bt q11 (by kernel_rfl)) ?_
    refine wp_seq ?_
    refine wp_region_lit ?_
    refine lv (d := 4) rfl rfl (by kernel_rfl) (e_assign (v := .bool false) rfl) ?_
    refine wpList_nil ?_
    refine then_n ?_
    refine wp_ret ?_
    refine then_r ?_
    obtain rfl := Option.some.inj H
    exact ret1 (rfl) rfl  (show _ = .bool false from (by kernel_rfl)) ⟨rfl, hC⟩
  replace H := ifn q11 H
  refine cond_f rfl (bf q11 (by kernel_rfl)) ?_
  refine wp_skip ?_
  refine then_n ?_
  refine wp_seq ?_
  refine wp_seq ?_
  refine wp_region_lit ?_
  refine lv (d := 5) rfl rfl (by kernel_rfl) (e_assign (v := .int .i64 0) rfl) ?_
  refine wpList_nil ?_
  refine then_n ?_
  refine wp_block ?_
  refine wp_loop_g (fun k19 a20 w12 => ∃ (f13 : Nat → Value) (x16 : Int), a20 = mk 26 f13 ∧ f13 0 = .slice A2 x1.length c3 ∧ f13 1 = .slice A7 x6.length c8 ∧ f13 5 = .int .i64 x16 ∧ Rd tByte w12 (FP any w.heap.size []) A2 x1 ∧ Rd tByte w12 (FP any w.heap.size []) A7 x6 ∧ Chg [] w w12 ∧ w.heap.size ≤ w12.heap.size ∧ laws_eqByteS.l0 k19 x1 x6 x16 = some r) k ⟨_, 0, rfl, (by kernel_rfl), (by kernel_rfl), (by kernel_rfl), (Rd.mono (fp_sub (fun _ h_ => h_) (by omega) (by simp [bk])) h4), (Rd.mono (fp_sub (fun _ h_ => h_) (by omega) (by simp [bk])) h9), hC, (by omega), H⟩ ?_
  rintro k19 a20 w12 ⟨f13, x16, rfl, e14, e15, e17, h4, h9, hC, z18, H⟩
  rcases k19 with _ | k21
  · rw [laws_eqByteS.l0] at H
    cases H
  rw [laws_eqByteS.l0] at H
  refine wp_seq ?_
  refine wp_seq ?_
  refine wp_region_lit ?_
  refine lv (d := 11) rfl rfl (by kernel_rfl) (e_move (v := .int .i64 x16) (by exact e17)) ?_
  refine lv (d := 12) rfl rfl (by kernel_rfl) (e_move (v := .slice A2 x1.length c3) (by exact e14)) ?_
  refine lv (d := 13) rfl rfl (by kernel_rfl) (e_len (A := A2) (n := x1.length) (c := c3) Try.underlying23 (by kernel_rfl)) ?_
  refine lv (d := 14) rfl rfl (by kernel_rfl) (e_lss (k := .i64) (a := x16) (b := (x1.length : Int)) (by kernel_rfl) (by kernel_rfl)) ?_
  refine wpList_nil ?_
  refine then_n ?_
  by_cases q22 : x16 < (x1.length : Int)
  · replace H := ifp q22 H
    refine cond_t rfl (bt q22 (by kernel_rfl)) ?_
    refine wp_skip ?_
    refine then_n ?_
    refine wp_seq ?_
    refine wp_block ?_
    refine wp_seq ?_
    refine region_still (by kernel_rfl) (by kernel_rfl) ?_
    intro w23 C24 _
    have z25 := C24.size
    replace h4 := Rd.move (fp_chg C24 (by omega) (by simp)) h4
    replace h9 := Rd.move (fp_chg C24 (by omega) (by simp)) h9
    replace hC := hC.step C24 (fun _ h_ => by cases h_)
    refine sv (d := 17) rfl rfl (by kernel_rfl) (e_move (v := .slice A2 x1.length c3) (by exact e14)) ?_
    refine sv (d := 18) rfl rfl (by kernel_rfl) (e_move (v := .int .i64 x16) (by exact e17)) ?_
    obtain ⟨q26, H⟩ := chk H
    obtain ⟨b27, o28, y29, e32, _, r30, k31⟩ := Rd.get h4 (x16).toNat _ (getD_some (0 : UInt8) (by omega))
    obtain rfl := r30
    refine sv (d := 19) rfl rfl (by kernel_rfl) (e_indexAddr (b := b27) (off := o28) (n := x1.length) (c := c3) (sz := 1) (i := x16) (k := .i64) Try.underlying23 e32 (by kernel_rfl) (by kernel_rfl) (by kernel_rfl) q26 q22) ?_
    refine sv (d := 20) rfl rfl (by kernel_rfl) (e_load1 (ad := ⟨b27, o28 + (x16 : Int).toNat * 1, none⟩) (v := .int .u8 ((x1.getD (x16).toNat (0 : UInt8)).toNat : Int)) Try.underlying5 rfl (by kernel_rfl) (k31 0 _ rfl)) ?_
    refine sv (d := 21) rfl rfl (by kernel_rfl) (e_move (v := .slice A7 x6.length c8) (by exact e15)) ?_
    refine sv (d := 22) rfl rfl (by kernel_rfl) (e_move (v := .int .i64 x16) (by exact e17)) ?_
    obtain ⟨q33, H⟩ := chk H
    obtain ⟨b34, o35, y36, e39, _, r37, k38⟩ := Rd.get h9 (x16).toNat _ (getD_some (0 : UInt8) (by omega))
    obtain rfl := r37
    refine sv (d := 23) rfl rfl (by kernel_rfl) (e_indexAddr (b := b34) (off := o35) (n := x6.length) (c := c8) (sz := 1) (i := x16) (k := .i64) Try.underlying23 e39 (by kernel_rfl) (by kernel_rfl) (by kernel_rfl) q26 q33) ?_
    refine sv (d := 24) rfl rfl (by kernel_rfl) (e_load1 (ad := ⟨b34, o35 + (x16 : Int).toNat * 1, none⟩) (v := .int .u8 ((x6.getD (x16).toNat (0 : UInt8)).toNat : Int)) Try.underlying5 rfl (by kernel_rfl) (k38 0 _ rfl)) ?_
    refine sv (d := 25) rfl rfl (by kernel_rfl) (e_neq (k := .u8) (a := ((x1.getD (x16).toNat (0 : UInt8)).toNat : Int)) (b := ((x6.getD (x16).toNat (0 : UInt8)).toNat : Int)) (by kernel_rfl) (by kernel_rfl)) ?_
    refine wpStill_nil ?_
    refine then_n ?_
    by_cases q40 : ((x1.getD (x16).toNat (0 : UInt8)).toNat : Int) ≠ ((x6.getD (x16).toNat (0 : UInt8)).toNat : Int)
    · replace H := ifp q40 H
      refine cond_t rfl (bt q40 (by kernel_rfl)) ?_
      refine wp_seq ?_
      refine wp_region_lit ?_
      refine lv (d := 4) rfl rfl (by kernel_rfl) (e_assign (v := .bool false) rfl) ?_
      refine wpList_nil ?_
      refine then_n ?_
      refine wp_ret ?_
      refine inb_r ?_
      refine then_r ?_
      refine then_r ?_
      refine inb_r ?_
      refine then_r ?_
      obtain rfl := Option.some.inj H
      exact ret1 (rfl) rfl  (show _ = .bool false from (by kernel_rfl)) ⟨rfl, hC⟩
    replace H := ifn q40 H
    refine cond_f rfl (bf q40 (by kernel_rfl)) ?_
    refine wp_skip ?_
    refine inb_n ?_
    refine then_n ?_
    refine wp_region_lit ?_
    refine lv (d := 15) rfl rfl (by kernel_rfl) (e_move (v := .int .i64 x16) (by exact e17)) ?_
    refine lv (d := 16) rfl rfl (by kernel_rfl) (e_add (k := .i64) (a := x16) (b := 1) (by kernel_rfl) rfl) ?_
    refine lv (d := 5) rfl rfl (by kernel_rfl) (e_assign (v := .int .i64 (IntKind.i64.wrap (x16 + 1))) (by kernel_rfl)) ?_
    refine wpList_nil ?_
    refine then_n ?_
    exact ⟨k21, Nat.lt_succ_self _, _, (IntKind.i64.wrap (x16 + 1)), rfl, (by exact e14), (by exact e15), (by kernel_rfl), (Rd.mono (fp_sub (fun _ h_ => h_) (by omega) (by simp [bk])) h4), (Rd.mono (fp_sub (fun _ h_ => h_) (by omega) (by simp [bk])) h9), hC, (by omega), H⟩
  replace H := ifn q22 H
  refine cond_f rfl (bf q22 (by kernel_rfl)) ?_
  refine wp_exit ?_
  refine then_e ?_
  refine then_e ?_
  refine inb_hit ?_
  refine then_n ?_
  refine wp_seq ?_
  refine wp_region_lit ?_
  refine lv (d := 4) rfl rfl (by kernel_rfl) (e_assign (v := .bool true) rfl) ?_
  refine wpList_nil ?_
  refine then_n ?_
  refine wp_ret ?_
  obtain rfl := Option.some.inj H
  exact ret1 (rfl) rfl  (show _ = .bool true from (by kernel_rfl)) ⟨rfl, hC⟩

/-! laws.FnExactIsPlain -/
def laws_FnExactIsPlain.f (k : Nat) (x1 : List UInt8) : Option Bool := (if (x1.length : Int) > 1048576 then some true else ((laws_toByteS.f k x1).bind fun t7 => ((spec_IsPlain.f k t7).bind fun t16 => ((laws_toByteS.f k x1).bind fun t22 => ((impl_IsPlain.f k t22).bind fun t31 => (if t31 ≠ t16 then some false else ((laws_toByteS.f k x1).bind fun t38 => ((laws_eqByteS.f k t22 t38).bind fun t47 => (if ¬ (t47 = true) then some false else some true)))))))))
theorem laws_FnExactIsPlain.calls (k : Nat) (w : World) (x1 : List UInt8) (A2 : Option Addr) (c3 : Nat) (h4 : Rd tByte w any A2 x1) (l5 : x1.length ≤ c3) (r : Bool) (H : laws_FnExactIsPlain.f k x1 = some r) :
    Calls Try.prog 4 #[.slice A2 x1.length c3] w (fun e e_w => e = .returned (.bool r) ∧ Chg [] w e_w) := by
  rw [laws_FnExactIsPlain.f] at H
  refine enter (l := [.slice A2 x1.length c3]) 24 Try.func4 rfl rfl rfl ?_
  replace h4 := rd_canon (M := []) (by decide) h4 (by simp)
  have hC := Chg.refl [] w
  refine wp_seq ?_
  refine wp_region_lit ?_
  refine lv (d := 2) rfl rfl (by kernel_rfl) (e_assign (v := .bool false) rfl) ?_
  refine wpList_nil ?_
  refine then_n ?_
  refine wp_seq ?_
  refine wp_seq ?_
  refine wp_region_lit ?_
  refine lv (d := 6) rfl rfl (by kernel_rfl) (e_move (v := .slice A2 x1.length c3) (by kernel_rfl)) ?_
  refine lv (d := 7) rfl rfl (by kernel_rfl) (e_len (A := A2) (n := x1.length) (c := c3) Try.underlying23 (by kernel_rfl)) ?_
  refine lv (d := 8) rfl rfl (by kernel_rfl) (e_gtr (k := .i64) (a := (x1.length : Int)) (b := 1048576) (by kernel_rfl) rfl) ?_
  refine wpList_nil ?_
  refine then_n ?_
  by_cases q6 : (x1.length : Int) > 1048576
  · replace H := ifp q6 H
    refine cond_t rfl (bt q6 (by kernel_rfl)) ?_
    refine wp_seq ?_
    refine wp_region_lit ?_
    refine lv (d := 2) rfl rfl (by kernel_rfl) (e_assign (v := .bool true) rfl) ?_
    refine wpList_nil ?_
    refine then_n ?_
    refine wp_ret ?_
    refine then_r ?_
    obtain rfl := Option.some.inj H
    exact ret1 (rfl) rfl  (show _ = .bool true from (by kernel_rfl)) ⟨rfl, hC⟩
  replace H := ifn q6 H
  refine cond_f rfl (bf q6 (by kernel_rfl)) ?_
  refine wp_skip ?_
  refine then_n ?_
  refine wp_seq ?_
  refine wp_region_lit ?_
  refine lv (d := 9) rfl rfl (by kernel_rfl) (e_move (v := .slice A2 x1.length c3) (by kernel_rfl)) ?_
  obtain ⟨t7, u8, H⟩ := bnd H
  refine lcall (d := 10) rfl rfl (by kernel_rfl) (e_call (l := [.tmp 9]) (vs := [.slice A2 x1.length c3]) Try.func7 (by kernel_rfl) rfl (by kernel_rfl) rfl) (laws_toByteS.calls k w x1 A2 c3 (Rd.mono (fun _ _ => trivial) h4) l5 t7 u8) ?_
  rintro _ w12 ⟨A9, c10, rfl, h11, C13⟩
  refine ⟨_, rfl, ?_⟩
  have u14 : Lt [] w.heap.size := (Lt.nil _)
  have z15 := C13.size
  replace h4 := Rd.move (fp_chg C13 (by omega) (by simp)) h4
  replace hC := hC.step C13 (fun _ h_ => by cases h_)
  obtain ⟨t16, u17, H⟩ := bnd H
  refine lcall (d := 11) rfl rfl (by kernel_rfl) (e_call (l := [.tmp 10]) (vs := [.slice A9 t7.length c10]) Try.func6 (by kernel_rfl) rfl (by kernel_rfl) rfl) (spec_IsPlain.calls k w12 t7 A9 c10 (Rd.mono (fun _ _ => trivial) (h11.rd)) h11.le t16 u17) ?_
  rintro _ w18 ⟨rfl, C19⟩
  refine ⟨_, rfl, ?_⟩
  have u20 : Lt [] w12.heap.size := (Lt.nil _)
  have z21 := C19.size
  replace h4 := Rd.move (fp_chg C19 (by omega) (by simp)) h4
  replace hC := hC.step C19 (fun _ h_ => by cases h_)
  refine lv (d := 3) rfl rfl (by kernel_rfl) (e_assign (v := .bool t16) (by kernel_rfl)) ?_
  refine wpList_nil ?_
  refine then_n ?_
  refine wp_seq ?_
  refine wp_region_lit ?_
  refine lv (d := 12) rfl rfl (by kernel_rfl) (e_move (v := .slice A2 x1.length c3) (by kernel_rfl)) ?_
  obtain ⟨t22, u23, H⟩ := bnd H
  refine lcall (d := 13) rfl rfl (by kernel_rfl) (e_call (l := [.tmp 12]) (vs := [.slice A2 x1.length c3]) Try.func7 (by kernel_rfl) rfl (by kernel_rfl) rfl) (laws_toByteS.calls k w18 x1 A2 c3 (Rd.mono (fun _ _ => trivial) h4) l5 t22 u23) ?_
  rintro _ w27 ⟨A24, c25, rfl, h26, C28⟩
  refine ⟨_, rfl, ?_⟩
  have u29 : Lt [] w18.heap.size := (Lt.nil _)
  have z30 := C28.size
  replace h4 := Rd.move (fp_chg C28 (by omega) (by simp)) h4
  replace hC := hC.step C28 (fun _ h_ => by cases h_)
  refine lv (d := 4) rfl rfl (by kernel_rfl) (e_assign (v := .slice A24 t22.length c25) (by kernel_rfl)) ?_
  refine wpList_nil ?_
  refine then_n ?_
  refine wp_seq ?_
  refine wp_region_lit ?_
  refine lv (d := 14) rfl rfl (by kernel_rfl) (e_move (v := .slice A24 t22.length c25) (by kernel_rfl)) ?_
  obtain ⟨t31, u32, H⟩ := bnd H
  refine lcall (d := 15) rfl rfl (by kernel_rfl) (e_call (l := [.tmp 14]) (vs := [.slice A24 t22.length c25]) Try.func8 (by kernel_rfl) rfl (by kernel_rfl) rfl) (impl_IsPlain.calls k w27 t22 A24 c25 (Rd.mono (fun _ _ => trivial) (h26.rd)) h26.le t31 u32) ?_
  rintro _ w33 ⟨rfl, C34⟩
  refine ⟨_, rfl, ?_⟩
  have u35 : Lt [] w27.heap.size := (Lt.nil _)
  have z36 := C34.size
  replace h4 := Rd.move (fp_chg C34 (by omega) (by simp)) h4
  replace h26 := Row.move (fp_chg C34 (by omega) (by simp)) h26
  replace hC := hC.step C34 (fun _ h_ => by cases h_)
  refine lv (d := 5) rfl rfl (by kernel_rfl) (e_assign (v := .bool t31) (by kernel_rfl)) ?_
  refine wpList_nil ?_
  refine then_n ?_
  refine wp_seq ?_
  refine wp_seq ?_
  refine wp_region_lit ?_
  refine lv (d := 16) rfl rfl (by kernel_rfl) (e_move (v := .bool t31) (by kernel_rfl)) ?_
  refine lv (d := 17) rfl rfl (by kernel_rfl) (e_move (v := .bool t16) (by kernel_rfl)) ?_
  refine lv (d := 18) rfl rfl (by kernel_rfl) (e_bneq (p := t31) (q := t16) Try.underlying4 (by kernel_rfl) (by kernel_rfl)) ?_
  refine wpList_nil ?_
  refine then_n ?_
  by_cases q37 : t31 ≠ t16
  · replace H := ifp q37 H
    refine cond_t rfl (bt q37 (by kernel_rfl)) ?_
    refine wp_seq ?_
    refine wp_region_lit ?_
    refine lv (d := 2) rfl rfl (by kernel_rfl) (e_assign (v := .bool false) rfl) ?_
    refine wpList_nil ?_
    refine then_n ?_
    refine wp_ret ?_
    refine then_r ?_
    obtain rfl := Option.some.inj H
    exact ret1 (rfl) rfl  (show _ = .bool false from (by kernel_rfl)) ⟨rfl, hC⟩
  replace H := ifn q37 H
  refine cond_f rfl (bf q37 (by kernel_rfl)) ?_
  refine wp_skip ?_
  refine then_n ?_
  refine wp_seq ?_
  refine wp_seq ?_
  refine wp_region_lit ?_
  refine lv (d := 19) rfl rfl (by kernel_rfl) (e_move (v := .slice A24 t22.length c25) (by kernel_rfl)) ?_
  refine lv (d := 20) rfl rfl (by kernel_rfl) (e_move (v := .slice A2 x1.length c3) (by kernel_rfl)) ?_
  obtain ⟨t38, u39, H⟩ := bnd H
  refine lcall (d := 21) rfl rfl (by kernel_rfl) (e_call (l := [.tmp 20]) (vs := [.slice A2 x1.length c3]) Try.func7 (by kernel_rfl) rfl (by kernel_rfl) rfl) (laws_toByteS.calls k w33 x1 A2 c3 (Rd.mono (fun _ _ => trivial) h4) l5 t38 u39) ?_
  rintro _ w43 ⟨A40, c41, rfl, h42, C44⟩
  refine ⟨_, rfl, ?_⟩
  have u45 : Lt [] w33.heap.size := (Lt.nil _)
  have z46 := C44.size
  replace h26 := Row.move (fp_chg C44 (by omega) (by simp)) h26
  replace hC := hC.step C44 (fun _ h_ => by cases h_)
  obtain ⟨t47, u48, H⟩ := bnd H
  refine lcall (d := 22) rfl rfl (by kernel_rfl) (e_call (l := [.tmp 19, .tmp 21]) (vs := [.slice A24 t22.length c25, .slice A40 t38.length c41]) Try.func9 (by kernel_rfl) rfl (by kernel_rfl) rfl) (laws_eqByteS.calls k w43 t22 A24 c25 t38 A40 c41 (Rd.mono (fun _ _ => trivial) (h26.rd)) h26.le (Rd.mono (fun _ _ => trivial) (h42.rd)) h42.le t47 u48) ?_
  rintro _ w49 ⟨rfl, C50⟩
  refine ⟨_, rfl, ?_⟩
  have u51 : Lt [] w43.heap.size := (Lt.nil _)
  have z52 := C50.size
  replace hC := hC.step C50 (fun _ h_ => by cases h_)
  refine lv (d := 23) rfl rfl (by kernel_rfl) (e_notv (c := t47) (by kernel_rfl)) ?_
  refine wpList_nil ?_
  refine then_n ?_
  by_cases q53 : ¬ (t47 = true)
  · replace H := ifp q53 H
    refine cond_t rfl (bt q53 (by kernel_rfl)) ?_
    refine wp_seq ?_
    refine wp_region_lit ?_
    refine lv (d := 2) rfl rfl (by kernel_rfl) (e_assign (v := .bool false) rfl) ?_
    refine wpList_nil ?_
    refine then_n ?_
    refine wp_ret ?_
    refine then_r ?_
    obtain rfl := Option.some.inj H
    exact ret1 (rfl) rfl  (show _ = .bool false from (by kernel_rfl)) ⟨rfl, hC⟩
  replace H := ifn q53 H
  refine cond_f rfl (bf q53 (by kernel_rfl)) ?_
  refine wp_skip ?_
  refine then_n ?_
  refine wp_seq ?_
  refine wp_region_lit ?_
  refine lv (d := 2) rfl rfl (by kernel_rfl) (e_assign (v := .bool true) rfl) ?_
  refine wpList_nil ?_
  refine then_n ?_
  refine wp_ret ?_
  obtain rfl := Option.some.inj H
  exact ret1 (rfl) rfl  (show _ = .bool true from (by kernel_rfl)) ⟨rfl, hC⟩
end Go.Proofs.Ytdkbfcmekppnmaa
