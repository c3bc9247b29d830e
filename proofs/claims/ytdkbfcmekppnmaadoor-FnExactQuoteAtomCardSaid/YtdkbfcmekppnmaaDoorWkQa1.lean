import Derived.Test.YtdkbfcmekppnmaaDoorProg
import Derived.Test.YtdkbfcmekppnmaaDoorFi
namespace Go.Proofs.YtdkbfcmekppnmaaDoor
open Go.Sx Go.Sy
attribute [local irreducible] Go.wpList Go.wpStill Go.wpQuiet Go.Code.wp
set_option maxRecDepth 100000
set_option maxHeartbeats 1000000
set_option linter.unusedVariables false
set_option linter.unusedSimpArgs false

/-! laws_toByteS -/
def laws_toByteS.l0 : Nat → (List UInt8) → Int → (List UInt8) → Option (List UInt8)
  | 0, _, _, _ => none
  | k29 + 1, x1, x17, x19 => (if x17 < (x1.length : Int) then (if 0 ≤ x17 then (if x17 < (((x1.length : Int)).toNat : Int) then (laws_toByteS.l0 k29 x1 (IntKind.i64.wrap (x17 + 1)) (x19.set ((x17).toNat) (x1.getD ((x17).toNat) (0 : UInt8)))) else none) else none) else some x19)
def laws_toByteS.f (k : Nat) (x1 : List UInt8) : Option (List UInt8) := (if 0 ≤ (x1.length : Int) then (if ((x1.length : Int)).toNat ≤ 281474976710656 then (laws_toByteS.l0 k x1 0 (List.replicate ((x1.length : Int)).toNat (0 : UInt8))) else none) else none)
theorem laws_toByteS.calls (k : Nat) (w : World) (H : Hp) (x1 : List UInt8) (A2 : Option Addr) (c3 : Nat) (h4 : Rd tByte H A2 x1) (l5 : x1.length ≤ c3) (S : Own [] H w) (r : List UInt8) (M : laws_toByteS.f k x1 = some r) :
    Calls Tryd.prog 5 #[.slice A2 x1.length c3] w (fun e e_w => ∃ (A_1 : Option Addr) (c_1 : Nat) (F_1 : Foot) (H_ : Hp), e = .returned (.slice A_1 r.length c_1) ∧ Row tByte 5 H_ (hp e_w) F_1 A_1 c_1 r ∧ St (anyOf []) H w [F_1] H_ e_w) := by
  rw [laws_toByteS.f] at M
  refine enter (l := [.slice A2 x1.length c3]) 22 Tryd.func5 rfl rfl rfl ?_
  have S0_ := S.st
  refine wp_seq ?_
  refine wp_region_lit ?_
  refine lv (d := 2) rfl rfl (by kernel_rfl) (e_assign (v := .slice none 0 0) rfl) ?_
  refine wpList_nil ?_
  refine then_n ?_
  refine wp_seq ?_
  refine wp_region_lit ?_
  refine lv (d := 5) rfl rfl (by kernel_rfl) (e_move (v := .slice A2 x1.length c3) (by kernel_rfl)) ?_
  refine lv (d := 6) rfl rfl (by kernel_rfl) (e_len (A := A2) (n := x1.length) (c := c3) Tryd.underlying22 (by kernel_rfl)) ?_
  obtain ⟨q6, M⟩ := chk M
  obtain ⟨q7, M⟩ := chk M
  refine lve (d := 7) rfl rfl (by kernel_rfl) (e_make (d := tByte) (k := .i64) (k2 := .i64) (n := (x1.length : Int)) (z := .int .u8 0) (zx := (0 : UInt8)) (bytes := 1) S0_ Tryd.underlying22 (by kernel_rfl) rfl (by decide) (fun _ => rfl) (by kernel_rfl) (by kernel_rfl) q6 (by omega) (by omega)) ?_
  rintro _ w8 ⟨A9, c10, F11, rfl, h12, S13, K14⟩
  refine lv (d := 3) rfl rfl (by kernel_rfl) (e_assign (v := .slice A9 (((x1.length : Int)).toNat) c10) (by kernel_rfl)) ?_
  refine wpList_nil ?_
  refine then_n ?_
  refine wp_seq ?_
  refine wp_seq ?_
  refine wp_region_lit ?_
  refine lv (d := 4) rfl rfl (by kernel_rfl) (e_assign (v := .int .i64 0) rfl) ?_
  refine wpList_nil ?_
  refine then_n ?_
  refine wp_block ?_
  refine wp_loop_g (fun k27 a28 w15 => ∃ (f16 : Nat → Value) (x17 : Int) (F18 : Foot) (x19 : List UInt8), a28 = mk 22 f16 ∧ f16 0 = .slice A2 x1.length c3 ∧ f16 3 = .slice A9 (((x1.length : Int)).toNat) c10 ∧ f16 4 = .int .i64 x17 ∧ Row tByte 5 H (hp w15) F18 A9 c10 x19 ∧ x19.length = ((x1.length : Int)).toNat ∧ St (anyOf []) H w [F18] H w15 ∧ laws_toByteS.l0 k27 x1 x17 x19 = some r) k ⟨_, 0, F11, (List.replicate ((x1.length : Int)).toNat (0 : UInt8)), rfl, (by kernel_rfl), (by kernel_rfl), (by kernel_rfl), h12, List.length_replicate, S13, M⟩ ?_
  clear M
  rintro k27 a28 w15 ⟨f16, x17, F18, x19, rfl, e21, e22, e23, h12, n20, S24, M⟩
  rcases k27 with _ | k29
  · rw [laws_toByteS.l0] at M
    cases M
  rw [laws_toByteS.l0] at M
  refine wp_seq ?_
  refine wp_seq ?_
  refine wp_region_lit ?_
  refine lv (d := 8) rfl rfl (by kernel_rfl) (e_move (v := .int .i64 x17) (by exact e23)) ?_
  refine lv (d := 9) rfl rfl (by kernel_rfl) (e_move (v := .slice A2 x1.length c3) (by exact e21)) ?_
  refine lv (d := 10) rfl rfl (by kernel_rfl) (e_len (A := A2) (n := x1.length) (c := c3) Tryd.underlying22 (by kernel_rfl)) ?_
  refine lv (d := 11) rfl rfl (by kernel_rfl) (e_lss (k := .i64) (a := x17) (b := (x1.length : Int)) (by kernel_rfl) (by kernel_rfl)) ?_
  refine wpList_nil ?_
  refine then_n ?_
  by_cases q30 : x17 < (x1.length : Int)
  · replace M := ifp q30 M
    refine cond_t rfl (bt q30 (by kernel_rfl)) ?_
    refine wp_skip ?_
    refine then_n ?_
    refine wp_seq ?_
    refine wp_block ?_
    refine wp_region_lit ?_
    refine lv (d := 14) rfl rfl (by kernel_rfl) (e_move (v := .slice A9 (((x1.length : Int)).toNat) c10) (by exact e22)) ?_
    refine lv (d := 15) rfl rfl (by kernel_rfl) (e_move (v := .int .i64 x17) (by exact e23)) ?_
    refine lv (d := 16) rfl rfl (by kernel_rfl) (e_move (v := .slice A2 x1.length c3) (by exact e21)) ?_
    refine lv (d := 17) rfl rfl (by kernel_rfl) (e_move (v := .int .i64 x17) (by exact e23)) ?_
    obtain ⟨q31, M⟩ := chk M
    obtain ⟨b32, o33, e34⟩ := Rd.addr h4 (show (x17).toNat < x1.length by omega)
    obtain ⟨y35, r36, k37⟩ := Rd.at h4 e34 (getD_some (0 : UInt8) (show (x17).toNat < x1.length by omega))
    obtain rfl := r36
    refine lv (d := 18) rfl rfl (by kernel_rfl) (e_indexAddr (b := b32) (off := o33) (n := x1.length) (c := c3) (sz := 1) (i := x17) (k := .i64) Tryd.underlying22 e34 (by kernel_rfl) (by kernel_rfl) (by kernel_rfl) q31 q30) ?_
    refine lv (d := 19) rfl rfl (by kernel_rfl) (e_load1 (ad := ⟨b32, o33 + (x17 : Int).toNat * 1, none⟩) (v := .int .u8 ((x1.getD ((x17).toNat) (0 : UInt8)).toNat : Int)) Tryd.underlying5 rfl (by kernel_rfl) (hpx (S24.inv.cell (k37 0 _ rfl)))) ?_
    obtain ⟨q38, M⟩ := chk M
    obtain ⟨b39, e41⟩ := Row.addr h12 (show (x17).toNat < x19.length by have : x19.length = ((x1.length : Int)).toNat := n20; omega)
    refine lv (d := 20) rfl rfl (by kernel_rfl) (e_indexAddr (b := b39) (off := 0) (n := ((x1.length : Int)).toNat) (c := c10) (sz := 1) (i := x17) (k := .i64) Tryd.underlying22 e41 (by kernel_rfl) (by kernel_rfl) (by kernel_rfl) q31 q38) ?_
    have S42 := S24.unit
    have S43 := S42.pull (F := F18) (Fr := [no]) 1 rfl rfl
    refine lse rfl rfl (by kernel_rfl) (e_setel (d := tByte) (b := b39) (i := (x17).toNat) (v := .int .u8 ((x1.getD ((x17).toNat) (0 : UInt8)).toNat : Int)) (vs := [.int .u8 ((x1.getD ((x17).toNat) (0 : UInt8)).toNat : Int)]) (yv := (x1.getD ((x17).toNat) (0 : UInt8))) S43 (by kernel_rfl) e41 (by kernel_rfl) rfl (by kernel_rfl) h12 (show (x17).toNat < x19.length by have : x19.length = ((x1.length : Int)).toNat := n20; omega) rfl) ?_
    rintro w44 ⟨F46, h45, S47, K48⟩
    clear h12
    refine wpList_nil ?_
    refine inb_n ?_
    refine then_n ?_
    refine wp_region_lit ?_
    refine lv (d := 12) rfl rfl (by kernel_rfl) (e_move (v := .int .i64 x17) (by exact e23)) ?_
    refine lv (d := 13) rfl rfl (by kernel_rfl) (e_add (k := .i64) (a := x17) (b := 1) (by kernel_rfl) rfl) ?_
    refine lv (d := 4) rfl rfl (by kernel_rfl) (e_assign (v := .int .i64 (IntKind.i64.wrap (x17 + 1))) (by kernel_rfl)) ?_
    refine wpList_nil ?_
    refine then_n ?_
    exact ⟨k29, (by omega), _, (IntKind.i64.wrap (x17 + 1)), F46, (x19.set ((x17).toNat) (x1.getD ((x17).toNat) (0 : UInt8))), rfl, (by exact e21), (by exact e22), (by kernel_rfl), h45, (List.length_set.trans n20), S47, M⟩
  replace M := ifn q30 M
  refine cond_f rfl (bf q30 (by kernel_rfl)) ?_
  refine wp_exit ?_
  refine then_e ?_
  refine then_e ?_
  refine inb_hit ?_
  refine then_n ?_
  refine wp_seq ?_
  refine wp_region_lit ?_
  refine lv (d := 21) rfl rfl (by kernel_rfl) (e_move (v := .slice A9 (((x1.length : Int)).toNat) c10) (by exact e22)) ?_
  refine lv (d := 2) rfl rfl (by kernel_rfl) (e_assign (v := .slice A9 (((x1.length : Int)).toNat) c10) (by kernel_rfl)) ?_
  refine wpList_nil ?_
  refine then_n ?_
  refine wp_ret ?_
  obtain rfl := Option.some.inj M
  exact ret1 rfl rfl  (show _ = .slice A9 (((x1.length : Int)).toNat) c10 from (by kernel_rfl)) ⟨A9, c10, F18, H, (by rw [(show x19.length = ((x1.length : Int)).toNat from n20)]), h12, S24⟩

/-! spec_l1small -/
def spec_l1small.f (x1 : UInt8) : Option Bool := (if (x1.toNat : Int) ≥ 97 then some (decide ((x1.toNat : Int) ≤ 122)) else some false)
theorem spec_l1small.calls (w : World) (H : Hp) (x1 : UInt8) (S : Own [] H w) (r : Bool) (M : spec_l1small.f x1 = some r) :
    Calls Tryd.prog 14 #[.int .u8 (x1.toNat : Int)] w (fun e e_w => e = .returned (.bool r) ∧ Chg no w e_w) := by
  rw [spec_l1small.f] at M
  refine enter (l := [.int .u8 (x1.toNat : Int)]) 9 Tryd.func14 rfl rfl rfl ?_
  have S0_ := S.st
  refine wp_seq ?_
  refine wp_region_lit ?_
  refine lv (d := 2) rfl rfl (by kernel_rfl) (e_assign (v := .bool false) rfl) ?_
  refine wpList_nil ?_
  refine then_n ?_
  refine wp_seq ?_
  refine wp_region_lit ?_
  refine lv (d := 3) rfl rfl (by kernel_rfl) (e_move (v := .int .u8 (x1.toNat : Int)) (by kernel_rfl)) ?_
  refine lv (d := 4) rfl rfl (by kernel_rfl) (e_geq (k := .u8) (a := (x1.toNat : Int)) (b := 97) (by kernel_rfl) rfl) ?_
  refine lv (d := 5) rfl rfl (by kernel_rfl) (e_move (v := .bool (decide ((x1.toNat : Int) ≥ 97))) (by kernel_rfl)) ?_
  by_cases q2 : (x1.toNat : Int) ≥ 97
  · replace M := ifp q2 M
    refine lvg (d := 6) (t := 5) rfl (by kernel_rfl) rfl (bt q2 (by kernel_rfl)) rfl (by kernel_rfl) (e_move (v := .int .u8 (x1.toNat : Int)) (by kernel_rfl)) ?_
    refine lvg (d := 7) (t := 5) rfl (by kernel_rfl) rfl (bt q2 (by kernel_rfl)) rfl (by kernel_rfl) (e_leq (k := .u8) (a := (x1.toNat : Int)) (b := 122) (by kernel_rfl) rfl) ?_
    refine lv (d := 8) rfl rfl (by kernel_rfl) (e_pick_t (v := .bool (decide ((x1.toNat : Int) ≤ 122))) (bt q2 (by kernel_rfl)) (by kernel_rfl)) ?_
    refine lv (d := 2) rfl rfl (by kernel_rfl) (e_assign (v := .bool (decide ((x1.toNat : Int) ≤ 122))) (by kernel_rfl)) ?_
    refine wpList_nil ?_
    refine then_n ?_
    refine wp_ret ?_
    obtain rfl := Option.some.inj M
    exact ret1 rfl rfl  (show _ = .bool (decide ((x1.toNat : Int) ≤ 122)) from (by kernel_rfl)) ⟨rfl, S0_.chg⟩
  replace M := ifn q2 M
  refine lskip (t := 5) (c := false) rfl (by kernel_rfl) rfl (bf q2 (by kernel_rfl)) rfl rfl ?_
  refine lskip (t := 5) (c := false) rfl (by kernel_rfl) rfl (bf q2 (by kernel_rfl)) rfl rfl ?_
  refine lv (d := 8) rfl rfl (by kernel_rfl) (e_pick_f (v := .bool false) (bf q2 (by kernel_rfl)) rfl) ?_
  refine lv (d := 2) rfl rfl (by kernel_rfl) (e_assign (v := .bool false) (by kernel_rfl)) ?_
  refine wpList_nil ?_
  refine then_n ?_
  refine wp_ret ?_
  obtain rfl := Option.some.inj M
  exact ret1 rfl rfl  (show _ = .bool false from (by kernel_rfl)) ⟨rfl, S0_.chg⟩

/-! spec_l1symbol -/
def spec_l1symbol.l0 : Nat → UInt8 → Int → Option Bool
  | 0, _, _ => none
  | k13 + 1, x1, x4 => (if x4 < (([43, 45, 42, 47, 92, 94, 60, 62, 61, 126, 58, 46, 63, 64, 35, 38, 36] : List UInt8).length : Int) then (if 0 ≤ x4 then (if ((([43, 45, 42, 47, 92, 94, 60, 62, 61, 126, 58, 46, 63, 64, 35, 38, 36] : List UInt8).getD (x4 : Int).toNat (0 : UInt8)).toNat : Int) = (x1.toNat : Int) then some true else (spec_l1symbol.l0 k13 x1 (IntKind.i64.wrap (x4 + 1)))) else none) else some false)
def spec_l1symbol.f (k : Nat) (x1 : UInt8) : Option Bool := (spec_l1symbol.l0 k x1 0)
theorem spec_l1symbol.calls (k : Nat) (w : World) (H : Hp) (x1 : UInt8) (S : Own [] H w) (r : Bool) (M : spec_l1symbol.f k x1 = some r) :
    Calls Tryd.prog 18 #[.int .u8 (x1.toNat : Int)] w (fun e e_w => e = .returned (.bool r) ∧ Chg no w e_w) := by
  rw [spec_l1symbol.f] at M
  refine enter (l := [.int .u8 (x1.toNat : Int)]) 16 Tryd.func18 rfl rfl rfl ?_
  have S0_ := S.st
  refine wp_seq ?_
  refine wp_region_lit ?_
  refine lv (d := 2) rfl rfl (by kernel_rfl) (e_assign (v := .bool false) rfl) ?_
  refine wpList_nil ?_
  refine then_n ?_
  refine wp_seq ?_
  refine wp_region_lit ?_
  refine lv (d := 3) rfl rfl (by kernel_rfl) (e_assign (v := str ([43, 45, 42, 47, 92, 94, 60, 62, 61, 126, 58, 46, 63, 64, 35, 38, 36] : List UInt8)) rfl) ?_
  refine wpList_nil ?_
  refine then_n ?_
  refine wp_seq ?_
  refine wp_seq ?_
  refine wp_region_lit ?_
  refine lv (d := 4) rfl rfl (by kernel_rfl) (e_assign (v := .int .i64 0) rfl) ?_
  refine wpList_nil ?_
  refine then_n ?_
  refine wp_block ?_
  refine wp_loop_g (fun k11 a12 w2 => ∃ (f3 : Nat → Value) (x4 : Int), a12 = mk 16 f3 ∧ f3 0 = .int .u8 (x1.toNat : Int) ∧ f3 3 = str ([43, 45, 42, 47, 92, 94, 60, 62, 61, 126, 58, 46, 63, 64, 35, 38, 36] : List UInt8) ∧ f3 4 = .int .i64 x4 ∧ St (anyOf []) H w [] H w2 ∧ spec_l1symbol.l0 k11 x1 x4 = some r) k ⟨_, 0, rfl, (by kernel_rfl), (by kernel_rfl), (by kernel_rfl), S0_, M⟩ ?_
  clear M
  rintro k11 a12 w2 ⟨f3, x4, rfl, e5, e6, e7, S8, M⟩
  rcases k11 with _ | k13
  · rw [spec_l1symbol.l0] at M
    cases M
  rw [spec_l1symbol.l0] at M
  refine wp_seq ?_
  refine wp_seq ?_
  refine wp_region_lit ?_
  refine lv (d := 5) rfl rfl (by kernel_rfl) (e_move (v := .int .i64 x4) (by exact e7)) ?_
  refine lv (d := 6) rfl rfl (by kernel_rfl) (e_move (v := str ([43, 45, 42, 47, 92, 94, 60, 62, 61, 126, 58, 46, 63, 64, 35, 38, 36] : List UInt8)) (by exact e6)) ?_
  refine lv (d := 7) rfl rfl (by kernel_rfl) (e_slen (p := ([43, 45, 42, 47, 92, 94, 60, 62, 61, 126, 58, 46, 63, 64, 35, 38, 36] : List UInt8)) Tryd.underlying9 (by kernel_rfl)) ?_
  refine lv (d := 8) rfl rfl (by kernel_rfl) (e_lss (k := .i64) (a := x4) (b := (([43, 45, 42, 47, 92, 94, 60, 62, 61, 126, 58, 46, 63, 64, 35, 38, 36] : List UInt8).length : Int)) (by kernel_rfl) (by kernel_rfl)) ?_
  refine wpList_nil ?_
  refine then_n ?_
  by_cases q14 : x4 < (([43, 45, 42, 47, 92, 94, 60, 62, 61, 126, 58, 46, 63, 64, 35, 38, 36] : List UInt8).length : Int)
  · replace M := ifp q14 M
    refine cond_t rfl (bt q14 (by kernel_rfl)) ?_
    refine wp_skip ?_
    refine then_n ?_
    refine wp_seq ?_
    refine wp_block ?_
    refine wp_seq ?_
    refine wp_region_lit ?_
    refine lv (d := 11) rfl rfl (by kernel_rfl) (e_move (v := str ([43, 45, 42, 47, 92, 94, 60, 62, 61, 126, 58, 46, 63, 64, 35, 38, 36] : List UInt8)) (by exact e6)) ?_
    refine lv (d := 12) rfl rfl (by kernel_rfl) (e_move (v := .int .i64 x4) (by exact e7)) ?_
    obtain ⟨q15, M⟩ := chk M
    refine lv (d := 13) rfl rfl (by kernel_rfl) (e_sindex (p := ([43, 45, 42, 47, 92, 94, 60, 62, 61, 126, 58, 46, 63, 64, 35, 38, 36] : List UInt8)) (i := x4) (k := .i64) Tryd.underlying9 (by kernel_rfl) (by kernel_rfl) q15 q14) ?_
    refine lv (d := 14) rfl rfl (by kernel_rfl) (e_move (v := .int .u8 (x1.toNat : Int)) (by exact e5)) ?_
    refine lv (d := 15) rfl rfl (by kernel_rfl) (e_eql (k := .u8) (a := ((([43, 45, 42, 47, 92, 94, 60, 62, 61, 126, 58, 46, 63, 64, 35, 38, 36] : List UInt8).getD (x4 : Int).toNat (0 : UInt8)).toNat : Int)) (b := (x1.toNat : Int)) (by kernel_rfl) (by kernel_rfl)) ?_
    refine wpList_nil ?_
    refine then_n ?_
    by_cases q16 : ((([43, 45, 42, 47, 92, 94, 60, 62, 61, 126, 58, 46, 63, 64, 35, 38, 36] : List UInt8).getD (x4 : Int).toNat (0 : UInt8)).toNat : Int) = (x1.toNat : Int)
    · replace M := ifp q16 M
      refine cond_t rfl (bt q16 (by kernel_rfl)) ?_
      refine wp_seq ?_
      refine wp_region_lit ?_
      refine lv (d := 2) rfl rfl (by kernel_rfl) (e_assign (v := .bool true) rfl) ?_
      refine wpList_nil ?_
      refine then_n ?_
      refine wp_ret ?_
      refine inb_r ?_
      refine then_r ?_
      refine then_r ?_
      refine inb_r ?_
      refine then_r ?_
      obtain rfl := Option.some.inj M
      exact ret1 rfl rfl  (show _ = .bool true from (by kernel_rfl)) ⟨rfl, S8.chg⟩
    replace M := ifn q16 M
    refine cond_f rfl (bf q16 (by kernel_rfl)) ?_
    refine wp_skip ?_
    refine inb_n ?_
    refine then_n ?_
    refine wp_region_lit ?_
    refine lv (d := 9) rfl rfl (by kernel_rfl) (e_move (v := .int .i64 x4) (by exact e7)) ?_
    refine lv (d := 10) rfl rfl (by kernel_rfl) (e_add (k := .i64) (a := x4) (b := 1) (by kernel_rfl) rfl) ?_
    refine lv (d := 4) rfl rfl (by kernel_rfl) (e_assign (v := .int .i64 (IntKind.i64.wrap (x4 + 1))) (by kernel_rfl)) ?_
    refine wpList_nil ?_
    refine then_n ?_
    exact ⟨k13, (by omega), _, (IntKind.i64.wrap (x4 + 1)), rfl, (by exact e5), (by exact e6), (by kernel_rfl), S8, M⟩
  replace M := ifn q14 M
  refine cond_f rfl (bf q14 (by kernel_rfl)) ?_
  refine wp_exit ?_
  refine then_e ?_
  refine then_e ?_
  refine inb_hit ?_
  refine then_n ?_
  refine wp_seq ?_
  refine wp_region_lit ?_
  refine lv (d := 2) rfl rfl (by kernel_rfl) (e_assign (v := .bool false) rfl) ?_
  refine wpList_nil ?_
  refine then_n ?_
  refine wp_ret ?_
  obtain rfl := Option.some.inj M
  exact ret1 rfl rfl  (show _ = .bool false from (by kernel_rfl)) ⟨rfl, S8.chg⟩

/-! spec_l1digit -/
def spec_l1digit.f (x1 : UInt8) : Option Bool := (if (x1.toNat : Int) ≥ 48 then some (decide ((x1.toNat : Int) ≤ 57)) else some false)
theorem spec_l1digit.calls (w : World) (H : Hp) (x1 : UInt8) (S : Own [] H w) (r : Bool) (M : spec_l1digit.f x1 = some r) :
    Calls Tryd.prog 24 #[.int .u8 (x1.toNat : Int)] w (fun e e_w => e = .returned (.bool r) ∧ Chg no w e_w) := by
  rw [spec_l1digit.f] at M
  refine enter (l := [.int .u8 (x1.toNat : Int)]) 9 Tryd.func24 rfl rfl rfl ?_
  have S0_ := S.st
  refine wp_seq ?_
  refine wp_region_lit ?_
  refine lv (d := 2) rfl rfl (by kernel_rfl) (e_assign (v := .bool false) rfl) ?_
  refine wpList_nil ?_
  refine then_n ?_
  refine wp_seq ?_
  refine wp_region_lit ?_
  refine lv (d := 3) rfl rfl (by kernel_rfl) (e_move (v := .int .u8 (x1.toNat : Int)) (by kernel_rfl)) ?_
  refine lv (d := 4) rfl rfl (by kernel_rfl) (e_geq (k := .u8) (a := (x1.toNat : Int)) (b := 48) (by kernel_rfl) rfl) ?_
  refine lv (d := 5) rfl rfl (by kernel_rfl) (e_move (v := .bool (decide ((x1.toNat : Int) ≥ 48))) (by kernel_rfl)) ?_
  by_cases q2 : (x1.toNat : Int) ≥ 48
  · replace M := ifp q2 M
    refine lvg (d := 6) (t := 5) rfl (by kernel_rfl) rfl (bt q2 (by kernel_rfl)) rfl (by kernel_rfl) (e_move (v := .int .u8 (x1.toNat : Int)) (by kernel_rfl)) ?_
    refine lvg (d := 7) (t := 5) rfl (by kernel_rfl) rfl (bt q2 (by kernel_rfl)) rfl (by kernel_rfl) (e_leq (k := .u8) (a := (x1.toNat : Int)) (b := 57) (by kernel_rfl) rfl) ?_
    refine lv (d := 8) rfl rfl (by kernel_rfl) (e_pick_t (v := .bool (decide ((x1.toNat : Int) ≤ 57))) (bt q2 (by kernel_rfl)) (by kernel_rfl)) ?_
    refine lv (d := 2) rfl rfl (by kernel_rfl) (e_assign (v := .bool (decide ((x1.toNat : Int) ≤ 57))) (by kernel_rfl)) ?_
    refine wpList_nil ?_
    refine then_n ?_
    refine wp_ret ?_
    obtain rfl := Option.some.inj M
    exact ret1 rfl rfl  (show _ = .bool (decide ((x1.toNat : Int) ≤ 57)) from (by kernel_rfl)) ⟨rfl, S0_.chg⟩
  replace M := ifn q2 M
  refine lskip (t := 5) (c := false) rfl (by kernel_rfl) rfl (bf q2 (by kernel_rfl)) rfl rfl ?_
  refine lskip (t := 5) (c := false) rfl (by kernel_rfl) rfl (bf q2 (by kernel_rfl)) rfl rfl ?_
  refine lv (d := 8) rfl rfl (by kernel_rfl) (e_pick_f (v := .bool false) (bf q2 (by kernel_rfl)) rfl) ?_
  refine lv (d := 2) rfl rfl (by kernel_rfl) (e_assign (v := .bool false) (by kernel_rfl)) ?_
  refine wpList_nil ?_
  refine then_n ?_
  refine wp_ret ?_
  obtain rfl := Option.some.inj M
  exact ret1 rfl rfl  (show _ = .bool false from (by kernel_rfl)) ⟨rfl, S0_.chg⟩

/-! spec_l1alnum -/
def spec_l1alnum.f (x1 : UInt8) : Option Bool := ((spec_l1small.f x1).bind fun t2 => (if t2 = true then some true else (if (x1.toNat : Int) ≥ 65 then (if (x1.toNat : Int) ≤ 90 then some true else (if (x1.toNat : Int) = 95 then some true else ((spec_l1digit.f x1).bind fun t12 => some t12))) else (if (x1.toNat : Int) = 95 then some true else ((spec_l1digit.f x1).bind fun t19 => some t19)))))
theorem spec_l1alnum.calls (w : World) (H : Hp) (x1 : UInt8) (S : Own [] H w) (r : Bool) (M : spec_l1alnum.f x1 = some r) :
    Calls Tryd.prog 19 #[.int .u8 (x1.toNat : Int)] w (fun e e_w => e = .returned (.bool r) ∧ Chg no w e_w) := by
  rw [spec_l1alnum.f] at M
  refine enter (l := [.int .u8 (x1.toNat : Int)]) 21 Tryd.func19 rfl rfl rfl ?_
  have S0_ := S.st
  refine wp_seq ?_
  refine wp_region_lit ?_
  refine lv (d := 2) rfl rfl (by kernel_rfl) (e_assign (v := .bool false) rfl) ?_
  refine wpList_nil ?_
  refine then_n ?_
  refine wp_seq ?_
  refine wp_region_lit ?_
  refine lv (d := 3) rfl rfl (by kernel_rfl) (e_move (v := .int .u8 (x1.toNat : Int)) (by kernel_rfl)) ?_
  obtain ⟨t2, u3, M⟩ := bnd M
  refine lcall (d := 4) rfl rfl (by kernel_rfl) (e_call (l := [.tmp 3]) (vs := [.int .u8 (x1.toNat : Int)]) Tryd.func14 (by kernel_rfl) rfl (by kernel_rfl) rfl) (spec_l1small.calls w H x1  S0_.own0 t2 u3) ?_
  rintro _ w4 ⟨rfl, C5⟩
  refine ⟨_, rfl, ?_⟩
  obtain ⟨S6, K7⟩ := S0_.still C5
  refine lv (d := 5) rfl rfl (by kernel_rfl) (e_move (v := .bool t2) (by kernel_rfl)) ?_
  by_cases q8 : t2 = true
  · replace M := ifp q8 M
    refine lskip (t := 5) (c := true) rfl (by kernel_rfl) rfl (bvt q8 (by kernel_rfl)) rfl rfl ?_
    refine lskip (t := 5) (c := true) rfl (by kernel_rfl) rfl (bvt q8 (by kernel_rfl)) rfl rfl ?_
    refine lskip (t := 5) (c := true) rfl (by kernel_rfl) rfl (bvt q8 (by kernel_rfl)) rfl rfl ?_
    refine lskipu (t := 8) rfl (by kernel_rfl) rfl (by kernel_rfl) rfl ?_
    refine lskipu (t := 8) rfl (by kernel_rfl) rfl (by kernel_rfl) rfl ?_
    refine lskip (t := 5) (c := true) rfl (by kernel_rfl) rfl (bvt q8 (by kernel_rfl)) rfl rfl ?_
    refine lv (d := 12) rfl rfl (by kernel_rfl) (e_pick_t (v := .bool true) (bvt q8 (by kernel_rfl)) rfl) ?_
    refine lv (d := 13) rfl rfl (by kernel_rfl) (e_move (v := .bool true) (by kernel_rfl)) ?_
    refine lskip (t := 13) (c := true) rfl (by kernel_rfl) rfl (by kernel_rfl) rfl rfl ?_
    refine lskip (t := 13) (c := true) rfl (by kernel_rfl) rfl (by kernel_rfl) rfl rfl ?_
    refine lv (d := 16) rfl rfl (by kernel_rfl) (e_pick_t (v := .bool true) (by kernel_rfl) rfl) ?_
    refine lv (d := 17) rfl rfl (by kernel_rfl) (e_move (v := .bool true) (by kernel_rfl)) ?_
    refine lskip (t := 17) (c := true) rfl (by kernel_rfl) rfl (by kernel_rfl) rfl rfl ?_
    refine lskip (t := 17) (c := true) rfl (by kernel_rfl) rfl (by kernel_rfl) rfl rfl ?_
    refine lv (d := 20) rfl rfl (by kernel_rfl) (e_pick_t (v := .bool true) (by kernel_rfl) rfl) ?_
    refine lv (d := 2) rfl rfl (by kernel_rfl) (e_assign (v := .bool true) (by kernel_rfl)) ?_
    refine wpList_nil ?_
    refine then_n ?_
    refine wp_ret ?_
    obtain rfl := Option.some.inj M
    exact ret1 rfl rfl  (show _ = .bool true from (by kernel_rfl)) ⟨rfl, S6.chg⟩
  replace M := ifn q8 M
  refine lvg (d := 6) (t := 5) rfl (by kernel_rfl) rfl (bvf q8 (by kernel_rfl)) rfl (by kernel_rfl) (e_move (v := .int .u8 (x1.toNat : Int)) (by kernel_rfl)) ?_
  refine lvg (d := 7) (t := 5) rfl (by kernel_rfl) rfl (bvf q8 (by kernel_rfl)) rfl (by kernel_rfl) (e_geq (k := .u8) (a := (x1.toNat : Int)) (b := 65) (by kernel_rfl) rfl) ?_
  refine lvg (d := 8) (t := 5) rfl (by kernel_rfl) rfl (bvf q8 (by kernel_rfl)) rfl (by kernel_rfl) (e_move (v := .bool (decide ((x1.toNat : Int) ≥ 65))) (by kernel_rfl)) ?_
  by_cases q9 : (x1.toNat : Int) ≥ 65
  · replace M := ifp q9 M
    refine lvg (d := 9) (t := 8) rfl (by kernel_rfl) rfl (bt q9 (by kernel_rfl)) rfl (by kernel_rfl) (e_move (v := .int .u8 (x1.toNat : Int)) (by kernel_rfl)) ?_
    refine lvg (d := 10) (t := 8) rfl (by kernel_rfl) rfl (bt q9 (by kernel_rfl)) rfl (by kernel_rfl) (e_leq (k := .u8) (a := (x1.toNat : Int)) (b := 90) (by kernel_rfl) rfl) ?_
    refine lvg (d := 11) (t := 5) rfl (by kernel_rfl) rfl (bvf q8 (by kernel_rfl)) rfl (by kernel_rfl) (e_pick_t (v := .bool (decide ((x1.toNat : Int) ≤ 90))) (bt q9 (by kernel_rfl)) (by kernel_rfl)) ?_
    refine lv (d := 12) rfl rfl (by kernel_rfl) (e_pick_f (v := .bool (decide ((x1.toNat : Int) ≤ 90))) (bvf q8 (by kernel_rfl)) (by kernel_rfl)) ?_
    refine lv (d := 13) rfl rfl (by kernel_rfl) (e_move (v := .bool (decide ((x1.toNat : Int) ≤ 90))) (by kernel_rfl)) ?_
    by_cases q10 : (x1.toNat : Int) ≤ 90
    · replace M := ifp q10 M
      refine lskip (t := 13) (c := true) rfl (by kernel_rfl) rfl (bt q10 (by kernel_rfl)) rfl rfl ?_
      refine lskip (t := 13) (c := true) rfl (by kernel_rfl) rfl (bt q10 (by kernel_rfl)) rfl rfl ?_
      refine lv (d := 16) rfl rfl (by kernel_rfl) (e_pick_t (v := .bool true) (bt q10 (by kernel_rfl)) rfl) ?_
      refine lv (d := 17) rfl rfl (by kernel_rfl) (e_move (v := .bool true) (by kernel_rfl)) ?_
      refine lskip (t := 17) (c := true) rfl (by kernel_rfl) rfl (by kernel_rfl) rfl rfl ?_
      refine lskip (t := 17) (c := true) rfl (by kernel_rfl) rfl (by kernel_rfl) rfl rfl ?_
      refine lv (d := 20) rfl rfl (by kernel_rfl) (e_pick_t (v := .bool true) (by kernel_rfl) rfl) ?_
      refine lv (d := 2) rfl rfl (by kernel_rfl) (e_assign (v := .bool true) (by kernel_rfl)) ?_
      refine wpList_nil ?_
      refine then_n ?_
      refine wp_ret ?_
      obtain rfl := Option.some.inj M
      exact ret1 rfl rfl  (show _ = .bool true from (by kernel_rfl)) ⟨rfl, S6.chg⟩
    replace M := ifn q10 M
    refine lvg (d := 14) (t := 13) rfl (by kernel_rfl) rfl (bf q10 (by kernel_rfl)) rfl (by kernel_rfl) (e_move (v := .int .u8 (x1.toNat : Int)) (by kernel_rfl)) ?_
    refine lvg (d := 15) (t := 13) rfl (by kernel_rfl) rfl (bf q10 (by kernel_rfl)) rfl (by kernel_rfl) (e_eql (k := .u8) (a := (x1.toNat : Int)) (b := 95) (by kernel_rfl) rfl) ?_
    refine lv (d := 16) rfl rfl (by kernel_rfl) (e_pick_f (v := .bool (decide ((x1.toNat : Int) = 95))) (bf q10 (by kernel_rfl)) (by kernel_rfl)) ?_
    refine lv (d := 17) rfl rfl (by kernel_rfl) (e_move (v := .bool (decide ((x1.toNat : Int) = 95))) (by kernel_rfl)) ?_
    by_cases q11 : (x1.toNat : Int) = 95
    · replace M := ifp q11 M
      refine lskip (t := 17) (c := true) rfl (by kernel_rfl) rfl (bt q11 (by kernel_rfl)) rfl rfl ?_
      refine lskip (t := 17) (c := true) rfl (by kernel_rfl) rfl (bt q11 (by kernel_rfl)) rfl rfl ?_
      refine lv (d := 20) rfl rfl (by kernel_rfl) (e_pick_t (v := .bool true) (bt q11 (by kernel_rfl)) rfl) ?_
      refine lv (d := 2) rfl rfl (by kernel_rfl) (e_assign (v := .bool true) (by kernel_rfl)) ?_
      refine wpList_nil ?_
      refine then_n ?_
      refine wp_ret ?_
      obtain rfl := Option.some.inj M
      exact ret1 rfl rfl  (show _ = .bool true from (by kernel_rfl)) ⟨rfl, S6.chg⟩
    replace M := ifn q11 M
    refine lvg (d := 18) (t := 17) rfl (by kernel_rfl) rfl (bf q11 (by kernel_rfl)) rfl (by kernel_rfl) (e_move (v := .int .u8 (x1.toNat : Int)) (by kernel_rfl)) ?_
    obtain ⟨t12, u13, M⟩ := bnd M
    refine lcallg (d := 19) (t := 17) rfl (by kernel_rfl) rfl (bf q11 (by kernel_rfl)) rfl (by kernel_rfl) (e_call (l := [.tmp 18]) (vs := [.int .u8 (x1.toNat : Int)]) Tryd.func24 (by kernel_rfl) rfl (by kernel_rfl) rfl) (spec_l1digit.calls w4 H x1  S6.own0 t12 u13) ?_
    rintro _ w14 ⟨rfl, C15⟩
    refine ⟨_, rfl, ?_⟩
    obtain ⟨S16, K17⟩ := S6.still C15
    refine lv (d := 20) rfl rfl (by kernel_rfl) (e_pick_f (v := .bool t12) (bf q11 (by kernel_rfl)) (by kernel_rfl)) ?_
    refine lv (d := 2) rfl rfl (by kernel_rfl) (e_assign (v := .bool t12) (by kernel_rfl)) ?_
    refine wpList_nil ?_
    refine then_n ?_
    refine wp_ret ?_
    obtain rfl := Option.some.inj M
    exact ret1 rfl rfl  (show _ = .bool t12 from (by kernel_rfl)) ⟨rfl, S16.chg⟩
  replace M := ifn q9 M
  refine lskip (t := 8) (c := false) rfl (by kernel_rfl) rfl (bf q9 (by kernel_rfl)) rfl rfl ?_
  refine lskip (t := 8) (c := false) rfl (by kernel_rfl) rfl (bf q9 (by kernel_rfl)) rfl rfl ?_
  refine lvg (d := 11) (t := 5) rfl (by kernel_rfl) rfl (bvf q8 (by kernel_rfl)) rfl (by kernel_rfl) (e_pick_f (v := .bool false) (bf q9 (by kernel_rfl)) rfl) ?_
  refine lv (d := 12) rfl rfl (by kernel_rfl) (e_pick_f (v := .bool false) (bvf q8 (by kernel_rfl)) (by kernel_rfl)) ?_
  refine lv (d := 13) rfl rfl (by kernel_rfl) (e_move (v := .bool false) (by kernel_rfl)) ?_
  refine lvg (d := 14) (t := 13) rfl (by kernel_rfl) rfl (by kernel_rfl) rfl (by kernel_rfl) (e_move (v := .int .u8 (x1.toNat : Int)) (by kernel_rfl)) ?_
  refine lvg (d := 15) (t := 13) rfl (by kernel_rfl) rfl (by kernel_rfl) rfl (by kernel_rfl) (e_eql (k := .u8) (a := (x1.toNat : Int)) (b := 95) (by kernel_rfl) rfl) ?_
  refine lv (d := 16) rfl rfl (by kernel_rfl) (e_pick_f (v := .bool (decide ((x1.toNat : Int) = 95))) (by kernel_rfl) (by kernel_rfl)) ?_
  refine lv (d := 17) rfl rfl (by kernel_rfl) (e_move (v := .bool (decide ((x1.toNat : Int) = 95))) (by kernel_rfl)) ?_
  by_cases q18 : (x1.toNat : Int) = 95
  · replace M := ifp q18 M
    refine lskip (t := 17) (c := true) rfl (by kernel_rfl) rfl (bt q18 (by kernel_rfl)) rfl rfl ?_
    refine lskip (t := 17) (c := true) rfl (by kernel_rfl) rfl (bt q18 (by kernel_rfl)) rfl rfl ?_
    refine lv (d := 20) rfl rfl (by kernel_rfl) (e_pick_t (v := .bool true) (bt q18 (by kernel_rfl)) rfl) ?_
    refine lv (d := 2) rfl rfl (by kernel_rfl) (e_assign (v := .bool true) (by kernel_rfl)) ?_
    refine wpList_nil ?_
    refine then_n ?_
    refine wp_ret ?_
    obtain rfl := Option.some.inj M
    exact ret1 rfl rfl  (show _ = .bool true from (by kernel_rfl)) ⟨rfl, S6.chg⟩
  replace M := ifn q18 M
  refine lvg (d := 18) (t := 17) rfl (by kernel_rfl) rfl (bf q18 (by kernel_rfl)) rfl (by kernel_rfl) (e_move (v := .int .u8 (x1.toNat : Int)) (by kernel_rfl)) ?_
  obtain ⟨t19, u20, M⟩ := bnd M
  refine lcallg (d := 19) (t := 17) rfl (by kernel_rfl) rfl (bf q18 (by kernel_rfl)) rfl (by kernel_rfl) (e_call (l := [.tmp 18]) (vs := [.int .u8 (x1.toNat : Int)]) Tryd.func24 (by kernel_rfl) rfl (by kernel_rfl) rfl) (spec_l1digit.calls w4 H x1  S6.own0 t19 u20) ?_
  rintro _ w21 ⟨rfl, C22⟩
  refine ⟨_, rfl, ?_⟩
  obtain ⟨S23, K24⟩ := S6.still C22
  refine lv (d := 20) rfl rfl (by kernel_rfl) (e_pick_f (v := .bool t19) (bf q18 (by kernel_rfl)) (by kernel_rfl)) ?_
  refine lv (d := 2) rfl rfl (by kernel_rfl) (e_assign (v := .bool t19) (by kernel_rfl)) ?_
  refine wpList_nil ?_
  refine then_n ?_
  refine wp_ret ?_
  obtain rfl := Option.some.inj M
  exact ret1 rfl rfl  (show _ = .bool t19 from (by kernel_rfl)) ⟨rfl, S23.chg⟩

/-! spec_l1run -/
def spec_l1run.l0 : Nat → (List UInt8) → Int → Bool → Int → Option Int
  | 0, _, _, _, _ => none
  | k20 + 1, x1, x6, x7, x10 => (if (IntKind.i64.wrap (x6 + x10)) < (x1.length : Int) then (if x7 = true then (if 0 ≤ (IntKind.i64.wrap (x6 + x10)) then ((spec_l1symbol.f k20 (x1.getD (((IntKind.i64.wrap (x6 + x10))).toNat) (0 : UInt8))).bind fun t30 => (if t30 = true then (spec_l1run.l0 k20 x1 x6 x7 (IntKind.i64.wrap (x10 + 1))) else (if ¬ (x7 = true) then ((spec_l1alnum.f (x1.getD (((IntKind.i64.wrap (x6 + x10))).toNat) (0 : UInt8))).bind fun t44 => (if t44 = true then (spec_l1run.l0 k20 x1 x6 x7 (IntKind.i64.wrap (x10 + 1))) else some x10)) else some x10))) else none) else (if ¬ (x7 = true) then (if 0 ≤ (IntKind.i64.wrap (x6 + x10)) then ((spec_l1alnum.f (x1.getD (((IntKind.i64.wrap (x6 + x10))).toNat) (0 : UInt8))).bind fun t59 => (if t59 = true then (spec_l1run.l0 k20 x1 x6 x7 (IntKind.i64.wrap (x10 + 1))) else some x10)) else none) else some x10)) else some x10)
def spec_l1run.f (k : Nat) (x1 : List UInt8) (x6 : Int) (x7 : Bool) : Option Int := (spec_l1run.l0 k x1 x6 x7 0)
theorem spec_l1run.calls (k : Nat) (w : World) (H : Hp) (x1 : List UInt8) (A2 : Option Addr) (c3 : Nat) (x6 : Int) (x7 : Bool) (h4 : Rd tByte H A2 x1) (l5 : x1.length ≤ c3) (S : Own [] H w) (r : Int) (M : spec_l1run.f k x1 x6 x7 = some r) :
    Calls Tryd.prog 15 #[.slice A2 x1.length c3, .int .i64 x6, .bool x7] w (fun e e_w => e = .returned (.int .i64 r) ∧ Chg no w e_w) := by
  rw [spec_l1run.f] at M
  refine enter (l := [.slice A2 x1.length c3, .int .i64 x6, .bool x7]) 42 Tryd.func15 rfl rfl rfl ?_
  have S0_ := S.st
  refine wp_seq ?_
  refine wp_region_lit ?_
  refine lv (d := 6) rfl rfl (by kernel_rfl) (e_assign (v := .int .i64 0) rfl) ?_
  refine wpList_nil ?_
  refine then_n ?_
  refine wp_seq ?_
  refine wp_region_lit ?_
  refine lv (d := 7) rfl rfl (by kernel_rfl) (e_assign (v := .int .i64 0) rfl) ?_
  refine wpList_nil ?_
  refine then_n ?_
  refine wp_seq ?_
  refine wp_block ?_
  refine wp_loop_g (fun k18 a19 w8 => ∃ (f9 : Nat → Value) (x10 : Int), a19 = mk 42 f9 ∧ f9 0 = .slice A2 x1.length c3 ∧ f9 1 = .int .i64 x6 ∧ f9 2 = .bool x7 ∧ f9 7 = .int .i64 x10 ∧ St (anyOf []) H w [] H w8 ∧ spec_l1run.l0 k18 x1 x6 x7 x10 = some r) k ⟨_, 0, rfl, (by kernel_rfl), (by kernel_rfl), (by kernel_rfl), (by kernel_rfl), S0_, M⟩ ?_
  clear M
  rintro k18 a19 w8 ⟨f9, x10, rfl, e11, e12, e13, e14, S15, M⟩
  rcases k18 with _ | k20
  · rw [spec_l1run.l0] at M
    cases M
  rw [spec_l1run.l0] at M
  refine wp_seq ?_
  refine wp_seq ?_
  refine wp_region_lit ?_
  refine lv (d := 8) rfl rfl (by kernel_rfl) (e_move (v := .int .i64 x6) (by exact e12)) ?_
  refine lv (d := 9) rfl rfl (by kernel_rfl) (e_move (v := .int .i64 x10) (by exact e14)) ?_
  refine lv (d := 10) rfl rfl (by kernel_rfl) (e_add (k := .i64) (a := x6) (b := x10) (by kernel_rfl) (by kernel_rfl)) ?_
  refine lv (d := 11) rfl rfl (by kernel_rfl) (e_move (v := .slice A2 x1.length c3) (by exact e11)) ?_
  refine lv (d := 12) rfl rfl (by kernel_rfl) (e_len (A := A2) (n := x1.length) (c := c3) Tryd.underlying22 (by kernel_rfl)) ?_
  refine lv (d := 13) rfl rfl (by kernel_rfl) (e_lss (k := .i64) (a := (IntKind.i64.wrap (x6 + x10))) (b := (x1.length : Int)) (by kernel_rfl) (by kernel_rfl)) ?_
  refine lv (d := 14) rfl rfl (by kernel_rfl) (e_move (v := .bool (decide ((IntKind.i64.wrap (x6 + x10)) < (x1.length : Int)))) (by kernel_rfl)) ?_
  by_cases q21 : (IntKind.i64.wrap (x6 + x10)) < (x1.length : Int)
  · replace M := ifp q21 M
    refine lvg (d := 15) (t := 14) rfl (by kernel_rfl) rfl (bt q21 (by kernel_rfl)) rfl (by kernel_rfl) (e_move (v := .bool x7) (by exact e13)) ?_
    refine lvg (d := 16) (t := 14) rfl (by kernel_rfl) rfl (bt q21 (by kernel_rfl)) rfl (by kernel_rfl) (e_move (v := .bool x7) (by kernel_rfl)) ?_
    by_cases q22 : x7 = true
    · replace M := ifp q22 M
      refine lvg (d := 17) (t := 16) rfl (by kernel_rfl) rfl (bvt q22 (by kernel_rfl)) rfl (by kernel_rfl) (e_move (v := .slice A2 x1.length c3) (by exact e11)) ?_
      refine lvg (d := 18) (t := 16) rfl (by kernel_rfl) rfl (bvt q22 (by kernel_rfl)) rfl (by kernel_rfl) (e_move (v := .int .i64 x6) (by exact e12)) ?_
      refine lvg (d := 19) (t := 16) rfl (by kernel_rfl) rfl (bvt q22 (by kernel_rfl)) rfl (by kernel_rfl) (e_move (v := .int .i64 x10) (by exact e14)) ?_
      refine lvg (d := 20) (t := 16) rfl (by kernel_rfl) rfl (bvt q22 (by kernel_rfl)) rfl (by kernel_rfl) (e_add (k := .i64) (a := x6) (b := x10) (by kernel_rfl) (by kernel_rfl)) ?_
      obtain ⟨q23, M⟩ := chk M
      obtain ⟨b24, o25, e26⟩ := Rd.addr h4 (show ((IntKind.i64.wrap (x6 + x10))).toNat < x1.length by omega)
      obtain ⟨y27, r28, k29⟩ := Rd.at h4 e26 (getD_some (0 : UInt8) (show ((IntKind.i64.wrap (x6 + x10))).toNat < x1.length by omega))
      obtain rfl := r28
      refine lvg (d := 21) (t := 16) rfl (by kernel_rfl) rfl (bvt q22 (by kernel_rfl)) rfl (by kernel_rfl) (e_indexAddr (b := b24) (off := o25) (n := x1.length) (c := c3) (sz := 1) (i := (IntKind.i64.wrap (x6 + x10))) (k := .i64) Tryd.underlying22 e26 (by kernel_rfl) (by kernel_rfl) (by kernel_rfl) q23 q21) ?_
      refine lvg (d := 22) (t := 16) rfl (by kernel_rfl) rfl (bvt q22 (by kernel_rfl)) rfl (by kernel_rfl) (e_load1 (ad := ⟨b24, o25 + ((IntKind.i64.wrap (x6 + x10)) : Int).toNat * 1, none⟩) (v := .int .u8 ((x1.getD (((IntKind.i64.wrap (x6 + x10))).toNat) (0 : UInt8)).toNat : Int)) Tryd.underlying5 rfl (by kernel_rfl) (hpx (S15.inv.cell (k29 0 _ rfl)))) ?_
      obtain ⟨t30, u31, M⟩ := bnd M
      refine lcallg (d := 23) (t := 16) rfl (by kernel_rfl) rfl (bvt q22 (by kernel_rfl)) rfl (by kernel_rfl) (e_call (l := [.tmp 22]) (vs := [.int .u8 ((x1.getD (((IntKind.i64.wrap (x6 + x10))).toNat) (0 : UInt8)).toNat : Int)]) Tryd.func18 (by kernel_rfl) rfl (by kernel_rfl) rfl) (spec_l1symbol.calls k20 w8 H (x1.getD (((IntKind.i64.wrap (x6 + x10))).toNat) (0 : UInt8))  S15.own0 t30 u31) ?_
      rintro _ w32 ⟨rfl, C33⟩
      refine ⟨_, rfl, ?_⟩
      obtain ⟨S34, K35⟩ := S15.still C33
      refine lvg (d := 24) (t := 14) rfl (by kernel_rfl) rfl (bt q21 (by kernel_rfl)) rfl (by kernel_rfl) (e_pick_t (v := .bool t30) (bvt q22 (by kernel_rfl)) (by kernel_rfl)) ?_
      refine lvg (d := 25) (t := 14) rfl (by kernel_rfl) rfl (bt q21 (by kernel_rfl)) rfl (by kernel_rfl) (e_move (v := .bool t30) (by kernel_rfl)) ?_
      by_cases q36 : t30 = true
      · replace M := ifp q36 M
        refine lskip (t := 25) (c := true) rfl (by kernel_rfl) rfl (bvt q36 (by kernel_rfl)) rfl rfl ?_
        refine lskip (t := 25) (c := true) rfl (by kernel_rfl) rfl (bvt q36 (by kernel_rfl)) rfl rfl ?_
        refine lskip (t := 25) (c := true) rfl (by kernel_rfl) rfl (bvt q36 (by kernel_rfl)) rfl rfl ?_
        refine lskipu (t := 28) rfl (by kernel_rfl) rfl (by kernel_rfl) rfl ?_
        refine lskipu (t := 28) rfl (by kernel_rfl) rfl (by kernel_rfl) rfl ?_
        refine lskipu (t := 28) rfl (by kernel_rfl) rfl (by kernel_rfl) rfl ?_
        refine lskipu (t := 28) rfl (by kernel_rfl) rfl (by kernel_rfl) rfl ?_
        refine lskipu (t := 28) rfl (by kernel_rfl) rfl (by kernel_rfl) rfl ?_
        refine lskipu (t := 28) rfl (by kernel_rfl) rfl (by kernel_rfl) rfl ?_
        refine lskipu (t := 28) rfl (by kernel_rfl) rfl (by kernel_rfl) rfl ?_
        refine lskip (t := 25) (c := true) rfl (by kernel_rfl) rfl (bvt q36 (by kernel_rfl)) rfl rfl ?_
        refine lvg (d := 37) (t := 14) rfl (by kernel_rfl) rfl (bt q21 (by kernel_rfl)) rfl (by kernel_rfl) (e_pick_t (v := .bool true) (bvt q36 (by kernel_rfl)) rfl) ?_
        refine lv (d := 38) rfl rfl (by kernel_rfl) (e_pick_t (v := .bool true) (bt q21 (by kernel_rfl)) (by kernel_rfl)) ?_
        refine wpList_nil ?_
        refine then_n ?_
        refine cond_t rfl (by kernel_rfl) ?_
        refine wp_skip ?_
        refine then_n ?_
        refine wp_block ?_
        refine wp_region_lit ?_
        refine lv (d := 39) rfl rfl (by kernel_rfl) (e_move (v := .int .i64 x10) (by exact e14)) ?_
        refine lv (d := 40) rfl rfl (by kernel_rfl) (e_add (k := .i64) (a := x10) (b := 1) (by kernel_rfl) rfl) ?_
        refine lv (d := 7) rfl rfl (by kernel_rfl) (e_assign (v := .int .i64 (IntKind.i64.wrap (x10 + 1))) (by kernel_rfl)) ?_
        refine wpList_nil ?_
        refine inb_n ?_
        refine then_n ?_
        exact ⟨k20, (by omega), _, (IntKind.i64.wrap (x10 + 1)), rfl, (by exact e11), (by exact e12), (by exact e13), (by kernel_rfl), S34, M⟩
      replace M := ifn q36 M
      refine lvg (d := 26) (t := 25) rfl (by kernel_rfl) rfl (bvf q36 (by kernel_rfl)) rfl (by kernel_rfl) (e_move (v := .bool x7) (by exact e13)) ?_
      refine lvg (d := 27) (t := 25) rfl (by kernel_rfl) rfl (bvf q36 (by kernel_rfl)) rfl (by kernel_rfl) (e_notv (c := x7) (by kernel_rfl)) ?_
      refine lvg (d := 28) (t := 25) rfl (by kernel_rfl) rfl (bvf q36 (by kernel_rfl)) rfl (by kernel_rfl) (e_move (v := .bool (decide (¬ (x7 = true)))) (by kernel_rfl)) ?_
      by_cases q37 : ¬ (x7 = true)
      · replace M := ifp q37 M
        refine lvg (d := 29) (t := 28) rfl (by kernel_rfl) rfl (bt q37 (by kernel_rfl)) rfl (by kernel_rfl) (e_move (v := .slice A2 x1.length c3) (by exact e11)) ?_
        refine lvg (d := 30) (t := 28) rfl (by kernel_rfl) rfl (bt q37 (by kernel_rfl)) rfl (by kernel_rfl) (e_move (v := .int .i64 x6) (by exact e12)) ?_
        refine lvg (d := 31) (t := 28) rfl (by kernel_rfl) rfl (bt q37 (by kernel_rfl)) rfl (by kernel_rfl) (e_move (v := .int .i64 x10) (by exact e14)) ?_
        refine lvg (d := 32) (t := 28) rfl (by kernel_rfl) rfl (bt q37 (by kernel_rfl)) rfl (by kernel_rfl) (e_add (k := .i64) (a := x6) (b := x10) (by kernel_rfl) (by kernel_rfl)) ?_
        obtain ⟨b38, o39, e40⟩ := Rd.addr h4 (show ((IntKind.i64.wrap (x6 + x10))).toNat < x1.length by omega)
        obtain ⟨y41, r42, k43⟩ := Rd.at h4 e40 (getD_some (0 : UInt8) (show ((IntKind.i64.wrap (x6 + x10))).toNat < x1.length by omega))
        obtain rfl := r42
        refine lvg (d := 33) (t := 28) rfl (by kernel_rfl) rfl (bt q37 (by kernel_rfl)) rfl (by kernel_rfl) (e_indexAddr (b := b38) (off := o39) (n := x1.length) (c := c3) (sz := 1) (i := (IntKind.i64.wrap (x6 + x10))) (k := .i64) Tryd.underlying22 e40 (by kernel_rfl) (by kernel_rfl) (by kernel_rfl) q23 q21) ?_
        refine lvg (d := 34) (t := 28) rfl (by kernel_rfl) rfl (bt q37 (by kernel_rfl)) rfl (by kernel_rfl) (e_load1 (ad := ⟨b38, o39 + ((IntKind.i64.wrap (x6 + x10)) : Int).toNat * 1, none⟩) (v := .int .u8 ((x1.getD (((IntKind.i64.wrap (x6 + x10))).toNat) (0 : UInt8)).toNat : Int)) Tryd.underlying5 rfl (by kernel_rfl) (hpx (S34.inv.cell (k43 0 _ rfl)))) ?_
        obtain ⟨t44, u45, M⟩ := bnd M
        refine lcallg (d := 35) (t := 28) rfl (by kernel_rfl) rfl (bt q37 (by kernel_rfl)) rfl (by kernel_rfl) (e_call (l := [.tmp 34]) (vs := [.int .u8 ((x1.getD (((IntKind.i64.wrap (x6 + x10))).toNat) (0 : UInt8)).toNat : Int)]) Tryd.func19 (by kernel_rfl) rfl (by kernel_rfl) rfl) (spec_l1alnum.calls w32 H (x1.getD (((IntKind.i64.wrap (x6 + x10))).toNat) (0 : UInt8))  S34.own0 t44 u45) ?_
        rintro _ w46 ⟨rfl, C47⟩
        refine ⟨_, rfl, ?_⟩
        obtain ⟨S48, K49⟩ := S34.still C47
        refine lvg (d := 36) (t := 25) rfl (by kernel_rfl) rfl (bvf q36 (by kernel_rfl)) rfl (by kernel_rfl) (e_pick_t (v := .bool t44) (bt q37 (by kernel_rfl)) (by kernel_rfl)) ?_
        refine lvg (d := 37) (t := 14) rfl (by kernel_rfl) rfl (bt q21 (by kernel_rfl)) rfl (by kernel_rfl) (e_pick_f (v := .bool t44) (bvf q36 (by kernel_rfl)) (by kernel_rfl)) ?_
        refine lv (d := 38) rfl rfl (by kernel_rfl) (e_pick_t (v := .bool t44) (bt q21 (by kernel_rfl)) (by kernel_rfl)) ?_
        refine wpList_nil ?_
        refine then_n ?_
        by_cases q50 : t44 = true
        · replace M := ifp q50 M
          refine cond_t rfl (bvt q50 (by kernel_rfl)) ?_
          refine wp_skip ?_
          refine then_n ?_
          refine wp_block ?_
          refine wp_region_lit ?_
          refine lv (d := 39) rfl rfl (by kernel_rfl) (e_move (v := .int .i64 x10) (by exact e14)) ?_
          refine lv (d := 40) rfl rfl (by kernel_rfl) (e_add (k := .i64) (a := x10) (b := 1) (by kernel_rfl) rfl) ?_
          refine lv (d := 7) rfl rfl (by kernel_rfl) (e_assign (v := .int .i64 (IntKind.i64.wrap (x10 + 1))) (by kernel_rfl)) ?_
          refine wpList_nil ?_
          refine inb_n ?_
          refine then_n ?_
          exact ⟨k20, (by omega), _, (IntKind.i64.wrap (x10 + 1)), rfl, (by exact e11), (by exact e12), (by exact e13), (by kernel_rfl), S48, M⟩
        replace M := ifn q50 M
        refine cond_f rfl (bvf q50 (by kernel_rfl)) ?_
        refine wp_exit ?_
        refine then_e ?_
        refine then_e ?_
        refine inb_hit ?_
        refine then_n ?_
        refine wp_seq ?_
        refine wp_region_lit ?_
        refine lv (d := 41) rfl rfl (by kernel_rfl) (e_move (v := .int .i64 x10) (by exact e14)) ?_
        refine lv (d := 6) rfl rfl (by kernel_rfl) (e_assign (v := .int .i64 x10) (by kernel_rfl)) ?_
        refine wpList_nil ?_
        refine then_n ?_
        refine wp_ret ?_
        obtain rfl := Option.some.inj M
        exact ret1 rfl rfl  (show _ = .int .i64 x10 from (by kernel_rfl)) ⟨rfl, S48.chg⟩
      replace M := ifn q37 M
      refine lskip (t := 28) (c := false) rfl (by kernel_rfl) rfl (bf q37 (by kernel_rfl)) rfl rfl ?_
      refine lskip (t := 28) (c := false) rfl (by kernel_rfl) rfl (bf q37 (by kernel_rfl)) rfl rfl ?_
      refine lskip (t := 28) (c := false) rfl (by kernel_rfl) rfl (bf q37 (by kernel_rfl)) rfl rfl ?_
      refine lskip (t := 28) (c := false) rfl (by kernel_rfl) rfl (bf q37 (by kernel_rfl)) rfl rfl ?_
      refine lskip (t := 28) (c := false) rfl (by kernel_rfl) rfl (bf q37 (by kernel_rfl)) rfl rfl ?_
      refine lskip (t := 28) (c := false) rfl (by kernel_rfl) rfl (bf q37 (by kernel_rfl)) rfl rfl ?_
      refine lskip (t := 28) (c := false) rfl (by kernel_rfl) rfl (bf q37 (by kernel_rfl)) rfl rfl ?_
      refine lvg (d := 36) (t := 25) rfl (by kernel_rfl) rfl (bvf q36 (by kernel_rfl)) rfl (by kernel_rfl) (e_pick_f (v := .bool false) (bf q37 (by kernel_rfl)) rfl) ?_
      refine lvg (d := 37) (t := 14) rfl (by kernel_rfl) rfl (bt q21 (by kernel_rfl)) rfl (by kernel_rfl) (e_pick_f (v := .bool false) (bvf q36 (by kernel_rfl)) (by kernel_rfl)) ?_
      refine lv (d := 38) rfl rfl (by kernel_rfl) (e_pick_t (v := .bool false) (bt q21 (by kernel_rfl)) (by kernel_rfl)) ?_
      refine wpList_nil ?_
      refine then_n ?_
      refine cond_f rfl (by kernel_rfl) ?_
      refine wp_exit ?_
      refine then_e ?_
      refine then_e ?_
      refine inb_hit ?_
      refine then_n ?_
      refine wp_seq ?_
      refine wp_region_lit ?_
      refine lv (d := 41) rfl rfl (by kernel_rfl) (e_move (v := .int .i64 x10) (by exact e14)) ?_
      refine lv (d := 6) rfl rfl (by kernel_rfl) (e_assign (v := .int .i64 x10) (by kernel_rfl)) ?_
      refine wpList_nil ?_
      refine then_n ?_
      refine wp_ret ?_
      obtain rfl := Option.some.inj M
      exact ret1 rfl rfl  (show _ = .int .i64 x10 from (by kernel_rfl)) ⟨rfl, S34.chg⟩
    replace M := ifn q22 M
    refine lskip (t := 16) (c := false) rfl (by kernel_rfl) rfl (bvf q22 (by kernel_rfl)) rfl rfl ?_
    refine lskip (t := 16) (c := false) rfl (by kernel_rfl) rfl (bvf q22 (by kernel_rfl)) rfl rfl ?_
    refine lskip (t := 16) (c := false) rfl (by kernel_rfl) rfl (bvf q22 (by kernel_rfl)) rfl rfl ?_
    refine lskip (t := 16) (c := false) rfl (by kernel_rfl) rfl (bvf q22 (by kernel_rfl)) rfl rfl ?_
    refine lskip (t := 16) (c := false) rfl (by kernel_rfl) rfl (bvf q22 (by kernel_rfl)) rfl rfl ?_
    refine lskip (t := 16) (c := false) rfl (by kernel_rfl) rfl (bvf q22 (by kernel_rfl)) rfl rfl ?_
    refine lskip (t := 16) (c := false) rfl (by kernel_rfl) rfl (bvf q22 (by kernel_rfl)) rfl rfl ?_
    refine lvg (d := 24) (t := 14) rfl (by kernel_rfl) rfl (bt q21 (by kernel_rfl)) rfl (by kernel_rfl) (e_pick_f (v := .bool false) (bvf q22 (by kernel_rfl)) rfl) ?_
    refine lvg (d := 25) (t := 14) rfl (by kernel_rfl) rfl (bt q21 (by kernel_rfl)) rfl (by kernel_rfl) (e_move (v := .bool false) (by kernel_rfl)) ?_
    refine lvg (d := 26) (t := 25) rfl (by kernel_rfl) rfl (by kernel_rfl) rfl (by kernel_rfl) (e_move (v := .bool x7) (by exact e13)) ?_
    refine lvg (d := 27) (t := 25) rfl (by kernel_rfl) rfl (by kernel_rfl) rfl (by kernel_rfl) (e_notv (c := x7) (by kernel_rfl)) ?_
    refine lvg (d := 28) (t := 25) rfl (by kernel_rfl) rfl (by kernel_rfl) rfl (by kernel_rfl) (e_move (v := .bool (decide (¬ (x7 = true)))) (by kernel_rfl)) ?_
    by_cases q51 : ¬ (x7 = true)
    · replace M := ifp q51 M
      refine lvg (d := 29) (t := 28) rfl (by kernel_rfl) rfl (bt q51 (by kernel_rfl)) rfl (by kernel_rfl) (e_move (v := .slice A2 x1.length c3) (by exact e11)) ?_
      refine lvg (d := 30) (t := 28) rfl (by kernel_rfl) rfl (bt q51 (by kernel_rfl)) rfl (by kernel_rfl) (e_move (v := .int .i64 x6) (by exact e12)) ?_
      refine lvg (d := 31) (t := 28) rfl (by kernel_rfl) rfl (bt q51 (by kernel_rfl)) rfl (by kernel_rfl) (e_move (v := .int .i64 x10) (by exact e14)) ?_
      refine lvg (d := 32) (t := 28) rfl (by kernel_rfl) rfl (bt q51 (by kernel_rfl)) rfl (by kernel_rfl) (e_add (k := .i64) (a := x6) (b := x10) (by kernel_rfl) (by kernel_rfl)) ?_
      obtain ⟨q52, M⟩ := chk M
      obtain ⟨b53, o54, e55⟩ := Rd.addr h4 (show ((IntKind.i64.wrap (x6 + x10))).toNat < x1.length by omega)
      obtain ⟨y56, r57, k58⟩ := Rd.at h4 e55 (getD_some (0 : UInt8) (show ((IntKind.i64.wrap (x6 + x10))).toNat < x1.length by omega))
      obtain rfl := r57
      refine lvg (d := 33) (t := 28) rfl (by kernel_rfl) rfl (bt q51 (by kernel_rfl)) rfl (by kernel_rfl) (e_indexAddr (b := b53) (off := o54) (n := x1.length) (c := c3) (sz := 1) (i := (IntKind.i64.wrap (x6 + x10))) (k := .i64) Tryd.underlying22 e55 (by kernel_rfl) (by kernel_rfl) (by kernel_rfl) q52 q21) ?_
      refine lvg (d := 34) (t := 28) rfl (by kernel_rfl) rfl (bt q51 (by kernel_rfl)) rfl (by kernel_rfl) (e_load1 (ad := ⟨b53, o54 + ((IntKind.i64.wrap (x6 + x10)) : Int).toNat * 1, none⟩) (v := .int .u8 ((x1.getD (((IntKind.i64.wrap (x6 + x10))).toNat) (0 : UInt8)).toNat : Int)) Tryd.underlying5 rfl (by kernel_rfl) (hpx (S15.inv.cell (k58 0 _ rfl)))) ?_
      obtain ⟨t59, u60, M⟩ := bnd M
      refine lcallg (d := 35) (t := 28) rfl (by kernel_rfl) rfl (bt q51 (by kernel_rfl)) rfl (by kernel_rfl) (e_call (l := [.tmp 34]) (vs := [.int .u8 ((x1.getD (((IntKind.i64.wrap (x6 + x10))).toNat) (0 : UInt8)).toNat : Int)]) Tryd.func19 (by kernel_rfl) rfl (by kernel_rfl) rfl) (spec_l1alnum.calls w8 H (x1.getD (((IntKind.i64.wrap (x6 + x10))).toNat) (0 : UInt8))  S15.own0 t59 u60) ?_
      rintro _ w61 ⟨rfl, C62⟩
      refine ⟨_, rfl, ?_⟩
      obtain ⟨S63, K64⟩ := S15.still C62
      refine lvg (d := 36) (t := 25) rfl (by kernel_rfl) rfl (by kernel_rfl) rfl (by kernel_rfl) (e_pick_t (v := .bool t59) (bt q51 (by kernel_rfl)) (by kernel_rfl)) ?_
      refine lvg (d := 37) (t := 14) rfl (by kernel_rfl) rfl (bt q21 (by kernel_rfl)) rfl (by kernel_rfl) (e_pick_f (v := .bool t59) (by kernel_rfl) (by kernel_rfl)) ?_
      refine lv (d := 38) rfl rfl (by kernel_rfl) (e_pick_t (v := .bool t59) (bt q21 (by kernel_rfl)) (by kernel_rfl)) ?_
      refine wpList_nil ?_
      refine then_n ?_
      by_cases q65 : t59 = true
      · replace M := ifp q65 M
        refine cond_t rfl (bvt q65 (by kernel_rfl)) ?_
        refine wp_skip ?_
        refine then_n ?_
        refine wp_block ?_
        refine wp_region_lit ?_
        refine lv (d := 39) rfl rfl (by kernel_rfl) (e_move (v := .int .i64 x10) (by exact e14)) ?_
        refine lv (d := 40) rfl rfl (by kernel_rfl) (e_add (k := .i64) (a := x10) (b := 1) (by kernel_rfl) rfl) ?_
        refine lv (d := 7) rfl rfl (by kernel_rfl) (e_assign (v := .int .i64 (IntKind.i64.wrap (x10 + 1))) (by kernel_rfl)) ?_
        refine wpList_nil ?_
        refine inb_n ?_
        refine then_n ?_
        exact ⟨k20, (by omega), _, (IntKind.i64.wrap (x10 + 1)), rfl, (by exact e11), (by exact e12), (by exact e13), (by kernel_rfl), S63, M⟩
      replace M := ifn q65 M
      refine cond_f rfl (bvf q65 (by kernel_rfl)) ?_
      refine wp_exit ?_
      refine then_e ?_
      refine then_e ?_
      refine inb_hit ?_
      refine then_n ?_
      refine wp_seq ?_
      refine wp_region_lit ?_
      refine lv (d := 41) rfl rfl (by kernel_rfl) (e_move (v := .int .i64 x10) (by exact e14)) ?_
      refine lv (d := 6) rfl rfl (by kernel_rfl) (e_assign (v := .int .i64 x10) (by kernel_rfl)) ?_
      refine wpList_nil ?_
      refine then_n ?_
      refine wp_ret ?_
      obtain rfl := Option.some.inj M
      exact ret1 rfl rfl  (show _ = .int .i64 x10 from (by kernel_rfl)) ⟨rfl, S63.chg⟩
    replace M := ifn q51 M
    refine lskip (t := 28) (c := false) rfl (by kernel_rfl) rfl (bf q51 (by kernel_rfl)) rfl rfl ?_
    refine lskip (t := 28) (c := false) rfl (by kernel_rfl) rfl (bf q51 (by kernel_rfl)) rfl rfl ?_
    refine lskip (t := 28) (c := false) rfl (by kernel_rfl) rfl (bf q51 (by kernel_rfl)) rfl rfl ?_
    refine lskip (t := 28) (c := false) rfl (by kernel_rfl) rfl (bf q51 (by kernel_rfl)) rfl rfl ?_
    refine lskip (t := 28) (c := false) rfl (by kernel_rfl) rfl (bf q51 (by kernel_rfl)) rfl rfl ?_
    refine lskip (t := 28) (c := false) rfl (by kernel_rfl) rfl (bf q51 (by kernel_rfl)) rfl rfl ?_
    refine lskip (t := 28) (c := false) rfl (by kernel_rfl) rfl (bf q51 (by kernel_rfl)) rfl rfl ?_
    refine lvg (d := 36) (t := 25) rfl (by kernel_rfl) rfl (by kernel_rfl) rfl (by kernel_rfl) (e_pick_f (v := .bool false) (bf q51 (by kernel_rfl)) rfl) ?_
    refine lvg (d := 37) (t := 14) rfl (by kernel_rfl) rfl (bt q21 (by kernel_rfl)) rfl (by kernel_rfl) (e_pick_f (v := .bool false) (by kernel_rfl) (by kernel_rfl)) ?_
    refine lv (d := 38) rfl rfl (by kernel_rfl) (e_pick_t (v := .bool false) (bt q21 (by kernel_rfl)) (by kernel_rfl)) ?_
    refine wpList_nil ?_
    refine then_n ?_
    refine cond_f rfl (by kernel_rfl) ?_
    refine wp_exit ?_
    refine then_e ?_
    refine then_e ?_
    refine inb_hit ?_
    refine then_n ?_
    refine wp_seq ?_
    refine wp_region_lit ?_
    refine lv (d := 41) rfl rfl (by kernel_rfl) (e_move (v := .int .i64 x10) (by exact e14)) ?_
    refine lv (d := 6) rfl rfl (by kernel_rfl) (e_assign (v := .int .i64 x10) (by kernel_rfl)) ?_
    refine wpList_nil ?_
    refine then_n ?_
    refine wp_ret ?_
    obtain rfl := Option.some.inj M
    exact ret1 rfl rfl  (show _ = .int .i64 x10 from (by kernel_rfl)) ⟨rfl, S15.chg⟩
  replace M := ifn q21 M
  refine lskip (t := 14) (c := false) rfl (by kernel_rfl) rfl (bf q21 (by kernel_rfl)) rfl rfl ?_
  refine lskip (t := 14) (c := false) rfl (by kernel_rfl) rfl (bf q21 (by kernel_rfl)) rfl rfl ?_
  refine lskipu (t := 16) rfl (by kernel_rfl) rfl (by kernel_rfl) rfl ?_
  refine lskipu (t := 16) rfl (by kernel_rfl) rfl (by kernel_rfl) rfl ?_
  refine lskipu (t := 16) rfl (by kernel_rfl) rfl (by kernel_rfl) rfl ?_
  refine lskipu (t := 16) rfl (by kernel_rfl) rfl (by kernel_rfl) rfl ?_
  refine lskipu (t := 16) rfl (by kernel_rfl) rfl (by kernel_rfl) rfl ?_
  refine lskipu (t := 16) rfl (by kernel_rfl) rfl (by kernel_rfl) rfl ?_
  refine lskipu (t := 16) rfl (by kernel_rfl) rfl (by kernel_rfl) rfl ?_
  refine lskip (t := 14) (c := false) rfl (by kernel_rfl) rfl (bf q21 (by kernel_rfl)) rfl rfl ?_
  refine lskip (t := 14) (c := false) rfl (by kernel_rfl) rfl (bf q21 (by kernel_rfl)) rfl rfl ?_
  refine lskipu (t := 25) rfl (by kernel_rfl) rfl (by kernel_rfl) rfl ?_
  refine lskipu (t := 25) rfl (by kernel_rfl) rfl (by kernel_rfl) rfl ?_
  refine lskipu (t := 25) rfl (by kernel_rfl) rfl (by kernel_rfl) rfl ?_
  refine lskipu (t := 28) rfl (by kernel_rfl) rfl (by kernel_rfl) rfl ?_
  refine lskipu (t := 28) rfl (by kernel_rfl) rfl (by kernel_rfl) rfl ?_
  refine lskipu (t := 28) rfl (by kernel_rfl) rfl (by kernel_rfl) rfl ?_
  refine lskipu (t := 28) rfl (by kernel_rfl) rfl (by kernel_rfl) rfl ?_
  refine lskipu (t := 28) rfl (by kernel_rfl) rfl (by kernel_rfl) rfl ?_
  refine lskipu (t := 28) rfl (by kernel_rfl) rfl (by kernel_rfl) rfl ?_
  refine lskipu (t := 28) rfl (by kernel_rfl) rfl (by kernel_rfl) rfl ?_
  refine lskipu (t := 25) rfl (by kernel_rfl) rfl (by kernel_rfl) rfl ?_
  refine lskip (t := 14) (c := false) rfl (by kernel_rfl) rfl (bf q21 (by kernel_rfl)) rfl rfl ?_
  refine lv (d := 38) rfl rfl (by kernel_rfl) (e_pick_f (v := .bool false) (bf q21 (by kernel_rfl)) rfl) ?_
  refine wpList_nil ?_
  refine then_n ?_
  refine cond_f rfl (by kernel_rfl) ?_
  refine wp_exit ?_
  refine then_e ?_
  refine then_e ?_
  refine inb_hit ?_
  refine then_n ?_
  refine wp_seq ?_
  refine wp_region_lit ?_
  refine lv (d := 41) rfl rfl (by kernel_rfl) (e_move (v := .int .i64 x10) (by exact e14)) ?_
  refine lv (d := 6) rfl rfl (by kernel_rfl) (e_assign (v := .int .i64 x10) (by kernel_rfl)) ?_
  refine wpList_nil ?_
  refine then_n ?_
  refine wp_ret ?_
  obtain rfl := Option.some.inj M
  exact ret1 rfl rfl  (show _ = .int .i64 x10 from (by kernel_rfl)) ⟨rfl, S15.chg⟩

/-! spec_IsPlain -/
def spec_IsPlain.f (k : Nat) (x1 : List UInt8) : Option Bool := (if (x1.length : Int) = 0 then some false else (if (x1.length : Int) > 100 then some false else (if x1 = ([33] : List UInt8) then some true else (if x1 = ([59] : List UInt8) then some true else (if x1 = ([91, 93] : List UInt8) then some true else (if x1 = ([123, 125] : List UInt8) then some true else (if 0 < (x1.length : Int) then ((spec_l1small.f (x1.getD 0 (0 : UInt8))).bind fun t19 => (if t19 = true then ((spec_l1run.f k x1 0 false).bind fun t26 => some (decide (t26 = (x1.length : Int)))) else (if x1 = ([46] : List UInt8) then some false else (if (x1.length : Int) > 1 then (if 2 ≤ (x1.length : Int) then (if (x1.take (2 : Int).toNat) = ([47, 42] : List UInt8) then some false else ((spec_l1run.f k x1 0 true).bind fun t36 => some (decide (t36 = (x1.length : Int))))) else none) else ((spec_l1run.f k x1 0 true).bind fun t42 => some (decide (t42 = (x1.length : Int)))))))) else none)))))))
theorem spec_IsPlain.calls (k : Nat) (w : World) (H : Hp) (x1 : List UInt8) (A2 : Option Addr) (c3 : Nat) (h4 : Rd tByte H A2 x1) (l5 : x1.length ≤ c3) (S : Own [] H w) (r : Bool) (M : spec_IsPlain.f k x1 = some r) :
    Calls Tryd.prog 10 #[.slice A2 x1.length c3] w (fun e e_w => e = .returned (.bool r) ∧ Chg no w e_w) := by
  rw [spec_IsPlain.f] at M
  refine enter (l := [.slice A2 x1.length c3]) 52 Tryd.func10 rfl rfl rfl ?_
  have S0_ := S.st
  refine wp_seq ?_
  refine wp_region_lit ?_
  refine lv (d := 2) rfl rfl (by kernel_rfl) (e_assign (v := .bool false) rfl) ?_
  refine wpList_nil ?_
  refine then_n ?_
  refine wp_seq ?_
  refine wp_region_lit ?_
  refine lv (d := 5) rfl rfl (by kernel_rfl) (e_move (v := .slice A2 x1.length c3) (by kernel_rfl)) ?_
  refine lv (d := 6) rfl rfl (by kernel_rfl) (e_len (A := A2) (n := x1.length) (c := c3) Tryd.underlying22 (by kernel_rfl)) ?_
  refine lv (d := 3) rfl rfl (by kernel_rfl) (e_assign (v := .int .i64 (x1.length : Int)) (by kernel_rfl)) ?_
  refine wpList_nil ?_
  refine then_n ?_
  refine wp_seq ?_
  refine wp_region_lit ?_
  refine lv (d := 7) rfl rfl (by kernel_rfl) (e_move (v := .slice A2 x1.length c3) (by kernel_rfl)) ?_
  refine lv (d := 8) rfl rfl (by kernel_rfl) (e_conv_bs (A := A2) (n := x1.length) (c := c3) (xs := x1) Tryd.underlying22 Tryd.underlying5 Tryd.underlying9 (by kernel_rfl) rfl (Rd.bytesE S0_.inv h4)) ?_
  refine lv (d := 4) rfl rfl (by kernel_rfl) (e_assign (v := str x1) (by kernel_rfl)) ?_
  refine wpList_nil ?_
  refine then_n ?_
  refine wp_seq ?_
  refine wp_seq ?_
  refine wp_region_lit ?_
  refine lv (d := 9) rfl rfl (by kernel_rfl) (e_move (v := .int .i64 (x1.length : Int)) (by kernel_rfl)) ?_
  refine lv (d := 10) rfl rfl (by kernel_rfl) (e_eql (k := .i64) (a := (x1.length : Int)) (b := 0) (by kernel_rfl) rfl) ?_
  refine lv (d := 11) rfl rfl (by kernel_rfl) (e_move (v := .bool (decide ((x1.length : Int) = 0))) (by kernel_rfl)) ?_
  by_cases q6 : (x1.length : Int) = 0
  · replace M := ifp q6 M
    refine lskip (t := 11) (c := true) rfl (by kernel_rfl) rfl (bt q6 (by kernel_rfl)) rfl rfl ?_
    refine lskip (t := 11) (c := true) rfl (by kernel_rfl) rfl (bt q6 (by kernel_rfl)) rfl rfl ?_
    refine lv (d := 14) rfl rfl (by kernel_rfl) (e_pick_t (v := .bool true) (bt q6 (by kernel_rfl)) rfl) ?_
    refine wpList_nil ?_
    refine then_n ?_
    refine cond_t rfl (by kernel_rfl) ?_
    refine wp_seq ?_
    refine wp_region_lit ?_
    refine lv (d := 2) rfl rfl (by kernel_rfl) (e_assign (v := .bool false) rfl) ?_
    refine wpList_nil ?_
    refine then_n ?_
    refine wp_ret ?_
    refine then_r ?_
    obtain rfl := Option.some.inj M
    exact ret1 rfl rfl  (show _ = .bool false from (by kernel_rfl)) ⟨rfl, S0_.chg⟩
  replace M := ifn q6 M
  refine lvg (d := 12) (t := 11) rfl (by kernel_rfl) rfl (bf q6 (by kernel_rfl)) rfl (by kernel_rfl) (e_move (v := .int .i64 (x1.length : Int)) (by kernel_rfl)) ?_
  refine lvg (d := 13) (t := 11) rfl (by kernel_rfl) rfl (bf q6 (by kernel_rfl)) rfl (by kernel_rfl) (e_gtr (k := .i64) (a := (x1.length : Int)) (b := 100) (by kernel_rfl) rfl) ?_
  refine lv (d := 14) rfl rfl (by kernel_rfl) (e_pick_f (v := .bool (decide ((x1.length : Int) > 100))) (bf q6 (by kernel_rfl)) (by kernel_rfl)) ?_
  refine wpList_nil ?_
  refine then_n ?_
  by_cases q7 : (x1.length : Int) > 100
  · replace M := ifp q7 M
    refine cond_t rfl (bt q7 (by kernel_rfl)) ?_
    refine wp_seq ?_
    refine wp_region_lit ?_
    refine lv (d := 2) rfl rfl (by kernel_rfl) (e_assign (v := .bool false) rfl) ?_
    refine wpList_nil ?_
    refine then_n ?_
    refine wp_ret ?_
    refine then_r ?_
    obtain rfl := Option.some.inj M
    exact ret1 rfl rfl  (show _ = .bool false from (by kernel_rfl)) ⟨rfl, S0_.chg⟩
  replace M := ifn q7 M
  refine cond_f rfl (bf q7 (by kernel_rfl)) ?_
  refine wp_skip ?_
  refine then_n ?_
  refine wp_seq ?_
  refine wp_seq ?_
  refine wp_region_lit ?_
  refine lv (d := 15) rfl rfl (by kernel_rfl) (e_move (v := str x1) (by kernel_rfl)) ?_
  refine lv (d := 16) rfl rfl (by kernel_rfl) (e_seql (p := x1) (q := ([33] : List UInt8)) (by kernel_rfl) rfl) ?_
  refine lv (d := 17) rfl rfl (by kernel_rfl) (e_move (v := .bool (decide (x1 = ([33] : List UInt8)))) (by kernel_rfl)) ?_
  by_cases q8 : x1 = ([33] : List UInt8)
  · replace M := ifp q8 M
    refine lskip (t := 17) (c := true) rfl (by kernel_rfl) rfl (bt q8 (by kernel_rfl)) rfl rfl ?_
    refine lskip (t := 17) (c := true) rfl (by kernel_rfl) rfl (bt q8 (by kernel_rfl)) rfl rfl ?_
    refine lv (d := 20) rfl rfl (by kernel_rfl) (e_pick_t (v := .bool true) (bt q8 (by kernel_rfl)) rfl) ?_
    refine lv (d := 21) rfl rfl (by kernel_rfl) (e_move (v := .bool true) (by kernel_rfl)) ?_
    refine lskip (t := 21) (c := true) rfl (by kernel_rfl) rfl (by kernel_rfl) rfl rfl ?_
    refine lskip (t := 21) (c := true) rfl (by kernel_rfl) rfl (by kernel_rfl) rfl rfl ?_
    refine lv (d := 24) rfl rfl (by kernel_rfl) (e_pick_t (v := .bool true) (by kernel_rfl) rfl) ?_
    refine lv (d := 25) rfl rfl (by kernel_rfl) (e_move (v := .bool true) (by kernel_rfl)) ?_
    refine lskip (t := 25) (c := true) rfl (by kernel_rfl) rfl (by kernel_rfl) rfl rfl ?_
    refine lskip (t := 25) (c := true) rfl (by kernel_rfl) rfl (by kernel_rfl) rfl rfl ?_
    refine lv (d := 28) rfl rfl (by kernel_rfl) (e_pick_t (v := .bool true) (by kernel_rfl) rfl) ?_
    refine wpList_nil ?_
    refine then_n ?_
    refine cond_t rfl (by kernel_rfl) ?_
    refine wp_seq ?_
    refine wp_region_lit ?_
    refine lv (d := 2) rfl rfl (by kernel_rfl) (e_assign (v := .bool true) rfl) ?_
    refine wpList_nil ?_
    refine then_n ?_
    refine wp_ret ?_
    refine then_r ?_
    obtain rfl := Option.some.inj M
    exact ret1 rfl rfl  (show _ = .bool true from (by kernel_rfl)) ⟨rfl, S0_.chg⟩
  replace M := ifn q8 M
  refine lvg (d := 18) (t := 17) rfl (by kernel_rfl) rfl (bf q8 (by kernel_rfl)) rfl (by kernel_rfl) (e_move (v := str x1) (by kernel_rfl)) ?_
  refine lvg (d := 19) (t := 17) rfl (by kernel_rfl) rfl (bf q8 (by kernel_rfl)) rfl (by kernel_rfl) (e_seql (p := x1) (q := ([59] : List UInt8)) (by kernel_rfl) rfl) ?_
  refine lv (d := 20) rfl rfl (by kernel_rfl) (e_pick_f (v := .bool (decide (x1 = ([59] : List UInt8)))) (bf q8 (by kernel_rfl)) (by kernel_rfl)) ?_
  refine lv (d := 21) rfl rfl (by kernel_rfl) (e_move (v := .bool (decide (x1 = ([59] : List UInt8)))) (by kernel_rfl)) ?_
  by_cases q9 : x1 = ([59] : List UInt8)
  · replace M := ifp q9 M
    refine lskip (t := 21) (c := true) rfl (by kernel_rfl) rfl (bt q9 (by kernel_rfl)) rfl rfl ?_
    refine lskip (t := 21) (c := true) rfl (by kernel_rfl) rfl (bt q9 (by kernel_rfl)) rfl rfl ?_
    refine lv (d := 24) rfl rfl (by kernel_rfl) (e_pick_t (v := .bool true) (bt q9 (by kernel_rfl)) rfl) ?_
    refine lv (d := 25) rfl rfl (by kernel_rfl) (e_move (v := .bool true) (by kernel_rfl)) ?_
    refine lskip (t := 25) (c := true) rfl (by kernel_rfl) rfl (by kernel_rfl) rfl rfl ?_
    refine lskip (t := 25) (c := true) rfl (by kernel_rfl) rfl (by kernel_rfl) rfl rfl ?_
    refine lv (d := 28) rfl rfl (by kernel_rfl) (e_pick_t (v := .bool true) (by kernel_rfl) rfl) ?_
    refine wpList_nil ?_
    refine then_n ?_
    refine cond_t rfl (by kernel_rfl) ?_
    refine wp_seq ?_
    refine wp_region_lit ?_
    refine lv (d := 2) rfl rfl (by kernel_rfl) (e_assign (v := .bool true) rfl) ?_
    refine wpList_nil ?_
    refine then_n ?_
    refine wp_ret ?_
    refine then_r ?_
    obtain rfl := Option.some.inj M
    exact ret1 rfl rfl  (show _ = .bool true from (by kernel_rfl)) ⟨rfl, S0_.chg⟩
  replace M := ifn q9 M
  refine lvg (d := 22) (t := 21) rfl (by kernel_rfl) rfl (bf q9 (by kernel_rfl)) rfl (by kernel_rfl) (e_move (v := str x1) (by kernel_rfl)) ?_
  refine lvg (d := 23) (t := 21) rfl (by kernel_rfl) rfl (bf q9 (by kernel_rfl)) rfl (by kernel_rfl) (e_seql (p := x1) (q := ([91, 93] : List UInt8)) (by kernel_rfl) rfl) ?_
  refine lv (d := 24) rfl rfl (by kernel_rfl) (e_pick_f (v := .bool (decide (x1 = ([91, 93] : List UInt8)))) (bf q9 (by kernel_rfl)) (by kernel_rfl)) ?_
  refine lv (d := 25) rfl rfl (by kernel_rfl) (e_move (v := .bool (decide (x1 = ([91, 93] : List UInt8)))) (by kernel_rfl)) ?_
  by_cases q10 : x1 = ([91, 93] : List UInt8)
  · replace M := ifp q10 M
    refine lskip (t := 25) (c := true) rfl (by kernel_rfl) rfl (bt q10 (by kernel_rfl)) rfl rfl ?_
    refine lskip (t := 25) (c := true) rfl (by kernel_rfl) rfl (bt q10 (by kernel_rfl)) rfl rfl ?_
    refine lv (d := 28) rfl rfl (by kernel_rfl) (e_pick_t (v := .bool true) (bt q10 (by kernel_rfl)) rfl) ?_
    refine wpList_nil ?_
    refine then_n ?_
    refine cond_t rfl (by kernel_rfl) ?_
    refine wp_seq ?_
    refine wp_region_lit ?_
    refine lv (d := 2) rfl rfl (by kernel_rfl) (e_assign (v := .bool true) rfl) ?_
    refine wpList_nil ?_
    refine then_n ?_
    refine wp_ret ?_
    refine then_r ?_
    obtain rfl := Option.some.inj M
    exact ret1 rfl rfl  (show _ = .bool true from (by kernel_rfl)) ⟨rfl, S0_.chg⟩
  replace M := ifn q10 M
  refine lvg (d := 26) (t := 25) rfl (by kernel_rfl) rfl (bf q10 (by kernel_rfl)) rfl (by kernel_rfl) (e_move (v := str x1) (by kernel_rfl)) ?_
  refine lvg (d := 27) (t := 25) rfl (by kernel_rfl) rfl (bf q10 (by kernel_rfl)) rfl (by kernel_rfl) (e_seql (p := x1) (q := ([123, 125] : List UInt8)) (by kernel_rfl) rfl) ?_
  refine lv (d := 28) rfl rfl (by kernel_rfl) (e_pick_f (v := .bool (decide (x1 = ([123, 125] : List UInt8)))) (bf q10 (by kernel_rfl)) (by kernel_rfl)) ?_
  refine wpList_nil ?_
  refine then_n ?_
  by_cases q11 : x1 = ([123, 125] : List UInt8)
  · replace M := ifp q11 M
    refine cond_t rfl (bt q11 (by kernel_rfl)) ?_
    refine wp_seq ?_
    refine wp_region_lit ?_
    refine lv (d := 2) rfl rfl (by kernel_rfl) (e_assign (v := .bool true) rfl) ?_
    refine wpList_nil ?_
    refine then_n ?_
    refine wp_ret ?_
    refine then_r ?_
    obtain rfl := Option.some.inj M
    exact ret1 rfl rfl  (show _ = .bool true from (by kernel_rfl)) ⟨rfl, S0_.chg⟩
  replace M := ifn q11 M
  refine cond_f rfl (bf q11 (by kernel_rfl)) ?_
  refine wp_skip ?_
  refine then_n ?_
  refine wp_seq ?_
  refine wp_seq ?_
  refine wp_region_lit ?_
  refine lv (d := 29) rfl rfl (by kernel_rfl) (e_move (v := .slice A2 x1.length c3) (by kernel_rfl)) ?_
  obtain ⟨q12, M⟩ := chk M
  obtain ⟨b13, o14, e15⟩ := Rd.addr h4 (show 0 < x1.length by omega)
  obtain ⟨y16, r17, k18⟩ := Rd.at h4 e15 (getD_some (0 : UInt8) (show 0 < x1.length by omega))
  obtain rfl := r17
  refine lv (d := 30) rfl rfl (by kernel_rfl) (e_indexAddr (b := b13) (off := o14) (n := x1.length) (c := c3) (sz := 1) (i := 0) (k := .i64) Tryd.underlying22 e15 (by kernel_rfl) (by kernel_rfl) rfl (by omega) q12) ?_
  refine lv (d := 31) rfl rfl (by kernel_rfl) (e_load1 (ad := ⟨b13, o14 + (0 : Int).toNat * 1, none⟩) (v := .int .u8 ((x1.getD 0 (0 : UInt8)).toNat : Int)) Tryd.underlying5 rfl (by kernel_rfl) (hpx (S0_.inv.cell (k18 0 _ rfl)))) ?_
  obtain ⟨t19, u20, M⟩ := bnd M
  refine lcall (d := 32) rfl rfl (by kernel_rfl) (e_call (l := [.tmp 31]) (vs := [.int .u8 ((x1.getD 0 (0 : UInt8)).toNat : Int)]) Tryd.func14 (by kernel_rfl) rfl (by kernel_rfl) rfl) (spec_l1small.calls w H (x1.getD 0 (0 : UInt8))  S0_.own0 t19 u20) ?_
  rintro _ w21 ⟨rfl, C22⟩
  refine ⟨_, rfl, ?_⟩
  obtain ⟨S23, K24⟩ := S0_.still C22
  refine wpList_nil ?_
  refine then_n ?_
  by_cases q25 : t19 = true
  · replace M := ifp q25 M
    refine cond_t rfl (bvt q25 (by kernel_rfl)) ?_
    refine wp_seq ?_
    refine wp_region_lit ?_
    refine lv (d := 33) rfl rfl (by kernel_rfl) (e_move (v := .slice A2 x1.length c3) (by kernel_rfl)) ?_
    obtain ⟨t26, u27, M⟩ := bnd M
    refine lcall (d := 34) rfl rfl (by kernel_rfl) (e_call (l := [.tmp 33, .const (.int .i64 0), .const (.bool false)]) (vs := [.slice A2 x1.length c3, .int .i64 0, .bool false]) Tryd.func15 (by kernel_rfl) rfl (by kernel_rfl) rfl) (spec_l1run.calls k w21 H x1 A2 c3 0 false h4 l5 S23.own0 t26 u27) ?_
    rintro _ w28 ⟨rfl, C29⟩
    refine ⟨_, rfl, ?_⟩
    obtain ⟨S30, K31⟩ := S23.still C29
    refine lv (d := 35) rfl rfl (by kernel_rfl) (e_move (v := .int .i64 (x1.length : Int)) (by kernel_rfl)) ?_
    refine lv (d := 36) rfl rfl (by kernel_rfl) (e_eql (k := .i64) (a := t26) (b := (x1.length : Int)) (by kernel_rfl) (by kernel_rfl)) ?_
    refine lv (d := 2) rfl rfl (by kernel_rfl) (e_assign (v := .bool (decide (t26 = (x1.length : Int)))) (by kernel_rfl)) ?_
    refine wpList_nil ?_
    refine then_n ?_
    refine wp_ret ?_
    refine then_r ?_
    obtain rfl := Option.some.inj M
    exact ret1 rfl rfl  (show _ = .bool (decide (t26 = (x1.length : Int))) from (by kernel_rfl)) ⟨rfl, S30.chg⟩
  replace M := ifn q25 M
  refine cond_f rfl (bvf q25 (by kernel_rfl)) ?_
  refine wp_skip ?_
  refine then_n ?_
  refine wp_seq ?_
  refine wp_seq ?_
  refine wp_region_lit ?_
  refine lv (d := 37) rfl rfl (by kernel_rfl) (e_move (v := str x1) (by kernel_rfl)) ?_
  refine lv (d := 38) rfl rfl (by kernel_rfl) (e_seql (p := x1) (q := ([46] : List UInt8)) (by kernel_rfl) rfl) ?_
  refine lv (d := 39) rfl rfl (by kernel_rfl) (e_move (v := .bool (decide (x1 = ([46] : List UInt8)))) (by kernel_rfl)) ?_
  by_cases q32 : x1 = ([46] : List UInt8)
  · replace M := ifp q32 M
    refine lskip (t := 39) (c := true) rfl (by kernel_rfl) rfl (bt q32 (by kernel_rfl)) rfl rfl ?_
    refine lskip (t := 39) (c := true) rfl (by kernel_rfl) rfl (bt q32 (by kernel_rfl)) rfl rfl ?_
    refine lskip (t := 39) (c := true) rfl (by kernel_rfl) rfl (bt q32 (by kernel_rfl)) rfl rfl ?_
    refine lskipu (t := 42) rfl (by kernel_rfl) rfl (by kernel_rfl) rfl ?_
    refine lskipu (t := 42) rfl (by kernel_rfl) rfl (by kernel_rfl) rfl ?_
    refine lskipu (t := 42) rfl (by kernel_rfl) rfl (by kernel_rfl) rfl ?_
    refine lskip (t := 39) (c := true) rfl (by kernel_rfl) rfl (bt q32 (by kernel_rfl)) rfl rfl ?_
    refine lv (d := 47) rfl rfl (by kernel_rfl) (e_pick_t (v := .bool true) (bt q32 (by kernel_rfl)) rfl) ?_
    refine wpList_nil ?_
    refine then_n ?_
    refine cond_t rfl (by kernel_rfl) ?_
    refine wp_seq ?_
    refine wp_region_lit ?_
    refine lv (d := 2) rfl rfl (by kernel_rfl) (e_assign (v := .bool false) rfl) ?_
    refine wpList_nil ?_
    refine then_n ?_
    refine wp_ret ?_
    refine then_r ?_
    obtain rfl := Option.some.inj M
    exact ret1 rfl rfl  (show _ = .bool false from (by kernel_rfl)) ⟨rfl, S23.chg⟩
  replace M := ifn q32 M
  refine lvg (d := 40) (t := 39) rfl (by kernel_rfl) rfl (bf q32 (by kernel_rfl)) rfl (by kernel_rfl) (e_move (v := .int .i64 (x1.length : Int)) (by kernel_rfl)) ?_
  refine lvg (d := 41) (t := 39) rfl (by kernel_rfl) rfl (bf q32 (by kernel_rfl)) rfl (by kernel_rfl) (e_gtr (k := .i64) (a := (x1.length : Int)) (b := 1) (by kernel_rfl) rfl) ?_
  refine lvg (d := 42) (t := 39) rfl (by kernel_rfl) rfl (bf q32 (by kernel_rfl)) rfl (by kernel_rfl) (e_move (v := .bool (decide ((x1.length : Int) > 1))) (by kernel_rfl)) ?_
  by_cases q33 : (x1.length : Int) > 1
  · replace M := ifp q33 M
    refine lvg (d := 43) (t := 42) rfl (by kernel_rfl) rfl (bt q33 (by kernel_rfl)) rfl (by kernel_rfl) (e_move (v := str x1) (by kernel_rfl)) ?_
    obtain ⟨q34, M⟩ := chk M
    refine lvg (d := 44) (t := 42) rfl (by kernel_rfl) rfl (bt q33 (by kernel_rfl)) rfl (by kernel_rfl) (e_sslice_h (p := x1) (b := 2) (k2 := .i64) Tryd.underlying9 (by kernel_rfl) rfl (by decide) q34) ?_
    refine lvg (d := 45) (t := 42) rfl (by kernel_rfl) rfl (bt q33 (by kernel_rfl)) rfl (by kernel_rfl) (e_seql (p := (x1.take (2 : Int).toNat)) (q := ([47, 42] : List UInt8)) (by kernel_rfl) rfl) ?_
    refine lvg (d := 46) (t := 39) rfl (by kernel_rfl) rfl (bf q32 (by kernel_rfl)) rfl (by kernel_rfl) (e_pick_t (v := .bool (decide ((x1.take (2 : Int).toNat) = ([47, 42] : List UInt8)))) (bt q33 (by kernel_rfl)) (by kernel_rfl)) ?_
    refine lv (d := 47) rfl rfl (by kernel_rfl) (e_pick_f (v := .bool (decide ((x1.take (2 : Int).toNat) = ([47, 42] : List UInt8)))) (bf q32 (by kernel_rfl)) (by kernel_rfl)) ?_
    refine wpList_nil ?_
    refine then_n ?_
    by_cases q35 : (x1.take (2 : Int).toNat) = ([47, 42] : List UInt8)
    · replace M := ifp q35 M
      refine cond_t rfl (bt q35 (by kernel_rfl)) ?_
      refine wp_seq ?_
      refine wp_region_lit ?_
      refine lv (d := 2) rfl rfl (by kernel_rfl) (e_assign (v := .bool false) rfl) ?_
      refine wpList_nil ?_
      refine then_n ?_
      refine wp_ret ?_
      refine then_r ?_
      obtain rfl := Option.some.inj M
      exact ret1 rfl rfl  (show _ = .bool false from (by kernel_rfl)) ⟨rfl, S23.chg⟩
    replace M := ifn q35 M
    refine cond_f rfl (bf q35 (by kernel_rfl)) ?_
    refine wp_skip ?_
    refine then_n ?_
    refine wp_seq ?_
    refine wp_region_lit ?_
    refine lv (d := 48) rfl rfl (by kernel_rfl) (e_move (v := .slice A2 x1.length c3) (by kernel_rfl)) ?_
    obtain ⟨t36, u37, M⟩ := bnd M
    refine lcall (d := 49) rfl rfl (by kernel_rfl) (e_call (l := [.tmp 48, .const (.int .i64 0), .const (.bool true)]) (vs := [.slice A2 x1.length c3, .int .i64 0, .bool true]) Tryd.func15 (by kernel_rfl) rfl (by kernel_rfl) rfl) (spec_l1run.calls k w21 H x1 A2 c3 0 true h4 l5 S23.own0 t36 u37) ?_
    rintro _ w38 ⟨rfl, C39⟩
    refine ⟨_, rfl, ?_⟩
    obtain ⟨S40, K41⟩ := S23.still C39
    refine lv (d := 50) rfl rfl (by kernel_rfl) (e_move (v := .int .i64 (x1.length : Int)) (by kernel_rfl)) ?_
    refine lv (d := 51) rfl rfl (by kernel_rfl) (e_eql (k := .i64) (a := t36) (b := (x1.length : Int)) (by kernel_rfl) (by kernel_rfl)) ?_
    refine lv (d := 2) rfl rfl (by kernel_rfl) (e_assign (v := .bool (decide (t36 = (x1.length : Int)))) (by kernel_rfl)) ?_
    refine wpList_nil ?_
    refine then_n ?_
    refine wp_ret ?_
    obtain rfl := Option.some.inj M
    exact ret1 rfl rfl  (show _ = .bool (decide (t36 = (x1.length : Int))) from (by kernel_rfl)) ⟨rfl, S40.chg⟩
  replace M := ifn q33 M
  refine lskip (t := 42) (c := false) rfl (by kernel_rfl) rfl (bf q33 (by kernel_rfl)) rfl rfl ?_
  refine lskip (t := 42) (c := false) rfl (by kernel_rfl) rfl (bf q33 (by kernel_rfl)) rfl rfl ?_
  refine lskip (t := 42) (c := false) rfl (by kernel_rfl) rfl (bf q33 (by kernel_rfl)) rfl rfl ?_
  refine lvg (d := 46) (t := 39) rfl (by kernel_rfl) rfl (bf q32 (by kernel_rfl)) rfl (by kernel_rfl) (e_pick_f (v := .bool false) (bf q33 (by kernel_rfl)) rfl) ?_
  refine lv (d := 47) rfl rfl (by kernel_rfl) (e_pick_f (v := .bool false) (bf q32 (by kernel_rfl)) (by kernel_rfl)) ?_
  refine wpList_nil ?_
  refine then_n ?_
  refine cond_f rfl (by kernel_rfl) ?_
  refine wp_skip ?_
  refine then_n ?_
  refine wp_seq ?_
  refine wp_region_lit ?_
  refine lv (d := 48) rfl rfl (by kernel_rfl) (e_move (v := .slice A2 x1.length c3) (by kernel_rfl)) ?_
  obtain ⟨t42, u43, M⟩ := bnd M
  refine lcall (d := 49) rfl rfl (by kernel_rfl) (e_call (l := [.tmp 48, .const (.int .i64 0), .const (.bool true)]) (vs := [.slice A2 x1.length c3, .int .i64 0, .bool true]) Tryd.func15 (by kernel_rfl) rfl (by kernel_rfl) rfl) (spec_l1run.calls k w21 H x1 A2 c3 0 true h4 l5 S23.own0 t42 u43) ?_
  rintro _ w44 ⟨rfl, C45⟩
  refine ⟨_, rfl, ?_⟩
  obtain ⟨S46, K47⟩ := S23.still C45
  refine lv (d := 50) rfl rfl (by kernel_rfl) (e_move (v := .int .i64 (x1.length : Int)) (by kernel_rfl)) ?_
  refine lv (d := 51) rfl rfl (by kernel_rfl) (e_eql (k := .i64) (a := t42) (b := (x1.length : Int)) (by kernel_rfl) (by kernel_rfl)) ?_
  refine lv (d := 2) rfl rfl (by kernel_rfl) (e_assign (v := .bool (decide (t42 = (x1.length : Int)))) (by kernel_rfl)) ?_
  refine wpList_nil ?_
  refine then_n ?_
  refine wp_ret ?_
  obtain rfl := Option.some.inj M
  exact ret1 rfl rfl  (show _ = .bool (decide (t42 = (x1.length : Int))) from (by kernel_rfl)) ⟨rfl, S46.chg⟩

/-! spec_l1copy -/
def spec_l1copy.f (x1 : List UInt8) : Option (List UInt8) := (if 0 + x1.length ≤ 140737488355328 then some x1 else none)
theorem spec_l1copy.calls (w : World) (H : Hp) (x1 : List UInt8) (A2 : Option Addr) (c3 : Nat) (h4 : Rd tByte H A2 x1) (l5 : x1.length ≤ c3) (S : Own [] H w) (r : List UInt8) (M : spec_l1copy.f x1 = some r) :
    Calls Tryd.prog 11 #[.slice A2 x1.length c3] w (fun e e_w => ∃ (A_1 : Option Addr) (c_1 : Nat) (F_1 : Foot) (H_ : Hp), e = .returned (.slice A_1 r.length c_1) ∧ Row tByte 5 H_ (hp e_w) F_1 A_1 c_1 r ∧ St (anyOf []) H w [F_1] H_ e_w) := by
  rw [spec_l1copy.f] at M
  refine enter (l := [.slice A2 x1.length c3]) 7 Tryd.func11 rfl rfl rfl ?_
  have S0_ := S.st
  refine wp_seq ?_
  refine wp_region_lit ?_
  refine lv (d := 2) rfl rfl (by kernel_rfl) (e_assign (v := .slice none 0 0) rfl) ?_
  refine wpList_nil ?_
  refine then_n ?_
  refine wp_seq ?_
  refine wp_region_lit ?_
  refine lv (d := 3) rfl rfl (by kernel_rfl) (e_assign (v := .slice none 0 0) rfl) ?_
  refine wpList_nil ?_
  refine then_n ?_
  refine wp_seq ?_
  refine wp_region_lit ?_
  refine lv (d := 4) rfl rfl (by kernel_rfl) (e_move (v := .slice none 0 0) (by kernel_rfl)) ?_
  refine lv (d := 5) rfl rfl (by kernel_rfl) (e_move (v := .slice A2 x1.length c3) (by kernel_rfl)) ?_
  obtain ⟨y6, h7, h8⟩ := Rd.news (d := tByte) (ro_scal _ _) S0_ h4
  obtain ⟨q9, M⟩ := chk M
  have S10 := S0_.unit
  have S11 := S10.unit
  have S12 := S11.pull (F := no) (Fr := [no]) 1 rfl rfl
  refine lve (d := 6) rfl rfl (by kernel_rfl) (e_append (d := tByte) (n := 0) (xs := []) (cap := 0) (A := none) (ys := x1) (A2 := A2) (c2 := c3) (z := .int .u8 0) (bytes := 1) S12 Tryd.underlying22 (by kernel_rfl) rfl (by decide) (by kernel_rfl) rfl (by kernel_rfl) (Row.nil _ _ _ _ no) h7 h8 (show (0 + x1.length) * 1 ≤ _ by first | omega | (simp only [List.length_cons, List.length_nil]; omega)) (by decide)) ?_
  rintro _ w13 ⟨A14, c15, F16, rfl, h17, S18, K19⟩
  replace h17 : Row tByte 5 H (hp w13) F16 A14 c15 x1 := h17
  refine lv (d := 2) rfl rfl (by kernel_rfl) (e_assign (v := .slice A14 x1.length c15) (by kernel_rfl)) ?_
  refine wpList_nil ?_
  refine then_n ?_
  refine wp_ret ?_
  obtain rfl := Option.some.inj M
  exact ret1 rfl rfl  (show _ = .slice A14 x1.length c15 from (by kernel_rfl)) ⟨A14, c15, F16, H, rfl, h17, S18⟩

/-! spec_l1quoted -/
def spec_l1quoted.l0 : Nat → (List UInt8) → (List UInt8) → Int → Option (List UInt8)
  | 0, _, _, _ => none
  | k33 + 1, x1, x18, x23 => (if x23 < (x1.length : Int) then (if 0 ≤ x23 then (if ((x1.getD ((x23).toNat) (0 : UInt8)).toNat : Int) = 39 then (if x18.length + 2 ≤ 140737488355328 then (spec_l1quoted.l0 k33 x1 (x18 ++ [(92 : UInt8), (x1.getD ((x23).toNat) (0 : UInt8))]) (IntKind.i64.wrap (x23 + 1))) else none) else (if ((x1.getD ((x23).toNat) (0 : UInt8)).toNat : Int) = 92 then (if x18.length + 2 ≤ 140737488355328 then (spec_l1quoted.l0 k33 x1 (x18 ++ [(92 : UInt8), (x1.getD ((x23).toNat) (0 : UInt8))]) (IntKind.i64.wrap (x23 + 1))) else none) else (if ((x1.getD ((x23).toNat) (0 : UInt8)).toNat : Int) = 10 then (if x18.length + 2 ≤ 140737488355328 then (spec_l1quoted.l0 k33 x1 (x18 ++ [(92 : UInt8), (110 : UInt8)]) (IntKind.i64.wrap (x23 + 1))) else none) else (if ((x1.getD ((x23).toNat) (0 : UInt8)).toNat : Int) = 9 then (if x18.length + 2 ≤ 140737488355328 then (spec_l1quoted.l0 k33 x1 (x18 ++ [(92 : UInt8), (116 : UInt8)]) (IntKind.i64.wrap (x23 + 1))) else none) else (if ((x1.getD ((x23).toNat) (0 : UInt8)).toNat : Int) < 32 then (if 0 ≤ ((b8 (Int.tdiv ((x1.getD ((x23).toNat) (0 : UInt8)).toNat : Int) 16)).toNat : Int) then (if ((b8 (Int.tdiv ((x1.getD ((x23).toNat) (0 : UInt8)).toNat : Int) 16)).toNat : Int) < (([48, 49, 50, 51, 52, 53, 54, 55, 56, 57, 97, 98, 99, 100, 101, 102] : List UInt8).length : Int) then (if 0 ≤ ((b8 (Int.tmod ((x1.getD ((x23).toNat) (0 : UInt8)).toNat : Int) 16)).toNat : Int) then (if ((b8 (Int.tmod ((x1.getD ((x23).toNat) (0 : UInt8)).toNat : Int) 16)).toNat : Int) < (([48, 49, 50, 51, 52, 53, 54, 55, 56, 57, 97, 98, 99, 100, 101, 102] : List UInt8).length : Int) then (if x18.length + 5 ≤ 140737488355328 then (spec_l1quoted.l0 k33 x1 (x18 ++ [(92 : UInt8), (120 : UInt8), (([48, 49, 50, 51, 52, 53, 54, 55, 56, 57, 97, 98, 99, 100, 101, 102] : List UInt8).getD (((b8 (Int.tdiv ((x1.getD ((x23).toNat) (0 : UInt8)).toNat : Int) 16)).toNat : Int) : Int).toNat (0 : UInt8)), (([48, 49, 50, 51, 52, 53, 54, 55, 56, 57, 97, 98, 99, 100, 101, 102] : List UInt8).getD (((b8 (Int.tmod ((x1.getD ((x23).toNat) (0 : UInt8)).toNat : Int) 16)).toNat : Int) : Int).toNat (0 : UInt8)), (92 : UInt8)]) (IntKind.i64.wrap (x23 + 1))) else none) else none) else none) else none) else none) else (if ((x1.getD ((x23).toNat) (0 : UInt8)).toNat : Int) > 126 then (if 0 ≤ ((b8 (Int.tdiv ((x1.getD ((x23).toNat) (0 : UInt8)).toNat : Int) 16)).toNat : Int) then (if ((b8 (Int.tdiv ((x1.getD ((x23).toNat) (0 : UInt8)).toNat : Int) 16)).toNat : Int) < (([48, 49, 50, 51, 52, 53, 54, 55, 56, 57, 97, 98, 99, 100, 101, 102] : List UInt8).length : Int) then (if 0 ≤ ((b8 (Int.tmod ((x1.getD ((x23).toNat) (0 : UInt8)).toNat : Int) 16)).toNat : Int) then (if ((b8 (Int.tmod ((x1.getD ((x23).toNat) (0 : UInt8)).toNat : Int) 16)).toNat : Int) < (([48, 49, 50, 51, 52, 53, 54, 55, 56, 57, 97, 98, 99, 100, 101, 102] : List UInt8).length : Int) then (if x18.length + 5 ≤ 140737488355328 then (spec_l1quoted.l0 k33 x1 (x18 ++ [(92 : UInt8), (120 : UInt8), (([48, 49, 50, 51, 52, 53, 54, 55, 56, 57, 97, 98, 99, 100, 101, 102] : List UInt8).getD (((b8 (Int.tdiv ((x1.getD ((x23).toNat) (0 : UInt8)).toNat : Int) 16)).toNat : Int) : Int).toNat (0 : UInt8)), (([48, 49, 50, 51, 52, 53, 54, 55, 56, 57, 97, 98, 99, 100, 101, 102] : List UInt8).getD (((b8 (Int.tmod ((x1.getD ((x23).toNat) (0 : UInt8)).toNat : Int) 16)).toNat : Int) : Int).toNat (0 : UInt8)), (92 : UInt8)]) (IntKind.i64.wrap (x23 + 1))) else none) else none) else none) else none) else none) else (if x18.length + 1 ≤ 140737488355328 then (spec_l1quoted.l0 k33 x1 (x18 ++ [(x1.getD ((x23).toNat) (0 : UInt8))]) (IntKind.i64.wrap (x23 + 1))) else none))))))) else none) else (if x18.length + 1 ≤ 140737488355328 then some (x18 ++ [(39 : UInt8)]) else none))
def spec_l1quoted.f (k : Nat) (x1 : List UInt8) : Option (List UInt8) := (spec_l1quoted.l0 k x1 [(39 : UInt8)] 0)
theorem spec_l1quoted.calls (k : Nat) (w : World) (H : Hp) (x1 : List UInt8) (A2 : Option Addr) (c3 : Nat) (h4 : Rd tByte H A2 x1) (l5 : x1.length ≤ c3) (S : Own [] H w) (r : List UInt8) (M : spec_l1quoted.f k x1 = some r) :
    Calls Tryd.prog 12 #[.slice A2 x1.length c3] w (fun e e_w => ∃ (A_1 : Option Addr) (c_1 : Nat) (F_1 : Foot) (H_ : Hp), e = .returned (.slice A_1 r.length c_1) ∧ Row tByte 5 H_ (hp e_w) F_1 A_1 c_1 r ∧ St (anyOf []) H w [F_1] H_ e_w) := by
  rw [spec_l1quoted.f] at M
  refine enter (l := [.slice A2 x1.length c3]) 62 Tryd.func12 rfl rfl rfl ?_
  have S0_ := S.st
  refine wp_seq ?_
  refine wp_region_lit ?_
  refine lv (d := 2) rfl rfl (by kernel_rfl) (e_assign (v := .slice none 0 0) rfl) ?_
  refine wpList_nil ?_
  refine then_n ?_
  refine wp_seq ?_
  refine wp_region_lit ?_
  refine lv (d := 3) rfl rfl (by kernel_rfl) (e_assign (v := str ([48, 49, 50, 51, 52, 53, 54, 55, 56, 57, 97, 98, 99, 100, 101, 102] : List UInt8)) rfl) ?_
  refine wpList_nil ?_
  refine then_n ?_
  refine wp_seq ?_
  refine wp_region_lit ?_
  refine lve (d := 7) rfl rfl (by kernel_rfl) (new_blk (v := fun g_ => .slice (some ⟨g_, 0, none⟩) 1 1) (cs := #[.int .u8 39]) (t := 5) S0_ (by kernel_rfl)) ?_
  rintro _ w6 ⟨g7, rfl, b9, S10, K11⟩
  have S12 := S10.unit
  have S13 := S12.pull (F := (is g7)) (Fr := [no]) 1 rfl rfl
  obtain ⟨h14, S15⟩ := row_lit (d := tByte) (xs := [(39 : UInt8)]) S13 b9 rfl (elsO_one1 rfl) (Nat.le_of_ble_eq_true rfl)
  refine lv (d := 4) rfl rfl (by kernel_rfl) (e_assign (v := .slice (some ⟨g7, 0, none⟩) 1 1) (by kernel_rfl)) ?_
  refine wpList_nil ?_
  refine then_n ?_
  refine wp_seq ?_
  refine wp_seq ?_
  refine wp_region_lit ?_
  refine lv (d := 5) rfl rfl (by kernel_rfl) (e_assign (v := .int .i64 0) rfl) ?_
  refine wpList_nil ?_
  refine then_n ?_
  refine wp_block ?_
  refine wp_loop_g (fun k31 a32 w16 => ∃ (f17 : Nat → Value) (x18 : List UInt8) (A19 : Option Addr) (c20 : Nat) (F21 : Foot) (x23 : Int), a32 = mk 62 f17 ∧ f17 0 = .slice A2 x1.length c3 ∧ f17 3 = str ([48, 49, 50, 51, 52, 53, 54, 55, 56, 57, 97, 98, 99, 100, 101, 102] : List UInt8) ∧ f17 4 = .slice A19 x18.length c20 ∧ f17 5 = .int .i64 x23 ∧ Row tByte 5 H (hp w16) F21 A19 c20 x18 ∧ St (anyOf []) H w [F21] H w16 ∧ spec_l1quoted.l0 k31 x1 x18 x23 = some r) k ⟨_, [(39 : UInt8)], (some ⟨g7, 0, none⟩), 1, (or2 (is g7) no), 0, rfl, (by kernel_rfl), (by kernel_rfl), (by kernel_rfl), (by kernel_rfl), h14, S15, M⟩ ?_
  clear M
  rintro k31 a32 w16 ⟨f17, x18, A19, c20, F21, x23, rfl, e24, e25, e26, e27, h22, S28, M⟩
  rcases k31 with _ | k33
  · rw [spec_l1quoted.l0] at M
    cases M
  rw [spec_l1quoted.l0] at M
  refine wp_seq ?_
  refine wp_seq ?_
  refine wp_region_lit ?_
  refine lv (d := 8) rfl rfl (by kernel_rfl) (e_move (v := .int .i64 x23) (by exact e27)) ?_
  refine lv (d := 9) rfl rfl (by kernel_rfl) (e_move (v := .slice A2 x1.length c3) (by exact e24)) ?_
  refine lv (d := 10) rfl rfl (by kernel_rfl) (e_len (A := A2) (n := x1.length) (c := c3) Tryd.underlying22 (by kernel_rfl)) ?_
  refine lv (d := 11) rfl rfl (by kernel_rfl) (e_lss (k := .i64) (a := x23) (b := (x1.length : Int)) (by kernel_rfl) (by kernel_rfl)) ?_
  refine wpList_nil ?_
  refine then_n ?_
  by_cases q34 : x23 < (x1.length : Int)
  · replace M := ifp q34 M
    refine cond_t rfl (bt q34 (by kernel_rfl)) ?_
    refine wp_skip ?_
    refine then_n ?_
    refine wp_seq ?_
    refine wp_block ?_
    refine wp_seq ?_
    refine wp_region_lit ?_
    refine lv (d := 14) rfl rfl (by kernel_rfl) (e_move (v := .slice A2 x1.length c3) (by exact e24)) ?_
    refine lv (d := 15) rfl rfl (by kernel_rfl) (e_move (v := .int .i64 x23) (by exact e27)) ?_
    obtain ⟨q35, M⟩ := chk M
    obtain ⟨b36, o37, e38⟩ := Rd.addr h4 (show (x23).toNat < x1.length by omega)
    obtain ⟨y39, r40, k41⟩ := Rd.at h4 e38 (getD_some (0 : UInt8) (show (x23).toNat < x1.length by omega))
    obtain rfl := r40
    refine lv (d := 16) rfl rfl (by kernel_rfl) (e_indexAddr (b := b36) (off := o37) (n := x1.length) (c := c3) (sz := 1) (i := x23) (k := .i64) Tryd.underlying22 e38 (by kernel_rfl) (by kernel_rfl) (by kernel_rfl) q35 q34) ?_
    refine lv (d := 17) rfl rfl (by kernel_rfl) (e_load1 (ad := ⟨b36, o37 + (x23 : Int).toNat * 1, none⟩) (v := .int .u8 ((x1.getD ((x23).toNat) (0 : UInt8)).toNat : Int)) Tryd.underlying5 rfl (by kernel_rfl) (hpx (S28.inv.cell (k41 0 _ rfl)))) ?_
    refine lv (d := 6) rfl rfl (by kernel_rfl) (e_assign (v := .int .u8 ((x1.getD ((x23).toNat) (0 : UInt8)).toNat : Int)) (by kernel_rfl)) ?_
    refine wpList_nil ?_
    refine then_n ?_
    refine wp_seq ?_
    refine wp_region_lit ?_
    refine lv (d := 18) rfl rfl (by kernel_rfl) (e_move (v := .int .u8 ((x1.getD ((x23).toNat) (0 : UInt8)).toNat : Int)) (by kernel_rfl)) ?_
    refine lv (d := 19) rfl rfl (by kernel_rfl) (e_eql (k := .u8) (a := ((x1.getD ((x23).toNat) (0 : UInt8)).toNat : Int)) (b := 39) (by kernel_rfl) rfl) ?_
    refine lv (d := 20) rfl rfl (by kernel_rfl) (e_move (v := .bool (decide (((x1.getD ((x23).toNat) (0 : UInt8)).toNat : Int) = 39))) (by kernel_rfl)) ?_
    by_cases q42 : ((x1.getD ((x23).toNat) (0 : UInt8)).toNat : Int) = 39
    · replace M := ifp q42 M
      refine lskip (t := 20) (c := true) rfl (by kernel_rfl) rfl (bt q42 (by kernel_rfl)) rfl rfl ?_
      refine lskip (t := 20) (c := true) rfl (by kernel_rfl) rfl (bt q42 (by kernel_rfl)) rfl rfl ?_
      refine lv (d := 23) rfl rfl (by kernel_rfl) (e_pick_t (v := .bool true) (bt q42 (by kernel_rfl)) rfl) ?_
      refine wpList_nil ?_
      refine then_n ?_
      refine cond_t rfl (by kernel_rfl) ?_
      refine wp_region_lit ?_
      refine lv (d := 24) rfl rfl (by kernel_rfl) (e_move (v := .slice A19 x18.length c20) (by exact e26)) ?_
      refine lv (d := 25) rfl rfl (by kernel_rfl) (e_move (v := .int .u8 ((x1.getD ((x23).toNat) (0 : UInt8)).toNat : Int)) (by kernel_rfl)) ?_
      refine lve (d := 26) rfl rfl (by kernel_rfl) (new_blk (v := fun g_ => .slice (some ⟨g_, 0, none⟩) 2 2) (cs := #[.int .u8 92, .int .u8 ((x1.getD ((x23).toNat) (0 : UInt8)).toNat : Int)]) (t := 5) S28 (by kernel_rfl)) ?_
      rintro _ w43 ⟨g44, rfl, b45, S46, K47⟩
      replace h22 := h22.move (K47.at 0 rfl)
      obtain ⟨q48, M⟩ := chk M
      have S49 := S46.pull (F := F21) (Fr := [(is g44)]) 1 rfl rfl
      have S50 := S49.unit
      have S51 := S50.pull (F := F21) (Fr := [no, (is g44)]) 1 rfl rfl
      refine lve (d := 27) rfl rfl (by kernel_rfl) (e_append (d := tByte) (n := x18.length) (xs := x18) (cap := c20) (A := A19) (ys := [(92 : UInt8), (x1.getD ((x23).toNat) (0 : UInt8))]) (A2 := (some ⟨g44, 0, none⟩)) (c2 := 2) (z := .int .u8 0) (bytes := 1) S51 Tryd.underlying22 (by kernel_rfl) rfl (by decide) (by kernel_rfl) rfl (by kernel_rfl) h22 (elsO_no (d := tByte) rfl (elsO_no (d := tByte) rfl (elsO_nil _ _ _ no))) (.inr (blk_news b45 rfl)) (show (x18.length + [(92 : UInt8), (x1.getD ((x23).toNat) (0 : UInt8))].length) * 1 ≤ _ by first | omega | (simp only [List.length_cons, List.length_nil]; omega)) (by decide)) ?_
      rintro _ w52 ⟨A53, c54, F55, rfl, h56, S57, K58⟩
      replace b45 := K58.blk 0 rfl b45
      refine lv (d := 4) rfl rfl (by kernel_rfl) (e_assign (v := .slice A53 ((x18 ++ [(92 : UInt8), (x1.getD ((x23).toNat) (0 : UInt8))]).length) c54) (by kernel_rfl)) ?_
      refine wpList_nil ?_
      refine inb_n ?_
      refine then_n ?_
      refine wp_region_lit ?_
      refine lv (d := 12) rfl rfl (by kernel_rfl) (e_move (v := .int .i64 x23) (by exact e27)) ?_
      refine lv (d := 13) rfl rfl (by kernel_rfl) (e_add (k := .i64) (a := x23) (b := 1) (by kernel_rfl) rfl) ?_
      refine lv (d := 5) rfl rfl (by kernel_rfl) (e_assign (v := .int .i64 (IntKind.i64.wrap (x23 + 1))) (by kernel_rfl)) ?_
      refine wpList_nil ?_
      refine then_n ?_
      have S59 := St.first (Fa := [F55]) (Fr := [(is g44)]) S57
      exact ⟨k33, (by omega), _, (x18 ++ [(92 : UInt8), (x1.getD ((x23).toNat) (0 : UInt8))]), A53, c54, F55, (IntKind.i64.wrap (x23 + 1)), rfl, (by exact e24), (by exact e25), (by kernel_rfl), (by kernel_rfl), h56, S59, M⟩
    replace M := ifn q42 M
    refine lvg (d := 21) (t := 20) rfl (by kernel_rfl) rfl (bf q42 (by kernel_rfl)) rfl (by kernel_rfl) (e_move (v := .int .u8 ((x1.getD ((x23).toNat) (0 : UInt8)).toNat : Int)) (by kernel_rfl)) ?_
    refine lvg (d := 22) (t := 20) rfl (by kernel_rfl) rfl (bf q42 (by kernel_rfl)) rfl (by kernel_rfl) (e_eql (k := .u8) (a := ((x1.getD ((x23).toNat) (0 : UInt8)).toNat : Int)) (b := 92) (by kernel_rfl) rfl) ?_
    refine lv (d := 23) rfl rfl (by kernel_rfl) (e_pick_f (v := .bool (decide (((x1.getD ((x23).toNat) (0 : UInt8)).toNat : Int) = 92))) (bf q42 (by kernel_rfl)) (by kernel_rfl)) ?_
    refine wpList_nil ?_
    refine then_n ?_
    by_cases q60 : ((x1.getD ((x23).toNat) (0 : UInt8)).toNat : Int) = 92
    · replace M := ifp q60 M
      refine cond_t rfl (bt q60 (by kernel_rfl)) ?_
      refine wp_region_lit ?_
      refine lv (d := 24) rfl rfl (by kernel_rfl) (e_move (v := .slice A19 x18.length c20) (by exact e26)) ?_
      refine lv (d := 25) rfl rfl (by kernel_rfl) (e_move (v := .int .u8 ((x1.getD ((x23).toNat) (0 : UInt8)).toNat : Int)) (by kernel_rfl)) ?_
      refine lve (d := 26) rfl rfl (by kernel_rfl) (new_blk (v := fun g_ => .slice (some ⟨g_, 0, none⟩) 2 2) (cs := #[.int .u8 92, .int .u8 ((x1.getD ((x23).toNat) (0 : UInt8)).toNat : Int)]) (t := 5) S28 (by kernel_rfl)) ?_
      rintro _ w61 ⟨g62, rfl, b63, S64, K65⟩
      replace h22 := h22.move (K65.at 0 rfl)
      obtain ⟨q66, M⟩ := chk M
      have S67 := S64.pull (F := F21) (Fr := [(is g62)]) 1 rfl rfl
      have S68 := S67.unit
      have S69 := S68.pull (F := F21) (Fr := [no, (is g62)]) 1 rfl rfl
      refine lve (d := 27) rfl rfl (by kernel_rfl) (e_append (d := tByte) (n := x18.length) (xs := x18) (cap := c20) (A := A19) (ys := [(92 : UInt8), (x1.getD ((x23).toNat) (0 : UInt8))]) (A2 := (some ⟨g62, 0, none⟩)) (c2 := 2) (z := .int .u8 0) (bytes := 1) S69 Tryd.underlying22 (by kernel_rfl) rfl (by decide) (by kernel_rfl) rfl (by kernel_rfl) h22 (elsO_no (d := tByte) rfl (elsO_no (d := tByte) rfl (elsO_nil _ _ _ no))) (.inr (blk_news b63 rfl)) (show (x18.length + [(92 : UInt8), (x1.getD ((x23).toNat) (0 : UInt8))].length) * 1 ≤ _ by first | omega | (simp only [List.length_cons, List.length_nil]; omega)) (by decide)) ?_
      rintro _ w70 ⟨A71, c72, F73, rfl, h74, S75, K76⟩
      replace b63 := K76.blk 0 rfl b63
      refine lv (d := 4) rfl rfl (by kernel_rfl) (e_assign (v := .slice A71 ((x18 ++ [(92 : UInt8), (x1.getD ((x23).toNat) (0 : UInt8))]).length) c72) (by kernel_rfl)) ?_
      refine wpList_nil ?_
      refine inb_n ?_
      refine then_n ?_
      refine wp_region_lit ?_
      refine lv (d := 12) rfl rfl (by kernel_rfl) (e_move (v := .int .i64 x23) (by exact e27)) ?_
      refine lv (d := 13) rfl rfl (by kernel_rfl) (e_add (k := .i64) (a := x23) (b := 1) (by kernel_rfl) rfl) ?_
      refine lv (d := 5) rfl rfl (by kernel_rfl) (e_assign (v := .int .i64 (IntKind.i64.wrap (x23 + 1))) (by kernel_rfl)) ?_
      refine wpList_nil ?_
      refine then_n ?_
      have S77 := St.first (Fa := [F73]) (Fr := [(is g62)]) S75
      exact ⟨k33, (by omega), _, (x18 ++ [(92 : UInt8), (x1.getD ((x23).toNat) (0 : UInt8))]), A71, c72, F73, (IntKind.i64.wrap (x23 + 1)), rfl, (by exact e24), (by exact e25), (by kernel_rfl), (by kernel_rfl), h74, S77, M⟩
    replace M := ifn q60 M
    refine cond_f rfl (bf q60 (by kernel_rfl)) ?_
    refine wp_seq ?_
    refine wp_region_lit ?_
    refine lv (d := 28) rfl rfl (by kernel_rfl) (e_move (v := .int .u8 ((x1.getD ((x23).toNat) (0 : UInt8)).toNat : Int)) (by kernel_rfl)) ?_
    refine lv (d := 29) rfl rfl (by kernel_rfl) (e_eql (k := .u8) (a := ((x1.getD ((x23).toNat) (0 : UInt8)).toNat : Int)) (b := 10) (by kernel_rfl) rfl) ?_
    refine wpList_nil ?_
    refine then_n ?_
    by_cases q78 : ((x1.getD ((x23).toNat) (0 : UInt8)).toNat : Int) = 10
    · replace M := ifp q78 M
      refine cond_t rfl (bt q78 (by kernel_rfl)) ?_
      refine wp_region_lit ?_
      refine lv (d := 30) rfl rfl (by kernel_rfl) (e_move (v := .slice A19 x18.length c20) (by exact e26)) ?_
      refine lve (d := 31) rfl rfl (by kernel_rfl) (new_blk (v := fun g_ => .slice (some ⟨g_, 0, none⟩) 2 2) (cs := #[.int .u8 92, .int .u8 110]) (t := 5) S28 (by kernel_rfl)) ?_
      rintro _ w79 ⟨g80, rfl, b81, S82, K83⟩
      replace h22 := h22.move (K83.at 0 rfl)
      obtain ⟨q84, M⟩ := chk M
      have S85 := S82.pull (F := F21) (Fr := [(is g80)]) 1 rfl rfl
      have S86 := S85.unit
      have S87 := S86.pull (F := F21) (Fr := [no, (is g80)]) 1 rfl rfl
      refine lve (d := 32) rfl rfl (by kernel_rfl) (e_append (d := tByte) (n := x18.length) (xs := x18) (cap := c20) (A := A19) (ys := [(92 : UInt8), (110 : UInt8)]) (A2 := (some ⟨g80, 0, none⟩)) (c2 := 2) (z := .int .u8 0) (bytes := 1) S87 Tryd.underlying22 (by kernel_rfl) rfl (by decide) (by kernel_rfl) rfl (by kernel_rfl) h22 (elsO_no (d := tByte) rfl (elsO_no (d := tByte) rfl (elsO_nil _ _ _ no))) (.inr (blk_news b81 rfl)) (show (x18.length + [(92 : UInt8), (110 : UInt8)].length) * 1 ≤ _ by first | omega | (simp only [List.length_cons, List.length_nil]; omega)) (by decide)) ?_
      rintro _ w88 ⟨A89, c90, F91, rfl, h92, S93, K94⟩
      replace b81 := K94.blk 0 rfl b81
      refine lv (d := 4) rfl rfl (by kernel_rfl) (e_assign (v := .slice A89 ((x18 ++ [(92 : UInt8), (110 : UInt8)]).length) c90) (by kernel_rfl)) ?_
      refine wpList_nil ?_
      refine inb_n ?_
      refine then_n ?_
      refine wp_region_lit ?_
      refine lv (d := 12) rfl rfl (by kernel_rfl) (e_move (v := .int .i64 x23) (by exact e27)) ?_
      refine lv (d := 13) rfl rfl (by kernel_rfl) (e_add (k := .i64) (a := x23) (b := 1) (by kernel_rfl) rfl) ?_
      refine lv (d := 5) rfl rfl (by kernel_rfl) (e_assign (v := .int .i64 (IntKind.i64.wrap (x23 + 1))) (by kernel_rfl)) ?_
      refine wpList_nil ?_
      refine then_n ?_
      have S95 := St.first (Fa := [F91]) (Fr := [(is g80)]) S93
      exact ⟨k33, (by omega), _, (x18 ++ [(92 : UInt8), (110 : UInt8)]), A89, c90, F91, (IntKind.i64.wrap (x23 + 1)), rfl, (by exact e24), (by exact e25), (by kernel_rfl), (by kernel_rfl), h92, S95, M⟩
    replace M := ifn q78 M
    refine cond_f rfl (bf q78 (by kernel_rfl)) ?_
    refine wp_seq ?_
    refine wp_region_lit ?_
    refine lv (d := 33) rfl rfl (by kernel_rfl) (e_move (v := .int .u8 ((x1.getD ((x23).toNat) (0 : UInt8)).toNat : Int)) (by kernel_rfl)) ?_
    refine lv (d := 34) rfl rfl (by kernel_rfl) (e_eql (k := .u8) (a := ((x1.getD ((x23).toNat) (0 : UInt8)).toNat : Int)) (b := 9) (by kernel_rfl) rfl) ?_
    refine wpList_nil ?_
    refine then_n ?_
    by_cases q96 : ((x1.getD ((x23).toNat) (0 : UInt8)).toNat : Int) = 9
    · replace M := ifp q96 M
      refine cond_t rfl (bt q96 (by kernel_rfl)) ?_
      refine wp_region_lit ?_
      refine lv (d := 35) rfl rfl (by kernel_rfl) (e_move (v := .slice A19 x18.length c20) (by exact e26)) ?_
      refine lve (d := 36) rfl rfl (by kernel_rfl) (new_blk (v := fun g_ => .slice (some ⟨g_, 0, none⟩) 2 2) (cs := #[.int .u8 92, .int .u8 116]) (t := 5) S28 (by kernel_rfl)) ?_
      rintro _ w97 ⟨g98, rfl, b99, S100, K101⟩
      replace h22 := h22.move (K101.at 0 rfl)
      obtain ⟨q102, M⟩ := chk M
      have S103 := S100.pull (F := F21) (Fr := [(is g98)]) 1 rfl rfl
      have S104 := S103.unit
      have S105 := S104.pull (F := F21) (Fr := [no, (is g98)]) 1 rfl rfl
      refine lve (d := 37) rfl rfl (by kernel_rfl) (e_append (d := tByte) (n := x18.length) (xs := x18) (cap := c20) (A := A19) (ys := [(92 : UInt8), (116 : UInt8)]) (A2 := (some ⟨g98, 0, none⟩)) (c2 := 2) (z := .int .u8 0) (bytes := 1) S105 Tryd.underlying22 (by kernel_rfl) rfl (by decide) (by kernel_rfl) rfl (by kernel_rfl) h22 (elsO_no (d := tByte) rfl (elsO_no (d := tByte) rfl (elsO_nil _ _ _ no))) (.inr (blk_news b99 rfl)) (show (x18.length + [(92 : UInt8), (116 : UInt8)].length) * 1 ≤ _ by first | omega | (simp only [List.length_cons, List.length_nil]; omega)) (by decide)) ?_
      rintro _ w106 ⟨A107, c108, F109, rfl, h110, S111, K112⟩
      replace b99 := K112.blk 0 rfl b99
      refine lv (d := 4) rfl rfl (by kernel_rfl) (e_assign (v := .slice A107 ((x18 ++ [(92 : UInt8), (116 : UInt8)]).length) c108) (by kernel_rfl)) ?_
      refine wpList_nil ?_
      refine inb_n ?_
      refine then_n ?_
      refine wp_region_lit ?_
      refine lv (d := 12) rfl rfl (by kernel_rfl) (e_move (v := .int .i64 x23) (by exact e27)) ?_
      refine lv (d := 13) rfl rfl (by kernel_rfl) (e_add (k := .i64) (a := x23) (b := 1) (by kernel_rfl) rfl) ?_
      refine lv (d := 5) rfl rfl (by kernel_rfl) (e_assign (v := .int .i64 (IntKind.i64.wrap (x23 + 1))) (by kernel_rfl)) ?_
      refine wpList_nil ?_
      refine then_n ?_
      have S113 := St.first (Fa := [F109]) (Fr := [(is g98)]) S111
      exact ⟨k33, (by omega), _, (x18 ++ [(92 : UInt8), (116 : UInt8)]), A107, c108, F109, (IntKind.i64.wrap (x23 + 1)), rfl, (by exact e24), (by exact e25), (by kernel_rfl), (by kernel_rfl), h110, S113, M⟩
    replace M := ifn q96 M
    refine cond_f rfl (bf q96 (by kernel_rfl)) ?_
    refine wp_seq ?_
    refine wp_region_lit ?_
    refine lv (d := 38) rfl rfl (by kernel_rfl) (e_move (v := .int .u8 ((x1.getD ((x23).toNat) (0 : UInt8)).toNat : Int)) (by kernel_rfl)) ?_
    refine lv (d := 39) rfl rfl (by kernel_rfl) (e_lss (k := .u8) (a := ((x1.getD ((x23).toNat) (0 : UInt8)).toNat : Int)) (b := 32) (by kernel_rfl) rfl) ?_
    refine lv (d := 40) rfl rfl (by kernel_rfl) (e_move (v := .bool (decide (((x1.getD ((x23).toNat) (0 : UInt8)).toNat : Int) < 32))) (by kernel_rfl)) ?_
    by_cases q114 : ((x1.getD ((x23).toNat) (0 : UInt8)).toNat : Int) < 32
    · replace M := ifp q114 M
      refine lskip (t := 40) (c := true) rfl (by kernel_rfl) rfl (bt q114 (by kernel_rfl)) rfl rfl ?_
      refine lskip (t := 40) (c := true) rfl (by kernel_rfl) rfl (bt q114 (by kernel_rfl)) rfl rfl ?_
      refine lv (d := 43) rfl rfl (by kernel_rfl) (e_pick_t (v := .bool true) (bt q114 (by kernel_rfl)) rfl) ?_
      refine wpList_nil ?_
      refine then_n ?_
      refine cond_t rfl (by kernel_rfl) ?_
      refine region_mix (S := (fun (L_ : Array Bool) (w_ : World) => Ext H (hp w_) ∧ True)) (by kernel_rfl) S28 ?_
      intro w115 S116 K117 hc118
      have hs119 : (fun (L_ : Array Bool) (w_ : World) => Ext H (hp w_) ∧ True) (Array.replicate 12 false) w115 := ⟨S116.inv, trivial⟩
      replace h22 := h22.move (K117.at 0 rfl)
      refine xv (i := 0) (d := 44) rfl rfl rfl (by kernel_rfl) (by kernel_rfl) (fun _ _ => Iff.rfl) hc118 hs119 (fun L_ w_ hc_ hu_ hs_ => e_move (v := .slice A19 x18.length c20) (by exact e26)) ?_; intro hc120 hs121
      refine xv (i := 1) (d := 45) rfl rfl rfl (by kernel_rfl) (by kernel_rfl) (fun _ _ => Iff.rfl) hc120 hs121 (fun L_ w_ hc_ hu_ hs_ => e_move (v := str ([48, 49, 50, 51, 52, 53, 54, 55, 56, 57, 97, 98, 99, 100, 101, 102] : List UInt8)) (by exact e25)) ?_; intro hc122 hs123
      refine xv (i := 2) (d := 46) rfl rfl rfl (by kernel_rfl) (by kernel_rfl) (fun _ _ => Iff.rfl) hc122 hs123 (fun L_ w_ hc_ hu_ hs_ => e_move (v := .int .u8 ((x1.getD ((x23).toNat) (0 : UInt8)).toNat : Int)) (by kernel_rfl)) ?_; intro hc124 hs125
      refine xv (i := 3) (d := 47) rfl rfl rfl (by kernel_rfl) (by kernel_rfl) (fun _ _ => Iff.rfl) hc124 hs125 (fun L_ w_ hc_ hu_ hs_ => e_quo8 (a := ((x1.getD ((x23).toNat) (0 : UInt8)).toNat : Int)) (b := 16) (by kernel_rfl) rfl (by decide)) ?_; intro hc126 hs127
      obtain ⟨q128, M⟩ := chk M
      obtain ⟨q129, M⟩ := chk M
      refine xv (i := 4) (d := 48) rfl rfl rfl (by kernel_rfl) (by kernel_rfl) (fun _ _ => Iff.rfl) hc126 hs127 (fun L_ w_ hc_ hu_ hs_ => e_sindex (p := ([48, 49, 50, 51, 52, 53, 54, 55, 56, 57, 97, 98, 99, 100, 101, 102] : List UInt8)) (i := ((b8 (Int.tdiv ((x1.getD ((x23).toNat) (0 : UInt8)).toNat : Int) 16)).toNat : Int)) (k := .u8) Tryd.underlying9 (by kernel_rfl) (by kernel_rfl) q128 q129) ?_; intro hc130 hs131
      refine xv (i := 5) (d := 49) rfl rfl rfl (by kernel_rfl) (by kernel_rfl) (fun _ _ => Iff.rfl) hc130 hs131 (fun L_ w_ hc_ hu_ hs_ => e_move (v := str ([48, 49, 50, 51, 52, 53, 54, 55, 56, 57, 97, 98, 99, 100, 101, 102] : List UInt8)) (by exact e25)) ?_; intro hc132 hs133
      refine xone (i := 6) (by kernel_rfl) hc132 ?_
      refine yo (i := 6) (d := 50) rfl rfl (wanted_none rfl _) (by kernel_rfl) (by kernel_rfl) (fun _ _ => Iff.rfl) hs133 (e_move (v := .int .u8 ((x1.getD ((x23).toNat) (0 : UInt8)).toNat : Int)) (by kernel_rfl)) ?_; intro hc134 hs135
      refine xone (i := 7) (by kernel_rfl) hc134 ?_
      refine yo (i := 7) (d := 51) rfl rfl (wanted_none rfl _) (by kernel_rfl) (by kernel_rfl) (fun _ _ => Iff.rfl) hs135 (e_rem8 (x8 := (x1.getD ((x23).toNat) (0 : UInt8))) (b := 16) (by kernel_rfl) rfl (by decide)) ?_; intro hc136 hs137
      obtain ⟨q138, M⟩ := chk M
      obtain ⟨q139, M⟩ := chk M
      refine xone (i := 8) (by kernel_rfl) hc136 ?_
      refine yo (i := 8) (d := 52) rfl rfl (wanted_none rfl _) (by kernel_rfl) (by kernel_rfl) (fun _ _ => Iff.rfl) hs137 (e_sindex (p := ([48, 49, 50, 51, 52, 53, 54, 55, 56, 57, 97, 98, 99, 100, 101, 102] : List UInt8)) (i := ((b8 (Int.tmod ((x1.getD ((x23).toNat) (0 : UInt8)).toNat : Int) 16)).toNat : Int)) (k := .u8) Tryd.underlying9 (by kernel_rfl) (by kernel_rfl) q138 q139) ?_; intro hc140 hs141
      refine xone (i := 9) (by kernel_rfl) hc140 ?_
      refine ye (i := 9) (d := 53) rfl rfl (wanted_none rfl _) (by kernel_rfl) (by kernel_rfl) (new_blk (v := fun g_ => .slice (some ⟨g_, 0, none⟩) 5 5) (cs := #[.int .u8 92, .int .u8 120, .int .u8 ((([48, 49, 50, 51, 52, 53, 54, 55, 56, 57, 97, 98, 99, 100, 101, 102] : List UInt8).getD (((b8 (Int.tdiv ((x1.getD ((x23).toNat) (0 : UInt8)).toNat : Int) 16)).toNat : Int) : Int).toNat (0 : UInt8)).toNat : Int), .int .u8 ((([48, 49, 50, 51, 52, 53, 54, 55, 56, 57, 97, 98, 99, 100, 101, 102] : List UInt8).getD (((b8 (Int.tmod ((x1.getD ((x23).toNat) (0 : UInt8)).toNat : Int) 16)).toNat : Int) : Int).toNat (0 : UInt8)).toNat : Int), .int .u8 92]) (t := 5) S116 (by kernel_rfl)) ?_
      rintro hc147 _ w142 ⟨g143, rfl, b144, S145, K146⟩
      replace h22 := h22.move (K146.at 0 rfl)
      refine ⟨⟨S145.inv, trivial⟩, fun hs148 => ?_⟩
      obtain ⟨q149, M⟩ := chk M
      have S150 := S145.pull (F := F21) (Fr := [(is g143)]) 1 rfl rfl
      have S151 := S150.unit
      have S152 := S151.pull (F := F21) (Fr := [no, (is g143)]) 1 rfl rfl
      refine xone (i := 10) (by kernel_rfl) hc147 ?_
      refine ye (i := 10) (d := 54) rfl rfl (wanted_none rfl _) (by kernel_rfl) (by kernel_rfl) (e_append (d := tByte) (n := x18.length) (xs := x18) (cap := c20) (A := A19) (ys := [(92 : UInt8), (120 : UInt8), (([48, 49, 50, 51, 52, 53, 54, 55, 56, 57, 97, 98, 99, 100, 101, 102] : List UInt8).getD (((b8 (Int.tdiv ((x1.getD ((x23).toNat) (0 : UInt8)).toNat : Int) 16)).toNat : Int) : Int).toNat (0 : UInt8)), (([48, 49, 50, 51, 52, 53, 54, 55, 56, 57, 97, 98, 99, 100, 101, 102] : List UInt8).getD (((b8 (Int.tmod ((x1.getD ((x23).toNat) (0 : UInt8)).toNat : Int) 16)).toNat : Int) : Int).toNat (0 : UInt8)), (92 : UInt8)]) (A2 := (some ⟨g143, 0, none⟩)) (c2 := 5) (z := .int .u8 0) (bytes := 1) S152 Tryd.underlying22 (by kernel_rfl) rfl (by decide) (by kernel_rfl) rfl (by kernel_rfl) h22 (elsO_no (d := tByte) rfl (elsO_no (d := tByte) rfl (elsO_no (d := tByte) rfl (elsO_no (d := tByte) rfl (elsO_no (d := tByte) rfl (elsO_nil _ _ _ no)))))) (.inr (blk_news b144 rfl)) (show (x18.length + [(92 : UInt8), (120 : UInt8), (([48, 49, 50, 51, 52, 53, 54, 55, 56, 57, 97, 98, 99, 100, 101, 102] : List UInt8).getD (((b8 (Int.tdiv ((x1.getD ((x23).toNat) (0 : UInt8)).toNat : Int) 16)).toNat : Int) : Int).toNat (0 : UInt8)), (([48, 49, 50, 51, 52, 53, 54, 55, 56, 57, 97, 98, 99, 100, 101, 102] : List UInt8).getD (((b8 (Int.tmod ((x1.getD ((x23).toNat) (0 : UInt8)).toNat : Int) 16)).toNat : Int) : Int).toNat (0 : UInt8)), (92 : UInt8)].length) * 1 ≤ _ by first | omega | (simp only [List.length_cons, List.length_nil]; omega)) (by decide)) ?_
      rintro hc160 _ w153 ⟨A154, c155, F156, rfl, h157, S158, K159⟩
      replace b144 := K159.blk 0 rfl b144
      refine ⟨⟨S158.inv, trivial⟩, fun hs161 => ?_⟩
      refine xone (i := 11) (by kernel_rfl) hc160 ?_
      refine yo (i := 11) (d := 4) rfl rfl (wanted_none rfl _) (by kernel_rfl) (by kernel_rfl) (fun _ _ => Iff.rfl) hs161 (e_assign (v := .slice A154 ((x18 ++ [(92 : UInt8), (120 : UInt8), (([48, 49, 50, 51, 52, 53, 54, 55, 56, 57, 97, 98, 99, 100, 101, 102] : List UInt8).getD (((b8 (Int.tdiv ((x1.getD ((x23).toNat) (0 : UInt8)).toNat : Int) 16)).toNat : Int) : Int).toNat (0 : UInt8)), (([48, 49, 50, 51, 52, 53, 54, 55, 56, 57, 97, 98, 99, 100, 101, 102] : List UInt8).getD (((b8 (Int.tmod ((x1.getD ((x23).toNat) (0 : UInt8)).toNat : Int) 16)).toNat : Int) : Int).toNat (0 : UInt8)), (92 : UInt8)]).length) c155) (by kernel_rfl)) ?_; intro hc162 hs163
      refine xn (by kernel_rfl) ?_ _
      refine inb_n ?_
      refine then_n ?_
      refine wp_region_lit ?_
      refine lv (d := 12) rfl rfl (by kernel_rfl) (e_move (v := .int .i64 x23) (by exact e27)) ?_
      refine lv (d := 13) rfl rfl (by kernel_rfl) (e_add (k := .i64) (a := x23) (b := 1) (by kernel_rfl) rfl) ?_
      refine lv (d := 5) rfl rfl (by kernel_rfl) (e_assign (v := .int .i64 (IntKind.i64.wrap (x23 + 1))) (by kernel_rfl)) ?_
      refine wpList_nil ?_
      refine then_n ?_
      have S164 := St.first (Fa := [F156]) (Fr := [(is g143)]) S158
      exact ⟨k33, (by omega), _, (x18 ++ [(92 : UInt8), (120 : UInt8), (([48, 49, 50, 51, 52, 53, 54, 55, 56, 57, 97, 98, 99, 100, 101, 102] : List UInt8).getD (((b8 (Int.tdiv ((x1.getD ((x23).toNat) (0 : UInt8)).toNat : Int) 16)).toNat : Int) : Int).toNat (0 : UInt8)), (([48, 49, 50, 51, 52, 53, 54, 55, 56, 57, 97, 98, 99, 100, 101, 102] : List UInt8).getD (((b8 (Int.tmod ((x1.getD ((x23).toNat) (0 : UInt8)).toNat : Int) 16)).toNat : Int) : Int).toNat (0 : UInt8)), (92 : UInt8)]), A154, c155, F156, (IntKind.i64.wrap (x23 + 1)), rfl, (by exact e24), (by exact e25), (by kernel_rfl), (by kernel_rfl), h157, S164, M⟩
    replace M := ifn q114 M
    refine lvg (d := 41) (t := 40) rfl (by kernel_rfl) rfl (bf q114 (by kernel_rfl)) rfl (by kernel_rfl) (e_move (v := .int .u8 ((x1.getD ((x23).toNat) (0 : UInt8)).toNat : Int)) (by kernel_rfl)) ?_
    refine lvg (d := 42) (t := 40) rfl (by kernel_rfl) rfl (bf q114 (by kernel_rfl)) rfl (by kernel_rfl) (e_gtr (k := .u8) (a := ((x1.getD ((x23).toNat) (0 : UInt8)).toNat : Int)) (b := 126) (by kernel_rfl) rfl) ?_
    refine lv (d := 43) rfl rfl (by kernel_rfl) (e_pick_f (v := .bool (decide (((x1.getD ((x23).toNat) (0 : UInt8)).toNat : Int) > 126))) (bf q114 (by kernel_rfl)) (by kernel_rfl)) ?_
    refine wpList_nil ?_
    refine then_n ?_
    by_cases q165 : ((x1.getD ((x23).toNat) (0 : UInt8)).toNat : Int) > 126
    · replace M := ifp q165 M
      refine cond_t rfl (bt q165 (by kernel_rfl)) ?_
      refine region_mix (S := (fun (L_ : Array Bool) (w_ : World) => Ext H (hp w_) ∧ True)) (by kernel_rfl) S28 ?_
      intro w166 S167 K168 hc169
      have hs170 : (fun (L_ : Array Bool) (w_ : World) => Ext H (hp w_) ∧ True) (Array.replicate 12 false) w166 := ⟨S167.inv, trivial⟩
      replace h22 := h22.move (K168.at 0 rfl)
      refine xv (i := 0) (d := 44) rfl rfl rfl (by kernel_rfl) (by kernel_rfl) (fun _ _ => Iff.rfl) hc169 hs170 (fun L_ w_ hc_ hu_ hs_ => e_move (v := .slice A19 x18.length c20) (by exact e26)) ?_; intro hc171 hs172
      refine xv (i := 1) (d := 45) rfl rfl rfl (by kernel_rfl) (by kernel_rfl) (fun _ _ => Iff.rfl) hc171 hs172 (fun L_ w_ hc_ hu_ hs_ => e_move (v := str ([48, 49, 50, 51, 52, 53, 54, 55, 56, 57, 97, 98, 99, 100, 101, 102] : List UInt8)) (by exact e25)) ?_; intro hc173 hs174
      refine xv (i := 2) (d := 46) rfl rfl rfl (by kernel_rfl) (by kernel_rfl) (fun _ _ => Iff.rfl) hc173 hs174 (fun L_ w_ hc_ hu_ hs_ => e_move (v := .int .u8 ((x1.getD ((x23).toNat) (0 : UInt8)).toNat : Int)) (by kernel_rfl)) ?_; intro hc175 hs176
      refine xv (i := 3) (d := 47) rfl rfl rfl (by kernel_rfl) (by kernel_rfl) (fun _ _ => Iff.rfl) hc175 hs176 (fun L_ w_ hc_ hu_ hs_ => e_quo8 (a := ((x1.getD ((x23).toNat) (0 : UInt8)).toNat : Int)) (b := 16) (by kernel_rfl) rfl (by decide)) ?_; intro hc177 hs178
      obtain ⟨q179, M⟩ := chk M
      obtain ⟨q180, M⟩ := chk M
      refine xv (i := 4) (d := 48) rfl rfl rfl (by kernel_rfl) (by kernel_rfl) (fun _ _ => Iff.rfl) hc177 hs178 (fun L_ w_ hc_ hu_ hs_ => e_sindex (p := ([48, 49, 50, 51, 52, 53, 54, 55, 56, 57, 97, 98, 99, 100, 101, 102] : List UInt8)) (i := ((b8 (Int.tdiv ((x1.getD ((x23).toNat) (0 : UInt8)).toNat : Int) 16)).toNat : Int)) (k := .u8) Tryd.underlying9 (by kernel_rfl) (by kernel_rfl) q179 q180) ?_; intro hc181 hs182
      refine xv (i := 5) (d := 49) rfl rfl rfl (by kernel_rfl) (by kernel_rfl) (fun _ _ => Iff.rfl) hc181 hs182 (fun L_ w_ hc_ hu_ hs_ => e_move (v := str ([48, 49, 50, 51, 52, 53, 54, 55, 56, 57, 97, 98, 99, 100, 101, 102] : List UInt8)) (by exact e25)) ?_; intro hc183 hs184
      refine xone (i := 6) (by kernel_rfl) hc183 ?_
      refine yo (i := 6) (d := 50) rfl rfl (wanted_none rfl _) (by kernel_rfl) (by kernel_rfl) (fun _ _ => Iff.rfl) hs184 (e_move (v := .int .u8 ((x1.getD ((x23).toNat) (0 : UInt8)).toNat : Int)) (by kernel_rfl)) ?_; intro hc185 hs186
      refine xone (i := 7) (by kernel_rfl) hc185 ?_
      refine yo (i := 7) (d := 51) rfl rfl (wanted_none rfl _) (by kernel_rfl) (by kernel_rfl) (fun _ _ => Iff.rfl) hs186 (e_rem8 (x8 := (x1.getD ((x23).toNat) (0 : UInt8))) (b := 16) (by kernel_rfl) rfl (by decide)) ?_; intro hc187 hs188
      obtain ⟨q189, M⟩ := chk M
      obtain ⟨q190, M⟩ := chk M
      refine xone (i := 8) (by kernel_rfl) hc187 ?_
      refine yo (i := 8) (d := 52) rfl rfl (wanted_none rfl _) (by kernel_rfl) (by kernel_rfl) (fun _ _ => Iff.rfl) hs188 (e_sindex (p := ([48, 49, 50, 51, 52, 53, 54, 55, 56, 57, 97, 98, 99, 100, 101, 102] : List UInt8)) (i := ((b8 (Int.tmod ((x1.getD ((x23).toNat) (0 : UInt8)).toNat : Int) 16)).toNat : Int)) (k := .u8) Tryd.underlying9 (by kernel_rfl) (by kernel_rfl) q189 q190) ?_; intro hc191 hs192
      refine xone (i := 9) (by kernel_rfl) hc191 ?_
      refine ye (i := 9) (d := 53) rfl rfl (wanted_none rfl _) (by kernel_rfl) (by kernel_rfl) (new_blk (v := fun g_ => .slice (some ⟨g_, 0, none⟩) 5 5) (cs := #[.int .u8 92, .int .u8 120, .int .u8 ((([48, 49, 50, 51, 52, 53, 54, 55, 56, 57, 97, 98, 99, 100, 101, 102] : List UInt8).getD (((b8 (Int.tdiv ((x1.getD ((x23).toNat) (0 : UInt8)).toNat : Int) 16)).toNat : Int) : Int).toNat (0 : UInt8)).toNat : Int), .int .u8 ((([48, 49, 50, 51, 52, 53, 54, 55, 56, 57, 97, 98, 99, 100, 101, 102] : List UInt8).getD (((b8 (Int.tmod ((x1.getD ((x23).toNat) (0 : UInt8)).toNat : Int) 16)).toNat : Int) : Int).toNat (0 : UInt8)).toNat : Int), .int .u8 92]) (t := 5) S167 (by kernel_rfl)) ?_
      rintro hc198 _ w193 ⟨g194, rfl, b195, S196, K197⟩
      replace h22 := h22.move (K197.at 0 rfl)
      refine ⟨⟨S196.inv, trivial⟩, fun hs199 => ?_⟩
      obtain ⟨q200, M⟩ := chk M
      have S201 := S196.pull (F := F21) (Fr := [(is g194)]) 1 rfl rfl
      have S202 := S201.unit
      have S203 := S202.pull (F := F21) (Fr := [no, (is g194)]) 1 rfl rfl
      refine xone (i := 10) (by kernel_rfl) hc198 ?_
      refine ye (i := 10) (d := 54) rfl rfl (wanted_none rfl _) (by kernel_rfl) (by kernel_rfl) (e_append (d := tByte) (n := x18.length) (xs := x18) (cap := c20) (A := A19) (ys := [(92 : UInt8), (120 : UInt8), (([48, 49, 50, 51, 52, 53, 54, 55, 56, 57, 97, 98, 99, 100, 101, 102] : List UInt8).getD (((b8 (Int.tdiv ((x1.getD ((x23).toNat) (0 : UInt8)).toNat : Int) 16)).toNat : Int) : Int).toNat (0 : UInt8)), (([48, 49, 50, 51, 52, 53, 54, 55, 56, 57, 97, 98, 99, 100, 101, 102] : List UInt8).getD (((b8 (Int.tmod ((x1.getD ((x23).toNat) (0 : UInt8)).toNat : Int) 16)).toNat : Int) : Int).toNat (0 : UInt8)), (92 : UInt8)]) (A2 := (some ⟨g194, 0, none⟩)) (c2 := 5) (z := .int .u8 0) (bytes := 1) S203 Tryd.underlying22 (by kernel_rfl) rfl (by decide) (by kernel_rfl) rfl (by kernel_rfl) h22 (elsO_no (d := tByte) rfl (elsO_no (d := tByte) rfl (elsO_no (d := tByte) rfl (elsO_no (d := tByte) rfl (elsO_no (d := tByte) rfl (elsO_nil _ _ _ no)))))) (.inr (blk_news b195 rfl)) (show (x18.length + [(92 : UInt8), (120 : UInt8), (([48, 49, 50, 51, 52, 53, 54, 55, 56, 57, 97, 98, 99, 100, 101, 102] : List UInt8).getD (((b8 (Int.tdiv ((x1.getD ((x23).toNat) (0 : UInt8)).toNat : Int) 16)).toNat : Int) : Int).toNat (0 : UInt8)), (([48, 49, 50, 51, 52, 53, 54, 55, 56, 57, 97, 98, 99, 100, 101, 102] : List UInt8).getD (((b8 (Int.tmod ((x1.getD ((x23).toNat) (0 : UInt8)).toNat : Int) 16)).toNat : Int) : Int).toNat (0 : UInt8)), (92 : UInt8)].length) * 1 ≤ _ by first | omega | (simp only [List.length_cons, List.length_nil]; omega)) (by decide)) ?_
      rintro hc211 _ w204 ⟨A205, c206, F207, rfl, h208, S209, K210⟩
      replace b195 := K210.blk 0 rfl b195
      refine ⟨⟨S209.inv, trivial⟩, fun hs212 => ?_⟩
      refine xone (i := 11) (by kernel_rfl) hc211 ?_
      refine yo (i := 11) (d := 4) rfl rfl (wanted_none rfl _) (by kernel_rfl) (by kernel_rfl) (fun _ _ => Iff.rfl) hs212 (e_assign (v := .slice A205 ((x18 ++ [(92 : UInt8), (120 : UInt8), (([48, 49, 50, 51, 52, 53, 54, 55, 56, 57, 97, 98, 99, 100, 101, 102] : List UInt8).getD (((b8 (Int.tdiv ((x1.getD ((x23).toNat) (0 : UInt8)).toNat : Int) 16)).toNat : Int) : Int).toNat (0 : UInt8)), (([48, 49, 50, 51, 52, 53, 54, 55, 56, 57, 97, 98, 99, 100, 101, 102] : List UInt8).getD (((b8 (Int.tmod ((x1.getD ((x23).toNat) (0 : UInt8)).toNat : Int) 16)).toNat : Int) : Int).toNat (0 : UInt8)), (92 : UInt8)]).length) c206) (by kernel_rfl)) ?_; intro hc213 hs214
      refine xn (by kernel_rfl) ?_ _
      refine inb_n ?_
      refine then_n ?_
      refine wp_region_lit ?_
      refine lv (d := 12) rfl rfl (by kernel_rfl) (e_move (v := .int .i64 x23) (by exact e27)) ?_
      refine lv (d := 13) rfl rfl (by kernel_rfl) (e_add (k := .i64) (a := x23) (b := 1) (by kernel_rfl) rfl) ?_
      refine lv (d := 5) rfl rfl (by kernel_rfl) (e_assign (v := .int .i64 (IntKind.i64.wrap (x23 + 1))) (by kernel_rfl)) ?_
      refine wpList_nil ?_
      refine then_n ?_
      have S215 := St.first (Fa := [F207]) (Fr := [(is g194)]) S209
      exact ⟨k33, (by omega), _, (x18 ++ [(92 : UInt8), (120 : UInt8), (([48, 49, 50, 51, 52, 53, 54, 55, 56, 57, 97, 98, 99, 100, 101, 102] : List UInt8).getD (((b8 (Int.tdiv ((x1.getD ((x23).toNat) (0 : UInt8)).toNat : Int) 16)).toNat : Int) : Int).toNat (0 : UInt8)), (([48, 49, 50, 51, 52, 53, 54, 55, 56, 57, 97, 98, 99, 100, 101, 102] : List UInt8).getD (((b8 (Int.tmod ((x1.getD ((x23).toNat) (0 : UInt8)).toNat : Int) 16)).toNat : Int) : Int).toNat (0 : UInt8)), (92 : UInt8)]), A205, c206, F207, (IntKind.i64.wrap (x23 + 1)), rfl, (by exact e24), (by exact e25), (by kernel_rfl), (by kernel_rfl), h208, S215, M⟩
    replace M := ifn q165 M
    refine cond_f rfl (bf q165 (by kernel_rfl)) ?_
    refine wp_region_lit ?_
    refine lv (d := 55) rfl rfl (by kernel_rfl) (e_move (v := .slice A19 x18.length c20) (by exact e26)) ?_
    refine lv (d := 56) rfl rfl (by kernel_rfl) (e_move (v := .int .u8 ((x1.getD ((x23).toNat) (0 : UInt8)).toNat : Int)) (by kernel_rfl)) ?_
    refine lve (d := 57) rfl rfl (by kernel_rfl) (new_blk (v := fun g_ => .slice (some ⟨g_, 0, none⟩) 1 1) (cs := #[.int .u8 ((x1.getD ((x23).toNat) (0 : UInt8)).toNat : Int)]) (t := 5) S28 (by kernel_rfl)) ?_
    rintro _ w216 ⟨g217, rfl, b218, S219, K220⟩
    replace h22 := h22.move (K220.at 0 rfl)
    obtain ⟨q221, M⟩ := chk M
    have S222 := S219.pull (F := F21) (Fr := [(is g217)]) 1 rfl rfl
    have S223 := S222.unit
    have S224 := S223.pull (F := F21) (Fr := [no, (is g217)]) 1 rfl rfl
    refine lve (d := 58) rfl rfl (by kernel_rfl) (e_append (d := tByte) (n := x18.length) (xs := x18) (cap := c20) (A := A19) (ys := [(x1.getD ((x23).toNat) (0 : UInt8))]) (A2 := (some ⟨g217, 0, none⟩)) (c2 := 1) (z := .int .u8 0) (bytes := 1) S224 Tryd.underlying22 (by kernel_rfl) rfl (by decide) (by kernel_rfl) rfl (by kernel_rfl) h22 (elsO_one1 rfl) (.inr (blk_news b218 rfl)) (show (x18.length + [(x1.getD ((x23).toNat) (0 : UInt8))].length) * 1 ≤ _ by first | omega | (simp only [List.length_cons, List.length_nil]; omega)) (by decide)) ?_
    rintro _ w225 ⟨A226, c227, F228, rfl, h229, S230, K231⟩
    replace b218 := K231.blk 0 rfl b218
    refine lv (d := 4) rfl rfl (by kernel_rfl) (e_assign (v := .slice A226 ((x18 ++ [(x1.getD ((x23).toNat) (0 : UInt8))]).length) c227) (by kernel_rfl)) ?_
    refine wpList_nil ?_
    refine inb_n ?_
    refine then_n ?_
    refine wp_region_lit ?_
    refine lv (d := 12) rfl rfl (by kernel_rfl) (e_move (v := .int .i64 x23) (by exact e27)) ?_
    refine lv (d := 13) rfl rfl (by kernel_rfl) (e_add (k := .i64) (a := x23) (b := 1) (by kernel_rfl) rfl) ?_
    refine lv (d := 5) rfl rfl (by kernel_rfl) (e_assign (v := .int .i64 (IntKind.i64.wrap (x23 + 1))) (by kernel_rfl)) ?_
    refine wpList_nil ?_
    refine then_n ?_
    have S232 := St.first (Fa := [F228]) (Fr := [(is g217)]) S230
    exact ⟨k33, (by omega), _, (x18 ++ [(x1.getD ((x23).toNat) (0 : UInt8))]), A226, c227, F228, (IntKind.i64.wrap (x23 + 1)), rfl, (by exact e24), (by exact e25), (by kernel_rfl), (by kernel_rfl), h229, S232, M⟩
  replace M := ifn q34 M
  refine cond_f rfl (bf q34 (by kernel_rfl)) ?_
  refine wp_exit ?_
  refine then_e ?_
  refine then_e ?_
  refine inb_hit ?_
  refine then_n ?_
  refine wp_seq ?_
  refine wp_region_lit ?_
  refine lv (d := 59) rfl rfl (by kernel_rfl) (e_move (v := .slice A19 x18.length c20) (by exact e26)) ?_
  refine lve (d := 60) rfl rfl (by kernel_rfl) (new_blk (v := fun g_ => .slice (some ⟨g_, 0, none⟩) 1 1) (cs := #[.int .u8 39]) (t := 5) S28 (by kernel_rfl)) ?_
  rintro _ w233 ⟨g234, rfl, b235, S236, K237⟩
  replace h22 := h22.move (K237.at 0 rfl)
  obtain ⟨q238, M⟩ := chk M
  have S239 := S236.pull (F := F21) (Fr := [(is g234)]) 1 rfl rfl
  have S240 := S239.unit
  have S241 := S240.pull (F := F21) (Fr := [no, (is g234)]) 1 rfl rfl
  refine lve (d := 61) rfl rfl (by kernel_rfl) (e_append (d := tByte) (n := x18.length) (xs := x18) (cap := c20) (A := A19) (ys := [(39 : UInt8)]) (A2 := (some ⟨g234, 0, none⟩)) (c2 := 1) (z := .int .u8 0) (bytes := 1) S241 Tryd.underlying22 (by kernel_rfl) rfl (by decide) (by kernel_rfl) rfl (by kernel_rfl) h22 (elsO_one1 rfl) (.inr (blk_news b235 rfl)) (show (x18.length + [(39 : UInt8)].length) * 1 ≤ _ by first | omega | (simp only [List.length_cons, List.length_nil]; omega)) (by decide)) ?_
  rintro _ w242 ⟨A243, c244, F245, rfl, h246, S247, K248⟩
  replace b235 := K248.blk 0 rfl b235
  refine lv (d := 2) rfl rfl (by kernel_rfl) (e_assign (v := .slice A243 ((x18 ++ [(39 : UInt8)]).length) c244) (by kernel_rfl)) ?_
  refine wpList_nil ?_
  refine then_n ?_
  refine wp_ret ?_
  obtain rfl := Option.some.inj M
  have S249 := St.first (Fa := [F245]) (Fr := [(is g234)]) S247
  exact ret1 rfl rfl  (show _ = .slice A243 ((x18 ++ [(39 : UInt8)]).length) c244 from (by kernel_rfl)) ⟨A243, c244, F245, H, rfl, h246, S249⟩

/-! spec_QuoteAtom -/
def spec_QuoteAtom.f (k : Nat) (x1 : List UInt8) : Option (List UInt8) := (if (x1.length : Int) > 100 then some [] else ((spec_IsPlain.f k x1).bind fun t8 => (if t8 = true then ((spec_l1copy.f x1).bind fun t15 => some t15) else ((spec_l1quoted.f k x1).bind fun t27 => some t27))))
theorem spec_QuoteAtom.calls (k : Nat) (w : World) (H : Hp) (x1 : List UInt8) (A2 : Option Addr) (c3 : Nat) (h4 : Rd tByte H A2 x1) (l5 : x1.length ≤ c3) (S : Own [] H w) (r : List UInt8) (M : spec_QuoteAtom.f k x1 = some r) :
    Calls Tryd.prog 4 #[.slice A2 x1.length c3] w (fun e e_w => ∃ (A_1 : Option Addr) (c_1 : Nat) (F_1 : Foot) (H_ : Hp), e = .returned (.slice A_1 r.length c_1) ∧ Row tByte 5 H_ (hp e_w) F_1 A_1 c_1 r ∧ St (anyOf []) H w [F_1] H_ e_w) := by
  rw [spec_QuoteAtom.f] at M
  refine enter (l := [.slice A2 x1.length c3]) 12 Tryd.func4 rfl rfl rfl ?_
  have S0_ := S.st
  refine wp_seq ?_
  refine wp_region_lit ?_
  refine lv (d := 2) rfl rfl (by kernel_rfl) (e_assign (v := .slice none 0 0) rfl) ?_
  refine wpList_nil ?_
  refine then_n ?_
  refine wp_seq ?_
  refine wp_seq ?_
  refine wp_region_lit ?_
  refine lv (d := 3) rfl rfl (by kernel_rfl) (e_move (v := .slice A2 x1.length c3) (by kernel_rfl)) ?_
  refine lv (d := 4) rfl rfl (by kernel_rfl) (e_len (A := A2) (n := x1.length) (c := c3) Tryd.underlying22 (by kernel_rfl)) ?_
  refine lv (d := 5) rfl rfl (by kernel_rfl) (e_gtr (k := .i64) (a := (x1.length : Int)) (b := 100) (by kernel_rfl) rfl) ?_
  refine wpList_nil ?_
  refine then_n ?_
  by_cases q6 : (x1.length : Int) > 100
  · replace M := ifp q6 M
    refine cond_t rfl (bt q6 (by kernel_rfl)) ?_
    refine wp_seq ?_
    refine wp_region_lit ?_
    refine lv (d := 2) rfl rfl (by kernel_rfl) (e_assign (v := .slice none 0 0) rfl) ?_
    refine wpList_nil ?_
    refine then_n ?_
    refine wp_ret ?_
    refine then_r ?_
    obtain rfl := Option.some.inj M
    have S7 := S0_.unit
    exact ret1 rfl rfl  (show _ = .slice none 0 0 from (by kernel_rfl)) ⟨none, 0, no, H, rfl, (Row.nil _ _ _ _ no), S7⟩
  replace M := ifn q6 M
  refine cond_f rfl (bf q6 (by kernel_rfl)) ?_
  refine wp_skip ?_
  refine then_n ?_
  refine wp_seq ?_
  refine wp_seq ?_
  refine wp_region_lit ?_
  refine lv (d := 6) rfl rfl (by kernel_rfl) (e_move (v := .slice A2 x1.length c3) (by kernel_rfl)) ?_
  obtain ⟨t8, u9, M⟩ := bnd M
  refine lcall (d := 7) rfl rfl (by kernel_rfl) (e_call (l := [.tmp 6]) (vs := [.slice A2 x1.length c3]) Tryd.func10 (by kernel_rfl) rfl (by kernel_rfl) rfl) (spec_IsPlain.calls k w H x1 A2 c3 h4 l5 S0_.own0 t8 u9) ?_
  rintro _ w10 ⟨rfl, C11⟩
  refine ⟨_, rfl, ?_⟩
  obtain ⟨S12, K13⟩ := S0_.still C11
  refine wpList_nil ?_
  refine then_n ?_
  by_cases q14 : t8 = true
  · replace M := ifp q14 M
    refine cond_t rfl (bvt q14 (by kernel_rfl)) ?_
    refine wp_seq ?_
    refine wp_region_lit ?_
    refine lv (d := 8) rfl rfl (by kernel_rfl) (e_move (v := .slice A2 x1.length c3) (by kernel_rfl)) ?_
    obtain ⟨t15, u16, M⟩ := bnd M
    refine lcall (d := 9) rfl rfl (by kernel_rfl) (e_call (l := [.tmp 8]) (vs := [.slice A2 x1.length c3]) Tryd.func11 (by kernel_rfl) rfl (by kernel_rfl) rfl) (spec_l1copy.calls w10 H x1 A2 c3 h4 l5 (St.own' (Fa := []) (Fr := []) S12) t15 u16) ?_
    rintro _ w17 ⟨A20, c21, F23, H18, rfl, h22, T19⟩
    refine ⟨_, rfl, ?_⟩
    obtain ⟨S24, K25⟩ := St.call (Fa := []) (Fr := []) S12 T19
    have E26 := T19.ext
    refine lv (d := 2) rfl rfl (by kernel_rfl) (e_assign (v := .slice A20 t15.length c21) (by kernel_rfl)) ?_
    refine wpList_nil ?_
    refine then_n ?_
    refine wp_ret ?_
    refine then_r ?_
    obtain rfl := Option.some.inj M
    exact ret1 rfl rfl  (show _ = .slice A20 t15.length c21 from (by kernel_rfl)) ⟨A20, c21, F23, H18, rfl, h22, S24⟩
  replace M := ifn q14 M
  refine cond_f rfl (bvf q14 (by kernel_rfl)) ?_
  refine wp_skip ?_
  refine then_n ?_
  refine wp_seq ?_
  refine wp_region_lit ?_
  refine lv (d := 10) rfl rfl (by kernel_rfl) (e_move (v := .slice A2 x1.length c3) (by kernel_rfl)) ?_
  obtain ⟨t27, u28, M⟩ := bnd M
  refine lcall (d := 11) rfl rfl (by kernel_rfl) (e_call (l := [.tmp 10]) (vs := [.slice A2 x1.length c3]) Tryd.func12 (by kernel_rfl) rfl (by kernel_rfl) rfl) (spec_l1quoted.calls k w10 H x1 A2 c3 h4 l5 (St.own' (Fa := []) (Fr := []) S12) t27 u28) ?_
  rintro _ w29 ⟨A32, c33, F35, H30, rfl, h34, T31⟩
  refine ⟨_, rfl, ?_⟩
  obtain ⟨S36, K37⟩ := St.call (Fa := []) (Fr := []) S12 T31
  have E38 := T31.ext
  refine lv (d := 2) rfl rfl (by kernel_rfl) (e_assign (v := .slice A32 t27.length c33) (by kernel_rfl)) ?_
  refine wpList_nil ?_
  refine then_n ?_
  refine wp_ret ?_
  obtain rfl := Option.some.inj M
  exact ret1 rfl rfl  (show _ = .slice A32 t27.length c33 from (by kernel_rfl)) ⟨A32, c33, F35, H30, rfl, h34, S36⟩

/-! impl_isSmall -/
def impl_isSmall.f (x1 : UInt8) : Option Bool := (if (x1.toNat : Int) ≥ 97 then some (decide ((x1.toNat : Int) ≤ 122)) else some false)
theorem impl_isSmall.calls (w : World) (H : Hp) (x1 : UInt8) (S : Own [] H w) (r : Bool) (M : impl_isSmall.f x1 = some r) :
    Calls Tryd.prog 20 #[.int .u8 (x1.toNat : Int)] w (fun e e_w => e = .returned (.bool r) ∧ Chg no w e_w) := by
  rw [impl_isSmall.f] at M
  refine enter (l := [.int .u8 (x1.toNat : Int)]) 9 Tryd.func20 rfl rfl rfl ?_
  have S0_ := S.st
  refine wp_seq ?_
  refine wp_region_lit ?_
  refine lv (d := 2) rfl rfl (by kernel_rfl) (e_assign (v := .bool false) rfl) ?_
  refine wpList_nil ?_
  refine then_n ?_
  refine wp_seq ?_
  refine wp_region_lit ?_
  refine lv (d := 3) rfl rfl (by kernel_rfl) (e_move (v := .int .u8 (x1.toNat : Int)) (by kernel_rfl)) ?_
  refine lv (d := 4) rfl rfl (by kernel_rfl) (e_geq (k := .u8) (a := (x1.toNat : Int)) (b := 97) (by kernel_rfl) rfl) ?_
  refine lv (d := 5) rfl rfl (by kernel_rfl) (e_move (v := .bool (decide ((x1.toNat : Int) ≥ 97))) (by kernel_rfl)) ?_
  by_cases q2 : (x1.toNat : Int) ≥ 97
  · replace M := ifp q2 M
    refine lvg (d := 6) (t := 5) rfl (by kernel_rfl) rfl (bt q2 (by kernel_rfl)) rfl (by kernel_rfl) (e_move (v := .int .u8 (x1.toNat : Int)) (by kernel_rfl)) ?_
    refine lvg (d := 7) (t := 5) rfl (by kernel_rfl) rfl (bt q2 (by kernel_rfl)) rfl (by kernel_rfl) (e_leq (k := .u8) (a := (x1.toNat : Int)) (b := 122) (by kernel_rfl) rfl) ?_
    refine lv (d := 8) rfl rfl (by kernel_rfl) (e_pick_t (v := .bool (decide ((x1.toNat : Int) ≤ 122))) (bt q2 (by kernel_rfl)) (by kernel_rfl)) ?_
    refine lv (d := 2) rfl rfl (by kernel_rfl) (e_assign (v := .bool (decide ((x1.toNat : Int) ≤ 122))) (by kernel_rfl)) ?_
    refine wpList_nil ?_
    refine then_n ?_
    refine wp_ret ?_
    obtain rfl := Option.some.inj M
    exact ret1 rfl rfl  (show _ = .bool (decide ((x1.toNat : Int) ≤ 122)) from (by kernel_rfl)) ⟨rfl, S0_.chg⟩
  replace M := ifn q2 M
  refine lskip (t := 5) (c := false) rfl (by kernel_rfl) rfl (bf q2 (by kernel_rfl)) rfl rfl ?_
  refine lskip (t := 5) (c := false) rfl (by kernel_rfl) rfl (bf q2 (by kernel_rfl)) rfl rfl ?_
  refine lv (d := 8) rfl rfl (by kernel_rfl) (e_pick_f (v := .bool false) (bf q2 (by kernel_rfl)) rfl) ?_
  refine lv (d := 2) rfl rfl (by kernel_rfl) (e_assign (v := .bool false) (by kernel_rfl)) ?_
  refine wpList_nil ?_
  refine then_n ?_
  refine wp_ret ?_
  obtain rfl := Option.some.inj M
  exact ret1 rfl rfl  (show _ = .bool false from (by kernel_rfl)) ⟨rfl, S0_.chg⟩

/-! impl_isLetter -/
def impl_isLetter.f (x1 : UInt8) : Option Bool := ((impl_isSmall.f x1).bind fun t2 => (if t2 = true then some true else (if (x1.toNat : Int) ≥ 65 then (if (x1.toNat : Int) ≤ 90 then some true else some (decide ((x1.toNat : Int) = 95))) else some (decide ((x1.toNat : Int) = 95)))))
theorem impl_isLetter.calls (w : World) (H : Hp) (x1 : UInt8) (S : Own [] H w) (r : Bool) (M : impl_isLetter.f x1 = some r) :
    Calls Tryd.prog 25 #[.int .u8 (x1.toNat : Int)] w (fun e e_w => e = .returned (.bool r) ∧ Chg no w e_w) := by
  rw [impl_isLetter.f] at M
  refine enter (l := [.int .u8 (x1.toNat : Int)]) 17 Tryd.func25 rfl rfl rfl ?_
  have S0_ := S.st
  refine wp_seq ?_
  refine wp_region_lit ?_
  refine lv (d := 2) rfl rfl (by kernel_rfl) (e_assign (v := .bool false) rfl) ?_
  refine wpList_nil ?_
  refine then_n ?_
  refine wp_seq ?_
  refine wp_region_lit ?_
  refine lv (d := 3) rfl rfl (by kernel_rfl) (e_move (v := .int .u8 (x1.toNat : Int)) (by kernel_rfl)) ?_
  obtain ⟨t2, u3, M⟩ := bnd M
  refine lcall (d := 4) rfl rfl (by kernel_rfl) (e_call (l := [.tmp 3]) (vs := [.int .u8 (x1.toNat : Int)]) Tryd.func20 (by kernel_rfl) rfl (by kernel_rfl) rfl) (impl_isSmall.calls w H x1  S0_.own0 t2 u3) ?_
  rintro _ w4 ⟨rfl, C5⟩
  refine ⟨_, rfl, ?_⟩
  obtain ⟨S6, K7⟩ := S0_.still C5
  refine lv (d := 5) rfl rfl (by kernel_rfl) (e_move (v := .bool t2) (by kernel_rfl)) ?_
  by_cases q8 : t2 = true
  · replace M := ifp q8 M
    refine lskip (t := 5) (c := true) rfl (by kernel_rfl) rfl (bvt q8 (by kernel_rfl)) rfl rfl ?_
    refine lskip (t := 5) (c := true) rfl (by kernel_rfl) rfl (bvt q8 (by kernel_rfl)) rfl rfl ?_
    refine lskip (t := 5) (c := true) rfl (by kernel_rfl) rfl (bvt q8 (by kernel_rfl)) rfl rfl ?_
    refine lskipu (t := 8) rfl (by kernel_rfl) rfl (by kernel_rfl) rfl ?_
    refine lskipu (t := 8) rfl (by kernel_rfl) rfl (by kernel_rfl) rfl ?_
    refine lskip (t := 5) (c := true) rfl (by kernel_rfl) rfl (bvt q8 (by kernel_rfl)) rfl rfl ?_
    refine lv (d := 12) rfl rfl (by kernel_rfl) (e_pick_t (v := .bool true) (bvt q8 (by kernel_rfl)) rfl) ?_
    refine lv (d := 13) rfl rfl (by kernel_rfl) (e_move (v := .bool true) (by kernel_rfl)) ?_
    refine lskip (t := 13) (c := true) rfl (by kernel_rfl) rfl (by kernel_rfl) rfl rfl ?_
    refine lskip (t := 13) (c := true) rfl (by kernel_rfl) rfl (by kernel_rfl) rfl rfl ?_
    refine lv (d := 16) rfl rfl (by kernel_rfl) (e_pick_t (v := .bool true) (by kernel_rfl) rfl) ?_
    refine lv (d := 2) rfl rfl (by kernel_rfl) (e_assign (v := .bool true) (by kernel_rfl)) ?_
    refine wpList_nil ?_
    refine then_n ?_
    refine wp_ret ?_
    obtain rfl := Option.some.inj M
    exact ret1 rfl rfl  (show _ = .bool true from (by kernel_rfl)) ⟨rfl, S6.chg⟩
  replace M := ifn q8 M
  refine lvg (d := 6) (t := 5) rfl (by kernel_rfl) rfl (bvf q8 (by kernel_rfl)) rfl (by kernel_rfl) (e_move (v := .int .u8 (x1.toNat : Int)) (by kernel_rfl)) ?_
  refine lvg (d := 7) (t := 5) rfl (by kernel_rfl) rfl (bvf q8 (by kernel_rfl)) rfl (by kernel_rfl) (e_geq (k := .u8) (a := (x1.toNat : Int)) (b := 65) (by kernel_rfl) rfl) ?_
  refine lvg (d := 8) (t := 5) rfl (by kernel_rfl) rfl (bvf q8 (by kernel_rfl)) rfl (by kernel_rfl) (e_move (v := .bool (decide ((x1.toNat : Int) ≥ 65))) (by kernel_rfl)) ?_
  by_cases q9 : (x1.toNat : Int) ≥ 65
  · replace M := ifp q9 M
    refine lvg (d := 9) (t := 8) rfl (by kernel_rfl) rfl (bt q9 (by kernel_rfl)) rfl (by kernel_rfl) (e_move (v := .int .u8 (x1.toNat : Int)) (by kernel_rfl)) ?_
    refine lvg (d := 10) (t := 8) rfl (by kernel_rfl) rfl (bt q9 (by kernel_rfl)) rfl (by kernel_rfl) (e_leq (k := .u8) (a := (x1.toNat : Int)) (b := 90) (by kernel_rfl) rfl) ?_
    refine lvg (d := 11) (t := 5) rfl (by kernel_rfl) rfl (bvf q8 (by kernel_rfl)) rfl (by kernel_rfl) (e_pick_t (v := .bool (decide ((x1.toNat : Int) ≤ 90))) (bt q9 (by kernel_rfl)) (by kernel_rfl)) ?_
    refine lv (d := 12) rfl rfl (by kernel_rfl) (e_pick_f (v := .bool (decide ((x1.toNat : Int) ≤ 90))) (bvf q8 (by kernel_rfl)) (by kernel_rfl)) ?_
    refine lv (d := 13) rfl rfl (by kernel_rfl) (e_move (v := .bool (decide ((x1.toNat : Int) ≤ 90))) (by kernel_rfl)) ?_
    by_cases q10 : (x1.toNat : Int) ≤ 90
    · replace M := ifp q10 M
      refine lskip (t := 13) (c := true) rfl (by kernel_rfl) rfl (bt q10 (by kernel_rfl)) rfl rfl ?_
      refine lskip (t := 13) (c := true) rfl (by kernel_rfl) rfl (bt q10 (by kernel_rfl)) rfl rfl ?_
      refine lv (d := 16) rfl rfl (by kernel_rfl) (e_pick_t (v := .bool true) (bt q10 (by kernel_rfl)) rfl) ?_
      refine lv (d := 2) rfl rfl (by kernel_rfl) (e_assign (v := .bool true) (by kernel_rfl)) ?_
      refine wpList_nil ?_
      refine then_n ?_
      refine wp_ret ?_
      obtain rfl := Option.some.inj M
      exact ret1 rfl rfl  (show _ = .bool true from (by kernel_rfl)) ⟨rfl, S6.chg⟩
    replace M := ifn q10 M
    refine lvg (d := 14) (t := 13) rfl (by kernel_rfl) rfl (bf q10 (by kernel_rfl)) rfl (by kernel_rfl) (e_move (v := .int .u8 (x1.toNat : Int)) (by kernel_rfl)) ?_
    refine lvg (d := 15) (t := 13) rfl (by kernel_rfl) rfl (bf q10 (by kernel_rfl)) rfl (by kernel_rfl) (e_eql (k := .u8) (a := (x1.toNat : Int)) (b := 95) (by kernel_rfl) rfl) ?_
    refine lv (d := 16) rfl rfl (by kernel_rfl) (e_pick_f (v := .bool (decide ((x1.toNat : Int) = 95))) (bf q10 (by kernel_rfl)) (by kernel_rfl)) ?_
    refine lv (d := 2) rfl rfl (by kernel_rfl) (e_assign (v := .bool (decide ((x1.toNat : Int) = 95))) (by kernel_rfl)) ?_
    refine wpList_nil ?_
    refine then_n ?_
    refine wp_ret ?_
    obtain rfl := Option.some.inj M
    exact ret1 rfl rfl  (show _ = .bool (decide ((x1.toNat : Int) = 95)) from (by kernel_rfl)) ⟨rfl, S6.chg⟩
  replace M := ifn q9 M
  refine lskip (t := 8) (c := false) rfl (by kernel_rfl) rfl (bf q9 (by kernel_rfl)) rfl rfl ?_
  refine lskip (t := 8) (c := false) rfl (by kernel_rfl) rfl (bf q9 (by kernel_rfl)) rfl rfl ?_
  refine lvg (d := 11) (t := 5) rfl (by kernel_rfl) rfl (bvf q8 (by kernel_rfl)) rfl (by kernel_rfl) (e_pick_f (v := .bool false) (bf q9 (by kernel_rfl)) rfl) ?_
  refine lv (d := 12) rfl rfl (by kernel_rfl) (e_pick_f (v := .bool false) (bvf q8 (by kernel_rfl)) (by kernel_rfl)) ?_
  refine lv (d := 13) rfl rfl (by kernel_rfl) (e_move (v := .bool false) (by kernel_rfl)) ?_
  refine lvg (d := 14) (t := 13) rfl (by kernel_rfl) rfl (by kernel_rfl) rfl (by kernel_rfl) (e_move (v := .int .u8 (x1.toNat : Int)) (by kernel_rfl)) ?_
  refine lvg (d := 15) (t := 13) rfl (by kernel_rfl) rfl (by kernel_rfl) rfl (by kernel_rfl) (e_eql (k := .u8) (a := (x1.toNat : Int)) (b := 95) (by kernel_rfl) rfl) ?_
  refine lv (d := 16) rfl rfl (by kernel_rfl) (e_pick_f (v := .bool (decide ((x1.toNat : Int) = 95))) (by kernel_rfl) (by kernel_rfl)) ?_
  refine lv (d := 2) rfl rfl (by kernel_rfl) (e_assign (v := .bool (decide ((x1.toNat : Int) = 95))) (by kernel_rfl)) ?_
  refine wpList_nil ?_
  refine then_n ?_
  refine wp_ret ?_
  obtain rfl := Option.some.inj M
  exact ret1 rfl rfl  (show _ = .bool (decide ((x1.toNat : Int) = 95)) from (by kernel_rfl)) ⟨rfl, S6.chg⟩

/-! impl_isDigit -/
def impl_isDigit.f (x1 : UInt8) : Option Bool := (if (x1.toNat : Int) ≥ 48 then some (decide ((x1.toNat : Int) ≤ 57)) else some false)
theorem impl_isDigit.calls (w : World) (H : Hp) (x1 : UInt8) (S : Own [] H w) (r : Bool) (M : impl_isDigit.f x1 = some r) :
    Calls Tryd.prog 26 #[.int .u8 (x1.toNat : Int)] w (fun e e_w => e = .returned (.bool r) ∧ Chg no w e_w) := by
  rw [impl_isDigit.f] at M
  refine enter (l := [.int .u8 (x1.toNat : Int)]) 9 Tryd.func26 rfl rfl rfl ?_
  have S0_ := S.st
  refine wp_seq ?_
  refine wp_region_lit ?_
  refine lv (d := 2) rfl rfl (by kernel_rfl) (e_assign (v := .bool false) rfl) ?_
  refine wpList_nil ?_
  refine then_n ?_
  refine wp_seq ?_
  refine wp_region_lit ?_
  refine lv (d := 3) rfl rfl (by kernel_rfl) (e_move (v := .int .u8 (x1.toNat : Int)) (by kernel_rfl)) ?_
  refine lv (d := 4) rfl rfl (by kernel_rfl) (e_geq (k := .u8) (a := (x1.toNat : Int)) (b := 48) (by kernel_rfl) rfl) ?_
  refine lv (d := 5) rfl rfl (by kernel_rfl) (e_move (v := .bool (decide ((x1.toNat : Int) ≥ 48))) (by kernel_rfl)) ?_
  by_cases q2 : (x1.toNat : Int) ≥ 48
  · replace M := ifp q2 M
    refine lvg (d := 6) (t := 5) rfl (by kernel_rfl) rfl (bt q2 (by kernel_rfl)) rfl (by kernel_rfl) (e_move (v := .int .u8 (x1.toNat : Int)) (by kernel_rfl)) ?_
    refine lvg (d := 7) (t := 5) rfl (by kernel_rfl) rfl (bt q2 (by kernel_rfl)) rfl (by kernel_rfl) (e_leq (k := .u8) (a := (x1.toNat : Int)) (b := 57) (by kernel_rfl) rfl) ?_
    refine lv (d := 8) rfl rfl (by kernel_rfl) (e_pick_t (v := .bool (decide ((x1.toNat : Int) ≤ 57))) (bt q2 (by kernel_rfl)) (by kernel_rfl)) ?_
    refine lv (d := 2) rfl rfl (by kernel_rfl) (e_assign (v := .bool (decide ((x1.toNat : Int) ≤ 57))) (by kernel_rfl)) ?_
    refine wpList_nil ?_
    refine then_n ?_
    refine wp_ret ?_
    obtain rfl := Option.some.inj M
    exact ret1 rfl rfl  (show _ = .bool (decide ((x1.toNat : Int) ≤ 57)) from (by kernel_rfl)) ⟨rfl, S0_.chg⟩
  replace M := ifn q2 M
  refine lskip (t := 5) (c := false) rfl (by kernel_rfl) rfl (bf q2 (by kernel_rfl)) rfl rfl ?_
  refine lskip (t := 5) (c := false) rfl (by kernel_rfl) rfl (bf q2 (by kernel_rfl)) rfl rfl ?_
  refine lv (d := 8) rfl rfl (by kernel_rfl) (e_pick_f (v := .bool false) (bf q2 (by kernel_rfl)) rfl) ?_
  refine lv (d := 2) rfl rfl (by kernel_rfl) (e_assign (v := .bool false) (by kernel_rfl)) ?_
  refine wpList_nil ?_
  refine then_n ?_
  refine wp_ret ?_
  obtain rfl := Option.some.inj M
  exact ret1 rfl rfl  (show _ = .bool false from (by kernel_rfl)) ⟨rfl, S0_.chg⟩

/-! impl_isAlnum -/
def impl_isAlnum.f (x1 : UInt8) : Option Bool := ((impl_isLetter.f x1).bind fun t2 => (if t2 = true then some true else ((impl_isDigit.f x1).bind fun t9 => some t9)))
theorem impl_isAlnum.calls (w : World) (H : Hp) (x1 : UInt8) (S : Own [] H w) (r : Bool) (M : impl_isAlnum.f x1 = some r) :
    Calls Tryd.prog 21 #[.int .u8 (x1.toNat : Int)] w (fun e e_w => e = .returned (.bool r) ∧ Chg no w e_w) := by
  rw [impl_isAlnum.f] at M
  refine enter (l := [.int .u8 (x1.toNat : Int)]) 9 Tryd.func21 rfl rfl rfl ?_
  have S0_ := S.st
  refine wp_seq ?_
  refine wp_region_lit ?_
  refine lv (d := 2) rfl rfl (by kernel_rfl) (e_assign (v := .bool false) rfl) ?_
  refine wpList_nil ?_
  refine then_n ?_
  refine wp_seq ?_
  refine wp_region_lit ?_
  refine lv (d := 3) rfl rfl (by kernel_rfl) (e_move (v := .int .u8 (x1.toNat : Int)) (by kernel_rfl)) ?_
  obtain ⟨t2, u3, M⟩ := bnd M
  refine lcall (d := 4) rfl rfl (by kernel_rfl) (e_call (l := [.tmp 3]) (vs := [.int .u8 (x1.toNat : Int)]) Tryd.func25 (by kernel_rfl) rfl (by kernel_rfl) rfl) (impl_isLetter.calls w H x1  S0_.own0 t2 u3) ?_
  rintro _ w4 ⟨rfl, C5⟩
  refine ⟨_, rfl, ?_⟩
  obtain ⟨S6, K7⟩ := S0_.still C5
  refine lv (d := 5) rfl rfl (by kernel_rfl) (e_move (v := .bool t2) (by kernel_rfl)) ?_
  by_cases q8 : t2 = true
  · replace M := ifp q8 M
    refine lskip (t := 5) (c := true) rfl (by kernel_rfl) rfl (bvt q8 (by kernel_rfl)) rfl rfl ?_
    refine lskip (t := 5) (c := true) rfl (by kernel_rfl) rfl (bvt q8 (by kernel_rfl)) rfl rfl ?_
    refine lv (d := 8) rfl rfl (by kernel_rfl) (e_pick_t (v := .bool true) (bvt q8 (by kernel_rfl)) rfl) ?_
    refine lv (d := 2) rfl rfl (by kernel_rfl) (e_assign (v := .bool true) (by kernel_rfl)) ?_
    refine wpList_nil ?_
    refine then_n ?_
    refine wp_ret ?_
    obtain rfl := Option.some.inj M
    exact ret1 rfl rfl  (show _ = .bool true from (by kernel_rfl)) ⟨rfl, S6.chg⟩
  replace M := ifn q8 M
  refine lvg (d := 6) (t := 5) rfl (by kernel_rfl) rfl (bvf q8 (by kernel_rfl)) rfl (by kernel_rfl) (e_move (v := .int .u8 (x1.toNat : Int)) (by kernel_rfl)) ?_
  obtain ⟨t9, u10, M⟩ := bnd M
  refine lcallg (d := 7) (t := 5) rfl (by kernel_rfl) rfl (bvf q8 (by kernel_rfl)) rfl (by kernel_rfl) (e_call (l := [.tmp 6]) (vs := [.int .u8 (x1.toNat : Int)]) Tryd.func26 (by kernel_rfl) rfl (by kernel_rfl) rfl) (impl_isDigit.calls w4 H x1  S6.own0 t9 u10) ?_
  rintro _ w11 ⟨rfl, C12⟩
  refine ⟨_, rfl, ?_⟩
  obtain ⟨S13, K14⟩ := S6.still C12
  refine lv (d := 8) rfl rfl (by kernel_rfl) (e_pick_f (v := .bool t9) (bvf q8 (by kernel_rfl)) (by kernel_rfl)) ?_
  refine lv (d := 2) rfl rfl (by kernel_rfl) (e_assign (v := .bool t9) (by kernel_rfl)) ?_
  refine wpList_nil ?_
  refine then_n ?_
  refine wp_ret ?_
  obtain rfl := Option.some.inj M
  exact ret1 rfl rfl  (show _ = .bool t9 from (by kernel_rfl)) ⟨rfl, S13.chg⟩

/-! impl_isSymbol -/
def impl_isSymbol.f (x1 : UInt8) : Option Bool := (if (x1.toNat : Int) = 43 then some true else (if (x1.toNat : Int) = 45 then some true else (if (x1.toNat : Int) = 42 then some true else (if (x1.toNat : Int) = 47 then some true else (if (x1.toNat : Int) = 92 then some true else (if (x1.toNat : Int) = 94 then some true else (if (x1.toNat : Int) = 60 then some true else (if (x1.toNat : Int) = 62 then some true else (if (x1.toNat : Int) = 61 then some true else (if (x1.toNat : Int) = 126 then some true else (if (x1.toNat : Int) = 58 then some true else (if (x1.toNat : Int) = 46 then some true else (if (x1.toNat : Int) = 63 then some true else (if (x1.toNat : Int) = 64 then some true else (if (x1.toNat : Int) = 35 then some true else (if (x1.toNat : Int) = 38 then some true else (if (x1.toNat : Int) = 36 then some true else some false)))))))))))))))))
theorem impl_isSymbol.calls (w : World) (H : Hp) (x1 : UInt8) (S : Own [] H w) (r : Bool) (M : impl_isSymbol.f x1 = some r) :
    Calls Tryd.prog 22 #[.int .u8 (x1.toNat : Int)] w (fun e e_w => e = .returned (.bool r) ∧ Chg no w e_w) := by
  rw [impl_isSymbol.f] at M
  refine enter (l := [.int .u8 (x1.toNat : Int)]) 22 Tryd.func22 rfl rfl rfl ?_
  have S0_ := S.st
  refine wp_seq ?_
  refine wp_region_lit ?_
  refine lv (d := 2) rfl rfl (by kernel_rfl) (e_assign (v := .bool false) rfl) ?_
  refine wpList_nil ?_
  refine then_n ?_
  refine wp_seq ?_
  refine wp_seq ?_
  refine wp_region_lit ?_
  refine lv (d := 3) rfl rfl (by kernel_rfl) (e_move (v := .int .u8 (x1.toNat : Int)) (by kernel_rfl)) ?_
  refine wpList_nil ?_
  refine then_n ?_
  refine wp_block ?_
  refine wp_seq ?_
  refine wp_seq ?_
  refine wp_region_lit ?_
  refine lv (d := 5) rfl rfl (by kernel_rfl) (e_eql (k := .u8) (a := (x1.toNat : Int)) (b := 43) (by kernel_rfl) rfl) ?_
  refine lv (d := 4) rfl rfl (by kernel_rfl) (e_assign (v := .bool (decide ((x1.toNat : Int) = 43))) (by kernel_rfl)) ?_
  refine wpList_nil ?_
  refine then_n ?_
  by_cases q2 : (x1.toNat : Int) = 43
  · replace M := ifp q2 M
    refine cond_t rfl (bt q2 (by kernel_rfl)) ?_
    refine wp_skip ?_
    refine then_n ?_
    refine cond_t rfl (bt q2 (by kernel_rfl)) ?_
    refine wp_seq ?_
    refine wp_region_lit ?_
    refine lv (d := 2) rfl rfl (by kernel_rfl) (e_assign (v := .bool true) rfl) ?_
    refine wpList_nil ?_
    refine then_n ?_
    refine wp_ret ?_
    refine inb_r ?_
    refine then_r ?_
    obtain rfl := Option.some.inj M
    exact ret1 rfl rfl  (show _ = .bool true from (by kernel_rfl)) ⟨rfl, S0_.chg⟩
  replace M := ifn q2 M
  refine cond_f rfl (bf q2 (by kernel_rfl)) ?_
  refine wp_seq ?_
  refine wp_region_lit ?_
  refine lv (d := 6) rfl rfl (by kernel_rfl) (e_eql (k := .u8) (a := (x1.toNat : Int)) (b := 45) (by kernel_rfl) rfl) ?_
  refine lv (d := 4) rfl rfl (by kernel_rfl) (e_assign (v := .bool (decide ((x1.toNat : Int) = 45))) (by kernel_rfl)) ?_
  refine wpList_nil ?_
  refine then_n ?_
  by_cases q3 : (x1.toNat : Int) = 45
  · replace M := ifp q3 M
    refine cond_t rfl (bt q3 (by kernel_rfl)) ?_
    refine wp_skip ?_
    refine then_n ?_
    refine cond_t rfl (bt q3 (by kernel_rfl)) ?_
    refine wp_seq ?_
    refine wp_region_lit ?_
    refine lv (d := 2) rfl rfl (by kernel_rfl) (e_assign (v := .bool true) rfl) ?_
    refine wpList_nil ?_
    refine then_n ?_
    refine wp_ret ?_
    refine inb_r ?_
    refine then_r ?_
    obtain rfl := Option.some.inj M
    exact ret1 rfl rfl  (show _ = .bool true from (by kernel_rfl)) ⟨rfl, S0_.chg⟩
  replace M := ifn q3 M
  refine cond_f rfl (bf q3 (by kernel_rfl)) ?_
  refine wp_seq ?_
  refine wp_region_lit ?_
  refine lv (d := 7) rfl rfl (by kernel_rfl) (e_eql (k := .u8) (a := (x1.toNat : Int)) (b := 42) (by kernel_rfl) rfl) ?_
  refine lv (d := 4) rfl rfl (by kernel_rfl) (e_assign (v := .bool (decide ((x1.toNat : Int) = 42))) (by kernel_rfl)) ?_
  refine wpList_nil ?_
  refine then_n ?_
  by_cases q4 : (x1.toNat : Int) = 42
  · replace M := ifp q4 M
    refine cond_t rfl (bt q4 (by kernel_rfl)) ?_
    refine wp_skip ?_
    refine then_n ?_
    refine cond_t rfl (bt q4 (by kernel_rfl)) ?_
    refine wp_seq ?_
    refine wp_region_lit ?_
    refine lv (d := 2) rfl rfl (by kernel_rfl) (e_assign (v := .bool true) rfl) ?_
    refine wpList_nil ?_
    refine then_n ?_
    refine wp_ret ?_
    refine inb_r ?_
    refine then_r ?_
    obtain rfl := Option.some.inj M
    exact ret1 rfl rfl  (show _ = .bool true from (by kernel_rfl)) ⟨rfl, S0_.chg⟩
  replace M := ifn q4 M
  refine cond_f rfl (bf q4 (by kernel_rfl)) ?_
  refine wp_seq ?_
  refine wp_region_lit ?_
  refine lv (d := 8) rfl rfl (by kernel_rfl) (e_eql (k := .u8) (a := (x1.toNat : Int)) (b := 47) (by kernel_rfl) rfl) ?_
  refine lv (d := 4) rfl rfl (by kernel_rfl) (e_assign (v := .bool (decide ((x1.toNat : Int) = 47))) (by kernel_rfl)) ?_
  refine wpList_nil ?_
  refine then_n ?_
  by_cases q5 : (x1.toNat : Int) = 47
  · replace M := ifp q5 M
    refine cond_t rfl (bt q5 (by kernel_rfl)) ?_
    refine wp_skip ?_
    refine then_n ?_
    refine cond_t rfl (bt q5 (by kernel_rfl)) ?_
    refine wp_seq ?_
    refine wp_region_lit ?_
    refine lv (d := 2) rfl rfl (by kernel_rfl) (e_assign (v := .bool true) rfl) ?_
    refine wpList_nil ?_
    refine then_n ?_
    refine wp_ret ?_
    refine inb_r ?_
    refine then_r ?_
    obtain rfl := Option.some.inj M
    exact ret1 rfl rfl  (show _ = .bool true from (by kernel_rfl)) ⟨rfl, S0_.chg⟩
  replace M := ifn q5 M
  refine cond_f rfl (bf q5 (by kernel_rfl)) ?_
  refine wp_seq ?_
  refine wp_region_lit ?_
  refine lv (d := 9) rfl rfl (by kernel_rfl) (e_eql (k := .u8) (a := (x1.toNat : Int)) (b := 92) (by kernel_rfl) rfl) ?_
  refine lv (d := 4) rfl rfl (by kernel_rfl) (e_assign (v := .bool (decide ((x1.toNat : Int) = 92))) (by kernel_rfl)) ?_
  refine wpList_nil ?_
  refine then_n ?_
  by_cases q6 : (x1.toNat : Int) = 92
  · replace M := ifp q6 M
    refine cond_t rfl (bt q6 (by kernel_rfl)) ?_
    refine wp_skip ?_
    refine then_n ?_
    refine cond_t rfl (bt q6 (by kernel_rfl)) ?_
    refine wp_seq ?_
    refine wp_region_lit ?_
    refine lv (d := 2) rfl rfl (by kernel_rfl) (e_assign (v := .bool true) rfl) ?_
    refine wpList_nil ?_
    refine then_n ?_
    refine wp_ret ?_
    refine inb_r ?_
    refine then_r ?_
    obtain rfl := Option.some.inj M
    exact ret1 rfl rfl  (show _ = .bool true from (by kernel_rfl)) ⟨rfl, S0_.chg⟩
  replace M := ifn q6 M
  refine cond_f rfl (bf q6 (by kernel_rfl)) ?_
  refine wp_seq ?_
  refine wp_region_lit ?_
  refine lv (d := 10) rfl rfl (by kernel_rfl) (e_eql (k := .u8) (a := (x1.toNat : Int)) (b := 94) (by kernel_rfl) rfl) ?_
  refine lv (d := 4) rfl rfl (by kernel_rfl) (e_assign (v := .bool (decide ((x1.toNat : Int) = 94))) (by kernel_rfl)) ?_
  refine wpList_nil ?_
  refine then_n ?_
  by_cases q7 : (x1.toNat : Int) = 94
  · replace M := ifp q7 M
    refine cond_t rfl (bt q7 (by kernel_rfl)) ?_
    refine wp_skip ?_
    refine then_n ?_
    refine cond_t rfl (bt q7 (by kernel_rfl)) ?_
    refine wp_seq ?_
    refine wp_region_lit ?_
    refine lv (d := 2) rfl rfl (by kernel_rfl) (e_assign (v := .bool true) rfl) ?_
    refine wpList_nil ?_
    refine then_n ?_
    refine wp_ret ?_
    refine inb_r ?_
    refine then_r ?_
    obtain rfl := Option.some.inj M
    exact ret1 rfl rfl  (show _ = .bool true from (by kernel_rfl)) ⟨rfl, S0_.chg⟩
  replace M := ifn q7 M
  refine cond_f rfl (bf q7 (by kernel_rfl)) ?_
  refine wp_seq ?_
  refine wp_region_lit ?_
  refine lv (d := 11) rfl rfl (by kernel_rfl) (e_eql (k := .u8) (a := (x1.toNat : Int)) (b := 60) (by kernel_rfl) rfl) ?_
  refine lv (d := 4) rfl rfl (by kernel_rfl) (e_assign (v := .bool (decide ((x1.toNat : Int) = 60))) (by kernel_rfl)) ?_
  refine wpList_nil ?_
  refine then_n ?_
  by_cases q8 : (x1.toNat : Int) = 60
  · replace M := ifp q8 M
    refine cond_t rfl (bt q8 (by kernel_rfl)) ?_
    refine wp_skip ?_
    refine then_n ?_
    refine cond_t rfl (bt q8 (by kernel_rfl)) ?_
    refine wp_seq ?_
    refine wp_region_lit ?_
    refine lv (d := 2) rfl rfl (by kernel_rfl) (e_assign (v := .bool true) rfl) ?_
    refine wpList_nil ?_
    refine then_n ?_
    refine wp_ret ?_
    refine inb_r ?_
    refine then_r ?_
    obtain rfl := Option.some.inj M
    exact ret1 rfl rfl  (show _ = .bool true from (by kernel_rfl)) ⟨rfl, S0_.chg⟩
  replace M := ifn q8 M
  refine cond_f rfl (bf q8 (by kernel_rfl)) ?_
  refine wp_seq ?_
  refine wp_region_lit ?_
  refine lv (d := 12) rfl rfl (by kernel_rfl) (e_eql (k := .u8) (a := (x1.toNat : Int)) (b := 62) (by kernel_rfl) rfl) ?_
  refine lv (d := 4) rfl rfl (by kernel_rfl) (e_assign (v := .bool (decide ((x1.toNat : Int) = 62))) (by kernel_rfl)) ?_
  refine wpList_nil ?_
  refine then_n ?_
  by_cases q9 : (x1.toNat : Int) = 62
  · replace M := ifp q9 M
    refine cond_t rfl (bt q9 (by kernel_rfl)) ?_
    refine wp_skip ?_
    refine then_n ?_
    refine cond_t rfl (bt q9 (by kernel_rfl)) ?_
    refine wp_seq ?_
    refine wp_region_lit ?_
    refine lv (d := 2) rfl rfl (by kernel_rfl) (e_assign (v := .bool true) rfl) ?_
    refine wpList_nil ?_
    refine then_n ?_
    refine wp_ret ?_
    refine inb_r ?_
    refine then_r ?_
    obtain rfl := Option.some.inj M
    exact ret1 rfl rfl  (show _ = .bool true from (by kernel_rfl)) ⟨rfl, S0_.chg⟩
  replace M := ifn q9 M
  refine cond_f rfl (bf q9 (by kernel_rfl)) ?_
  refine wp_seq ?_
  refine wp_region_lit ?_
  refine lv (d := 13) rfl rfl (by kernel_rfl) (e_eql (k := .u8) (a := (x1.toNat : Int)) (b := 61) (by kernel_rfl) rfl) ?_
  refine lv (d := 4) rfl rfl (by kernel_rfl) (e_assign (v := .bool (decide ((x1.toNat : Int) = 61))) (by kernel_rfl)) ?_
  refine wpList_nil ?_
  refine then_n ?_
  by_cases q10 : (x1.toNat : Int) = 61
  · replace M := ifp q10 M
    refine cond_t rfl (bt q10 (by kernel_rfl)) ?_
    refine wp_skip ?_
    refine then_n ?_
    refine cond_t rfl (bt q10 (by kernel_rfl)) ?_
    refine wp_seq ?_
    refine wp_region_lit ?_
    refine lv (d := 2) rfl rfl (by kernel_rfl) (e_assign (v := .bool true) rfl) ?_
    refine wpList_nil ?_
    refine then_n ?_
    refine wp_ret ?_
    refine inb_r ?_
    refine then_r ?_
    obtain rfl := Option.some.inj M
    exact ret1 rfl rfl  (show _ = .bool true from (by kernel_rfl)) ⟨rfl, S0_.chg⟩
  replace M := ifn q10 M
  refine cond_f rfl (bf q10 (by kernel_rfl)) ?_
  refine wp_seq ?_
  refine wp_region_lit ?_
  refine lv (d := 14) rfl rfl (by kernel_rfl) (e_eql (k := .u8) (a := (x1.toNat : Int)) (b := 126) (by kernel_rfl) rfl) ?_
  refine lv (d := 4) rfl rfl (by kernel_rfl) (e_assign (v := .bool (decide ((x1.toNat : Int) = 126))) (by kernel_rfl)) ?_
  refine wpList_nil ?_
  refine then_n ?_
  by_cases q11 : (x1.toNat : Int) = 126
  · replace M := ifp q11 M
    refine cond_t rfl (bt q11 (by kernel_rfl)) ?_
    refine wp_skip ?_
    refine then_n ?_
    refine cond_t rfl (bt q11 (by kernel_rfl)) ?_
    refine wp_seq ?_
    refine wp_region_lit ?_
    refine lv (d := 2) rfl rfl (by kernel_rfl) (e_assign (v := .bool true) rfl) ?_
    refine wpList_nil ?_
    refine then_n ?_
    refine wp_ret ?_
    refine inb_r ?_
    refine then_r ?_
    obtain rfl := Option.some.inj M
    exact ret1 rfl rfl  (show _ = .bool true from (by kernel_rfl)) ⟨rfl, S0_.chg⟩
  replace M := ifn q11 M
  refine cond_f rfl (bf q11 (by kernel_rfl)) ?_
  refine wp_seq ?_
  refine wp_region_lit ?_
  refine lv (d := 15) rfl rfl (by kernel_rfl) (e_eql (k := .u8) (a := (x1.toNat : Int)) (b := 58) (by kernel_rfl) rfl) ?_
  refine lv (d := 4) rfl rfl (by kernel_rfl) (e_assign (v := .bool (decide ((x1.toNat : Int) = 58))) (by kernel_rfl)) ?_
  refine wpList_nil ?_
  refine then_n ?_
  by_cases q12 : (x1.toNat : Int) = 58
  · replace M := ifp q12 M
    refine cond_t rfl (bt q12 (by kernel_rfl)) ?_
    refine wp_skip ?_
    refine then_n ?_
    refine cond_t rfl (bt q12 (by kernel_rfl)) ?_
    refine wp_seq ?_
    refine wp_region_lit ?_
    refine lv (d := 2) rfl rfl (by kernel_rfl) (e_assign (v := .bool true) rfl) ?_
    refine wpList_nil ?_
    refine then_n ?_
    refine wp_ret ?_
    refine inb_r ?_
    refine then_r ?_
    obtain rfl := Option.some.inj M
    exact ret1 rfl rfl  (show _ = .bool true from (by kernel_rfl)) ⟨rfl, S0_.chg⟩
  replace M := ifn q12 M
  refine cond_f rfl (bf q12 (by kernel_rfl)) ?_
  refine wp_seq ?_
  refine wp_region_lit ?_
  refine lv (d := 16) rfl rfl (by kernel_rfl) (e_eql (k := .u8) (a := (x1.toNat : Int)) (b := 46) (by kernel_rfl) rfl) ?_
  refine lv (d := 4) rfl rfl (by kernel_rfl) (e_assign (v := .bool (decide ((x1.toNat : Int) = 46))) (by kernel_rfl)) ?_
  refine wpList_nil ?_
  refine then_n ?_
  by_cases q13 : (x1.toNat : Int) = 46
  · replace M := ifp q13 M
    refine cond_t rfl (bt q13 (by kernel_rfl)) ?_
    refine wp_skip ?_
    refine then_n ?_
    refine cond_t rfl (bt q13 (by kernel_rfl)) ?_
    refine wp_seq ?_
    refine wp_region_lit ?_
    refine lv (d := 2) rfl rfl (by kernel_rfl) (e_assign (v := .bool true) rfl) ?_
    refine wpList_nil ?_
    refine then_n ?_
    refine wp_ret ?_
    refine inb_r ?_
    refine then_r ?_
    obtain rfl := Option.some.inj M
    exact ret1 rfl rfl  (show _ = .bool true from (by kernel_rfl)) ⟨rfl, S0_.chg⟩
  replace M := ifn q13 M
  refine cond_f rfl (bf q13 (by kernel_rfl)) ?_
  refine wp_seq ?_
  refine wp_region_lit ?_
  refine lv (d := 17) rfl rfl (by kernel_rfl) (e_eql (k := .u8) (a := (x1.toNat : Int)) (b := 63) (by kernel_rfl) rfl) ?_
  refine lv (d := 4) rfl rfl (by kernel_rfl) (e_assign (v := .bool (decide ((x1.toNat : Int) = 63))) (by kernel_rfl)) ?_
  refine wpList_nil ?_
  refine then_n ?_
  by_cases q14 : (x1.toNat : Int) = 63
  · replace M := ifp q14 M
    refine cond_t rfl (bt q14 (by kernel_rfl)) ?_
    refine wp_skip ?_
    refine then_n ?_
    refine cond_t rfl (bt q14 (by kernel_rfl)) ?_
    refine wp_seq ?_
    refine wp_region_lit ?_
    refine lv (d := 2) rfl rfl (by kernel_rfl) (e_assign (v := .bool true) rfl) ?_
    refine wpList_nil ?_
    refine then_n ?_
    refine wp_ret ?_
    refine inb_r ?_
    refine then_r ?_
    obtain rfl := Option.some.inj M
    exact ret1 rfl rfl  (show _ = .bool true from (by kernel_rfl)) ⟨rfl, S0_.chg⟩
  replace M := ifn q14 M
  refine cond_f rfl (bf q14 (by kernel_rfl)) ?_
  refine wp_seq ?_
  refine wp_region_lit ?_
  refine lv (d := 18) rfl rfl (by kernel_rfl) (e_eql (k := .u8) (a := (x1.toNat : Int)) (b := 64) (by kernel_rfl) rfl) ?_
  refine lv (d := 4) rfl rfl (by kernel_rfl) (e_assign (v := .bool (decide ((x1.toNat : Int) = 64))) (by kernel_rfl)) ?_
  refine wpList_nil ?_
  refine then_n ?_
  by_cases q15 : (x1.toNat : Int) = 64
  · replace M := ifp q15 M
    refine cond_t rfl (bt q15 (by kernel_rfl)) ?_
    refine wp_skip ?_
    refine then_n ?_
    refine cond_t rfl (bt q15 (by kernel_rfl)) ?_
    refine wp_seq ?_
    refine wp_region_lit ?_
    refine lv (d := 2) rfl rfl (by kernel_rfl) (e_assign (v := .bool true) rfl) ?_
    refine wpList_nil ?_
    refine then_n ?_
    refine wp_ret ?_
    refine inb_r ?_
    refine then_r ?_
    obtain rfl := Option.some.inj M
    exact ret1 rfl rfl  (show _ = .bool true from (by kernel_rfl)) ⟨rfl, S0_.chg⟩
  replace M := ifn q15 M
  refine cond_f rfl (bf q15 (by kernel_rfl)) ?_
  refine wp_seq ?_
  refine wp_region_lit ?_
  refine lv (d := 19) rfl rfl (by kernel_rfl) (e_eql (k := .u8) (a := (x1.toNat : Int)) (b := 35) (by kernel_rfl) rfl) ?_
  refine lv (d := 4) rfl rfl (by kernel_rfl) (e_assign (v := .bool (decide ((x1.toNat : Int) = 35))) (by kernel_rfl)) ?_
  refine wpList_nil ?_
  refine then_n ?_
  by_cases q16 : (x1.toNat : Int) = 35
  · replace M := ifp q16 M
    refine cond_t rfl (bt q16 (by kernel_rfl)) ?_
    refine wp_skip ?_
    refine then_n ?_
    refine cond_t rfl (bt q16 (by kernel_rfl)) ?_
    refine wp_seq ?_
    refine wp_region_lit ?_
    refine lv (d := 2) rfl rfl (by kernel_rfl) (e_assign (v := .bool true) rfl) ?_
    refine wpList_nil ?_
    refine then_n ?_
    refine wp_ret ?_
    refine inb_r ?_
    refine then_r ?_
    obtain rfl := Option.some.inj M
    exact ret1 rfl rfl  (show _ = .bool true from (by kernel_rfl)) ⟨rfl, S0_.chg⟩
  replace M := ifn q16 M
  refine cond_f rfl (bf q16 (by kernel_rfl)) ?_
  refine wp_seq ?_
  refine wp_region_lit ?_
  refine lv (d := 20) rfl rfl (by kernel_rfl) (e_eql (k := .u8) (a := (x1.toNat : Int)) (b := 38) (by kernel_rfl) rfl) ?_
  refine lv (d := 4) rfl rfl (by kernel_rfl) (e_assign (v := .bool (decide ((x1.toNat : Int) = 38))) (by kernel_rfl)) ?_
  refine wpList_nil ?_
  refine then_n ?_
  by_cases q17 : (x1.toNat : Int) = 38
  · replace M := ifp q17 M
    refine cond_t rfl (bt q17 (by kernel_rfl)) ?_
    refine wp_skip ?_
    refine then_n ?_
    refine cond_t rfl (bt q17 (by kernel_rfl)) ?_
    refine wp_seq ?_
    refine wp_region_lit ?_
    refine lv (d := 2) rfl rfl (by kernel_rfl) (e_assign (v := .bool true) rfl) ?_
    refine wpList_nil ?_
    refine then_n ?_
    refine wp_ret ?_
    refine inb_r ?_
    refine then_r ?_
    obtain rfl := Option.some.inj M
    exact ret1 rfl rfl  (show _ = .bool true from (by kernel_rfl)) ⟨rfl, S0_.chg⟩
  replace M := ifn q17 M
  refine cond_f rfl (bf q17 (by kernel_rfl)) ?_
  refine wp_region_lit ?_
  refine lv (d := 21) rfl rfl (by kernel_rfl) (e_eql (k := .u8) (a := (x1.toNat : Int)) (b := 36) (by kernel_rfl) rfl) ?_
  refine lv (d := 4) rfl rfl (by kernel_rfl) (e_assign (v := .bool (decide ((x1.toNat : Int) = 36))) (by kernel_rfl)) ?_
  refine wpList_nil ?_
  refine then_n ?_
  by_cases q18 : (x1.toNat : Int) = 36
  · replace M := ifp q18 M
    refine cond_t rfl (bt q18 (by kernel_rfl)) ?_
    refine wp_seq ?_
    refine wp_region_lit ?_
    refine lv (d := 2) rfl rfl (by kernel_rfl) (e_assign (v := .bool true) rfl) ?_
    refine wpList_nil ?_
    refine then_n ?_
    refine wp_ret ?_
    refine inb_r ?_
    refine then_r ?_
    obtain rfl := Option.some.inj M
    exact ret1 rfl rfl  (show _ = .bool true from (by kernel_rfl)) ⟨rfl, S0_.chg⟩
  replace M := ifn q18 M
  refine cond_f rfl (bf q18 (by kernel_rfl)) ?_
  refine wp_skip ?_
  refine inb_n ?_
  refine then_n ?_
  refine wp_seq ?_
  refine wp_region_lit ?_
  refine lv (d := 2) rfl rfl (by kernel_rfl) (e_assign (v := .bool false) rfl) ?_
  refine wpList_nil ?_
  refine then_n ?_
  refine wp_ret ?_
  obtain rfl := Option.some.inj M
  exact ret1 rfl rfl  (show _ = .bool false from (by kernel_rfl)) ⟨rfl, S0_.chg⟩

/-! impl_plain -/
def impl_plain.l2 : Nat → (List UInt8) → Int → Option Bool
  | 0, _, _ => none
  | k41 + 1, x1, x33 => (if x33 < (x1.length : Int) then (if 0 < (x1.length : Int) then ((impl_isSmall.f (x1.getD (0 : Int).toNat (0 : UInt8))).bind fun t44 => (if t44 = true then (if 0 ≤ x33 then ((impl_isAlnum.f (x1.getD (x33 : Int).toNat (0 : UInt8))).bind fun t52 => (if ¬ (t52 = true) then some false else ((impl_isSmall.f (x1.getD (0 : Int).toNat (0 : UInt8))).bind fun t59 => (if ¬ (t59 = true) then ((impl_isSymbol.f (x1.getD (x33 : Int).toNat (0 : UInt8))).bind fun t66 => (if ¬ (t66 = true) then some false else (impl_plain.l2 k41 x1 (IntKind.i64.wrap (x33 + 1))))) else (impl_plain.l2 k41 x1 (IntKind.i64.wrap (x33 + 1))))))) else none) else ((impl_isSmall.f (x1.getD (0 : Int).toNat (0 : UInt8))).bind fun t73 => (if ¬ (t73 = true) then (if 0 ≤ x33 then ((impl_isSymbol.f (x1.getD (x33 : Int).toNat (0 : UInt8))).bind fun t81 => (if ¬ (t81 = true) then some false else (impl_plain.l2 k41 x1 (IntKind.i64.wrap (x33 + 1))))) else none) else (impl_plain.l2 k41 x1 (IntKind.i64.wrap (x33 + 1))))))) else none) else some true)
def impl_plain.l3 : Nat → (List UInt8) → Int → Option Bool
  | 0, _, _ => none
  | k98 + 1, x1, x90 => (if x90 < (x1.length : Int) then (if 0 < (x1.length : Int) then ((impl_isSmall.f (x1.getD (0 : Int).toNat (0 : UInt8))).bind fun t101 => (if t101 = true then (if 0 ≤ x90 then ((impl_isAlnum.f (x1.getD (x90 : Int).toNat (0 : UInt8))).bind fun t109 => (if ¬ (t109 = true) then some false else ((impl_isSmall.f (x1.getD (0 : Int).toNat (0 : UInt8))).bind fun t116 => (if ¬ (t116 = true) then ((impl_isSymbol.f (x1.getD (x90 : Int).toNat (0 : UInt8))).bind fun t123 => (if ¬ (t123 = true) then some false else (impl_plain.l3 k98 x1 (IntKind.i64.wrap (x90 + 1))))) else (impl_plain.l3 k98 x1 (IntKind.i64.wrap (x90 + 1))))))) else none) else ((impl_isSmall.f (x1.getD (0 : Int).toNat (0 : UInt8))).bind fun t130 => (if ¬ (t130 = true) then (if 0 ≤ x90 then ((impl_isSymbol.f (x1.getD (x90 : Int).toNat (0 : UInt8))).bind fun t138 => (if ¬ (t138 = true) then some false else (impl_plain.l3 k98 x1 (IntKind.i64.wrap (x90 + 1))))) else none) else (impl_plain.l3 k98 x1 (IntKind.i64.wrap (x90 + 1))))))) else none) else some true)
def impl_plain.l1 (k : Nat) (x1 : List UInt8) (x18 : Bool) : Option Bool := (if x18 = true then some false else (if (x1.length : Int) > 100 then some false else (if (x1.length : Int) > 1 then (if 2 ≤ (x1.length : Int) then (if (x1.take (2 : Int).toNat) = ([47, 42] : List UInt8) then some false else (impl_plain.l2 k x1 0)) else none) else (impl_plain.l3 k x1 0))))
def impl_plain.l0 (k : Nat) (x1 : List UInt8) (x4 : Bool) : Option Bool := (if x4 = true then some true else (if x1 = ([] : List UInt8) then (impl_plain.l1 k x1 (decide (x1 = ([] : List UInt8)))) else (impl_plain.l1 k x1 (decide (x1 = ([46] : List UInt8))))))
def impl_plain.f (k : Nat) (x1 : List UInt8) : Option Bool := (if x1 = ([33] : List UInt8) then (impl_plain.l0 k x1 (decide (x1 = ([33] : List UInt8)))) else (if x1 = ([59] : List UInt8) then (impl_plain.l0 k x1 (decide (x1 = ([59] : List UInt8)))) else (if x1 = ([91, 93] : List UInt8) then (impl_plain.l0 k x1 (decide (x1 = ([91, 93] : List UInt8)))) else (impl_plain.l0 k x1 (decide (x1 = ([123, 125] : List UInt8)))))))
theorem impl_plain.calls (k : Nat) (w : World) (H : Hp) (x1 : List UInt8) (S : Own [] H w) (r : Bool) (M : impl_plain.f k x1 = some r) :
    Calls Tryd.prog 16 #[str x1] w (fun e e_w => e = .returned (.bool r) ∧ Chg no w e_w) := by
  rw [impl_plain.f] at M
  refine enter (l := [str x1]) 55 Tryd.func16 rfl rfl rfl ?_
  have S0_ := S.st
  refine wp_seq ?_
  refine wp_region_lit ?_
  refine lv (d := 2) rfl rfl (by kernel_rfl) (e_assign (v := .bool false) rfl) ?_
  refine wpList_nil ?_
  refine then_n ?_
  refine wp_seq ?_
  refine wp_seq ?_
  refine wp_region_lit ?_
  refine lv (d := 4) rfl rfl (by kernel_rfl) (e_move (v := str x1) (by kernel_rfl)) ?_
  refine wpList_nil ?_
  refine then_n ?_
  refine wp_block ?_
  refine wp_seq_cut (fun a11 w2 => ∃ (f3 : Nat → Value) (x4 : Bool), a11 = mk 55 f3 ∧ f3 0 = str x1 ∧ f3 4 = str x1 ∧ f3 5 = .bool x4 ∧ St (anyOf []) H w [] H w2 ∧ impl_plain.l0 k x1 x4 = some r) ?_ ?_
  · refine wp_seq ?_
    refine wp_region_lit ?_
    refine lv (d := 6) rfl rfl (by kernel_rfl) (e_seql (p := x1) (q := ([33] : List UInt8)) (by kernel_rfl) rfl) ?_
    refine lv (d := 5) rfl rfl (by kernel_rfl) (e_assign (v := .bool (decide (x1 = ([33] : List UInt8)))) (by kernel_rfl)) ?_
    refine wpList_nil ?_
    refine then_n ?_
    by_cases q12 : x1 = ([33] : List UInt8)
    · replace M := ifp q12 M
      refine cond_t rfl (bt q12 (by kernel_rfl)) ?_
      refine wp_skip ?_
      refine then_n ?_
      exact ⟨_, (decide (x1 = ([33] : List UInt8))), rfl, (by kernel_rfl), (by kernel_rfl), (by kernel_rfl), S0_, M⟩
    replace M := ifn q12 M
    refine cond_f rfl (bf q12 (by kernel_rfl)) ?_
    refine wp_seq ?_
    refine wp_region_lit ?_
    refine lv (d := 7) rfl rfl (by kernel_rfl) (e_seql (p := x1) (q := ([59] : List UInt8)) (by kernel_rfl) rfl) ?_
    refine lv (d := 5) rfl rfl (by kernel_rfl) (e_assign (v := .bool (decide (x1 = ([59] : List UInt8)))) (by kernel_rfl)) ?_
    refine wpList_nil ?_
    refine then_n ?_
    by_cases q13 : x1 = ([59] : List UInt8)
    · replace M := ifp q13 M
      refine cond_t rfl (bt q13 (by kernel_rfl)) ?_
      refine wp_skip ?_
      refine then_n ?_
      exact ⟨_, (decide (x1 = ([59] : List UInt8))), rfl, (by kernel_rfl), (by kernel_rfl), (by kernel_rfl), S0_, M⟩
    replace M := ifn q13 M
    refine cond_f rfl (bf q13 (by kernel_rfl)) ?_
    refine wp_seq ?_
    refine wp_region_lit ?_
    refine lv (d := 8) rfl rfl (by kernel_rfl) (e_seql (p := x1) (q := ([91, 93] : List UInt8)) (by kernel_rfl) rfl) ?_
    refine lv (d := 5) rfl rfl (by kernel_rfl) (e_assign (v := .bool (decide (x1 = ([91, 93] : List UInt8)))) (by kernel_rfl)) ?_
    refine wpList_nil ?_
    refine then_n ?_
    by_cases q14 : x1 = ([91, 93] : List UInt8)
    · replace M := ifp q14 M
      refine cond_t rfl (bt q14 (by kernel_rfl)) ?_
      refine wp_skip ?_
      refine then_n ?_
      exact ⟨_, (decide (x1 = ([91, 93] : List UInt8))), rfl, (by kernel_rfl), (by kernel_rfl), (by kernel_rfl), S0_, M⟩
    replace M := ifn q14 M
    refine cond_f rfl (bf q14 (by kernel_rfl)) ?_
    refine wp_region_lit ?_
    refine lv (d := 9) rfl rfl (by kernel_rfl) (e_seql (p := x1) (q := ([123, 125] : List UInt8)) (by kernel_rfl) rfl) ?_
    refine lv (d := 5) rfl rfl (by kernel_rfl) (e_assign (v := .bool (decide (x1 = ([123, 125] : List UInt8)))) (by kernel_rfl)) ?_
    refine wpList_nil ?_
    refine then_n ?_
    exact ⟨_, (decide (x1 = ([123, 125] : List UInt8))), rfl, (by kernel_rfl), (by kernel_rfl), (by kernel_rfl), S0_, M⟩
  clear M
  rintro a11 w2 ⟨f3, x4, rfl, e5, e6, e7, S8, M⟩
  rw [impl_plain.l0] at M
  by_cases q15 : x4 = true
  · replace M := ifp q15 M
    refine cond_t rfl (bvt q15 (by exact e7)) ?_
    refine wp_seq ?_
    refine wp_region_lit ?_
    refine lv (d := 2) rfl rfl (by kernel_rfl) (e_assign (v := .bool true) rfl) ?_
    refine wpList_nil ?_
    refine then_n ?_
    refine wp_ret ?_
    refine inb_r ?_
    refine then_r ?_
    obtain rfl := Option.some.inj M
    exact ret1 rfl rfl  (show _ = .bool true from (by kernel_rfl)) ⟨rfl, S8.chg⟩
  replace M := ifn q15 M
  refine cond_f rfl (bvf q15 (by exact e7)) ?_
  refine wp_seq_cut (fun a24 w16 => ∃ (f17 : Nat → Value) (x18 : Bool), a24 = mk 55 f17 ∧ f17 0 = str x1 ∧ f17 10 = .bool x18 ∧ St (anyOf []) H w [] H w16 ∧ impl_plain.l1 k x1 x18 = some r) ?_ ?_
  · refine wp_seq ?_
    refine wp_region_lit ?_
    refine lv (d := 11) rfl rfl (by kernel_rfl) (e_seql (p := x1) (q := ([] : List UInt8)) (by exact e6) rfl) ?_
    refine lv (d := 10) rfl rfl (by kernel_rfl) (e_assign (v := .bool (decide (x1 = ([] : List UInt8)))) (by kernel_rfl)) ?_
    refine wpList_nil ?_
    refine then_n ?_
    by_cases q25 : x1 = ([] : List UInt8)
    · replace M := ifp q25 M
      refine cond_t rfl (bt q25 (by kernel_rfl)) ?_
      refine wp_skip ?_
      refine then_n ?_
      exact ⟨_, (decide (x1 = ([] : List UInt8))), rfl, (by exact e5), (by kernel_rfl), S8, M⟩
    replace M := ifn q25 M
    refine cond_f rfl (bf q25 (by kernel_rfl)) ?_
    refine wp_region_lit ?_
    refine lv (d := 12) rfl rfl (by kernel_rfl) (e_seql (p := x1) (q := ([46] : List UInt8)) (by exact e6) rfl) ?_
    refine lv (d := 10) rfl rfl (by kernel_rfl) (e_assign (v := .bool (decide (x1 = ([46] : List UInt8)))) (by kernel_rfl)) ?_
    refine wpList_nil ?_
    refine then_n ?_
    exact ⟨_, (decide (x1 = ([46] : List UInt8))), rfl, (by exact e5), (by kernel_rfl), S8, M⟩
  clear M
  rintro a24 w16 ⟨f17, x18, rfl, e19, e20, S21, M⟩
  rw [impl_plain.l1] at M
  by_cases q26 : x18 = true
  · replace M := ifp q26 M
    refine cond_t rfl (bvt q26 (by exact e20)) ?_
    refine wp_seq ?_
    refine wp_region_lit ?_
    refine lv (d := 2) rfl rfl (by kernel_rfl) (e_assign (v := .bool false) rfl) ?_
    refine wpList_nil ?_
    refine then_n ?_
    refine wp_ret ?_
    refine inb_r ?_
    refine then_r ?_
    obtain rfl := Option.some.inj M
    exact ret1 rfl rfl  (show _ = .bool false from (by kernel_rfl)) ⟨rfl, S21.chg⟩
  replace M := ifn q26 M
  refine cond_f rfl (bvf q26 (by exact e20)) ?_
  refine wp_skip ?_
  refine inb_n ?_
  refine then_n ?_
  refine wp_seq ?_
  refine wp_seq ?_
  refine wp_region_lit ?_
  refine lv (d := 13) rfl rfl (by kernel_rfl) (e_move (v := str x1) (by exact e19)) ?_
  refine lv (d := 14) rfl rfl (by kernel_rfl) (e_slen (p := x1) Tryd.underlying9 (by kernel_rfl)) ?_
  refine lv (d := 15) rfl rfl (by kernel_rfl) (e_gtr (k := .i64) (a := (x1.length : Int)) (b := 100) (by kernel_rfl) rfl) ?_
  refine lv (d := 16) rfl rfl (by kernel_rfl) (e_move (v := .bool (decide ((x1.length : Int) > 100))) (by kernel_rfl)) ?_
  by_cases q27 : (x1.length : Int) > 100
  · replace M := ifp q27 M
    refine lskip (t := 16) (c := true) rfl (by kernel_rfl) rfl (bt q27 (by kernel_rfl)) rfl rfl ?_
    refine lskip (t := 16) (c := true) rfl (by kernel_rfl) rfl (bt q27 (by kernel_rfl)) rfl rfl ?_
    refine lskip (t := 16) (c := true) rfl (by kernel_rfl) rfl (bt q27 (by kernel_rfl)) rfl rfl ?_
    refine lskip (t := 16) (c := true) rfl (by kernel_rfl) rfl (bt q27 (by kernel_rfl)) rfl rfl ?_
    refine lskipu (t := 20) rfl (by kernel_rfl) rfl (by kernel_rfl) rfl ?_
    refine lskipu (t := 20) rfl (by kernel_rfl) rfl (by kernel_rfl) rfl ?_
    refine lskipu (t := 20) rfl (by kernel_rfl) rfl (by kernel_rfl) rfl ?_
    refine lskip (t := 16) (c := true) rfl (by kernel_rfl) rfl (bt q27 (by kernel_rfl)) rfl rfl ?_
    refine lv (d := 25) rfl rfl (by kernel_rfl) (e_pick_t (v := .bool true) (bt q27 (by kernel_rfl)) rfl) ?_
    refine wpList_nil ?_
    refine then_n ?_
    refine cond_t rfl (by kernel_rfl) ?_
    refine wp_seq ?_
    refine wp_region_lit ?_
    refine lv (d := 2) rfl rfl (by kernel_rfl) (e_assign (v := .bool false) rfl) ?_
    refine wpList_nil ?_
    refine then_n ?_
    refine wp_ret ?_
    refine then_r ?_
    obtain rfl := Option.some.inj M
    exact ret1 rfl rfl  (show _ = .bool false from (by kernel_rfl)) ⟨rfl, S21.chg⟩
  replace M := ifn q27 M
  refine lvg (d := 17) (t := 16) rfl (by kernel_rfl) rfl (bf q27 (by kernel_rfl)) rfl (by kernel_rfl) (e_move (v := str x1) (by exact e19)) ?_
  refine lvg (d := 18) (t := 16) rfl (by kernel_rfl) rfl (bf q27 (by kernel_rfl)) rfl (by kernel_rfl) (e_slen (p := x1) Tryd.underlying9 (by kernel_rfl)) ?_
  refine lvg (d := 19) (t := 16) rfl (by kernel_rfl) rfl (bf q27 (by kernel_rfl)) rfl (by kernel_rfl) (e_gtr (k := .i64) (a := (x1.length : Int)) (b := 1) (by kernel_rfl) rfl) ?_
  refine lvg (d := 20) (t := 16) rfl (by kernel_rfl) rfl (bf q27 (by kernel_rfl)) rfl (by kernel_rfl) (e_move (v := .bool (decide ((x1.length : Int) > 1))) (by kernel_rfl)) ?_
  by_cases q28 : (x1.length : Int) > 1
  · replace M := ifp q28 M
    refine lvg (d := 21) (t := 20) rfl (by kernel_rfl) rfl (bt q28 (by kernel_rfl)) rfl (by kernel_rfl) (e_move (v := str x1) (by exact e19)) ?_
    obtain ⟨q29, M⟩ := chk M
    refine lvg (d := 22) (t := 20) rfl (by kernel_rfl) rfl (bt q28 (by kernel_rfl)) rfl (by kernel_rfl) (e_sslice_h (p := x1) (b := 2) (k2 := .i64) Tryd.underlying9 (by kernel_rfl) rfl (by decide) q29) ?_
    refine lvg (d := 23) (t := 20) rfl (by kernel_rfl) rfl (bt q28 (by kernel_rfl)) rfl (by kernel_rfl) (e_seql (p := (x1.take (2 : Int).toNat)) (q := ([47, 42] : List UInt8)) (by kernel_rfl) rfl) ?_
    refine lvg (d := 24) (t := 16) rfl (by kernel_rfl) rfl (bf q27 (by kernel_rfl)) rfl (by kernel_rfl) (e_pick_t (v := .bool (decide ((x1.take (2 : Int).toNat) = ([47, 42] : List UInt8)))) (bt q28 (by kernel_rfl)) (by kernel_rfl)) ?_
    refine lv (d := 25) rfl rfl (by kernel_rfl) (e_pick_f (v := .bool (decide ((x1.take (2 : Int).toNat) = ([47, 42] : List UInt8)))) (bf q27 (by kernel_rfl)) (by kernel_rfl)) ?_
    refine wpList_nil ?_
    refine then_n ?_
    by_cases q30 : (x1.take (2 : Int).toNat) = ([47, 42] : List UInt8)
    · replace M := ifp q30 M
      refine cond_t rfl (bt q30 (by kernel_rfl)) ?_
      refine wp_seq ?_
      refine wp_region_lit ?_
      refine lv (d := 2) rfl rfl (by kernel_rfl) (e_assign (v := .bool false) rfl) ?_
      refine wpList_nil ?_
      refine then_n ?_
      refine wp_ret ?_
      refine then_r ?_
      obtain rfl := Option.some.inj M
      exact ret1 rfl rfl  (show _ = .bool false from (by kernel_rfl)) ⟨rfl, S21.chg⟩
    replace M := ifn q30 M
    refine cond_f rfl (bf q30 (by kernel_rfl)) ?_
    refine wp_skip ?_
    refine then_n ?_
    refine wp_seq ?_
    refine wp_seq ?_
    refine wp_region_lit ?_
    refine lv (d := 3) rfl rfl (by kernel_rfl) (e_assign (v := .int .i64 0) rfl) ?_
    refine wpList_nil ?_
    refine then_n ?_
    refine wp_block ?_
    refine wp_loop_g (fun k39 a40 w31 => ∃ (f32 : Nat → Value) (x33 : Int), a40 = mk 55 f32 ∧ f32 0 = str x1 ∧ f32 3 = .int .i64 x33 ∧ St (anyOf []) H w [] H w31 ∧ impl_plain.l2 k39 x1 x33 = some r) k ⟨_, 0, rfl, (by exact e19), (by kernel_rfl), S21, M⟩ ?_
    clear M
    rintro k39 a40 w31 ⟨f32, x33, rfl, e34, e35, S36, M⟩
    rcases k39 with _ | k41
    · rw [impl_plain.l2] at M
      cases M
    rw [impl_plain.l2] at M
    refine wp_seq ?_
    refine wp_seq ?_
    refine wp_region_lit ?_
    refine lv (d := 26) rfl rfl (by kernel_rfl) (e_move (v := .int .i64 x33) (by exact e35)) ?_
    refine lv (d := 27) rfl rfl (by kernel_rfl) (e_move (v := str x1) (by exact e34)) ?_
    refine lv (d := 28) rfl rfl (by kernel_rfl) (e_slen (p := x1) Tryd.underlying9 (by kernel_rfl)) ?_
    refine lv (d := 29) rfl rfl (by kernel_rfl) (e_lss (k := .i64) (a := x33) (b := (x1.length : Int)) (by kernel_rfl) (by kernel_rfl)) ?_
    refine wpList_nil ?_
    refine then_n ?_
    by_cases q42 : x33 < (x1.length : Int)
    · replace M := ifp q42 M
      refine cond_t rfl (bt q42 (by kernel_rfl)) ?_
      refine wp_skip ?_
      refine then_n ?_
      refine wp_seq ?_
      refine wp_block ?_
      refine wp_seq ?_
      refine wp_region_lit ?_
      refine lv (d := 32) rfl rfl (by kernel_rfl) (e_move (v := str x1) (by exact e34)) ?_
      obtain ⟨q43, M⟩ := chk M
      refine lv (d := 33) rfl rfl (by kernel_rfl) (e_sindex (p := x1) (i := 0) (k := .i64) Tryd.underlying9 (by kernel_rfl) rfl (by decide) q43) ?_
      obtain ⟨t44, u45, M⟩ := bnd M
      refine lcall (d := 34) rfl rfl (by kernel_rfl) (e_call (l := [.tmp 33]) (vs := [.int .u8 ((x1.getD (0 : Int).toNat (0 : UInt8)).toNat : Int)]) Tryd.func20 (by kernel_rfl) rfl (by kernel_rfl) rfl) (impl_isSmall.calls w31 H (x1.getD (0 : Int).toNat (0 : UInt8))  S36.own0 t44 u45) ?_
      rintro _ w46 ⟨rfl, C47⟩
      refine ⟨_, rfl, ?_⟩
      obtain ⟨S48, K49⟩ := S36.still C47
      refine lv (d := 35) rfl rfl (by kernel_rfl) (e_move (v := .bool t44) (by kernel_rfl)) ?_
      by_cases q50 : t44 = true
      · replace M := ifp q50 M
        refine lvg (d := 36) (t := 35) rfl (by kernel_rfl) rfl (bvt q50 (by kernel_rfl)) rfl (by kernel_rfl) (e_move (v := str x1) (by exact e34)) ?_
        refine lvg (d := 37) (t := 35) rfl (by kernel_rfl) rfl (bvt q50 (by kernel_rfl)) rfl (by kernel_rfl) (e_move (v := .int .i64 x33) (by exact e35)) ?_
        obtain ⟨q51, M⟩ := chk M
        refine lvg (d := 38) (t := 35) rfl (by kernel_rfl) rfl (bvt q50 (by kernel_rfl)) rfl (by kernel_rfl) (e_sindex (p := x1) (i := x33) (k := .i64) Tryd.underlying9 (by kernel_rfl) (by kernel_rfl) q51 q42) ?_
        obtain ⟨t52, u53, M⟩ := bnd M
        refine lcallg (d := 39) (t := 35) rfl (by kernel_rfl) rfl (bvt q50 (by kernel_rfl)) rfl (by kernel_rfl) (e_call (l := [.tmp 38]) (vs := [.int .u8 ((x1.getD (x33 : Int).toNat (0 : UInt8)).toNat : Int)]) Tryd.func21 (by kernel_rfl) rfl (by kernel_rfl) rfl) (impl_isAlnum.calls w46 H (x1.getD (x33 : Int).toNat (0 : UInt8))  S48.own0 t52 u53) ?_
        rintro _ w54 ⟨rfl, C55⟩
        refine ⟨_, rfl, ?_⟩
        obtain ⟨S56, K57⟩ := S48.still C55
        refine lvg (d := 40) (t := 35) rfl (by kernel_rfl) rfl (bvt q50 (by kernel_rfl)) rfl (by kernel_rfl) (e_notv (c := t52) (by kernel_rfl)) ?_
        refine lv (d := 41) rfl rfl (by kernel_rfl) (e_pick_t (v := .bool (decide (¬ (t52 = true)))) (bvt q50 (by kernel_rfl)) (by kernel_rfl)) ?_
        refine lv (d := 42) rfl rfl (by kernel_rfl) (e_move (v := .bool (decide (¬ (t52 = true)))) (by kernel_rfl)) ?_
        by_cases q58 : ¬ (t52 = true)
        · replace M := ifp q58 M
          refine lskip (t := 42) (c := true) rfl (by kernel_rfl) rfl (bt q58 (by kernel_rfl)) rfl rfl ?_
          refine lskip (t := 42) (c := true) rfl (by kernel_rfl) rfl (bt q58 (by kernel_rfl)) rfl rfl ?_
          refine lskip (t := 42) (c := true) rfl (by kernel_rfl) rfl (bt q58 (by kernel_rfl)) rfl rfl ?_
          refine lskip (t := 42) (c := true) rfl (by kernel_rfl) rfl (bt q58 (by kernel_rfl)) rfl rfl ?_
          refine lskip (t := 42) (c := true) rfl (by kernel_rfl) rfl (bt q58 (by kernel_rfl)) rfl rfl ?_
          refine lskipu (t := 47) rfl (by kernel_rfl) rfl (by kernel_rfl) rfl ?_
          refine lskipu (t := 47) rfl (by kernel_rfl) rfl (by kernel_rfl) rfl ?_
          refine lskipu (t := 47) rfl (by kernel_rfl) rfl (by kernel_rfl) rfl ?_
          refine lskipu (t := 47) rfl (by kernel_rfl) rfl (by kernel_rfl) rfl ?_
          refine lskipu (t := 47) rfl (by kernel_rfl) rfl (by kernel_rfl) rfl ?_
          refine lskip (t := 42) (c := true) rfl (by kernel_rfl) rfl (bt q58 (by kernel_rfl)) rfl rfl ?_
          refine lv (d := 54) rfl rfl (by kernel_rfl) (e_pick_t (v := .bool true) (bt q58 (by kernel_rfl)) rfl) ?_
          refine wpList_nil ?_
          refine then_n ?_
          refine cond_t rfl (by kernel_rfl) ?_
          refine wp_seq ?_
          refine wp_region_lit ?_
          refine lv (d := 2) rfl rfl (by kernel_rfl) (e_assign (v := .bool false) rfl) ?_
          refine wpList_nil ?_
          refine then_n ?_
          refine wp_ret ?_
          refine inb_r ?_
          refine then_r ?_
          refine then_r ?_
          refine inb_r ?_
          refine then_r ?_
          obtain rfl := Option.some.inj M
          exact ret1 rfl rfl  (show _ = .bool false from (by kernel_rfl)) ⟨rfl, S56.chg⟩
        replace M := ifn q58 M
        refine lvg (d := 43) (t := 42) rfl (by kernel_rfl) rfl (bf q58 (by kernel_rfl)) rfl (by kernel_rfl) (e_move (v := str x1) (by exact e34)) ?_
        refine lvg (d := 44) (t := 42) rfl (by kernel_rfl) rfl (bf q58 (by kernel_rfl)) rfl (by kernel_rfl) (e_sindex (p := x1) (i := 0) (k := .i64) Tryd.underlying9 (by kernel_rfl) rfl (by decide) q43) ?_
        obtain ⟨t59, u60, M⟩ := bnd M
        refine lcallg (d := 45) (t := 42) rfl (by kernel_rfl) rfl (bf q58 (by kernel_rfl)) rfl (by kernel_rfl) (e_call (l := [.tmp 44]) (vs := [.int .u8 ((x1.getD (0 : Int).toNat (0 : UInt8)).toNat : Int)]) Tryd.func20 (by kernel_rfl) rfl (by kernel_rfl) rfl) (impl_isSmall.calls w54 H (x1.getD (0 : Int).toNat (0 : UInt8))  S56.own0 t59 u60) ?_
        rintro _ w61 ⟨rfl, C62⟩
        refine ⟨_, rfl, ?_⟩
        obtain ⟨S63, K64⟩ := S56.still C62
        refine lvg (d := 46) (t := 42) rfl (by kernel_rfl) rfl (bf q58 (by kernel_rfl)) rfl (by kernel_rfl) (e_notv (c := t59) (by kernel_rfl)) ?_
        refine lvg (d := 47) (t := 42) rfl (by kernel_rfl) rfl (bf q58 (by kernel_rfl)) rfl (by kernel_rfl) (e_move (v := .bool (decide (¬ (t59 = true)))) (by kernel_rfl)) ?_
        by_cases q65 : ¬ (t59 = true)
        · replace M := ifp q65 M
          refine lvg (d := 48) (t := 47) rfl (by kernel_rfl) rfl (bt q65 (by kernel_rfl)) rfl (by kernel_rfl) (e_move (v := str x1) (by exact e34)) ?_
          refine lvg (d := 49) (t := 47) rfl (by kernel_rfl) rfl (bt q65 (by kernel_rfl)) rfl (by kernel_rfl) (e_move (v := .int .i64 x33) (by exact e35)) ?_
          refine lvg (d := 50) (t := 47) rfl (by kernel_rfl) rfl (bt q65 (by kernel_rfl)) rfl (by kernel_rfl) (e_sindex (p := x1) (i := x33) (k := .i64) Tryd.underlying9 (by kernel_rfl) (by kernel_rfl) q51 q42) ?_
          obtain ⟨t66, u67, M⟩ := bnd M
          refine lcallg (d := 51) (t := 47) rfl (by kernel_rfl) rfl (bt q65 (by kernel_rfl)) rfl (by kernel_rfl) (e_call (l := [.tmp 50]) (vs := [.int .u8 ((x1.getD (x33 : Int).toNat (0 : UInt8)).toNat : Int)]) Tryd.func22 (by kernel_rfl) rfl (by kernel_rfl) rfl) (impl_isSymbol.calls w61 H (x1.getD (x33 : Int).toNat (0 : UInt8))  S63.own0 t66 u67) ?_
          rintro _ w68 ⟨rfl, C69⟩
          refine ⟨_, rfl, ?_⟩
          obtain ⟨S70, K71⟩ := S63.still C69
          refine lvg (d := 52) (t := 47) rfl (by kernel_rfl) rfl (bt q65 (by kernel_rfl)) rfl (by kernel_rfl) (e_notv (c := t66) (by kernel_rfl)) ?_
          refine lvg (d := 53) (t := 42) rfl (by kernel_rfl) rfl (bf q58 (by kernel_rfl)) rfl (by kernel_rfl) (e_pick_t (v := .bool (decide (¬ (t66 = true)))) (bt q65 (by kernel_rfl)) (by kernel_rfl)) ?_
          refine lv (d := 54) rfl rfl (by kernel_rfl) (e_pick_f (v := .bool (decide (¬ (t66 = true)))) (bf q58 (by kernel_rfl)) (by kernel_rfl)) ?_
          refine wpList_nil ?_
          refine then_n ?_
          by_cases q72 : ¬ (t66 = true)
          · replace M := ifp q72 M
            refine cond_t rfl (bt q72 (by kernel_rfl)) ?_
            refine wp_seq ?_
            refine wp_region_lit ?_
            refine lv (d := 2) rfl rfl (by kernel_rfl) (e_assign (v := .bool false) rfl) ?_
            refine wpList_nil ?_
            refine then_n ?_
            refine wp_ret ?_
            refine inb_r ?_
            refine then_r ?_
            refine then_r ?_
            refine inb_r ?_
            refine then_r ?_
            obtain rfl := Option.some.inj M
            exact ret1 rfl rfl  (show _ = .bool false from (by kernel_rfl)) ⟨rfl, S70.chg⟩
          replace M := ifn q72 M
          refine cond_f rfl (bf q72 (by kernel_rfl)) ?_
          refine wp_skip ?_
          refine inb_n ?_
          refine then_n ?_
          refine wp_region_lit ?_
          refine lv (d := 30) rfl rfl (by kernel_rfl) (e_move (v := .int .i64 x33) (by exact e35)) ?_
          refine lv (d := 31) rfl rfl (by kernel_rfl) (e_add (k := .i64) (a := x33) (b := 1) (by kernel_rfl) rfl) ?_
          refine lv (d := 3) rfl rfl (by kernel_rfl) (e_assign (v := .int .i64 (IntKind.i64.wrap (x33 + 1))) (by kernel_rfl)) ?_
          refine wpList_nil ?_
          refine then_n ?_
          exact ⟨k41, (by omega), _, (IntKind.i64.wrap (x33 + 1)), rfl, (by exact e34), (by kernel_rfl), S70, M⟩
        replace M := ifn q65 M
        refine lskip (t := 47) (c := false) rfl (by kernel_rfl) rfl (bf q65 (by kernel_rfl)) rfl rfl ?_
        refine lskip (t := 47) (c := false) rfl (by kernel_rfl) rfl (bf q65 (by kernel_rfl)) rfl rfl ?_
        refine lskip (t := 47) (c := false) rfl (by kernel_rfl) rfl (bf q65 (by kernel_rfl)) rfl rfl ?_
        refine lskip (t := 47) (c := false) rfl (by kernel_rfl) rfl (bf q65 (by kernel_rfl)) rfl rfl ?_
        refine lskip (t := 47) (c := false) rfl (by kernel_rfl) rfl (bf q65 (by kernel_rfl)) rfl rfl ?_
        refine lvg (d := 53) (t := 42) rfl (by kernel_rfl) rfl (bf q58 (by kernel_rfl)) rfl (by kernel_rfl) (e_pick_f (v := .bool false) (bf q65 (by kernel_rfl)) rfl) ?_
        refine lv (d := 54) rfl rfl (by kernel_rfl) (e_pick_f (v := .bool false) (bf q58 (by kernel_rfl)) (by kernel_rfl)) ?_
        refine wpList_nil ?_
        refine then_n ?_
        refine cond_f rfl (by kernel_rfl) ?_
        refine wp_skip ?_
        refine inb_n ?_
        refine then_n ?_
        refine wp_region_lit ?_
        refine lv (d := 30) rfl rfl (by kernel_rfl) (e_move (v := .int .i64 x33) (by exact e35)) ?_
        refine lv (d := 31) rfl rfl (by kernel_rfl) (e_add (k := .i64) (a := x33) (b := 1) (by kernel_rfl) rfl) ?_
        refine lv (d := 3) rfl rfl (by kernel_rfl) (e_assign (v := .int .i64 (IntKind.i64.wrap (x33 + 1))) (by kernel_rfl)) ?_
        refine wpList_nil ?_
        refine then_n ?_
        exact ⟨k41, (by omega), _, (IntKind.i64.wrap (x33 + 1)), rfl, (by exact e34), (by kernel_rfl), S63, M⟩
      replace M := ifn q50 M
      refine lskip (t := 35) (c := false) rfl (by kernel_rfl) rfl (bvf q50 (by kernel_rfl)) rfl rfl ?_
      refine lskip (t := 35) (c := false) rfl (by kernel_rfl) rfl (bvf q50 (by kernel_rfl)) rfl rfl ?_
      refine lskip (t := 35) (c := false) rfl (by kernel_rfl) rfl (bvf q50 (by kernel_rfl)) rfl rfl ?_
      refine lskip (t := 35) (c := false) rfl (by kernel_rfl) rfl (bvf q50 (by kernel_rfl)) rfl rfl ?_
      refine lskip (t := 35) (c := false) rfl (by kernel_rfl) rfl (bvf q50 (by kernel_rfl)) rfl rfl ?_
      refine lv (d := 41) rfl rfl (by kernel_rfl) (e_pick_f (v := .bool false) (bvf q50 (by kernel_rfl)) rfl) ?_
      refine lv (d := 42) rfl rfl (by kernel_rfl) (e_move (v := .bool false) (by kernel_rfl)) ?_
      refine lvg (d := 43) (t := 42) rfl (by kernel_rfl) rfl (by kernel_rfl) rfl (by kernel_rfl) (e_move (v := str x1) (by exact e34)) ?_
      refine lvg (d := 44) (t := 42) rfl (by kernel_rfl) rfl (by kernel_rfl) rfl (by kernel_rfl) (e_sindex (p := x1) (i := 0) (k := .i64) Tryd.underlying9 (by kernel_rfl) rfl (by decide) q43) ?_
      obtain ⟨t73, u74, M⟩ := bnd M
      refine lcallg (d := 45) (t := 42) rfl (by kernel_rfl) rfl (by kernel_rfl) rfl (by kernel_rfl) (e_call (l := [.tmp 44]) (vs := [.int .u8 ((x1.getD (0 : Int).toNat (0 : UInt8)).toNat : Int)]) Tryd.func20 (by kernel_rfl) rfl (by kernel_rfl) rfl) (impl_isSmall.calls w46 H (x1.getD (0 : Int).toNat (0 : UInt8))  S48.own0 t73 u74) ?_
      rintro _ w75 ⟨rfl, C76⟩
      refine ⟨_, rfl, ?_⟩
      obtain ⟨S77, K78⟩ := S48.still C76
      refine lvg (d := 46) (t := 42) rfl (by kernel_rfl) rfl (by kernel_rfl) rfl (by kernel_rfl) (e_notv (c := t73) (by kernel_rfl)) ?_
      refine lvg (d := 47) (t := 42) rfl (by kernel_rfl) rfl (by kernel_rfl) rfl (by kernel_rfl) (e_move (v := .bool (decide (¬ (t73 = true)))) (by kernel_rfl)) ?_
      by_cases q79 : ¬ (t73 = true)
      · replace M := ifp q79 M
        refine lvg (d := 48) (t := 47) rfl (by kernel_rfl) rfl (bt q79 (by kernel_rfl)) rfl (by kernel_rfl) (e_move (v := str x1) (by exact e34)) ?_
        refine lvg (d := 49) (t := 47) rfl (by kernel_rfl) rfl (bt q79 (by kernel_rfl)) rfl (by kernel_rfl) (e_move (v := .int .i64 x33) (by exact e35)) ?_
        obtain ⟨q80, M⟩ := chk M
        refine lvg (d := 50) (t := 47) rfl (by kernel_rfl) rfl (bt q79 (by kernel_rfl)) rfl (by kernel_rfl) (e_sindex (p := x1) (i := x33) (k := .i64) Tryd.underlying9 (by kernel_rfl) (by kernel_rfl) q80 q42) ?_
        obtain ⟨t81, u82, M⟩ := bnd M
        refine lcallg (d := 51) (t := 47) rfl (by kernel_rfl) rfl (bt q79 (by kernel_rfl)) rfl (by kernel_rfl) (e_call (l := [.tmp 50]) (vs := [.int .u8 ((x1.getD (x33 : Int).toNat (0 : UInt8)).toNat : Int)]) Tryd.func22 (by kernel_rfl) rfl (by kernel_rfl) rfl) (impl_isSymbol.calls w75 H (x1.getD (x33 : Int).toNat (0 : UInt8))  S77.own0 t81 u82) ?_
        rintro _ w83 ⟨rfl, C84⟩
        refine ⟨_, rfl, ?_⟩
        obtain ⟨S85, K86⟩ := S77.still C84
        refine lvg (d := 52) (t := 47) rfl (by kernel_rfl) rfl (bt q79 (by kernel_rfl)) rfl (by kernel_rfl) (e_notv (c := t81) (by kernel_rfl)) ?_
        refine lvg (d := 53) (t := 42) rfl (by kernel_rfl) rfl (by kernel_rfl) rfl (by kernel_rfl) (e_pick_t (v := .bool (decide (¬ (t81 = true)))) (bt q79 (by kernel_rfl)) (by kernel_rfl)) ?_
        refine lv (d := 54) rfl rfl (by kernel_rfl) (e_pick_f (v := .bool (decide (¬ (t81 = true)))) (by kernel_rfl) (by kernel_rfl)) ?_
        refine wpList_nil ?_
        refine then_n ?_
        by_cases q87 : ¬ (t81 = true)
        · replace M := ifp q87 M
          refine cond_t rfl (bt q87 (by kernel_rfl)) ?_
          refine wp_seq ?_
          refine wp_region_lit ?_
          refine lv (d := 2) rfl rfl (by kernel_rfl) (e_assign (v := .bool false) rfl) ?_
          refine wpList_nil ?_
          refine then_n ?_
          refine wp_ret ?_
          refine inb_r ?_
          refine then_r ?_
          refine then_r ?_
          refine inb_r ?_
          refine then_r ?_
          obtain rfl := Option.some.inj M
          exact ret1 rfl rfl  (show _ = .bool false from (by kernel_rfl)) ⟨rfl, S85.chg⟩
        replace M := ifn q87 M
        refine cond_f rfl (bf q87 (by kernel_rfl)) ?_
        refine wp_skip ?_
        refine inb_n ?_
        refine then_n ?_
        refine wp_region_lit ?_
        refine lv (d := 30) rfl rfl (by kernel_rfl) (e_move (v := .int .i64 x33) (by exact e35)) ?_
        refine lv (d := 31) rfl rfl (by kernel_rfl) (e_add (k := .i64) (a := x33) (b := 1) (by kernel_rfl) rfl) ?_
        refine lv (d := 3) rfl rfl (by kernel_rfl) (e_assign (v := .int .i64 (IntKind.i64.wrap (x33 + 1))) (by kernel_rfl)) ?_
        refine wpList_nil ?_
        refine then_n ?_
        exact ⟨k41, (by omega), _, (IntKind.i64.wrap (x33 + 1)), rfl, (by exact e34), (by kernel_rfl), S85, M⟩
      replace M := ifn q79 M
      refine lskip (t := 47) (c := false) rfl (by kernel_rfl) rfl (bf q79 (by kernel_rfl)) rfl rfl ?_
      refine lskip (t := 47) (c := false) rfl (by kernel_rfl) rfl (bf q79 (by kernel_rfl)) rfl rfl ?_
      refine lskip (t := 47) (c := false) rfl (by kernel_rfl) rfl (bf q79 (by kernel_rfl)) rfl rfl ?_
      refine lskip (t := 47) (c := false) rfl (by kernel_rfl) rfl (bf q79 (by kernel_rfl)) rfl rfl ?_
      refine lskip (t := 47) (c := false) rfl (by kernel_rfl) rfl (bf q79 (by kernel_rfl)) rfl rfl ?_
      refine lvg (d := 53) (t := 42) rfl (by kernel_rfl) rfl (by kernel_rfl) rfl (by kernel_rfl) (e_pick_f (v := .bool false) (bf q79 (by kernel_rfl)) rfl) ?_
      refine lv (d := 54) rfl rfl (by kernel_rfl) (e_pick_f (v := .bool false) (by kernel_rfl) (by kernel_rfl)) ?_
      refine wpList_nil ?_
      refine then_n ?_
      refine cond_f rfl (by kernel_rfl) ?_
      refine wp_skip ?_
      refine inb_n ?_
      refine then_n ?_
      refine wp_region_lit ?_
      refine lv (d := 30) rfl rfl (by kernel_rfl) (e_move (v := .int .i64 x33) (by exact e35)) ?_
      refine lv (d := 31) rfl rfl (by kernel_rfl) (e_add (k := .i64) (a := x33) (b := 1) (by kernel_rfl) rfl) ?_
      refine lv (d := 3) rfl rfl (by kernel_rfl) (e_assign (v := .int .i64 (IntKind.i64.wrap (x33 + 1))) (by kernel_rfl)) ?_
      refine wpList_nil ?_
      refine then_n ?_
      exact ⟨k41, (by omega), _, (IntKind.i64.wrap (x33 + 1)), rfl, (by exact e34), (by kernel_rfl), S77, M⟩
    replace M := ifn q42 M
    refine cond_f rfl (bf q42 (by kernel_rfl)) ?_
    refine wp_exit ?_
    refine then_e ?_
    refine then_e ?_
    refine inb_hit ?_
    refine then_n ?_
    refine wp_seq ?_
    refine wp_region_lit ?_
    refine lv (d := 2) rfl rfl (by kernel_rfl) (e_assign (v := .bool true) rfl) ?_
    refine wpList_nil ?_
    refine then_n ?_
    refine wp_ret ?_
    obtain rfl := Option.some.inj M
    exact ret1 rfl rfl  (show _ = .bool true from (by kernel_rfl)) ⟨rfl, S36.chg⟩
  replace M := ifn q28 M
  refine lskip (t := 20) (c := false) rfl (by kernel_rfl) rfl (bf q28 (by kernel_rfl)) rfl rfl ?_
  refine lskip (t := 20) (c := false) rfl (by kernel_rfl) rfl (bf q28 (by kernel_rfl)) rfl rfl ?_
  refine lskip (t := 20) (c := false) rfl (by kernel_rfl) rfl (bf q28 (by kernel_rfl)) rfl rfl ?_
  refine lvg (d := 24) (t := 16) rfl (by kernel_rfl) rfl (bf q27 (by kernel_rfl)) rfl (by kernel_rfl) (e_pick_f (v := .bool false) (bf q28 (by kernel_rfl)) rfl) ?_
  refine lv (d := 25) rfl rfl (by kernel_rfl) (e_pick_f (v := .bool false) (bf q27 (by kernel_rfl)) (by kernel_rfl)) ?_
  refine wpList_nil ?_
  refine then_n ?_
  refine cond_f rfl (by kernel_rfl) ?_
  refine wp_skip ?_
  refine then_n ?_
  refine wp_seq ?_
  refine wp_seq ?_
  refine wp_region_lit ?_
  refine lv (d := 3) rfl rfl (by kernel_rfl) (e_assign (v := .int .i64 0) rfl) ?_
  refine wpList_nil ?_
  refine then_n ?_
  refine wp_block ?_
  refine wp_loop_g (fun k96 a97 w88 => ∃ (f89 : Nat → Value) (x90 : Int), a97 = mk 55 f89 ∧ f89 0 = str x1 ∧ f89 3 = .int .i64 x90 ∧ St (anyOf []) H w [] H w88 ∧ impl_plain.l3 k96 x1 x90 = some r) k ⟨_, 0, rfl, (by exact e19), (by kernel_rfl), S21, M⟩ ?_
  clear M
  rintro k96 a97 w88 ⟨f89, x90, rfl, e91, e92, S93, M⟩
  rcases k96 with _ | k98
  · rw [impl_plain.l3] at M
    cases M
  rw [impl_plain.l3] at M
  refine wp_seq ?_
  refine wp_seq ?_
  refine wp_region_lit ?_
  refine lv (d := 26) rfl rfl (by kernel_rfl) (e_move (v := .int .i64 x90) (by exact e92)) ?_
  refine lv (d := 27) rfl rfl (by kernel_rfl) (e_move (v := str x1) (by exact e91)) ?_
  refine lv (d := 28) rfl rfl (by kernel_rfl) (e_slen (p := x1) Tryd.underlying9 (by kernel_rfl)) ?_
  refine lv (d := 29) rfl rfl (by kernel_rfl) (e_lss (k := .i64) (a := x90) (b := (x1.length : Int)) (by kernel_rfl) (by kernel_rfl)) ?_
  refine wpList_nil ?_
  refine then_n ?_
  by_cases q99 : x90 < (x1.length : Int)
  · replace M := ifp q99 M
    refine cond_t rfl (bt q99 (by kernel_rfl)) ?_
    refine wp_skip ?_
    refine then_n ?_
    refine wp_seq ?_
    refine wp_block ?_
    refine wp_seq ?_
    refine wp_region_lit ?_
    refine lv (d := 32) rfl rfl (by kernel_rfl) (e_move (v := str x1) (by exact e91)) ?_
    obtain ⟨q100, M⟩ := chk M
    refine lv (d := 33) rfl rfl (by kernel_rfl) (e_sindex (p := x1) (i := 0) (k := .i64) Tryd.underlying9 (by kernel_rfl) rfl (by decide) q100) ?_
    obtain ⟨t101, u102, M⟩ := bnd M
    refine lcall (d := 34) rfl rfl (by kernel_rfl) (e_call (l := [.tmp 33]) (vs := [.int .u8 ((x1.getD (0 : Int).toNat (0 : UInt8)).toNat : Int)]) Tryd.func20 (by kernel_rfl) rfl (by kernel_rfl) rfl) (impl_isSmall.calls w88 H (x1.getD (0 : Int).toNat (0 : UInt8))  S93.own0 t101 u102) ?_
    rintro _ w103 ⟨rfl, C104⟩
    refine ⟨_, rfl, ?_⟩
    obtain ⟨S105, K106⟩ := S93.still C104
    refine lv (d := 35) rfl rfl (by kernel_rfl) (e_move (v := .bool t101) (by kernel_rfl)) ?_
    by_cases q107 : t101 = true
    · replace M := ifp q107 M
      refine lvg (d := 36) (t := 35) rfl (by kernel_rfl) rfl (bvt q107 (by kernel_rfl)) rfl (by kernel_rfl) (e_move (v := str x1) (by exact e91)) ?_
      refine lvg (d := 37) (t := 35) rfl (by kernel_rfl) rfl (bvt q107 (by kernel_rfl)) rfl (by kernel_rfl) (e_move (v := .int .i64 x90) (by exact e92)) ?_
      obtain ⟨q108, M⟩ := chk M
      refine lvg (d := 38) (t := 35) rfl (by kernel_rfl) rfl (bvt q107 (by kernel_rfl)) rfl (by kernel_rfl) (e_sindex (p := x1) (i := x90) (k := .i64) Tryd.underlying9 (by kernel_rfl) (by kernel_rfl) q108 q99) ?_
      obtain ⟨t109, u110, M⟩ := bnd M
      refine lcallg (d := 39) (t := 35) rfl (by kernel_rfl) rfl (bvt q107 (by kernel_rfl)) rfl (by kernel_rfl) (e_call (l := [.tmp 38]) (vs := [.int .u8 ((x1.getD (x90 : Int).toNat (0 : UInt8)).toNat : Int)]) Tryd.func21 (by kernel_rfl) rfl (by kernel_rfl) rfl) (impl_isAlnum.calls w103 H (x1.getD (x90 : Int).toNat (0 : UInt8))  S105.own0 t109 u110) ?_
      rintro _ w111 ⟨rfl, C112⟩
      refine ⟨_, rfl, ?_⟩
      obtain ⟨S113, K114⟩ := S105.still C112
      refine lvg (d := 40) (t := 35) rfl (by kernel_rfl) rfl (bvt q107 (by kernel_rfl)) rfl (by kernel_rfl) (e_notv (c := t109) (by kernel_rfl)) ?_
      refine lv (d := 41) rfl rfl (by kernel_rfl) (e_pick_t (v := .bool (decide (¬ (t109 = true)))) (bvt q107 (by kernel_rfl)) (by kernel_rfl)) ?_
      refine lv (d := 42) rfl rfl (by kernel_rfl) (e_move (v := .bool (decide (¬ (t109 = true)))) (by kernel_rfl)) ?_
      by_cases q115 : ¬ (t109 = true)
      · replace M := ifp q115 M
        refine lskip (t := 42) (c := true) rfl (by kernel_rfl) rfl (bt q115 (by kernel_rfl)) rfl rfl ?_
        refine lskip (t := 42) (c := true) rfl (by kernel_rfl) rfl (bt q115 (by kernel_rfl)) rfl rfl ?_
        refine lskip (t := 42) (c := true) rfl (by kernel_rfl) rfl (bt q115 (by kernel_rfl)) rfl rfl ?_
        refine lskip (t := 42) (c := true) rfl (by kernel_rfl) rfl (bt q115 (by kernel_rfl)) rfl rfl ?_
        refine lskip (t := 42) (c := true) rfl (by kernel_rfl) rfl (bt q115 (by kernel_rfl)) rfl rfl ?_
        refine lskipu (t := 47) rfl (by kernel_rfl) rfl (by kernel_rfl) rfl ?_
        refine lskipu (t := 47) rfl (by kernel_rfl) rfl (by kernel_rfl) rfl ?_
        refine lskipu (t := 47) rfl (by kernel_rfl) rfl (by kernel_rfl) rfl ?_
        refine lskipu (t := 47) rfl (by kernel_rfl) rfl (by kernel_rfl) rfl ?_
        refine lskipu (t := 47) rfl (by kernel_rfl) rfl (by kernel_rfl) rfl ?_
        refine lskip (t := 42) (c := true) rfl (by kernel_rfl) rfl (bt q115 (by kernel_rfl)) rfl rfl ?_
        refine lv (d := 54) rfl rfl (by kernel_rfl) (e_pick_t (v := .bool true) (bt q115 (by kernel_rfl)) rfl) ?_
        refine wpList_nil ?_
        refine then_n ?_
        refine cond_t rfl (by kernel_rfl) ?_
        refine wp_seq ?_
        refine wp_region_lit ?_
        refine lv (d := 2) rfl rfl (by kernel_rfl) (e_assign (v := .bool false) rfl) ?_
        refine wpList_nil ?_
        refine then_n ?_
        refine wp_ret ?_
        refine inb_r ?_
        refine then_r ?_
        refine then_r ?_
        refine inb_r ?_
        refine then_r ?_
        obtain rfl := Option.some.inj M
        exact ret1 rfl rfl  (show _ = .bool false from (by kernel_rfl)) ⟨rfl, S113.chg⟩
      replace M := ifn q115 M
      refine lvg (d := 43) (t := 42) rfl (by kernel_rfl) rfl (bf q115 (by kernel_rfl)) rfl (by kernel_rfl) (e_move (v := str x1) (by exact e91)) ?_
      refine lvg (d := 44) (t := 42) rfl (by kernel_rfl) rfl (bf q115 (by kernel_rfl)) rfl (by kernel_rfl) (e_sindex (p := x1) (i := 0) (k := .i64) Tryd.underlying9 (by kernel_rfl) rfl (by decide) q100) ?_
      obtain ⟨t116, u117, M⟩ := bnd M
      refine lcallg (d := 45) (t := 42) rfl (by kernel_rfl) rfl (bf q115 (by kernel_rfl)) rfl (by kernel_rfl) (e_call (l := [.tmp 44]) (vs := [.int .u8 ((x1.getD (0 : Int).toNat (0 : UInt8)).toNat : Int)]) Tryd.func20 (by kernel_rfl) rfl (by kernel_rfl) rfl) (impl_isSmall.calls w111 H (x1.getD (0 : Int).toNat (0 : UInt8))  S113.own0 t116 u117) ?_
      rintro _ w118 ⟨rfl, C119⟩
      refine ⟨_, rfl, ?_⟩
      obtain ⟨S120, K121⟩ := S113.still C119
      refine lvg (d := 46) (t := 42) rfl (by kernel_rfl) rfl (bf q115 (by kernel_rfl)) rfl (by kernel_rfl) (e_notv (c := t116) (by kernel_rfl)) ?_
      refine lvg (d := 47) (t := 42) rfl (by kernel_rfl) rfl (bf q115 (by kernel_rfl)) rfl (by kernel_rfl) (e_move (v := .bool (decide (¬ (t116 = true)))) (by kernel_rfl)) ?_
      by_cases q122 : ¬ (t116 = true)
      · replace M := ifp q122 M
        refine lvg (d := 48) (t := 47) rfl (by kernel_rfl) rfl (bt q122 (by kernel_rfl)) rfl (by kernel_rfl) (e_move (v := str x1) (by exact e91)) ?_
        refine lvg (d := 49) (t := 47) rfl (by kernel_rfl) rfl (bt q122 (by kernel_rfl)) rfl (by kernel_rfl) (e_move (v := .int .i64 x90) (by exact e92)) ?_
        refine lvg (d := 50) (t := 47) rfl (by kernel_rfl) rfl (bt q122 (by kernel_rfl)) rfl (by kernel_rfl) (e_sindex (p := x1) (i := x90) (k := .i64) Tryd.underlying9 (by kernel_rfl) (by kernel_rfl) q108 q99) ?_
        obtain ⟨t123, u124, M⟩ := bnd M
        refine lcallg (d := 51) (t := 47) rfl (by kernel_rfl) rfl (bt q122 (by kernel_rfl)) rfl (by kernel_rfl) (e_call (l := [.tmp 50]) (vs := [.int .u8 ((x1.getD (x90 : Int).toNat (0 : UInt8)).toNat : Int)]) Tryd.func22 (by kernel_rfl) rfl (by kernel_rfl) rfl) (impl_isSymbol.calls w118 H (x1.getD (x90 : Int).toNat (0 : UInt8))  S120.own0 t123 u124) ?_
        rintro _ w125 ⟨rfl, C126⟩
        refine ⟨_, rfl, ?_⟩
        obtain ⟨S127, K128⟩ := S120.still C126
        refine lvg (d := 52) (t := 47) rfl (by kernel_rfl) rfl (bt q122 (by kernel_rfl)) rfl (by kernel_rfl) (e_notv (c := t123) (by kernel_rfl)) ?_
        refine lvg (d := 53) (t := 42) rfl (by kernel_rfl) rfl (bf q115 (by kernel_rfl)) rfl (by kernel_rfl) (e_pick_t (v := .bool (decide (¬ (t123 = true)))) (bt q122 (by kernel_rfl)) (by kernel_rfl)) ?_
        refine lv (d := 54) rfl rfl (by kernel_rfl) (e_pick_f (v := .bool (decide (¬ (t123 = true)))) (bf q115 (by kernel_rfl)) (by kernel_rfl)) ?_
        refine wpList_nil ?_
        refine then_n ?_
        by_cases q129 : ¬ (t123 = true)
        · replace M := ifp q129 M
          refine cond_t rfl (bt q129 (by kernel_rfl)) ?_
          refine wp_seq ?_
          refine wp_region_lit ?_
          refine lv (d := 2) rfl rfl (by kernel_rfl) (e_assign (v := .bool false) rfl) ?_
          refine wpList_nil ?_
          refine then_n ?_
          refine wp_ret ?_
          refine inb_r ?_
          refine then_r ?_
          refine then_r ?_
          refine inb_r ?_
          refine then_r ?_
          obtain rfl := Option.some.inj M
          exact ret1 rfl rfl  (show _ = .bool false from (by kernel_rfl)) ⟨rfl, S127.chg⟩
        replace M := ifn q129 M
        refine cond_f rfl (bf q129 (by kernel_rfl)) ?_
        refine wp_skip ?_
        refine inb_n ?_
        refine then_n ?_
        refine wp_region_lit ?_
        refine lv (d := 30) rfl rfl (by kernel_rfl) (e_move (v := .int .i64 x90) (by exact e92)) ?_
        refine lv (d := 31) rfl rfl (by kernel_rfl) (e_add (k := .i64) (a := x90) (b := 1) (by kernel_rfl) rfl) ?_
        refine lv (d := 3) rfl rfl (by kernel_rfl) (e_assign (v := .int .i64 (IntKind.i64.wrap (x90 + 1))) (by kernel_rfl)) ?_
        refine wpList_nil ?_
        refine then_n ?_
        exact ⟨k98, (by omega), _, (IntKind.i64.wrap (x90 + 1)), rfl, (by exact e91), (by kernel_rfl), S127, M⟩
      replace M := ifn q122 M
      refine lskip (t := 47) (c := false) rfl (by kernel_rfl) rfl (bf q122 (by kernel_rfl)) rfl rfl ?_
      refine lskip (t := 47) (c := false) rfl (by kernel_rfl) rfl (bf q122 (by kernel_rfl)) rfl rfl ?_
      refine lskip (t := 47) (c := false) rfl (by kernel_rfl) rfl (bf q122 (by kernel_rfl)) rfl rfl ?_
      refine lskip (t := 47) (c := false) rfl (by kernel_rfl) rfl (bf q122 (by kernel_rfl)) rfl rfl ?_
      refine lskip (t := 47) (c := false) rfl (by kernel_rfl) rfl (bf q122 (by kernel_rfl)) rfl rfl ?_
      refine lvg (d := 53) (t := 42) rfl (by kernel_rfl) rfl (bf q115 (by kernel_rfl)) rfl (by kernel_rfl) (e_pick_f (v := .bool false) (bf q122 (by kernel_rfl)) rfl) ?_
      refine lv (d := 54) rfl rfl (by kernel_rfl) (e_pick_f (v := .bool false) (bf q115 (by kernel_rfl)) (by kernel_rfl)) ?_
      refine wpList_nil ?_
      refine then_n ?_
      refine cond_f rfl (by kernel_rfl) ?_
      refine wp_skip ?_
      refine inb_n ?_
      refine then_n ?_
      refine wp_region_lit ?_
      refine lv (d := 30) rfl rfl (by kernel_rfl) (e_move (v := .int .i64 x90) (by exact e92)) ?_
      refine lv (d := 31) rfl rfl (by kernel_rfl) (e_add (k := .i64) (a := x90) (b := 1) (by kernel_rfl) rfl) ?_
      refine lv (d := 3) rfl rfl (by kernel_rfl) (e_assign (v := .int .i64 (IntKind.i64.wrap (x90 + 1))) (by kernel_rfl)) ?_
      refine wpList_nil ?_
      refine then_n ?_
      exact ⟨k98, (by omega), _, (IntKind.i64.wrap (x90 + 1)), rfl, (by exact e91), (by kernel_rfl), S120, M⟩
    replace M := ifn q107 M
    refine lskip (t := 35) (c := false) rfl (by kernel_rfl) rfl (bvf q107 (by kernel_rfl)) rfl rfl ?_
    refine lskip (t := 35) (c := false) rfl (by kernel_rfl) rfl (bvf q107 (by kernel_rfl)) rfl rfl ?_
    refine lskip (t := 35) (c := false) rfl (by kernel_rfl) rfl (bvf q107 (by kernel_rfl)) rfl rfl ?_
    refine lskip (t := 35) (c := false) rfl (by kernel_rfl) rfl (bvf q107 (by kernel_rfl)) rfl rfl ?_
    refine lskip (t := 35) (c := false) rfl (by kernel_rfl) rfl (bvf q107 (by kernel_rfl)) rfl rfl ?_
    refine lv (d := 41) rfl rfl (by kernel_rfl) (e_pick_f (v := .bool false) (bvf q107 (by kernel_rfl)) rfl) ?_
    refine lv (d := 42) rfl rfl (by kernel_rfl) (e_move (v := .bool false) (by kernel_rfl)) ?_
    refine lvg (d := 43) (t := 42) rfl (by kernel_rfl) rfl (by kernel_rfl) rfl (by kernel_rfl) (e_move (v := str x1) (by exact e91)) ?_
    refine lvg (d := 44) (t := 42) rfl (by kernel_rfl) rfl (by kernel_rfl) rfl (by kernel_rfl) (e_sindex (p := x1) (i := 0) (k := .i64) Tryd.underlying9 (by kernel_rfl) rfl (by decide) q100) ?_
    obtain ⟨t130, u131, M⟩ := bnd M
    refine lcallg (d := 45) (t := 42) rfl (by kernel_rfl) rfl (by kernel_rfl) rfl (by kernel_rfl) (e_call (l := [.tmp 44]) (vs := [.int .u8 ((x1.getD (0 : Int).toNat (0 : UInt8)).toNat : Int)]) Tryd.func20 (by kernel_rfl) rfl (by kernel_rfl) rfl) (impl_isSmall.calls w103 H (x1.getD (0 : Int).toNat (0 : UInt8))  S105.own0 t130 u131) ?_
    rintro _ w132 ⟨rfl, C133⟩
    refine ⟨_, rfl, ?_⟩
    obtain ⟨S134, K135⟩ := S105.still C133
    refine lvg (d := 46) (t := 42) rfl (by kernel_rfl) rfl (by kernel_rfl) rfl (by kernel_rfl) (e_notv (c := t130) (by kernel_rfl)) ?_
    refine lvg (d := 47) (t := 42) rfl (by kernel_rfl) rfl (by kernel_rfl) rfl (by kernel_rfl) (e_move (v := .bool (decide (¬ (t130 = true)))) (by kernel_rfl)) ?_
    by_cases q136 : ¬ (t130 = true)
    · replace M := ifp q136 M
      refine lvg (d := 48) (t := 47) rfl (by kernel_rfl) rfl (bt q136 (by kernel_rfl)) rfl (by kernel_rfl) (e_move (v := str x1) (by exact e91)) ?_
      refine lvg (d := 49) (t := 47) rfl (by kernel_rfl) rfl (bt q136 (by kernel_rfl)) rfl (by kernel_rfl) (e_move (v := .int .i64 x90) (by exact e92)) ?_
      obtain ⟨q137, M⟩ := chk M
      refine lvg (d := 50) (t := 47) rfl (by kernel_rfl) rfl (bt q136 (by kernel_rfl)) rfl (by kernel_rfl) (e_sindex (p := x1) (i := x90) (k := .i64) Tryd.underlying9 (by kernel_rfl) (by kernel_rfl) q137 q99) ?_
      obtain ⟨t138, u139, M⟩ := bnd M
      refine lcallg (d := 51) (t := 47) rfl (by kernel_rfl) rfl (bt q136 (by kernel_rfl)) rfl (by kernel_rfl) (e_call (l := [.tmp 50]) (vs := [.int .u8 ((x1.getD (x90 : Int).toNat (0 : UInt8)).toNat : Int)]) Tryd.func22 (by kernel_rfl) rfl (by kernel_rfl) rfl) (impl_isSymbol.calls w132 H (x1.getD (x90 : Int).toNat (0 : UInt8))  S134.own0 t138 u139) ?_
      rintro _ w140 ⟨rfl, C141⟩
      refine ⟨_, rfl, ?_⟩
      obtain ⟨S142, K143⟩ := S134.still C141
      refine lvg (d := 52) (t := 47) rfl (by kernel_rfl) rfl (bt q136 (by kernel_rfl)) rfl (by kernel_rfl) (e_notv (c := t138) (by kernel_rfl)) ?_
      refine lvg (d := 53) (t := 42) rfl (by kernel_rfl) rfl (by kernel_rfl) rfl (by kernel_rfl) (e_pick_t (v := .bool (decide (¬ (t138 = true)))) (bt q136 (by kernel_rfl)) (by kernel_rfl)) ?_
      refine lv (d := 54) rfl rfl (by kernel_rfl) (e_pick_f (v := .bool (decide (¬ (t138 = true)))) (by kernel_rfl) (by kernel_rfl)) ?_
      refine wpList_nil ?_
      refine then_n ?_
      by_cases q144 : ¬ (t138 = true)
      · replace M := ifp q144 M
        refine cond_t rfl (bt q144 (by kernel_rfl)) ?_
        refine wp_seq ?_
        refine wp_region_lit ?_
        refine lv (d := 2) rfl rfl (by kernel_rfl) (e_assign (v := .bool false) rfl) ?_
        refine wpList_nil ?_
        refine then_n ?_
        refine wp_ret ?_
        refine inb_r ?_
        refine then_r ?_
        refine then_r ?_
        refine inb_r ?_
        refine then_r ?_
        obtain rfl := Option.some.inj M
        exact ret1 rfl rfl  (show _ = .bool false from (by kernel_rfl)) ⟨rfl, S142.chg⟩
      replace M := ifn q144 M
      refine cond_f rfl (bf q144 (by kernel_rfl)) ?_
      refine wp_skip ?_
      refine inb_n ?_
      refine then_n ?_
      refine wp_region_lit ?_
      refine lv (d := 30) rfl rfl (by kernel_rfl) (e_move (v := .int .i64 x90) (by exact e92)) ?_
      refine lv (d := 31) rfl rfl (by kernel_rfl) (e_add (k := .i64) (a := x90) (b := 1) (by kernel_rfl) rfl) ?_
      refine lv (d := 3) rfl rfl (by kernel_rfl) (e_assign (v := .int .i64 (IntKind.i64.wrap (x90 + 1))) (by kernel_rfl)) ?_
      refine wpList_nil ?_
      refine then_n ?_
      exact ⟨k98, (by omega), _, (IntKind.i64.wrap (x90 + 1)), rfl, (by exact e91), (by kernel_rfl), S142, M⟩
    replace M := ifn q136 M
    refine lskip (t := 47) (c := false) rfl (by kernel_rfl) rfl (bf q136 (by kernel_rfl)) rfl rfl ?_
    refine lskip (t := 47) (c := false) rfl (by kernel_rfl) rfl (bf q136 (by kernel_rfl)) rfl rfl ?_
    refine lskip (t := 47) (c := false) rfl (by kernel_rfl) rfl (bf q136 (by kernel_rfl)) rfl rfl ?_
    refine lskip (t := 47) (c := false) rfl (by kernel_rfl) rfl (bf q136 (by kernel_rfl)) rfl rfl ?_
    refine lskip (t := 47) (c := false) rfl (by kernel_rfl) rfl (bf q136 (by kernel_rfl)) rfl rfl ?_
    refine lvg (d := 53) (t := 42) rfl (by kernel_rfl) rfl (by kernel_rfl) rfl (by kernel_rfl) (e_pick_f (v := .bool false) (bf q136 (by kernel_rfl)) rfl) ?_
    refine lv (d := 54) rfl rfl (by kernel_rfl) (e_pick_f (v := .bool false) (by kernel_rfl) (by kernel_rfl)) ?_
    refine wpList_nil ?_
    refine then_n ?_
    refine cond_f rfl (by kernel_rfl) ?_
    refine wp_skip ?_
    refine inb_n ?_
    refine then_n ?_
    refine wp_region_lit ?_
    refine lv (d := 30) rfl rfl (by kernel_rfl) (e_move (v := .int .i64 x90) (by exact e92)) ?_
    refine lv (d := 31) rfl rfl (by kernel_rfl) (e_add (k := .i64) (a := x90) (b := 1) (by kernel_rfl) rfl) ?_
    refine lv (d := 3) rfl rfl (by kernel_rfl) (e_assign (v := .int .i64 (IntKind.i64.wrap (x90 + 1))) (by kernel_rfl)) ?_
    refine wpList_nil ?_
    refine then_n ?_
    exact ⟨k98, (by omega), _, (IntKind.i64.wrap (x90 + 1)), rfl, (by exact e91), (by kernel_rfl), S134, M⟩
  replace M := ifn q99 M
  refine cond_f rfl (bf q99 (by kernel_rfl)) ?_
  refine wp_exit ?_
  refine then_e ?_
  refine then_e ?_
  refine inb_hit ?_
  refine then_n ?_
  refine wp_seq ?_
  refine wp_region_lit ?_
  refine lv (d := 2) rfl rfl (by kernel_rfl) (e_assign (v := .bool true) rfl) ?_
  refine wpList_nil ?_
  refine then_n ?_
  refine wp_ret ?_
  obtain rfl := Option.some.inj M
  exact ret1 rfl rfl  (show _ = .bool true from (by kernel_rfl)) ⟨rfl, S93.chg⟩

/-! impl_hex2 -/
def impl_hex2.f (x1 : UInt8) : Option (List UInt8) := ((strconv_FormatInt.f ((b8 (Int.fdiv (x1.toNat : Int) (2 ^ 4))).toNat : Int) 16).bind fun t2 => ((strconv_FormatInt.f ((b8 (bits .and .u8 (x1.toNat : Int) 15)).toNat : Int) 16).bind fun t8 => (if t2.length + t8.length ≤ 9223372036854775807 then some (t2 ++ t8) else none)))
theorem impl_hex2.calls (w : World) (H : Hp) (x1 : UInt8) (hL_ : Laid H) (S : Own [] H w) (r : List UInt8) (M : impl_hex2.f x1 = some r) :
    Calls Tryd.prog 17 #[.int .u8 (x1.toNat : Int)] w (fun e e_w => e = .returned (str r) ∧ Chg no w e_w) := by
  rw [impl_hex2.f] at M
  refine enter (l := [.int .u8 (x1.toNat : Int)]) 12 Tryd.func17 rfl rfl rfl ?_
  have S0_ := S.st
  refine wp_seq ?_
  refine wp_region_lit ?_
  refine lv (d := 2) rfl rfl (by kernel_rfl) (e_assign (v := str ([] : List UInt8)) rfl) ?_
  refine wpList_nil ?_
  refine then_n ?_
  refine wp_seq ?_
  refine wp_region_lit ?_
  refine lv (d := 3) rfl rfl (by kernel_rfl) (e_move (v := .int .u8 (x1.toNat : Int)) (by kernel_rfl)) ?_
  refine lv (d := 4) rfl rfl (by kernel_rfl) (e_shr8 (k2 := .u64) (b := 4) (x8 := x1) (by kernel_rfl) rfl (by decide)) ?_
  refine lv (d := 5) rfl rfl (by kernel_rfl) (e_conv_8i (a := (b8 (Int.fdiv (x1.toNat : Int) (2 ^ 4)))) (by kernel_rfl) Tryd.underlying2 (by kernel_rfl)) ?_
  obtain ⟨t2, u3, M⟩ := bnd M
  refine lcall (d := 6) rfl rfl (by kernel_rfl) (e_call (l := [.tmp 5, .const (.int .i64 16)]) (vs := [.int .i64 ((b8 (Int.fdiv (x1.toNat : Int) (2 ^ 4))).toNat : Int), .int .i64 16]) Tryd.func23 (by kernel_rfl) rfl (by kernel_rfl) rfl) (strconv_FormatInt.calls w H ((b8 (Int.fdiv (x1.toNat : Int) (2 ^ 4))).toNat : Int) 16 hL_ S0_.own0 t2 u3) ?_
  rintro _ w4 ⟨rfl, C5⟩
  refine ⟨_, rfl, ?_⟩
  obtain ⟨S6, K7⟩ := S0_.still C5
  refine lv (d := 7) rfl rfl (by kernel_rfl) (e_move (v := .int .u8 (x1.toNat : Int)) (by kernel_rfl)) ?_
  refine lv (d := 8) rfl rfl (by kernel_rfl) (e_and8 (a := (x1.toNat : Int)) (b := 15) (by kernel_rfl) rfl) ?_
  refine lv (d := 9) rfl rfl (by kernel_rfl) (e_conv_8i (a := (b8 (bits .and .u8 (x1.toNat : Int) 15))) (by kernel_rfl) Tryd.underlying2 (by kernel_rfl)) ?_
  obtain ⟨t8, u9, M⟩ := bnd M
  refine lcall (d := 10) rfl rfl (by kernel_rfl) (e_call (l := [.tmp 9, .const (.int .i64 16)]) (vs := [.int .i64 ((b8 (bits .and .u8 (x1.toNat : Int) 15)).toNat : Int), .int .i64 16]) Tryd.func23 (by kernel_rfl) rfl (by kernel_rfl) rfl) (strconv_FormatInt.calls w4 H ((b8 (bits .and .u8 (x1.toNat : Int) 15)).toNat : Int) 16 hL_ S6.own0 t8 u9) ?_
  rintro _ w10 ⟨rfl, C11⟩
  refine ⟨_, rfl, ?_⟩
  obtain ⟨S12, K13⟩ := S6.still C11
  obtain ⟨q14, M⟩ := chk M
  refine lv (d := 11) rfl rfl (by kernel_rfl) (e_sadd (p := t2) (q := t8) (by kernel_rfl) (by kernel_rfl) q14) ?_
  refine lv (d := 2) rfl rfl (by kernel_rfl) (e_assign (v := str (t2 ++ t8)) (by kernel_rfl)) ?_
  refine wpList_nil ?_
  refine then_n ?_
  refine wp_ret ?_
  obtain rfl := Option.some.inj M
  exact ret1 rfl rfl  (show _ = str (t2 ++ t8) from (by kernel_rfl)) ⟨rfl, S12.chg⟩

/-! impl_quoted -/
def impl_quoted.l0 : Nat → (List UInt8) → (List UInt8) → Int → Option (List UInt8)
  | 0, _, _, _ => none
  | k22 + 1, x1, x12, x13 => (if x13 < (x1.length : Int) then (if 0 ≤ x13 then (if ((x1.getD (x13 : Int).toNat (0 : UInt8)).toNat : Int) = 39 then (if ([92] : List UInt8).length + (runeS (IntKind.i32.wrap (((x1.getD (x13 : Int).toNat (0 : UInt8)).toNat : Int)))).length ≤ 9223372036854775807 then (if x12.length + (([92] : List UInt8) ++ (runeS (IntKind.i32.wrap (((x1.getD (x13 : Int).toNat (0 : UInt8)).toNat : Int))))).length ≤ 9223372036854775807 then (impl_quoted.l0 k22 x1 (x12 ++ (([92] : List UInt8) ++ (runeS (IntKind.i32.wrap (((x1.getD (x13 : Int).toNat (0 : UInt8)).toNat : Int)))))) (IntKind.i64.wrap (x13 + 1))) else none) else none) else (if ((x1.getD (x13 : Int).toNat (0 : UInt8)).toNat : Int) = 92 then (if ([92] : List UInt8).length + (runeS (IntKind.i32.wrap (((x1.getD (x13 : Int).toNat (0 : UInt8)).toNat : Int)))).length ≤ 9223372036854775807 then (if x12.length + (([92] : List UInt8) ++ (runeS (IntKind.i32.wrap (((x1.getD (x13 : Int).toNat (0 : UInt8)).toNat : Int))))).length ≤ 9223372036854775807 then (impl_quoted.l0 k22 x1 (x12 ++ (([92] : List UInt8) ++ (runeS (IntKind.i32.wrap (((x1.getD (x13 : Int).toNat (0 : UInt8)).toNat : Int)))))) (IntKind.i64.wrap (x13 + 1))) else none) else none) else (if ((x1.getD (x13 : Int).toNat (0 : UInt8)).toNat : Int) = 10 then (if x12.length + ([92, 110] : List UInt8).length ≤ 9223372036854775807 then (impl_quoted.l0 k22 x1 (x12 ++ ([92, 110] : List UInt8)) (IntKind.i64.wrap (x13 + 1))) else none) else (if ((x1.getD (x13 : Int).toNat (0 : UInt8)).toNat : Int) = 9 then (if x12.length + ([92, 116] : List UInt8).length ≤ 9223372036854775807 then (impl_quoted.l0 k22 x1 (x12 ++ ([92, 116] : List UInt8)) (IntKind.i64.wrap (x13 + 1))) else none) else (if ((x1.getD (x13 : Int).toNat (0 : UInt8)).toNat : Int) < 32 then ((impl_hex2.f (x1.getD (x13 : Int).toNat (0 : UInt8))).bind fun t36 => (if ([92, 120] : List UInt8).length + t36.length ≤ 9223372036854775807 then (if (([92, 120] : List UInt8) ++ t36).length + ([92] : List UInt8).length ≤ 9223372036854775807 then (if x12.length + ((([92, 120] : List UInt8) ++ t36) ++ ([92] : List UInt8)).length ≤ 9223372036854775807 then (impl_quoted.l0 k22 x1 (x12 ++ ((([92, 120] : List UInt8) ++ t36) ++ ([92] : List UInt8))) (IntKind.i64.wrap (x13 + 1))) else none) else none) else none)) else (if ((x1.getD (x13 : Int).toNat (0 : UInt8)).toNat : Int) > 126 then ((impl_hex2.f (x1.getD (x13 : Int).toNat (0 : UInt8))).bind fun t46 => (if ([92, 120] : List UInt8).length + t46.length ≤ 9223372036854775807 then (if (([92, 120] : List UInt8) ++ t46).length + ([92] : List UInt8).length ≤ 9223372036854775807 then (if x12.length + ((([92, 120] : List UInt8) ++ t46) ++ ([92] : List UInt8)).length ≤ 9223372036854775807 then (impl_quoted.l0 k22 x1 (x12 ++ ((([92, 120] : List UInt8) ++ t46) ++ ([92] : List UInt8))) (IntKind.i64.wrap (x13 + 1))) else none) else none) else none)) else (if x12.length + (runeS (IntKind.i32.wrap (((x1.getD (x13 : Int).toNat (0 : UInt8)).toNat : Int)))).length ≤ 9223372036854775807 then (impl_quoted.l0 k22 x1 (x12 ++ (runeS (IntKind.i32.wrap (((x1.getD (x13 : Int).toNat (0 : UInt8)).toNat : Int))))) (IntKind.i64.wrap (x13 + 1))) else none))))))) else none) else (if x12.length + ([39] : List UInt8).length ≤ 9223372036854775807 then some (x12 ++ ([39] : List UInt8)) else none))
def impl_quoted.f (k : Nat) (x1 : List UInt8) : Option (List UInt8) := (if (x1.length : Int) > 100 then some ([] : List UInt8) else ((impl_plain.f k x1).bind fun t3 => (if t3 = true then some x1 else (impl_quoted.l0 k x1 ([39] : List UInt8) 0))))
theorem impl_quoted.calls (k : Nat) (w : World) (H : Hp) (x1 : List UInt8) (hL_ : Laid H) (S : Own [] H w) (r : List UInt8) (M : impl_quoted.f k x1 = some r) :
    Calls Tryd.prog 13 #[str x1] w (fun e e_w => e = .returned (str r) ∧ Chg no w e_w) := by
  rw [impl_quoted.f] at M
  refine enter (l := [str x1]) 64 Tryd.func13 rfl rfl rfl ?_
  have S0_ := S.st
  refine wp_seq ?_
  refine wp_region_lit ?_
  refine lv (d := 2) rfl rfl (by kernel_rfl) (e_assign (v := str ([] : List UInt8)) rfl) ?_
  refine wpList_nil ?_
  refine then_n ?_
  refine wp_seq ?_
  refine wp_seq ?_
  refine wp_region_lit ?_
  refine lv (d := 6) rfl rfl (by kernel_rfl) (e_move (v := str x1) (by kernel_rfl)) ?_
  refine lv (d := 7) rfl rfl (by kernel_rfl) (e_slen (p := x1) Tryd.underlying9 (by kernel_rfl)) ?_
  refine lv (d := 8) rfl rfl (by kernel_rfl) (e_gtr (k := .i64) (a := (x1.length : Int)) (b := 100) (by kernel_rfl) rfl) ?_
  refine wpList_nil ?_
  refine then_n ?_
  by_cases q2 : (x1.length : Int) > 100
  · replace M := ifp q2 M
    refine cond_t rfl (bt q2 (by kernel_rfl)) ?_
    refine wp_seq ?_
    refine wp_region_lit ?_
    refine lv (d := 2) rfl rfl (by kernel_rfl) (e_assign (v := str ([] : List UInt8)) rfl) ?_
    refine wpList_nil ?_
    refine then_n ?_
    refine wp_ret ?_
    refine then_r ?_
    obtain rfl := Option.some.inj M
    exact ret1 rfl rfl  (show _ = str ([] : List UInt8) from (by kernel_rfl)) ⟨rfl, S0_.chg⟩
  replace M := ifn q2 M
  refine cond_f rfl (bf q2 (by kernel_rfl)) ?_
  refine wp_skip ?_
  refine then_n ?_
  refine wp_seq ?_
  refine wp_seq ?_
  refine wp_region_lit ?_
  refine lv (d := 9) rfl rfl (by kernel_rfl) (e_move (v := str x1) (by kernel_rfl)) ?_
  obtain ⟨t3, u4, M⟩ := bnd M
  refine lcall (d := 10) rfl rfl (by kernel_rfl) (e_call (l := [.tmp 9]) (vs := [str x1]) Tryd.func16 (by kernel_rfl) rfl (by kernel_rfl) rfl) (impl_plain.calls k w H x1  S0_.own0 t3 u4) ?_
  rintro _ w5 ⟨rfl, C6⟩
  refine ⟨_, rfl, ?_⟩
  obtain ⟨S7, K8⟩ := S0_.still C6
  refine wpList_nil ?_
  refine then_n ?_
  by_cases q9 : t3 = true
  · replace M := ifp q9 M
    refine cond_t rfl (bvt q9 (by kernel_rfl)) ?_
    refine wp_seq ?_
    refine wp_region_lit ?_
    refine lv (d := 11) rfl rfl (by kernel_rfl) (e_move (v := str x1) (by kernel_rfl)) ?_
    refine lv (d := 2) rfl rfl (by kernel_rfl) (e_assign (v := str x1) (by kernel_rfl)) ?_
    refine wpList_nil ?_
    refine then_n ?_
    refine wp_ret ?_
    refine then_r ?_
    obtain rfl := Option.some.inj M
    exact ret1 rfl rfl  (show _ = str x1 from (by kernel_rfl)) ⟨rfl, S7.chg⟩
  replace M := ifn q9 M
  refine cond_f rfl (bvf q9 (by kernel_rfl)) ?_
  refine wp_skip ?_
  refine then_n ?_
  refine wp_seq ?_
  refine wp_region_lit ?_
  refine lv (d := 3) rfl rfl (by kernel_rfl) (e_assign (v := str ([39] : List UInt8)) rfl) ?_
  refine wpList_nil ?_
  refine then_n ?_
  refine wp_seq ?_
  refine wp_seq ?_
  refine wp_region_lit ?_
  refine lv (d := 4) rfl rfl (by kernel_rfl) (e_assign (v := .int .i64 0) rfl) ?_
  refine wpList_nil ?_
  refine then_n ?_
  refine wp_block ?_
  refine wp_loop_g (fun k20 a21 w10 => ∃ (f11 : Nat → Value) (x12 : List UInt8) (x13 : Int), a21 = mk 64 f11 ∧ f11 0 = str x1 ∧ f11 3 = str x12 ∧ f11 4 = .int .i64 x13 ∧ St (anyOf []) H w [] H w10 ∧ impl_quoted.l0 k20 x1 x12 x13 = some r) k ⟨_, ([39] : List UInt8), 0, rfl, (by kernel_rfl), (by kernel_rfl), (by kernel_rfl), S7, M⟩ ?_
  clear M
  rintro k20 a21 w10 ⟨f11, x12, x13, rfl, e14, e15, e16, S17, M⟩
  rcases k20 with _ | k22
  · rw [impl_quoted.l0] at M
    cases M
  rw [impl_quoted.l0] at M
  refine wp_seq ?_
  refine wp_seq ?_
  refine wp_region_lit ?_
  refine lv (d := 12) rfl rfl (by kernel_rfl) (e_move (v := .int .i64 x13) (by exact e16)) ?_
  refine lv (d := 13) rfl rfl (by kernel_rfl) (e_move (v := str x1) (by exact e14)) ?_
  refine lv (d := 14) rfl rfl (by kernel_rfl) (e_slen (p := x1) Tryd.underlying9 (by kernel_rfl)) ?_
  refine lv (d := 15) rfl rfl (by kernel_rfl) (e_lss (k := .i64) (a := x13) (b := (x1.length : Int)) (by kernel_rfl) (by kernel_rfl)) ?_
  refine wpList_nil ?_
  refine then_n ?_
  by_cases q23 : x13 < (x1.length : Int)
  · replace M := ifp q23 M
    refine cond_t rfl (bt q23 (by kernel_rfl)) ?_
    refine wp_skip ?_
    refine then_n ?_
    refine wp_seq ?_
    refine wp_block ?_
    refine wp_seq ?_
    refine wp_region_lit ?_
    refine lv (d := 18) rfl rfl (by kernel_rfl) (e_move (v := str x1) (by exact e14)) ?_
    refine lv (d := 19) rfl rfl (by kernel_rfl) (e_move (v := .int .i64 x13) (by exact e16)) ?_
    obtain ⟨q24, M⟩ := chk M
    refine lv (d := 20) rfl rfl (by kernel_rfl) (e_sindex (p := x1) (i := x13) (k := .i64) Tryd.underlying9 (by kernel_rfl) (by kernel_rfl) q24 q23) ?_
    refine lv (d := 5) rfl rfl (by kernel_rfl) (e_assign (v := .int .u8 ((x1.getD (x13 : Int).toNat (0 : UInt8)).toNat : Int)) (by kernel_rfl)) ?_
    refine wpList_nil ?_
    refine then_n ?_
    refine wp_block ?_
    refine wp_seq ?_
    refine wp_region_lit ?_
    refine lv (d := 27) rfl rfl (by kernel_rfl) (e_move (v := .int .u8 ((x1.getD (x13 : Int).toNat (0 : UInt8)).toNat : Int)) (by kernel_rfl)) ?_
    refine lv (d := 28) rfl rfl (by kernel_rfl) (e_eql (k := .u8) (a := ((x1.getD (x13 : Int).toNat (0 : UInt8)).toNat : Int)) (b := 39) (by kernel_rfl) rfl) ?_
    refine lv (d := 29) rfl rfl (by kernel_rfl) (e_move (v := .bool (decide (((x1.getD (x13 : Int).toNat (0 : UInt8)).toNat : Int) = 39))) (by kernel_rfl)) ?_
    by_cases q25 : ((x1.getD (x13 : Int).toNat (0 : UInt8)).toNat : Int) = 39
    · replace M := ifp q25 M
      refine lskip (t := 29) (c := true) rfl (by kernel_rfl) rfl (bt q25 (by kernel_rfl)) rfl rfl ?_
      refine lskip (t := 29) (c := true) rfl (by kernel_rfl) rfl (bt q25 (by kernel_rfl)) rfl rfl ?_
      refine lv (d := 32) rfl rfl (by kernel_rfl) (e_pick_t (v := .bool true) (bt q25 (by kernel_rfl)) rfl) ?_
      refine lv (d := 26) rfl rfl (by kernel_rfl) (e_assign (v := .bool true) (by kernel_rfl)) ?_
      refine wpList_nil ?_
      refine then_n ?_
      refine cond_t rfl (by kernel_rfl) ?_
      refine wp_region_lit ?_
      refine lv (d := 33) rfl rfl (by kernel_rfl) (e_move (v := str x12) (by exact e15)) ?_
      refine lv (d := 34) rfl rfl (by kernel_rfl) (e_move (v := .int .u8 ((x1.getD (x13 : Int).toNat (0 : UInt8)).toNat : Int)) (by kernel_rfl)) ?_
      refine lv (d := 35) rfl rfl (by kernel_rfl) (e_conv_int (k := .u8) (a := ((x1.getD (x13 : Int).toNat (0 : UInt8)).toNat : Int)) (by kernel_rfl) Tryd.underlying21 (by kernel_rfl)) ?_
      refine lv (d := 36) rfl rfl (by kernel_rfl) (e_conv_rs (k := .i32) (a := (IntKind.i32.wrap (((x1.getD (x13 : Int).toNat (0 : UInt8)).toNat : Int)))) Tryd.underlying21 Tryd.underlying9 (by kernel_rfl)) ?_
      obtain ⟨q26, M⟩ := chk M
      refine lv (d := 37) rfl rfl (by kernel_rfl) (e_sadd (p := ([92] : List UInt8)) (q := (runeS (IntKind.i32.wrap (((x1.getD (x13 : Int).toNat (0 : UInt8)).toNat : Int))))) rfl (by kernel_rfl) q26) ?_
      obtain ⟨q27, M⟩ := chk M
      refine lv (d := 38) rfl rfl (by kernel_rfl) (e_sadd (p := x12) (q := (([92] : List UInt8) ++ (runeS (IntKind.i32.wrap (((x1.getD (x13 : Int).toNat (0 : UInt8)).toNat : Int)))))) (by kernel_rfl) (by kernel_rfl) q27) ?_
      refine lv (d := 3) rfl rfl (by kernel_rfl) (e_assign (v := str (x12 ++ (([92] : List UInt8) ++ (runeS (IntKind.i32.wrap (((x1.getD (x13 : Int).toNat (0 : UInt8)).toNat : Int))))))) (by kernel_rfl)) ?_
      refine wpList_nil ?_
      refine inb_n ?_
      refine inb_n ?_
      refine then_n ?_
      refine wp_region_lit ?_
      refine lv (d := 16) rfl rfl (by kernel_rfl) (e_move (v := .int .i64 x13) (by exact e16)) ?_
      refine lv (d := 17) rfl rfl (by kernel_rfl) (e_add (k := .i64) (a := x13) (b := 1) (by kernel_rfl) rfl) ?_
      refine lv (d := 4) rfl rfl (by kernel_rfl) (e_assign (v := .int .i64 (IntKind.i64.wrap (x13 + 1))) (by kernel_rfl)) ?_
      refine wpList_nil ?_
      refine then_n ?_
      exact ⟨k22, (by omega), _, (x12 ++ (([92] : List UInt8) ++ (runeS (IntKind.i32.wrap (((x1.getD (x13 : Int).toNat (0 : UInt8)).toNat : Int)))))), (IntKind.i64.wrap (x13 + 1)), rfl, (by exact e14), (by kernel_rfl), (by kernel_rfl), S17, M⟩
    replace M := ifn q25 M
    refine lvg (d := 30) (t := 29) rfl (by kernel_rfl) rfl (bf q25 (by kernel_rfl)) rfl (by kernel_rfl) (e_move (v := .int .u8 ((x1.getD (x13 : Int).toNat (0 : UInt8)).toNat : Int)) (by kernel_rfl)) ?_
    refine lvg (d := 31) (t := 29) rfl (by kernel_rfl) rfl (bf q25 (by kernel_rfl)) rfl (by kernel_rfl) (e_eql (k := .u8) (a := ((x1.getD (x13 : Int).toNat (0 : UInt8)).toNat : Int)) (b := 92) (by kernel_rfl) rfl) ?_
    refine lv (d := 32) rfl rfl (by kernel_rfl) (e_pick_f (v := .bool (decide (((x1.getD (x13 : Int).toNat (0 : UInt8)).toNat : Int) = 92))) (bf q25 (by kernel_rfl)) (by kernel_rfl)) ?_
    refine lv (d := 26) rfl rfl (by kernel_rfl) (e_assign (v := .bool (decide (((x1.getD (x13 : Int).toNat (0 : UInt8)).toNat : Int) = 92))) (by kernel_rfl)) ?_
    refine wpList_nil ?_
    refine then_n ?_
    by_cases q28 : ((x1.getD (x13 : Int).toNat (0 : UInt8)).toNat : Int) = 92
    · replace M := ifp q28 M
      refine cond_t rfl (bt q28 (by kernel_rfl)) ?_
      refine wp_region_lit ?_
      refine lv (d := 33) rfl rfl (by kernel_rfl) (e_move (v := str x12) (by exact e15)) ?_
      refine lv (d := 34) rfl rfl (by kernel_rfl) (e_move (v := .int .u8 ((x1.getD (x13 : Int).toNat (0 : UInt8)).toNat : Int)) (by kernel_rfl)) ?_
      refine lv (d := 35) rfl rfl (by kernel_rfl) (e_conv_int (k := .u8) (a := ((x1.getD (x13 : Int).toNat (0 : UInt8)).toNat : Int)) (by kernel_rfl) Tryd.underlying21 (by kernel_rfl)) ?_
      refine lv (d := 36) rfl rfl (by kernel_rfl) (e_conv_rs (k := .i32) (a := (IntKind.i32.wrap (((x1.getD (x13 : Int).toNat (0 : UInt8)).toNat : Int)))) Tryd.underlying21 Tryd.underlying9 (by kernel_rfl)) ?_
      obtain ⟨q29, M⟩ := chk M
      refine lv (d := 37) rfl rfl (by kernel_rfl) (e_sadd (p := ([92] : List UInt8)) (q := (runeS (IntKind.i32.wrap (((x1.getD (x13 : Int).toNat (0 : UInt8)).toNat : Int))))) rfl (by kernel_rfl) q29) ?_
      obtain ⟨q30, M⟩ := chk M
      refine lv (d := 38) rfl rfl (by kernel_rfl) (e_sadd (p := x12) (q := (([92] : List UInt8) ++ (runeS (IntKind.i32.wrap (((x1.getD (x13 : Int).toNat (0 : UInt8)).toNat : Int)))))) (by kernel_rfl) (by kernel_rfl) q30) ?_
      refine lv (d := 3) rfl rfl (by kernel_rfl) (e_assign (v := str (x12 ++ (([92] : List UInt8) ++ (runeS (IntKind.i32.wrap (((x1.getD (x13 : Int).toNat (0 : UInt8)).toNat : Int))))))) (by kernel_rfl)) ?_
      refine wpList_nil ?_
      refine inb_n ?_
      refine inb_n ?_
      refine then_n ?_
      refine wp_region_lit ?_
      refine lv (d := 16) rfl rfl (by kernel_rfl) (e_move (v := .int .i64 x13) (by exact e16)) ?_
      refine lv (d := 17) rfl rfl (by kernel_rfl) (e_add (k := .i64) (a := x13) (b := 1) (by kernel_rfl) rfl) ?_
      refine lv (d := 4) rfl rfl (by kernel_rfl) (e_assign (v := .int .i64 (IntKind.i64.wrap (x13 + 1))) (by kernel_rfl)) ?_
      refine wpList_nil ?_
      refine then_n ?_
      exact ⟨k22, (by omega), _, (x12 ++ (([92] : List UInt8) ++ (runeS (IntKind.i32.wrap (((x1.getD (x13 : Int).toNat (0 : UInt8)).toNat : Int)))))), (IntKind.i64.wrap (x13 + 1)), rfl, (by exact e14), (by kernel_rfl), (by kernel_rfl), S17, M⟩
    replace M := ifn q28 M
    refine cond_f rfl (bf q28 (by kernel_rfl)) ?_
    refine wp_seq ?_
    refine wp_region_lit ?_
    refine lv (d := 40) rfl rfl (by kernel_rfl) (e_move (v := .int .u8 ((x1.getD (x13 : Int).toNat (0 : UInt8)).toNat : Int)) (by kernel_rfl)) ?_
    refine lv (d := 41) rfl rfl (by kernel_rfl) (e_eql (k := .u8) (a := ((x1.getD (x13 : Int).toNat (0 : UInt8)).toNat : Int)) (b := 10) (by kernel_rfl) rfl) ?_
    refine lv (d := 39) rfl rfl (by kernel_rfl) (e_assign (v := .bool (decide (((x1.getD (x13 : Int).toNat (0 : UInt8)).toNat : Int) = 10))) (by kernel_rfl)) ?_
    refine wpList_nil ?_
    refine then_n ?_
    by_cases q31 : ((x1.getD (x13 : Int).toNat (0 : UInt8)).toNat : Int) = 10
    · replace M := ifp q31 M
      refine cond_t rfl (bt q31 (by kernel_rfl)) ?_
      refine wp_region_lit ?_
      refine lv (d := 42) rfl rfl (by kernel_rfl) (e_move (v := str x12) (by exact e15)) ?_
      obtain ⟨q32, M⟩ := chk M
      refine lv (d := 43) rfl rfl (by kernel_rfl) (e_sadd (p := x12) (q := ([92, 110] : List UInt8)) (by kernel_rfl) rfl q32) ?_
      refine lv (d := 3) rfl rfl (by kernel_rfl) (e_assign (v := str (x12 ++ ([92, 110] : List UInt8))) (by kernel_rfl)) ?_
      refine wpList_nil ?_
      refine inb_n ?_
      refine inb_n ?_
      refine then_n ?_
      refine wp_region_lit ?_
      refine lv (d := 16) rfl rfl (by kernel_rfl) (e_move (v := .int .i64 x13) (by exact e16)) ?_
      refine lv (d := 17) rfl rfl (by kernel_rfl) (e_add (k := .i64) (a := x13) (b := 1) (by kernel_rfl) rfl) ?_
      refine lv (d := 4) rfl rfl (by kernel_rfl) (e_assign (v := .int .i64 (IntKind.i64.wrap (x13 + 1))) (by kernel_rfl)) ?_
      refine wpList_nil ?_
      refine then_n ?_
      exact ⟨k22, (by omega), _, (x12 ++ ([92, 110] : List UInt8)), (IntKind.i64.wrap (x13 + 1)), rfl, (by exact e14), (by kernel_rfl), (by kernel_rfl), S17, M⟩
    replace M := ifn q31 M
    refine cond_f rfl (bf q31 (by kernel_rfl)) ?_
    refine wp_seq ?_
    refine wp_region_lit ?_
    refine lv (d := 45) rfl rfl (by kernel_rfl) (e_move (v := .int .u8 ((x1.getD (x13 : Int).toNat (0 : UInt8)).toNat : Int)) (by kernel_rfl)) ?_
    refine lv (d := 46) rfl rfl (by kernel_rfl) (e_eql (k := .u8) (a := ((x1.getD (x13 : Int).toNat (0 : UInt8)).toNat : Int)) (b := 9) (by kernel_rfl) rfl) ?_
    refine lv (d := 44) rfl rfl (by kernel_rfl) (e_assign (v := .bool (decide (((x1.getD (x13 : Int).toNat (0 : UInt8)).toNat : Int) = 9))) (by kernel_rfl)) ?_
    refine wpList_nil ?_
    refine then_n ?_
    by_cases q33 : ((x1.getD (x13 : Int).toNat (0 : UInt8)).toNat : Int) = 9
    · replace M := ifp q33 M
      refine cond_t rfl (bt q33 (by kernel_rfl)) ?_
      refine wp_region_lit ?_
      refine lv (d := 47) rfl rfl (by kernel_rfl) (e_move (v := str x12) (by exact e15)) ?_
      obtain ⟨q34, M⟩ := chk M
      refine lv (d := 48) rfl rfl (by kernel_rfl) (e_sadd (p := x12) (q := ([92, 116] : List UInt8)) (by kernel_rfl) rfl q34) ?_
      refine lv (d := 3) rfl rfl (by kernel_rfl) (e_assign (v := str (x12 ++ ([92, 116] : List UInt8))) (by kernel_rfl)) ?_
      refine wpList_nil ?_
      refine inb_n ?_
      refine inb_n ?_
      refine then_n ?_
      refine wp_region_lit ?_
      refine lv (d := 16) rfl rfl (by kernel_rfl) (e_move (v := .int .i64 x13) (by exact e16)) ?_
      refine lv (d := 17) rfl rfl (by kernel_rfl) (e_add (k := .i64) (a := x13) (b := 1) (by kernel_rfl) rfl) ?_
      refine lv (d := 4) rfl rfl (by kernel_rfl) (e_assign (v := .int .i64 (IntKind.i64.wrap (x13 + 1))) (by kernel_rfl)) ?_
      refine wpList_nil ?_
      refine then_n ?_
      exact ⟨k22, (by omega), _, (x12 ++ ([92, 116] : List UInt8)), (IntKind.i64.wrap (x13 + 1)), rfl, (by exact e14), (by kernel_rfl), (by kernel_rfl), S17, M⟩
    replace M := ifn q33 M
    refine cond_f rfl (bf q33 (by kernel_rfl)) ?_
    refine wp_seq ?_
    refine wp_region_lit ?_
    refine lv (d := 50) rfl rfl (by kernel_rfl) (e_move (v := .int .u8 ((x1.getD (x13 : Int).toNat (0 : UInt8)).toNat : Int)) (by kernel_rfl)) ?_
    refine lv (d := 51) rfl rfl (by kernel_rfl) (e_lss (k := .u8) (a := ((x1.getD (x13 : Int).toNat (0 : UInt8)).toNat : Int)) (b := 32) (by kernel_rfl) rfl) ?_
    refine lv (d := 52) rfl rfl (by kernel_rfl) (e_move (v := .bool (decide (((x1.getD (x13 : Int).toNat (0 : UInt8)).toNat : Int) < 32))) (by kernel_rfl)) ?_
    by_cases q35 : ((x1.getD (x13 : Int).toNat (0 : UInt8)).toNat : Int) < 32
    · replace M := ifp q35 M
      refine lskip (t := 52) (c := true) rfl (by kernel_rfl) rfl (bt q35 (by kernel_rfl)) rfl rfl ?_
      refine lskip (t := 52) (c := true) rfl (by kernel_rfl) rfl (bt q35 (by kernel_rfl)) rfl rfl ?_
      refine lv (d := 55) rfl rfl (by kernel_rfl) (e_pick_t (v := .bool true) (bt q35 (by kernel_rfl)) rfl) ?_
      refine lv (d := 49) rfl rfl (by kernel_rfl) (e_assign (v := .bool true) (by kernel_rfl)) ?_
      refine wpList_nil ?_
      refine then_n ?_
      refine cond_t rfl (by kernel_rfl) ?_
      refine wp_region_lit ?_
      refine lv (d := 56) rfl rfl (by kernel_rfl) (e_move (v := str x12) (by exact e15)) ?_
      refine lv (d := 57) rfl rfl (by kernel_rfl) (e_move (v := .int .u8 ((x1.getD (x13 : Int).toNat (0 : UInt8)).toNat : Int)) (by kernel_rfl)) ?_
      obtain ⟨t36, u37, M⟩ := bnd M
      refine lcall (d := 58) rfl rfl (by kernel_rfl) (e_call (l := [.tmp 57]) (vs := [.int .u8 ((x1.getD (x13 : Int).toNat (0 : UInt8)).toNat : Int)]) Tryd.func17 (by kernel_rfl) rfl (by kernel_rfl) rfl) (impl_hex2.calls w10 H (x1.getD (x13 : Int).toNat (0 : UInt8)) hL_ S17.own0 t36 u37) ?_
      rintro _ w38 ⟨rfl, C39⟩
      refine ⟨_, rfl, ?_⟩
      obtain ⟨S40, K41⟩ := S17.still C39
      obtain ⟨q42, M⟩ := chk M
      refine lv (d := 59) rfl rfl (by kernel_rfl) (e_sadd (p := ([92, 120] : List UInt8)) (q := t36) rfl (by kernel_rfl) q42) ?_
      obtain ⟨q43, M⟩ := chk M
      refine lv (d := 60) rfl rfl (by kernel_rfl) (e_sadd (p := (([92, 120] : List UInt8) ++ t36)) (q := ([92] : List UInt8)) (by kernel_rfl) rfl q43) ?_
      obtain ⟨q44, M⟩ := chk M
      refine lv (d := 61) rfl rfl (by kernel_rfl) (e_sadd (p := x12) (q := ((([92, 120] : List UInt8) ++ t36) ++ ([92] : List UInt8))) (by kernel_rfl) (by kernel_rfl) q44) ?_
      refine lv (d := 3) rfl rfl (by kernel_rfl) (e_assign (v := str (x12 ++ ((([92, 120] : List UInt8) ++ t36) ++ ([92] : List UInt8)))) (by kernel_rfl)) ?_
      refine wpList_nil ?_
      refine inb_n ?_
      refine inb_n ?_
      refine then_n ?_
      refine wp_region_lit ?_
      refine lv (d := 16) rfl rfl (by kernel_rfl) (e_move (v := .int .i64 x13) (by exact e16)) ?_
      refine lv (d := 17) rfl rfl (by kernel_rfl) (e_add (k := .i64) (a := x13) (b := 1) (by kernel_rfl) rfl) ?_
      refine lv (d := 4) rfl rfl (by kernel_rfl) (e_assign (v := .int .i64 (IntKind.i64.wrap (x13 + 1))) (by kernel_rfl)) ?_
      refine wpList_nil ?_
      refine then_n ?_
      exact ⟨k22, (by omega), _, (x12 ++ ((([92, 120] : List UInt8) ++ t36) ++ ([92] : List UInt8))), (IntKind.i64.wrap (x13 + 1)), rfl, (by exact e14), (by kernel_rfl), (by kernel_rfl), S40, M⟩
    replace M := ifn q35 M
    refine lvg (d := 53) (t := 52) rfl (by kernel_rfl) rfl (bf q35 (by kernel_rfl)) rfl (by kernel_rfl) (e_move (v := .int .u8 ((x1.getD (x13 : Int).toNat (0 : UInt8)).toNat : Int)) (by kernel_rfl)) ?_
    refine lvg (d := 54) (t := 52) rfl (by kernel_rfl) rfl (bf q35 (by kernel_rfl)) rfl (by kernel_rfl) (e_gtr (k := .u8) (a := ((x1.getD (x13 : Int).toNat (0 : UInt8)).toNat : Int)) (b := 126) (by kernel_rfl) rfl) ?_
    refine lv (d := 55) rfl rfl (by kernel_rfl) (e_pick_f (v := .bool (decide (((x1.getD (x13 : Int).toNat (0 : UInt8)).toNat : Int) > 126))) (bf q35 (by kernel_rfl)) (by kernel_rfl)) ?_
    refine lv (d := 49) rfl rfl (by kernel_rfl) (e_assign (v := .bool (decide (((x1.getD (x13 : Int).toNat (0 : UInt8)).toNat : Int) > 126))) (by kernel_rfl)) ?_
    refine wpList_nil ?_
    refine then_n ?_
    by_cases q45 : ((x1.getD (x13 : Int).toNat (0 : UInt8)).toNat : Int) > 126
    · replace M := ifp q45 M
      refine cond_t rfl (bt q45 (by kernel_rfl)) ?_
      refine wp_region_lit ?_
      refine lv (d := 56) rfl rfl (by kernel_rfl) (e_move (v := str x12) (by exact e15)) ?_
      refine lv (d := 57) rfl rfl (by kernel_rfl) (e_move (v := .int .u8 ((x1.getD (x13 : Int).toNat (0 : UInt8)).toNat : Int)) (by kernel_rfl)) ?_
      obtain ⟨t46, u47, M⟩ := bnd M
      refine lcall (d := 58) rfl rfl (by kernel_rfl) (e_call (l := [.tmp 57]) (vs := [.int .u8 ((x1.getD (x13 : Int).toNat (0 : UInt8)).toNat : Int)]) Tryd.func17 (by kernel_rfl) rfl (by kernel_rfl) rfl) (impl_hex2.calls w10 H (x1.getD (x13 : Int).toNat (0 : UInt8)) hL_ S17.own0 t46 u47) ?_
      rintro _ w48 ⟨rfl, C49⟩
      refine ⟨_, rfl, ?_⟩
      obtain ⟨S50, K51⟩ := S17.still C49
      obtain ⟨q52, M⟩ := chk M
      refine lv (d := 59) rfl rfl (by kernel_rfl) (e_sadd (p := ([92, 120] : List UInt8)) (q := t46) rfl (by kernel_rfl) q52) ?_
      obtain ⟨q53, M⟩ := chk M
      refine lv (d := 60) rfl rfl (by kernel_rfl) (e_sadd (p := (([92, 120] : List UInt8) ++ t46)) (q := ([92] : List UInt8)) (by kernel_rfl) rfl q53) ?_
      obtain ⟨q54, M⟩ := chk M
      refine lv (d := 61) rfl rfl (by kernel_rfl) (e_sadd (p := x12) (q := ((([92, 120] : List UInt8) ++ t46) ++ ([92] : List UInt8))) (by kernel_rfl) (by kernel_rfl) q54) ?_
      refine lv (d := 3) rfl rfl (by kernel_rfl) (e_assign (v := str (x12 ++ ((([92, 120] : List UInt8) ++ t46) ++ ([92] : List UInt8)))) (by kernel_rfl)) ?_
      refine wpList_nil ?_
      refine inb_n ?_
      refine inb_n ?_
      refine then_n ?_
      refine wp_region_lit ?_
      refine lv (d := 16) rfl rfl (by kernel_rfl) (e_move (v := .int .i64 x13) (by exact e16)) ?_
      refine lv (d := 17) rfl rfl (by kernel_rfl) (e_add (k := .i64) (a := x13) (b := 1) (by kernel_rfl) rfl) ?_
      refine lv (d := 4) rfl rfl (by kernel_rfl) (e_assign (v := .int .i64 (IntKind.i64.wrap (x13 + 1))) (by kernel_rfl)) ?_
      refine wpList_nil ?_
      refine then_n ?_
      exact ⟨k22, (by omega), _, (x12 ++ ((([92, 120] : List UInt8) ++ t46) ++ ([92] : List UInt8))), (IntKind.i64.wrap (x13 + 1)), rfl, (by exact e14), (by kernel_rfl), (by kernel_rfl), S50, M⟩
    replace M := ifn q45 M
    refine cond_f rfl (bf q45 (by kernel_rfl)) ?_
    refine wp_region_lit ?_
    refine lv (d := 21) rfl rfl (by kernel_rfl) (e_move (v := str x12) (by exact e15)) ?_
    refine lv (d := 22) rfl rfl (by kernel_rfl) (e_move (v := .int .u8 ((x1.getD (x13 : Int).toNat (0 : UInt8)).toNat : Int)) (by kernel_rfl)) ?_
    refine lv (d := 23) rfl rfl (by kernel_rfl) (e_conv_int (k := .u8) (a := ((x1.getD (x13 : Int).toNat (0 : UInt8)).toNat : Int)) (by kernel_rfl) Tryd.underlying21 (by kernel_rfl)) ?_
    refine lv (d := 24) rfl rfl (by kernel_rfl) (e_conv_rs (k := .i32) (a := (IntKind.i32.wrap (((x1.getD (x13 : Int).toNat (0 : UInt8)).toNat : Int)))) Tryd.underlying21 Tryd.underlying9 (by kernel_rfl)) ?_
    obtain ⟨q55, M⟩ := chk M
    refine lv (d := 25) rfl rfl (by kernel_rfl) (e_sadd (p := x12) (q := (runeS (IntKind.i32.wrap (((x1.getD (x13 : Int).toNat (0 : UInt8)).toNat : Int))))) (by kernel_rfl) (by kernel_rfl) q55) ?_
    refine lv (d := 3) rfl rfl (by kernel_rfl) (e_assign (v := str (x12 ++ (runeS (IntKind.i32.wrap (((x1.getD (x13 : Int).toNat (0 : UInt8)).toNat : Int)))))) (by kernel_rfl)) ?_
    refine wpList_nil ?_
    refine inb_n ?_
    refine inb_n ?_
    refine then_n ?_
    refine wp_region_lit ?_
    refine lv (d := 16) rfl rfl (by kernel_rfl) (e_move (v := .int .i64 x13) (by exact e16)) ?_
    refine lv (d := 17) rfl rfl (by kernel_rfl) (e_add (k := .i64) (a := x13) (b := 1) (by kernel_rfl) rfl) ?_
    refine lv (d := 4) rfl rfl (by kernel_rfl) (e_assign (v := .int .i64 (IntKind.i64.wrap (x13 + 1))) (by kernel_rfl)) ?_
    refine wpList_nil ?_
    refine then_n ?_
    exact ⟨k22, (by omega), _, (x12 ++ (runeS (IntKind.i32.wrap (((x1.getD (x13 : Int).toNat (0 : UInt8)).toNat : Int))))), (IntKind.i64.wrap (x13 + 1)), rfl, (by exact e14), (by kernel_rfl), (by kernel_rfl), S17, M⟩
  replace M := ifn q23 M
  refine cond_f rfl (bf q23 (by kernel_rfl)) ?_
  refine wp_exit ?_
  refine then_e ?_
  refine then_e ?_
  refine inb_hit ?_
  refine then_n ?_
  refine wp_seq ?_
  refine wp_region_lit ?_
  refine lv (d := 62) rfl rfl (by kernel_rfl) (e_move (v := str x12) (by exact e15)) ?_
  obtain ⟨q56, M⟩ := chk M
  refine lv (d := 63) rfl rfl (by kernel_rfl) (e_sadd (p := x12) (q := ([39] : List UInt8)) (by kernel_rfl) rfl q56) ?_
  refine lv (d := 2) rfl rfl (by kernel_rfl) (e_assign (v := str (x12 ++ ([39] : List UInt8))) (by kernel_rfl)) ?_
  refine wpList_nil ?_
  refine then_n ?_
  refine wp_ret ?_
  obtain rfl := Option.some.inj M
  exact ret1 rfl rfl  (show _ = str (x12 ++ ([39] : List UInt8)) from (by kernel_rfl)) ⟨rfl, S17.chg⟩

/-! impl_QuoteAtom -/
def impl_QuoteAtom.f (k : Nat) (x1 : List UInt8) : Option (List UInt8) := ((impl_quoted.f k x1).bind fun t6 => (if t6.length ≤ 9223372036854775807 then some t6 else none))
theorem impl_QuoteAtom.calls (k : Nat) (w : World) (H : Hp) (x1 : List UInt8) (A2 : Option Addr) (c3 : Nat) (h4 : Rd tByte H A2 x1) (l5 : x1.length ≤ c3) (hL_ : Laid H) (S : Own [] H w) (r : List UInt8) (M : impl_QuoteAtom.f k x1 = some r) :
    Calls Tryd.prog 6 #[.slice A2 x1.length c3] w (fun e e_w => ∃ (A_1 : Option Addr) (c_1 : Nat) (F_1 : Foot) (H_ : Hp), e = .returned (.slice A_1 r.length c_1) ∧ Row tByte 5 H_ (hp e_w) F_1 A_1 c_1 r ∧ St (anyOf []) H w [F_1] H_ e_w) := by
  rw [impl_QuoteAtom.f] at M
  refine enter (l := [.slice A2 x1.length c3]) 7 Tryd.func6 rfl rfl rfl ?_
  have S0_ := S.st
  refine wp_seq ?_
  refine wp_region_lit ?_
  refine lv (d := 2) rfl rfl (by kernel_rfl) (e_assign (v := .slice none 0 0) rfl) ?_
  refine wpList_nil ?_
  refine then_n ?_
  refine wp_seq ?_
  refine wp_region_lit ?_
  refine lv (d := 3) rfl rfl (by kernel_rfl) (e_move (v := .slice A2 x1.length c3) (by kernel_rfl)) ?_
  refine lv (d := 4) rfl rfl (by kernel_rfl) (e_conv_bs (A := A2) (n := x1.length) (c := c3) (xs := x1) Tryd.underlying22 Tryd.underlying5 Tryd.underlying9 (by kernel_rfl) rfl (Rd.bytesE S0_.inv h4)) ?_
  obtain ⟨t6, u7, M⟩ := bnd M
  refine lcall (d := 5) rfl rfl (by kernel_rfl) (e_call (l := [.tmp 4]) (vs := [str x1]) Tryd.func13 (by kernel_rfl) rfl (by kernel_rfl) rfl) (impl_quoted.calls k w H x1 hL_ S0_.own0 t6 u7) ?_
  rintro _ w8 ⟨rfl, C9⟩
  refine ⟨_, rfl, ?_⟩
  obtain ⟨S10, K11⟩ := S0_.still C9
  obtain ⟨q12, M⟩ := chk M
  refine lve (d := 6) rfl rfl (by kernel_rfl) (e_conv_sb (xs := t6) S10 Tryd.underlying9 Tryd.underlying22 Tryd.underlying5 (by kernel_rfl) q12) ?_
  rintro _ w13 ⟨A14, c15, F16, rfl, h17, S18, K19⟩
  refine lv (d := 2) rfl rfl (by kernel_rfl) (e_assign (v := .slice A14 t6.length c15) (by kernel_rfl)) ?_
  refine wpList_nil ?_
  refine then_n ?_
  refine wp_ret ?_
  obtain rfl := Option.some.inj M
  exact ret1 rfl rfl  (show _ = .slice A14 t6.length c15 from (by kernel_rfl)) ⟨A14, c15, F16, H, rfl, h17, S18⟩

/-! laws_eqByteS -/
def laws_eqByteS.l0 : Nat → (List UInt8) → (List UInt8) → Int → Option Bool
  | 0, _, _, _ => none
  | k23 + 1, x1, x6, x14 => (if x14 < (x1.length : Int) then (if 0 ≤ x14 then (if x14 < (x6.length : Int) then (if ((x1.getD ((x14).toNat) (0 : UInt8)).toNat : Int) ≠ ((x6.getD ((x14).toNat) (0 : UInt8)).toNat : Int) then some false else (laws_eqByteS.l0 k23 x1 x6 (IntKind.i64.wrap (x14 + 1)))) else none) else none) else some true)
def laws_eqByteS.f (k : Nat) (x1 : List UInt8) (x6 : List UInt8) : Option Bool := (if (x1.length : Int) ≠ (x6.length : Int) then some false else (laws_eqByteS.l0 k x1 x6 0))
theorem laws_eqByteS.calls (k : Nat) (w : World) (H : Hp) (x1 : List UInt8) (A2 : Option Addr) (c3 : Nat) (x6 : List UInt8) (A7 : Option Addr) (c8 : Nat) (h4 : Rd tByte H A2 x1) (l5 : x1.length ≤ c3) (h9 : Rd tByte H A7 x6) (l10 : x6.length ≤ c8) (S : Own [] H w) (r : Bool) (M : laws_eqByteS.f k x1 x6 = some r) :
    Calls Tryd.prog 7 #[.slice A2 x1.length c3, .slice A7 x6.length c8] w (fun e e_w => e = .returned (.bool r) ∧ Chg no w e_w) := by
  rw [laws_eqByteS.f] at M
  refine enter (l := [.slice A2 x1.length c3, .slice A7 x6.length c8]) 26 Tryd.func7 rfl rfl rfl ?_
  have S0_ := S.st
  refine wp_seq ?_
  refine wp_region_lit ?_
  refine lv (d := 4) rfl rfl (by kernel_rfl) (e_assign (v := .bool false) rfl) ?_
  refine wpList_nil ?_
  refine then_n ?_
  refine wp_seq ?_
  refine wp_seq ?_
  refine wp_region_lit ?_
  refine lv (d := 6) rfl rfl (by kernel_rfl) (e_move (v := .slice A2 x1.length c3) (by kernel_rfl)) ?_
  refine lv (d := 7) rfl rfl (by kernel_rfl) (e_len (A := A2) (n := x1.length) (c := c3) Tryd.underlying22 (by kernel_rfl)) ?_
  refine lv (d := 8) rfl rfl (by kernel_rfl) (e_move (v := .slice A7 x6.length c8) (by kernel_rfl)) ?_
  refine lv (d := 9) rfl rfl (by kernel_rfl) (e_len (A := A7) (n := x6.length) (c := c8) Tryd.underlying22 (by kernel_rfl)) ?_
  refine lv (d := 10) rfl rfl (by kernel_rfl) (e_neq (k := .i64) (a := (x1.length : Int)) (b := (x6.length : Int)) (by kernel_rfl) (by kernel_rfl)) ?_
  refine wpList_nil ?_
  refine then_n ?_
  by_cases q11 : (x1.length : Int) ≠ (x6.length : Int)
  · replace M := ifp q11 M
    refine cond_t rfl (bt q11 (by kernel_rfl)) ?_
    refine wp_seq ?_
    refine wp_region_lit ?_
    refine lv (d := 4) rfl rfl (by kernel_rfl) (e_assign (v := .bool false) rfl) ?_
    refine wpList_nil ?_
    refine then_n ?_
    refine wp_ret ?_
    refine then_r ?_
    obtain rfl := Option.some.inj M
    exact ret1 rfl rfl  (show _ = .bool false from (by kernel_rfl)) ⟨rfl, S0_.chg⟩
  replace M := ifn q11 M
  refine cond_f rfl (bf q11 (by kernel_rfl)) ?_
  refine wp_skip ?_
  refine then_n ?_
  refine wp_seq ?_
  refine wp_seq ?_
  refine wp_region_lit ?_
  refine lv (d := 5) rfl rfl (by kernel_rfl) (e_assign (v := .int .i64 0) rfl) ?_
  refine wpList_nil ?_
  refine then_n ?_
  refine wp_block ?_
  refine wp_loop_g (fun k21 a22 w12 => ∃ (f13 : Nat → Value) (x14 : Int), a22 = mk 26 f13 ∧ f13 0 = .slice A2 x1.length c3 ∧ f13 1 = .slice A7 x6.length c8 ∧ f13 5 = .int .i64 x14 ∧ St (anyOf []) H w [] H w12 ∧ laws_eqByteS.l0 k21 x1 x6 x14 = some r) k ⟨_, 0, rfl, (by kernel_rfl), (by kernel_rfl), (by kernel_rfl), S0_, M⟩ ?_
  clear M
  rintro k21 a22 w12 ⟨f13, x14, rfl, e15, e16, e17, S18, M⟩
  rcases k21 with _ | k23
  · rw [laws_eqByteS.l0] at M
    cases M
  rw [laws_eqByteS.l0] at M
  refine wp_seq ?_
  refine wp_seq ?_
  refine wp_region_lit ?_
  refine lv (d := 11) rfl rfl (by kernel_rfl) (e_move (v := .int .i64 x14) (by exact e17)) ?_
  refine lv (d := 12) rfl rfl (by kernel_rfl) (e_move (v := .slice A2 x1.length c3) (by exact e15)) ?_
  refine lv (d := 13) rfl rfl (by kernel_rfl) (e_len (A := A2) (n := x1.length) (c := c3) Tryd.underlying22 (by kernel_rfl)) ?_
  refine lv (d := 14) rfl rfl (by kernel_rfl) (e_lss (k := .i64) (a := x14) (b := (x1.length : Int)) (by kernel_rfl) (by kernel_rfl)) ?_
  refine wpList_nil ?_
  refine then_n ?_
  by_cases q24 : x14 < (x1.length : Int)
  · replace M := ifp q24 M
    refine cond_t rfl (bt q24 (by kernel_rfl)) ?_
    refine wp_skip ?_
    refine then_n ?_
    refine wp_seq ?_
    refine wp_block ?_
    refine wp_seq ?_
    refine region_still (by kernel_rfl) (by kernel_rfl) S18 ?_
    intro w25 S26 K27
    refine sv (d := 17) rfl rfl (by kernel_rfl) (e_move (v := .slice A2 x1.length c3) (by exact e15)) ?_
    refine sv (d := 18) rfl rfl (by kernel_rfl) (e_move (v := .int .i64 x14) (by exact e17)) ?_
    obtain ⟨q28, M⟩ := chk M
    obtain ⟨b29, o30, e31⟩ := Rd.addr h4 (show (x14).toNat < x1.length by omega)
    obtain ⟨y32, r33, k34⟩ := Rd.at h4 e31 (getD_some (0 : UInt8) (show (x14).toNat < x1.length by omega))
    obtain rfl := r33
    refine sv (d := 19) rfl rfl (by kernel_rfl) (e_indexAddr (b := b29) (off := o30) (n := x1.length) (c := c3) (sz := 1) (i := x14) (k := .i64) Tryd.underlying22 e31 (by kernel_rfl) (by kernel_rfl) (by kernel_rfl) q28 q24) ?_
    refine sv (d := 20) rfl rfl (by kernel_rfl) (e_load1 (ad := ⟨b29, o30 + (x14 : Int).toNat * 1, none⟩) (v := .int .u8 ((x1.getD ((x14).toNat) (0 : UInt8)).toNat : Int)) Tryd.underlying5 rfl (by kernel_rfl) (hpx (S26.inv.cell (k34 0 _ rfl)))) ?_
    refine sv (d := 21) rfl rfl (by kernel_rfl) (e_move (v := .slice A7 x6.length c8) (by exact e16)) ?_
    refine sv (d := 22) rfl rfl (by kernel_rfl) (e_move (v := .int .i64 x14) (by exact e17)) ?_
    obtain ⟨q35, M⟩ := chk M
    obtain ⟨b36, o37, e38⟩ := Rd.addr h9 (show (x14).toNat < x6.length by omega)
    obtain ⟨y39, r40, k41⟩ := Rd.at h9 e38 (getD_some (0 : UInt8) (show (x14).toNat < x6.length by omega))
    obtain rfl := r40
    refine sv (d := 23) rfl rfl (by kernel_rfl) (e_indexAddr (b := b36) (off := o37) (n := x6.length) (c := c8) (sz := 1) (i := x14) (k := .i64) Tryd.underlying22 e38 (by kernel_rfl) (by kernel_rfl) (by kernel_rfl) q28 q35) ?_
    refine sv (d := 24) rfl rfl (by kernel_rfl) (e_load1 (ad := ⟨b36, o37 + (x14 : Int).toNat * 1, none⟩) (v := .int .u8 ((x6.getD ((x14).toNat) (0 : UInt8)).toNat : Int)) Tryd.underlying5 rfl (by kernel_rfl) (hpx (S26.inv.cell (k41 0 _ rfl)))) ?_
    refine sv (d := 25) rfl rfl (by kernel_rfl) (e_neq (k := .u8) (a := ((x1.getD ((x14).toNat) (0 : UInt8)).toNat : Int)) (b := ((x6.getD ((x14).toNat) (0 : UInt8)).toNat : Int)) (by kernel_rfl) (by kernel_rfl)) ?_
    refine wpStill_nil ?_
    refine then_n ?_
    by_cases q42 : ((x1.getD ((x14).toNat) (0 : UInt8)).toNat : Int) ≠ ((x6.getD ((x14).toNat) (0 : UInt8)).toNat : Int)
    · replace M := ifp q42 M
      refine cond_t rfl (bt q42 (by kernel_rfl)) ?_
      refine wp_seq ?_
      refine wp_region_lit ?_
      refine lv (d := 4) rfl rfl (by kernel_rfl) (e_assign (v := .bool false) rfl) ?_
      refine wpList_nil ?_
      refine then_n ?_
      refine wp_ret ?_
      refine inb_r ?_
      refine then_r ?_
      refine then_r ?_
      refine inb_r ?_
      refine then_r ?_
      obtain rfl := Option.some.inj M
      exact ret1 rfl rfl  (show _ = .bool false from (by kernel_rfl)) ⟨rfl, S26.chg⟩
    replace M := ifn q42 M
    refine cond_f rfl (bf q42 (by kernel_rfl)) ?_
    refine wp_skip ?_
    refine inb_n ?_
    refine then_n ?_
    refine wp_region_lit ?_
    refine lv (d := 15) rfl rfl (by kernel_rfl) (e_move (v := .int .i64 x14) (by exact e17)) ?_
    refine lv (d := 16) rfl rfl (by kernel_rfl) (e_add (k := .i64) (a := x14) (b := 1) (by kernel_rfl) rfl) ?_
    refine lv (d := 5) rfl rfl (by kernel_rfl) (e_assign (v := .int .i64 (IntKind.i64.wrap (x14 + 1))) (by kernel_rfl)) ?_
    refine wpList_nil ?_
    refine then_n ?_
    exact ⟨k23, (by omega), _, (IntKind.i64.wrap (x14 + 1)), rfl, (by exact e15), (by exact e16), (by kernel_rfl), S26, M⟩
  replace M := ifn q24 M
  refine cond_f rfl (bf q24 (by kernel_rfl)) ?_
  refine wp_exit ?_
  refine then_e ?_
  refine then_e ?_
  refine inb_hit ?_
  refine then_n ?_
  refine wp_seq ?_
  refine wp_region_lit ?_
  refine lv (d := 4) rfl rfl (by kernel_rfl) (e_assign (v := .bool true) rfl) ?_
  refine wpList_nil ?_
  refine then_n ?_
  refine wp_ret ?_
  obtain rfl := Option.some.inj M
  exact ret1 rfl rfl  (show _ = .bool true from (by kernel_rfl)) ⟨rfl, S18.chg⟩

/-! laws_markByteS -/
def laws_markByteS_2.l0 : Nat → (List UInt8) → Int → Int → (List UInt8) → Option (Int × (List UInt8))
  | 0, _, _, _, _ => none
  | k22 + 1, x1, x9, x10, x12 => (if x10 < (x1.length : Int) then (if 0 ≤ x10 then (laws_markByteS_2.l0 k22 x1 (IntKind.i64.wrap (x9 + 1)) (IntKind.i64.wrap (x10 + 1)) (x12.set ((x10).toNat) (b8 (x9)))) else none) else some (x9, x12))
def laws_markByteS_2.f (k : Nat) (x1 : List UInt8) (x6 : Int) : Option (Int × (List UInt8)) := (laws_markByteS_2.l0 k x1 x6 0 x1)
theorem laws_markByteS_2.calls (k : Nat) (w : World) (H : Hp) (x1 : List UInt8) (A2 : Option Addr) (c3 : Nat) (F5 : Foot) (x6 : Int) (h4 : Row tByte 5 H (hp w) F5 A2 c3 x1) (S : Own [F5] H w) (r : Int × (List UInt8)) (M : laws_markByteS_2.f k x1 x6 = some r) :
    Calls Tryd.prog 8 #[.slice A2 x1.length c3, .int .i64 x6] w (fun e e_w => ∃ (F_1 : Foot) (H_ : Hp), e = .returned (.int .i64 r.1) ∧ r.2.length = x1.length ∧ Row tByte 5 H_ (hp e_w) F_1 A2 c3 r.2 ∧ St (anyOf [F5]) H w [F_1] H_ e_w) := by
  rw [laws_markByteS_2.f] at M
  refine enter (l := [.slice A2 x1.length c3, .int .i64 x6]) 20 Tryd.func8 rfl rfl rfl ?_
  have S0_ := S.st
  refine wp_seq ?_
  refine wp_region_lit ?_
  refine lv (d := 4) rfl rfl (by kernel_rfl) (e_assign (v := .int .i64 0) rfl) ?_
  refine wpList_nil ?_
  refine then_n ?_
  refine wp_seq ?_
  refine wp_seq ?_
  refine wp_region_lit ?_
  refine lv (d := 5) rfl rfl (by kernel_rfl) (e_assign (v := .int .i64 0) rfl) ?_
  refine wpList_nil ?_
  refine then_n ?_
  refine wp_block ?_
  refine wp_loop_g (fun k20 a21 w7 => ∃ (f8 : Nat → Value) (x9 : Int) (x10 : Int) (F11 : Foot) (x12 : List UInt8), a21 = mk 20 f8 ∧ f8 0 = .slice A2 x1.length c3 ∧ f8 1 = .int .i64 x9 ∧ f8 5 = .int .i64 x10 ∧ Row tByte 5 H (hp w7) F11 A2 c3 x12 ∧ x12.length = x1.length ∧ St (anyOf [F5]) H w [F11] H w7 ∧ laws_markByteS_2.l0 k20 x1 x9 x10 x12 = some r) k ⟨_, x6, 0, F5, x1, rfl, (by kernel_rfl), (by kernel_rfl), (by kernel_rfl), h4, rfl, S0_, M⟩ ?_
  clear M
  rintro k20 a21 w7 ⟨f8, x9, x10, F11, x12, rfl, e14, e15, e16, h4, n13, S17, M⟩
  rcases k20 with _ | k22
  · rw [laws_markByteS_2.l0] at M
    cases M
  rw [laws_markByteS_2.l0] at M
  refine wp_seq ?_
  refine wp_seq ?_
  refine wp_region_lit ?_
  refine lv (d := 6) rfl rfl (by kernel_rfl) (e_move (v := .int .i64 x10) (by exact e16)) ?_
  refine lv (d := 7) rfl rfl (by kernel_rfl) (e_move (v := .slice A2 x1.length c3) (by exact e14)) ?_
  refine lv (d := 8) rfl rfl (by kernel_rfl) (e_len (A := A2) (n := x1.length) (c := c3) Tryd.underlying22 (by kernel_rfl)) ?_
  refine lv (d := 9) rfl rfl (by kernel_rfl) (e_lss (k := .i64) (a := x10) (b := (x1.length : Int)) (by kernel_rfl) (by kernel_rfl)) ?_
  refine wpList_nil ?_
  refine then_n ?_
  by_cases q23 : x10 < (x1.length : Int)
  · replace M := ifp q23 M
    refine cond_t rfl (bt q23 (by kernel_rfl)) ?_
    refine wp_skip ?_
    refine then_n ?_
    refine wp_seq ?_
    refine wp_block ?_
    refine wp_seq ?_
    refine wp_region_lit ?_
    refine lv (d := 12) rfl rfl (by kernel_rfl) (e_move (v := .slice A2 x1.length c3) (by exact e14)) ?_
    refine lv (d := 13) rfl rfl (by kernel_rfl) (e_move (v := .int .i64 x10) (by exact e16)) ?_
    refine lv (d := 14) rfl rfl (by kernel_rfl) (e_move (v := .int .i64 x9) (by exact e15)) ?_
    refine lv (d := 15) rfl rfl (by kernel_rfl) (e_conv_i8 (k := .i64) (a := x9) (by kernel_rfl) Tryd.underlying5 (by kernel_rfl)) ?_
    obtain ⟨q24, M⟩ := chk M
    obtain ⟨b25, e27⟩ := Row.addr h4 (show (x10).toNat < x12.length by have : x12.length = x1.length := n13; omega)
    refine lv (d := 16) rfl rfl (by kernel_rfl) (e_indexAddr (b := b25) (off := 0) (n := x1.length) (c := c3) (sz := 1) (i := x10) (k := .i64) Tryd.underlying22 e27 (by kernel_rfl) (by kernel_rfl) (by kernel_rfl) q24 q23) ?_
    have S28 := S17.unit
    have S29 := S28.pull (F := F11) (Fr := [no]) 1 rfl rfl
    refine lse rfl rfl (by kernel_rfl) (e_setel (d := tByte) (b := b25) (i := (x10).toNat) (v := .int .u8 ((b8 (x9)).toNat : Int)) (vs := [.int .u8 ((b8 (x9)).toNat : Int)]) (yv := (b8 (x9))) S29 (by kernel_rfl) e27 (by kernel_rfl) rfl (by kernel_rfl) h4 (show (x10).toNat < x12.length by have : x12.length = x1.length := n13; omega) rfl) ?_
    rintro w30 ⟨F32, h31, S33, K34⟩
    clear h4
    refine wpList_nil ?_
    refine then_n ?_
    refine wp_region_lit ?_
    refine lv (d := 17) rfl rfl (by kernel_rfl) (e_move (v := .int .i64 x9) (by exact e15)) ?_
    refine lv (d := 18) rfl rfl (by kernel_rfl) (e_add (k := .i64) (a := x9) (b := 1) (by kernel_rfl) rfl) ?_
    refine lv (d := 1) rfl rfl (by kernel_rfl) (e_assign (v := .int .i64 (IntKind.i64.wrap (x9 + 1))) (by kernel_rfl)) ?_
    refine wpList_nil ?_
    refine inb_n ?_
    refine then_n ?_
    refine wp_region_lit ?_
    refine lv (d := 10) rfl rfl (by kernel_rfl) (e_move (v := .int .i64 x10) (by exact e16)) ?_
    refine lv (d := 11) rfl rfl (by kernel_rfl) (e_add (k := .i64) (a := x10) (b := 1) (by kernel_rfl) rfl) ?_
    refine lv (d := 5) rfl rfl (by kernel_rfl) (e_assign (v := .int .i64 (IntKind.i64.wrap (x10 + 1))) (by kernel_rfl)) ?_
    refine wpList_nil ?_
    refine then_n ?_
    exact ⟨k22, (by omega), _, (IntKind.i64.wrap (x9 + 1)), (IntKind.i64.wrap (x10 + 1)), F32, (x12.set ((x10).toNat) (b8 (x9))), rfl, (by exact e14), (by kernel_rfl), (by kernel_rfl), h31, (List.length_set.trans n13), S33, M⟩
  replace M := ifn q23 M
  refine cond_f rfl (bf q23 (by kernel_rfl)) ?_
  refine wp_exit ?_
  refine then_e ?_
  refine then_e ?_
  refine inb_hit ?_
  refine then_n ?_
  refine wp_seq ?_
  refine wp_region_lit ?_
  refine lv (d := 19) rfl rfl (by kernel_rfl) (e_move (v := .int .i64 x9) (by exact e15)) ?_
  refine lv (d := 4) rfl rfl (by kernel_rfl) (e_assign (v := .int .i64 x9) (by kernel_rfl)) ?_
  refine wpList_nil ?_
  refine then_n ?_
  refine wp_ret ?_
  obtain rfl := Option.some.inj M
  exact ret1 rfl rfl  (show _ = .int .i64 x9 from (by kernel_rfl)) ⟨F11, H, rfl, n13, h4, S17⟩

/-! laws_heldByteS -/
def laws_heldByteS.l0 : Nat → (List UInt8) → Int → Int → Option Int
  | 0, _, _, _ => none
  | k19 + 1, x1, x9, x10 => (if x10 < (x1.length : Int) then (if 0 ≤ x10 then (if ((x1.getD ((x10).toNat) (0 : UInt8)).toNat : Int) ≠ ((b8 (x9)).toNat : Int) then some (-1) else (laws_heldByteS.l0 k19 x1 (IntKind.i64.wrap (x9 + 1)) (IntKind.i64.wrap (x10 + 1)))) else none) else some x9)
def laws_heldByteS.f (k : Nat) (x1 : List UInt8) (x6 : Int) : Option Int := (laws_heldByteS.l0 k x1 x6 0)
theorem laws_heldByteS.calls (k : Nat) (w : World) (H : Hp) (x1 : List UInt8) (A2 : Option Addr) (c3 : Nat) (x6 : Int) (h4 : Rd tByte H A2 x1) (l5 : x1.length ≤ c3) (S : Own [] H w) (r : Int) (M : laws_heldByteS.f k x1 x6 = some r) :
    Calls Tryd.prog 9 #[.slice A2 x1.length c3, .int .i64 x6] w (fun e e_w => e = .returned (.int .i64 r) ∧ Chg no w e_w) := by
  rw [laws_heldByteS.f] at M
  refine enter (l := [.slice A2 x1.length c3, .int .i64 x6]) 22 Tryd.func9 rfl rfl rfl ?_
  have S0_ := S.st
  refine wp_seq ?_
  refine wp_region_lit ?_
  refine lv (d := 4) rfl rfl (by kernel_rfl) (e_assign (v := .int .i64 0) rfl) ?_
  refine wpList_nil ?_
  refine then_n ?_
  refine wp_seq ?_
  refine wp_seq ?_
  refine wp_region_lit ?_
  refine lv (d := 5) rfl rfl (by kernel_rfl) (e_assign (v := .int .i64 0) rfl) ?_
  refine wpList_nil ?_
  refine then_n ?_
  refine wp_block ?_
  refine wp_loop_g (fun k17 a18 w7 => ∃ (f8 : Nat → Value) (x9 : Int) (x10 : Int), a18 = mk 22 f8 ∧ f8 0 = .slice A2 x1.length c3 ∧ f8 1 = .int .i64 x9 ∧ f8 5 = .int .i64 x10 ∧ St (anyOf []) H w [] H w7 ∧ laws_heldByteS.l0 k17 x1 x9 x10 = some r) k ⟨_, x6, 0, rfl, (by kernel_rfl), (by kernel_rfl), (by kernel_rfl), S0_, M⟩ ?_
  clear M
  rintro k17 a18 w7 ⟨f8, x9, x10, rfl, e11, e12, e13, S14, M⟩
  rcases k17 with _ | k19
  · rw [laws_heldByteS.l0] at M
    cases M
  rw [laws_heldByteS.l0] at M
  refine wp_seq ?_
  refine wp_seq ?_
  refine wp_region_lit ?_
  refine lv (d := 6) rfl rfl (by kernel_rfl) (e_move (v := .int .i64 x10) (by exact e13)) ?_
  refine lv (d := 7) rfl rfl (by kernel_rfl) (e_move (v := .slice A2 x1.length c3) (by exact e11)) ?_
  refine lv (d := 8) rfl rfl (by kernel_rfl) (e_len (A := A2) (n := x1.length) (c := c3) Tryd.underlying22 (by kernel_rfl)) ?_
  refine lv (d := 9) rfl rfl (by kernel_rfl) (e_lss (k := .i64) (a := x10) (b := (x1.length : Int)) (by kernel_rfl) (by kernel_rfl)) ?_
  refine wpList_nil ?_
  refine then_n ?_
  by_cases q20 : x10 < (x1.length : Int)
  · replace M := ifp q20 M
    refine cond_t rfl (bt q20 (by kernel_rfl)) ?_
    refine wp_skip ?_
    refine then_n ?_
    refine wp_seq ?_
    refine wp_block ?_
    refine wp_seq ?_
    refine wp_seq ?_
    refine wp_region_lit ?_
    refine lv (d := 12) rfl rfl (by kernel_rfl) (e_move (v := .slice A2 x1.length c3) (by exact e11)) ?_
    refine lv (d := 13) rfl rfl (by kernel_rfl) (e_move (v := .int .i64 x10) (by exact e13)) ?_
    obtain ⟨q21, M⟩ := chk M
    obtain ⟨b22, o23, e24⟩ := Rd.addr h4 (show (x10).toNat < x1.length by omega)
    obtain ⟨y25, r26, k27⟩ := Rd.at h4 e24 (getD_some (0 : UInt8) (show (x10).toNat < x1.length by omega))
    obtain rfl := r26
    refine lv (d := 14) rfl rfl (by kernel_rfl) (e_indexAddr (b := b22) (off := o23) (n := x1.length) (c := c3) (sz := 1) (i := x10) (k := .i64) Tryd.underlying22 e24 (by kernel_rfl) (by kernel_rfl) (by kernel_rfl) q21 q20) ?_
    refine lv (d := 15) rfl rfl (by kernel_rfl) (e_load1 (ad := ⟨b22, o23 + (x10 : Int).toNat * 1, none⟩) (v := .int .u8 ((x1.getD ((x10).toNat) (0 : UInt8)).toNat : Int)) Tryd.underlying5 rfl (by kernel_rfl) (hpx (S14.inv.cell (k27 0 _ rfl)))) ?_
    refine lv (d := 16) rfl rfl (by kernel_rfl) (e_move (v := .int .i64 x9) (by exact e12)) ?_
    refine lv (d := 17) rfl rfl (by kernel_rfl) (e_conv_i8 (k := .i64) (a := x9) (by kernel_rfl) Tryd.underlying5 (by kernel_rfl)) ?_
    refine lv (d := 18) rfl rfl (by kernel_rfl) (e_neq (k := .u8) (a := ((x1.getD ((x10).toNat) (0 : UInt8)).toNat : Int)) (b := ((b8 (x9)).toNat : Int)) (by kernel_rfl) (by kernel_rfl)) ?_
    refine wpList_nil ?_
    refine then_n ?_
    by_cases q28 : ((x1.getD ((x10).toNat) (0 : UInt8)).toNat : Int) ≠ ((b8 (x9)).toNat : Int)
    · replace M := ifp q28 M
      refine cond_t rfl (bt q28 (by kernel_rfl)) ?_
      refine wp_seq ?_
      refine wp_region_lit ?_
      refine lv (d := 4) rfl rfl (by kernel_rfl) (e_assign (v := .int .i64 (-1)) rfl) ?_
      refine wpList_nil ?_
      refine then_n ?_
      refine wp_ret ?_
      refine then_r ?_
      refine inb_r ?_
      refine then_r ?_
      refine then_r ?_
      refine inb_r ?_
      refine then_r ?_
      obtain rfl := Option.some.inj M
      exact ret1 rfl rfl  (show _ = .int .i64 (-1) from (by kernel_rfl)) ⟨rfl, S14.chg⟩
    replace M := ifn q28 M
    refine cond_f rfl (bf q28 (by kernel_rfl)) ?_
    refine wp_skip ?_
    refine then_n ?_
    refine wp_region_lit ?_
    refine lv (d := 19) rfl rfl (by kernel_rfl) (e_move (v := .int .i64 x9) (by exact e12)) ?_
    refine lv (d := 20) rfl rfl (by kernel_rfl) (e_add (k := .i64) (a := x9) (b := 1) (by kernel_rfl) rfl) ?_
    refine lv (d := 1) rfl rfl (by kernel_rfl) (e_assign (v := .int .i64 (IntKind.i64.wrap (x9 + 1))) (by kernel_rfl)) ?_
    refine wpList_nil ?_
    refine inb_n ?_
    refine then_n ?_
    refine wp_region_lit ?_
    refine lv (d := 10) rfl rfl (by kernel_rfl) (e_move (v := .int .i64 x10) (by exact e13)) ?_
    refine lv (d := 11) rfl rfl (by kernel_rfl) (e_add (k := .i64) (a := x10) (b := 1) (by kernel_rfl) rfl) ?_
    refine lv (d := 5) rfl rfl (by kernel_rfl) (e_assign (v := .int .i64 (IntKind.i64.wrap (x10 + 1))) (by kernel_rfl)) ?_
    refine wpList_nil ?_
    refine then_n ?_
    exact ⟨k19, (by omega), _, (IntKind.i64.wrap (x9 + 1)), (IntKind.i64.wrap (x10 + 1)), rfl, (by exact e11), (by kernel_rfl), (by kernel_rfl), S14, M⟩
  replace M := ifn q20 M
  refine cond_f rfl (bf q20 (by kernel_rfl)) ?_
  refine wp_exit ?_
  refine then_e ?_
  refine then_e ?_
  refine inb_hit ?_
  refine then_n ?_
  refine wp_seq ?_
  refine wp_region_lit ?_
  refine lv (d := 21) rfl rfl (by kernel_rfl) (e_move (v := .int .i64 x9) (by exact e12)) ?_
  refine lv (d := 4) rfl rfl (by kernel_rfl) (e_assign (v := .int .i64 x9) (by kernel_rfl)) ?_
  refine wpList_nil ?_
  refine then_n ?_
  refine wp_ret ?_
  obtain rfl := Option.some.inj M
  exact ret1 rfl rfl  (show _ = .int .i64 x9 from (by kernel_rfl)) ⟨rfl, S14.chg⟩
end Go.Proofs.YtdkbfcmekppnmaaDoor
