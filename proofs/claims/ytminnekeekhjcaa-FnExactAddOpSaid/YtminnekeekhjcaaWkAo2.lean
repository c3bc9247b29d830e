import Derived.Test.YtminnekeekhjcaaWkAo1
namespace Go.Proofs.Ytminnekeekhjcaa
open Go.Sx Go.Sy
attribute [local irreducible] Go.wpList Go.wpStill Go.wpQuiet Go.Code.wp
set_option maxRecDepth 100000
set_option maxHeartbeats 1000000
set_option linter.unusedVariables false
set_option linter.unusedSimpArgs false

/-! impl_ValidOps -/
mutual
def impl_ValidOps.l0 : Nat → (List Sy.Op) → Bool → Int → Option Bool
  | 0, _, _, _ => none
  | k21 + 1, x1, x9, x10 => (if x10 < (x1.length : Int) then (if 0 ≤ x10 then (if (x1.getD ((x10).toNat) z45).name = ([] : List UInt8) then some false else (if (((x1.getD ((x10).toNat) z45).name).length : Int) > 100 then some false else (if (x1.getD ((x10).toNat) z45).name = ([91, 93] : List UInt8) then some false else (if (x1.getD ((x10).toNat) z45).name = ([123, 125] : List UInt8) then some false else (if (x1.getD ((x10).toNat) z45).name = ([124] : List UInt8) then some false else (if ((x1.getD ((x10).toNat) z45).pri) < 1 then some false else (if ((x1.getD ((x10).toNat) z45).pri) > 1200 then some false else (if ((x1.getD ((x10).toNat) z45).typ) < 0 then some false else (if ((x1.getD ((x10).toNat) z45).typ) > 6 then some false else (if (x1.getD ((x10).toNat) z45).name = ([44] : List UInt8) then (if x9 = true then some false else (if ((x1.getD ((x10).toNat) z45).pri) ≠ 1000 then some false else (if ((x1.getD ((x10).toNat) z45).typ) ≠ 1 then some false else (impl_ValidOps.l1 k21 x1 x10 true)))) else (impl_ValidOps.l1 k21 x1 x10 x9))))))))))) else none) else some x9)
def impl_ValidOps.l1 : Nat → (List Sy.Op) → Int → Bool → Option Bool
  | 0, _, _, _ => none
  | k67 + 1, x1, x10, x54 => (if x10 > 0 then (if 0 ≤ (IntKind.i64.wrap (x10 - 1)) then (if (IntKind.i64.wrap (x10 - 1)) < (x1.length : Int) then (if (!(Op.bytesLess ((x1.getD (((IntKind.i64.wrap (x10 - 1))).toNat) z45).name) ((x1.getD ((x10).toNat) z45).name) || ((x1.getD (((IntKind.i64.wrap (x10 - 1))).toNat) z45).name) == ((x1.getD ((x10).toNat) z45).name))) = true then some false else (if (x1.getD (((IntKind.i64.wrap (x10 - 1))).toNat) z45).name = (x1.getD ((x10).toNat) z45).name then ((impl_Op_prefix.f (x1.getD (((IntKind.i64.wrap (x10 - 1))).toNat) z45)).bind fun t97 => (if t97 = true then ((impl_Op_prefix.f (x1.getD ((x10).toNat) z45)).bind fun t104 => (if ¬ (¬ (t104 = true)) then some false else (impl_ValidOps.l0 k67 x1 x54 (IntKind.i64.wrap (x10 + 1))))) else some false)) else (impl_ValidOps.l0 k67 x1 x54 (IntKind.i64.wrap (x10 + 1))))) else none) else none) else (impl_ValidOps.l0 k67 x1 x54 (IntKind.i64.wrap (x10 + 1))))
end
def impl_ValidOps.f (k : Nat) (x1 : List Sy.Op) : Option Bool := (if (x1.length : Int) > 200 then some false else (impl_ValidOps.l0 k x1 false 0))
theorem impl_ValidOps.calls (k : Nat) (w : World) (H : Hp) (x1 : List Sy.Op) (A2 : Option Addr) (c3 : Nat) (h4 : Rd st45 H A2 x1) (l5 : x1.length ≤ c3) (S : Own [] H w) (r : Bool) (M : impl_ValidOps.f k x1 = some r) :
    Calls Try.prog 10 #[.slice A2 x1.length c3] w (fun e e_w => e = .returned (.bool r) ∧ Chg no w e_w) := by
  rw [impl_ValidOps.f] at M
  refine enter (l := [.slice A2 x1.length c3]) 104 Try.func10 rfl rfl rfl ?_
  have S0_ := S.st
  refine wp_seq ?_
  refine wp_region_lit ?_
  refine lv (d := 2) rfl rfl (by kernel_rfl) (e_assign (v := .bool false) rfl) ?_
  refine wpList_nil ?_
  refine then_n ?_
  refine wp_seq ?_
  refine wp_seq ?_
  refine wp_region_lit ?_
  refine lv (d := 9) rfl rfl (by kernel_rfl) (e_move (v := .slice A2 x1.length c3) (by kernel_rfl)) ?_
  refine lv (d := 10) rfl rfl (by kernel_rfl) (e_len (A := A2) (n := x1.length) (c := c3) Try.underlying25 (by kernel_rfl)) ?_
  refine lv (d := 11) rfl rfl (by kernel_rfl) (e_gtr (k := .i64) (a := (x1.length : Int)) (b := 200) (by kernel_rfl) rfl) ?_
  refine wpList_nil ?_
  refine then_n ?_
  by_cases q6 : (x1.length : Int) > 200
  · replace M := ifp q6 M
    refine cond_t rfl (bt q6 (by kernel_rfl)) ?_
    refine wp_seq ?_
    refine wp_region_lit ?_
    refine lv (d := 2) rfl rfl (by kernel_rfl) (e_assign (v := .bool false) rfl) ?_
    refine wpList_nil ?_
    refine then_n ?_
    refine wp_ret ?_
    refine then_r ?_
    obtain rfl := Option.some.inj M
    exact ret1 rfl rfl  (show _ = .bool false from (by kernel_rfl)) ⟨rfl, S0_.chg⟩
  replace M := ifn q6 M
  refine cond_f rfl (bf q6 (by kernel_rfl)) ?_
  refine wp_skip ?_
  refine then_n ?_
  refine wp_seq ?_
  refine wp_region_lit ?_
  refine lv (d := 3) rfl rfl (by kernel_rfl) (e_assign (v := .bool false) rfl) ?_
  refine wpList_nil ?_
  refine then_n ?_
  refine wp_seq ?_
  refine wp_seq ?_
  refine wp_region_lit ?_
  refine lv (d := 12) rfl rfl (by kernel_rfl) (e_move (v := .slice A2 x1.length c3) (by kernel_rfl)) ?_
  refine lv (d := 13) rfl rfl (by kernel_rfl) (e_len (A := A2) (n := x1.length) (c := c3) Try.underlying25 (by kernel_rfl)) ?_
  refine lv (d := 14) rfl rfl (by kernel_rfl) (e_move (v := .int .i64 0) rfl) ?_
  refine wpList_nil ?_
  refine then_n ?_
  refine wp_block ?_
  refine wp_loop_g (fun k19 a20 w7 => ∃ (f8 : Nat → Value) (x9 : Bool) (x10 : Int), a20 = mk 104 f8 ∧ f8 0 = .slice A2 x1.length c3 ∧ f8 3 = .bool x9 ∧ f8 12 = .slice A2 x1.length c3 ∧ f8 13 = .int .i64 (x1.length : Int) ∧ f8 14 = .int .i64 x10 ∧ St (anyOf []) H w [] H w7 ∧ impl_ValidOps.l0 k19 x1 x9 x10 = some r) k ⟨_, false, 0, rfl, (by kernel_rfl), (by kernel_rfl), (by kernel_rfl), (by kernel_rfl), (by kernel_rfl), S0_, M⟩ ?_
  clear M
  rintro k19 a20 w7 ⟨f8, x9, x10, rfl, e11, e12, e13, e14, e15, S16, M⟩
  rcases k19 with _ | k21
  · rw [impl_ValidOps.l0] at M
    cases M
  rw [impl_ValidOps.l0] at M
  refine wp_seq ?_
  refine wp_region_lit ?_
  refine lv (d := 15) rfl rfl (by kernel_rfl) (e_lss (k := .i64) (a := x10) (b := (x1.length : Int)) (by exact e15) (by exact e14)) ?_
  refine wpList_nil ?_
  refine then_n ?_
  refine wp_seq ?_
  by_cases q22 : x10 < (x1.length : Int)
  · replace M := ifp q22 M
    refine cond_t rfl (bt q22 (by kernel_rfl)) ?_
    refine wp_skip ?_
    refine then_n ?_
    refine wp_seq ?_
    refine wp_block ?_
    refine wp_seq ?_
    refine wp_region_lit ?_
    refine lv (d := 16) rfl rfl (by kernel_rfl) (e_move (v := .int .i64 x10) (by exact e15)) ?_
    obtain ⟨q23, M⟩ := chk M
    obtain ⟨b24, o25, e26⟩ := Rd.addr h4 (show (x10).toNat < x1.length by omega)
    obtain ⟨y27, r28, k29⟩ := Rd.at h4 e26 (getD_some z45 (show (x10).toNat < x1.length by omega))
    obtain ⟨A30, c31, rfl, l32, h33⟩ := st45_open r28
    refine lv (d := 17) rfl rfl (by kernel_rfl) (e_indexAddr (b := b24) (off := o25) (n := x1.length) (c := c3) (sz := 3) (i := x10) (k := .i64) Try.underlying25 e26 (by kernel_rfl) (by exact e13) (by exact e15) q23 q22) ?_
    refine lv (d := 18) rfl rfl (by kernel_rfl) (e_loadS (b := b24) (off := o25 + (x10 : Int).toNat * 3) (cs := [.slice A30 ((x1.getD ((x10).toNat) z45).name).length c31, .int .i64 ((x1.getD ((x10).toNat) z45).pri), .int .i64 ((x1.getD ((x10).toNat) z45).typ)]) Try.underlying45 rfl (by kernel_rfl) (by kernel_rfl) (fun j_ u_ e_ => (hpx (S16.inv.cell (k29 j_ u_ e_))))) ?_
    refine lve (d := 5) rfl rfl (by kernel_rfl) (new_blk (v := fun g_ => .pointer (some ⟨g_, 0, none⟩)) (cs := #[.slice none 0 0, .int .i64 0, .int .i64 0]) (t := 45) S16 (by kernel_rfl)) ?_
    rintro _ w34 ⟨g35, rfl, b36, S37, K38⟩
    refine lv (d := 4) rfl rfl (by kernel_rfl) (e_assign (v := .int .i64 x10) (by kernel_rfl)) ?_
    refine lse rfl rfl (by kernel_rfl) (e_store (g := g35) (o := 0) (v := .agg #[.slice A30 ((x1.getD ((x10).toNat) z45).name).length c31, .int .i64 ((x1.getD ((x10).toNat) z45).pri), .int .i64 ((x1.getD ((x10).toNat) z45).typ)]) (cur' := #[.slice A30 ((x1.getD ((x10).toNat) z45).name).length c31, .int .i64 ((x1.getD ((x10).toNat) z45).pri), .int .i64 ((x1.getD ((x10).toNat) z45).typ)]) (vs := [.slice A30 ((x1.getD ((x10).toNat) z45).name).length c31, .int .i64 ((x1.getD ((x10).toNat) z45).pri), .int .i64 ((x1.getD ((x10).toNat) z45).typ)]) S37 (by kernel_rfl) (by kernel_rfl) rfl (by kernel_rfl) b36 (Nat.le_of_ble_eq_true rfl) (List.forall_mem_cons.2 ⟨rfl, (List.forall_mem_cons.2 ⟨rfl, (List.forall_mem_cons.2 ⟨rfl, (fun _ h_ => by cases h_)⟩)⟩)⟩) rfl) ?_
    rintro w39 ⟨b40, S41, K42⟩
    clear b36
    refine wpList_nil ?_
    refine then_n ?_
    refine wp_seq ?_
    refine wp_region_lit ?_
    refine lv (d := 19) rfl rfl (by kernel_rfl) (e_fieldAddr (b := g35) (off := 0) (o := 0) Try.underlying45 rfl rfl (sz := 1) (by kernel_rfl) (by decide) (by kernel_rfl)) ?_
    refine lv (d := 20) rfl rfl (by kernel_rfl) (e_load1 (ad := ⟨g35, 0 + 0, none⟩) (v := .slice A30 ((x1.getD ((x10).toNat) z45).name).length c31) Try.underlying32 rfl (by kernel_rfl) (blk_cell b40 rfl)) ?_
    refine lv (d := 21) rfl rfl (by kernel_rfl) (e_conv_bs (A := A30) (n := ((x1.getD ((x10).toNat) z45).name).length) (c := c31) (xs := (x1.getD ((x10).toNat) z45).name) Try.underlying32 Try.underlying5 Try.underlying9 (by kernel_rfl) rfl (Rd.bytesE S41.inv h33)) ?_
    refine lv (d := 6) rfl rfl (by kernel_rfl) (e_assign (v := str ((x1.getD ((x10).toNat) z45).name)) (by kernel_rfl)) ?_
    refine wpList_nil ?_
    refine then_n ?_
    refine wp_seq ?_
    refine wp_seq ?_
    refine wp_region_lit ?_
    refine lv (d := 22) rfl rfl (by kernel_rfl) (e_move (v := str ((x1.getD ((x10).toNat) z45).name)) (by kernel_rfl)) ?_
    refine lv (d := 23) rfl rfl (by kernel_rfl) (e_seql (p := (x1.getD ((x10).toNat) z45).name) (q := ([] : List UInt8)) (by kernel_rfl) rfl) ?_
    refine lv (d := 24) rfl rfl (by kernel_rfl) (e_move (v := .bool (decide ((x1.getD ((x10).toNat) z45).name = ([] : List UInt8)))) (by kernel_rfl)) ?_
    by_cases q43 : (x1.getD ((x10).toNat) z45).name = ([] : List UInt8)
    · replace M := ifp q43 M
      refine lskip (t := 24) (c := true) rfl (by kernel_rfl) rfl (bt q43 (by kernel_rfl)) rfl rfl ?_
      refine lskip (t := 24) (c := true) rfl (by kernel_rfl) rfl (bt q43 (by kernel_rfl)) rfl rfl ?_
      refine lskip (t := 24) (c := true) rfl (by kernel_rfl) rfl (bt q43 (by kernel_rfl)) rfl rfl ?_
      refine lv (d := 28) rfl rfl (by kernel_rfl) (e_pick_t (v := .bool true) (bt q43 (by kernel_rfl)) rfl) ?_
      refine lv (d := 29) rfl rfl (by kernel_rfl) (e_move (v := .bool true) (by kernel_rfl)) ?_
      refine lskip (t := 29) (c := true) rfl (by kernel_rfl) rfl (by kernel_rfl) rfl rfl ?_
      refine lskip (t := 29) (c := true) rfl (by kernel_rfl) rfl (by kernel_rfl) rfl rfl ?_
      refine lv (d := 32) rfl rfl (by kernel_rfl) (e_pick_t (v := .bool true) (by kernel_rfl) rfl) ?_
      refine lv (d := 33) rfl rfl (by kernel_rfl) (e_move (v := .bool true) (by kernel_rfl)) ?_
      refine lskip (t := 33) (c := true) rfl (by kernel_rfl) rfl (by kernel_rfl) rfl rfl ?_
      refine lskip (t := 33) (c := true) rfl (by kernel_rfl) rfl (by kernel_rfl) rfl rfl ?_
      refine lv (d := 36) rfl rfl (by kernel_rfl) (e_pick_t (v := .bool true) (by kernel_rfl) rfl) ?_
      refine lv (d := 37) rfl rfl (by kernel_rfl) (e_move (v := .bool true) (by kernel_rfl)) ?_
      refine lskip (t := 37) (c := true) rfl (by kernel_rfl) rfl (by kernel_rfl) rfl rfl ?_
      refine lskip (t := 37) (c := true) rfl (by kernel_rfl) rfl (by kernel_rfl) rfl rfl ?_
      refine lv (d := 40) rfl rfl (by kernel_rfl) (e_pick_t (v := .bool true) (by kernel_rfl) rfl) ?_
      refine lv (d := 41) rfl rfl (by kernel_rfl) (e_move (v := .bool true) (by kernel_rfl)) ?_
      refine lskip (t := 41) (c := true) rfl (by kernel_rfl) rfl (by kernel_rfl) rfl rfl ?_
      refine lskip (t := 41) (c := true) rfl (by kernel_rfl) rfl (by kernel_rfl) rfl rfl ?_
      refine lskip (t := 41) (c := true) rfl (by kernel_rfl) rfl (by kernel_rfl) rfl rfl ?_
      refine lv (d := 45) rfl rfl (by kernel_rfl) (e_pick_t (v := .bool true) (by kernel_rfl) rfl) ?_
      refine lv (d := 46) rfl rfl (by kernel_rfl) (e_move (v := .bool true) (by kernel_rfl)) ?_
      refine lskip (t := 46) (c := true) rfl (by kernel_rfl) rfl (by kernel_rfl) rfl rfl ?_
      refine lskip (t := 46) (c := true) rfl (by kernel_rfl) rfl (by kernel_rfl) rfl rfl ?_
      refine lskip (t := 46) (c := true) rfl (by kernel_rfl) rfl (by kernel_rfl) rfl rfl ?_
      refine lv (d := 50) rfl rfl (by kernel_rfl) (e_pick_t (v := .bool true) (by kernel_rfl) rfl) ?_
      refine lv (d := 51) rfl rfl (by kernel_rfl) (e_move (v := .bool true) (by kernel_rfl)) ?_
      refine lskip (t := 51) (c := true) rfl (by kernel_rfl) rfl (by kernel_rfl) rfl rfl ?_
      refine lskip (t := 51) (c := true) rfl (by kernel_rfl) rfl (by kernel_rfl) rfl rfl ?_
      refine lskip (t := 51) (c := true) rfl (by kernel_rfl) rfl (by kernel_rfl) rfl rfl ?_
      refine lv (d := 55) rfl rfl (by kernel_rfl) (e_pick_t (v := .bool true) (by kernel_rfl) rfl) ?_
      refine lv (d := 56) rfl rfl (by kernel_rfl) (e_move (v := .bool true) (by kernel_rfl)) ?_
      refine lskip (t := 56) (c := true) rfl (by kernel_rfl) rfl (by kernel_rfl) rfl rfl ?_
      refine lskip (t := 56) (c := true) rfl (by kernel_rfl) rfl (by kernel_rfl) rfl rfl ?_
      refine lskip (t := 56) (c := true) rfl (by kernel_rfl) rfl (by kernel_rfl) rfl rfl ?_
      refine lv (d := 60) rfl rfl (by kernel_rfl) (e_pick_t (v := .bool true) (by kernel_rfl) rfl) ?_
      refine wpList_nil ?_
      refine then_n ?_
      refine cond_t rfl (by kernel_rfl) ?_
      refine wp_seq ?_
      refine wp_region_lit ?_
      refine lv (d := 2) rfl rfl (by kernel_rfl) (e_assign (v := .bool false) rfl) ?_
      refine wpList_nil ?_
      refine then_n ?_
      refine wp_ret ?_
      refine then_r ?_
      refine inb_r ?_
      refine then_r ?_
      refine then_r ?_
      refine inb_r ?_
      refine then_r ?_
      obtain rfl := Option.some.inj M
      exact ret1 rfl rfl  (show _ = .bool false from (by kernel_rfl)) ⟨rfl, S41.chg⟩
    replace M := ifn q43 M
    refine lvg (d := 25) (t := 24) rfl (by kernel_rfl) rfl (bf q43 (by kernel_rfl)) rfl (by kernel_rfl) (e_move (v := str ((x1.getD ((x10).toNat) z45).name)) (by kernel_rfl)) ?_
    refine lvg (d := 26) (t := 24) rfl (by kernel_rfl) rfl (bf q43 (by kernel_rfl)) rfl (by kernel_rfl) (e_slen (p := (x1.getD ((x10).toNat) z45).name) Try.underlying9 (by kernel_rfl)) ?_
    refine lvg (d := 27) (t := 24) rfl (by kernel_rfl) rfl (bf q43 (by kernel_rfl)) rfl (by kernel_rfl) (e_gtr (k := .i64) (a := (((x1.getD ((x10).toNat) z45).name).length : Int)) (b := 100) (by kernel_rfl) rfl) ?_
    refine lv (d := 28) rfl rfl (by kernel_rfl) (e_pick_f (v := .bool (decide ((((x1.getD ((x10).toNat) z45).name).length : Int) > 100))) (bf q43 (by kernel_rfl)) (by kernel_rfl)) ?_
    refine lv (d := 29) rfl rfl (by kernel_rfl) (e_move (v := .bool (decide ((((x1.getD ((x10).toNat) z45).name).length : Int) > 100))) (by kernel_rfl)) ?_
    by_cases q44 : (((x1.getD ((x10).toNat) z45).name).length : Int) > 100
    · replace M := ifp q44 M
      refine lskip (t := 29) (c := true) rfl (by kernel_rfl) rfl (bt q44 (by kernel_rfl)) rfl rfl ?_
      refine lskip (t := 29) (c := true) rfl (by kernel_rfl) rfl (bt q44 (by kernel_rfl)) rfl rfl ?_
      refine lv (d := 32) rfl rfl (by kernel_rfl) (e_pick_t (v := .bool true) (bt q44 (by kernel_rfl)) rfl) ?_
      refine lv (d := 33) rfl rfl (by kernel_rfl) (e_move (v := .bool true) (by kernel_rfl)) ?_
      refine lskip (t := 33) (c := true) rfl (by kernel_rfl) rfl (by kernel_rfl) rfl rfl ?_
      refine lskip (t := 33) (c := true) rfl (by kernel_rfl) rfl (by kernel_rfl) rfl rfl ?_
      refine lv (d := 36) rfl rfl (by kernel_rfl) (e_pick_t (v := .bool true) (by kernel_rfl) rfl) ?_
      refine lv (d := 37) rfl rfl (by kernel_rfl) (e_move (v := .bool true) (by kernel_rfl)) ?_
      refine lskip (t := 37) (c := true) rfl (by kernel_rfl) rfl (by kernel_rfl) rfl rfl ?_
      refine lskip (t := 37) (c := true) rfl (by kernel_rfl) rfl (by kernel_rfl) rfl rfl ?_
      refine lv (d := 40) rfl rfl (by kernel_rfl) (e_pick_t (v := .bool true) (by kernel_rfl) rfl) ?_
      refine lv (d := 41) rfl rfl (by kernel_rfl) (e_move (v := .bool true) (by kernel_rfl)) ?_
      refine lskip (t := 41) (c := true) rfl (by kernel_rfl) rfl (by kernel_rfl) rfl rfl ?_
      refine lskip (t := 41) (c := true) rfl (by kernel_rfl) rfl (by kernel_rfl) rfl rfl ?_
      refine lskip (t := 41) (c := true) rfl (by kernel_rfl) rfl (by kernel_rfl) rfl rfl ?_
      refine lv (d := 45) rfl rfl (by kernel_rfl) (e_pick_t (v := .bool true) (by kernel_rfl) rfl) ?_
      refine lv (d := 46) rfl rfl (by kernel_rfl) (e_move (v := .bool true) (by kernel_rfl)) ?_
      refine lskip (t := 46) (c := true) rfl (by kernel_rfl) rfl (by kernel_rfl) rfl rfl ?_
      refine lskip (t := 46) (c := true) rfl (by kernel_rfl) rfl (by kernel_rfl) rfl rfl ?_
      refine lskip (t := 46) (c := true) rfl (by kernel_rfl) rfl (by kernel_rfl) rfl rfl ?_
      refine lv (d := 50) rfl rfl (by kernel_rfl) (e_pick_t (v := .bool true) (by kernel_rfl) rfl) ?_
      refine lv (d := 51) rfl rfl (by kernel_rfl) (e_move (v := .bool true) (by kernel_rfl)) ?_
      refine lskip (t := 51) (c := true) rfl (by kernel_rfl) rfl (by kernel_rfl) rfl rfl ?_
      refine lskip (t := 51) (c := true) rfl (by kernel_rfl) rfl (by kernel_rfl) rfl rfl ?_
      refine lskip (t := 51) (c := true) rfl (by kernel_rfl) rfl (by kernel_rfl) rfl rfl ?_
      refine lv (d := 55) rfl rfl (by kernel_rfl) (e_pick_t (v := .bool true) (by kernel_rfl) rfl) ?_
      refine lv (d := 56) rfl rfl (by kernel_rfl) (e_move (v := .bool true) (by kernel_rfl)) ?_
      refine lskip (t := 56) (c := true) rfl (by kernel_rfl) rfl (by kernel_rfl) rfl rfl ?_
      refine lskip (t := 56) (c := true) rfl (by kernel_rfl) rfl (by kernel_rfl) rfl rfl ?_
      refine lskip (t := 56) (c := true) rfl (by kernel_rfl) rfl (by kernel_rfl) rfl rfl ?_
      refine lv (d := 60) rfl rfl (by kernel_rfl) (e_pick_t (v := .bool true) (by kernel_rfl) rfl) ?_
      refine wpList_nil ?_
      refine then_n ?_
      refine cond_t rfl (by kernel_rfl) ?_
      refine wp_seq ?_
      refine wp_region_lit ?_
      refine lv (d := 2) rfl rfl (by kernel_rfl) (e_assign (v := .bool false) rfl) ?_
      refine wpList_nil ?_
      refine then_n ?_
      refine wp_ret ?_
      refine then_r ?_
      refine inb_r ?_
      refine then_r ?_
      refine then_r ?_
      refine inb_r ?_
      refine then_r ?_
      obtain rfl := Option.some.inj M
      exact ret1 rfl rfl  (show _ = .bool false from (by kernel_rfl)) ⟨rfl, S41.chg⟩
    replace M := ifn q44 M
    refine lvg (d := 30) (t := 29) rfl (by kernel_rfl) rfl (bf q44 (by kernel_rfl)) rfl (by kernel_rfl) (e_move (v := str ((x1.getD ((x10).toNat) z45).name)) (by kernel_rfl)) ?_
    refine lvg (d := 31) (t := 29) rfl (by kernel_rfl) rfl (bf q44 (by kernel_rfl)) rfl (by kernel_rfl) (e_seql (p := (x1.getD ((x10).toNat) z45).name) (q := ([91, 93] : List UInt8)) (by kernel_rfl) rfl) ?_
    refine lv (d := 32) rfl rfl (by kernel_rfl) (e_pick_f (v := .bool (decide ((x1.getD ((x10).toNat) z45).name = ([91, 93] : List UInt8)))) (bf q44 (by kernel_rfl)) (by kernel_rfl)) ?_
    refine lv (d := 33) rfl rfl (by kernel_rfl) (e_move (v := .bool (decide ((x1.getD ((x10).toNat) z45).name = ([91, 93] : List UInt8)))) (by kernel_rfl)) ?_
    by_cases q45 : (x1.getD ((x10).toNat) z45).name = ([91, 93] : List UInt8)
    · replace M := ifp q45 M
      refine lskip (t := 33) (c := true) rfl (by kernel_rfl) rfl (bt q45 (by kernel_rfl)) rfl rfl ?_
      refine lskip (t := 33) (c := true) rfl (by kernel_rfl) rfl (bt q45 (by kernel_rfl)) rfl rfl ?_
      refine lv (d := 36) rfl rfl (by kernel_rfl) (e_pick_t (v := .bool true) (bt q45 (by kernel_rfl)) rfl) ?_
      refine lv (d := 37) rfl rfl (by kernel_rfl) (e_move (v := .bool true) (by kernel_rfl)) ?_
      refine lskip (t := 37) (c := true) rfl (by kernel_rfl) rfl (by kernel_rfl) rfl rfl ?_
      refine lskip (t := 37) (c := true) rfl (by kernel_rfl) rfl (by kernel_rfl) rfl rfl ?_
      refine lv (d := 40) rfl rfl (by kernel_rfl) (e_pick_t (v := .bool true) (by kernel_rfl) rfl) ?_
      refine lv (d := 41) rfl rfl (by kernel_rfl) (e_move (v := .bool true) (by kernel_rfl)) ?_
      refine lskip (t := 41) (c := true) rfl (by kernel_rfl) rfl (by kernel_rfl) rfl rfl ?_
      refine lskip (t := 41) (c := true) rfl (by kernel_rfl) rfl (by kernel_rfl) rfl rfl ?_
      refine lskip (t := 41) (c := true) rfl (by kernel_rfl) rfl (by kernel_rfl) rfl rfl ?_
      refine lv (d := 45) rfl rfl (by kernel_rfl) (e_pick_t (v := .bool true) (by kernel_rfl) rfl) ?_
      refine lv (d := 46) rfl rfl (by kernel_rfl) (e_move (v := .bool true) (by kernel_rfl)) ?_
      refine lskip (t := 46) (c := true) rfl (by kernel_rfl) rfl (by kernel_rfl) rfl rfl ?_
      refine lskip (t := 46) (c := true) rfl (by kernel_rfl) rfl (by kernel_rfl) rfl rfl ?_
      refine lskip (t := 46) (c := true) rfl (by kernel_rfl) rfl (by kernel_rfl) rfl rfl ?_
      refine lv (d := 50) rfl rfl (by kernel_rfl) (e_pick_t (v := .bool true) (by kernel_rfl) rfl) ?_
      refine lv (d := 51) rfl rfl (by kernel_rfl) (e_move (v := .bool true) (by kernel_rfl)) ?_
      refine lskip (t := 51) (c := true) rfl (by kernel_rfl) rfl (by kernel_rfl) rfl rfl ?_
      refine lskip (t := 51) (c := true) rfl (by kernel_rfl) rfl (by kernel_rfl) rfl rfl ?_
      refine lskip (t := 51) (c := true) rfl (by kernel_rfl) rfl (by kernel_rfl) rfl rfl ?_
      refine lv (d := 55) rfl rfl (by kernel_rfl) (e_pick_t (v := .bool true) (by kernel_rfl) rfl) ?_
      refine lv (d := 56) rfl rfl (by kernel_rfl) (e_move (v := .bool true) (by kernel_rfl)) ?_
      refine lskip (t := 56) (c := true) rfl (by kernel_rfl) rfl (by kernel_rfl) rfl rfl ?_
      refine lskip (t := 56) (c := true) rfl (by kernel_rfl) rfl (by kernel_rfl) rfl rfl ?_
      refine lskip (t := 56) (c := true) rfl (by kernel_rfl) rfl (by kernel_rfl) rfl rfl ?_
      refine lv (d := 60) rfl rfl (by kernel_rfl) (e_pick_t (v := .bool true) (by kernel_rfl) rfl) ?_
      refine wpList_nil ?_
      refine then_n ?_
      refine cond_t rfl (by kernel_rfl) ?_
      refine wp_seq ?_
      refine wp_region_lit ?_
      refine lv (d := 2) rfl rfl (by kernel_rfl) (e_assign (v := .bool false) rfl) ?_
      refine wpList_nil ?_
      refine then_n ?_
      refine wp_ret ?_
      refine then_r ?_
      refine inb_r ?_
      refine then_r ?_
      refine then_r ?_
      refine inb_r ?_
      refine then_r ?_
      obtain rfl := Option.some.inj M
      exact ret1 rfl rfl  (show _ = .bool false from (by kernel_rfl)) ⟨rfl, S41.chg⟩
    replace M := ifn q45 M
    refine lvg (d := 34) (t := 33) rfl (by kernel_rfl) rfl (bf q45 (by kernel_rfl)) rfl (by kernel_rfl) (e_move (v := str ((x1.getD ((x10).toNat) z45).name)) (by kernel_rfl)) ?_
    refine lvg (d := 35) (t := 33) rfl (by kernel_rfl) rfl (bf q45 (by kernel_rfl)) rfl (by kernel_rfl) (e_seql (p := (x1.getD ((x10).toNat) z45).name) (q := ([123, 125] : List UInt8)) (by kernel_rfl) rfl) ?_
    refine lv (d := 36) rfl rfl (by kernel_rfl) (e_pick_f (v := .bool (decide ((x1.getD ((x10).toNat) z45).name = ([123, 125] : List UInt8)))) (bf q45 (by kernel_rfl)) (by kernel_rfl)) ?_
    refine lv (d := 37) rfl rfl (by kernel_rfl) (e_move (v := .bool (decide ((x1.getD ((x10).toNat) z45).name = ([123, 125] : List UInt8)))) (by kernel_rfl)) ?_
    by_cases q46 : (x1.getD ((x10).toNat) z45).name = ([123, 125] : List UInt8)
    · replace M := ifp q46 M
      refine lskip (t := 37) (c := true) rfl (by kernel_rfl) rfl (bt q46 (by kernel_rfl)) rfl rfl ?_
      refine lskip (t := 37) (c := true) rfl (by kernel_rfl) rfl (bt q46 (by kernel_rfl)) rfl rfl ?_
      refine lv (d := 40) rfl rfl (by kernel_rfl) (e_pick_t (v := .bool true) (bt q46 (by kernel_rfl)) rfl) ?_
      refine lv (d := 41) rfl rfl (by kernel_rfl) (e_move (v := .bool true) (by kernel_rfl)) ?_
      refine lskip (t := 41) (c := true) rfl (by kernel_rfl) rfl (by kernel_rfl) rfl rfl ?_
      refine lskip (t := 41) (c := true) rfl (by kernel_rfl) rfl (by kernel_rfl) rfl rfl ?_
      refine lskip (t := 41) (c := true) rfl (by kernel_rfl) rfl (by kernel_rfl) rfl rfl ?_
      refine lv (d := 45) rfl rfl (by kernel_rfl) (e_pick_t (v := .bool true) (by kernel_rfl) rfl) ?_
      refine lv (d := 46) rfl rfl (by kernel_rfl) (e_move (v := .bool true) (by kernel_rfl)) ?_
      refine lskip (t := 46) (c := true) rfl (by kernel_rfl) rfl (by kernel_rfl) rfl rfl ?_
      refine lskip (t := 46) (c := true) rfl (by kernel_rfl) rfl (by kernel_rfl) rfl rfl ?_
      refine lskip (t := 46) (c := true) rfl (by kernel_rfl) rfl (by kernel_rfl) rfl rfl ?_
      refine lv (d := 50) rfl rfl (by kernel_rfl) (e_pick_t (v := .bool true) (by kernel_rfl) rfl) ?_
      refine lv (d := 51) rfl rfl (by kernel_rfl) (e_move (v := .bool true) (by kernel_rfl)) ?_
      refine lskip (t := 51) (c := true) rfl (by kernel_rfl) rfl (by kernel_rfl) rfl rfl ?_
      refine lskip (t := 51) (c := true) rfl (by kernel_rfl) rfl (by kernel_rfl) rfl rfl ?_
      refine lskip (t := 51) (c := true) rfl (by kernel_rfl) rfl (by kernel_rfl) rfl rfl ?_
      refine lv (d := 55) rfl rfl (by kernel_rfl) (e_pick_t (v := .bool true) (by kernel_rfl) rfl) ?_
      refine lv (d := 56) rfl rfl (by kernel_rfl) (e_move (v := .bool true) (by kernel_rfl)) ?_
      refine lskip (t := 56) (c := true) rfl (by kernel_rfl) rfl (by kernel_rfl) rfl rfl ?_
      refine lskip (t := 56) (c := true) rfl (by kernel_rfl) rfl (by kernel_rfl) rfl rfl ?_
      refine lskip (t := 56) (c := true) rfl (by kernel_rfl) rfl (by kernel_rfl) rfl rfl ?_
      refine lv (d := 60) rfl rfl (by kernel_rfl) (e_pick_t (v := .bool true) (by kernel_rfl) rfl) ?_
      refine wpList_nil ?_
      refine then_n ?_
      refine cond_t rfl (by kernel_rfl) ?_
      refine wp_seq ?_
      refine wp_region_lit ?_
      refine lv (d := 2) rfl rfl (by kernel_rfl) (e_assign (v := .bool false) rfl) ?_
      refine wpList_nil ?_
      refine then_n ?_
      refine wp_ret ?_
      refine then_r ?_
      refine inb_r ?_
      refine then_r ?_
      refine then_r ?_
      refine inb_r ?_
      refine then_r ?_
      obtain rfl := Option.some.inj M
      exact ret1 rfl rfl  (show _ = .bool false from (by kernel_rfl)) ⟨rfl, S41.chg⟩
    replace M := ifn q46 M
    refine lvg (d := 38) (t := 37) rfl (by kernel_rfl) rfl (bf q46 (by kernel_rfl)) rfl (by kernel_rfl) (e_move (v := str ((x1.getD ((x10).toNat) z45).name)) (by kernel_rfl)) ?_
    refine lvg (d := 39) (t := 37) rfl (by kernel_rfl) rfl (bf q46 (by kernel_rfl)) rfl (by kernel_rfl) (e_seql (p := (x1.getD ((x10).toNat) z45).name) (q := ([124] : List UInt8)) (by kernel_rfl) rfl) ?_
    refine lv (d := 40) rfl rfl (by kernel_rfl) (e_pick_f (v := .bool (decide ((x1.getD ((x10).toNat) z45).name = ([124] : List UInt8)))) (bf q46 (by kernel_rfl)) (by kernel_rfl)) ?_
    refine lv (d := 41) rfl rfl (by kernel_rfl) (e_move (v := .bool (decide ((x1.getD ((x10).toNat) z45).name = ([124] : List UInt8)))) (by kernel_rfl)) ?_
    by_cases q47 : (x1.getD ((x10).toNat) z45).name = ([124] : List UInt8)
    · replace M := ifp q47 M
      refine lskip (t := 41) (c := true) rfl (by kernel_rfl) rfl (bt q47 (by kernel_rfl)) rfl rfl ?_
      refine lskip (t := 41) (c := true) rfl (by kernel_rfl) rfl (bt q47 (by kernel_rfl)) rfl rfl ?_
      refine lskip (t := 41) (c := true) rfl (by kernel_rfl) rfl (bt q47 (by kernel_rfl)) rfl rfl ?_
      refine lv (d := 45) rfl rfl (by kernel_rfl) (e_pick_t (v := .bool true) (bt q47 (by kernel_rfl)) rfl) ?_
      refine lv (d := 46) rfl rfl (by kernel_rfl) (e_move (v := .bool true) (by kernel_rfl)) ?_
      refine lskip (t := 46) (c := true) rfl (by kernel_rfl) rfl (by kernel_rfl) rfl rfl ?_
      refine lskip (t := 46) (c := true) rfl (by kernel_rfl) rfl (by kernel_rfl) rfl rfl ?_
      refine lskip (t := 46) (c := true) rfl (by kernel_rfl) rfl (by kernel_rfl) rfl rfl ?_
      refine lv (d := 50) rfl rfl (by kernel_rfl) (e_pick_t (v := .bool true) (by kernel_rfl) rfl) ?_
      refine lv (d := 51) rfl rfl (by kernel_rfl) (e_move (v := .bool true) (by kernel_rfl)) ?_
      refine lskip (t := 51) (c := true) rfl (by kernel_rfl) rfl (by kernel_rfl) rfl rfl ?_
      refine lskip (t := 51) (c := true) rfl (by kernel_rfl) rfl (by kernel_rfl) rfl rfl ?_
      refine lskip (t := 51) (c := true) rfl (by kernel_rfl) rfl (by kernel_rfl) rfl rfl ?_
      refine lv (d := 55) rfl rfl (by kernel_rfl) (e_pick_t (v := .bool true) (by kernel_rfl) rfl) ?_
      refine lv (d := 56) rfl rfl (by kernel_rfl) (e_move (v := .bool true) (by kernel_rfl)) ?_
      refine lskip (t := 56) (c := true) rfl (by kernel_rfl) rfl (by kernel_rfl) rfl rfl ?_
      refine lskip (t := 56) (c := true) rfl (by kernel_rfl) rfl (by kernel_rfl) rfl rfl ?_
      refine lskip (t := 56) (c := true) rfl (by kernel_rfl) rfl (by kernel_rfl) rfl rfl ?_
      refine lv (d := 60) rfl rfl (by kernel_rfl) (e_pick_t (v := .bool true) (by kernel_rfl) rfl) ?_
      refine wpList_nil ?_
      refine then_n ?_
      refine cond_t rfl (by kernel_rfl) ?_
      refine wp_seq ?_
      refine wp_region_lit ?_
      refine lv (d := 2) rfl rfl (by kernel_rfl) (e_assign (v := .bool false) rfl) ?_
      refine wpList_nil ?_
      refine then_n ?_
      refine wp_ret ?_
      refine then_r ?_
      refine inb_r ?_
      refine then_r ?_
      refine then_r ?_
      refine inb_r ?_
      refine then_r ?_
      obtain rfl := Option.some.inj M
      exact ret1 rfl rfl  (show _ = .bool false from (by kernel_rfl)) ⟨rfl, S41.chg⟩
    replace M := ifn q47 M
    refine lvg (d := 42) (t := 41) rfl (by kernel_rfl) rfl (bf q47 (by kernel_rfl)) rfl (by kernel_rfl) (e_fieldAddr (b := g35) (off := 0) (o := 1) Try.underlying45 rfl rfl (sz := 1) (by kernel_rfl) (by decide) (by kernel_rfl)) ?_
    refine lvg (d := 43) (t := 41) rfl (by kernel_rfl) rfl (bf q47 (by kernel_rfl)) rfl (by kernel_rfl) (e_load1 (ad := ⟨g35, 0 + 1, none⟩) (v := .int .i64 ((x1.getD ((x10).toNat) z45).pri)) Try.underlying3 rfl (by kernel_rfl) (blk_cell b40 rfl)) ?_
    refine lvg (d := 44) (t := 41) rfl (by kernel_rfl) rfl (bf q47 (by kernel_rfl)) rfl (by kernel_rfl) (e_lss (k := .i64) (a := (x1.getD ((x10).toNat) z45).pri) (b := 1) (by kernel_rfl) rfl) ?_
    refine lv (d := 45) rfl rfl (by kernel_rfl) (e_pick_f (v := .bool (decide (((x1.getD ((x10).toNat) z45).pri) < 1))) (bf q47 (by kernel_rfl)) (by kernel_rfl)) ?_
    refine lv (d := 46) rfl rfl (by kernel_rfl) (e_move (v := .bool (decide (((x1.getD ((x10).toNat) z45).pri) < 1))) (by kernel_rfl)) ?_
    by_cases q48 : ((x1.getD ((x10).toNat) z45).pri) < 1
    · replace M := ifp q48 M
      refine lskip (t := 46) (c := true) rfl (by kernel_rfl) rfl (bt q48 (by kernel_rfl)) rfl rfl ?_
      refine lskip (t := 46) (c := true) rfl (by kernel_rfl) rfl (bt q48 (by kernel_rfl)) rfl rfl ?_
      refine lskip (t := 46) (c := true) rfl (by kernel_rfl) rfl (bt q48 (by kernel_rfl)) rfl rfl ?_
      refine lv (d := 50) rfl rfl (by kernel_rfl) (e_pick_t (v := .bool true) (bt q48 (by kernel_rfl)) rfl) ?_
      refine lv (d := 51) rfl rfl (by kernel_rfl) (e_move (v := .bool true) (by kernel_rfl)) ?_
      refine lskip (t := 51) (c := true) rfl (by kernel_rfl) rfl (by kernel_rfl) rfl rfl ?_
      refine lskip (t := 51) (c := true) rfl (by kernel_rfl) rfl (by kernel_rfl) rfl rfl ?_
      refine lskip (t := 51) (c := true) rfl (by kernel_rfl) rfl (by kernel_rfl) rfl rfl ?_
      refine lv (d := 55) rfl rfl (by kernel_rfl) (e_pick_t (v := .bool true) (by kernel_rfl) rfl) ?_
      refine lv (d := 56) rfl rfl (by kernel_rfl) (e_move (v := .bool true) (by kernel_rfl)) ?_
      refine lskip (t := 56) (c := true) rfl (by kernel_rfl) rfl (by kernel_rfl) rfl rfl ?_
      refine lskip (t := 56) (c := true) rfl (by kernel_rfl) rfl (by kernel_rfl) rfl rfl ?_
      refine lskip (t := 56) (c := true) rfl (by kernel_rfl) rfl (by kernel_rfl) rfl rfl ?_
      refine lv (d := 60) rfl rfl (by kernel_rfl) (e_pick_t (v := .bool true) (by kernel_rfl) rfl) ?_
      refine wpList_nil ?_
      refine then_n ?_
      refine cond_t rfl (by kernel_rfl) ?_
      refine wp_seq ?_
      refine wp_region_lit ?_
      refine lv (d := 2) rfl rfl (by kernel_rfl) (e_assign (v := .bool false) rfl) ?_
      refine wpList_nil ?_
      refine then_n ?_
      refine wp_ret ?_
      refine then_r ?_
      refine inb_r ?_
      refine then_r ?_
      refine then_r ?_
      refine inb_r ?_
      refine then_r ?_
      obtain rfl := Option.some.inj M
      exact ret1 rfl rfl  (show _ = .bool false from (by kernel_rfl)) ⟨rfl, S41.chg⟩
    replace M := ifn q48 M
    refine lvg (d := 47) (t := 46) rfl (by kernel_rfl) rfl (bf q48 (by kernel_rfl)) rfl (by kernel_rfl) (e_fieldAddr (b := g35) (off := 0) (o := 1) Try.underlying45 rfl rfl (sz := 1) (by kernel_rfl) (by decide) (by kernel_rfl)) ?_
    refine lvg (d := 48) (t := 46) rfl (by kernel_rfl) rfl (bf q48 (by kernel_rfl)) rfl (by kernel_rfl) (e_load1 (ad := ⟨g35, 0 + 1, none⟩) (v := .int .i64 ((x1.getD ((x10).toNat) z45).pri)) Try.underlying3 rfl (by kernel_rfl) (blk_cell b40 rfl)) ?_
    refine lvg (d := 49) (t := 46) rfl (by kernel_rfl) rfl (bf q48 (by kernel_rfl)) rfl (by kernel_rfl) (e_gtr (k := .i64) (a := (x1.getD ((x10).toNat) z45).pri) (b := 1200) (by kernel_rfl) rfl) ?_
    refine lv (d := 50) rfl rfl (by kernel_rfl) (e_pick_f (v := .bool (decide (((x1.getD ((x10).toNat) z45).pri) > 1200))) (bf q48 (by kernel_rfl)) (by kernel_rfl)) ?_
    refine lv (d := 51) rfl rfl (by kernel_rfl) (e_move (v := .bool (decide (((x1.getD ((x10).toNat) z45).pri) > 1200))) (by kernel_rfl)) ?_
    by_cases q49 : ((x1.getD ((x10).toNat) z45).pri) > 1200
    · replace M := ifp q49 M
      refine lskip (t := 51) (c := true) rfl (by kernel_rfl) rfl (bt q49 (by kernel_rfl)) rfl rfl ?_
      refine lskip (t := 51) (c := true) rfl (by kernel_rfl) rfl (bt q49 (by kernel_rfl)) rfl rfl ?_
      refine lskip (t := 51) (c := true) rfl (by kernel_rfl) rfl (bt q49 (by kernel_rfl)) rfl rfl ?_
      refine lv (d := 55) rfl rfl (by kernel_rfl) (e_pick_t (v := .bool true) (bt q49 (by kernel_rfl)) rfl) ?_
      refine lv (d := 56) rfl rfl (by kernel_rfl) (e_move (v := .bool true) (by kernel_rfl)) ?_
      refine lskip (t := 56) (c := true) rfl (by kernel_rfl) rfl (by kernel_rfl) rfl rfl ?_
      refine lskip (t := 56) (c := true) rfl (by kernel_rfl) rfl (by kernel_rfl) rfl rfl ?_
      refine lskip (t := 56) (c := true) rfl (by kernel_rfl) rfl (by kernel_rfl) rfl rfl ?_
      refine lv (d := 60) rfl rfl (by kernel_rfl) (e_pick_t (v := .bool true) (by kernel_rfl) rfl) ?_
      refine wpList_nil ?_
      refine then_n ?_
      refine cond_t rfl (by kernel_rfl) ?_
      refine wp_seq ?_
      refine wp_region_lit ?_
      refine lv (d := 2) rfl rfl (by kernel_rfl) (e_assign (v := .bool false) rfl) ?_
      refine wpList_nil ?_
      refine then_n ?_
      refine wp_ret ?_
      refine then_r ?_
      refine inb_r ?_
      refine then_r ?_
      refine then_r ?_
      refine inb_r ?_
      refine then_r ?_
      obtain rfl := Option.some.inj M
      exact ret1 rfl rfl  (show _ = .bool false from (by kernel_rfl)) ⟨rfl, S41.chg⟩
    replace M := ifn q49 M
    refine lvg (d := 52) (t := 51) rfl (by kernel_rfl) rfl (bf q49 (by kernel_rfl)) rfl (by kernel_rfl) (e_fieldAddr (b := g35) (off := 0) (o := 2) Try.underlying45 rfl rfl (sz := 1) (by kernel_rfl) (by decide) (by kernel_rfl)) ?_
    refine lvg (d := 53) (t := 51) rfl (by kernel_rfl) rfl (bf q49 (by kernel_rfl)) rfl (by kernel_rfl) (e_load1 (ad := ⟨g35, 0 + 2, none⟩) (v := .int .i64 ((x1.getD ((x10).toNat) z45).typ)) Try.underlying3 rfl (by kernel_rfl) (blk_cell b40 rfl)) ?_
    refine lvg (d := 54) (t := 51) rfl (by kernel_rfl) rfl (bf q49 (by kernel_rfl)) rfl (by kernel_rfl) (e_lss (k := .i64) (a := (x1.getD ((x10).toNat) z45).typ) (b := 0) (by kernel_rfl) rfl) ?_
    refine lv (d := 55) rfl rfl (by kernel_rfl) (e_pick_f (v := .bool (decide (((x1.getD ((x10).toNat) z45).typ) < 0))) (bf q49 (by kernel_rfl)) (by kernel_rfl)) ?_
    refine lv (d := 56) rfl rfl (by kernel_rfl) (e_move (v := .bool (decide (((x1.getD ((x10).toNat) z45).typ) < 0))) (by kernel_rfl)) ?_
    by_cases q50 : ((x1.getD ((x10).toNat) z45).typ) < 0
    · replace M := ifp q50 M
      refine lskip (t := 56) (c := true) rfl (by kernel_rfl) rfl (bt q50 (by kernel_rfl)) rfl rfl ?_
      refine lskip (t := 56) (c := true) rfl (by kernel_rfl) rfl (bt q50 (by kernel_rfl)) rfl rfl ?_
      refine lskip (t := 56) (c := true) rfl (by kernel_rfl) rfl (bt q50 (by kernel_rfl)) rfl rfl ?_
      refine lv (d := 60) rfl rfl (by kernel_rfl) (e_pick_t (v := .bool true) (bt q50 (by kernel_rfl)) rfl) ?_
      refine wpList_nil ?_
      refine then_n ?_
      refine cond_t rfl (by kernel_rfl) ?_
      refine wp_seq ?_
      refine wp_region_lit ?_
      refine lv (d := 2) rfl rfl (by kernel_rfl) (e_assign (v := .bool false) rfl) ?_
      refine wpList_nil ?_
      refine then_n ?_
      refine wp_ret ?_
      refine then_r ?_
      refine inb_r ?_
      refine then_r ?_
      refine then_r ?_
      refine inb_r ?_
      refine then_r ?_
      obtain rfl := Option.some.inj M
      exact ret1 rfl rfl  (show _ = .bool false from (by kernel_rfl)) ⟨rfl, S41.chg⟩
    replace M := ifn q50 M
    refine lvg (d := 57) (t := 56) rfl (by kernel_rfl) rfl (bf q50 (by kernel_rfl)) rfl (by kernel_rfl) (e_fieldAddr (b := g35) (off := 0) (o := 2) Try.underlying45 rfl rfl (sz := 1) (by kernel_rfl) (by decide) (by kernel_rfl)) ?_
    refine lvg (d := 58) (t := 56) rfl (by kernel_rfl) rfl (bf q50 (by kernel_rfl)) rfl (by kernel_rfl) (e_load1 (ad := ⟨g35, 0 + 2, none⟩) (v := .int .i64 ((x1.getD ((x10).toNat) z45).typ)) Try.underlying3 rfl (by kernel_rfl) (blk_cell b40 rfl)) ?_
    refine lvg (d := 59) (t := 56) rfl (by kernel_rfl) rfl (bf q50 (by kernel_rfl)) rfl (by kernel_rfl) (e_gtr (k := .i64) (a := (x1.getD ((x10).toNat) z45).typ) (b := 6) (by kernel_rfl) rfl) ?_
    refine lv (d := 60) rfl rfl (by kernel_rfl) (e_pick_f (v := .bool (decide (((x1.getD ((x10).toNat) z45).typ) > 6))) (bf q50 (by kernel_rfl)) (by kernel_rfl)) ?_
    refine wpList_nil ?_
    refine then_n ?_
    by_cases q51 : ((x1.getD ((x10).toNat) z45).typ) > 6
    · replace M := ifp q51 M
      refine cond_t rfl (bt q51 (by kernel_rfl)) ?_
      refine wp_seq ?_
      refine wp_region_lit ?_
      refine lv (d := 2) rfl rfl (by kernel_rfl) (e_assign (v := .bool false) rfl) ?_
      refine wpList_nil ?_
      refine then_n ?_
      refine wp_ret ?_
      refine then_r ?_
      refine inb_r ?_
      refine then_r ?_
      refine then_r ?_
      refine inb_r ?_
      refine then_r ?_
      obtain rfl := Option.some.inj M
      exact ret1 rfl rfl  (show _ = .bool false from (by kernel_rfl)) ⟨rfl, S41.chg⟩
    replace M := ifn q51 M
    refine cond_f rfl (bf q51 (by kernel_rfl)) ?_
    refine wp_skip ?_
    refine then_n ?_
    refine wp_seq_cut (fun a66 w52 => ∃ (k68 : Nat), k68 ≤ k21 ∧ ∃ (f53 : Nat → Value) (x54 : Bool), a66 = mk 104 f53 ∧ f53 0 = .slice A2 x1.length c3 ∧ f53 3 = .bool x54 ∧ f53 4 = .int .i64 x10 ∧ f53 5 = .pointer (some ⟨g35, 0, none⟩) ∧ f53 6 = str ((x1.getD ((x10).toNat) z45).name) ∧ f53 12 = .slice A2 x1.length c3 ∧ f53 13 = .int .i64 (x1.length : Int) ∧ f53 14 = .int .i64 x10 ∧ w52.heap[g35]? = some (.cells #[.slice A30 ((x1.getD ((x10).toNat) z45).name).length c31, .int .i64 ((x1.getD ((x10).toNat) z45).pri), .int .i64 ((x1.getD ((x10).toNat) z45).typ)] 45 (0, 0)) ∧ St (anyOf []) H w [(is g35)] H w52 ∧ impl_ValidOps.l1 k68 x1 x10 x54 = some r) ?_ ?_
    · refine wp_seq ?_
      refine wp_region_lit ?_
      refine lv (d := 61) rfl rfl (by kernel_rfl) (e_move (v := str ((x1.getD ((x10).toNat) z45).name)) (by kernel_rfl)) ?_
      refine lv (d := 62) rfl rfl (by kernel_rfl) (e_seql (p := (x1.getD ((x10).toNat) z45).name) (q := ([44] : List UInt8)) (by kernel_rfl) rfl) ?_
      refine wpList_nil ?_
      refine then_n ?_
      by_cases q69 : (x1.getD ((x10).toNat) z45).name = ([44] : List UInt8)
      · replace M := ifp q69 M
        refine cond_t rfl (bt q69 (by kernel_rfl)) ?_
        refine wp_seq ?_
        refine wp_seq ?_
        refine wp_region_lit ?_
        refine lv (d := 63) rfl rfl (by kernel_rfl) (e_move (v := .bool x9) (by exact e12)) ?_
        refine lv (d := 64) rfl rfl (by kernel_rfl) (e_move (v := .bool x9) (by kernel_rfl)) ?_
        by_cases q70 : x9 = true
        · replace M := ifp q70 M
          refine lskip (t := 64) (c := true) rfl (by kernel_rfl) rfl (bvt q70 (by kernel_rfl)) rfl rfl ?_
          refine lskip (t := 64) (c := true) rfl (by kernel_rfl) rfl (bvt q70 (by kernel_rfl)) rfl rfl ?_
          refine lskip (t := 64) (c := true) rfl (by kernel_rfl) rfl (bvt q70 (by kernel_rfl)) rfl rfl ?_
          refine lv (d := 68) rfl rfl (by kernel_rfl) (e_pick_t (v := .bool true) (bvt q70 (by kernel_rfl)) rfl) ?_
          refine lv (d := 69) rfl rfl (by kernel_rfl) (e_move (v := .bool true) (by kernel_rfl)) ?_
          refine lskip (t := 69) (c := true) rfl (by kernel_rfl) rfl (by kernel_rfl) rfl rfl ?_
          refine lskip (t := 69) (c := true) rfl (by kernel_rfl) rfl (by kernel_rfl) rfl rfl ?_
          refine lskip (t := 69) (c := true) rfl (by kernel_rfl) rfl (by kernel_rfl) rfl rfl ?_
          refine lv (d := 73) rfl rfl (by kernel_rfl) (e_pick_t (v := .bool true) (by kernel_rfl) rfl) ?_
          refine wpList_nil ?_
          refine then_n ?_
          refine cond_t rfl (by kernel_rfl) ?_
          refine wp_seq ?_
          refine wp_region_lit ?_
          refine lv (d := 2) rfl rfl (by kernel_rfl) (e_assign (v := .bool false) rfl) ?_
          refine wpList_nil ?_
          refine then_n ?_
          refine wp_ret ?_
          refine then_r ?_
          refine then_r ?_
          refine inb_r ?_
          refine then_r ?_
          refine then_r ?_
          refine inb_r ?_
          refine then_r ?_
          obtain rfl := Option.some.inj M
          exact ret1 rfl rfl  (show _ = .bool false from (by kernel_rfl)) ⟨rfl, S41.chg⟩
        replace M := ifn q70 M
        refine lvg (d := 65) (t := 64) rfl (by kernel_rfl) rfl (bvf q70 (by kernel_rfl)) rfl (by kernel_rfl) (e_fieldAddr (b := g35) (off := 0) (o := 1) Try.underlying45 rfl rfl (sz := 1) (by kernel_rfl) (by decide) (by kernel_rfl)) ?_
        refine lvg (d := 66) (t := 64) rfl (by kernel_rfl) rfl (bvf q70 (by kernel_rfl)) rfl (by kernel_rfl) (e_load1 (ad := ⟨g35, 0 + 1, none⟩) (v := .int .i64 ((x1.getD ((x10).toNat) z45).pri)) Try.underlying3 rfl (by kernel_rfl) (blk_cell b40 rfl)) ?_
        refine lvg (d := 67) (t := 64) rfl (by kernel_rfl) rfl (bvf q70 (by kernel_rfl)) rfl (by kernel_rfl) (e_neq (k := .i64) (a := (x1.getD ((x10).toNat) z45).pri) (b := 1000) (by kernel_rfl) rfl) ?_
        refine lv (d := 68) rfl rfl (by kernel_rfl) (e_pick_f (v := .bool (decide (((x1.getD ((x10).toNat) z45).pri) ≠ 1000))) (bvf q70 (by kernel_rfl)) (by kernel_rfl)) ?_
        refine lv (d := 69) rfl rfl (by kernel_rfl) (e_move (v := .bool (decide (((x1.getD ((x10).toNat) z45).pri) ≠ 1000))) (by kernel_rfl)) ?_
        by_cases q71 : ((x1.getD ((x10).toNat) z45).pri) ≠ 1000
        · replace M := ifp q71 M
          refine lskip (t := 69) (c := true) rfl (by kernel_rfl) rfl (bt q71 (by kernel_rfl)) rfl rfl ?_
          refine lskip (t := 69) (c := true) rfl (by kernel_rfl) rfl (bt q71 (by kernel_rfl)) rfl rfl ?_
          refine lskip (t := 69) (c := true) rfl (by kernel_rfl) rfl (bt q71 (by kernel_rfl)) rfl rfl ?_
          refine lv (d := 73) rfl rfl (by kernel_rfl) (e_pick_t (v := .bool true) (bt q71 (by kernel_rfl)) rfl) ?_
          refine wpList_nil ?_
          refine then_n ?_
          refine cond_t rfl (by kernel_rfl) ?_
          refine wp_seq ?_
          refine wp_region_lit ?_
          refine lv (d := 2) rfl rfl (by kernel_rfl) (e_assign (v := .bool false) rfl) ?_
          refine wpList_nil ?_
          refine then_n ?_
          refine wp_ret ?_
          refine then_r ?_
          refine then_r ?_
          refine inb_r ?_
          refine then_r ?_
          refine then_r ?_
          refine inb_r ?_
          refine then_r ?_
          obtain rfl := Option.some.inj M
          exact ret1 rfl rfl  (show _ = .bool false from (by kernel_rfl)) ⟨rfl, S41.chg⟩
        replace M := ifn q71 M
        refine lvg (d := 70) (t := 69) rfl (by kernel_rfl) rfl (bf q71 (by kernel_rfl)) rfl (by kernel_rfl) (e_fieldAddr (b := g35) (off := 0) (o := 2) Try.underlying45 rfl rfl (sz := 1) (by kernel_rfl) (by decide) (by kernel_rfl)) ?_
        refine lvg (d := 71) (t := 69) rfl (by kernel_rfl) rfl (bf q71 (by kernel_rfl)) rfl (by kernel_rfl) (e_load1 (ad := ⟨g35, 0 + 2, none⟩) (v := .int .i64 ((x1.getD ((x10).toNat) z45).typ)) Try.underlying3 rfl (by kernel_rfl) (blk_cell b40 rfl)) ?_
        refine lvg (d := 72) (t := 69) rfl (by kernel_rfl) rfl (bf q71 (by kernel_rfl)) rfl (by kernel_rfl) (e_neq (k := .i64) (a := (x1.getD ((x10).toNat) z45).typ) (b := 1) (by kernel_rfl) rfl) ?_
        refine lv (d := 73) rfl rfl (by kernel_rfl) (e_pick_f (v := .bool (decide (((x1.getD ((x10).toNat) z45).typ) ≠ 1))) (bf q71 (by kernel_rfl)) (by kernel_rfl)) ?_
        refine wpList_nil ?_
        refine then_n ?_
        by_cases q72 : ((x1.getD ((x10).toNat) z45).typ) ≠ 1
        · replace M := ifp q72 M
          refine cond_t rfl (bt q72 (by kernel_rfl)) ?_
          refine wp_seq ?_
          refine wp_region_lit ?_
          refine lv (d := 2) rfl rfl (by kernel_rfl) (e_assign (v := .bool false) rfl) ?_
          refine wpList_nil ?_
          refine then_n ?_
          refine wp_ret ?_
          refine then_r ?_
          refine then_r ?_
          refine inb_r ?_
          refine then_r ?_
          refine then_r ?_
          refine inb_r ?_
          refine then_r ?_
          obtain rfl := Option.some.inj M
          exact ret1 rfl rfl  (show _ = .bool false from (by kernel_rfl)) ⟨rfl, S41.chg⟩
        replace M := ifn q72 M
        refine cond_f rfl (bf q72 (by kernel_rfl)) ?_
        refine wp_skip ?_
        refine then_n ?_
        refine wp_region_lit ?_
        refine lv (d := 3) rfl rfl (by kernel_rfl) (e_assign (v := .bool true) rfl) ?_
        refine wpList_nil ?_
        refine then_n ?_
        exact ⟨k21, (by omega), _, true, rfl, (by exact e11), (by kernel_rfl), (by kernel_rfl), (by kernel_rfl), (by kernel_rfl), (by exact e13), (by exact e14), (by exact e15), b40, S41, M⟩
      replace M := ifn q69 M
      refine cond_f rfl (bf q69 (by kernel_rfl)) ?_
      refine wp_skip ?_
      refine then_n ?_
      exact ⟨k21, (by omega), _, x9, rfl, (by exact e11), (by exact e12), (by kernel_rfl), (by kernel_rfl), (by kernel_rfl), (by exact e13), (by exact e14), (by exact e15), b40, S41, M⟩
    clear M
    rintro a66 w52 ⟨k68, z114, f53, x54, rfl, e55, e56, e57, e58, e59, e60, e61, e62, b40, S63, M⟩
    rcases k68 with _ | k67
    · rw [impl_ValidOps.l1] at M
      cases M
    rw [impl_ValidOps.l1] at M
    refine wp_seq ?_
    refine wp_region_lit ?_
    refine lv (d := 74) rfl rfl (by kernel_rfl) (e_move (v := .int .i64 x10) (by exact e57)) ?_
    refine lv (d := 75) rfl rfl (by kernel_rfl) (e_gtr (k := .i64) (a := x10) (b := 0) (by kernel_rfl) rfl) ?_
    refine wpList_nil ?_
    refine then_n ?_
    by_cases q73 : x10 > 0
    · replace M := ifp q73 M
      refine cond_t rfl (bt q73 (by kernel_rfl)) ?_
      refine wp_seq ?_
      refine wp_region_lit ?_
      refine lv (d := 76) rfl rfl (by kernel_rfl) (e_move (v := .slice A2 x1.length c3) (by exact e55)) ?_
      refine lv (d := 77) rfl rfl (by kernel_rfl) (e_move (v := .int .i64 x10) (by exact e57)) ?_
      refine lv (d := 78) rfl rfl (by kernel_rfl) (e_sub (k := .i64) (a := x10) (b := 1) (by kernel_rfl) rfl) ?_
      obtain ⟨q74, M⟩ := chk M
      obtain ⟨q75, M⟩ := chk M
      obtain ⟨b76, o77, e78⟩ := Rd.addr h4 (show ((IntKind.i64.wrap (x10 - 1))).toNat < x1.length by omega)
      obtain ⟨y79, r80, k81⟩ := Rd.at h4 e78 (getD_some z45 (show ((IntKind.i64.wrap (x10 - 1))).toNat < x1.length by omega))
      obtain ⟨A82, c83, rfl, l84, h85⟩ := st45_open r80
      refine lv (d := 79) rfl rfl (by kernel_rfl) (e_indexAddr (b := b76) (off := o77) (n := x1.length) (c := c3) (sz := 3) (i := (IntKind.i64.wrap (x10 - 1))) (k := .i64) Try.underlying25 e78 (by kernel_rfl) (by kernel_rfl) (by kernel_rfl) q74 q75) ?_
      refine lv (d := 80) rfl rfl (by kernel_rfl) (e_loadS (b := b76) (off := o77 + ((IntKind.i64.wrap (x10 - 1)) : Int).toNat * 3) (cs := [.slice A82 ((x1.getD (((IntKind.i64.wrap (x10 - 1))).toNat) z45).name).length c83, .int .i64 ((x1.getD (((IntKind.i64.wrap (x10 - 1))).toNat) z45).pri), .int .i64 ((x1.getD (((IntKind.i64.wrap (x10 - 1))).toNat) z45).typ)]) Try.underlying45 rfl (by kernel_rfl) (by kernel_rfl) (fun j_ u_ e_ => (hpx (S63.inv.cell (k81 j_ u_ e_))))) ?_
      refine lve (d := 7) rfl rfl (by kernel_rfl) (new_blk (v := fun g_ => .pointer (some ⟨g_, 0, none⟩)) (cs := #[.slice none 0 0, .int .i64 0, .int .i64 0]) (t := 45) S63 (by kernel_rfl)) ?_
      rintro _ w86 ⟨g87, rfl, b88, S89, K90⟩
      replace b40 := K90.blk 0 rfl b40
      refine lse rfl rfl (by kernel_rfl) (e_store (g := g87) (o := 0) (v := .agg #[.slice A82 ((x1.getD (((IntKind.i64.wrap (x10 - 1))).toNat) z45).name).length c83, .int .i64 ((x1.getD (((IntKind.i64.wrap (x10 - 1))).toNat) z45).pri), .int .i64 ((x1.getD (((IntKind.i64.wrap (x10 - 1))).toNat) z45).typ)]) (cur' := #[.slice A82 ((x1.getD (((IntKind.i64.wrap (x10 - 1))).toNat) z45).name).length c83, .int .i64 ((x1.getD (((IntKind.i64.wrap (x10 - 1))).toNat) z45).pri), .int .i64 ((x1.getD (((IntKind.i64.wrap (x10 - 1))).toNat) z45).typ)]) (vs := [.slice A82 ((x1.getD (((IntKind.i64.wrap (x10 - 1))).toNat) z45).name).length c83, .int .i64 ((x1.getD (((IntKind.i64.wrap (x10 - 1))).toNat) z45).pri), .int .i64 ((x1.getD (((IntKind.i64.wrap (x10 - 1))).toNat) z45).typ)]) S89 (by kernel_rfl) (by kernel_rfl) rfl (by kernel_rfl) b88 (Nat.le_of_ble_eq_true rfl) (List.forall_mem_cons.2 ⟨rfl, (List.forall_mem_cons.2 ⟨rfl, (List.forall_mem_cons.2 ⟨rfl, (fun _ h_ => by cases h_)⟩)⟩)⟩) rfl) ?_
      rintro w91 ⟨b92, S93, K94⟩
      replace b40 := K94.blk 0 rfl b40
      clear b88
      refine wpList_nil ?_
      refine then_n ?_
      refine wp_seq ?_
      refine wp_region_lit ?_
      refine lv (d := 81) rfl rfl (by kernel_rfl) (e_fieldAddr (b := g87) (off := 0) (o := 0) Try.underlying45 rfl rfl (sz := 1) (by kernel_rfl) (by decide) (by kernel_rfl)) ?_
      refine lv (d := 82) rfl rfl (by kernel_rfl) (e_load1 (ad := ⟨g87, 0 + 0, none⟩) (v := .slice A82 ((x1.getD (((IntKind.i64.wrap (x10 - 1))).toNat) z45).name).length c83) Try.underlying32 rfl (by kernel_rfl) (blk_cell b92 rfl)) ?_
      refine lv (d := 83) rfl rfl (by kernel_rfl) (e_conv_bs (A := A82) (n := ((x1.getD (((IntKind.i64.wrap (x10 - 1))).toNat) z45).name).length) (c := c83) (xs := (x1.getD (((IntKind.i64.wrap (x10 - 1))).toNat) z45).name) Try.underlying32 Try.underlying5 Try.underlying9 (by kernel_rfl) rfl (Rd.bytesE S93.inv h85)) ?_
      refine lv (d := 8) rfl rfl (by kernel_rfl) (e_assign (v := str ((x1.getD (((IntKind.i64.wrap (x10 - 1))).toNat) z45).name)) (by kernel_rfl)) ?_
      refine wpList_nil ?_
      refine then_n ?_
      refine wp_seq ?_
      refine wp_region_lit ?_
      refine lv (d := 84) rfl rfl (by kernel_rfl) (e_move (v := str ((x1.getD (((IntKind.i64.wrap (x10 - 1))).toNat) z45).name)) (by kernel_rfl)) ?_
      refine lv (d := 85) rfl rfl (by kernel_rfl) (e_move (v := str ((x1.getD ((x10).toNat) z45).name)) (by exact e59)) ?_
      refine lv (d := 86) rfl rfl (by kernel_rfl) (e_sgtr (p := (x1.getD (((IntKind.i64.wrap (x10 - 1))).toNat) z45).name) (q := (x1.getD ((x10).toNat) z45).name) (by kernel_rfl) (by kernel_rfl)) ?_
      refine lv (d := 87) rfl rfl (by kernel_rfl) (e_move (v := .bool (!(Op.bytesLess ((x1.getD (((IntKind.i64.wrap (x10 - 1))).toNat) z45).name) ((x1.getD ((x10).toNat) z45).name) || ((x1.getD (((IntKind.i64.wrap (x10 - 1))).toNat) z45).name) == ((x1.getD ((x10).toNat) z45).name)))) (by kernel_rfl)) ?_
      by_cases q95 : (!(Op.bytesLess ((x1.getD (((IntKind.i64.wrap (x10 - 1))).toNat) z45).name) ((x1.getD ((x10).toNat) z45).name) || ((x1.getD (((IntKind.i64.wrap (x10 - 1))).toNat) z45).name) == ((x1.getD ((x10).toNat) z45).name))) = true
      · replace M := ifp q95 M
        refine lskip (t := 87) (c := true) rfl (by kernel_rfl) rfl (bvt q95 (by kernel_rfl)) rfl rfl ?_
        refine lskip (t := 87) (c := true) rfl (by kernel_rfl) rfl (bvt q95 (by kernel_rfl)) rfl rfl ?_
        refine lskip (t := 87) (c := true) rfl (by kernel_rfl) rfl (bvt q95 (by kernel_rfl)) rfl rfl ?_
        refine lskip (t := 87) (c := true) rfl (by kernel_rfl) rfl (bvt q95 (by kernel_rfl)) rfl rfl ?_
        refine lskipu (t := 91) rfl (by kernel_rfl) rfl (by kernel_rfl) rfl ?_
        refine lskipu (t := 91) rfl (by kernel_rfl) rfl (by kernel_rfl) rfl ?_
        refine lskipu (t := 91) rfl (by kernel_rfl) rfl (by kernel_rfl) rfl ?_
        refine lskipu (t := 94) rfl (by kernel_rfl) rfl (by kernel_rfl) rfl ?_
        refine lskipu (t := 94) rfl (by kernel_rfl) rfl (by kernel_rfl) rfl ?_
        refine lskipu (t := 94) rfl (by kernel_rfl) rfl (by kernel_rfl) rfl ?_
        refine lskipu (t := 91) rfl (by kernel_rfl) rfl (by kernel_rfl) rfl ?_
        refine lskipu (t := 91) rfl (by kernel_rfl) rfl (by kernel_rfl) rfl ?_
        refine lskip (t := 87) (c := true) rfl (by kernel_rfl) rfl (bvt q95 (by kernel_rfl)) rfl rfl ?_
        refine lv (d := 101) rfl rfl (by kernel_rfl) (e_pick_t (v := .bool true) (bvt q95 (by kernel_rfl)) rfl) ?_
        refine wpList_nil ?_
        refine then_n ?_
        refine cond_t rfl (by kernel_rfl) ?_
        refine wp_seq ?_
        refine wp_region_lit ?_
        refine lv (d := 2) rfl rfl (by kernel_rfl) (e_assign (v := .bool false) rfl) ?_
        refine wpList_nil ?_
        refine then_n ?_
        refine wp_ret ?_
        refine inb_r ?_
        refine then_r ?_
        refine then_r ?_
        refine inb_r ?_
        refine then_r ?_
        obtain rfl := Option.some.inj M
        exact ret1 rfl rfl  (show _ = .bool false from (by kernel_rfl)) ⟨rfl, S93.chg⟩
      replace M := ifn q95 M
      refine lvg (d := 88) (t := 87) rfl (by kernel_rfl) rfl (bvf q95 (by kernel_rfl)) rfl (by kernel_rfl) (e_move (v := str ((x1.getD (((IntKind.i64.wrap (x10 - 1))).toNat) z45).name)) (by kernel_rfl)) ?_
      refine lvg (d := 89) (t := 87) rfl (by kernel_rfl) rfl (bvf q95 (by kernel_rfl)) rfl (by kernel_rfl) (e_move (v := str ((x1.getD ((x10).toNat) z45).name)) (by exact e59)) ?_
      refine lvg (d := 90) (t := 87) rfl (by kernel_rfl) rfl (bvf q95 (by kernel_rfl)) rfl (by kernel_rfl) (e_seql (p := (x1.getD (((IntKind.i64.wrap (x10 - 1))).toNat) z45).name) (q := (x1.getD ((x10).toNat) z45).name) (by kernel_rfl) (by kernel_rfl)) ?_
      refine lvg (d := 91) (t := 87) rfl (by kernel_rfl) rfl (bvf q95 (by kernel_rfl)) rfl (by kernel_rfl) (e_move (v := .bool (decide ((x1.getD (((IntKind.i64.wrap (x10 - 1))).toNat) z45).name = (x1.getD ((x10).toNat) z45).name))) (by kernel_rfl)) ?_
      by_cases q96 : (x1.getD (((IntKind.i64.wrap (x10 - 1))).toNat) z45).name = (x1.getD ((x10).toNat) z45).name
      · replace M := ifp q96 M
        refine lvg (d := 92) (t := 91) rfl (by kernel_rfl) rfl (bt q96 (by kernel_rfl)) rfl (by kernel_rfl) (e_loadS (b := g87) (off := 0) (cs := [.slice A82 ((x1.getD (((IntKind.i64.wrap (x10 - 1))).toNat) z45).name).length c83, .int .i64 ((x1.getD (((IntKind.i64.wrap (x10 - 1))).toNat) z45).pri), .int .i64 ((x1.getD (((IntKind.i64.wrap (x10 - 1))).toNat) z45).typ)]) Try.underlying45 rfl (by kernel_rfl) (by kernel_rfl) (blk_cells b92 rfl)) ?_
        obtain ⟨t97, u98, M⟩ := bnd M
        refine lcallg (d := 93) (t := 91) rfl (by kernel_rfl) rfl (bt q96 (by kernel_rfl)) rfl (by kernel_rfl) (e_call (l := [.tmp 92]) (vs := [.agg #[.slice A82 ((x1.getD (((IntKind.i64.wrap (x10 - 1))).toNat) z45).name).length c83, .int .i64 ((x1.getD (((IntKind.i64.wrap (x10 - 1))).toNat) z45).pri), .int .i64 ((x1.getD (((IntKind.i64.wrap (x10 - 1))).toNat) z45).typ)]]) Try.func27 (by kernel_rfl) rfl (by kernel_rfl) rfl) (impl_Op_prefix.calls w91 H (x1.getD (((IntKind.i64.wrap (x10 - 1))).toNat) z45) A82 c83 h85 l84 S93.own0 t97 u98) ?_
        rintro _ w99 ⟨rfl, C100⟩
        refine ⟨_, rfl, ?_⟩
        obtain ⟨S101, K102⟩ := S93.still C100
        replace b92 := K102.blk 0 rfl b92
        replace b40 := K102.blk 1 rfl b40
        refine lvg (d := 94) (t := 91) rfl (by kernel_rfl) rfl (bt q96 (by kernel_rfl)) rfl (by kernel_rfl) (e_move (v := .bool t97) (by kernel_rfl)) ?_
        by_cases q103 : t97 = true
        · replace M := ifp q103 M
          refine lvg (d := 95) (t := 94) rfl (by kernel_rfl) rfl (bvt q103 (by kernel_rfl)) rfl (by kernel_rfl) (e_loadS (b := g35) (off := 0) (cs := [.slice A30 ((x1.getD ((x10).toNat) z45).name).length c31, .int .i64 ((x1.getD ((x10).toNat) z45).pri), .int .i64 ((x1.getD ((x10).toNat) z45).typ)]) Try.underlying45 rfl (by kernel_rfl) (by exact e58) (blk_cells b40 rfl)) ?_
          obtain ⟨t104, u105, M⟩ := bnd M
          refine lcallg (d := 96) (t := 94) rfl (by kernel_rfl) rfl (bvt q103 (by kernel_rfl)) rfl (by kernel_rfl) (e_call (l := [.tmp 95]) (vs := [.agg #[.slice A30 ((x1.getD ((x10).toNat) z45).name).length c31, .int .i64 ((x1.getD ((x10).toNat) z45).pri), .int .i64 ((x1.getD ((x10).toNat) z45).typ)]]) Try.func27 (by kernel_rfl) rfl (by kernel_rfl) rfl) (impl_Op_prefix.calls w99 H (x1.getD ((x10).toNat) z45) A30 c31 h33 l32 S101.own0 t104 u105) ?_
          rintro _ w106 ⟨rfl, C107⟩
          refine ⟨_, rfl, ?_⟩
          obtain ⟨S108, K109⟩ := S101.still C107
          replace b92 := K109.blk 0 rfl b92
          replace b40 := K109.blk 1 rfl b40
          refine lvg (d := 97) (t := 94) rfl (by kernel_rfl) rfl (bvt q103 (by kernel_rfl)) rfl (by kernel_rfl) (e_notv (c := t104) (by kernel_rfl)) ?_
          refine lvg (d := 98) (t := 91) rfl (by kernel_rfl) rfl (bt q96 (by kernel_rfl)) rfl (by kernel_rfl) (e_pick_t (v := .bool (decide (¬ (t104 = true)))) (bvt q103 (by kernel_rfl)) (by kernel_rfl)) ?_
          refine lvg (d := 99) (t := 91) rfl (by kernel_rfl) rfl (bt q96 (by kernel_rfl)) rfl (by kernel_rfl) (e_notd (c := ¬ (t104 = true)) (by kernel_rfl)) ?_
          refine lvg (d := 100) (t := 87) rfl (by kernel_rfl) rfl (bvf q95 (by kernel_rfl)) rfl (by kernel_rfl) (e_pick_t (v := .bool (decide (¬ (¬ (t104 = true))))) (bt q96 (by kernel_rfl)) (by kernel_rfl)) ?_
          refine lv (d := 101) rfl rfl (by kernel_rfl) (e_pick_f (v := .bool (decide (¬ (¬ (t104 = true))))) (bvf q95 (by kernel_rfl)) (by kernel_rfl)) ?_
          refine wpList_nil ?_
          refine then_n ?_
          by_cases q110 : ¬ (¬ (t104 = true))
          · replace M := ifp q110 M
            refine cond_t rfl (bt q110 (by kernel_rfl)) ?_
            refine wp_seq ?_
            refine wp_region_lit ?_
            refine lv (d := 2) rfl rfl (by kernel_rfl) (e_assign (v := .bool false) rfl) ?_
            refine wpList_nil ?_
            refine then_n ?_
            refine wp_ret ?_
            refine inb_r ?_
            refine then_r ?_
            refine then_r ?_
            refine inb_r ?_
            refine then_r ?_
            obtain rfl := Option.some.inj M
            exact ret1 rfl rfl  (show _ = .bool false from (by kernel_rfl)) ⟨rfl, S108.chg⟩
          replace M := ifn q110 M
          refine cond_f rfl (bf q110 (by kernel_rfl)) ?_
          refine wp_skip ?_
          refine inb_n ?_
          refine then_n ?_
          refine wp_region_lit ?_
          refine lv (d := 102) rfl rfl (by kernel_rfl) (e_add (k := .i64) (a := x10) (b := 1) (by exact e62) rfl) ?_
          refine lv (d := 14) rfl rfl (by kernel_rfl) (e_move (v := .int .i64 (IntKind.i64.wrap (x10 + 1))) (by kernel_rfl)) ?_
          refine wpList_nil ?_
          refine then_n ?_
          have S111 := St.first (Fa := []) (Fr := [(is g87), (is g35)]) S108
          exact ⟨k67, (by omega), _, x54, (IntKind.i64.wrap (x10 + 1)), rfl, (by exact e55), (by exact e56), (by exact e60), (by exact e61), (by kernel_rfl), S111, M⟩
        replace M := ifn q103 M
        refine lskip (t := 94) (c := false) rfl (by kernel_rfl) rfl (bvf q103 (by kernel_rfl)) rfl rfl ?_
        refine lskip (t := 94) (c := false) rfl (by kernel_rfl) rfl (bvf q103 (by kernel_rfl)) rfl rfl ?_
        refine lskip (t := 94) (c := false) rfl (by kernel_rfl) rfl (bvf q103 (by kernel_rfl)) rfl rfl ?_
        refine lvg (d := 98) (t := 91) rfl (by kernel_rfl) rfl (bt q96 (by kernel_rfl)) rfl (by kernel_rfl) (e_pick_f (v := .bool false) (bvf q103 (by kernel_rfl)) rfl) ?_
        refine lvg (d := 99) (t := 91) rfl (by kernel_rfl) rfl (bt q96 (by kernel_rfl)) rfl (by kernel_rfl) (e_not (c := false) (by kernel_rfl)) ?_
        refine lvg (d := 100) (t := 87) rfl (by kernel_rfl) rfl (bvf q95 (by kernel_rfl)) rfl (by kernel_rfl) (e_pick_t (v := .bool true) (bt q96 (by kernel_rfl)) (by kernel_rfl)) ?_
        refine lv (d := 101) rfl rfl (by kernel_rfl) (e_pick_f (v := .bool true) (bvf q95 (by kernel_rfl)) (by kernel_rfl)) ?_
        refine wpList_nil ?_
        refine then_n ?_
        refine cond_t rfl (by kernel_rfl) ?_
        refine wp_seq ?_
        refine wp_region_lit ?_
        refine lv (d := 2) rfl rfl (by kernel_rfl) (e_assign (v := .bool false) rfl) ?_
        refine wpList_nil ?_
        refine then_n ?_
        refine wp_ret ?_
        refine inb_r ?_
        refine then_r ?_
        refine then_r ?_
        refine inb_r ?_
        refine then_r ?_
        obtain rfl := Option.some.inj M
        exact ret1 rfl rfl  (show _ = .bool false from (by kernel_rfl)) ⟨rfl, S101.chg⟩
      replace M := ifn q96 M
      refine lskip (t := 91) (c := false) rfl (by kernel_rfl) rfl (bf q96 (by kernel_rfl)) rfl rfl ?_
      refine lskip (t := 91) (c := false) rfl (by kernel_rfl) rfl (bf q96 (by kernel_rfl)) rfl rfl ?_
      refine lskip (t := 91) (c := false) rfl (by kernel_rfl) rfl (bf q96 (by kernel_rfl)) rfl rfl ?_
      refine lskipu (t := 94) rfl (by kernel_rfl) rfl (by kernel_rfl) rfl ?_
      refine lskipu (t := 94) rfl (by kernel_rfl) rfl (by kernel_rfl) rfl ?_
      refine lskipu (t := 94) rfl (by kernel_rfl) rfl (by kernel_rfl) rfl ?_
      refine lskip (t := 91) (c := false) rfl (by kernel_rfl) rfl (bf q96 (by kernel_rfl)) rfl rfl ?_
      refine lskip (t := 91) (c := false) rfl (by kernel_rfl) rfl (bf q96 (by kernel_rfl)) rfl rfl ?_
      refine lvg (d := 100) (t := 87) rfl (by kernel_rfl) rfl (bvf q95 (by kernel_rfl)) rfl (by kernel_rfl) (e_pick_f (v := .bool false) (bf q96 (by kernel_rfl)) rfl) ?_
      refine lv (d := 101) rfl rfl (by kernel_rfl) (e_pick_f (v := .bool false) (bvf q95 (by kernel_rfl)) (by kernel_rfl)) ?_
      refine wpList_nil ?_
      refine then_n ?_
      refine cond_f rfl (by kernel_rfl) ?_
      refine wp_skip ?_
      refine inb_n ?_
      refine then_n ?_
      refine wp_region_lit ?_
      refine lv (d := 102) rfl rfl (by kernel_rfl) (e_add (k := .i64) (a := x10) (b := 1) (by exact e62) rfl) ?_
      refine lv (d := 14) rfl rfl (by kernel_rfl) (e_move (v := .int .i64 (IntKind.i64.wrap (x10 + 1))) (by kernel_rfl)) ?_
      refine wpList_nil ?_
      refine then_n ?_
      have S112 := St.first (Fa := []) (Fr := [(is g87), (is g35)]) S93
      exact ⟨k67, (by omega), _, x54, (IntKind.i64.wrap (x10 + 1)), rfl, (by exact e55), (by exact e56), (by exact e60), (by exact e61), (by kernel_rfl), S112, M⟩
    replace M := ifn q73 M
    refine cond_f rfl (bf q73 (by kernel_rfl)) ?_
    refine wp_skip ?_
    refine inb_n ?_
    refine then_n ?_
    refine wp_region_lit ?_
    refine lv (d := 102) rfl rfl (by kernel_rfl) (e_add (k := .i64) (a := x10) (b := 1) (by exact e62) rfl) ?_
    refine lv (d := 14) rfl rfl (by kernel_rfl) (e_move (v := .int .i64 (IntKind.i64.wrap (x10 + 1))) (by kernel_rfl)) ?_
    refine wpList_nil ?_
    refine then_n ?_
    have S113 := St.first (Fa := []) (Fr := [(is g35)]) S63
    exact ⟨k67, (by omega), _, x54, (IntKind.i64.wrap (x10 + 1)), rfl, (by exact e55), (by exact e56), (by exact e60), (by exact e61), (by kernel_rfl), S113, M⟩
  replace M := ifn q22 M
  refine cond_f rfl (bf q22 (by kernel_rfl)) ?_
  refine wp_exit ?_
  refine then_e ?_
  refine then_e ?_
  refine inb_hit ?_
  refine then_n ?_
  refine wp_seq ?_
  refine wp_region_lit ?_
  refine lv (d := 103) rfl rfl (by kernel_rfl) (e_move (v := .bool x9) (by exact e12)) ?_
  refine lv (d := 2) rfl rfl (by kernel_rfl) (e_assign (v := .bool x9) (by kernel_rfl)) ?_
  refine wpList_nil ?_
  refine then_n ?_
  refine wp_ret ?_
  obtain rfl := Option.some.inj M
  exact ret1 rfl rfl  (show _ = .bool x9 from (by kernel_rfl)) ⟨rfl, S16.chg⟩

/-! impl_copyOps -/
def impl_copyOps.l0 : Nat → (List Sy.Op) → (List Sy.Op) → Int → Option (List Sy.Op)
  | 0, _, _, _ => none
  | k23 + 1, x1, x8, x13 => (if x13 < (x1.length : Int) then (if 0 ≤ x13 then (if 0 + ((x1.getD ((x13).toNat) z45).name).length ≤ 140737488355328 then (if x8.length + 1 ≤ 3518437208883 then (impl_copyOps.l0 k23 x1 (x8 ++ [(⟨(([] : List UInt8) ++ ((x1.getD ((x13).toNat) z45).name)), (x1.getD ((x13).toNat) z45).pri, (x1.getD ((x13).toNat) z45).typ⟩ : Sy.Op)]) (IntKind.i64.wrap (x13 + 1))) else none) else none) else none) else some x8)
def impl_copyOps.f (k : Nat) (x1 : List Sy.Op) : Option (List Sy.Op) := (impl_copyOps.l0 k x1 [] 0)
theorem impl_copyOps.calls (k : Nat) (w : World) (H : Hp) (x1 : List Sy.Op) (A2 : Option Addr) (c3 : Nat) (h4 : Rd st45 H A2 x1) (l5 : x1.length ≤ c3) (S : Own [] H w) (r : List Sy.Op) (M : impl_copyOps.f k x1 = some r) :
    Calls Try.prog 38 #[.slice A2 x1.length c3] w (fun e e_w => ∃ (A_1 : Option Addr) (c_1 : Nat) (F_1 : Foot) (H_ : Hp), e = .returned (.slice A_1 r.length c_1) ∧ Row st45 45 H_ (hp e_w) F_1 A_1 c_1 r ∧ St (anyOf []) H w [F_1] H_ e_w) := by
  rw [impl_copyOps.f] at M
  refine enter (l := [.slice A2 x1.length c3]) 23 Try.func38 rfl rfl rfl ?_
  have S0_ := S.st
  refine wp_seq ?_
  refine wp_region_lit ?_
  refine lv (d := 2) rfl rfl (by kernel_rfl) (e_assign (v := .slice none 0 0) rfl) ?_
  refine wpList_nil ?_
  refine then_n ?_
  refine wp_seq ?_
  refine wp_region_lit ?_
  refine lv (d := 3) rfl rfl (by kernel_rfl) (e_assign (v := .slice none 0 0) rfl) ?_
  refine wpList_nil ?_
  refine then_n ?_
  refine wp_seq ?_
  refine wp_seq ?_
  refine wp_region_lit ?_
  refine lv (d := 6) rfl rfl (by kernel_rfl) (e_move (v := .slice A2 x1.length c3) (by kernel_rfl)) ?_
  refine lv (d := 7) rfl rfl (by kernel_rfl) (e_len (A := A2) (n := x1.length) (c := c3) Try.underlying25 (by kernel_rfl)) ?_
  refine lv (d := 8) rfl rfl (by kernel_rfl) (e_move (v := .int .i64 0) rfl) ?_
  refine wpList_nil ?_
  refine then_n ?_
  refine wp_block ?_
  have S24 := S0_.unit
  refine wp_loop_g (fun k21 a22 w6 => ∃ (f7 : Nat → Value) (x8 : List Sy.Op) (A9 : Option Addr) (c10 : Nat) (F11 : Foot) (x13 : Int), a22 = mk 23 f7 ∧ f7 3 = .slice A9 x8.length c10 ∧ f7 6 = .slice A2 x1.length c3 ∧ f7 7 = .int .i64 (x1.length : Int) ∧ f7 8 = .int .i64 x13 ∧ Row st45 45 H (hp w6) F11 A9 c10 x8 ∧ St (anyOf []) H w [F11] H w6 ∧ impl_copyOps.l0 k21 x1 x8 x13 = some r) k ⟨_, [], none, 0, no, 0, rfl, (by kernel_rfl), (by kernel_rfl), (by kernel_rfl), (by kernel_rfl), (Row.nil _ _ _ _ _), S24, M⟩ ?_
  clear M
  rintro k21 a22 w6 ⟨f7, x8, A9, c10, F11, x13, rfl, e14, e15, e16, e17, h12, S18, M⟩
  rcases k21 with _ | k23
  · rw [impl_copyOps.l0] at M
    cases M
  rw [impl_copyOps.l0] at M
  refine wp_seq ?_
  refine wp_region_lit ?_
  refine lv (d := 9) rfl rfl (by kernel_rfl) (e_lss (k := .i64) (a := x13) (b := (x1.length : Int)) (by exact e17) (by exact e16)) ?_
  refine wpList_nil ?_
  refine then_n ?_
  refine wp_seq ?_
  by_cases q25 : x13 < (x1.length : Int)
  · replace M := ifp q25 M
    refine cond_t rfl (bt q25 (by kernel_rfl)) ?_
    refine wp_skip ?_
    refine then_n ?_
    refine wp_seq ?_
    refine wp_block ?_
    refine wp_seq ?_
    refine wp_region_lit ?_
    obtain ⟨q26, M⟩ := chk M
    obtain ⟨b27, o28, e29⟩ := Rd.addr h4 (show (x13).toNat < x1.length by omega)
    obtain ⟨y30, r31, k32⟩ := Rd.at h4 e29 (getD_some z45 (show (x13).toNat < x1.length by omega))
    obtain ⟨A33, c34, rfl, l35, h36⟩ := st45_open r31
    refine lv (d := 10) rfl rfl (by kernel_rfl) (e_indexAddr (b := b27) (off := o28) (n := x1.length) (c := c3) (sz := 3) (i := x13) (k := .i64) Try.underlying25 e29 (by kernel_rfl) (by exact e15) (by exact e17) q26 q25) ?_
    refine lv (d := 11) rfl rfl (by kernel_rfl) (e_loadS (b := b27) (off := o28 + (x13 : Int).toNat * 3) (cs := [.slice A33 ((x1.getD ((x13).toNat) z45).name).length c34, .int .i64 ((x1.getD ((x13).toNat) z45).pri), .int .i64 ((x1.getD ((x13).toNat) z45).typ)]) Try.underlying45 rfl (by kernel_rfl) (by kernel_rfl) (fun j_ u_ e_ => (hpx (S18.inv.cell (k32 j_ u_ e_))))) ?_
    refine lve (d := 5) rfl rfl (by kernel_rfl) (new_blk (v := fun g_ => .pointer (some ⟨g_, 0, none⟩)) (cs := #[.slice none 0 0, .int .i64 0, .int .i64 0]) (t := 45) S18 (by kernel_rfl)) ?_
    rintro _ w37 ⟨g38, rfl, b39, S40, K41⟩
    replace h12 := h12.move (K41.at 0 rfl)
    refine lse rfl rfl (by kernel_rfl) (e_store (g := g38) (o := 0) (v := .agg #[.slice A33 ((x1.getD ((x13).toNat) z45).name).length c34, .int .i64 ((x1.getD ((x13).toNat) z45).pri), .int .i64 ((x1.getD ((x13).toNat) z45).typ)]) (cur' := #[.slice A33 ((x1.getD ((x13).toNat) z45).name).length c34, .int .i64 ((x1.getD ((x13).toNat) z45).pri), .int .i64 ((x1.getD ((x13).toNat) z45).typ)]) (vs := [.slice A33 ((x1.getD ((x13).toNat) z45).name).length c34, .int .i64 ((x1.getD ((x13).toNat) z45).pri), .int .i64 ((x1.getD ((x13).toNat) z45).typ)]) S40 (by kernel_rfl) (by kernel_rfl) rfl (by kernel_rfl) b39 (Nat.le_of_ble_eq_true rfl) (List.forall_mem_cons.2 ⟨rfl, (List.forall_mem_cons.2 ⟨rfl, (List.forall_mem_cons.2 ⟨rfl, (fun _ h_ => by cases h_)⟩)⟩)⟩) rfl) ?_
    rintro w42 ⟨b43, S44, K45⟩
    replace h12 := h12.move (K45.at 0 rfl)
    clear b39
    refine wpList_nil ?_
    refine then_n ?_
    refine wp_seq ?_
    refine wp_region_lit ?_
    refine lve (d := 12) rfl rfl (by kernel_rfl) (new_blk (v := fun g_ => .slice (some ⟨g_, 0, none⟩) 0 0) (cs := #[]) (t := 5) S44 (by kernel_rfl)) ?_
    rintro _ w46 ⟨g47, rfl, b48, S49, K50⟩
    replace b43 := K50.blk 0 rfl b43
    replace h12 := h12.move (K50.at 1 rfl)
    have S51 := S49.unit
    have S52 := S51.pull (F := (is g47)) (Fr := [no, (is g38), F11]) 1 rfl rfl
    obtain ⟨h53, S54⟩ := row_lit (d := tByte) (xs := ([] : List UInt8)) S52 b48 rfl (elsO_nil _ _ _ no) (Nat.le_of_ble_eq_true rfl)
    refine lv (d := 13) rfl rfl (by kernel_rfl) (e_fieldAddr (b := g38) (off := 0) (o := 0) Try.underlying45 rfl rfl (sz := 1) (by kernel_rfl) (by decide) (by kernel_rfl)) ?_
    refine lv (d := 14) rfl rfl (by kernel_rfl) (e_load1 (ad := ⟨g38, 0 + 0, none⟩) (v := .slice A33 ((x1.getD ((x13).toNat) z45).name).length c34) Try.underlying32 rfl (by kernel_rfl) (blk_cell b43 rfl)) ?_
    obtain ⟨y55, h56, h57⟩ := Rd.news (d := tByte) (ro_scal _ _) S54 h36
    obtain ⟨q58, M⟩ := chk M
    have S59 := S54.unit
    have S60 := S59.pull (F := (or2 (is g47) no)) (Fr := [no, (is g38), F11]) 1 rfl rfl
    refine lve (d := 15) rfl rfl (by kernel_rfl) (e_append (d := tByte) (n := 0) (xs := ([] : List UInt8)) (cap := 0) (A := (some ⟨g47, 0, none⟩)) (ys := (x1.getD ((x13).toNat) z45).name) (A2 := A33) (c2 := c34) (z := .int .u8 0) (bytes := 1) S60 Try.underlying32 (by kernel_rfl) rfl (by decide) (by kernel_rfl) rfl (by kernel_rfl) h53 h56 h57 (show (0 + ((x1.getD ((x13).toNat) z45).name).length) * 1 ≤ _ by first | omega | (simp only [List.length_cons, List.length_nil]; omega)) (by decide)) ?_
    rintro _ w61 ⟨A62, c63, F64, rfl, h65, S66, K67⟩
    replace b43 := K67.blk 0 rfl b43
    replace h12 := h12.move (K67.at 1 rfl)
    refine lv (d := 16) rfl rfl (by kernel_rfl) (e_fieldAddr (b := g38) (off := 0) (o := 0) Try.underlying45 rfl rfl (sz := 1) (by kernel_rfl) (by decide) (by kernel_rfl)) ?_
    have S68 := S66.pull (F := (is g38)) (Fr := [F64, F11]) 1 rfl rfl
    refine lse rfl rfl (by kernel_rfl) (e_store (g := g38) (o := 0 + 0) (v := .slice A62 ((([] : List UInt8) ++ ((x1.getD ((x13).toNat) z45).name)).length) c63) (cur' := #[.slice A62 ((([] : List UInt8) ++ ((x1.getD ((x13).toNat) z45).name)).length) c63, .int .i64 ((x1.getD ((x13).toNat) z45).pri), .int .i64 ((x1.getD ((x13).toNat) z45).typ)]) (vs := [.slice A62 ((([] : List UInt8) ++ ((x1.getD ((x13).toNat) z45).name)).length) c63]) S68 (by kernel_rfl) (by kernel_rfl) rfl (by kernel_rfl) b43 (Nat.le_of_ble_eq_true rfl) (List.forall_mem_cons.2 ⟨rfl, (fun _ h_ => by cases h_)⟩) rfl) ?_
    rintro w69 ⟨b70, S71, K72⟩
    replace h65 := h65.move (K72.at 0 rfl)
    replace h12 := h12.move (K72.at 1 rfl)
    clear b43
    refine wpList_nil ?_
    refine then_n ?_
    refine wp_region_lit ?_
    refine lv (d := 17) rfl rfl (by kernel_rfl) (e_move (v := .slice A9 x8.length c10) (by exact e14)) ?_
    refine lv (d := 18) rfl rfl (by kernel_rfl) (e_loadS (b := g38) (off := 0) (cs := [.slice A62 ((([] : List UInt8) ++ ((x1.getD ((x13).toNat) z45).name)).length) c63, .int .i64 ((x1.getD ((x13).toNat) z45).pri), .int .i64 ((x1.getD ((x13).toNat) z45).typ)]) Try.underlying45 rfl (by kernel_rfl) (by kernel_rfl) (blk_cells b70 rfl)) ?_
    refine lve (d := 19) rfl rfl (by kernel_rfl) (new_blk (v := fun g_ => .slice (some ⟨g_, 0, none⟩) 1 1) (cs := #[.slice A62 ((([] : List UInt8) ++ ((x1.getD ((x13).toNat) z45).name)).length) c63, .int .i64 ((x1.getD ((x13).toNat) z45).pri), .int .i64 ((x1.getD ((x13).toNat) z45).typ)]) (t := 45) S71 (by kernel_rfl)) ?_
    rintro _ w73 ⟨g74, rfl, b75, S76, K77⟩
    replace b70 := K77.blk 0 rfl b70
    replace h65 := h65.move (K77.at 1 rfl)
    replace h12 := h12.move (K77.at 2 rfl)
    obtain ⟨q78, M⟩ := chk M
    have S79 := S76.pull (F := F64) (Fr := [(is g74), (is g38), F11]) 2 rfl rfl
    have S80 := S79.pull (F := F11) (Fr := [F64, (is g74), (is g38)]) 3 rfl rfl
    refine lve (d := 20) rfl rfl (by kernel_rfl) (e_append (d := st45) (n := x8.length) (xs := x8) (cap := c10) (A := A9) (ys := [(⟨(([] : List UInt8) ++ ((x1.getD ((x13).toNat) z45).name)), (x1.getD ((x13).toNat) z45).pri, (x1.getD ((x13).toNat) z45).typ⟩ : Sy.Op)]) (A2 := (some ⟨g74, 0, none⟩)) (c2 := 1) (z := .agg #[.slice none 0 0, .int .i64 0, .int .i64 0]) (bytes := 40) S80 Try.underlying25 (by kernel_rfl) rfl (by decide) (by kernel_rfl) rfl (by kernel_rfl) h12 (elsO_one1 (st45_mkO (x := (⟨(([] : List UInt8) ++ ((x1.getD ((x13).toNat) z45).name)), (x1.getD ((x13).toNat) z45).pri, (x1.getD ((x13).toNat) z45).typ⟩ : Sy.Op)) h65)) (.inr (blk_news b75 rfl)) (show (x8.length + [(⟨(([] : List UInt8) ++ ((x1.getD ((x13).toNat) z45).name)), (x1.getD ((x13).toNat) z45).pri, (x1.getD ((x13).toNat) z45).typ⟩ : Sy.Op)].length) * 40 ≤ _ by first | omega | (simp only [List.length_cons, List.length_nil]; omega)) (by decide)) ?_
    rintro _ w81 ⟨A82, c83, F84, rfl, h85, S86, K87⟩
    replace b75 := K87.blk 0 rfl b75
    replace b70 := K87.blk 1 rfl b70
    refine lv (d := 3) rfl rfl (by kernel_rfl) (e_assign (v := .slice A82 ((x8 ++ [(⟨(([] : List UInt8) ++ ((x1.getD ((x13).toNat) z45).name)), (x1.getD ((x13).toNat) z45).pri, (x1.getD ((x13).toNat) z45).typ⟩ : Sy.Op)]).length) c83) (by kernel_rfl)) ?_
    refine wpList_nil ?_
    refine inb_n ?_
    refine then_n ?_
    refine wp_region_lit ?_
    refine lv (d := 21) rfl rfl (by kernel_rfl) (e_add (k := .i64) (a := x13) (b := 1) (by exact e17) rfl) ?_
    refine lv (d := 8) rfl rfl (by kernel_rfl) (e_move (v := .int .i64 (IntKind.i64.wrap (x13 + 1))) (by kernel_rfl)) ?_
    refine wpList_nil ?_
    refine then_n ?_
    have S88 := St.first (Fa := [F84]) (Fr := [(is g74), (is g38)]) S86
    exact ⟨k23, (by omega), _, (x8 ++ [(⟨(([] : List UInt8) ++ ((x1.getD ((x13).toNat) z45).name)), (x1.getD ((x13).toNat) z45).pri, (x1.getD ((x13).toNat) z45).typ⟩ : Sy.Op)]), A82, c83, F84, (IntKind.i64.wrap (x13 + 1)), rfl, (by kernel_rfl), (by exact e15), (by exact e16), (by kernel_rfl), h85, S88, M⟩
  replace M := ifn q25 M
  refine cond_f rfl (bf q25 (by kernel_rfl)) ?_
  refine wp_exit ?_
  refine then_e ?_
  refine then_e ?_
  refine inb_hit ?_
  refine then_n ?_
  refine wp_seq ?_
  refine wp_region_lit ?_
  refine lv (d := 22) rfl rfl (by kernel_rfl) (e_move (v := .slice A9 x8.length c10) (by exact e14)) ?_
  refine lv (d := 2) rfl rfl (by kernel_rfl) (e_assign (v := .slice A9 x8.length c10) (by kernel_rfl)) ?_
  refine wpList_nil ?_
  refine then_n ?_
  refine wp_ret ?_
  obtain rfl := Option.some.inj M
  exact ret1 rfl rfl  (show _ = .slice A9 x8.length c10 from (by kernel_rfl)) ⟨A9, c10, F11, H, rfl, h12, S18⟩

/-! impl_Op_infix -/
def impl_Op_infix.f (x1 : Sy.Op) : Option Bool := some (decide (x1.typ ≤ 2))
theorem impl_Op_infix.calls (w : World) (H : Hp) (x1 : Sy.Op) (A2 : Option Addr) (c3 : Nat) (h4 : Rd tByte H A2 x1.name) (l5 : x1.name.length ≤ c3) (S : Own [] H w) (r : Bool) (M : impl_Op_infix.f x1 = some r) :
    Calls Try.prog 39 #[.agg #[.slice A2 x1.name.length c3, .int .i64 x1.pri, .int .i64 x1.typ]] w (fun e e_w => e = .returned (.bool r) ∧ Chg no w e_w) := by
  rw [impl_Op_infix.f] at M
  refine enter (l := [.agg #[.slice A2 x1.name.length c3, .int .i64 x1.pri, .int .i64 x1.typ]]) 6 Try.func39 rfl rfl rfl ?_
  have S0_ := S.st
  refine wp_seq ?_
  refine wp_region_lit ?_
  refine lve (d := 1) rfl rfl (by kernel_rfl) (new_blk (v := fun g_ => .pointer (some ⟨g_, 0, none⟩)) (cs := #[.slice A2 x1.name.length c3, .int .i64 x1.pri, .int .i64 x1.typ]) (t := 45) S0_ (by kernel_rfl)) ?_
  rintro _ w6 ⟨g7, rfl, b9, S10, K11⟩
  refine lv (d := 2) rfl rfl (by kernel_rfl) (e_assign (v := .bool false) rfl) ?_
  refine wpList_nil ?_
  refine then_n ?_
  refine wp_seq ?_
  refine wp_region_lit ?_
  refine lv (d := 3) rfl rfl (by kernel_rfl) (e_fieldAddr (b := g7) (off := 0) (o := 2) Try.underlying45 rfl rfl (sz := 1) (by kernel_rfl) (by decide) (by kernel_rfl)) ?_
  refine lv (d := 4) rfl rfl (by kernel_rfl) (e_load1 (ad := ⟨g7, 0 + 2, none⟩) (v := .int .i64 x1.typ) Try.underlying3 rfl (by kernel_rfl) (blk_cell b9 rfl)) ?_
  refine lv (d := 5) rfl rfl (by kernel_rfl) (e_leq (k := .i64) (a := x1.typ) (b := 2) (by kernel_rfl) rfl) ?_
  refine lv (d := 2) rfl rfl (by kernel_rfl) (e_assign (v := .bool (decide (x1.typ ≤ 2))) (by kernel_rfl)) ?_
  refine wpList_nil ?_
  refine then_n ?_
  refine wp_ret ?_
  obtain rfl := Option.some.inj M
  exact ret1 rfl rfl  (show _ = .bool (decide (x1.typ ≤ 2)) from (by kernel_rfl)) ⟨rfl, S10.chg⟩

/-! impl_AddOp -/
def impl_AddOp.l0 : Nat → Int → Int → (List UInt8) → (List Sy.Op) → (List Sy.Op) → Int → Option ((List Sy.Op) × Int)
  | 0, _, _, _, _, _, _ => none
  | k91 + 1, x6, x7, x8, t58, x72, x77 => (if x77 < (t58.length : Int) then (if 0 ≤ x77 then (if (t58.getD ((x77).toNat) z45).name = x8 then ((impl_Op_prefix.f (t58.getD ((x77).toNat) z45)).bind fun t131 => ((impl_Op_prefix.f (⟨x8, x6, x7⟩ : Sy.Op)).bind fun t140 => (if t131 = t140 then ((impl_Op_infix.f (t58.getD ((x77).toNat) z45)).bind fun t154 => ((impl_Op_infix.f (⟨x8, x6, x7⟩ : Sy.Op)).bind fun t163 => (if t154 ≠ t163 then some ([], 4) else (impl_AddOp.l0 k91 x6 x7 x8 t58 x72 (IntKind.i64.wrap (x77 + 1)))))) else (if x72.length + 1 ≤ 3518437208883 then (impl_AddOp.l0 k91 x6 x7 x8 t58 (x72 ++ [(t58.getD ((x77).toNat) z45)]) (IntKind.i64.wrap (x77 + 1))) else none)))) else (if x72.length + 1 ≤ 3518437208883 then (impl_AddOp.l0 k91 x6 x7 x8 t58 (x72 ++ [(t58.getD ((x77).toNat) z45)]) (IntKind.i64.wrap (x77 + 1))) else none)) else none) else (if x6 > 0 then (if x72.length + 1 ≤ 3518437208883 then ((impl_sortOps.f k91 (x72 ++ [(⟨x8, x6, x7⟩ : Sy.Op)])).bind fun t242 => (if ((x72 ++ [(⟨x8, x6, x7⟩ : Sy.Op)]).length : Int) > 200 then some ([], 3) else some (t242, 0))) else none) else (if (x72.length : Int) > 200 then some ([], 3) else some (x72, 0))))
def impl_AddOp.f (k : Nat) (x1 : List Sy.Op) (x6 : Int) (x7 : Int) (x8 : List UInt8) : Option ((List Sy.Op) × Int) := ((impl_ValidOps.f k x1).bind fun t13 => (if ¬ (t13 = true) then some ([], 1) else (if (x8.length : Int) < 1 then some ([], 1) else (if (x8.length : Int) > 100 then some ([], 1) else (if x6 < 0 then some ([], 1) else (if x6 > 1200 then some ([], 1) else (if x7 < 0 then some ([], 1) else (if x7 > 6 then some ([], 1) else (if x8 = ([44] : List UInt8) then some ([], 4) else (if x8 = ([91, 93] : List UInt8) then some ([], 4) else (if x8 = ([123, 125] : List UInt8) then some ([], 4) else (if x8 = ([124] : List UInt8) then some ([], 4) else (if x8.length ≤ 9223372036854775807 then ((impl_copyOps.f k x1).bind fun t58 => (impl_AddOp.l0 k x6 x7 x8 t58 [] 0)) else none)))))))))))))
theorem impl_AddOp.calls (k : Nat) (w : World) (H : Hp) (x1 : List Sy.Op) (A2 : Option Addr) (c3 : Nat) (x6 : Int) (x7 : Int) (x8 : List UInt8) (A9 : Option Addr) (c10 : Nat) (h4 : Rd st45 H A2 x1) (l5 : x1.length ≤ c3) (h11 : Rd tByte H A9 x8) (l12 : x8.length ≤ c10) (S : Own [] H w) (r : (List Sy.Op) × Int) (M : impl_AddOp.f k x1 x6 x7 x8 = some r) :
    Calls Try.prog 18 #[.slice A2 x1.length c3, .int .i64 x6, .int .i64 x7, .slice A9 x8.length c10] w (fun e e_w => ∃ (A_1 : Option Addr) (c_1 : Nat) (F_1 : Foot) (H_ : Hp), e = .returned (.tuple #[.slice A_1 r.1.length c_1, .int .i64 r.2]) ∧ Row st45 45 H_ (hp e_w) F_1 A_1 c_1 r.1 ∧ St (anyOf []) H w [F_1] H_ e_w) := by
  rw [impl_AddOp.f] at M
  refine enter (l := [.slice A2 x1.length c3, .int .i64 x6, .int .i64 x7, .slice A9 x8.length c10]) 106 Try.func18 rfl rfl rfl ?_
  have S0_ := S.st
  refine wp_seq ?_
  refine wp_region_lit ?_
  refine lv (d := 8) rfl rfl (by kernel_rfl) (e_assign (v := .slice none 0 0) rfl) ?_
  refine lv (d := 9) rfl rfl (by kernel_rfl) (e_assign (v := .int .i64 0) rfl) ?_
  refine wpList_nil ?_
  refine then_n ?_
  refine wp_seq ?_
  refine wp_seq ?_
  refine wp_region_lit ?_
  refine lv (d := 15) rfl rfl (by kernel_rfl) (e_move (v := .slice A2 x1.length c3) (by kernel_rfl)) ?_
  obtain ⟨t13, u14, M⟩ := bnd M
  refine lcall (d := 16) rfl rfl (by kernel_rfl) (e_call (l := [.tmp 15]) (vs := [.slice A2 x1.length c3]) Try.func10 (by kernel_rfl) rfl (by kernel_rfl) rfl) (impl_ValidOps.calls k w H x1 A2 c3 h4 l5 S0_.own0 t13 u14) ?_
  rintro _ w15 ⟨rfl, C16⟩
  refine ⟨_, rfl, ?_⟩
  obtain ⟨S17, K18⟩ := S0_.still C16
  refine lv (d := 17) rfl rfl (by kernel_rfl) (e_notv (c := t13) (by kernel_rfl)) ?_
  refine lv (d := 18) rfl rfl (by kernel_rfl) (e_move (v := .bool (decide (¬ (t13 = true)))) (by kernel_rfl)) ?_
  by_cases q19 : ¬ (t13 = true)
  · replace M := ifp q19 M
    refine lskip (t := 18) (c := true) rfl (by kernel_rfl) rfl (bt q19 (by kernel_rfl)) rfl rfl ?_
    refine lskip (t := 18) (c := true) rfl (by kernel_rfl) rfl (bt q19 (by kernel_rfl)) rfl rfl ?_
    refine lskip (t := 18) (c := true) rfl (by kernel_rfl) rfl (bt q19 (by kernel_rfl)) rfl rfl ?_
    refine lv (d := 22) rfl rfl (by kernel_rfl) (e_pick_t (v := .bool true) (bt q19 (by kernel_rfl)) rfl) ?_
    refine lv (d := 23) rfl rfl (by kernel_rfl) (e_move (v := .bool true) (by kernel_rfl)) ?_
    refine lskip (t := 23) (c := true) rfl (by kernel_rfl) rfl (by kernel_rfl) rfl rfl ?_
    refine lskip (t := 23) (c := true) rfl (by kernel_rfl) rfl (by kernel_rfl) rfl rfl ?_
    refine lskip (t := 23) (c := true) rfl (by kernel_rfl) rfl (by kernel_rfl) rfl rfl ?_
    refine lv (d := 27) rfl rfl (by kernel_rfl) (e_pick_t (v := .bool true) (by kernel_rfl) rfl) ?_
    refine lv (d := 28) rfl rfl (by kernel_rfl) (e_move (v := .bool true) (by kernel_rfl)) ?_
    refine lskip (t := 28) (c := true) rfl (by kernel_rfl) rfl (by kernel_rfl) rfl rfl ?_
    refine lskip (t := 28) (c := true) rfl (by kernel_rfl) rfl (by kernel_rfl) rfl rfl ?_
    refine lv (d := 31) rfl rfl (by kernel_rfl) (e_pick_t (v := .bool true) (by kernel_rfl) rfl) ?_
    refine lv (d := 32) rfl rfl (by kernel_rfl) (e_move (v := .bool true) (by kernel_rfl)) ?_
    refine lskip (t := 32) (c := true) rfl (by kernel_rfl) rfl (by kernel_rfl) rfl rfl ?_
    refine lskip (t := 32) (c := true) rfl (by kernel_rfl) rfl (by kernel_rfl) rfl rfl ?_
    refine lv (d := 35) rfl rfl (by kernel_rfl) (e_pick_t (v := .bool true) (by kernel_rfl) rfl) ?_
    refine lv (d := 36) rfl rfl (by kernel_rfl) (e_move (v := .bool true) (by kernel_rfl)) ?_
    refine lskip (t := 36) (c := true) rfl (by kernel_rfl) rfl (by kernel_rfl) rfl rfl ?_
    refine lskip (t := 36) (c := true) rfl (by kernel_rfl) rfl (by kernel_rfl) rfl rfl ?_
    refine lv (d := 39) rfl rfl (by kernel_rfl) (e_pick_t (v := .bool true) (by kernel_rfl) rfl) ?_
    refine lv (d := 40) rfl rfl (by kernel_rfl) (e_move (v := .bool true) (by kernel_rfl)) ?_
    refine lskip (t := 40) (c := true) rfl (by kernel_rfl) rfl (by kernel_rfl) rfl rfl ?_
    refine lskip (t := 40) (c := true) rfl (by kernel_rfl) rfl (by kernel_rfl) rfl rfl ?_
    refine lv (d := 43) rfl rfl (by kernel_rfl) (e_pick_t (v := .bool true) (by kernel_rfl) rfl) ?_
    refine wpList_nil ?_
    refine then_n ?_
    refine cond_t rfl (by kernel_rfl) ?_
    refine wp_seq ?_
    refine wp_region_lit ?_
    refine lv (d := 8) rfl rfl (by kernel_rfl) (e_assign (v := .slice none 0 0) rfl) ?_
    refine lv (d := 9) rfl rfl (by kernel_rfl) (e_assign (v := .int .i64 1) rfl) ?_
    refine wpList_nil ?_
    refine then_n ?_
    refine wp_ret ?_
    refine then_r ?_
    obtain rfl := Option.some.inj M
    have S20 := S17.unit
    exact ret2 rfl rfl rfl (show _ = .slice none 0 0 from (by kernel_rfl)) (show _ = .int .i64 1 from (by kernel_rfl)) ⟨none, 0, no, H, rfl, (Row.nil _ _ _ _ no), S20⟩
  replace M := ifn q19 M
  refine lvg (d := 19) (t := 18) rfl (by kernel_rfl) rfl (bf q19 (by kernel_rfl)) rfl (by kernel_rfl) (e_move (v := .slice A9 x8.length c10) (by kernel_rfl)) ?_
  refine lvg (d := 20) (t := 18) rfl (by kernel_rfl) rfl (bf q19 (by kernel_rfl)) rfl (by kernel_rfl) (e_len (A := A9) (n := x8.length) (c := c10) Try.underlying32 (by kernel_rfl)) ?_
  refine lvg (d := 21) (t := 18) rfl (by kernel_rfl) rfl (bf q19 (by kernel_rfl)) rfl (by kernel_rfl) (e_lss (k := .i64) (a := (x8.length : Int)) (b := 1) (by kernel_rfl) rfl) ?_
  refine lv (d := 22) rfl rfl (by kernel_rfl) (e_pick_f (v := .bool (decide ((x8.length : Int) < 1))) (bf q19 (by kernel_rfl)) (by kernel_rfl)) ?_
  refine lv (d := 23) rfl rfl (by kernel_rfl) (e_move (v := .bool (decide ((x8.length : Int) < 1))) (by kernel_rfl)) ?_
  by_cases q21 : (x8.length : Int) < 1
  · replace M := ifp q21 M
    refine lskip (t := 23) (c := true) rfl (by kernel_rfl) rfl (bt q21 (by kernel_rfl)) rfl rfl ?_
    refine lskip (t := 23) (c := true) rfl (by kernel_rfl) rfl (bt q21 (by kernel_rfl)) rfl rfl ?_
    refine lskip (t := 23) (c := true) rfl (by kernel_rfl) rfl (bt q21 (by kernel_rfl)) rfl rfl ?_
    refine lv (d := 27) rfl rfl (by kernel_rfl) (e_pick_t (v := .bool true) (bt q21 (by kernel_rfl)) rfl) ?_
    refine lv (d := 28) rfl rfl (by kernel_rfl) (e_move (v := .bool true) (by kernel_rfl)) ?_
    refine lskip (t := 28) (c := true) rfl (by kernel_rfl) rfl (by kernel_rfl) rfl rfl ?_
    refine lskip (t := 28) (c := true) rfl (by kernel_rfl) rfl (by kernel_rfl) rfl rfl ?_
    refine lv (d := 31) rfl rfl (by kernel_rfl) (e_pick_t (v := .bool true) (by kernel_rfl) rfl) ?_
    refine lv (d := 32) rfl rfl (by kernel_rfl) (e_move (v := .bool true) (by kernel_rfl)) ?_
    refine lskip (t := 32) (c := true) rfl (by kernel_rfl) rfl (by kernel_rfl) rfl rfl ?_
    refine lskip (t := 32) (c := true) rfl (by kernel_rfl) rfl (by kernel_rfl) rfl rfl ?_
    refine lv (d := 35) rfl rfl (by kernel_rfl) (e_pick_t (v := .bool true) (by kernel_rfl) rfl) ?_
    refine lv (d := 36) rfl rfl (by kernel_rfl) (e_move (v := .bool true) (by kernel_rfl)) ?_
    refine lskip (t := 36) (c := true) rfl (by kernel_rfl) rfl (by kernel_rfl) rfl rfl ?_
    refine lskip (t := 36) (c := true) rfl (by kernel_rfl) rfl (by kernel_rfl) rfl rfl ?_
    refine lv (d := 39) rfl rfl (by kernel_rfl) (e_pick_t (v := .bool true) (by kernel_rfl) rfl) ?_
    refine lv (d := 40) rfl rfl (by kernel_rfl) (e_move (v := .bool true) (by kernel_rfl)) ?_
    refine lskip (t := 40) (c := true) rfl (by kernel_rfl) rfl (by kernel_rfl) rfl rfl ?_
    refine lskip (t := 40) (c := true) rfl (by kernel_rfl) rfl (by kernel_rfl) rfl rfl ?_
    refine lv (d := 43) rfl rfl (by kernel_rfl) (e_pick_t (v := .bool true) (by kernel_rfl) rfl) ?_
    refine wpList_nil ?_
    refine then_n ?_
    refine cond_t rfl (by kernel_rfl) ?_
    refine wp_seq ?_
    refine wp_region_lit ?_
    refine lv (d := 8) rfl rfl (by kernel_rfl) (e_assign (v := .slice none 0 0) rfl) ?_
    refine lv (d := 9) rfl rfl (by kernel_rfl) (e_assign (v := .int .i64 1) rfl) ?_
    refine wpList_nil ?_
    refine then_n ?_
    refine wp_ret ?_
    refine then_r ?_
    obtain rfl := Option.some.inj M
    have S22 := S17.unit
    exact ret2 rfl rfl rfl (show _ = .slice none 0 0 from (by kernel_rfl)) (show _ = .int .i64 1 from (by kernel_rfl)) ⟨none, 0, no, H, rfl, (Row.nil _ _ _ _ no), S22⟩
  replace M := ifn q21 M
  refine lvg (d := 24) (t := 23) rfl (by kernel_rfl) rfl (bf q21 (by kernel_rfl)) rfl (by kernel_rfl) (e_move (v := .slice A9 x8.length c10) (by kernel_rfl)) ?_
  refine lvg (d := 25) (t := 23) rfl (by kernel_rfl) rfl (bf q21 (by kernel_rfl)) rfl (by kernel_rfl) (e_len (A := A9) (n := x8.length) (c := c10) Try.underlying32 (by kernel_rfl)) ?_
  refine lvg (d := 26) (t := 23) rfl (by kernel_rfl) rfl (bf q21 (by kernel_rfl)) rfl (by kernel_rfl) (e_gtr (k := .i64) (a := (x8.length : Int)) (b := 100) (by kernel_rfl) rfl) ?_
  refine lv (d := 27) rfl rfl (by kernel_rfl) (e_pick_f (v := .bool (decide ((x8.length : Int) > 100))) (bf q21 (by kernel_rfl)) (by kernel_rfl)) ?_
  refine lv (d := 28) rfl rfl (by kernel_rfl) (e_move (v := .bool (decide ((x8.length : Int) > 100))) (by kernel_rfl)) ?_
  by_cases q23 : (x8.length : Int) > 100
  · replace M := ifp q23 M
    refine lskip (t := 28) (c := true) rfl (by kernel_rfl) rfl (bt q23 (by kernel_rfl)) rfl rfl ?_
    refine lskip (t := 28) (c := true) rfl (by kernel_rfl) rfl (bt q23 (by kernel_rfl)) rfl rfl ?_
    refine lv (d := 31) rfl rfl (by kernel_rfl) (e_pick_t (v := .bool true) (bt q23 (by kernel_rfl)) rfl) ?_
    refine lv (d := 32) rfl rfl (by kernel_rfl) (e_move (v := .bool true) (by kernel_rfl)) ?_
    refine lskip (t := 32) (c := true) rfl (by kernel_rfl) rfl (by kernel_rfl) rfl rfl ?_
    refine lskip (t := 32) (c := true) rfl (by kernel_rfl) rfl (by kernel_rfl) rfl rfl ?_
    refine lv (d := 35) rfl rfl (by kernel_rfl) (e_pick_t (v := .bool true) (by kernel_rfl) rfl) ?_
    refine lv (d := 36) rfl rfl (by kernel_rfl) (e_move (v := .bool true) (by kernel_rfl)) ?_
    refine lskip (t := 36) (c := true) rfl (by kernel_rfl) rfl (by kernel_rfl) rfl rfl ?_
    refine lskip (t := 36) (c := true) rfl (by kernel_rfl) rfl (by kernel_rfl) rfl rfl ?_
    refine lv (d := 39) rfl rfl (by kernel_rfl) (e_pick_t (v := .bool true) (by kernel_rfl) rfl) ?_
    refine lv (d := 40) rfl rfl (by kernel_rfl) (e_move (v := .bool true) (by kernel_rfl)) ?_
    refine lskip (t := 40) (c := true) rfl (by kernel_rfl) rfl (by kernel_rfl) rfl rfl ?_
    refine lskip (t := 40) (c := true) rfl (by kernel_rfl) rfl (by kernel_rfl) rfl rfl ?_
    refine lv (d := 43) rfl rfl (by kernel_rfl) (e_pick_t (v := .bool true) (by kernel_rfl) rfl) ?_
    refine wpList_nil ?_
    refine then_n ?_
    refine cond_t rfl (by kernel_rfl) ?_
    refine wp_seq ?_
    refine wp_region_lit ?_
    refine lv (d := 8) rfl rfl (by kernel_rfl) (e_assign (v := .slice none 0 0) rfl) ?_
    refine lv (d := 9) rfl rfl (by kernel_rfl) (e_assign (v := .int .i64 1) rfl) ?_
    refine wpList_nil ?_
    refine then_n ?_
    refine wp_ret ?_
    refine then_r ?_
    obtain rfl := Option.some.inj M
    have S24 := S17.unit
    exact ret2 rfl rfl rfl (show _ = .slice none 0 0 from (by kernel_rfl)) (show _ = .int .i64 1 from (by kernel_rfl)) ⟨none, 0, no, H, rfl, (Row.nil _ _ _ _ no), S24⟩
  replace M := ifn q23 M
  refine lvg (d := 29) (t := 28) rfl (by kernel_rfl) rfl (bf q23 (by kernel_rfl)) rfl (by kernel_rfl) (e_move (v := .int .i64 x6) (by kernel_rfl)) ?_
  refine lvg (d := 30) (t := 28) rfl (by kernel_rfl) rfl (bf q23 (by kernel_rfl)) rfl (by kernel_rfl) (e_lss (k := .i64) (a := x6) (b := 0) (by kernel_rfl) rfl) ?_
  refine lv (d := 31) rfl rfl (by kernel_rfl) (e_pick_f (v := .bool (decide (x6 < 0))) (bf q23 (by kernel_rfl)) (by kernel_rfl)) ?_
  refine lv (d := 32) rfl rfl (by kernel_rfl) (e_move (v := .bool (decide (x6 < 0))) (by kernel_rfl)) ?_
  by_cases q25 : x6 < 0
  · replace M := ifp q25 M
    refine lskip (t := 32) (c := true) rfl (by kernel_rfl) rfl (bt q25 (by kernel_rfl)) rfl rfl ?_
    refine lskip (t := 32) (c := true) rfl (by kernel_rfl) rfl (bt q25 (by kernel_rfl)) rfl rfl ?_
    refine lv (d := 35) rfl rfl (by kernel_rfl) (e_pick_t (v := .bool true) (bt q25 (by kernel_rfl)) rfl) ?_
    refine lv (d := 36) rfl rfl (by kernel_rfl) (e_move (v := .bool true) (by kernel_rfl)) ?_
    refine lskip (t := 36) (c := true) rfl (by kernel_rfl) rfl (by kernel_rfl) rfl rfl ?_
    refine lskip (t := 36) (c := true) rfl (by kernel_rfl) rfl (by kernel_rfl) rfl rfl ?_
    refine lv (d := 39) rfl rfl (by kernel_rfl) (e_pick_t (v := .bool true) (by kernel_rfl) rfl) ?_
    refine lv (d := 40) rfl rfl (by kernel_rfl) (e_move (v := .bool true) (by kernel_rfl)) ?_
    refine lskip (t := 40) (c := true) rfl (by kernel_rfl) rfl (by kernel_rfl) rfl rfl ?_
    refine lskip (t := 40) (c := true) rfl (by kernel_rfl) rfl (by kernel_rfl) rfl rfl ?_
    refine lv (d := 43) rfl rfl (by kernel_rfl) (e_pick_t (v := .bool true) (by kernel_rfl) rfl) ?_
    refine wpList_nil ?_
    refine then_n ?_
    refine cond_t rfl (by kernel_rfl) ?_
    refine wp_seq ?_
    refine wp_region_lit ?_
    refine lv (d := 8) rfl rfl (by kernel_rfl) (e_assign (v := .slice none 0 0) rfl) ?_
    refine lv (d := 9) rfl rfl (by kernel_rfl) (e_assign (v := .int .i64 1) rfl) ?_
    refine wpList_nil ?_
    refine then_n ?_
    refine wp_ret ?_
    refine then_r ?_
    obtain rfl := Option.some.inj M
    have S26 := S17.unit
    exact ret2 rfl rfl rfl (show _ = .slice none 0 0 from (by kernel_rfl)) (show _ = .int .i64 1 from (by kernel_rfl)) ⟨none, 0, no, H, rfl, (Row.nil _ _ _ _ no), S26⟩
  replace M := ifn q25 M
  refine lvg (d := 33) (t := 32) rfl (by kernel_rfl) rfl (bf q25 (by kernel_rfl)) rfl (by kernel_rfl) (e_move (v := .int .i64 x6) (by kernel_rfl)) ?_
  refine lvg (d := 34) (t := 32) rfl (by kernel_rfl) rfl (bf q25 (by kernel_rfl)) rfl (by kernel_rfl) (e_gtr (k := .i64) (a := x6) (b := 1200) (by kernel_rfl) rfl) ?_
  refine lv (d := 35) rfl rfl (by kernel_rfl) (e_pick_f (v := .bool (decide (x6 > 1200))) (bf q25 (by kernel_rfl)) (by kernel_rfl)) ?_
  refine lv (d := 36) rfl rfl (by kernel_rfl) (e_move (v := .bool (decide (x6 > 1200))) (by kernel_rfl)) ?_
  by_cases q27 : x6 > 1200
  · replace M := ifp q27 M
    refine lskip (t := 36) (c := true) rfl (by kernel_rfl) rfl (bt q27 (by kernel_rfl)) rfl rfl ?_
    refine lskip (t := 36) (c := true) rfl (by kernel_rfl) rfl (bt q27 (by kernel_rfl)) rfl rfl ?_
    refine lv (d := 39) rfl rfl (by kernel_rfl) (e_pick_t (v := .bool true) (bt q27 (by kernel_rfl)) rfl) ?_
    refine lv (d := 40) rfl rfl (by kernel_rfl) (e_move (v := .bool true) (by kernel_rfl)) ?_
    refine lskip (t := 40) (c := true) rfl (by kernel_rfl) rfl (by kernel_rfl) rfl rfl ?_
    refine lskip (t := 40) (c := true) rfl (by kernel_rfl) rfl (by kernel_rfl) rfl rfl ?_
    refine lv (d := 43) rfl rfl (by kernel_rfl) (e_pick_t (v := .bool true) (by kernel_rfl) rfl) ?_
    refine wpList_nil ?_
    refine then_n ?_
    refine cond_t rfl (by kernel_rfl) ?_
    refine wp_seq ?_
    refine wp_region_lit ?_
    refine lv (d := 8) rfl rfl (by kernel_rfl) (e_assign (v := .slice none 0 0) rfl) ?_
    refine lv (d := 9) rfl rfl (by kernel_rfl) (e_assign (v := .int .i64 1) rfl) ?_
    refine wpList_nil ?_
    refine then_n ?_
    refine wp_ret ?_
    refine then_r ?_
    obtain rfl := Option.some.inj M
    have S28 := S17.unit
    exact ret2 rfl rfl rfl (show _ = .slice none 0 0 from (by kernel_rfl)) (show _ = .int .i64 1 from (by kernel_rfl)) ⟨none, 0, no, H, rfl, (Row.nil _ _ _ _ no), S28⟩
  replace M := ifn q27 M
  refine lvg (d := 37) (t := 36) rfl (by kernel_rfl) rfl (bf q27 (by kernel_rfl)) rfl (by kernel_rfl) (e_move (v := .int .i64 x7) (by kernel_rfl)) ?_
  refine lvg (d := 38) (t := 36) rfl (by kernel_rfl) rfl (bf q27 (by kernel_rfl)) rfl (by kernel_rfl) (e_lss (k := .i64) (a := x7) (b := 0) (by kernel_rfl) rfl) ?_
  refine lv (d := 39) rfl rfl (by kernel_rfl) (e_pick_f (v := .bool (decide (x7 < 0))) (bf q27 (by kernel_rfl)) (by kernel_rfl)) ?_
  refine lv (d := 40) rfl rfl (by kernel_rfl) (e_move (v := .bool (decide (x7 < 0))) (by kernel_rfl)) ?_
  by_cases q29 : x7 < 0
  · replace M := ifp q29 M
    refine lskip (t := 40) (c := true) rfl (by kernel_rfl) rfl (bt q29 (by kernel_rfl)) rfl rfl ?_
    refine lskip (t := 40) (c := true) rfl (by kernel_rfl) rfl (bt q29 (by kernel_rfl)) rfl rfl ?_
    refine lv (d := 43) rfl rfl (by kernel_rfl) (e_pick_t (v := .bool true) (bt q29 (by kernel_rfl)) rfl) ?_
    refine wpList_nil ?_
    refine then_n ?_
    refine cond_t rfl (by kernel_rfl) ?_
    refine wp_seq ?_
    refine wp_region_lit ?_
    refine lv (d := 8) rfl rfl (by kernel_rfl) (e_assign (v := .slice none 0 0) rfl) ?_
    refine lv (d := 9) rfl rfl (by kernel_rfl) (e_assign (v := .int .i64 1) rfl) ?_
    refine wpList_nil ?_
    refine then_n ?_
    refine wp_ret ?_
    refine then_r ?_
    obtain rfl := Option.some.inj M
    have S30 := S17.unit
    exact ret2 rfl rfl rfl (show _ = .slice none 0 0 from (by kernel_rfl)) (show _ = .int .i64 1 from (by kernel_rfl)) ⟨none, 0, no, H, rfl, (Row.nil _ _ _ _ no), S30⟩
  replace M := ifn q29 M
  refine lvg (d := 41) (t := 40) rfl (by kernel_rfl) rfl (bf q29 (by kernel_rfl)) rfl (by kernel_rfl) (e_move (v := .int .i64 x7) (by kernel_rfl)) ?_
  refine lvg (d := 42) (t := 40) rfl (by kernel_rfl) rfl (bf q29 (by kernel_rfl)) rfl (by kernel_rfl) (e_gtr (k := .i64) (a := x7) (b := 6) (by kernel_rfl) rfl) ?_
  refine lv (d := 43) rfl rfl (by kernel_rfl) (e_pick_f (v := .bool (decide (x7 > 6))) (bf q29 (by kernel_rfl)) (by kernel_rfl)) ?_
  refine wpList_nil ?_
  refine then_n ?_
  by_cases q31 : x7 > 6
  · replace M := ifp q31 M
    refine cond_t rfl (bt q31 (by kernel_rfl)) ?_
    refine wp_seq ?_
    refine wp_region_lit ?_
    refine lv (d := 8) rfl rfl (by kernel_rfl) (e_assign (v := .slice none 0 0) rfl) ?_
    refine lv (d := 9) rfl rfl (by kernel_rfl) (e_assign (v := .int .i64 1) rfl) ?_
    refine wpList_nil ?_
    refine then_n ?_
    refine wp_ret ?_
    refine then_r ?_
    obtain rfl := Option.some.inj M
    have S32 := S17.unit
    exact ret2 rfl rfl rfl (show _ = .slice none 0 0 from (by kernel_rfl)) (show _ = .int .i64 1 from (by kernel_rfl)) ⟨none, 0, no, H, rfl, (Row.nil _ _ _ _ no), S32⟩
  replace M := ifn q31 M
  refine cond_f rfl (bf q31 (by kernel_rfl)) ?_
  refine wp_skip ?_
  refine then_n ?_
  refine wp_seq ?_
  refine wp_region_lit ?_
  refine lv (d := 44) rfl rfl (by kernel_rfl) (e_move (v := .slice A9 x8.length c10) (by kernel_rfl)) ?_
  refine lv (d := 45) rfl rfl (by kernel_rfl) (e_conv_bs (A := A9) (n := x8.length) (c := c10) (xs := x8) Try.underlying32 Try.underlying5 Try.underlying9 (by kernel_rfl) rfl (Rd.bytesE S17.inv h11)) ?_
  refine lv (d := 10) rfl rfl (by kernel_rfl) (e_assign (v := str x8) (by kernel_rfl)) ?_
  refine wpList_nil ?_
  refine then_n ?_
  refine wp_seq ?_
  refine wp_seq ?_
  refine wp_region_lit ?_
  refine lv (d := 46) rfl rfl (by kernel_rfl) (e_move (v := str x8) (by kernel_rfl)) ?_
  refine lv (d := 47) rfl rfl (by kernel_rfl) (e_seql (p := x8) (q := ([44] : List UInt8)) (by kernel_rfl) rfl) ?_
  refine lv (d := 48) rfl rfl (by kernel_rfl) (e_move (v := .bool (decide (x8 = ([44] : List UInt8)))) (by kernel_rfl)) ?_
  by_cases q33 : x8 = ([44] : List UInt8)
  · replace M := ifp q33 M
    refine lskip (t := 48) (c := true) rfl (by kernel_rfl) rfl (bt q33 (by kernel_rfl)) rfl rfl ?_
    refine lskip (t := 48) (c := true) rfl (by kernel_rfl) rfl (bt q33 (by kernel_rfl)) rfl rfl ?_
    refine lv (d := 51) rfl rfl (by kernel_rfl) (e_pick_t (v := .bool true) (bt q33 (by kernel_rfl)) rfl) ?_
    refine lv (d := 52) rfl rfl (by kernel_rfl) (e_move (v := .bool true) (by kernel_rfl)) ?_
    refine lskip (t := 52) (c := true) rfl (by kernel_rfl) rfl (by kernel_rfl) rfl rfl ?_
    refine lskip (t := 52) (c := true) rfl (by kernel_rfl) rfl (by kernel_rfl) rfl rfl ?_
    refine lv (d := 55) rfl rfl (by kernel_rfl) (e_pick_t (v := .bool true) (by kernel_rfl) rfl) ?_
    refine lv (d := 56) rfl rfl (by kernel_rfl) (e_move (v := .bool true) (by kernel_rfl)) ?_
    refine lskip (t := 56) (c := true) rfl (by kernel_rfl) rfl (by kernel_rfl) rfl rfl ?_
    refine lskip (t := 56) (c := true) rfl (by kernel_rfl) rfl (by kernel_rfl) rfl rfl ?_
    refine lv (d := 59) rfl rfl (by kernel_rfl) (e_pick_t (v := .bool true) (by kernel_rfl) rfl) ?_
    refine wpList_nil ?_
    refine then_n ?_
    refine cond_t rfl (by kernel_rfl) ?_
    refine wp_seq ?_
    refine wp_region_lit ?_
    refine lv (d := 8) rfl rfl (by kernel_rfl) (e_assign (v := .slice none 0 0) rfl) ?_
    refine lv (d := 9) rfl rfl (by kernel_rfl) (e_assign (v := .int .i64 4) rfl) ?_
    refine wpList_nil ?_
    refine then_n ?_
    refine wp_ret ?_
    refine then_r ?_
    obtain rfl := Option.some.inj M
    have S34 := S17.unit
    exact ret2 rfl rfl rfl (show _ = .slice none 0 0 from (by kernel_rfl)) (show _ = .int .i64 4 from (by kernel_rfl)) ⟨none, 0, no, H, rfl, (Row.nil _ _ _ _ no), S34⟩
  replace M := ifn q33 M
  refine lvg (d := 49) (t := 48) rfl (by kernel_rfl) rfl (bf q33 (by kernel_rfl)) rfl (by kernel_rfl) (e_move (v := str x8) (by kernel_rfl)) ?_
  refine lvg (d := 50) (t := 48) rfl (by kernel_rfl) rfl (bf q33 (by kernel_rfl)) rfl (by kernel_rfl) (e_seql (p := x8) (q := ([91, 93] : List UInt8)) (by kernel_rfl) rfl) ?_
  refine lv (d := 51) rfl rfl (by kernel_rfl) (e_pick_f (v := .bool (decide (x8 = ([91, 93] : List UInt8)))) (bf q33 (by kernel_rfl)) (by kernel_rfl)) ?_
  refine lv (d := 52) rfl rfl (by kernel_rfl) (e_move (v := .bool (decide (x8 = ([91, 93] : List UInt8)))) (by kernel_rfl)) ?_
  by_cases q35 : x8 = ([91, 93] : List UInt8)
  · replace M := ifp q35 M
    refine lskip (t := 52) (c := true) rfl (by kernel_rfl) rfl (bt q35 (by kernel_rfl)) rfl rfl ?_
    refine lskip (t := 52) (c := true) rfl (by kernel_rfl) rfl (bt q35 (by kernel_rfl)) rfl rfl ?_
    refine lv (d := 55) rfl rfl (by kernel_rfl) (e_pick_t (v := .bool true) (bt q35 (by kernel_rfl)) rfl) ?_
    refine lv (d := 56) rfl rfl (by kernel_rfl) (e_move (v := .bool true) (by kernel_rfl)) ?_
    refine lskip (t := 56) (c := true) rfl (by kernel_rfl) rfl (by kernel_rfl) rfl rfl ?_
    refine lskip (t := 56) (c := true) rfl (by kernel_rfl) rfl (by kernel_rfl) rfl rfl ?_
    refine lv (d := 59) rfl rfl (by kernel_rfl) (e_pick_t (v := .bool true) (by kernel_rfl) rfl) ?_
    refine wpList_nil ?_
    refine then_n ?_
    refine cond_t rfl (by kernel_rfl) ?_
    refine wp_seq ?_
    refine wp_region_lit ?_
    refine lv (d := 8) rfl rfl (by kernel_rfl) (e_assign (v := .slice none 0 0) rfl) ?_
    refine lv (d := 9) rfl rfl (by kernel_rfl) (e_assign (v := .int .i64 4) rfl) ?_
    refine wpList_nil ?_
    refine then_n ?_
    refine wp_ret ?_
    refine then_r ?_
    obtain rfl := Option.some.inj M
    have S36 := S17.unit
    exact ret2 rfl rfl rfl (show _ = .slice none 0 0 from (by kernel_rfl)) (show _ = .int .i64 4 from (by kernel_rfl)) ⟨none, 0, no, H, rfl, (Row.nil _ _ _ _ no), S36⟩
  replace M := ifn q35 M
  refine lvg (d := 53) (t := 52) rfl (by kernel_rfl) rfl (bf q35 (by kernel_rfl)) rfl (by kernel_rfl) (e_move (v := str x8) (by kernel_rfl)) ?_
  refine lvg (d := 54) (t := 52) rfl (by kernel_rfl) rfl (bf q35 (by kernel_rfl)) rfl (by kernel_rfl) (e_seql (p := x8) (q := ([123, 125] : List UInt8)) (by kernel_rfl) rfl) ?_
  refine lv (d := 55) rfl rfl (by kernel_rfl) (e_pick_f (v := .bool (decide (x8 = ([123, 125] : List UInt8)))) (bf q35 (by kernel_rfl)) (by kernel_rfl)) ?_
  refine lv (d := 56) rfl rfl (by kernel_rfl) (e_move (v := .bool (decide (x8 = ([123, 125] : List UInt8)))) (by kernel_rfl)) ?_
  by_cases q37 : x8 = ([123, 125] : List UInt8)
  · replace M := ifp q37 M
    refine lskip (t := 56) (c := true) rfl (by kernel_rfl) rfl (bt q37 (by kernel_rfl)) rfl rfl ?_
    refine lskip (t := 56) (c := true) rfl (by kernel_rfl) rfl (bt q37 (by kernel_rfl)) rfl rfl ?_
    refine lv (d := 59) rfl rfl (by kernel_rfl) (e_pick_t (v := .bool true) (bt q37 (by kernel_rfl)) rfl) ?_
    refine wpList_nil ?_
    refine then_n ?_
    refine cond_t rfl (by kernel_rfl) ?_
    refine wp_seq ?_
    refine wp_region_lit ?_
    refine lv (d := 8) rfl rfl (by kernel_rfl) (e_assign (v := .slice none 0 0) rfl) ?_
    refine lv (d := 9) rfl rfl (by kernel_rfl) (e_assign (v := .int .i64 4) rfl) ?_
    refine wpList_nil ?_
    refine then_n ?_
    refine wp_ret ?_
    refine then_r ?_
    obtain rfl := Option.some.inj M
    have S38 := S17.unit
    exact ret2 rfl rfl rfl (show _ = .slice none 0 0 from (by kernel_rfl)) (show _ = .int .i64 4 from (by kernel_rfl)) ⟨none, 0, no, H, rfl, (Row.nil _ _ _ _ no), S38⟩
  replace M := ifn q37 M
  refine lvg (d := 57) (t := 56) rfl (by kernel_rfl) rfl (bf q37 (by kernel_rfl)) rfl (by kernel_rfl) (e_move (v := str x8) (by kernel_rfl)) ?_
  refine lvg (d := 58) (t := 56) rfl (by kernel_rfl) rfl (bf q37 (by kernel_rfl)) rfl (by kernel_rfl) (e_seql (p := x8) (q := ([124] : List UInt8)) (by kernel_rfl) rfl) ?_
  refine lv (d := 59) rfl rfl (by kernel_rfl) (e_pick_f (v := .bool (decide (x8 = ([124] : List UInt8)))) (bf q37 (by kernel_rfl)) (by kernel_rfl)) ?_
  refine wpList_nil ?_
  refine then_n ?_
  by_cases q39 : x8 = ([124] : List UInt8)
  · replace M := ifp q39 M
    refine cond_t rfl (bt q39 (by kernel_rfl)) ?_
    refine wp_seq ?_
    refine wp_region_lit ?_
    refine lv (d := 8) rfl rfl (by kernel_rfl) (e_assign (v := .slice none 0 0) rfl) ?_
    refine lv (d := 9) rfl rfl (by kernel_rfl) (e_assign (v := .int .i64 4) rfl) ?_
    refine wpList_nil ?_
    refine then_n ?_
    refine wp_ret ?_
    refine then_r ?_
    obtain rfl := Option.some.inj M
    have S40 := S17.unit
    exact ret2 rfl rfl rfl (show _ = .slice none 0 0 from (by kernel_rfl)) (show _ = .int .i64 4 from (by kernel_rfl)) ⟨none, 0, no, H, rfl, (Row.nil _ _ _ _ no), S40⟩
  replace M := ifn q39 M
  refine cond_f rfl (bf q39 (by kernel_rfl)) ?_
  refine wp_skip ?_
  refine then_n ?_
  refine wp_seq ?_
  refine wp_region_lit ?_
  refine lv (d := 60) rfl rfl (by kernel_rfl) (e_move (v := str x8) (by kernel_rfl)) ?_
  obtain ⟨q41, M⟩ := chk M
  refine lve (d := 61) rfl rfl (by kernel_rfl) (e_conv_sb (xs := x8) S17 Try.underlying9 Try.underlying32 Try.underlying5 (by kernel_rfl) q41) ?_
  rintro _ w42 ⟨A43, c44, F45, rfl, h46, S47, K48⟩
  refine lv (d := 62) rfl rfl (by kernel_rfl) (e_move (v := .int .i64 x6) (by kernel_rfl)) ?_
  refine lv (d := 63) rfl rfl (by kernel_rfl) (e_move (v := .int .i64 x7) (by kernel_rfl)) ?_
  refine lv (d := 64) rfl rfl (by kernel_rfl) (show _ = Result.ok (Next.value (.agg #[.slice A43 x8.length c44, .int .i64 x6, .int .i64 x7])) w42 from by kernel_rfl) ?_
  refine lve (d := 11) rfl rfl (by kernel_rfl) (new_blk (v := fun g_ => .pointer (some ⟨g_, 0, none⟩)) (cs := #[.slice none 0 0, .int .i64 0, .int .i64 0]) (t := 45) S47 (by kernel_rfl)) ?_
  rintro _ w49 ⟨g50, rfl, b51, S52, K53⟩
  replace h46 := h46.move (K53.at 0 rfl)
  refine lse rfl rfl (by kernel_rfl) (e_store (g := g50) (o := 0) (v := .agg #[.slice A43 x8.length c44, .int .i64 x6, .int .i64 x7]) (cur' := #[.slice A43 x8.length c44, .int .i64 x6, .int .i64 x7]) (vs := [.slice A43 x8.length c44, .int .i64 x6, .int .i64 x7]) S52 (by kernel_rfl) (by kernel_rfl) rfl (by kernel_rfl) b51 (Nat.le_of_ble_eq_true rfl) (List.forall_mem_cons.2 ⟨rfl, (List.forall_mem_cons.2 ⟨rfl, (List.forall_mem_cons.2 ⟨rfl, (fun _ h_ => by cases h_)⟩)⟩)⟩) rfl) ?_
  rintro w54 ⟨b55, S56, K57⟩
  replace h46 := h46.move (K57.at 0 rfl)
  clear b51
  refine wpList_nil ?_
  refine then_n ?_
  refine wp_seq ?_
  refine wp_region_lit ?_
  refine lv (d := 12) rfl rfl (by kernel_rfl) (e_assign (v := .slice none 0 0) rfl) ?_
  refine wpList_nil ?_
  refine then_n ?_
  refine wp_seq ?_
  refine wp_seq ?_
  refine wp_region_lit ?_
  refine lv (d := 65) rfl rfl (by kernel_rfl) (e_move (v := .slice A2 x1.length c3) (by kernel_rfl)) ?_
  obtain ⟨t58, u59, M⟩ := bnd M
  refine lcall (d := 66) rfl rfl (by kernel_rfl) (e_call (l := [.tmp 65]) (vs := [.slice A2 x1.length c3]) Try.func38 (by kernel_rfl) rfl (by kernel_rfl) rfl) (impl_copyOps.calls k w54 H x1 A2 c3 h4 l5 (St.own' (Fa := []) (Fr := [(is g50), F45]) S56) t58 u59) ?_
  rintro _ w60 ⟨A63, c64, F66, H61, rfl, h65, T62⟩
  refine ⟨_, rfl, ?_⟩
  obtain ⟨S67, K68⟩ := St.call (Fa := []) (Fr := [(is g50), F45]) S56 T62
  replace b55 := K68.blk 0 rfl b55
  replace h46 := h46.move (K68.at 1 rfl)
  have E69 := T62.ext
  replace h46 := h46.ext E69
  refine lv (d := 67) rfl rfl (by kernel_rfl) (e_len (A := A63) (n := t58.length) (c := c64) Try.underlying25 (by kernel_rfl)) ?_
  refine lv (d := 68) rfl rfl (by kernel_rfl) (e_move (v := .int .i64 0) rfl) ?_
  refine wpList_nil ?_
  refine then_n ?_
  refine wp_block ?_
  have S92 := S67.unit
  have S93 := S92.pull (F := F45) (Fr := [no, F66, (is g50)]) 3 rfl rfl
  have S94 := S93.pull (F := (is g50)) (Fr := [F45, no, F66]) 3 rfl rfl
  have S95 := S94.pull (F := F66) (Fr := [(is g50), F45, no]) 3 rfl rfl
  refine wp_loop_g (fun k89 a90 w70 => ∃ (f71 : Nat → Value) (x72 : List Sy.Op) (A73 : Option Addr) (c74 : Nat) (F75 : Foot) (x77 : Int) (F78 : Foot), a90 = mk 106 f71 ∧ f71 1 = .int .i64 x6 ∧ f71 10 = str x8 ∧ f71 11 = .pointer (some ⟨g50, 0, none⟩) ∧ f71 12 = .slice A73 x72.length c74 ∧ f71 66 = .slice A63 t58.length c64 ∧ f71 67 = .int .i64 (t58.length : Int) ∧ f71 68 = .int .i64 x77 ∧ RowS st45 45 H61 (hp w70) F78 A63 c64 t58 (x77).toNat ∧ w70.heap[g50]? = some (.cells #[.slice A43 x8.length c44, .int .i64 x6, .int .i64 x7] 45 (0, 0)) ∧ Row tByte 5 H61 (hp w70) F45 A43 c44 x8 ∧ Row st45 45 H61 (hp w70) F75 A73 c74 x72 ∧ St (anyOf []) H w [F78, (is g50), F45, F75] H61 w70 ∧ impl_AddOp.l0 k89 x6 x7 x8 t58 x72 x77 = some r) k ⟨_, [], none, 0, no, 0, F66, rfl, (by kernel_rfl), (by kernel_rfl), (by kernel_rfl), (by kernel_rfl), (by kernel_rfl), (by kernel_rfl), (by kernel_rfl), (RowS.of h65), b55, h46, (Row.nil _ _ _ _ _), S95, M⟩ ?_
  clear M
  rintro k89 a90 w70 ⟨f71, x72, A73, c74, F75, x77, F78, rfl, e79, e80, e81, e82, e83, e84, e85, h65, b55, h46, h76, S86, M⟩
  rcases k89 with _ | k91
  · rw [impl_AddOp.l0] at M
    cases M
  rw [impl_AddOp.l0] at M
  refine wp_seq ?_
  refine wp_region_lit ?_
  refine lv (d := 69) rfl rfl (by kernel_rfl) (e_lss (k := .i64) (a := x77) (b := (t58.length : Int)) (by exact e85) (by exact e84)) ?_
  refine wpList_nil ?_
  refine then_n ?_
  refine wp_seq ?_
  by_cases q96 : x77 < (t58.length : Int)
  · replace M := ifp q96 M
    refine cond_t rfl (bt q96 (by kernel_rfl)) ?_
    refine wp_skip ?_
    refine then_n ?_
    refine wp_seq ?_
    refine wp_block ?_
    refine wp_seq ?_
    refine wp_region_lit ?_
    obtain ⟨q97, M⟩ := chk M
    obtain ⟨b98, e100⟩ := RowS.addr h65 (show (x77).toNat < t58.length by omega)
    refine lv (d := 70) rfl rfl (by kernel_rfl) (e_indexAddr (b := b98) (off := 0) (n := t58.length) (c := c64) (sz := 3) (i := x77) (k := .i64) Try.underlying25 e100 (by kernel_rfl) (by exact e83) (by exact e85) q97 q96) ?_
    obtain ⟨y106, F107, F108, r109, h110, d111, s112, k113⟩ := RowS.take h65 e100 (Nat.le_refl _) (getD_some z45 (show (x77).toNat < t58.length by omega))
    have S119 := S86.part d111 s112
    obtain ⟨A114, c115, F116, rfl, h117, s118⟩ := st45_openO r109
    have S120 := S119.sub s118
    refine lv (d := 71) rfl rfl (by kernel_rfl) (e_loadS (b := b98) (off := 0 + (x77 : Int).toNat * 3) (cs := [.slice A114 (((t58.getD ((x77).toNat) z45).name).length) c115, .int .i64 ((t58.getD ((x77).toNat) z45).pri), .int .i64 ((t58.getD ((x77).toNat) z45).typ)]) Try.underlying45 rfl (by kernel_rfl) (by kernel_rfl) (fun j_ u_ e_ => (hpx (k113 j_ u_ e_)))) ?_
    refine lve (d := 14) rfl rfl (by kernel_rfl) (new_blk (v := fun g_ => .pointer (some ⟨g_, 0, none⟩)) (cs := #[.slice none 0 0, .int .i64 0, .int .i64 0]) (t := 45) S120 (by kernel_rfl)) ?_
    rintro _ w121 ⟨g122, rfl, b123, S124, K125⟩
    replace h117 := h117.move (K125.at 0 rfl)
    replace h110 := h110.move (K125.at 1 rfl)
    replace b55 := K125.blk 2 rfl b55
    replace h46 := h46.move (K125.at 3 rfl)
    replace h76 := h76.move (K125.at 4 rfl)
    refine lse rfl rfl (by kernel_rfl) (e_store (g := g122) (o := 0) (v := .agg #[.slice A114 (((t58.getD ((x77).toNat) z45).name).length) c115, .int .i64 ((t58.getD ((x77).toNat) z45).pri), .int .i64 ((t58.getD ((x77).toNat) z45).typ)]) (cur' := #[.slice A114 (((t58.getD ((x77).toNat) z45).name).length) c115, .int .i64 ((t58.getD ((x77).toNat) z45).pri), .int .i64 ((t58.getD ((x77).toNat) z45).typ)]) (vs := [.slice A114 (((t58.getD ((x77).toNat) z45).name).length) c115, .int .i64 ((t58.getD ((x77).toNat) z45).pri), .int .i64 ((t58.getD ((x77).toNat) z45).typ)]) S124 (by kernel_rfl) (by kernel_rfl) rfl (by kernel_rfl) b123 (Nat.le_of_ble_eq_true rfl) (List.forall_mem_cons.2 ⟨rfl, (List.forall_mem_cons.2 ⟨rfl, (List.forall_mem_cons.2 ⟨rfl, (fun _ h_ => by cases h_)⟩)⟩)⟩) rfl) ?_
    rintro w126 ⟨b127, S128, K129⟩
    replace h117 := h117.move (K129.at 0 rfl)
    replace h110 := h110.move (K129.at 1 rfl)
    replace b55 := K129.blk 2 rfl b55
    replace h46 := h46.move (K129.at 3 rfl)
    replace h76 := h76.move (K129.at 4 rfl)
    clear b123
    refine wpList_nil ?_
    refine then_n ?_
    refine wp_seq ?_
    refine wp_seq ?_
    refine region_quiet (by kernel_rfl) (by kernel_rfl) ?_
    refine qv (d := 72) rfl rfl (by kernel_rfl) (fun wq_ hq_ => e_fieldAddr (b := g122) (off := 0) (o := 0) Try.underlying45 rfl rfl (sz := 1) (by kernel_rfl) (by decide) (by kernel_rfl)) ?_
    refine qv (d := 73) rfl rfl (by kernel_rfl) (fun wq_ hq_ => e_load1 (ad := ⟨g122, 0 + 0, none⟩) (v := .slice A114 (((t58.getD ((x77).toNat) z45).name).length) c115) Try.underlying32 rfl (by kernel_rfl) (blk_cell ((S128.still hq_).2.blk 0 rfl b127) rfl)) ?_
    refine qv (d := 74) rfl rfl (by kernel_rfl) (fun wq_ hq_ => e_conv_bs (A := A114) (n := ((t58.getD ((x77).toNat) z45).name).length) (c := c115) (xs := (t58.getD ((x77).toNat) z45).name) Try.underlying32 Try.underlying5 Try.underlying9 (by kernel_rfl) rfl (Row.bytes (h117.move ((S128.still hq_).2.at 1 rfl)))) ?_
    refine qv (d := 75) rfl rfl (by kernel_rfl) (fun wq_ hq_ => e_move (v := str x8) (by exact e80)) ?_
    refine qv (d := 76) rfl rfl (by kernel_rfl) (fun wq_ hq_ => e_seql (p := (t58.getD ((x77).toNat) z45).name) (q := x8) (by kernel_rfl) (by kernel_rfl)) ?_
    refine qv (d := 77) rfl rfl (by kernel_rfl) (fun wq_ hq_ => e_move (v := .bool (decide ((t58.getD ((x77).toNat) z45).name = x8))) (by kernel_rfl)) ?_
    by_cases q130 : (t58.getD ((x77).toNat) z45).name = x8
    · replace M := ifp q130 M
      refine qvg (d := 78) (t := 77) rfl (by kernel_rfl) rfl (bt q130 (by kernel_rfl)) rfl (by kernel_rfl) (fun wq_ hq_ => e_loadS (b := g122) (off := 0) (cs := [.slice A114 (((t58.getD ((x77).toNat) z45).name).length) c115, .int .i64 ((t58.getD ((x77).toNat) z45).pri), .int .i64 ((t58.getD ((x77).toNat) z45).typ)]) Try.underlying45 rfl (by kernel_rfl) (by kernel_rfl) (blk_cells ((S128.still hq_).2.blk 0 rfl b127) rfl)) ?_
      obtain ⟨t131, u132, M⟩ := bnd M
      refine qcallg (v := .bool t131) (d := 79) (t := 77) rfl (by kernel_rfl) rfl (bt q130 (by kernel_rfl)) rfl (by kernel_rfl) (fun w_ => e_call (l := [.tmp 78]) (vs := [.agg #[.slice A114 (((t58.getD ((x77).toNat) z45).name).length) c115, .int .i64 ((t58.getD ((x77).toNat) z45).pri), .int .i64 ((t58.getD ((x77).toNat) z45).typ)]]) Try.func27 (by kernel_rfl) rfl (by kernel_rfl) rfl) (fun wq_ hq_ => (by obtain ⟨S_, K_⟩ := S128.still hq_; replace b127 := K_.blk 0 rfl b127; replace h117 := h117.move (K_.at 1 rfl); replace h110 := h110.move (K_.at 2 rfl); replace b55 := K_.blk 3 rfl b55; replace h46 := h46.move (K_.at 4 rfl); replace h76 := h76.move (K_.at 5 rfl); have l133 := h117.le; have S134 := S_.pull (F := F116) (Fr := [(is g122), F108, (is g50), F45, F75]) 1 rfl rfl; obtain ⟨H135, S136, E137, h138, z139⟩ := S134.frzRow h117; replace h110 := h110.ext E137; replace h46 := h46.ext E137; replace h76 := h76.ext E137; exact (impl_Op_prefix.calls wq_ H135 (t58.getD ((x77).toNat) z45) A114 c115 h138 l133 S136.own0 t131 u132))) ?_
      refine qvg (d := 80) (t := 77) rfl (by kernel_rfl) rfl (bt q130 (by kernel_rfl)) rfl (by kernel_rfl) (fun wq_ hq_ => e_loadS (b := g50) (off := 0) (cs := [.slice A43 x8.length c44, .int .i64 x6, .int .i64 x7]) Try.underlying45 rfl (by kernel_rfl) (by exact e81) (blk_cells ((S128.still hq_).2.blk 3 rfl b55) rfl)) ?_
      obtain ⟨t140, u141, M⟩ := bnd M
      refine qcallg (v := .bool t140) (d := 81) (t := 77) rfl (by kernel_rfl) rfl (bt q130 (by kernel_rfl)) rfl (by kernel_rfl) (fun w_ => e_call (l := [.tmp 80]) (vs := [.agg #[.slice A43 x8.length c44, .int .i64 x6, .int .i64 x7]]) Try.func27 (by kernel_rfl) rfl (by kernel_rfl) rfl) (fun wq_ hq_ => (by obtain ⟨S_, K_⟩ := S128.still hq_; replace b127 := K_.blk 0 rfl b127; replace h117 := h117.move (K_.at 1 rfl); replace h110 := h110.move (K_.at 2 rfl); replace b55 := K_.blk 3 rfl b55; replace h46 := h46.move (K_.at 4 rfl); replace h76 := h76.move (K_.at 5 rfl); have l142 := h46.le; have S143 := S_.pull (F := F45) (Fr := [(is g122), F116, F108, (is g50), F75]) 4 rfl rfl; obtain ⟨H144, S145, E146, h147, z148⟩ := S143.frzRow h46; replace h117 := h117.ext E146; replace h110 := h110.ext E146; replace h76 := h76.ext E146; exact (impl_Op_prefix.calls wq_ H144 (⟨x8, x6, x7⟩ : Sy.Op) A43 c44 h147 l142 S145.own0 t140 u141))) ?_
      refine qvg (d := 82) (t := 77) rfl (by kernel_rfl) rfl (bt q130 (by kernel_rfl)) rfl (by kernel_rfl) (fun wq_ hq_ => e_beql (p := t131) (q := t140) Try.underlying4 (by kernel_rfl) (by kernel_rfl)) ?_
      refine qv (d := 83) rfl rfl (by kernel_rfl) (fun wq_ hq_ => e_pick_t (v := .bool (decide (t131 = t140))) (bt q130 (by kernel_rfl)) (by kernel_rfl)) ?_
      refine wpQuiet_nil ?_
      intro w149 C152
      obtain ⟨S150, K151⟩ := S128.still C152
      replace b127 := K151.blk 0 rfl b127
      replace h117 := h117.move (K151.at 1 rfl)
      replace h110 := h110.move (K151.at 2 rfl)
      replace b55 := K151.blk 3 rfl b55
      replace h46 := h46.move (K151.at 4 rfl)
      replace h76 := h76.move (K151.at 5 rfl)
      refine then_n ?_
      by_cases q153 : t131 = t140
      · replace M := ifp q153 M
        refine cond_t rfl (bt q153 (by kernel_rfl)) ?_
        refine wp_seq ?_
        refine wp_seq ?_
        refine region_quiet (by kernel_rfl) (by kernel_rfl) ?_
        refine qv (d := 84) rfl rfl (by kernel_rfl) (fun wq_ hq_ => e_loadS (b := g122) (off := 0) (cs := [.slice A114 (((t58.getD ((x77).toNat) z45).name).length) c115, .int .i64 ((t58.getD ((x77).toNat) z45).pri), .int .i64 ((t58.getD ((x77).toNat) z45).typ)]) Try.underlying45 rfl (by kernel_rfl) (by kernel_rfl) (blk_cells ((S150.still hq_).2.blk 0 rfl b127) rfl)) ?_
        obtain ⟨t154, u155, M⟩ := bnd M
        refine qcall (v := .bool t154) (d := 85) rfl rfl (by kernel_rfl) (fun w_ => e_call (l := [.tmp 84]) (vs := [.agg #[.slice A114 (((t58.getD ((x77).toNat) z45).name).length) c115, .int .i64 ((t58.getD ((x77).toNat) z45).pri), .int .i64 ((t58.getD ((x77).toNat) z45).typ)]]) Try.func39 (by kernel_rfl) rfl (by kernel_rfl) rfl) (fun wq_ hq_ => (by obtain ⟨S_, K_⟩ := S150.still hq_; replace b127 := K_.blk 0 rfl b127; replace h117 := h117.move (K_.at 1 rfl); replace h110 := h110.move (K_.at 2 rfl); replace b55 := K_.blk 3 rfl b55; replace h46 := h46.move (K_.at 4 rfl); replace h76 := h76.move (K_.at 5 rfl); have l156 := h117.le; have S157 := S_.pull (F := F116) (Fr := [(is g122), F108, (is g50), F45, F75]) 1 rfl rfl; obtain ⟨H158, S159, E160, h161, z162⟩ := S157.frzRow h117; replace h110 := h110.ext E160; replace h46 := h46.ext E160; replace h76 := h76.ext E160; exact (impl_Op_infix.calls wq_ H158 (t58.getD ((x77).toNat) z45) A114 c115 h161 l156 S159.own0 t154 u155))) ?_
        refine qv (d := 86) rfl rfl (by kernel_rfl) (fun wq_ hq_ => e_loadS (b := g50) (off := 0) (cs := [.slice A43 x8.length c44, .int .i64 x6, .int .i64 x7]) Try.underlying45 rfl (by kernel_rfl) (by exact e81) (blk_cells ((S150.still hq_).2.blk 3 rfl b55) rfl)) ?_
        obtain ⟨t163, u164, M⟩ := bnd M
        refine qcall (v := .bool t163) (d := 87) rfl rfl (by kernel_rfl) (fun w_ => e_call (l := [.tmp 86]) (vs := [.agg #[.slice A43 x8.length c44, .int .i64 x6, .int .i64 x7]]) Try.func39 (by kernel_rfl) rfl (by kernel_rfl) rfl) (fun wq_ hq_ => (by obtain ⟨S_, K_⟩ := S150.still hq_; replace b127 := K_.blk 0 rfl b127; replace h117 := h117.move (K_.at 1 rfl); replace h110 := h110.move (K_.at 2 rfl); replace b55 := K_.blk 3 rfl b55; replace h46 := h46.move (K_.at 4 rfl); replace h76 := h76.move (K_.at 5 rfl); have l165 := h46.le; have S166 := S_.pull (F := F45) (Fr := [(is g122), F116, F108, (is g50), F75]) 4 rfl rfl; obtain ⟨H167, S168, E169, h170, z171⟩ := S166.frzRow h46; replace h117 := h117.ext E169; replace h110 := h110.ext E169; replace h76 := h76.ext E169; exact (impl_Op_infix.calls wq_ H167 (⟨x8, x6, x7⟩ : Sy.Op) A43 c44 h170 l165 S168.own0 t163 u164))) ?_
        refine qv (d := 88) rfl rfl (by kernel_rfl) (fun wq_ hq_ => e_bneq (p := t154) (q := t163) Try.underlying4 (by kernel_rfl) (by kernel_rfl)) ?_
        refine wpQuiet_nil ?_
        intro w172 C175
        obtain ⟨S173, K174⟩ := S150.still C175
        replace b127 := K174.blk 0 rfl b127
        replace h117 := h117.move (K174.at 1 rfl)
        replace h110 := h110.move (K174.at 2 rfl)
        replace b55 := K174.blk 3 rfl b55
        replace h46 := h46.move (K174.at 4 rfl)
        replace h76 := h76.move (K174.at 5 rfl)
        refine then_n ?_
        by_cases q176 : t154 ≠ t163
        · replace M := ifp q176 M
          refine cond_t rfl (bt q176 (by kernel_rfl)) ?_
          refine wp_seq ?_
          refine wp_region_lit ?_
          refine lv (d := 8) rfl rfl (by kernel_rfl) (e_assign (v := .slice none 0 0) rfl) ?_
          refine lv (d := 9) rfl rfl (by kernel_rfl) (e_assign (v := .int .i64 4) rfl) ?_
          refine wpList_nil ?_
          refine then_n ?_
          refine wp_ret ?_
          refine then_r ?_
          refine then_r ?_
          refine inb_r ?_
          refine then_r ?_
          refine then_r ?_
          refine inb_r ?_
          refine then_r ?_
          obtain rfl := Option.some.inj M
          have S177 := S173.unit
          have S178 := St.first (Fa := [no]) (Fr := [(is g122), F116, F108, (is g50), F45, F75]) S177
          exact ret2 rfl rfl rfl (show _ = .slice none 0 0 from (by kernel_rfl)) (show _ = .int .i64 4 from (by kernel_rfl)) ⟨none, 0, no, H61, rfl, (Row.nil _ _ _ _ no), S178⟩
        replace M := ifn q176 M
        refine cond_f rfl (bf q176 (by kernel_rfl)) ?_
        refine wp_skip ?_
        refine then_n ?_
        refine wp_exit ?_
        refine then_e ?_
        refine inb_hit ?_
        refine then_n ?_
        refine wp_region_lit ?_
        refine lv (d := 93) rfl rfl (by kernel_rfl) (e_add (k := .i64) (a := x77) (b := 1) (by exact e85) rfl) ?_
        refine lv (d := 68) rfl rfl (by kernel_rfl) (e_move (v := .int .i64 (IntKind.i64.wrap (x77 + 1))) (by kernel_rfl)) ?_
        refine wpList_nil ?_
        refine then_n ?_
        have S179 := S173.pull (F := F75) (Fr := [(is g122), F116, F108, (is g50), F45]) 5 rfl rfl
        have S180 := S179.pull (F := F45) (Fr := [F75, (is g122), F116, F108, (is g50)]) 5 rfl rfl
        have S181 := S180.pull (F := (is g50)) (Fr := [F45, F75, (is g122), F116, F108]) 5 rfl rfl
        have S182 := S181.pull (F := F108) (Fr := [(is g50), F45, F75, (is g122), F116]) 5 rfl rfl
        have S183 := St.first (Fa := [F108, (is g50), F45, F75]) (Fr := [(is g122), F116]) S182
        exact ⟨k91, (by omega), _, x72, A73, c74, F75, (IntKind.i64.wrap (x77 + 1)), F108, rfl, (by exact e79), (by exact e80), (by exact e81), (by exact e82), (by exact e83), (by exact e84), (by kernel_rfl), (RowS.next h110 q97 q96 rfl), b55, h46, h76, S183, M⟩
      replace M := ifn q153 M
      refine cond_f rfl (bf q153 (by kernel_rfl)) ?_
      refine wp_skip ?_
      refine then_n ?_
      refine wp_region_lit ?_
      refine lv (d := 89) rfl rfl (by kernel_rfl) (e_move (v := .slice A73 x72.length c74) (by exact e82)) ?_
      refine lv (d := 90) rfl rfl (by kernel_rfl) (e_loadS (b := g122) (off := 0) (cs := [.slice A114 (((t58.getD ((x77).toNat) z45).name).length) c115, .int .i64 ((t58.getD ((x77).toNat) z45).pri), .int .i64 ((t58.getD ((x77).toNat) z45).typ)]) Try.underlying45 rfl (by kernel_rfl) (by kernel_rfl) (blk_cells b127 rfl)) ?_
      refine lve (d := 91) rfl rfl (by kernel_rfl) (new_blk (v := fun g_ => .slice (some ⟨g_, 0, none⟩) 1 1) (cs := #[.slice A114 (((t58.getD ((x77).toNat) z45).name).length) c115, .int .i64 ((t58.getD ((x77).toNat) z45).pri), .int .i64 ((t58.getD ((x77).toNat) z45).typ)]) (t := 45) S150 (by kernel_rfl)) ?_
      rintro _ w184 ⟨g185, rfl, b186, S187, K188⟩
      replace b127 := K188.blk 0 rfl b127
      replace h117 := h117.move (K188.at 1 rfl)
      replace h110 := h110.move (K188.at 2 rfl)
      replace b55 := K188.blk 3 rfl b55
      replace h46 := h46.move (K188.at 4 rfl)
      replace h76 := h76.move (K188.at 5 rfl)
      obtain ⟨q189, M⟩ := chk M
      have S190 := S187.pull (F := F116) (Fr := [(is g185), (is g122), F108, (is g50), F45, F75]) 2 rfl rfl
      have S191 := S190.pull (F := F75) (Fr := [F116, (is g185), (is g122), F108, (is g50), F45]) 6 rfl rfl
      refine lve (d := 92) rfl rfl (by kernel_rfl) (e_append (d := st45) (n := x72.length) (xs := x72) (cap := c74) (A := A73) (ys := [(t58.getD ((x77).toNat) z45)]) (A2 := (some ⟨g185, 0, none⟩)) (c2 := 1) (z := .agg #[.slice none 0 0, .int .i64 0, .int .i64 0]) (bytes := 40) S191 Try.underlying25 (by kernel_rfl) rfl (by decide) (by kernel_rfl) rfl (by kernel_rfl) h76 (elsO_one1 (st45_mkO (x := (t58.getD ((x77).toNat) z45)) h117)) (.inr (blk_news b186 rfl)) (show (x72.length + [(t58.getD ((x77).toNat) z45)].length) * 40 ≤ _ by first | omega | (simp only [List.length_cons, List.length_nil]; omega)) (by decide)) ?_
      rintro _ w192 ⟨A193, c194, F195, rfl, h196, S197, K198⟩
      replace b186 := K198.blk 0 rfl b186
      replace b127 := K198.blk 1 rfl b127
      replace h110 := h110.move (K198.at 2 rfl)
      replace b55 := K198.blk 3 rfl b55
      replace h46 := h46.move (K198.at 4 rfl)
      refine lv (d := 12) rfl rfl (by kernel_rfl) (e_assign (v := .slice A193 ((x72 ++ [(t58.getD ((x77).toNat) z45)]).length) c194) (by kernel_rfl)) ?_
      refine wpList_nil ?_
      refine inb_n ?_
      refine then_n ?_
      refine wp_region_lit ?_
      refine lv (d := 93) rfl rfl (by kernel_rfl) (e_add (k := .i64) (a := x77) (b := 1) (by exact e85) rfl) ?_
      refine lv (d := 68) rfl rfl (by kernel_rfl) (e_move (v := .int .i64 (IntKind.i64.wrap (x77 + 1))) (by kernel_rfl)) ?_
      refine wpList_nil ?_
      refine then_n ?_
      have S199 := S197.pull (F := F45) (Fr := [F195, (is g185), (is g122), F108, (is g50)]) 5 rfl rfl
      have S200 := S199.pull (F := (is g50)) (Fr := [F45, F195, (is g185), (is g122), F108]) 5 rfl rfl
      have S201 := S200.pull (F := F108) (Fr := [(is g50), F45, F195, (is g185), (is g122)]) 5 rfl rfl
      have S202 := St.first (Fa := [F108, (is g50), F45, F195]) (Fr := [(is g185), (is g122)]) S201
      exact ⟨k91, (by omega), _, (x72 ++ [(t58.getD ((x77).toNat) z45)]), A193, c194, F195, (IntKind.i64.wrap (x77 + 1)), F108, rfl, (by exact e79), (by exact e80), (by exact e81), (by kernel_rfl), (by exact e83), (by exact e84), (by kernel_rfl), (RowS.next h110 q97 q96 rfl), b55, h46, h196, S202, M⟩
    replace M := ifn q130 M
    refine qskip (t := 77) (c := false) rfl (by kernel_rfl) rfl (bf q130 (by kernel_rfl)) rfl rfl ?_
    refine qskip (t := 77) (c := false) rfl (by kernel_rfl) rfl (bf q130 (by kernel_rfl)) rfl rfl ?_
    refine qskip (t := 77) (c := false) rfl (by kernel_rfl) rfl (bf q130 (by kernel_rfl)) rfl rfl ?_
    refine qskip (t := 77) (c := false) rfl (by kernel_rfl) rfl (bf q130 (by kernel_rfl)) rfl rfl ?_
    refine qskip (t := 77) (c := false) rfl (by kernel_rfl) rfl (bf q130 (by kernel_rfl)) rfl rfl ?_
    refine qv (d := 83) rfl rfl (by kernel_rfl) (fun wq_ hq_ => e_pick_f (v := .bool false) (bf q130 (by kernel_rfl)) rfl) ?_
    refine wpQuiet_nil ?_
    intro w203 C206
    obtain ⟨S204, K205⟩ := S128.still C206
    replace b127 := K205.blk 0 rfl b127
    replace h117 := h117.move (K205.at 1 rfl)
    replace h110 := h110.move (K205.at 2 rfl)
    replace b55 := K205.blk 3 rfl b55
    replace h46 := h46.move (K205.at 4 rfl)
    replace h76 := h76.move (K205.at 5 rfl)
    refine then_n ?_
    refine cond_f rfl (by kernel_rfl) ?_
    refine wp_skip ?_
    refine then_n ?_
    refine wp_region_lit ?_
    refine lv (d := 89) rfl rfl (by kernel_rfl) (e_move (v := .slice A73 x72.length c74) (by exact e82)) ?_
    refine lv (d := 90) rfl rfl (by kernel_rfl) (e_loadS (b := g122) (off := 0) (cs := [.slice A114 (((t58.getD ((x77).toNat) z45).name).length) c115, .int .i64 ((t58.getD ((x77).toNat) z45).pri), .int .i64 ((t58.getD ((x77).toNat) z45).typ)]) Try.underlying45 rfl (by kernel_rfl) (by kernel_rfl) (blk_cells b127 rfl)) ?_
    refine lve (d := 91) rfl rfl (by kernel_rfl) (new_blk (v := fun g_ => .slice (some ⟨g_, 0, none⟩) 1 1) (cs := #[.slice A114 (((t58.getD ((x77).toNat) z45).name).length) c115, .int .i64 ((t58.getD ((x77).toNat) z45).pri), .int .i64 ((t58.getD ((x77).toNat) z45).typ)]) (t := 45) S204 (by kernel_rfl)) ?_
    rintro _ w207 ⟨g208, rfl, b209, S210, K211⟩
    replace b127 := K211.blk 0 rfl b127
    replace h117 := h117.move (K211.at 1 rfl)
    replace h110 := h110.move (K211.at 2 rfl)
    replace b55 := K211.blk 3 rfl b55
    replace h46 := h46.move (K211.at 4 rfl)
    replace h76 := h76.move (K211.at 5 rfl)
    obtain ⟨q212, M⟩ := chk M
    have S213 := S210.pull (F := F116) (Fr := [(is g208), (is g122), F108, (is g50), F45, F75]) 2 rfl rfl
    have S214 := S213.pull (F := F75) (Fr := [F116, (is g208), (is g122), F108, (is g50), F45]) 6 rfl rfl
    refine lve (d := 92) rfl rfl (by kernel_rfl) (e_append (d := st45) (n := x72.length) (xs := x72) (cap := c74) (A := A73) (ys := [(t58.getD ((x77).toNat) z45)]) (A2 := (some ⟨g208, 0, none⟩)) (c2 := 1) (z := .agg #[.slice none 0 0, .int .i64 0, .int .i64 0]) (bytes := 40) S214 Try.underlying25 (by kernel_rfl) rfl (by decide) (by kernel_rfl) rfl (by kernel_rfl) h76 (elsO_one1 (st45_mkO (x := (t58.getD ((x77).toNat) z45)) h117)) (.inr (blk_news b209 rfl)) (show (x72.length + [(t58.getD ((x77).toNat) z45)].length) * 40 ≤ _ by first | omega | (simp only [List.length_cons, List.length_nil]; omega)) (by decide)) ?_
    rintro _ w215 ⟨A216, c217, F218, rfl, h219, S220, K221⟩
    replace b209 := K221.blk 0 rfl b209
    replace b127 := K221.blk 1 rfl b127
    replace h110 := h110.move (K221.at 2 rfl)
    replace b55 := K221.blk 3 rfl b55
    replace h46 := h46.move (K221.at 4 rfl)
    refine lv (d := 12) rfl rfl (by kernel_rfl) (e_assign (v := .slice A216 ((x72 ++ [(t58.getD ((x77).toNat) z45)]).length) c217) (by kernel_rfl)) ?_
    refine wpList_nil ?_
    refine inb_n ?_
    refine then_n ?_
    refine wp_region_lit ?_
    refine lv (d := 93) rfl rfl (by kernel_rfl) (e_add (k := .i64) (a := x77) (b := 1) (by exact e85) rfl) ?_
    refine lv (d := 68) rfl rfl (by kernel_rfl) (e_move (v := .int .i64 (IntKind.i64.wrap (x77 + 1))) (by kernel_rfl)) ?_
    refine wpList_nil ?_
    refine then_n ?_
    have S222 := S220.pull (F := F45) (Fr := [F218, (is g208), (is g122), F108, (is g50)]) 5 rfl rfl
    have S223 := S222.pull (F := (is g50)) (Fr := [F45, F218, (is g208), (is g122), F108]) 5 rfl rfl
    have S224 := S223.pull (F := F108) (Fr := [(is g50), F45, F218, (is g208), (is g122)]) 5 rfl rfl
    have S225 := St.first (Fa := [F108, (is g50), F45, F218]) (Fr := [(is g208), (is g122)]) S224
    exact ⟨k91, (by omega), _, (x72 ++ [(t58.getD ((x77).toNat) z45)]), A216, c217, F218, (IntKind.i64.wrap (x77 + 1)), F108, rfl, (by exact e79), (by exact e80), (by exact e81), (by kernel_rfl), (by exact e83), (by exact e84), (by kernel_rfl), (RowS.next h110 q97 q96 rfl), b55, h46, h219, S225, M⟩
  replace M := ifn q96 M
  refine cond_f rfl (bf q96 (by kernel_rfl)) ?_
  refine wp_exit ?_
  refine then_e ?_
  refine then_e ?_
  refine inb_hit ?_
  refine then_n ?_
  refine wp_seq ?_
  refine wp_seq ?_
  refine wp_region_lit ?_
  refine lv (d := 94) rfl rfl (by kernel_rfl) (e_move (v := .int .i64 x6) (by exact e79)) ?_
  refine lv (d := 95) rfl rfl (by kernel_rfl) (e_gtr (k := .i64) (a := x6) (b := 0) (by kernel_rfl) rfl) ?_
  refine wpList_nil ?_
  refine then_n ?_
  by_cases q226 : x6 > 0
  · replace M := ifp q226 M
    refine cond_t rfl (bt q226 (by kernel_rfl)) ?_
    refine wp_seq ?_
    refine wp_region_lit ?_
    refine lv (d := 96) rfl rfl (by kernel_rfl) (e_move (v := .slice A73 x72.length c74) (by exact e82)) ?_
    refine lv (d := 97) rfl rfl (by kernel_rfl) (e_loadS (b := g50) (off := 0) (cs := [.slice A43 x8.length c44, .int .i64 x6, .int .i64 x7]) Try.underlying45 rfl (by kernel_rfl) (by exact e81) (blk_cells b55 rfl)) ?_
    refine lve (d := 98) rfl rfl (by kernel_rfl) (new_blk (v := fun g_ => .slice (some ⟨g_, 0, none⟩) 1 1) (cs := #[.slice A43 x8.length c44, .int .i64 x6, .int .i64 x7]) (t := 45) S86 (by kernel_rfl)) ?_
    rintro _ w227 ⟨g228, rfl, b229, S230, K231⟩
    replace h65 := h65.move (K231.at 0 rfl)
    replace b55 := K231.blk 1 rfl b55
    replace h46 := h46.move (K231.at 2 rfl)
    replace h76 := h76.move (K231.at 3 rfl)
    obtain ⟨q232, M⟩ := chk M
    have S233 := S230.pull (F := F45) (Fr := [(is g228), F78, (is g50), F75]) 3 rfl rfl
    have S234 := S233.pull (F := F75) (Fr := [F45, (is g228), F78, (is g50)]) 4 rfl rfl
    refine lve (d := 99) rfl rfl (by kernel_rfl) (e_append (d := st45) (n := x72.length) (xs := x72) (cap := c74) (A := A73) (ys := [(⟨x8, x6, x7⟩ : Sy.Op)]) (A2 := (some ⟨g228, 0, none⟩)) (c2 := 1) (z := .agg #[.slice none 0 0, .int .i64 0, .int .i64 0]) (bytes := 40) S234 Try.underlying25 (by kernel_rfl) rfl (by decide) (by kernel_rfl) rfl (by kernel_rfl) h76 (elsO_one1 (st45_mkO (x := (⟨x8, x6, x7⟩ : Sy.Op)) h46)) (.inr (blk_news b229 rfl)) (show (x72.length + [(⟨x8, x6, x7⟩ : Sy.Op)].length) * 40 ≤ _ by first | omega | (simp only [List.length_cons, List.length_nil]; omega)) (by decide)) ?_
    rintro _ w235 ⟨A236, c237, F238, rfl, h239, S240, K241⟩
    replace b229 := K241.blk 0 rfl b229
    replace h65 := h65.move (K241.at 1 rfl)
    replace b55 := K241.blk 2 rfl b55
    refine lv (d := 12) rfl rfl (by kernel_rfl) (e_assign (v := .slice A236 ((x72 ++ [(⟨x8, x6, x7⟩ : Sy.Op)]).length) c237) (by kernel_rfl)) ?_
    refine wpList_nil ?_
    refine then_n ?_
    refine wp_region_lit ?_
    refine lv (d := 100) rfl rfl (by kernel_rfl) (e_move (v := .slice A236 ((x72 ++ [(⟨x8, x6, x7⟩ : Sy.Op)]).length) c237) (by kernel_rfl)) ?_
    obtain ⟨t242, u243, M⟩ := bnd M
    refine lcall (d := 101) rfl rfl (by kernel_rfl) (e_call (l := [.tmp 100]) (vs := [.slice A236 ((x72 ++ [(⟨x8, x6, x7⟩ : Sy.Op)]).length) c237]) Try.func32 (by kernel_rfl) rfl (by kernel_rfl) rfl) (impl_sortOps.calls k91 w235 H61 (x72 ++ [(⟨x8, x6, x7⟩ : Sy.Op)]) A236 c237 F238 h239 (St.own' (Fa := [F238]) (Fr := [(is g228), F78, (is g50)]) S240) t242 u243) ?_
    rintro _ w244 ⟨F248, H245, rfl, n249, h247, T246⟩
    refine ⟨_, rfl, ?_⟩
    obtain ⟨S250, K251⟩ := St.call (Fa := [F238]) (Fr := [(is g228), F78, (is g50)]) S240 T246
    replace b229 := K251.blk 0 rfl b229
    replace h65 := h65.move (K251.at 1 rfl)
    replace b55 := K251.blk 2 rfl b55
    have E252 := T246.ext
    replace h65 := h65.ext E252
    refine wpList_nil ?_
    refine then_n ?_
    refine wp_seq ?_
    refine wp_seq ?_
    refine wp_region_lit ?_
    refine lv (d := 102) rfl rfl (by kernel_rfl) (e_move (v := .slice A236 ((x72 ++ [(⟨x8, x6, x7⟩ : Sy.Op)]).length) c237) (by kernel_rfl)) ?_
    refine lv (d := 103) rfl rfl (by kernel_rfl) (e_len (A := A236) (n := (x72 ++ [(⟨x8, x6, x7⟩ : Sy.Op)]).length) (c := c237) Try.underlying25 (by kernel_rfl)) ?_
    refine lv (d := 104) rfl rfl (by kernel_rfl) (e_gtr (k := .i64) (a := ((x72 ++ [(⟨x8, x6, x7⟩ : Sy.Op)]).length : Int)) (b := 200) (by kernel_rfl) rfl) ?_
    refine wpList_nil ?_
    refine then_n ?_
    by_cases q253 : ((x72 ++ [(⟨x8, x6, x7⟩ : Sy.Op)]).length : Int) > 200
    · replace M := ifp q253 M
      refine cond_t rfl (bt q253 (by kernel_rfl)) ?_
      refine wp_seq ?_
      refine wp_region_lit ?_
      refine lv (d := 8) rfl rfl (by kernel_rfl) (e_assign (v := .slice none 0 0) rfl) ?_
      refine lv (d := 9) rfl rfl (by kernel_rfl) (e_assign (v := .int .i64 3) rfl) ?_
      refine wpList_nil ?_
      refine then_n ?_
      refine wp_ret ?_
      refine then_r ?_
      obtain rfl := Option.some.inj M
      have S254 := S250.unit
      have S255 := St.first (Fa := [no]) (Fr := [F248, (is g228), F78, (is g50)]) S254
      exact ret2 rfl rfl rfl (show _ = .slice none 0 0 from (by kernel_rfl)) (show _ = .int .i64 3 from (by kernel_rfl)) ⟨none, 0, no, H245, rfl, (Row.nil _ _ _ _ no), S255⟩
    replace M := ifn q253 M
    refine cond_f rfl (bf q253 (by kernel_rfl)) ?_
    refine wp_skip ?_
    refine then_n ?_
    refine wp_seq ?_
    refine wp_region_lit ?_
    refine lv (d := 105) rfl rfl (by kernel_rfl) (e_move (v := .slice A236 ((x72 ++ [(⟨x8, x6, x7⟩ : Sy.Op)]).length) c237) (by kernel_rfl)) ?_
    refine lv (d := 8) rfl rfl (by kernel_rfl) (e_assign (v := .slice A236 ((x72 ++ [(⟨x8, x6, x7⟩ : Sy.Op)]).length) c237) (by kernel_rfl)) ?_
    refine lv (d := 9) rfl rfl (by kernel_rfl) (e_assign (v := .int .i64 0) rfl) ?_
    refine wpList_nil ?_
    refine then_n ?_
    refine wp_ret ?_
    obtain rfl := Option.some.inj M
    have S256 := St.first (Fa := [F248]) (Fr := [(is g228), F78, (is g50)]) S250
    exact ret2 rfl rfl rfl (show _ = .slice A236 ((x72 ++ [(⟨x8, x6, x7⟩ : Sy.Op)]).length) c237 from (by kernel_rfl)) (show _ = .int .i64 0 from (by kernel_rfl)) ⟨A236, c237, F248, H245, (by rw [(show t242.length = (x72 ++ [(⟨x8, x6, x7⟩ : Sy.Op)]).length from n249)]), h247, S256⟩
  replace M := ifn q226 M
  refine cond_f rfl (bf q226 (by kernel_rfl)) ?_
  refine wp_skip ?_
  refine then_n ?_
  refine wp_seq ?_
  refine wp_seq ?_
  refine wp_region_lit ?_
  refine lv (d := 102) rfl rfl (by kernel_rfl) (e_move (v := .slice A73 x72.length c74) (by exact e82)) ?_
  refine lv (d := 103) rfl rfl (by kernel_rfl) (e_len (A := A73) (n := x72.length) (c := c74) Try.underlying25 (by kernel_rfl)) ?_
  refine lv (d := 104) rfl rfl (by kernel_rfl) (e_gtr (k := .i64) (a := (x72.length : Int)) (b := 200) (by kernel_rfl) rfl) ?_
  refine wpList_nil ?_
  refine then_n ?_
  by_cases q257 : (x72.length : Int) > 200
  · replace M := ifp q257 M
    refine cond_t rfl (bt q257 (by kernel_rfl)) ?_
    refine wp_seq ?_
    refine wp_region_lit ?_
    refine lv (d := 8) rfl rfl (by kernel_rfl) (e_assign (v := .slice none 0 0) rfl) ?_
    refine lv (d := 9) rfl rfl (by kernel_rfl) (e_assign (v := .int .i64 3) rfl) ?_
    refine wpList_nil ?_
    refine then_n ?_
    refine wp_ret ?_
    refine then_r ?_
    obtain rfl := Option.some.inj M
    have S258 := S86.unit
    have S259 := St.first (Fa := [no]) (Fr := [F78, (is g50), F45, F75]) S258
    exact ret2 rfl rfl rfl (show _ = .slice none 0 0 from (by kernel_rfl)) (show _ = .int .i64 3 from (by kernel_rfl)) ⟨none, 0, no, H61, rfl, (Row.nil _ _ _ _ no), S259⟩
  replace M := ifn q257 M
  refine cond_f rfl (bf q257 (by kernel_rfl)) ?_
  refine wp_skip ?_
  refine then_n ?_
  refine wp_seq ?_
  refine wp_region_lit ?_
  refine lv (d := 105) rfl rfl (by kernel_rfl) (e_move (v := .slice A73 x72.length c74) (by exact e82)) ?_
  refine lv (d := 8) rfl rfl (by kernel_rfl) (e_assign (v := .slice A73 x72.length c74) (by kernel_rfl)) ?_
  refine lv (d := 9) rfl rfl (by kernel_rfl) (e_assign (v := .int .i64 0) rfl) ?_
  refine wpList_nil ?_
  refine then_n ?_
  refine wp_ret ?_
  obtain rfl := Option.some.inj M
  have S260 := S86.pull (F := F75) (Fr := [F78, (is g50), F45]) 3 rfl rfl
  have S261 := St.first (Fa := [F75]) (Fr := [F78, (is g50), F45]) S260
  exact ret2 rfl rfl rfl (show _ = .slice A73 x72.length c74 from (by kernel_rfl)) (show _ = .int .i64 0 from (by kernel_rfl)) ⟨A73, c74, F75, H61, rfl, h76, S261⟩

/-! laws_eqByteS -/
def laws_eqByteS.l0 : Nat → (List UInt8) → (List UInt8) → Int → Option Bool
  | 0, _, _, _ => none
  | k23 + 1, x1, x6, x14 => (if x14 < (x1.length : Int) then (if 0 ≤ x14 then (if x14 < (x6.length : Int) then (if ((x1.getD ((x14).toNat) (0 : UInt8)).toNat : Int) ≠ ((x6.getD ((x14).toNat) (0 : UInt8)).toNat : Int) then some false else (laws_eqByteS.l0 k23 x1 x6 (IntKind.i64.wrap (x14 + 1)))) else none) else none) else some true)
def laws_eqByteS.f (k : Nat) (x1 : List UInt8) (x6 : List UInt8) : Option Bool := (if (x1.length : Int) ≠ (x6.length : Int) then some false else (laws_eqByteS.l0 k x1 x6 0))
theorem laws_eqByteS.calls (k : Nat) (w : World) (H : Hp) (x1 : List UInt8) (A2 : Option Addr) (c3 : Nat) (x6 : List UInt8) (A7 : Option Addr) (c8 : Nat) (h4 : Rd tByte H A2 x1) (l5 : x1.length ≤ c3) (h9 : Rd tByte H A7 x6) (l10 : x6.length ≤ c8) (S : Own [] H w) (r : Bool) (M : laws_eqByteS.f k x1 x6 = some r) :
    Calls Try.prog 19 #[.slice A2 x1.length c3, .slice A7 x6.length c8] w (fun e e_w => e = .returned (.bool r) ∧ Chg no w e_w) := by
  rw [laws_eqByteS.f] at M
  refine enter (l := [.slice A2 x1.length c3, .slice A7 x6.length c8]) 26 Try.func19 rfl rfl rfl ?_
  have S0_ := S.st
  refine wp_seq ?_
  refine wp_region_lit ?_
  refine lv (d := 4) rfl rfl (by kernel_rfl) (e_assign (v := .bool false) rfl) ?_
  refine wpList_nil ?_
  refine then_n ?_
  refine wp_seq ?_
  refine wp_seq ?_
  refine wp_region_lit ?_
  refine lv (d := 6) rfl rfl (by kernel_rfl) (e_move (v := .slice A2 x1.length c3) (by kernel_rfl)) ?_
  refine lv (d := 7) rfl rfl (by kernel_rfl) (e_len (A := A2) (n := x1.length) (c := c3) Try.underlying32 (by kernel_rfl)) ?_
  refine lv (d := 8) rfl rfl (by kernel_rfl) (e_move (v := .slice A7 x6.length c8) (by kernel_rfl)) ?_
  refine lv (d := 9) rfl rfl (by kernel_rfl) (e_len (A := A7) (n := x6.length) (c := c8) Try.underlying32 (by kernel_rfl)) ?_
  refine lv (d := 10) rfl rfl (by kernel_rfl) (e_neq (k := .i64) (a := (x1.length : Int)) (b := (x6.length : Int)) (by kernel_rfl) (by kernel_rfl)) ?_
  refine wpList_nil ?_
  refine then_n ?_
  by_cases q11 : (x1.length : Int) ≠ (x6.length : Int)
  · replace M := ifp q11 M
    refine cond_t rfl (bt q11 (by kernel_rfl)) ?_
    refine wp_seq ?_
    refine wp_region_lit ?_
    refine lv (d := 4) rfl rfl (by kernel_rfl) (e_assign (v := .bool false) rfl) ?_
    refine wpList_nil ?_
    refine then_n ?_
    refine wp_ret ?_
    refine then_r ?_
    obtain rfl := Option.some.inj M
    exact ret1 rfl rfl  (show _ = .bool false from (by kernel_rfl)) ⟨rfl, S0_.chg⟩
  replace M := ifn q11 M
  refine cond_f rfl (bf q11 (by kernel_rfl)) ?_
  refine wp_skip ?_
  refine then_n ?_
  refine wp_seq ?_
  refine wp_seq ?_
  refine wp_region_lit ?_
  refine lv (d := 5) rfl rfl (by kernel_rfl) (e_assign (v := .int .i64 0) rfl) ?_
  refine wpList_nil ?_
  refine then_n ?_
  refine wp_block ?_
  refine wp_loop_g (fun k21 a22 w12 => ∃ (f13 : Nat → Value) (x14 : Int), a22 = mk 26 f13 ∧ f13 0 = .slice A2 x1.length c3 ∧ f13 1 = .slice A7 x6.length c8 ∧ f13 5 = .int .i64 x14 ∧ St (anyOf []) H w [] H w12 ∧ laws_eqByteS.l0 k21 x1 x6 x14 = some r) k ⟨_, 0, rfl, (by kernel_rfl), (by kernel_rfl), (by kernel_rfl), S0_, M⟩ ?_
  clear M
  rintro k21 a22 w12 ⟨f13, x14, rfl, e15, e16, e17, S18, M⟩
  rcases k21 with _ | k23
  · rw [laws_eqByteS.l0] at M
    cases M
  rw [laws_eqByteS.l0] at M
  refine wp_seq ?_
  refine wp_seq ?_
  refine wp_region_lit ?_
  refine lv (d := 11) rfl rfl (by kernel_rfl) (e_move (v := .int .i64 x14) (by exact e17)) ?_
  refine lv (d := 12) rfl rfl (by kernel_rfl) (e_move (v := .slice A2 x1.length c3) (by exact e15)) ?_
  refine lv (d := 13) rfl rfl (by kernel_rfl) (e_len (A := A2) (n := x1.length) (c := c3) Try.underlying32 (by kernel_rfl)) ?_
  refine lv (d := 14) rfl rfl (by kernel_rfl) (e_lss (k := .i64) (a := x14) (b := (x1.length : Int)) (by kernel_rfl) (by kernel_rfl)) ?_
  refine wpList_nil ?_
  refine then_n ?_
  by_cases q24 : x14 < (x1.length : Int)
  · replace M := ifp q24 M
    refine cond_t rfl (bt q24 (by kernel_rfl)) ?_
    refine wp_skip ?_
    refine then_n ?_
    refine wp_seq ?_
    refine wp_block ?_
    refine wp_seq ?_
    refine region_still (by kernel_rfl) (by kernel_rfl) S18 ?_
    intro w25 S26 K27
    refine sv (d := 17) rfl rfl (by kernel_rfl) (e_move (v := .slice A2 x1.length c3) (by exact e15)) ?_
    refine sv (d := 18) rfl rfl (by kernel_rfl) (e_move (v := .int .i64 x14) (by exact e17)) ?_
    obtain ⟨q28, M⟩ := chk M
    obtain ⟨b29, o30, e31⟩ := Rd.addr h4 (show (x14).toNat < x1.length by omega)
    obtain ⟨y32, r33, k34⟩ := Rd.at h4 e31 (getD_some (0 : UInt8) (show (x14).toNat < x1.length by omega))
    obtain rfl := r33
    refine sv (d := 19) rfl rfl (by kernel_rfl) (e_indexAddr (b := b29) (off := o30) (n := x1.length) (c := c3) (sz := 1) (i := x14) (k := .i64) Try.underlying32 e31 (by kernel_rfl) (by kernel_rfl) (by kernel_rfl) q28 q24) ?_
    refine sv (d := 20) rfl rfl (by kernel_rfl) (e_load1 (ad := ⟨b29, o30 + (x14 : Int).toNat * 1, none⟩) (v := .int .u8 ((x1.getD ((x14).toNat) (0 : UInt8)).toNat : Int)) Try.underlying5 rfl (by kernel_rfl) (hpx (S26.inv.cell (k34 0 _ rfl)))) ?_
    refine sv (d := 21) rfl rfl (by kernel_rfl) (e_move (v := .slice A7 x6.length c8) (by exact e16)) ?_
    refine sv (d := 22) rfl rfl (by kernel_rfl) (e_move (v := .int .i64 x14) (by exact e17)) ?_
    obtain ⟨q35, M⟩ := chk M
    obtain ⟨b36, o37, e38⟩ := Rd.addr h9 (show (x14).toNat < x6.length by omega)
    obtain ⟨y39, r40, k41⟩ := Rd.at h9 e38 (getD_some (0 : UInt8) (show (x14).toNat < x6.length by omega))
    obtain rfl := r40
    refine sv (d := 23) rfl rfl (by kernel_rfl) (e_indexAddr (b := b36) (off := o37) (n := x6.length) (c := c8) (sz := 1) (i := x14) (k := .i64) Try.underlying32 e38 (by kernel_rfl) (by kernel_rfl) (by kernel_rfl) q28 q35) ?_
    refine sv (d := 24) rfl rfl (by kernel_rfl) (e_load1 (ad := ⟨b36, o37 + (x14 : Int).toNat * 1, none⟩) (v := .int .u8 ((x6.getD ((x14).toNat) (0 : UInt8)).toNat : Int)) Try.underlying5 rfl (by kernel_rfl) (hpx (S26.inv.cell (k41 0 _ rfl)))) ?_
    refine sv (d := 25) rfl rfl (by kernel_rfl) (e_neq (k := .u8) (a := ((x1.getD ((x14).toNat) (0 : UInt8)).toNat : Int)) (b := ((x6.getD ((x14).toNat) (0 : UInt8)).toNat : Int)) (by kernel_rfl) (by kernel_rfl)) ?_
    refine wpStill_nil ?_
    refine then_n ?_
    by_cases q42 : ((x1.getD ((x14).toNat) (0 : UInt8)).toNat : Int) ≠ ((x6.getD ((x14).toNat) (0 : UInt8)).toNat : Int)
    · replace M := ifp q42 M
      refine cond_t rfl (bt q42 (by kernel_rfl)) ?_
      refine wp_seq ?_
      refine wp_region_lit ?_
      refine lv (d := 4) rfl rfl (by kernel_rfl) (e_assign (v := .bool false) rfl) ?_
      refine wpList_nil ?_
      refine then_n ?_
      refine wp_ret ?_
      refine inb_r ?_
      refine then_r ?_
      refine then_r ?_
      refine inb_r ?_
      refine then_r ?_
      obtain rfl := Option.some.inj M
      exact ret1 rfl rfl  (show _ = .bool false from (by kernel_rfl)) ⟨rfl, S26.chg⟩
    replace M := ifn q42 M
    refine cond_f rfl (bf q42 (by kernel_rfl)) ?_
    refine wp_skip ?_
    refine inb_n ?_
    refine then_n ?_
    refine wp_region_lit ?_
    refine lv (d := 15) rfl rfl (by kernel_rfl) (e_move (v := .int .i64 x14) (by exact e17)) ?_
    refine lv (d := 16) rfl rfl (by kernel_rfl) (e_add (k := .i64) (a := x14) (b := 1) (by kernel_rfl) rfl) ?_
    refine lv (d := 5) rfl rfl (by kernel_rfl) (e_assign (v := .int .i64 (IntKind.i64.wrap (x14 + 1))) (by kernel_rfl)) ?_
    refine wpList_nil ?_
    refine then_n ?_
    exact ⟨k23, (by omega), _, (IntKind.i64.wrap (x14 + 1)), rfl, (by exact e15), (by exact e16), (by kernel_rfl), S26, M⟩
  replace M := ifn q24 M
  refine cond_f rfl (bf q24 (by kernel_rfl)) ?_
  refine wp_exit ?_
  refine then_e ?_
  refine then_e ?_
  refine inb_hit ?_
  refine then_n ?_
  refine wp_seq ?_
  refine wp_region_lit ?_
  refine lv (d := 4) rfl rfl (by kernel_rfl) (e_assign (v := .bool true) rfl) ?_
  refine wpList_nil ?_
  refine then_n ?_
  refine wp_ret ?_
  obtain rfl := Option.some.inj M
  exact ret1 rfl rfl  (show _ = .bool true from (by kernel_rfl)) ⟨rfl, S18.chg⟩

/-! laws_eqOp -/
def laws_eqOp.f (k : Nat) (x1 : Sy.Op) (x6 : Sy.Op) : Option Bool := ((laws_eqByteS.f k x1.name x6.name).bind fun t21 => (if ¬ (t21 = true) then some false else (if x1.pri ≠ x6.pri then some false else (if x1.typ ≠ x6.typ then some false else some true))))
theorem laws_eqOp.calls (k : Nat) (w : World) (H : Hp) (x1 : Sy.Op) (A2 : Option Addr) (c3 : Nat) (x6 : Sy.Op) (A7 : Option Addr) (c8 : Nat) (h4 : Rd tByte H A2 x1.name) (l5 : x1.name.length ≤ c3) (h9 : Rd tByte H A7 x6.name) (l10 : x6.name.length ≤ c8) (S : Own [] H w) (r : Bool) (M : laws_eqOp.f k x1 x6 = some r) :
    Calls Try.prog 28 #[.agg #[.slice A2 x1.name.length c3, .int .i64 x1.pri, .int .i64 x1.typ], .agg #[.slice A7 x6.name.length c8, .int .i64 x6.pri, .int .i64 x6.typ]] w (fun e e_w => e = .returned (.bool r) ∧ Chg no w e_w) := by
  rw [laws_eqOp.f] at M
  refine enter (l := [.agg #[.slice A2 x1.name.length c3, .int .i64 x1.pri, .int .i64 x1.typ], .agg #[.slice A7 x6.name.length c8, .int .i64 x6.pri, .int .i64 x6.typ]]) 21 Try.func28 rfl rfl rfl ?_
  have S0_ := S.st
  refine wp_seq ?_
  refine wp_region_lit ?_
  refine lve (d := 2) rfl rfl (by kernel_rfl) (new_blk (v := fun g_ => .pointer (some ⟨g_, 0, none⟩)) (cs := #[.slice A2 x1.name.length c3, .int .i64 x1.pri, .int .i64 x1.typ]) (t := 45) S0_ (by kernel_rfl)) ?_
  rintro _ w11 ⟨g12, rfl, b13, S14, K15⟩
  refine lve (d := 3) rfl rfl (by kernel_rfl) (new_blk (v := fun g_ => .pointer (some ⟨g_, 0, none⟩)) (cs := #[.slice A7 x6.name.length c8, .int .i64 x6.pri, .int .i64 x6.typ]) (t := 45) S14 (by kernel_rfl)) ?_
  rintro _ w16 ⟨g17, rfl, b18, S19, K20⟩
  replace b13 := K20.blk 0 rfl b13
  refine lv (d := 4) rfl rfl (by kernel_rfl) (e_assign (v := .bool false) rfl) ?_
  refine wpList_nil ?_
  refine then_n ?_
  refine wp_seq ?_
  refine wp_seq ?_
  refine wp_region_lit ?_
  refine lv (d := 5) rfl rfl (by kernel_rfl) (e_fieldAddr (b := g12) (off := 0) (o := 0) Try.underlying45 rfl rfl (sz := 1) (by kernel_rfl) (by decide) (by kernel_rfl)) ?_
  refine lv (d := 6) rfl rfl (by kernel_rfl) (e_load1 (ad := ⟨g12, 0 + 0, none⟩) (v := .slice A2 x1.name.length c3) Try.underlying32 rfl (by kernel_rfl) (blk_cell b13 rfl)) ?_
  refine lv (d := 7) rfl rfl (by kernel_rfl) (e_fieldAddr (b := g17) (off := 0) (o := 0) Try.underlying45 rfl rfl (sz := 1) (by kernel_rfl) (by decide) (by kernel_rfl)) ?_
  refine lv (d := 8) rfl rfl (by kernel_rfl) (e_load1 (ad := ⟨g17, 0 + 0, none⟩) (v := .slice A7 x6.name.length c8) Try.underlying32 rfl (by kernel_rfl) (blk_cell b18 rfl)) ?_
  obtain ⟨t21, u22, M⟩ := bnd M
  refine lcall (d := 9) rfl rfl (by kernel_rfl) (e_call (l := [.tmp 6, .tmp 8]) (vs := [.slice A2 x1.name.length c3, .slice A7 x6.name.length c8]) Try.func19 (by kernel_rfl) rfl (by kernel_rfl) rfl) (laws_eqByteS.calls k w16 H x1.name A2 c3 x6.name A7 c8 h4 l5 h9 l10 S19.own0 t21 u22) ?_
  rintro _ w23 ⟨rfl, C24⟩
  refine ⟨_, rfl, ?_⟩
  obtain ⟨S25, K26⟩ := S19.still C24
  replace b18 := K26.blk 0 rfl b18
  replace b13 := K26.blk 1 rfl b13
  refine lv (d := 10) rfl rfl (by kernel_rfl) (e_notv (c := t21) (by kernel_rfl)) ?_
  refine wpList_nil ?_
  refine then_n ?_
  by_cases q27 : ¬ (t21 = true)
  · replace M := ifp q27 M
    refine cond_t rfl (bt q27 (by kernel_rfl)) ?_
    refine wp_seq ?_
    refine wp_region_lit ?_
    refine lv (d := 4) rfl rfl (by kernel_rfl) (e_assign (v := .bool false) rfl) ?_
    refine wpList_nil ?_
    refine then_n ?_
    refine wp_ret ?_
    refine then_r ?_
    obtain rfl := Option.some.inj M
    exact ret1 rfl rfl  (show _ = .bool false from (by kernel_rfl)) ⟨rfl, S25.chg⟩
  replace M := ifn q27 M
  refine cond_f rfl (bf q27 (by kernel_rfl)) ?_
  refine wp_skip ?_
  refine then_n ?_
  refine wp_seq ?_
  refine wp_seq ?_
  refine wp_region_lit ?_
  refine lv (d := 11) rfl rfl (by kernel_rfl) (e_fieldAddr (b := g12) (off := 0) (o := 1) Try.underlying45 rfl rfl (sz := 1) (by kernel_rfl) (by decide) (by kernel_rfl)) ?_
  refine lv (d := 12) rfl rfl (by kernel_rfl) (e_load1 (ad := ⟨g12, 0 + 1, none⟩) (v := .int .i64 x1.pri) Try.underlying3 rfl (by kernel_rfl) (blk_cell b13 rfl)) ?_
  refine lv (d := 13) rfl rfl (by kernel_rfl) (e_fieldAddr (b := g17) (off := 0) (o := 1) Try.underlying45 rfl rfl (sz := 1) (by kernel_rfl) (by decide) (by kernel_rfl)) ?_
  refine lv (d := 14) rfl rfl (by kernel_rfl) (e_load1 (ad := ⟨g17, 0 + 1, none⟩) (v := .int .i64 x6.pri) Try.underlying3 rfl (by kernel_rfl) (blk_cell b18 rfl)) ?_
  refine lv (d := 15) rfl rfl (by kernel_rfl) (e_neq (k := .i64) (a := x1.pri) (b := x6.pri) (by kernel_rfl) (by kernel_rfl)) ?_
  refine wpList_nil ?_
  refine then_n ?_
  by_cases q28 : x1.pri ≠ x6.pri
  · replace M := ifp q28 M
    refine cond_t rfl (bt q28 (by kernel_rfl)) ?_
    refine wp_seq ?_
    refine wp_region_lit ?_
    refine lv (d := 4) rfl rfl (by kernel_rfl) (e_assign (v := .bool false) rfl) ?_
    refine wpList_nil ?_
    refine then_n ?_
    refine wp_ret ?_
    refine then_r ?_
    obtain rfl := Option.some.inj M
    exact ret1 rfl rfl  (show _ = .bool false from (by kernel_rfl)) ⟨rfl, S25.chg⟩
  replace M := ifn q28 M
  refine cond_f rfl (bf q28 (by kernel_rfl)) ?_
  refine wp_skip ?_
  refine then_n ?_
  refine wp_seq ?_
  refine wp_seq ?_
  refine wp_region_lit ?_
  refine lv (d := 16) rfl rfl (by kernel_rfl) (e_fieldAddr (b := g12) (off := 0) (o := 2) Try.underlying45 rfl rfl (sz := 1) (by kernel_rfl) (by decide) (by kernel_rfl)) ?_
  refine lv (d := 17) rfl rfl (by kernel_rfl) (e_load1 (ad := ⟨g12, 0 + 2, none⟩) (v := .int .i64 x1.typ) Try.underlying3 rfl (by kernel_rfl) (blk_cell b13 rfl)) ?_
  refine lv (d := 18) rfl rfl (by kernel_rfl) (e_fieldAddr (b := g17) (off := 0) (o := 2) Try.underlying45 rfl rfl (sz := 1) (by kernel_rfl) (by decide) (by kernel_rfl)) ?_
  refine lv (d := 19) rfl rfl (by kernel_rfl) (e_load1 (ad := ⟨g17, 0 + 2, none⟩) (v := .int .i64 x6.typ) Try.underlying3 rfl (by kernel_rfl) (blk_cell b18 rfl)) ?_
  refine lv (d := 20) rfl rfl (by kernel_rfl) (e_neq (k := .i64) (a := x1.typ) (b := x6.typ) (by kernel_rfl) (by kernel_rfl)) ?_
  refine wpList_nil ?_
  refine then_n ?_
  by_cases q29 : x1.typ ≠ x6.typ
  · replace M := ifp q29 M
    refine cond_t rfl (bt q29 (by kernel_rfl)) ?_
    refine wp_seq ?_
    refine wp_region_lit ?_
    refine lv (d := 4) rfl rfl (by kernel_rfl) (e_assign (v := .bool false) rfl) ?_
    refine wpList_nil ?_
    refine then_n ?_
    refine wp_ret ?_
    refine then_r ?_
    obtain rfl := Option.some.inj M
    exact ret1 rfl rfl  (show _ = .bool false from (by kernel_rfl)) ⟨rfl, S25.chg⟩
  replace M := ifn q29 M
  refine cond_f rfl (bf q29 (by kernel_rfl)) ?_
  refine wp_skip ?_
  refine then_n ?_
  refine wp_seq ?_
  refine wp_region_lit ?_
  refine lv (d := 4) rfl rfl (by kernel_rfl) (e_assign (v := .bool true) rfl) ?_
  refine wpList_nil ?_
  refine then_n ?_
  refine wp_ret ?_
  obtain rfl := Option.some.inj M
  exact ret1 rfl rfl  (show _ = .bool true from (by kernel_rfl)) ⟨rfl, S25.chg⟩

/-! laws_eqOpS -/
def laws_eqOpS.l0 : Nat → (List Sy.Op) → (List Sy.Op) → Int → Option Bool
  | 0, _, _, _ => none
  | k23 + 1, x1, x6, x14 => (if x14 < (x1.length : Int) then (if 0 ≤ x14 then (if x14 < (x6.length : Int) then ((laws_eqOp.f k23 (x1.getD ((x14).toNat) z45) (x6.getD ((x14).toNat) z45)).bind fun t47 => (if ¬ (t47 = true) then some false else (laws_eqOpS.l0 k23 x1 x6 (IntKind.i64.wrap (x14 + 1))))) else none) else none) else some true)
def laws_eqOpS.f (k : Nat) (x1 : List Sy.Op) (x6 : List Sy.Op) : Option Bool := (if (x1.length : Int) ≠ (x6.length : Int) then some false else (laws_eqOpS.l0 k x1 x6 0))
theorem laws_eqOpS.calls (k : Nat) (w : World) (H : Hp) (x1 : List Sy.Op) (A2 : Option Addr) (c3 : Nat) (x6 : List Sy.Op) (A7 : Option Addr) (c8 : Nat) (h4 : Rd st45 H A2 x1) (l5 : x1.length ≤ c3) (h9 : Rd st45 H A7 x6) (l10 : x6.length ≤ c8) (S : Own [] H w) (r : Bool) (M : laws_eqOpS.f k x1 x6 = some r) :
    Calls Try.prog 11 #[.slice A2 x1.length c3, .slice A7 x6.length c8] w (fun e e_w => e = .returned (.bool r) ∧ Chg no w e_w) := by
  rw [laws_eqOpS.f] at M
  refine enter (l := [.slice A2 x1.length c3, .slice A7 x6.length c8]) 27 Try.func11 rfl rfl rfl ?_
  have S0_ := S.st
  refine wp_seq ?_
  refine wp_region_lit ?_
  refine lv (d := 4) rfl rfl (by kernel_rfl) (e_assign (v := .bool false) rfl) ?_
  refine wpList_nil ?_
  refine then_n ?_
  refine wp_seq ?_
  refine wp_seq ?_
  refine wp_region_lit ?_
  refine lv (d := 6) rfl rfl (by kernel_rfl) (e_move (v := .slice A2 x1.length c3) (by kernel_rfl)) ?_
  refine lv (d := 7) rfl rfl (by kernel_rfl) (e_len (A := A2) (n := x1.length) (c := c3) Try.underlying25 (by kernel_rfl)) ?_
  refine lv (d := 8) rfl rfl (by kernel_rfl) (e_move (v := .slice A7 x6.length c8) (by kernel_rfl)) ?_
  refine lv (d := 9) rfl rfl (by kernel_rfl) (e_len (A := A7) (n := x6.length) (c := c8) Try.underlying25 (by kernel_rfl)) ?_
  refine lv (d := 10) rfl rfl (by kernel_rfl) (e_neq (k := .i64) (a := (x1.length : Int)) (b := (x6.length : Int)) (by kernel_rfl) (by kernel_rfl)) ?_
  refine wpList_nil ?_
  refine then_n ?_
  by_cases q11 : (x1.length : Int) ≠ (x6.length : Int)
  · replace M := ifp q11 M
    refine cond_t rfl (bt q11 (by kernel_rfl)) ?_
    refine wp_seq ?_
    refine wp_region_lit ?_
    refine lv (d := 4) rfl rfl (by kernel_rfl) (e_assign (v := .bool false) rfl) ?_
    refine wpList_nil ?_
    refine then_n ?_
    refine wp_ret ?_
    refine then_r ?_
    obtain rfl := Option.some.inj M
    exact ret1 rfl rfl  (show _ = .bool false from (by kernel_rfl)) ⟨rfl, S0_.chg⟩
  replace M := ifn q11 M
  refine cond_f rfl (bf q11 (by kernel_rfl)) ?_
  refine wp_skip ?_
  refine then_n ?_
  refine wp_seq ?_
  refine wp_seq ?_
  refine wp_region_lit ?_
  refine lv (d := 5) rfl rfl (by kernel_rfl) (e_assign (v := .int .i64 0) rfl) ?_
  refine wpList_nil ?_
  refine then_n ?_
  refine wp_block ?_
  refine wp_loop_g (fun k21 a22 w12 => ∃ (f13 : Nat → Value) (x14 : Int), a22 = mk 27 f13 ∧ f13 0 = .slice A2 x1.length c3 ∧ f13 1 = .slice A7 x6.length c8 ∧ f13 5 = .int .i64 x14 ∧ St (anyOf []) H w [] H w12 ∧ laws_eqOpS.l0 k21 x1 x6 x14 = some r) k ⟨_, 0, rfl, (by kernel_rfl), (by kernel_rfl), (by kernel_rfl), S0_, M⟩ ?_
  clear M
  rintro k21 a22 w12 ⟨f13, x14, rfl, e15, e16, e17, S18, M⟩
  rcases k21 with _ | k23
  · rw [laws_eqOpS.l0] at M
    cases M
  rw [laws_eqOpS.l0] at M
  refine wp_seq ?_
  refine wp_seq ?_
  refine wp_region_lit ?_
  refine lv (d := 11) rfl rfl (by kernel_rfl) (e_move (v := .int .i64 x14) (by exact e17)) ?_
  refine lv (d := 12) rfl rfl (by kernel_rfl) (e_move (v := .slice A2 x1.length c3) (by exact e15)) ?_
  refine lv (d := 13) rfl rfl (by kernel_rfl) (e_len (A := A2) (n := x1.length) (c := c3) Try.underlying25 (by kernel_rfl)) ?_
  refine lv (d := 14) rfl rfl (by kernel_rfl) (e_lss (k := .i64) (a := x14) (b := (x1.length : Int)) (by kernel_rfl) (by kernel_rfl)) ?_
  refine wpList_nil ?_
  refine then_n ?_
  by_cases q24 : x14 < (x1.length : Int)
  · replace M := ifp q24 M
    refine cond_t rfl (bt q24 (by kernel_rfl)) ?_
    refine wp_skip ?_
    refine then_n ?_
    refine wp_seq ?_
    refine wp_block ?_
    refine wp_seq ?_
    refine region_quiet (by kernel_rfl) (by kernel_rfl) ?_
    refine qv (d := 17) rfl rfl (by kernel_rfl) (fun wq_ hq_ => e_move (v := .slice A2 x1.length c3) (by exact e15)) ?_
    refine qv (d := 18) rfl rfl (by kernel_rfl) (fun wq_ hq_ => e_move (v := .int .i64 x14) (by exact e17)) ?_
    obtain ⟨q25, M⟩ := chk M
    obtain ⟨b26, o27, e28⟩ := Rd.addr h4 (show (x14).toNat < x1.length by omega)
    obtain ⟨y29, r30, k31⟩ := Rd.at h4 e28 (getD_some z45 (show (x14).toNat < x1.length by omega))
    obtain ⟨A32, c33, rfl, l34, h35⟩ := st45_open r30
    refine qv (d := 19) rfl rfl (by kernel_rfl) (fun wq_ hq_ => e_indexAddr (b := b26) (off := o27) (n := x1.length) (c := c3) (sz := 3) (i := x14) (k := .i64) Try.underlying25 e28 (by kernel_rfl) (by kernel_rfl) (by kernel_rfl) q25 q24) ?_
    refine qv (d := 20) rfl rfl (by kernel_rfl) (fun wq_ hq_ => e_loadS (b := b26) (off := o27 + (x14 : Int).toNat * 3) (cs := [.slice A32 ((x1.getD ((x14).toNat) z45).name).length c33, .int .i64 ((x1.getD ((x14).toNat) z45).pri), .int .i64 ((x1.getD ((x14).toNat) z45).typ)]) Try.underlying45 rfl (by kernel_rfl) (by kernel_rfl) (fun j_ u_ e_ => (hpx ((S18.still hq_).1.inv.cell (k31 j_ u_ e_))))) ?_
    refine qv (d := 21) rfl rfl (by kernel_rfl) (fun wq_ hq_ => e_move (v := .slice A7 x6.length c8) (by exact e16)) ?_
    refine qv (d := 22) rfl rfl (by kernel_rfl) (fun wq_ hq_ => e_move (v := .int .i64 x14) (by exact e17)) ?_
    obtain ⟨q36, M⟩ := chk M
    obtain ⟨b37, o38, e39⟩ := Rd.addr h9 (show (x14).toNat < x6.length by omega)
    obtain ⟨y40, r41, k42⟩ := Rd.at h9 e39 (getD_some z45 (show (x14).toNat < x6.length by omega))
    obtain ⟨A43, c44, rfl, l45, h46⟩ := st45_open r41
    refine qv (d := 23) rfl rfl (by kernel_rfl) (fun wq_ hq_ => e_indexAddr (b := b37) (off := o38) (n := x6.length) (c := c8) (sz := 3) (i := x14) (k := .i64) Try.underlying25 e39 (by kernel_rfl) (by kernel_rfl) (by kernel_rfl) q25 q36) ?_
    refine qv (d := 24) rfl rfl (by kernel_rfl) (fun wq_ hq_ => e_loadS (b := b37) (off := o38 + (x14 : Int).toNat * 3) (cs := [.slice A43 ((x6.getD ((x14).toNat) z45).name).length c44, .int .i64 ((x6.getD ((x14).toNat) z45).pri), .int .i64 ((x6.getD ((x14).toNat) z45).typ)]) Try.underlying45 rfl (by kernel_rfl) (by kernel_rfl) (fun j_ u_ e_ => (hpx ((S18.still hq_).1.inv.cell (k42 j_ u_ e_))))) ?_
    obtain ⟨t47, u48, M⟩ := bnd M
    refine qcall (v := .bool t47) (d := 25) rfl rfl (by kernel_rfl) (fun w_ => e_call (l := [.tmp 20, .tmp 24]) (vs := [.agg #[.slice A32 ((x1.getD ((x14).toNat) z45).name).length c33, .int .i64 ((x1.getD ((x14).toNat) z45).pri), .int .i64 ((x1.getD ((x14).toNat) z45).typ)], .agg #[.slice A43 ((x6.getD ((x14).toNat) z45).name).length c44, .int .i64 ((x6.getD ((x14).toNat) z45).pri), .int .i64 ((x6.getD ((x14).toNat) z45).typ)]]) Try.func28 (by kernel_rfl) rfl (by kernel_rfl) rfl) (fun wq_ hq_ => (by obtain ⟨S_, K_⟩ := S18.still hq_; exact (laws_eqOp.calls k23 wq_ H (x1.getD ((x14).toNat) z45) A32 c33 (x6.getD ((x14).toNat) z45) A43 c44 h35 l34 h46 l45 S_.own0 t47 u48))) ?_
    refine qv (d := 26) rfl rfl (by kernel_rfl) (fun wq_ hq_ => e_notv (c := t47) (by kernel_rfl)) ?_
    refine wpQuiet_nil ?_
    intro w49 C52
    obtain ⟨S50, K51⟩ := S18.still C52
    refine then_n ?_
    by_cases q53 : ¬ (t47 = true)
    · replace M := ifp q53 M
      refine cond_t rfl (bt q53 (by kernel_rfl)) ?_
      refine wp_seq ?_
      refine wp_region_lit ?_
      refine lv (d := 4) rfl rfl (by kernel_rfl) (e_assign (v := .bool false) rfl) ?_
      refine wpList_nil ?_
      refine then_n ?_
      refine wp_ret ?_
      refine inb_r ?_
      refine then_r ?_
      refine then_r ?_
      refine inb_r ?_
      refine then_r ?_
      obtain rfl := Option.some.inj M
      exact ret1 rfl rfl  (show _ = .bool false from (by kernel_rfl)) ⟨rfl, S50.chg⟩
    replace M := ifn q53 M
    refine cond_f rfl (bf q53 (by kernel_rfl)) ?_
    refine wp_skip ?_
    refine inb_n ?_
    refine then_n ?_
    refine wp_region_lit ?_
    refine lv (d := 15) rfl rfl (by kernel_rfl) (e_move (v := .int .i64 x14) (by exact e17)) ?_
    refine lv (d := 16) rfl rfl (by kernel_rfl) (e_add (k := .i64) (a := x14) (b := 1) (by kernel_rfl) rfl) ?_
    refine lv (d := 5) rfl rfl (by kernel_rfl) (e_assign (v := .int .i64 (IntKind.i64.wrap (x14 + 1))) (by kernel_rfl)) ?_
    refine wpList_nil ?_
    refine then_n ?_
    exact ⟨k23, (by omega), _, (IntKind.i64.wrap (x14 + 1)), rfl, (by exact e15), (by exact e16), (by kernel_rfl), S50, M⟩
  replace M := ifn q24 M
  refine cond_f rfl (bf q24 (by kernel_rfl)) ?_
  refine wp_exit ?_
  refine then_e ?_
  refine then_e ?_
  refine inb_hit ?_
  refine then_n ?_
  refine wp_seq ?_
  refine wp_region_lit ?_
  refine lv (d := 4) rfl rfl (by kernel_rfl) (e_assign (v := .bool true) rfl) ?_
  refine wpList_nil ?_
  refine then_n ?_
  refine wp_ret ?_
  obtain rfl := Option.some.inj M
  exact ret1 rfl rfl  (show _ = .bool true from (by kernel_rfl)) ⟨rfl, S18.chg⟩

/-! laws_markByteS -/
def laws_markByteS_2.l0 : Nat → (List UInt8) → Int → Int → (List UInt8) → Option (Int × (List UInt8))
  | 0, _, _, _, _ => none
  | k22 + 1, x1, x9, x10, x12 => (if x10 < (x1.length : Int) then (if 0 ≤ x10 then (laws_markByteS_2.l0 k22 x1 (IntKind.i64.wrap (x9 + 1)) (IntKind.i64.wrap (x10 + 1)) (x12.set ((x10).toNat) (b8 (x9)))) else none) else some (x9, x12))
def laws_markByteS_2.f (k : Nat) (x1 : List UInt8) (x6 : Int) : Option (Int × (List UInt8)) := (laws_markByteS_2.l0 k x1 x6 0 x1)
theorem laws_markByteS_2.calls (k : Nat) (w : World) (H : Hp) (x1 : List UInt8) (A2 : Option Addr) (c3 : Nat) (F5 : Foot) (x6 : Int) (h4 : Row tByte 5 H (hp w) F5 A2 c3 x1) (S : Own [F5] H w) (r : Int × (List UInt8)) (M : laws_markByteS_2.f k x1 x6 = some r) :
    Calls Try.prog 20 #[.slice A2 x1.length c3, .int .i64 x6] w (fun e e_w => ∃ (F_1 : Foot) (H_ : Hp), e = .returned (.int .i64 r.1) ∧ r.2.length = x1.length ∧ Row tByte 5 H_ (hp e_w) F_1 A2 c3 r.2 ∧ St (anyOf [F5]) H w [F_1] H_ e_w) := by
  rw [laws_markByteS_2.f] at M
  refine enter (l := [.slice A2 x1.length c3, .int .i64 x6]) 20 Try.func20 rfl rfl rfl ?_
  have S0_ := S.st
  refine wp_seq ?_
  refine wp_region_lit ?_
  refine lv (d := 4) rfl rfl (by kernel_rfl) (e_assign (v := .int .i64 0) rfl) ?_
  refine wpList_nil ?_
  refine then_n ?_
  refine wp_seq ?_
  refine wp_seq ?_
  refine wp_region_lit ?_
  refine lv (d := 5) rfl rfl (by kernel_rfl) (e_assign (v := .int .i64 0) rfl) ?_
  refine wpList_nil ?_
  refine then_n ?_
  refine wp_block ?_
  refine wp_loop_g (fun k20 a21 w7 => ∃ (f8 : Nat → Value) (x9 : Int) (x10 : Int) (F11 : Foot) (x12 : List UInt8), a21 = mk 20 f8 ∧ f8 0 = .slice A2 x1.length c3 ∧ f8 1 = .int .i64 x9 ∧ f8 5 = .int .i64 x10 ∧ Row tByte 5 H (hp w7) F11 A2 c3 x12 ∧ x12.length = x1.length ∧ St (anyOf [F5]) H w [F11] H w7 ∧ laws_markByteS_2.l0 k20 x1 x9 x10 x12 = some r) k ⟨_, x6, 0, F5, x1, rfl, (by kernel_rfl), (by kernel_rfl), (by kernel_rfl), h4, rfl, S0_, M⟩ ?_
  clear M
  rintro k20 a21 w7 ⟨f8, x9, x10, F11, x12, rfl, e14, e15, e16, h4, n13, S17, M⟩
  rcases k20 with _ | k22
  · rw [laws_markByteS_2.l0] at M
    cases M
  rw [laws_markByteS_2.l0] at M
  refine wp_seq ?_
  refine wp_seq ?_
  refine wp_region_lit ?_
  refine lv (d := 6) rfl rfl (by kernel_rfl) (e_move (v := .int .i64 x10) (by exact e16)) ?_
  refine lv (d := 7) rfl rfl (by kernel_rfl) (e_move (v := .slice A2 x1.length c3) (by exact e14)) ?_
  refine lv (d := 8) rfl rfl (by kernel_rfl) (e_len (A := A2) (n := x1.length) (c := c3) Try.underlying32 (by kernel_rfl)) ?_
  refine lv (d := 9) rfl rfl (by kernel_rfl) (e_lss (k := .i64) (a := x10) (b := (x1.length : Int)) (by kernel_rfl) (by kernel_rfl)) ?_
  refine wpList_nil ?_
  refine then_n ?_
  by_cases q23 : x10 < (x1.length : Int)
  · replace M := ifp q23 M
    refine cond_t rfl (bt q23 (by kernel_rfl)) ?_
    refine wp_skip ?_
    refine then_n ?_
    refine wp_seq ?_
    refine wp_block ?_
    refine wp_seq ?_
    refine wp_region_lit ?_
    refine lv (d := 12) rfl rfl (by kernel_rfl) (e_move (v := .slice A2 x1.length c3) (by exact e14)) ?_
    refine lv (d := 13) rfl rfl (by kernel_rfl) (e_move (v := .int .i64 x10) (by exact e16)) ?_
    refine lv (d := 14) rfl rfl (by kernel_rfl) (e_move (v := .int .i64 x9) (by exact e15)) ?_
    refine lv (d := 15) rfl rfl (by kernel_rfl) (e_conv_i8 (k := .i64) (a := x9) (by kernel_rfl) Try.underlying5 (by kernel_rfl)) ?_
    obtain ⟨q24, M⟩ := chk M
    obtain ⟨b25, e27⟩ := Row.addr h4 (show (x10).toNat < x12.length by have : x12.length = x1.length := n13; omega)
    refine lv (d := 16) rfl rfl (by kernel_rfl) (e_indexAddr (b := b25) (off := 0) (n := x1.length) (c := c3) (sz := 1) (i := x10) (k := .i64) Try.underlying32 e27 (by kernel_rfl) (by kernel_rfl) (by kernel_rfl) q24 q23) ?_
    have S28 := S17.unit
    have S29 := S28.pull (F := F11) (Fr := [no]) 1 rfl rfl
    refine lse rfl rfl (by kernel_rfl) (e_setel (d := tByte) (b := b25) (i := (x10).toNat) (v := .int .u8 ((b8 (x9)).toNat : Int)) (vs := [.int .u8 ((b8 (x9)).toNat : Int)]) (yv := (b8 (x9))) S29 (by kernel_rfl) e27 (by kernel_rfl) rfl (by kernel_rfl) h4 (show (x10).toNat < x12.length by have : x12.length = x1.length := n13; omega) rfl) ?_
    rintro w30 ⟨F32, h31, S33, K34⟩
    clear h4
    refine wpList_nil ?_
    refine then_n ?_
    refine wp_region_lit ?_
    refine lv (d := 17) rfl rfl (by kernel_rfl) (e_move (v := .int .i64 x9) (by exact e15)) ?_
    refine lv (d := 18) rfl rfl (by kernel_rfl) (e_add (k := .i64) (a := x9) (b := 1) (by kernel_rfl) rfl) ?_
    refine lv (d := 1) rfl rfl (by kernel_rfl) (e_assign (v := .int .i64 (IntKind.i64.wrap (x9 + 1))) (by kernel_rfl)) ?_
    refine wpList_nil ?_
    refine inb_n ?_
    refine then_n ?_
    refine wp_region_lit ?_
    refine lv (d := 10) rfl rfl (by kernel_rfl) (e_move (v := .int .i64 x10) (by exact e16)) ?_
    refine lv (d := 11) rfl rfl (by kernel_rfl) (e_add (k := .i64) (a := x10) (b := 1) (by kernel_rfl) rfl) ?_
    refine lv (d := 5) rfl rfl (by kernel_rfl) (e_assign (v := .int .i64 (IntKind.i64.wrap (x10 + 1))) (by kernel_rfl)) ?_
    refine wpList_nil ?_
    refine then_n ?_
    exact ⟨k22, (by omega), _, (IntKind.i64.wrap (x9 + 1)), (IntKind.i64.wrap (x10 + 1)), F32, (x12.set ((x10).toNat) (b8 (x9))), rfl, (by exact e14), (by kernel_rfl), (by kernel_rfl), h31, (List.length_set.trans n13), S33, M⟩
  replace M := ifn q23 M
  refine cond_f rfl (bf q23 (by kernel_rfl)) ?_
  refine wp_exit ?_
  refine then_e ?_
  refine then_e ?_
  refine inb_hit ?_
  refine then_n ?_
  refine wp_seq ?_
  refine wp_region_lit ?_
  refine lv (d := 19) rfl rfl (by kernel_rfl) (e_move (v := .int .i64 x9) (by exact e15)) ?_
  refine lv (d := 4) rfl rfl (by kernel_rfl) (e_assign (v := .int .i64 x9) (by kernel_rfl)) ?_
  refine wpList_nil ?_
  refine then_n ?_
  refine wp_ret ?_
  obtain rfl := Option.some.inj M
  exact ret1 rfl rfl  (show _ = .int .i64 x9 from (by kernel_rfl)) ⟨F11, H, rfl, n13, h4, S17⟩

/-! laws_markOpS -/
def laws_markOpS_2.l0 : Nat → (List Sy.Op) → Int → Int → (List Sy.Op) → Option (Int × (List Sy.Op))
  | 0, _, _, _, _ => none
  | k24 + 1, x1, x11, x12, x14 => (if x12 < (x1.length : Int) then (if 0 ≤ x12 then ((laws_markByteS_2.f k24 ((x14.getD ((x12).toNat) z45).name) x11).bind fun t51 => (laws_markOpS_2.l0 k24 x1 (IntKind.i64.wrap ((IntKind.i64.wrap (t51.1 + 1)) + 1)) (IntKind.i64.wrap (x12 + 1)) (((x14.set ((x12).toNat) ({(x14.getD ((x12).toNat) z45) with name := t51.2})).set ((x12).toNat) ({((x14.set ((x12).toNat) ({(x14.getD ((x12).toNat) z45) with name := t51.2})).getD ((x12).toNat) z45) with pri := t51.1})).set ((x12).toNat) ({(((x14.set ((x12).toNat) ({(x14.getD ((x12).toNat) z45) with name := t51.2})).set ((x12).toNat) ({((x14.set ((x12).toNat) ({(x14.getD ((x12).toNat) z45) with name := t51.2})).getD ((x12).toNat) z45) with pri := t51.1})).getD ((x12).toNat) z45) with typ := (IntKind.i64.wrap (t51.1 + 1))})))) else none) else some (x11, x14))
def laws_markOpS_2.f (k : Nat) (x1 : List Sy.Op) (x6 : Int) : Option (Int × (List Sy.Op)) := (laws_markOpS_2.l0 k x1 x6 0 x1)
theorem laws_markOpS_2.calls (k : Nat) (w : World) (H : Hp) (x1 : List Sy.Op) (A2 : Option Addr) (c3 : Nat) (F5 : Foot) (x6 : Int) (h4 : Row st45 45 H (hp w) F5 A2 c3 x1) (S : Own [F5] H w) (r : Int × (List Sy.Op)) (M : laws_markOpS_2.f k x1 x6 = some r) :
    Calls Try.prog 14 #[.slice A2 x1.length c3, .int .i64 x6] w (fun e e_w => ∃ (F_1 : Foot) (H_ : Hp), e = .returned (.int .i64 r.1) ∧ r.2.length = x1.length ∧ Row st45 45 H_ (hp e_w) F_1 A2 c3 r.2 ∧ St (anyOf [F5]) H w [F_1] H_ e_w) := by
  rw [laws_markOpS_2.f] at M
  refine enter (l := [.slice A2 x1.length c3, .int .i64 x6]) 34 Try.func14 rfl rfl rfl ?_
  have S0_ := S.st
  refine wp_seq ?_
  refine wp_region_lit ?_
  refine lv (d := 4) rfl rfl (by kernel_rfl) (e_assign (v := .int .i64 0) rfl) ?_
  refine wpList_nil ?_
  refine then_n ?_
  refine wp_seq ?_
  refine wp_seq ?_
  refine wp_region_lit ?_
  refine lv (d := 5) rfl rfl (by kernel_rfl) (e_assign (v := .int .i64 0) rfl) ?_
  refine wpList_nil ?_
  refine then_n ?_
  refine wp_block ?_
  refine wp_loop_g (fun k22 a23 w7 => ∃ (f8 : Nat → Value) (H9 : Hp) (x11 : Int) (x12 : Int) (F13 : Foot) (x14 : List Sy.Op), a23 = mk 34 f8 ∧ f8 0 = .slice A2 x1.length c3 ∧ f8 1 = .int .i64 x11 ∧ f8 5 = .int .i64 x12 ∧ Row st45 45 H9 (hp w7) F13 A2 c3 x14 ∧ x14.length = x1.length ∧ Ext H H9 ∧ St (anyOf [F5]) H w [F13] H9 w7 ∧ laws_markOpS_2.l0 k22 x1 x11 x12 x14 = some r) k ⟨_, H, x6, 0, F5, x1, rfl, (by kernel_rfl), (by kernel_rfl), (by kernel_rfl), h4, rfl, (Ext.refl _), S0_, M⟩ ?_
  clear M
  rintro k22 a23 w7 ⟨f8, H9, x11, x12, F13, x14, rfl, e16, e17, e18, h4, n15, Y10, S19, M⟩
  rcases k22 with _ | k24
  · rw [laws_markOpS_2.l0] at M
    cases M
  rw [laws_markOpS_2.l0] at M
  refine wp_seq ?_
  refine wp_seq ?_
  refine wp_region_lit ?_
  refine lv (d := 6) rfl rfl (by kernel_rfl) (e_move (v := .int .i64 x12) (by exact e18)) ?_
  refine lv (d := 7) rfl rfl (by kernel_rfl) (e_move (v := .slice A2 x1.length c3) (by exact e16)) ?_
  refine lv (d := 8) rfl rfl (by kernel_rfl) (e_len (A := A2) (n := x1.length) (c := c3) Try.underlying25 (by kernel_rfl)) ?_
  refine lv (d := 9) rfl rfl (by kernel_rfl) (e_lss (k := .i64) (a := x12) (b := (x1.length : Int)) (by kernel_rfl) (by kernel_rfl)) ?_
  refine wpList_nil ?_
  refine then_n ?_
  by_cases q25 : x12 < (x1.length : Int)
  · replace M := ifp q25 M
    refine cond_t rfl (bt q25 (by kernel_rfl)) ?_
    refine wp_skip ?_
    refine then_n ?_
    refine wp_seq ?_
    refine wp_block ?_
    refine wp_seq ?_
    refine wp_region_lit ?_
    refine lv (d := 12) rfl rfl (by kernel_rfl) (e_move (v := .slice A2 x1.length c3) (by exact e16)) ?_
    refine lv (d := 13) rfl rfl (by kernel_rfl) (e_move (v := .int .i64 x12) (by exact e18)) ?_
    obtain ⟨q26, M⟩ := chk M
    obtain ⟨b27, e29⟩ := Row.addr h4 (show (x12).toNat < x14.length by have : x14.length = x1.length := n15; omega)
    refine lv (d := 14) rfl rfl (by kernel_rfl) (e_indexAddr (b := b27) (off := 0) (n := x1.length) (c := c3) (sz := 3) (i := x12) (k := .i64) Try.underlying25 e29 (by kernel_rfl) (by kernel_rfl) (by kernel_rfl) q26 q25) ?_
    refine lv (d := 15) rfl rfl (by kernel_rfl) (e_fieldAddr (b := b27) (off := 0 + (x12 : Int).toNat * 3) (o := 0) Try.underlying45 rfl rfl (sz := 1) (by kernel_rfl) (by decide) (by kernel_rfl)) ?_
    obtain ⟨y35, F36, G37, r38, d39, s40, k41, t42⟩ := Row.lend h4 e29 (getD_some z45 (show (x12).toNat < x14.length by have : x14.length = x1.length := n15; omega))
    obtain ⟨A43, c44, F47, rfl, h45, s46⟩ := st45_openO r38
    refine lv (d := 16) rfl rfl (by kernel_rfl) (e_load1 (ad := ⟨b27, 0 + (x12 : Int).toNat * 3 + 0, none⟩) (v := .slice A43 ((x14.getD ((x12).toNat) z45).name).length c44) Try.underlying32 rfl (by kernel_rfl) (hpx (k41 0 _ rfl))) ?_
    refine lv (d := 17) rfl rfl (by kernel_rfl) (e_move (v := .int .i64 x11) (by exact e17)) ?_
    have S48 := S19.part d39 s40
    have S49 := S48.sub s46
    have q50 : ∀ b_, G37 b_ → hp w7 b_ = hp w7 b_ := fun _ _ => rfl
    obtain ⟨t51, u52, M⟩ := bnd M
    refine lcall (d := 18) rfl rfl (by kernel_rfl) (e_call (l := [.tmp 16, .tmp 17]) (vs := [.slice A43 ((x14.getD ((x12).toNat) z45).name).length c44, .int .i64 x11]) Try.func20 (by kernel_rfl) rfl (by kernel_rfl) rfl) (laws_markByteS_2.calls k24 w7 H9 ((x14.getD ((x12).toNat) z45).name) A43 c44 F47 x11 h45 (St.own' (Fa := [F47]) (Fr := [G37]) S49) t51 u52) ?_
    rintro _ w53 ⟨F57, H54, rfl, n58, h56, T55⟩
    refine ⟨_, rfl, ?_⟩
    obtain ⟨S59, K60⟩ := St.call (Fa := [F47]) (Fr := [G37]) S49 T55
    replace q50 := fun b_ h_ => (K60.at 0 rfl b_ h_).trans (q50 b_ h_)
    have E61 := T55.ext
    have S62 := S59.pull (F := G37) (Fr := [F57]) 1 rfl rfl
    have S63 := S62.pull (F := F57) (Fr := [G37]) 1 rfl rfl
    have h64 := t42 H54 (hp w53) F57 ({(x14.getD ((x12).toNat) z45) with name := t51.2} : Sy.Op) E61 q50 (by have q_ := st45_mkO (x := {(x14.getD ((x12).toNat) z45) with name := t51.2}) h56; rw [show t51.2.length = ((x14.getD ((x12).toNat) z45).name).length from n58] at q_; exact q_) S63.dj
    have S65 := S63.join
    refine lv (d := 1) rfl rfl (by kernel_rfl) (e_assign (v := .int .i64 t51.1) (by kernel_rfl)) ?_
    refine wpList_nil ?_
    refine then_n ?_
    refine wp_seq ?_
    refine wp_region_lit ?_
    refine lv (d := 19) rfl rfl (by kernel_rfl) (e_move (v := .slice A2 x1.length c3) (by exact e16)) ?_
    refine lv (d := 20) rfl rfl (by kernel_rfl) (e_move (v := .int .i64 x12) (by exact e18)) ?_
    refine lv (d := 21) rfl rfl (by kernel_rfl) (e_move (v := .int .i64 t51.1) (by kernel_rfl)) ?_
    obtain ⟨b66, e68⟩ := Row.addr h64 (show (x12).toNat < (x14.set ((x12).toNat) ({(x14.getD ((x12).toNat) z45) with name := t51.2})).length by have : (x14.set ((x12).toNat) ({(x14.getD ((x12).toNat) z45) with name := t51.2})).length = x1.length := (List.length_set.trans n15); omega)
    refine lv (d := 22) rfl rfl (by kernel_rfl) (e_indexAddr (b := b66) (off := 0) (n := x1.length) (c := c3) (sz := 3) (i := x12) (k := .i64) Try.underlying25 e68 (by kernel_rfl) (by kernel_rfl) (by kernel_rfl) q26 q25) ?_
    refine lv (d := 23) rfl rfl (by kernel_rfl) (e_fieldAddr (b := b66) (off := 0 + (x12 : Int).toNat * 3) (o := 1) Try.underlying45 rfl rfl (sz := 1) (by kernel_rfl) (by decide) (by kernel_rfl)) ?_
    have S69 := S65.unit
    have S70 := S69.pull (F := (or2 F57 G37)) (Fr := [no]) 1 rfl rfl
    refine lse rfl rfl (by kernel_rfl) (e_setpart (d := st45) (b := b66) (i := (x12).toNat) (j := 1) (v := .int .i64 t51.1) (vs := [.int .i64 t51.1]) (yv := {((x14.set ((x12).toNat) ({(x14.getD ((x12).toNat) z45) with name := t51.2})).getD ((x12).toNat) z45) with pri := t51.1}) S70 (by kernel_rfl) e68 (by kernel_rfl) rfl (by kernel_rfl) h64 (getD_some z45 (show (x12).toNat < (x14.set ((x12).toNat) ({(x14.getD ((x12).toNat) z45) with name := t51.2})).length by have : (x14.set ((x12).toNat) ({(x14.getD ((x12).toNat) z45) with name := t51.2})).length = x1.length := (List.length_set.trans n15); omega)) (Nat.le_of_ble_eq_true rfl) (List.forall_mem_cons.2 ⟨rfl, (fun _ h_ => by cases h_)⟩) (fun _ _ _ o_ => st45_u1 t51.1 o_)) ?_
    rintro w71 ⟨F73, h72, S74, K75⟩
    clear h64
    refine wpList_nil ?_
    refine then_n ?_
    refine wp_seq ?_
    refine wp_region_lit ?_
    refine lv (d := 24) rfl rfl (by kernel_rfl) (e_move (v := .int .i64 t51.1) (by kernel_rfl)) ?_
    refine lv (d := 25) rfl rfl (by kernel_rfl) (e_add (k := .i64) (a := t51.1) (b := 1) (by kernel_rfl) rfl) ?_
    refine lv (d := 1) rfl rfl (by kernel_rfl) (e_assign (v := .int .i64 (IntKind.i64.wrap (t51.1 + 1))) (by kernel_rfl)) ?_
    refine wpList_nil ?_
    refine then_n ?_
    refine wp_seq ?_
    refine wp_region_lit ?_
    refine lv (d := 26) rfl rfl (by kernel_rfl) (e_move (v := .slice A2 x1.length c3) (by exact e16)) ?_
    refine lv (d := 27) rfl rfl (by kernel_rfl) (e_move (v := .int .i64 x12) (by exact e18)) ?_
    refine lv (d := 28) rfl rfl (by kernel_rfl) (e_move (v := .int .i64 (IntKind.i64.wrap (t51.1 + 1))) (by kernel_rfl)) ?_
    obtain ⟨b76, e78⟩ := Row.addr h72 (show (x12).toNat < ((x14.set ((x12).toNat) ({(x14.getD ((x12).toNat) z45) with name := t51.2})).set ((x12).toNat) ({((x14.set ((x12).toNat) ({(x14.getD ((x12).toNat) z45) with name := t51.2})).getD ((x12).toNat) z45) with pri := t51.1})).length by have : ((x14.set ((x12).toNat) ({(x14.getD ((x12).toNat) z45) with name := t51.2})).set ((x12).toNat) ({((x14.set ((x12).toNat) ({(x14.getD ((x12).toNat) z45) with name := t51.2})).getD ((x12).toNat) z45) with pri := t51.1})).length = x1.length := (List.length_set.trans (List.length_set.trans n15)); omega)
    refine lv (d := 29) rfl rfl (by kernel_rfl) (e_indexAddr (b := b76) (off := 0) (n := x1.length) (c := c3) (sz := 3) (i := x12) (k := .i64) Try.underlying25 e78 (by kernel_rfl) (by kernel_rfl) (by kernel_rfl) q26 q25) ?_
    refine lv (d := 30) rfl rfl (by kernel_rfl) (e_fieldAddr (b := b76) (off := 0 + (x12 : Int).toNat * 3) (o := 2) Try.underlying45 rfl rfl (sz := 1) (by kernel_rfl) (by decide) (by kernel_rfl)) ?_
    have S79 := S74.unit
    have S80 := S79.pull (F := F73) (Fr := [no]) 1 rfl rfl
    refine lse rfl rfl (by kernel_rfl) (e_setpart (d := st45) (b := b76) (i := (x12).toNat) (j := 2) (v := .int .i64 (IntKind.i64.wrap (t51.1 + 1))) (vs := [.int .i64 (IntKind.i64.wrap (t51.1 + 1))]) (yv := {(((x14.set ((x12).toNat) ({(x14.getD ((x12).toNat) z45) with name := t51.2})).set ((x12).toNat) ({((x14.set ((x12).toNat) ({(x14.getD ((x12).toNat) z45) with name := t51.2})).getD ((x12).toNat) z45) with pri := t51.1})).getD ((x12).toNat) z45) with typ := (IntKind.i64.wrap (t51.1 + 1))}) S80 (by kernel_rfl) e78 (by kernel_rfl) rfl (by kernel_rfl) h72 (getD_some z45 (show (x12).toNat < ((x14.set ((x12).toNat) ({(x14.getD ((x12).toNat) z45) with name := t51.2})).set ((x12).toNat) ({((x14.set ((x12).toNat) ({(x14.getD ((x12).toNat) z45) with name := t51.2})).getD ((x12).toNat) z45) with pri := t51.1})).length by have : ((x14.set ((x12).toNat) ({(x14.getD ((x12).toNat) z45) with name := t51.2})).set ((x12).toNat) ({((x14.set ((x12).toNat) ({(x14.getD ((x12).toNat) z45) with name := t51.2})).getD ((x12).toNat) z45) with pri := t51.1})).length = x1.length := (List.length_set.trans (List.length_set.trans n15)); omega)) (Nat.le_of_ble_eq_true rfl) (List.forall_mem_cons.2 ⟨rfl, (fun _ h_ => by cases h_)⟩) (fun _ _ _ o_ => st45_u2 (IntKind.i64.wrap (t51.1 + 1)) o_)) ?_
    rintro w81 ⟨F83, h82, S84, K85⟩
    clear h72
    refine wpList_nil ?_
    refine then_n ?_
    refine wp_region_lit ?_
    refine lv (d := 31) rfl rfl (by kernel_rfl) (e_move (v := .int .i64 (IntKind.i64.wrap (t51.1 + 1))) (by kernel_rfl)) ?_
    refine lv (d := 32) rfl rfl (by kernel_rfl) (e_add (k := .i64) (a := (IntKind.i64.wrap (t51.1 + 1))) (b := 1) (by kernel_rfl) rfl) ?_
    refine lv (d := 1) rfl rfl (by kernel_rfl) (e_assign (v := .int .i64 (IntKind.i64.wrap ((IntKind.i64.wrap (t51.1 + 1)) + 1))) (by kernel_rfl)) ?_
    refine wpList_nil ?_
    refine inb_n ?_
    refine then_n ?_
    refine wp_region_lit ?_
    refine lv (d := 10) rfl rfl (by kernel_rfl) (e_move (v := .int .i64 x12) (by exact e18)) ?_
    refine lv (d := 11) rfl rfl (by kernel_rfl) (e_add (k := .i64) (a := x12) (b := 1) (by kernel_rfl) rfl) ?_
    refine lv (d := 5) rfl rfl (by kernel_rfl) (e_assign (v := .int .i64 (IntKind.i64.wrap (x12 + 1))) (by kernel_rfl)) ?_
    refine wpList_nil ?_
    refine then_n ?_
    exact ⟨k24, (by omega), _, H54, (IntKind.i64.wrap ((IntKind.i64.wrap (t51.1 + 1)) + 1)), (IntKind.i64.wrap (x12 + 1)), F83, (((x14.set ((x12).toNat) ({(x14.getD ((x12).toNat) z45) with name := t51.2})).set ((x12).toNat) ({((x14.set ((x12).toNat) ({(x14.getD ((x12).toNat) z45) with name := t51.2})).getD ((x12).toNat) z45) with pri := t51.1})).set ((x12).toNat) ({(((x14.set ((x12).toNat) ({(x14.getD ((x12).toNat) z45) with name := t51.2})).set ((x12).toNat) ({((x14.set ((x12).toNat) ({(x14.getD ((x12).toNat) z45) with name := t51.2})).getD ((x12).toNat) z45) with pri := t51.1})).getD ((x12).toNat) z45) with typ := (IntKind.i64.wrap (t51.1 + 1))})), rfl, (by exact e16), (by kernel_rfl), (by kernel_rfl), h82, (List.length_set.trans (List.length_set.trans (List.length_set.trans n15))), (Y10.trans E61), S84, M⟩
  replace M := ifn q25 M
  refine cond_f rfl (bf q25 (by kernel_rfl)) ?_
  refine wp_exit ?_
  refine then_e ?_
  refine then_e ?_
  refine inb_hit ?_
  refine then_n ?_
  refine wp_seq ?_
  refine wp_region_lit ?_
  refine lv (d := 33) rfl rfl (by kernel_rfl) (e_move (v := .int .i64 x11) (by exact e17)) ?_
  refine lv (d := 4) rfl rfl (by kernel_rfl) (e_assign (v := .int .i64 x11) (by kernel_rfl)) ?_
  refine wpList_nil ?_
  refine then_n ?_
  refine wp_ret ?_
  obtain rfl := Option.some.inj M
  exact ret1 rfl rfl  (show _ = .int .i64 x11 from (by kernel_rfl)) ⟨F13, H9, rfl, n15, h4, S19⟩

/-! laws_heldByteS -/
def laws_heldByteS.l0 : Nat → (List UInt8) → Int → Int → Option Int
  | 0, _, _, _ => none
  | k19 + 1, x1, x9, x10 => (if x10 < (x1.length : Int) then (if 0 ≤ x10 then (if ((x1.getD ((x10).toNat) (0 : UInt8)).toNat : Int) ≠ ((b8 (x9)).toNat : Int) then some (-1) else (laws_heldByteS.l0 k19 x1 (IntKind.i64.wrap (x9 + 1)) (IntKind.i64.wrap (x10 + 1)))) else none) else some x9)
def laws_heldByteS.f (k : Nat) (x1 : List UInt8) (x6 : Int) : Option Int := (laws_heldByteS.l0 k x1 x6 0)
theorem laws_heldByteS.calls (k : Nat) (w : World) (H : Hp) (x1 : List UInt8) (A2 : Option Addr) (c3 : Nat) (x6 : Int) (h4 : Rd tByte H A2 x1) (l5 : x1.length ≤ c3) (S : Own [] H w) (r : Int) (M : laws_heldByteS.f k x1 x6 = some r) :
    Calls Try.prog 33 #[.slice A2 x1.length c3, .int .i64 x6] w (fun e e_w => e = .returned (.int .i64 r) ∧ Chg no w e_w) := by
  rw [laws_heldByteS.f] at M
  refine enter (l := [.slice A2 x1.length c3, .int .i64 x6]) 22 Try.func33 rfl rfl rfl ?_
  have S0_ := S.st
  refine wp_seq ?_
  refine wp_region_lit ?_
  refine lv (d := 4) rfl rfl (by kernel_rfl) (e_assign (v := .int .i64 0) rfl) ?_
  refine wpList_nil ?_
  refine then_n ?_
  refine wp_seq ?_
  refine wp_seq ?_
  refine wp_region_lit ?_
  refine lv (d := 5) rfl rfl (by kernel_rfl) (e_assign (v := .int .i64 0) rfl) ?_
  refine wpList_nil ?_
  refine then_n ?_
  refine wp_block ?_
  refine wp_loop_g (fun k17 a18 w7 => ∃ (f8 : Nat → Value) (x9 : Int) (x10 : Int), a18 = mk 22 f8 ∧ f8 0 = .slice A2 x1.length c3 ∧ f8 1 = .int .i64 x9 ∧ f8 5 = .int .i64 x10 ∧ St (anyOf []) H w [] H w7 ∧ laws_heldByteS.l0 k17 x1 x9 x10 = some r) k ⟨_, x6, 0, rfl, (by kernel_rfl), (by kernel_rfl), (by kernel_rfl), S0_, M⟩ ?_
  clear M
  rintro k17 a18 w7 ⟨f8, x9, x10, rfl, e11, e12, e13, S14, M⟩
  rcases k17 with _ | k19
  · rw [laws_heldByteS.l0] at M
    cases M
  rw [laws_heldByteS.l0] at M
  refine wp_seq ?_
  refine wp_seq ?_
  refine wp_region_lit ?_
  refine lv (d := 6) rfl rfl (by kernel_rfl) (e_move (v := .int .i64 x10) (by exact e13)) ?_
  refine lv (d := 7) rfl rfl (by kernel_rfl) (e_move (v := .slice A2 x1.length c3) (by exact e11)) ?_
  refine lv (d := 8) rfl rfl (by kernel_rfl) (e_len (A := A2) (n := x1.length) (c := c3) Try.underlying32 (by kernel_rfl)) ?_
  refine lv (d := 9) rfl rfl (by kernel_rfl) (e_lss (k := .i64) (a := x10) (b := (x1.length : Int)) (by kernel_rfl) (by kernel_rfl)) ?_
  refine wpList_nil ?_
  refine then_n ?_
  by_cases q20 : x10 < (x1.length : Int)
  · replace M := ifp q20 M
    refine cond_t rfl (bt q20 (by kernel_rfl)) ?_
    refine wp_skip ?_
    refine then_n ?_
    refine wp_seq ?_
    refine wp_block ?_
    refine wp_seq ?_
    refine wp_seq ?_
    refine wp_region_lit ?_
    refine lv (d := 12) rfl rfl (by kernel_rfl) (e_move (v := .slice A2 x1.length c3) (by exact e11)) ?_
    refine lv (d := 13) rfl rfl (by kernel_rfl) (e_move (v := .int .i64 x10) (by exact e13)) ?_
    obtain ⟨q21, M⟩ := chk M
    obtain ⟨b22, o23, e24⟩ := Rd.addr h4 (show (x10).toNat < x1.length by omega)
    obtain ⟨y25, r26, k27⟩ := Rd.at h4 e24 (getD_some (0 : UInt8) (show (x10).toNat < x1.length by omega))
    obtain rfl := r26
    refine lv (d := 14) rfl rfl (by kernel_rfl) (e_indexAddr (b := b22) (off := o23) (n := x1.length) (c := c3) (sz := 1) (i := x10) (k := .i64) Try.underlying32 e24 (by kernel_rfl) (by kernel_rfl) (by kernel_rfl) q21 q20) ?_
    refine lv (d := 15) rfl rfl (by kernel_rfl) (e_load1 (ad := ⟨b22, o23 + (x10 : Int).toNat * 1, none⟩) (v := .int .u8 ((x1.getD ((x10).toNat) (0 : UInt8)).toNat : Int)) Try.underlying5 rfl (by kernel_rfl) (hpx (S14.inv.cell (k27 0 _ rfl)))) ?_
    refine lv (d := 16) rfl rfl (by kernel_rfl) (e_move (v := .int .i64 x9) (by exact e12)) ?_
    refine lv (d := 17) rfl rfl (by kernel_rfl) (e_conv_i8 (k := .i64) (a := x9) (by kernel_rfl) Try.underlying5 (by kernel_rfl)) ?_
    refine lv (d := 18) rfl rfl (by kernel_rfl) (e_neq (k := .u8) (a := ((x1.getD ((x10).toNat) (0 : UInt8)).toNat : Int)) (b := ((b8 (x9)).toNat : Int)) (by kernel_rfl) (by kernel_rfl)) ?_
    refine wpList_nil ?_
    refine then_n ?_
    by_cases q28 : ((x1.getD ((x10).toNat) (0 : UInt8)).toNat : Int) ≠ ((b8 (x9)).toNat : Int)
    · replace M := ifp q28 M
      refine cond_t rfl (bt q28 (by kernel_rfl)) ?_
      refine wp_seq ?_
      refine wp_region_lit ?_
      refine lv (d := 4) rfl rfl (by kernel_rfl) (e_assign (v := .int .i64 (-1)) rfl) ?_
      refine wpList_nil ?_
      refine then_n ?_
      refine wp_ret ?_
      refine then_r ?_
      refine inb_r ?_
      refine then_r ?_
      refine then_r ?_
      refine inb_r ?_
      refine then_r ?_
      obtain rfl := Option.some.inj M
      exact ret1 rfl rfl  (show _ = .int .i64 (-1) from (by kernel_rfl)) ⟨rfl, S14.chg⟩
    replace M := ifn q28 M
    refine cond_f rfl (bf q28 (by kernel_rfl)) ?_
    refine wp_skip ?_
    refine then_n ?_
    refine wp_region_lit ?_
    refine lv (d := 19) rfl rfl (by kernel_rfl) (e_move (v := .int .i64 x9) (by exact e12)) ?_
    refine lv (d := 20) rfl rfl (by kernel_rfl) (e_add (k := .i64) (a := x9) (b := 1) (by kernel_rfl) rfl) ?_
    refine lv (d := 1) rfl rfl (by kernel_rfl) (e_assign (v := .int .i64 (IntKind.i64.wrap (x9 + 1))) (by kernel_rfl)) ?_
    refine wpList_nil ?_
    refine inb_n ?_
    refine then_n ?_
    refine wp_region_lit ?_
    refine lv (d := 10) rfl rfl (by kernel_rfl) (e_move (v := .int .i64 x10) (by exact e13)) ?_
    refine lv (d := 11) rfl rfl (by kernel_rfl) (e_add (k := .i64) (a := x10) (b := 1) (by kernel_rfl) rfl) ?_
    refine lv (d := 5) rfl rfl (by kernel_rfl) (e_assign (v := .int .i64 (IntKind.i64.wrap (x10 + 1))) (by kernel_rfl)) ?_
    refine wpList_nil ?_
    refine then_n ?_
    exact ⟨k19, (by omega), _, (IntKind.i64.wrap (x9 + 1)), (IntKind.i64.wrap (x10 + 1)), rfl, (by exact e11), (by kernel_rfl), (by kernel_rfl), S14, M⟩
  replace M := ifn q20 M
  refine cond_f rfl (bf q20 (by kernel_rfl)) ?_
  refine wp_exit ?_
  refine then_e ?_
  refine then_e ?_
  refine inb_hit ?_
  refine then_n ?_
  refine wp_seq ?_
  refine wp_region_lit ?_
  refine lv (d := 21) rfl rfl (by kernel_rfl) (e_move (v := .int .i64 x9) (by exact e12)) ?_
  refine lv (d := 4) rfl rfl (by kernel_rfl) (e_assign (v := .int .i64 x9) (by kernel_rfl)) ?_
  refine wpList_nil ?_
  refine then_n ?_
  refine wp_ret ?_
  obtain rfl := Option.some.inj M
  exact ret1 rfl rfl  (show _ = .int .i64 x9 from (by kernel_rfl)) ⟨rfl, S14.chg⟩

/-! laws_heldOpS -/
def laws_heldOpS.l0 : Nat → (List Sy.Op) → Int → Int → Option Int
  | 0, _, _, _ => none
  | k19 + 1, x1, x9, x10 => (if x10 < (x1.length : Int) then (if 0 ≤ x10 then ((laws_heldByteS.f k19 ((x1.getD ((x10).toNat) z45).name) x9).bind fun t32 => (if t32 < 0 then some (-1) else (if ((x1.getD ((x10).toNat) z45).pri) ≠ t32 then some (-1) else (if ((x1.getD ((x10).toNat) z45).typ) ≠ (IntKind.i64.wrap (t32 + 1)) then some (-1) else (laws_heldOpS.l0 k19 x1 (IntKind.i64.wrap ((IntKind.i64.wrap (t32 + 1)) + 1)) (IntKind.i64.wrap (x10 + 1))))))) else none) else some x9)
def laws_heldOpS.f (k : Nat) (x1 : List Sy.Op) (x6 : Int) : Option Int := (laws_heldOpS.l0 k x1 x6 0)
theorem laws_heldOpS.calls (k : Nat) (w : World) (H : Hp) (x1 : List Sy.Op) (A2 : Option Addr) (c3 : Nat) (x6 : Int) (h4 : Rd st45 H A2 x1) (l5 : x1.length ≤ c3) (S : Own [] H w) (r : Int) (M : laws_heldOpS.f k x1 x6 = some r) :
    Calls Try.prog 15 #[.slice A2 x1.length c3, .int .i64 x6] w (fun e e_w => e = .returned (.int .i64 r) ∧ Chg no w e_w) := by
  rw [laws_heldOpS.f] at M
  refine enter (l := [.slice A2 x1.length c3, .int .i64 x6]) 40 Try.func15 rfl rfl rfl ?_
  have S0_ := S.st
  refine wp_seq ?_
  refine wp_region_lit ?_
  refine lv (d := 4) rfl rfl (by kernel_rfl) (e_assign (v := .int .i64 0) rfl) ?_
  refine wpList_nil ?_
  refine then_n ?_
  refine wp_seq ?_
  refine wp_seq ?_
  refine wp_region_lit ?_
  refine lv (d := 5) rfl rfl (by kernel_rfl) (e_assign (v := .int .i64 0) rfl) ?_
  refine wpList_nil ?_
  refine then_n ?_
  refine wp_block ?_
  refine wp_loop_g (fun k17 a18 w7 => ∃ (f8 : Nat → Value) (x9 : Int) (x10 : Int), a18 = mk 40 f8 ∧ f8 0 = .slice A2 x1.length c3 ∧ f8 1 = .int .i64 x9 ∧ f8 5 = .int .i64 x10 ∧ St (anyOf []) H w [] H w7 ∧ laws_heldOpS.l0 k17 x1 x9 x10 = some r) k ⟨_, x6, 0, rfl, (by kernel_rfl), (by kernel_rfl), (by kernel_rfl), S0_, M⟩ ?_
  clear M
  rintro k17 a18 w7 ⟨f8, x9, x10, rfl, e11, e12, e13, S14, M⟩
  rcases k17 with _ | k19
  · rw [laws_heldOpS.l0] at M
    cases M
  rw [laws_heldOpS.l0] at M
  refine wp_seq ?_
  refine wp_seq ?_
  refine wp_region_lit ?_
  refine lv (d := 6) rfl rfl (by kernel_rfl) (e_move (v := .int .i64 x10) (by exact e13)) ?_
  refine lv (d := 7) rfl rfl (by kernel_rfl) (e_move (v := .slice A2 x1.length c3) (by exact e11)) ?_
  refine lv (d := 8) rfl rfl (by kernel_rfl) (e_len (A := A2) (n := x1.length) (c := c3) Try.underlying25 (by kernel_rfl)) ?_
  refine lv (d := 9) rfl rfl (by kernel_rfl) (e_lss (k := .i64) (a := x10) (b := (x1.length : Int)) (by kernel_rfl) (by kernel_rfl)) ?_
  refine wpList_nil ?_
  refine then_n ?_
  by_cases q20 : x10 < (x1.length : Int)
  · replace M := ifp q20 M
    refine cond_t rfl (bt q20 (by kernel_rfl)) ?_
    refine wp_skip ?_
    refine then_n ?_
    refine wp_seq ?_
    refine wp_block ?_
    refine wp_seq ?_
    refine wp_region_lit ?_
    refine lv (d := 12) rfl rfl (by kernel_rfl) (e_move (v := .slice A2 x1.length c3) (by exact e11)) ?_
    refine lv (d := 13) rfl rfl (by kernel_rfl) (e_move (v := .int .i64 x10) (by exact e13)) ?_
    obtain ⟨q21, M⟩ := chk M
    obtain ⟨b22, o23, e24⟩ := Rd.addr h4 (show (x10).toNat < x1.length by omega)
    obtain ⟨y25, r26, k27⟩ := Rd.at h4 e24 (getD_some z45 (show (x10).toNat < x1.length by omega))
    obtain ⟨A28, c29, rfl, l30, h31⟩ := st45_open r26
    refine lv (d := 14) rfl rfl (by kernel_rfl) (e_indexAddr (b := b22) (off := o23) (n := x1.length) (c := c3) (sz := 3) (i := x10) (k := .i64) Try.underlying25 e24 (by kernel_rfl) (by kernel_rfl) (by kernel_rfl) q21 q20) ?_
    refine lv (d := 15) rfl rfl (by kernel_rfl) (e_fieldAddr (b := b22) (off := o23 + (x10 : Int).toNat * 3) (o := 0) Try.underlying45 rfl rfl (sz := 1) (by kernel_rfl) (by decide) (by kernel_rfl)) ?_
    refine lv (d := 16) rfl rfl (by kernel_rfl) (e_load1 (ad := ⟨b22, o23 + (x10 : Int).toNat * 3 + 0, none⟩) (v := .slice A28 ((x1.getD ((x10).toNat) z45).name).length c29) Try.underlying32 rfl (by kernel_rfl) (hpx (S14.inv.cell (k27 0 _ rfl)))) ?_
    refine lv (d := 17) rfl rfl (by kernel_rfl) (e_move (v := .int .i64 x9) (by exact e12)) ?_
    obtain ⟨t32, u33, M⟩ := bnd M
    refine lcall (d := 18) rfl rfl (by kernel_rfl) (e_call (l := [.tmp 16, .tmp 17]) (vs := [.slice A28 ((x1.getD ((x10).toNat) z45).name).length c29, .int .i64 x9]) Try.func33 (by kernel_rfl) rfl (by kernel_rfl) rfl) (laws_heldByteS.calls k19 w7 H ((x1.getD ((x10).toNat) z45).name) A28 c29 x9 h31 l30 S14.own0 t32 u33) ?_
    rintro _ w34 ⟨rfl, C35⟩
    refine ⟨_, rfl, ?_⟩
    obtain ⟨S36, K37⟩ := S14.still C35
    refine lv (d := 1) rfl rfl (by kernel_rfl) (e_assign (v := .int .i64 t32) (by kernel_rfl)) ?_
    refine wpList_nil ?_
    refine then_n ?_
    refine wp_seq ?_
    refine wp_seq ?_
    refine wp_region_lit ?_
    refine lv (d := 19) rfl rfl (by kernel_rfl) (e_move (v := .int .i64 t32) (by kernel_rfl)) ?_
    refine lv (d := 20) rfl rfl (by kernel_rfl) (e_lss (k := .i64) (a := t32) (b := 0) (by kernel_rfl) rfl) ?_
    refine wpList_nil ?_
    refine then_n ?_
    by_cases q38 : t32 < 0
    · replace M := ifp q38 M
      refine cond_t rfl (bt q38 (by kernel_rfl)) ?_
      refine wp_seq ?_
      refine wp_region_lit ?_
      refine lv (d := 4) rfl rfl (by kernel_rfl) (e_assign (v := .int .i64 (-1)) rfl) ?_
      refine wpList_nil ?_
      refine then_n ?_
      refine wp_ret ?_
      refine then_r ?_
      refine inb_r ?_
      refine then_r ?_
      refine then_r ?_
      refine inb_r ?_
      refine then_r ?_
      obtain rfl := Option.some.inj M
      exact ret1 rfl rfl  (show _ = .int .i64 (-1) from (by kernel_rfl)) ⟨rfl, S36.chg⟩
    replace M := ifn q38 M
    refine cond_f rfl (bf q38 (by kernel_rfl)) ?_
    refine wp_skip ?_
    refine then_n ?_
    refine wp_seq ?_
    refine wp_seq ?_
    refine wp_region_lit ?_
    refine lv (d := 21) rfl rfl (by kernel_rfl) (e_move (v := .slice A2 x1.length c3) (by exact e11)) ?_
    refine lv (d := 22) rfl rfl (by kernel_rfl) (e_move (v := .int .i64 x10) (by exact e13)) ?_
    obtain ⟨b39, o40, e41⟩ := Rd.addr h4 (show (x10).toNat < x1.length by omega)
    obtain ⟨y42, r43, k44⟩ := Rd.at h4 e41 (getD_some z45 (show (x10).toNat < x1.length by omega))
    obtain ⟨A45, c46, rfl, l47, h48⟩ := st45_open r43
    refine lv (d := 23) rfl rfl (by kernel_rfl) (e_indexAddr (b := b39) (off := o40) (n := x1.length) (c := c3) (sz := 3) (i := x10) (k := .i64) Try.underlying25 e41 (by kernel_rfl) (by kernel_rfl) (by kernel_rfl) q21 q20) ?_
    refine lv (d := 24) rfl rfl (by kernel_rfl) (e_fieldAddr (b := b39) (off := o40 + (x10 : Int).toNat * 3) (o := 1) Try.underlying45 rfl rfl (sz := 1) (by kernel_rfl) (by decide) (by kernel_rfl)) ?_
    refine lv (d := 25) rfl rfl (by kernel_rfl) (e_load1 (ad := ⟨b39, o40 + (x10 : Int).toNat * 3 + 1, none⟩) (v := .int .i64 ((x1.getD ((x10).toNat) z45).pri)) Try.underlying3 rfl (by kernel_rfl) (hpx (S36.inv.cell (k44 1 _ rfl)))) ?_
    refine lv (d := 26) rfl rfl (by kernel_rfl) (e_move (v := .int .i64 t32) (by kernel_rfl)) ?_
    refine lv (d := 27) rfl rfl (by kernel_rfl) (e_neq (k := .i64) (a := (x1.getD ((x10).toNat) z45).pri) (b := t32) (by kernel_rfl) (by kernel_rfl)) ?_
    refine wpList_nil ?_
    refine then_n ?_
    by_cases q49 : ((x1.getD ((x10).toNat) z45).pri) ≠ t32
    · replace M := ifp q49 M
      refine cond_t rfl (bt q49 (by kernel_rfl)) ?_
      refine wp_seq ?_
      refine wp_region_lit ?_
      refine lv (d := 4) rfl rfl (by kernel_rfl) (e_assign (v := .int .i64 (-1)) rfl) ?_
      refine wpList_nil ?_
      refine then_n ?_
      refine wp_ret ?_
      refine then_r ?_
      refine inb_r ?_
      refine then_r ?_
      refine then_r ?_
      refine inb_r ?_
      refine then_r ?_
      obtain rfl := Option.some.inj M
      exact ret1 rfl rfl  (show _ = .int .i64 (-1) from (by kernel_rfl)) ⟨rfl, S36.chg⟩
    replace M := ifn q49 M
    refine cond_f rfl (bf q49 (by kernel_rfl)) ?_
    refine wp_skip ?_
    refine then_n ?_
    refine wp_seq ?_
    refine wp_region_lit ?_
    refine lv (d := 28) rfl rfl (by kernel_rfl) (e_move (v := .int .i64 t32) (by kernel_rfl)) ?_
    refine lv (d := 29) rfl rfl (by kernel_rfl) (e_add (k := .i64) (a := t32) (b := 1) (by kernel_rfl) rfl) ?_
    refine lv (d := 1) rfl rfl (by kernel_rfl) (e_assign (v := .int .i64 (IntKind.i64.wrap (t32 + 1))) (by kernel_rfl)) ?_
    refine wpList_nil ?_
    refine then_n ?_
    refine wp_seq ?_
    refine wp_seq ?_
    refine wp_region_lit ?_
    refine lv (d := 30) rfl rfl (by kernel_rfl) (e_move (v := .slice A2 x1.length c3) (by exact e11)) ?_
    refine lv (d := 31) rfl rfl (by kernel_rfl) (e_move (v := .int .i64 x10) (by exact e13)) ?_
    obtain ⟨b50, o51, e52⟩ := Rd.addr h4 (show (x10).toNat < x1.length by omega)
    obtain ⟨y53, r54, k55⟩ := Rd.at h4 e52 (getD_some z45 (show (x10).toNat < x1.length by omega))
    obtain ⟨A56, c57, rfl, l58, h59⟩ := st45_open r54
    refine lv (d := 32) rfl rfl (by kernel_rfl) (e_indexAddr (b := b50) (off := o51) (n := x1.length) (c := c3) (sz := 3) (i := x10) (k := .i64) Try.underlying25 e52 (by kernel_rfl) (by kernel_rfl) (by kernel_rfl) q21 q20) ?_
    refine lv (d := 33) rfl rfl (by kernel_rfl) (e_fieldAddr (b := b50) (off := o51 + (x10 : Int).toNat * 3) (o := 2) Try.underlying45 rfl rfl (sz := 1) (by kernel_rfl) (by decide) (by kernel_rfl)) ?_
    refine lv (d := 34) rfl rfl (by kernel_rfl) (e_load1 (ad := ⟨b50, o51 + (x10 : Int).toNat * 3 + 2, none⟩) (v := .int .i64 ((x1.getD ((x10).toNat) z45).typ)) Try.underlying3 rfl (by kernel_rfl) (hpx (S36.inv.cell (k55 2 _ rfl)))) ?_
    refine lv (d := 35) rfl rfl (by kernel_rfl) (e_move (v := .int .i64 (IntKind.i64.wrap (t32 + 1))) (by kernel_rfl)) ?_
    refine lv (d := 36) rfl rfl (by kernel_rfl) (e_neq (k := .i64) (a := (x1.getD ((x10).toNat) z45).typ) (b := (IntKind.i64.wrap (t32 + 1))) (by kernel_rfl) (by kernel_rfl)) ?_
    refine wpList_nil ?_
    refine then_n ?_
    by_cases q60 : ((x1.getD ((x10).toNat) z45).typ) ≠ (IntKind.i64.wrap (t32 + 1))
    · replace M := ifp q60 M
      refine cond_t rfl (bt q60 (by kernel_rfl)) ?_
      refine wp_seq ?_
      refine wp_region_lit ?_
      refine lv (d := 4) rfl rfl (by kernel_rfl) (e_assign (v := .int .i64 (-1)) rfl) ?_
      refine wpList_nil ?_
      refine then_n ?_
      refine wp_ret ?_
      refine then_r ?_
      refine inb_r ?_
      refine then_r ?_
      refine then_r ?_
      refine inb_r ?_
      refine then_r ?_
      obtain rfl := Option.some.inj M
      exact ret1 rfl rfl  (show _ = .int .i64 (-1) from (by kernel_rfl)) ⟨rfl, S36.chg⟩
    replace M := ifn q60 M
    refine cond_f rfl (bf q60 (by kernel_rfl)) ?_
    refine wp_skip ?_
    refine then_n ?_
    refine wp_region_lit ?_
    refine lv (d := 37) rfl rfl (by kernel_rfl) (e_move (v := .int .i64 (IntKind.i64.wrap (t32 + 1))) (by kernel_rfl)) ?_
    refine lv (d := 38) rfl rfl (by kernel_rfl) (e_add (k := .i64) (a := (IntKind.i64.wrap (t32 + 1))) (b := 1) (by kernel_rfl) rfl) ?_
    refine lv (d := 1) rfl rfl (by kernel_rfl) (e_assign (v := .int .i64 (IntKind.i64.wrap ((IntKind.i64.wrap (t32 + 1)) + 1))) (by kernel_rfl)) ?_
    refine wpList_nil ?_
    refine inb_n ?_
    refine then_n ?_
    refine wp_region_lit ?_
    refine lv (d := 10) rfl rfl (by kernel_rfl) (e_move (v := .int .i64 x10) (by exact e13)) ?_
    refine lv (d := 11) rfl rfl (by kernel_rfl) (e_add (k := .i64) (a := x10) (b := 1) (by kernel_rfl) rfl) ?_
    refine lv (d := 5) rfl rfl (by kernel_rfl) (e_assign (v := .int .i64 (IntKind.i64.wrap (x10 + 1))) (by kernel_rfl)) ?_
    refine wpList_nil ?_
    refine then_n ?_
    exact ⟨k19, (by omega), _, (IntKind.i64.wrap ((IntKind.i64.wrap (t32 + 1)) + 1)), (IntKind.i64.wrap (x10 + 1)), rfl, (by exact e11), (by kernel_rfl), (by kernel_rfl), S36, M⟩
  replace M := ifn q20 M
  refine cond_f rfl (bf q20 (by kernel_rfl)) ?_
  refine wp_exit ?_
  refine then_e ?_
  refine then_e ?_
  refine inb_hit ?_
  refine then_n ?_
  refine wp_seq ?_
  refine wp_region_lit ?_
  refine lv (d := 39) rfl rfl (by kernel_rfl) (e_move (v := .int .i64 x9) (by exact e12)) ?_
  refine lv (d := 4) rfl rfl (by kernel_rfl) (e_assign (v := .int .i64 x9) (by kernel_rfl)) ?_
  refine wpList_nil ?_
  refine then_n ?_
  refine wp_ret ?_
  obtain rfl := Option.some.inj M
  exact ret1 rfl rfl  (show _ = .int .i64 x9 from (by kernel_rfl)) ⟨rfl, S14.chg⟩

/-! laws_FnExactAddOp -/
def laws_FnExactAddOp.f (k : Nat) (x1 : List Sy.Op) (x6 : Int) (x7 : Int) (x8 : List UInt8) : Option Bool := (if (x8.length : Int) > 1048576 then some true else ((laws_szOpS.f k x1 1048576).bind fun t14 => (if t14 < 0 then some true else ((laws_toOpS.f k x1).bind fun t21 => ((laws_toByteS.f k x8).bind fun t33 => ((spec_AddOp.f k t21 x6 x7 t33).bind fun t58 => ((laws_toOpS.f k x1).bind fun t70 => ((laws_toByteS.f k x8).bind fun t82 => ((impl_AddOp.f k t70 x6 x7 t82).bind fun t110 => ((laws_eqOpS.f k t110.1 t58.1).bind fun t129 => (if ¬ (t129 = true) then some false else (if t110.2 ≠ t58.2 then some false else ((laws_toOpS.f k x1).bind fun t151 => ((laws_eqOpS.f k t70 t151).bind fun t163 => (if ¬ (t163 = true) then some false else ((laws_toByteS.f k x8).bind fun t183 => ((laws_eqByteS.f k t82 t183).bind fun t195 => (if ¬ (t195 = true) then some false else ((laws_markOpS_2.f k t70 1).bind fun t216 => ((laws_markByteS_2.f k t82 t216.1).bind fun t228 => (if t228.1 < 0 then some false else ((laws_eqOpS.f k t110.1 t58.1).bind fun t240 => (if ¬ (t240 = true) then some false else ((laws_markOpS_2.f k t110.1 1).bind fun t262 => ((laws_heldOpS.f k t262.2 1).bind fun t273 => (if t273 < 0 then some false else (if t273 ≠ t262.1 then some false else ((laws_toOpS.f k x1).bind fun t287 => ((laws_toByteS.f k x8).bind fun t299 => ((impl_AddOp.f k t287 x6 x7 t299).bind fun t324 => ((laws_eqOpS.f k t324.1 t58.1).bind fun t336 => (if ¬ (t336 = true) then some false else (if t324.2 ≠ t58.2 then some false else ((laws_heldOpS.f k t262.2 1).bind fun t357 => (if t357 < 0 then some false else (if t357 ≠ t262.1 then some false else some true))))))))))))))))))))))))))))))))))))
theorem laws_FnExactAddOp.calls (k : Nat) (w : World) (H : Hp) (x1 : List Sy.Op) (A2 : Option Addr) (c3 : Nat) (x6 : Int) (x7 : Int) (x8 : List UInt8) (A9 : Option Addr) (c10 : Nat) (h4 : Rd st44 H A2 x1) (l5 : x1.length ≤ c3) (h11 : Rd tByte H A9 x8) (l12 : x8.length ≤ c10) (S : Own [] H w) (r : Bool) (M : laws_FnExactAddOp.f k x1 x6 x7 x8 = some r) :
    Calls Try.prog 5 #[.slice A2 x1.length c3, .int .i64 x6, .int .i64 x7, .slice A9 x8.length c10] w (fun e e_w => e = .returned (.bool r) ∧ Chg no w e_w) := by
  rw [laws_FnExactAddOp.f] at M
  refine enter (l := [.slice A2 x1.length c3, .int .i64 x6, .int .i64 x7, .slice A9 x8.length c10]) 127 Try.func5 rfl rfl rfl ?_
  have S0_ := S.st
  refine wp_seq ?_
  refine wp_region_lit ?_
  refine lv (d := 8) rfl rfl (by kernel_rfl) (e_assign (v := .bool false) rfl) ?_
  refine wpList_nil ?_
  refine then_n ?_
  refine wp_seq ?_
  refine wp_seq ?_
  refine wp_region_lit ?_
  refine lv (d := 21) rfl rfl (by kernel_rfl) (e_move (v := .slice A9 x8.length c10) (by kernel_rfl)) ?_
  refine lv (d := 22) rfl rfl (by kernel_rfl) (e_len (A := A9) (n := x8.length) (c := c10) Try.underlying32 (by kernel_rfl)) ?_
  refine lv (d := 23) rfl rfl (by kernel_rfl) (e_gtr (k := .i64) (a := (x8.length : Int)) (b := 1048576) (by kernel_rfl) rfl) ?_
  refine wpList_nil ?_
  refine then_n ?_
  by_cases q13 : (x8.length : Int) > 1048576
  · replace M := ifp q13 M
    refine cond_t rfl (bt q13 (by kernel_rfl)) ?_
    refine wp_seq ?_
    refine wp_region_lit ?_
    refine lv (d := 8) rfl rfl (by kernel_rfl) (e_assign (v := .bool true) rfl) ?_
    refine wpList_nil ?_
    refine then_n ?_
    refine wp_ret ?_
    refine then_r ?_
    obtain rfl := Option.some.inj M
    exact ret1 rfl rfl  (show _ = .bool true from (by kernel_rfl)) ⟨rfl, S0_.chg⟩
  replace M := ifn q13 M
  refine cond_f rfl (bf q13 (by kernel_rfl)) ?_
  refine wp_skip ?_
  refine then_n ?_
  refine wp_seq ?_
  refine wp_region_lit ?_
  refine lv (d := 9) rfl rfl (by kernel_rfl) (e_assign (v := .int .i64 1048576) rfl) ?_
  refine wpList_nil ?_
  refine then_n ?_
  refine wp_seq ?_
  refine wp_region_lit ?_
  refine lv (d := 24) rfl rfl (by kernel_rfl) (e_move (v := .slice A2 x1.length c3) (by kernel_rfl)) ?_
  refine lv (d := 25) rfl rfl (by kernel_rfl) (e_move (v := .int .i64 1048576) (by kernel_rfl)) ?_
  obtain ⟨t14, u15, M⟩ := bnd M
  refine lcall (d := 26) rfl rfl (by kernel_rfl) (e_call (l := [.tmp 24, .tmp 25]) (vs := [.slice A2 x1.length c3, .int .i64 1048576]) Try.func7 (by kernel_rfl) rfl (by kernel_rfl) rfl) (laws_szOpS.calls k w H x1 A2 c3 1048576 h4 l5 S0_.own0 t14 u15) ?_
  rintro _ w16 ⟨rfl, C17⟩
  refine ⟨_, rfl, ?_⟩
  obtain ⟨S18, K19⟩ := S0_.still C17
  refine lv (d := 9) rfl rfl (by kernel_rfl) (e_assign (v := .int .i64 t14) (by kernel_rfl)) ?_
  refine wpList_nil ?_
  refine then_n ?_
  refine wp_seq ?_
  refine wp_seq ?_
  refine wp_region_lit ?_
  refine lv (d := 27) rfl rfl (by kernel_rfl) (e_move (v := .int .i64 t14) (by kernel_rfl)) ?_
  refine lv (d := 28) rfl rfl (by kernel_rfl) (e_lss (k := .i64) (a := t14) (b := 0) (by kernel_rfl) rfl) ?_
  refine wpList_nil ?_
  refine then_n ?_
  by_cases q20 : t14 < 0
  · replace M := ifp q20 M
    refine cond_t rfl (bt q20 (by kernel_rfl)) ?_
    refine wp_seq ?_
    refine wp_region_lit ?_
    refine lv (d := 8) rfl rfl (by kernel_rfl) (e_assign (v := .bool true) rfl) ?_
    refine wpList_nil ?_
    refine then_n ?_
    refine wp_ret ?_
    refine then_r ?_
    obtain rfl := Option.some.inj M
    exact ret1 rfl rfl  (show _ = .bool true from (by kernel_rfl)) ⟨rfl, S18.chg⟩
  replace M := ifn q20 M
  refine cond_f rfl (bf q20 (by kernel_rfl)) ?_
  refine wp_skip ?_
  refine then_n ?_
  refine wp_seq ?_
  refine wp_region_lit ?_
  refine lv (d := 30) rfl rfl (by kernel_rfl) (e_move (v := .slice A2 x1.length c3) (by kernel_rfl)) ?_
  obtain ⟨t21, u22, M⟩ := bnd M
  refine lcall (d := 31) rfl rfl (by kernel_rfl) (e_call (l := [.tmp 30]) (vs := [.slice A2 x1.length c3]) Try.func9 (by kernel_rfl) rfl (by kernel_rfl) rfl) (laws_toOpS.calls k w16 H x1 A2 c3 h4 l5 (St.own' (Fa := []) (Fr := []) S18) t21 u22) ?_
  rintro _ w23 ⟨A26, c27, F29, H24, rfl, h28, T25⟩
  refine ⟨_, rfl, ?_⟩
  obtain ⟨S30, K31⟩ := St.call (Fa := []) (Fr := []) S18 T25
  have E32 := T25.ext
  refine lv (d := 32) rfl rfl (by kernel_rfl) (e_move (v := .int .i64 x6) (by kernel_rfl)) ?_
  refine lv (d := 33) rfl rfl (by kernel_rfl) (e_move (v := .int .i64 x7) (by kernel_rfl)) ?_
  refine lv (d := 34) rfl rfl (by kernel_rfl) (e_move (v := .slice A9 x8.length c10) (by kernel_rfl)) ?_
  obtain ⟨t33, u34, M⟩ := bnd M
  refine lcall (d := 35) rfl rfl (by kernel_rfl) (e_call (l := [.tmp 34]) (vs := [.slice A9 x8.length c10]) Try.func17 (by kernel_rfl) rfl (by kernel_rfl) rfl) (laws_toByteS.calls k w23 H24 x8 A9 c10 (h11.ext E32) l12 (St.own' (Fa := []) (Fr := [F29]) S30) t33 u34) ?_
  rintro _ w35 ⟨A38, c39, F41, H36, rfl, h40, T37⟩
  refine ⟨_, rfl, ?_⟩
  obtain ⟨S42, K43⟩ := St.call (Fa := []) (Fr := [F29]) S30 T37
  replace h28 := h28.move (K43.at 0 rfl)
  have E44 := T37.ext
  replace h28 := h28.ext E44
  have l45 := h28.le
  have S46 := S42.pull (F := F29) (Fr := [F41]) 1 rfl rfl
  obtain ⟨H47, S48, E49, h50, z51⟩ := S46.frzRow h28
  replace h40 := h40.ext E49
  have l52 := h40.le
  obtain ⟨H53, S54, E55, h56, z57⟩ := S48.frzRow h40
  obtain ⟨t58, u59, M⟩ := bnd M
  refine lcall (d := 36) rfl rfl (by kernel_rfl) (e_call (l := [.tmp 31, .tmp 32, .tmp 33, .tmp 35]) (vs := [.slice A26 t21.length c27, .int .i64 x6, .int .i64 x7, .slice A38 t33.length c39]) Try.func16 (by kernel_rfl) rfl (by kernel_rfl) rfl) (spec_AddOp.calls k w35 H53 t21 A26 c27 x6 x7 t33 A38 c39 (h50.ext E55) l45 h56 l52 (St.own' (Fa := []) (Fr := []) S54) t58 u59) ?_
  rintro _ w60 ⟨A63, c64, F66, H61, rfl, h65, T62⟩
  refine ⟨_, rfl, ?_⟩
  obtain ⟨S67, K68⟩ := St.call (Fa := []) (Fr := []) S54 T62
  have E69 := T62.ext
  refine lv (d := 29) rfl rfl (by kernel_rfl) (e_move (v := .tuple #[.slice A63 t58.1.length c64, .int .i64 t58.2]) (by kernel_rfl)) ?_
  refine lv (d := 37) rfl rfl (by kernel_rfl) (e_extract (vs := #[.slice A63 t58.1.length c64, .int .i64 t58.2]) (v := .slice A63 t58.1.length c64) (by kernel_rfl) rfl) ?_
  refine lv (d := 38) rfl rfl (by kernel_rfl) (e_extract (vs := #[.slice A63 t58.1.length c64, .int .i64 t58.2]) (v := .int .i64 t58.2) (by kernel_rfl) rfl) ?_
  refine lv (d := 10) rfl rfl (by kernel_rfl) (e_assign (v := .slice A63 t58.1.length c64) (by kernel_rfl)) ?_
  refine lv (d := 11) rfl rfl (by kernel_rfl) (e_assign (v := .int .i64 t58.2) (by kernel_rfl)) ?_
  refine wpList_nil ?_
  refine then_n ?_
  refine wp_seq ?_
  refine wp_region_lit ?_
  refine lv (d := 39) rfl rfl (by kernel_rfl) (e_move (v := .slice A2 x1.length c3) (by kernel_rfl)) ?_
  obtain ⟨t70, u71, M⟩ := bnd M
  refine lcall (d := 40) rfl rfl (by kernel_rfl) (e_call (l := [.tmp 39]) (vs := [.slice A2 x1.length c3]) Try.func9 (by kernel_rfl) rfl (by kernel_rfl) rfl) (laws_toOpS.calls k w60 H61 x1 A2 c3 (h4.ext ((((E32.trans E44).trans E49).trans E55).trans E69)) l5 (St.own' (Fa := []) (Fr := [F66]) S67) t70 u71) ?_
  rintro _ w72 ⟨A75, c76, F78, H73, rfl, h77, T74⟩
  refine ⟨_, rfl, ?_⟩
  obtain ⟨S79, K80⟩ := St.call (Fa := []) (Fr := [F66]) S67 T74
  replace h65 := h65.move (K80.at 0 rfl)
  have E81 := T74.ext
  replace h65 := h65.ext E81
  refine lv (d := 12) rfl rfl (by kernel_rfl) (e_assign (v := .slice A75 t70.length c76) (by kernel_rfl)) ?_
  refine wpList_nil ?_
  refine then_n ?_
  refine wp_seq ?_
  refine wp_region_lit ?_
  refine lv (d := 41) rfl rfl (by kernel_rfl) (e_move (v := .slice A9 x8.length c10) (by kernel_rfl)) ?_
  obtain ⟨t82, u83, M⟩ := bnd M
  refine lcall (d := 42) rfl rfl (by kernel_rfl) (e_call (l := [.tmp 41]) (vs := [.slice A9 x8.length c10]) Try.func17 (by kernel_rfl) rfl (by kernel_rfl) rfl) (laws_toByteS.calls k w72 H73 x8 A9 c10 (h11.ext (((((E32.trans E44).trans E49).trans E55).trans E69).trans E81)) l12 (St.own' (Fa := []) (Fr := [F78, F66]) S79) t82 u83) ?_
  rintro _ w84 ⟨A87, c88, F90, H85, rfl, h89, T86⟩
  refine ⟨_, rfl, ?_⟩
  obtain ⟨S91, K92⟩ := St.call (Fa := []) (Fr := [F78, F66]) S79 T86
  replace h77 := h77.move (K92.at 0 rfl)
  replace h65 := h65.move (K92.at 1 rfl)
  have E93 := T86.ext
  replace h77 := h77.ext E93
  replace h65 := h65.ext E93
  refine lv (d := 13) rfl rfl (by kernel_rfl) (e_assign (v := .slice A87 t82.length c88) (by kernel_rfl)) ?_
  refine wpList_nil ?_
  refine then_n ?_
  refine wp_seq ?_
  refine wp_region_lit ?_
  refine lv (d := 44) rfl rfl (by kernel_rfl) (e_move (v := .slice A75 t70.length c76) (by kernel_rfl)) ?_
  refine lv (d := 45) rfl rfl (by kernel_rfl) (e_move (v := .int .i64 x6) (by kernel_rfl)) ?_
  refine lv (d := 46) rfl rfl (by kernel_rfl) (e_move (v := .int .i64 x7) (by kernel_rfl)) ?_
  refine lv (d := 47) rfl rfl (by kernel_rfl) (e_move (v := .slice A87 t82.length c88) (by kernel_rfl)) ?_
  have S94 := S91.pull (F := F78) (Fr := [F90, F66]) 1 rfl rfl
  have l95 := h77.le
  obtain ⟨H96, S97, E98, h99, z100⟩ := S94.frzRow h77
  have h101 := h89.ext E98
  have h102 := h65.ext E98
  have l103 := h101.le
  obtain ⟨H104, S105, E106, h107, z108⟩ := S97.frzRow h101
  have h109 := h102.ext E106
  obtain ⟨t110, u111, M⟩ := bnd M
  refine lcall (d := 48) rfl rfl (by kernel_rfl) (e_call (l := [.tmp 44, .tmp 45, .tmp 46, .tmp 47]) (vs := [.slice A75 t70.length c76, .int .i64 x6, .int .i64 x7, .slice A87 t82.length c88]) Try.func18 (by kernel_rfl) rfl (by kernel_rfl) rfl) (impl_AddOp.calls k w84 H104 t70 A75 c76 x6 x7 t82 A87 c88 (h99.ext E106) l95 h107 l103 S105.own0 t110 u111) ?_
  rintro _ w112 ⟨A115, c116, F118, H113, rfl, h117, T114⟩
  refine ⟨_, rfl, ?_⟩
  obtain ⟨S119, K120⟩ := St.call (Fa := []) (Fr := [F66]) S105 T114
  replace h65 := h65.move (K120.at 0 rfl)
  obtain ⟨H121, S122, E123, v124⟩ := St.thaw S97 z108 S119 T114.ext E106 T114.size
  replace h89 := h89.move v124
  obtain ⟨H125, S126, E127, v128⟩ := St.thaw S94 z100 S122 E123 E98 T114.size
  replace h77 := h77.move v128
  replace h77 := h77.ext E127
  replace h89 := h89.ext E127
  replace h65 := h65.ext E127
  replace h117 := Row.free (H' := H125) (free_iso (free_pair (free_slice (free_scal _ _)) (free_pair (free_scal _ _) (free_scal _ _)))) h117
  refine lv (d := 43) rfl rfl (by kernel_rfl) (e_move (v := .tuple #[.slice A115 t110.1.length c116, .int .i64 t110.2]) (by kernel_rfl)) ?_
  refine lv (d := 49) rfl rfl (by kernel_rfl) (e_extract (vs := #[.slice A115 t110.1.length c116, .int .i64 t110.2]) (v := .slice A115 t110.1.length c116) (by kernel_rfl) rfl) ?_
  refine lv (d := 50) rfl rfl (by kernel_rfl) (e_extract (vs := #[.slice A115 t110.1.length c116, .int .i64 t110.2]) (v := .int .i64 t110.2) (by kernel_rfl) rfl) ?_
  refine lv (d := 14) rfl rfl (by kernel_rfl) (e_assign (v := .slice A115 t110.1.length c116) (by kernel_rfl)) ?_
  refine lv (d := 15) rfl rfl (by kernel_rfl) (e_assign (v := .int .i64 t110.2) (by kernel_rfl)) ?_
  refine wpList_nil ?_
  refine then_n ?_
  refine wp_seq ?_
  refine wp_seq ?_
  refine wp_region_lit ?_
  refine lv (d := 51) rfl rfl (by kernel_rfl) (e_move (v := .slice A115 t110.1.length c116) (by kernel_rfl)) ?_
  refine lv (d := 52) rfl rfl (by kernel_rfl) (e_move (v := .slice A63 t58.1.length c64) (by kernel_rfl)) ?_
  obtain ⟨t129, u130, M⟩ := bnd M
  refine lcall (d := 53) rfl rfl (by kernel_rfl) (e_call (l := [.tmp 51, .tmp 52]) (vs := [.slice A115 t110.1.length c116, .slice A63 t58.1.length c64]) Try.func11 (by kernel_rfl) rfl (by kernel_rfl) rfl) (by have l131 := h117.le; have S132 := S126.pull (F := F118) (Fr := [F78, F90, F66]) 2 rfl rfl; obtain ⟨H133, S134, E135, h136, z137⟩ := S132.frzRow h117; replace h77 := h77.ext E135; replace h89 := h89.ext E135; replace h65 := h65.ext E135; have l138 := h65.le; have S139 := S134.pull (F := F66) (Fr := [F78, F90]) 2 rfl rfl; obtain ⟨H140, S141, E142, h143, z144⟩ := S139.frzRow h65; replace h77 := h77.ext E142; replace h89 := h89.ext E142; replace h143 := h143.unro; exact (laws_eqOpS.calls k w112 H140 t110.1 A115 c116 t58.1 A63 c64 (h136.ext E142) l131 h143 l138 S141.own0 t129 u130)) ?_
  rintro _ w145 ⟨rfl, C146⟩
  refine ⟨_, rfl, ?_⟩
  obtain ⟨S147, K148⟩ := S126.still C146
  replace h77 := h77.move (K148.at 0 rfl)
  replace h89 := h89.move (K148.at 1 rfl)
  replace h117 := h117.move (K148.at 2 rfl)
  replace h65 := h65.move (K148.at 3 rfl)
  refine lv (d := 54) rfl rfl (by kernel_rfl) (e_notv (c := t129) (by kernel_rfl)) ?_
  refine lv (d := 55) rfl rfl (by kernel_rfl) (e_move (v := .bool (decide (¬ (t129 = true)))) (by kernel_rfl)) ?_
  by_cases q149 : ¬ (t129 = true)
  · replace M := ifp q149 M
    refine lskip (t := 55) (c := true) rfl (by kernel_rfl) rfl (bt q149 (by kernel_rfl)) rfl rfl ?_
    refine lskip (t := 55) (c := true) rfl (by kernel_rfl) rfl (bt q149 (by kernel_rfl)) rfl rfl ?_
    refine lskip (t := 55) (c := true) rfl (by kernel_rfl) rfl (bt q149 (by kernel_rfl)) rfl rfl ?_
    refine lv (d := 59) rfl rfl (by kernel_rfl) (e_pick_t (v := .bool true) (bt q149 (by kernel_rfl)) rfl) ?_
    refine wpList_nil ?_
    refine then_n ?_
    refine cond_t rfl (by kernel_rfl) ?_
    refine wp_seq ?_
    refine wp_region_lit ?_
    refine lv (d := 8) rfl rfl (by kernel_rfl) (e_assign (v := .bool false) rfl) ?_
    refine wpList_nil ?_
    refine then_n ?_
    refine wp_ret ?_
    refine then_r ?_
    obtain rfl := Option.some.inj M
    exact ret1 rfl rfl  (show _ = .bool false from (by kernel_rfl)) ⟨rfl, S147.chg⟩
  replace M := ifn q149 M
  refine lvg (d := 56) (t := 55) rfl (by kernel_rfl) rfl (bf q149 (by kernel_rfl)) rfl (by kernel_rfl) (e_move (v := .int .i64 t110.2) (by kernel_rfl)) ?_
  refine lvg (d := 57) (t := 55) rfl (by kernel_rfl) rfl (bf q149 (by kernel_rfl)) rfl (by kernel_rfl) (e_move (v := .int .i64 t58.2) (by kernel_rfl)) ?_
  refine lvg (d := 58) (t := 55) rfl (by kernel_rfl) rfl (bf q149 (by kernel_rfl)) rfl (by kernel_rfl) (e_neq (k := .i64) (a := t110.2) (b := t58.2) (by kernel_rfl) (by kernel_rfl)) ?_
  refine lv (d := 59) rfl rfl (by kernel_rfl) (e_pick_f (v := .bool (decide (t110.2 ≠ t58.2))) (bf q149 (by kernel_rfl)) (by kernel_rfl)) ?_
  refine wpList_nil ?_
  refine then_n ?_
  by_cases q150 : t110.2 ≠ t58.2
  · replace M := ifp q150 M
    refine cond_t rfl (bt q150 (by kernel_rfl)) ?_
    refine wp_seq ?_
    refine wp_region_lit ?_
    refine lv (d := 8) rfl rfl (by kernel_rfl) (e_assign (v := .bool false) rfl) ?_
    refine wpList_nil ?_
    refine then_n ?_
    refine wp_ret ?_
    refine then_r ?_
    obtain rfl := Option.some.inj M
    exact ret1 rfl rfl  (show _ = .bool false from (by kernel_rfl)) ⟨rfl, S147.chg⟩
  replace M := ifn q150 M
  refine cond_f rfl (bf q150 (by kernel_rfl)) ?_
  refine wp_skip ?_
  refine then_n ?_
  refine wp_seq ?_
  refine wp_seq ?_
  refine wp_region_lit ?_
  refine lv (d := 60) rfl rfl (by kernel_rfl) (e_move (v := .slice A75 t70.length c76) (by kernel_rfl)) ?_
  refine lv (d := 61) rfl rfl (by kernel_rfl) (e_move (v := .slice A2 x1.length c3) (by kernel_rfl)) ?_
  obtain ⟨t151, u152, M⟩ := bnd M
  refine lcall (d := 62) rfl rfl (by kernel_rfl) (e_call (l := [.tmp 61]) (vs := [.slice A2 x1.length c3]) Try.func9 (by kernel_rfl) rfl (by kernel_rfl) rfl) (laws_toOpS.calls k w145 H125 x1 A2 c3 (h4.ext (((((((E32.trans E44).trans E49).trans E55).trans E69).trans E81).trans E93).trans E127)) l5 (St.own' (Fa := []) (Fr := [F78, F90, F118, F66]) S147) t151 u152) ?_
  rintro _ w153 ⟨A156, c157, F159, H154, rfl, h158, T155⟩
  refine ⟨_, rfl, ?_⟩
  obtain ⟨S160, K161⟩ := St.call (Fa := []) (Fr := [F78, F90, F118, F66]) S147 T155
  replace h77 := h77.move (K161.at 0 rfl)
  replace h89 := h89.move (K161.at 1 rfl)
  replace h117 := h117.move (K161.at 2 rfl)
  replace h65 := h65.move (K161.at 3 rfl)
  have E162 := T155.ext
  replace h77 := h77.ext E162
  replace h89 := h89.ext E162
  replace h117 := h117.ext E162
  replace h65 := h65.ext E162
  obtain ⟨t163, u164, M⟩ := bnd M
  refine lcall (d := 63) rfl rfl (by kernel_rfl) (e_call (l := [.tmp 60, .tmp 62]) (vs := [.slice A75 t70.length c76, .slice A156 t151.length c157]) Try.func11 (by kernel_rfl) rfl (by kernel_rfl) rfl) (by have l165 := h77.le; have S166 := S160.pull (F := F78) (Fr := [F159, F90, F118, F66]) 1 rfl rfl; obtain ⟨H167, S168, E169, h170, z171⟩ := S166.frzRow h77; replace h158 := h158.ext E169; replace h89 := h89.ext E169; replace h117 := h117.ext E169; replace h65 := h65.ext E169; have l172 := h158.le; obtain ⟨H173, S174, E175, h176, z177⟩ := S168.frzRow h158; replace h89 := h89.ext E175; replace h117 := h117.ext E175; replace h65 := h65.ext E175; exact (laws_eqOpS.calls k w153 H173 t70 A75 c76 t151 A156 c157 (h170.ext E175) l165 h176 l172 S174.own0 t163 u164)) ?_
  rintro _ w178 ⟨rfl, C179⟩
  refine ⟨_, rfl, ?_⟩
  obtain ⟨S180, K181⟩ := S160.still C179
  replace h158 := h158.move (K181.at 0 rfl)
  replace h77 := h77.move (K181.at 1 rfl)
  replace h89 := h89.move (K181.at 2 rfl)
  replace h117 := h117.move (K181.at 3 rfl)
  replace h65 := h65.move (K181.at 4 rfl)
  refine lv (d := 64) rfl rfl (by kernel_rfl) (e_notv (c := t163) (by kernel_rfl)) ?_
  refine wpList_nil ?_
  refine then_n ?_
  by_cases q182 : ¬ (t163 = true)
  · replace M := ifp q182 M
    refine cond_t rfl (bt q182 (by kernel_rfl)) ?_
    refine wp_seq ?_
    refine wp_region_lit ?_
    refine lv (d := 8) rfl rfl (by kernel_rfl) (e_assign (v := .bool false) rfl) ?_
    refine wpList_nil ?_
    refine then_n ?_
    refine wp_ret ?_
    refine then_r ?_
    obtain rfl := Option.some.inj M
    exact ret1 rfl rfl  (show _ = .bool false from (by kernel_rfl)) ⟨rfl, S180.chg⟩
  replace M := ifn q182 M
  refine cond_f rfl (bf q182 (by kernel_rfl)) ?_
  refine wp_skip ?_
  refine then_n ?_
  refine wp_seq ?_
  refine wp_seq ?_
  refine wp_region_lit ?_
  refine lv (d := 65) rfl rfl (by kernel_rfl) (e_move (v := .slice A87 t82.length c88) (by kernel_rfl)) ?_
  refine lv (d := 66) rfl rfl (by kernel_rfl) (e_move (v := .slice A9 x8.length c10) (by kernel_rfl)) ?_
  obtain ⟨t183, u184, M⟩ := bnd M
  refine lcall (d := 67) rfl rfl (by kernel_rfl) (e_call (l := [.tmp 66]) (vs := [.slice A9 x8.length c10]) Try.func17 (by kernel_rfl) rfl (by kernel_rfl) rfl) (laws_toByteS.calls k w178 H154 x8 A9 c10 (h11.ext ((((((((E32.trans E44).trans E49).trans E55).trans E69).trans E81).trans E93).trans E127).trans E162)) l12 (St.own' (Fa := []) (Fr := [F159, F78, F90, F118, F66]) S180) t183 u184) ?_
  rintro _ w185 ⟨A188, c189, F191, H186, rfl, h190, T187⟩
  refine ⟨_, rfl, ?_⟩
  obtain ⟨S192, K193⟩ := St.call (Fa := []) (Fr := [F159, F78, F90, F118, F66]) S180 T187
  replace h158 := h158.move (K193.at 0 rfl)
  replace h77 := h77.move (K193.at 1 rfl)
  replace h89 := h89.move (K193.at 2 rfl)
  replace h117 := h117.move (K193.at 3 rfl)
  replace h65 := h65.move (K193.at 4 rfl)
  have E194 := T187.ext
  replace h158 := h158.ext E194
  replace h77 := h77.ext E194
  replace h89 := h89.ext E194
  replace h117 := h117.ext E194
  replace h65 := h65.ext E194
  obtain ⟨t195, u196, M⟩ := bnd M
  refine lcall (d := 68) rfl rfl (by kernel_rfl) (e_call (l := [.tmp 65, .tmp 67]) (vs := [.slice A87 t82.length c88, .slice A188 t183.length c189]) Try.func19 (by kernel_rfl) rfl (by kernel_rfl) rfl) (by have l197 := h89.le; have S198 := S192.pull (F := F90) (Fr := [F191, F159, F78, F118, F66]) 3 rfl rfl; obtain ⟨H199, S200, E201, h202, z203⟩ := S198.frzRow h89; replace h190 := h190.ext E201; replace h158 := h158.ext E201; replace h77 := h77.ext E201; replace h117 := h117.ext E201; replace h65 := h65.ext E201; have l204 := h190.le; obtain ⟨H205, S206, E207, h208, z209⟩ := S200.frzRow h190; replace h158 := h158.ext E207; replace h77 := h77.ext E207; replace h117 := h117.ext E207; replace h65 := h65.ext E207; exact (laws_eqByteS.calls k w185 H205 t82 A87 c88 t183 A188 c189 (h202.ext E207) l197 h208 l204 S206.own0 t195 u196)) ?_
  rintro _ w210 ⟨rfl, C211⟩
  refine ⟨_, rfl, ?_⟩
  obtain ⟨S212, K213⟩ := S192.still C211
  replace h190 := h190.move (K213.at 0 rfl)
  replace h158 := h158.move (K213.at 1 rfl)
  replace h77 := h77.move (K213.at 2 rfl)
  replace h89 := h89.move (K213.at 3 rfl)
  replace h117 := h117.move (K213.at 4 rfl)
  replace h65 := h65.move (K213.at 5 rfl)
  refine lv (d := 69) rfl rfl (by kernel_rfl) (e_notv (c := t195) (by kernel_rfl)) ?_
  refine wpList_nil ?_
  refine then_n ?_
  by_cases q214 : ¬ (t195 = true)
  · replace M := ifp q214 M
    refine cond_t rfl (bt q214 (by kernel_rfl)) ?_
    refine wp_seq ?_
    refine wp_region_lit ?_
    refine lv (d := 8) rfl rfl (by kernel_rfl) (e_assign (v := .bool false) rfl) ?_
    refine wpList_nil ?_
    refine then_n ?_
    refine wp_ret ?_
    refine then_r ?_
    obtain rfl := Option.some.inj M
    exact ret1 rfl rfl  (show _ = .bool false from (by kernel_rfl)) ⟨rfl, S212.chg⟩
  replace M := ifn q214 M
  refine cond_f rfl (bf q214 (by kernel_rfl)) ?_
  refine wp_skip ?_
  refine then_n ?_
  refine wp_seq ?_
  refine wp_region_lit ?_
  refine lv (d := 16) rfl rfl (by kernel_rfl) (e_assign (v := .int .i64 1) rfl) ?_
  refine wpList_nil ?_
  refine then_n ?_
  refine wp_seq ?_
  refine wp_region_lit ?_
  refine lv (d := 70) rfl rfl (by kernel_rfl) (e_move (v := .slice A75 t70.length c76) (by kernel_rfl)) ?_
  refine lv (d := 71) rfl rfl (by kernel_rfl) (e_move (v := .int .i64 1) (by kernel_rfl)) ?_
  have S215 := S212.pull (F := F78) (Fr := [F191, F159, F90, F118, F66]) 2 rfl rfl
  obtain ⟨t216, u217, M⟩ := bnd M
  refine lcall (d := 72) rfl rfl (by kernel_rfl) (e_call (l := [.tmp 70, .tmp 71]) (vs := [.slice A75 t70.length c76, .int .i64 1]) Try.func14 (by kernel_rfl) rfl (by kernel_rfl) rfl) (laws_markOpS_2.calls k w210 H186 t70 A75 c76 F78 1 h77 (St.own' (Fa := [F78]) (Fr := [F191, F159, F90, F118, F66]) S215) t216 u217) ?_
  rintro _ w218 ⟨F222, H219, rfl, n223, h221, T220⟩
  refine ⟨_, rfl, ?_⟩
  obtain ⟨S224, K225⟩ := St.call (Fa := [F78]) (Fr := [F191, F159, F90, F118, F66]) S215 T220
  replace h190 := h190.move (K225.at 0 rfl)
  replace h158 := h158.move (K225.at 1 rfl)
  replace h89 := h89.move (K225.at 2 rfl)
  replace h117 := h117.move (K225.at 3 rfl)
  replace h65 := h65.move (K225.at 4 rfl)
  have E226 := T220.ext
  replace h190 := h190.ext E226
  replace h158 := h158.ext E226
  replace h89 := h89.ext E226
  replace h117 := h117.ext E226
  replace h65 := h65.ext E226
  refine lv (d := 16) rfl rfl (by kernel_rfl) (e_assign (v := .int .i64 t216.1) (by kernel_rfl)) ?_
  refine wpList_nil ?_
  refine then_n ?_
  refine wp_seq ?_
  refine wp_region_lit ?_
  refine lv (d := 73) rfl rfl (by kernel_rfl) (e_move (v := .slice A87 t82.length c88) (by kernel_rfl)) ?_
  refine lv (d := 74) rfl rfl (by kernel_rfl) (e_move (v := .int .i64 t216.1) (by kernel_rfl)) ?_
  have S227 := S224.pull (F := F90) (Fr := [F222, F191, F159, F118, F66]) 3 rfl rfl
  obtain ⟨t228, u229, M⟩ := bnd M
  refine lcall (d := 75) rfl rfl (by kernel_rfl) (e_call (l := [.tmp 73, .tmp 74]) (vs := [.slice A87 t82.length c88, .int .i64 t216.1]) Try.func20 (by kernel_rfl) rfl (by kernel_rfl) rfl) (laws_markByteS_2.calls k w218 H219 t82 A87 c88 F90 t216.1 h89 (St.own' (Fa := [F90]) (Fr := [F222, F191, F159, F118, F66]) S227) t228 u229) ?_
  rintro _ w230 ⟨F234, H231, rfl, n235, h233, T232⟩
  refine ⟨_, rfl, ?_⟩
  obtain ⟨S236, K237⟩ := St.call (Fa := [F90]) (Fr := [F222, F191, F159, F118, F66]) S227 T232
  replace h221 := h221.move (K237.at 0 rfl)
  replace h190 := h190.move (K237.at 1 rfl)
  replace h158 := h158.move (K237.at 2 rfl)
  replace h117 := h117.move (K237.at 3 rfl)
  replace h65 := h65.move (K237.at 4 rfl)
  have E238 := T232.ext
  replace h221 := h221.ext E238
  replace h190 := h190.ext E238
  replace h158 := h158.ext E238
  replace h117 := h117.ext E238
  replace h65 := h65.ext E238
  refine lv (d := 16) rfl rfl (by kernel_rfl) (e_assign (v := .int .i64 t228.1) (by kernel_rfl)) ?_
  refine wpList_nil ?_
  refine then_n ?_
  refine wp_seq ?_
  refine wp_seq ?_
  refine wp_region_lit ?_
  refine lv (d := 76) rfl rfl (by kernel_rfl) (e_move (v := .int .i64 t228.1) (by kernel_rfl)) ?_
  refine lv (d := 77) rfl rfl (by kernel_rfl) (e_lss (k := .i64) (a := t228.1) (b := 0) (by kernel_rfl) rfl) ?_
  refine lv (d := 78) rfl rfl (by kernel_rfl) (e_move (v := .bool (decide (t228.1 < 0))) (by kernel_rfl)) ?_
  by_cases q239 : t228.1 < 0
  · replace M := ifp q239 M
    refine lskip (t := 78) (c := true) rfl (by kernel_rfl) rfl (bt q239 (by kernel_rfl)) rfl rfl ?_
    refine lskip (t := 78) (c := true) rfl (by kernel_rfl) rfl (bt q239 (by kernel_rfl)) rfl rfl ?_
    refine lskip (t := 78) (c := true) rfl (by kernel_rfl) rfl (bt q239 (by kernel_rfl)) rfl rfl ?_
    refine lskip (t := 78) (c := true) rfl (by kernel_rfl) rfl (bt q239 (by kernel_rfl)) rfl rfl ?_
    refine lv (d := 83) rfl rfl (by kernel_rfl) (e_pick_t (v := .bool true) (bt q239 (by kernel_rfl)) rfl) ?_
    refine lv (d := 84) rfl rfl (by kernel_rfl) (e_move (v := .bool true) (by kernel_rfl)) ?_
    refine lskip (t := 84) (c := true) rfl (by kernel_rfl) rfl (by kernel_rfl) rfl rfl ?_
    refine lskip (t := 84) (c := true) rfl (by kernel_rfl) rfl (by kernel_rfl) rfl rfl ?_
    refine lskip (t := 84) (c := true) rfl (by kernel_rfl) rfl (by kernel_rfl) rfl rfl ?_
    refine lv (d := 88) rfl rfl (by kernel_rfl) (e_pick_t (v := .bool true) (by kernel_rfl) rfl) ?_
    refine wpList_nil ?_
    refine then_n ?_
    refine cond_t rfl (by kernel_rfl) ?_
    refine wp_seq ?_
    refine wp_region_lit ?_
    refine lv (d := 8) rfl rfl (by kernel_rfl) (e_assign (v := .bool false) rfl) ?_
    refine wpList_nil ?_
    refine then_n ?_
    refine wp_ret ?_
    refine then_r ?_
    obtain rfl := Option.some.inj M
    exact ret1 rfl rfl  (show _ = .bool false from (by kernel_rfl)) ⟨rfl, S236.chg⟩
  replace M := ifn q239 M
  refine lvg (d := 79) (t := 78) rfl (by kernel_rfl) rfl (bf q239 (by kernel_rfl)) rfl (by kernel_rfl) (e_move (v := .slice A115 t110.1.length c116) (by kernel_rfl)) ?_
  refine lvg (d := 80) (t := 78) rfl (by kernel_rfl) rfl (bf q239 (by kernel_rfl)) rfl (by kernel_rfl) (e_move (v := .slice A63 t58.1.length c64) (by kernel_rfl)) ?_
  obtain ⟨t240, u241, M⟩ := bnd M
  refine lcallg (d := 81) (t := 78) rfl (by kernel_rfl) rfl (bf q239 (by kernel_rfl)) rfl (by kernel_rfl) (e_call (l := [.tmp 79, .tmp 80]) (vs := [.slice A115 t110.1.length c116, .slice A63 t58.1.length c64]) Try.func11 (by kernel_rfl) rfl (by kernel_rfl) rfl) (by have l242 := h117.le; have S243 := S236.pull (F := F118) (Fr := [F234, F222, F191, F159, F66]) 4 rfl rfl; obtain ⟨H244, S245, E246, h247, z248⟩ := S243.frzRow h117; replace h233 := h233.ext E246; replace h221 := h221.ext E246; replace h190 := h190.ext E246; replace h158 := h158.ext E246; replace h65 := h65.ext E246; have l249 := h65.le; have S250 := S245.pull (F := F66) (Fr := [F234, F222, F191, F159]) 4 rfl rfl; obtain ⟨H251, S252, E253, h254, z255⟩ := S250.frzRow h65; replace h233 := h233.ext E253; replace h221 := h221.ext E253; replace h190 := h190.ext E253; replace h158 := h158.ext E253; replace h254 := h254.unro; exact (laws_eqOpS.calls k w230 H251 t110.1 A115 c116 t58.1 A63 c64 (h247.ext E253) l242 h254 l249 S252.own0 t240 u241)) ?_
  rintro _ w256 ⟨rfl, C257⟩
  refine ⟨_, rfl, ?_⟩
  obtain ⟨S258, K259⟩ := S236.still C257
  replace h233 := h233.move (K259.at 0 rfl)
  replace h221 := h221.move (K259.at 1 rfl)
  replace h190 := h190.move (K259.at 2 rfl)
  replace h158 := h158.move (K259.at 3 rfl)
  replace h117 := h117.move (K259.at 4 rfl)
  replace h65 := h65.move (K259.at 5 rfl)
  refine lvg (d := 82) (t := 78) rfl (by kernel_rfl) rfl (bf q239 (by kernel_rfl)) rfl (by kernel_rfl) (e_notv (c := t240) (by kernel_rfl)) ?_
  refine lv (d := 83) rfl rfl (by kernel_rfl) (e_pick_f (v := .bool (decide (¬ (t240 = true)))) (bf q239 (by kernel_rfl)) (by kernel_rfl)) ?_
  refine lv (d := 84) rfl rfl (by kernel_rfl) (e_move (v := .bool (decide (¬ (t240 = true)))) (by kernel_rfl)) ?_
  by_cases q260 : ¬ (t240 = true)
  · replace M := ifp q260 M
    refine lskip (t := 84) (c := true) rfl (by kernel_rfl) rfl (bt q260 (by kernel_rfl)) rfl rfl ?_
    refine lskip (t := 84) (c := true) rfl (by kernel_rfl) rfl (bt q260 (by kernel_rfl)) rfl rfl ?_
    refine lskip (t := 84) (c := true) rfl (by kernel_rfl) rfl (bt q260 (by kernel_rfl)) rfl rfl ?_
    refine lv (d := 88) rfl rfl (by kernel_rfl) (e_pick_t (v := .bool true) (bt q260 (by kernel_rfl)) rfl) ?_
    refine wpList_nil ?_
    refine then_n ?_
    refine cond_t rfl (by kernel_rfl) ?_
    refine wp_seq ?_
    refine wp_region_lit ?_
    refine lv (d := 8) rfl rfl (by kernel_rfl) (e_assign (v := .bool false) rfl) ?_
    refine wpList_nil ?_
    refine then_n ?_
    refine wp_ret ?_
    refine then_r ?_
    obtain rfl := Option.some.inj M
    exact ret1 rfl rfl  (show _ = .bool false from (by kernel_rfl)) ⟨rfl, S258.chg⟩
  replace M := ifn q260 M
  refine lvg (d := 85) (t := 84) rfl (by kernel_rfl) rfl (bf q260 (by kernel_rfl)) rfl (by kernel_rfl) (e_move (v := .int .i64 t110.2) (by kernel_rfl)) ?_
  refine lvg (d := 86) (t := 84) rfl (by kernel_rfl) rfl (bf q260 (by kernel_rfl)) rfl (by kernel_rfl) (e_move (v := .int .i64 t58.2) (by kernel_rfl)) ?_
  refine lvg (d := 87) (t := 84) rfl (by kernel_rfl) rfl (bf q260 (by kernel_rfl)) rfl (by kernel_rfl) (e_neq (k := .i64) (a := t110.2) (b := t58.2) (by kernel_rfl) (by kernel_rfl)) ?_
  refine lv (d := 88) rfl rfl (by kernel_rfl) (e_pick_f (v := .bool (decide (t110.2 ≠ t58.2))) (bf q260 (by kernel_rfl)) (by kernel_rfl)) ?_
  refine wpList_nil ?_
  refine then_n ?_
  refine cond_f rfl (bf q150 (by kernel_rfl)) ?_
  refine wp_skip ?_
  refine then_n ?_
  refine wp_seq ?_
  refine wp_region_lit ?_
  refine lv (d := 17) rfl rfl (by kernel_rfl) (e_assign (v := .int .i64 1) rfl) ?_
  refine wpList_nil ?_
  refine then_n ?_
  refine wp_seq ?_
  refine wp_region_lit ?_
  refine lv (d := 89) rfl rfl (by kernel_rfl) (e_move (v := .slice A115 t110.1.length c116) (by kernel_rfl)) ?_
  refine lv (d := 90) rfl rfl (by kernel_rfl) (e_move (v := .int .i64 1) (by kernel_rfl)) ?_
  have S261 := S258.pull (F := F118) (Fr := [F234, F222, F191, F159, F66]) 4 rfl rfl
  obtain ⟨t262, u263, M⟩ := bnd M
  refine lcall (d := 91) rfl rfl (by kernel_rfl) (e_call (l := [.tmp 89, .tmp 90]) (vs := [.slice A115 t110.1.length c116, .int .i64 1]) Try.func14 (by kernel_rfl) rfl (by kernel_rfl) rfl) (laws_markOpS_2.calls k w256 H231 t110.1 A115 c116 F118 1 h117 (St.own' (Fa := [F118]) (Fr := [F234, F222, F191, F159, F66]) S261) t262 u263) ?_
  rintro _ w264 ⟨F268, H265, rfl, n269, h267, T266⟩
  refine ⟨_, rfl, ?_⟩
  obtain ⟨S270, K271⟩ := St.call (Fa := [F118]) (Fr := [F234, F222, F191, F159, F66]) S261 T266
  replace h233 := h233.move (K271.at 0 rfl)
  replace h221 := h221.move (K271.at 1 rfl)
  replace h190 := h190.move (K271.at 2 rfl)
  replace h158 := h158.move (K271.at 3 rfl)
  replace h65 := h65.move (K271.at 4 rfl)
  have E272 := T266.ext
  replace h233 := h233.ext E272
  replace h221 := h221.ext E272
  replace h190 := h190.ext E272
  replace h158 := h158.ext E272
  replace h65 := h65.ext E272
  refine lv (d := 17) rfl rfl (by kernel_rfl) (e_assign (v := .int .i64 t262.1) (by kernel_rfl)) ?_
  refine wpList_nil ?_
  refine then_n ?_
  refine wp_seq ?_
  refine wp_region_lit ?_
  refine lv (d := 18) rfl rfl (by kernel_rfl) (e_assign (v := .int .i64 1) rfl) ?_
  refine wpList_nil ?_
  refine then_n ?_
  refine wp_seq ?_
  refine wp_region_lit ?_
  refine lv (d := 92) rfl rfl (by kernel_rfl) (e_move (v := .slice A115 t110.1.length c116) (by kernel_rfl)) ?_
  refine lv (d := 93) rfl rfl (by kernel_rfl) (e_move (v := .int .i64 1) (by kernel_rfl)) ?_
  obtain ⟨t273, u274, M⟩ := bnd M
  refine lcall (d := 94) rfl rfl (by kernel_rfl) (e_call (l := [.tmp 92, .tmp 93]) (vs := [.slice A115 t110.1.length c116, .int .i64 1]) Try.func15 (by kernel_rfl) rfl (by kernel_rfl) rfl) (by have l275 := h267.le; obtain ⟨H276, S277, E278, h279, z280⟩ := S270.frzRow h267; replace h233 := h233.ext E278; replace h221 := h221.ext E278; replace h190 := h190.ext E278; replace h158 := h158.ext E278; replace h65 := h65.ext E278; exact (by have q_ := (laws_heldOpS.calls k w264 H276 t262.2 A115 c116 1 h279 l275 S277.own0 t273 u274); (try rw [(show t262.2.length = t110.1.length from n269)] at q_); exact q_)) ?_
  rintro _ w281 ⟨rfl, C282⟩
  refine ⟨_, rfl, ?_⟩
  obtain ⟨S283, K284⟩ := S270.still C282
  replace h267 := h267.move (K284.at 0 rfl)
  replace h233 := h233.move (K284.at 1 rfl)
  replace h221 := h221.move (K284.at 2 rfl)
  replace h190 := h190.move (K284.at 3 rfl)
  replace h158 := h158.move (K284.at 4 rfl)
  replace h65 := h65.move (K284.at 5 rfl)
  refine lv (d := 18) rfl rfl (by kernel_rfl) (e_assign (v := .int .i64 t273) (by kernel_rfl)) ?_
  refine wpList_nil ?_
  refine then_n ?_
  refine wp_seq ?_
  refine wp_seq ?_
  refine wp_region_lit ?_
  refine lv (d := 95) rfl rfl (by kernel_rfl) (e_move (v := .int .i64 t273) (by kernel_rfl)) ?_
  refine lv (d := 96) rfl rfl (by kernel_rfl) (e_lss (k := .i64) (a := t273) (b := 0) (by kernel_rfl) rfl) ?_
  refine wpList_nil ?_
  refine then_n ?_
  by_cases q285 : t273 < 0
  · replace M := ifp q285 M
    refine cond_t rfl (bt q285 (by kernel_rfl)) ?_
    refine wp_seq ?_
    refine wp_region_lit ?_
    refine lv (d := 8) rfl rfl (by kernel_rfl) (e_assign (v := .bool false) rfl) ?_
    refine wpList_nil ?_
    refine then_n ?_
    refine wp_ret ?_
    refine then_r ?_
    obtain rfl := Option.some.inj M
    exact ret1 rfl rfl  (show _ = .bool false from (by kernel_rfl)) ⟨rfl, S283.chg⟩
  replace M := ifn q285 M
  refine cond_f rfl (bf q285 (by kernel_rfl)) ?_
  refine wp_skip ?_
  refine then_n ?_
  refine wp_seq ?_
  refine wp_seq ?_
  refine wp_region_lit ?_
  refine lv (d := 97) rfl rfl (by kernel_rfl) (e_move (v := .int .i64 t273) (by kernel_rfl)) ?_
  refine lv (d := 98) rfl rfl (by kernel_rfl) (e_move (v := .int .i64 t262.1) (by kernel_rfl)) ?_
  refine lv (d := 99) rfl rfl (by kernel_rfl) (e_neq (k := .i64) (a := t273) (b := t262.1) (by kernel_rfl) (by kernel_rfl)) ?_
  refine wpList_nil ?_
  refine then_n ?_
  by_cases q286 : t273 ≠ t262.1
  · replace M := ifp q286 M
    refine cond_t rfl (bt q286 (by kernel_rfl)) ?_
    refine wp_seq ?_
    refine wp_region_lit ?_
    refine lv (d := 8) rfl rfl (by kernel_rfl) (e_assign (v := .bool false) rfl) ?_
    refine wpList_nil ?_
    refine then_n ?_
    refine wp_ret ?_
    refine then_r ?_
    obtain rfl := Option.some.inj M
    exact ret1 rfl rfl  (show _ = .bool false from (by kernel_rfl)) ⟨rfl, S283.chg⟩
  replace M := ifn q286 M
  refine cond_f rfl (bf q286 (by kernel_rfl)) ?_
  refine wp_skip ?_
  refine then_n ?_
  refine wp_seq ?_
  refine wp_region_lit ?_
  refine lv (d := 101) rfl rfl (by kernel_rfl) (e_move (v := .slice A2 x1.length c3) (by kernel_rfl)) ?_
  obtain ⟨t287, u288, M⟩ := bnd M
  refine lcall (d := 102) rfl rfl (by kernel_rfl) (e_call (l := [.tmp 101]) (vs := [.slice A2 x1.length c3]) Try.func9 (by kernel_rfl) rfl (by kernel_rfl) rfl) (laws_toOpS.calls k w281 H265 x1 A2 c3 (h4.ext ((((((((((((E32.trans E44).trans E49).trans E55).trans E69).trans E81).trans E93).trans E127).trans E162).trans E194).trans E226).trans E238).trans E272)) l5 (St.own' (Fa := []) (Fr := [F268, F234, F222, F191, F159, F66]) S283) t287 u288) ?_
  rintro _ w289 ⟨A292, c293, F295, H290, rfl, h294, T291⟩
  refine ⟨_, rfl, ?_⟩
  obtain ⟨S296, K297⟩ := St.call (Fa := []) (Fr := [F268, F234, F222, F191, F159, F66]) S283 T291
  replace h267 := h267.move (K297.at 0 rfl)
  replace h233 := h233.move (K297.at 1 rfl)
  replace h221 := h221.move (K297.at 2 rfl)
  replace h190 := h190.move (K297.at 3 rfl)
  replace h158 := h158.move (K297.at 4 rfl)
  replace h65 := h65.move (K297.at 5 rfl)
  have E298 := T291.ext
  replace h267 := h267.ext E298
  replace h233 := h233.ext E298
  replace h221 := h221.ext E298
  replace h190 := h190.ext E298
  replace h158 := h158.ext E298
  replace h65 := h65.ext E298
  refine lv (d := 103) rfl rfl (by kernel_rfl) (e_move (v := .int .i64 x6) (by kernel_rfl)) ?_
  refine lv (d := 104) rfl rfl (by kernel_rfl) (e_move (v := .int .i64 x7) (by kernel_rfl)) ?_
  refine lv (d := 105) rfl rfl (by kernel_rfl) (e_move (v := .slice A9 x8.length c10) (by kernel_rfl)) ?_
  obtain ⟨t299, u300, M⟩ := bnd M
  refine lcall (d := 106) rfl rfl (by kernel_rfl) (e_call (l := [.tmp 105]) (vs := [.slice A9 x8.length c10]) Try.func17 (by kernel_rfl) rfl (by kernel_rfl) rfl) (laws_toByteS.calls k w289 H290 x8 A9 c10 (h11.ext (((((((((((((E32.trans E44).trans E49).trans E55).trans E69).trans E81).trans E93).trans E127).trans E162).trans E194).trans E226).trans E238).trans E272).trans E298)) l12 (St.own' (Fa := []) (Fr := [F295, F268, F234, F222, F191, F159, F66]) S296) t299 u300) ?_
  rintro _ w301 ⟨A304, c305, F307, H302, rfl, h306, T303⟩
  refine ⟨_, rfl, ?_⟩
  obtain ⟨S308, K309⟩ := St.call (Fa := []) (Fr := [F295, F268, F234, F222, F191, F159, F66]) S296 T303
  replace h294 := h294.move (K309.at 0 rfl)
  replace h267 := h267.move (K309.at 1 rfl)
  replace h233 := h233.move (K309.at 2 rfl)
  replace h221 := h221.move (K309.at 3 rfl)
  replace h190 := h190.move (K309.at 4 rfl)
  replace h158 := h158.move (K309.at 5 rfl)
  replace h65 := h65.move (K309.at 6 rfl)
  have E310 := T303.ext
  replace h294 := h294.ext E310
  replace h267 := h267.ext E310
  replace h233 := h233.ext E310
  replace h221 := h221.ext E310
  replace h190 := h190.ext E310
  replace h158 := h158.ext E310
  replace h65 := h65.ext E310
  have l311 := h294.le
  have S312 := S308.pull (F := F295) (Fr := [F307, F268, F234, F222, F191, F159, F66]) 1 rfl rfl
  obtain ⟨H313, S314, E315, h316, z317⟩ := S312.frzRow h294
  replace h306 := h306.ext E315
  replace h267 := h267.ext E315
  replace h233 := h233.ext E315
  replace h221 := h221.ext E315
  replace h190 := h190.ext E315
  replace h158 := h158.ext E315
  replace h65 := h65.ext E315
  have l318 := h306.le
  obtain ⟨H319, S320, E321, h322, z323⟩ := S314.frzRow h306
  replace h267 := h267.ext E321
  replace h233 := h233.ext E321
  replace h221 := h221.ext E321
  replace h190 := h190.ext E321
  replace h158 := h158.ext E321
  replace h65 := h65.ext E321
  obtain ⟨t324, u325, M⟩ := bnd M
  refine lcall (d := 107) rfl rfl (by kernel_rfl) (e_call (l := [.tmp 102, .tmp 103, .tmp 104, .tmp 106]) (vs := [.slice A292 t287.length c293, .int .i64 x6, .int .i64 x7, .slice A304 t299.length c305]) Try.func18 (by kernel_rfl) rfl (by kernel_rfl) rfl) (impl_AddOp.calls k w301 H319 t287 A292 c293 x6 x7 t299 A304 c305 (h316.ext E321) l311 h322 l318 (St.own' (Fa := []) (Fr := [F268, F234, F222, F191, F159, F66]) S320) t324 u325) ?_
  rintro _ w326 ⟨A329, c330, F332, H327, rfl, h331, T328⟩
  refine ⟨_, rfl, ?_⟩
  obtain ⟨S333, K334⟩ := St.call (Fa := []) (Fr := [F268, F234, F222, F191, F159, F66]) S320 T328
  replace h267 := h267.move (K334.at 0 rfl)
  replace h233 := h233.move (K334.at 1 rfl)
  replace h221 := h221.move (K334.at 2 rfl)
  replace h190 := h190.move (K334.at 3 rfl)
  replace h158 := h158.move (K334.at 4 rfl)
  replace h65 := h65.move (K334.at 5 rfl)
  have E335 := T328.ext
  replace h267 := h267.ext E335
  replace h233 := h233.ext E335
  replace h221 := h221.ext E335
  replace h190 := h190.ext E335
  replace h158 := h158.ext E335
  replace h65 := h65.ext E335
  refine lv (d := 100) rfl rfl (by kernel_rfl) (e_move (v := .tuple #[.slice A329 t324.1.length c330, .int .i64 t324.2]) (by kernel_rfl)) ?_
  refine lv (d := 108) rfl rfl (by kernel_rfl) (e_extract (vs := #[.slice A329 t324.1.length c330, .int .i64 t324.2]) (v := .slice A329 t324.1.length c330) (by kernel_rfl) rfl) ?_
  refine lv (d := 109) rfl rfl (by kernel_rfl) (e_extract (vs := #[.slice A329 t324.1.length c330, .int .i64 t324.2]) (v := .int .i64 t324.2) (by kernel_rfl) rfl) ?_
  refine lv (d := 19) rfl rfl (by kernel_rfl) (e_assign (v := .slice A329 t324.1.length c330) (by kernel_rfl)) ?_
  refine lv (d := 20) rfl rfl (by kernel_rfl) (e_assign (v := .int .i64 t324.2) (by kernel_rfl)) ?_
  refine wpList_nil ?_
  refine then_n ?_
  refine wp_seq ?_
  refine wp_seq ?_
  refine wp_region_lit ?_
  refine lv (d := 110) rfl rfl (by kernel_rfl) (e_move (v := .slice A329 t324.1.length c330) (by kernel_rfl)) ?_
  refine lv (d := 111) rfl rfl (by kernel_rfl) (e_move (v := .slice A63 t58.1.length c64) (by kernel_rfl)) ?_
  obtain ⟨t336, u337, M⟩ := bnd M
  refine lcall (d := 112) rfl rfl (by kernel_rfl) (e_call (l := [.tmp 110, .tmp 111]) (vs := [.slice A329 t324.1.length c330, .slice A63 t58.1.length c64]) Try.func11 (by kernel_rfl) rfl (by kernel_rfl) rfl) (by have l338 := h331.le; obtain ⟨H339, S340, E341, h342, z343⟩ := S333.frzRow h331; replace h267 := h267.ext E341; replace h233 := h233.ext E341; replace h221 := h221.ext E341; replace h190 := h190.ext E341; replace h158 := h158.ext E341; replace h65 := h65.ext E341; have l344 := h65.le; have S345 := S340.pull (F := F66) (Fr := [F268, F234, F222, F191, F159]) 5 rfl rfl; obtain ⟨H346, S347, E348, h349, z350⟩ := S345.frzRow h65; replace h267 := h267.ext E348; replace h233 := h233.ext E348; replace h221 := h221.ext E348; replace h190 := h190.ext E348; replace h158 := h158.ext E348; replace h349 := h349.unro; exact (laws_eqOpS.calls k w326 H346 t324.1 A329 c330 t58.1 A63 c64 (h342.ext E348) l338 h349 l344 S347.own0 t336 u337)) ?_
  rintro _ w351 ⟨rfl, C352⟩
  refine ⟨_, rfl, ?_⟩
  obtain ⟨S353, K354⟩ := S333.still C352
  replace h331 := h331.move (K354.at 0 rfl)
  replace h267 := h267.move (K354.at 1 rfl)
  replace h233 := h233.move (K354.at 2 rfl)
  replace h221 := h221.move (K354.at 3 rfl)
  replace h190 := h190.move (K354.at 4 rfl)
  replace h158 := h158.move (K354.at 5 rfl)
  replace h65 := h65.move (K354.at 6 rfl)
  refine lv (d := 113) rfl rfl (by kernel_rfl) (e_notv (c := t336) (by kernel_rfl)) ?_
  refine lv (d := 114) rfl rfl (by kernel_rfl) (e_move (v := .bool (decide (¬ (t336 = true)))) (by kernel_rfl)) ?_
  by_cases q355 : ¬ (t336 = true)
  · replace M := ifp q355 M
    refine lskip (t := 114) (c := true) rfl (by kernel_rfl) rfl (bt q355 (by kernel_rfl)) rfl rfl ?_
    refine lskip (t := 114) (c := true) rfl (by kernel_rfl) rfl (bt q355 (by kernel_rfl)) rfl rfl ?_
    refine lskip (t := 114) (c := true) rfl (by kernel_rfl) rfl (bt q355 (by kernel_rfl)) rfl rfl ?_
    refine lv (d := 118) rfl rfl (by kernel_rfl) (e_pick_t (v := .bool true) (bt q355 (by kernel_rfl)) rfl) ?_
    refine wpList_nil ?_
    refine then_n ?_
    refine cond_t rfl (by kernel_rfl) ?_
    refine wp_seq ?_
    refine wp_region_lit ?_
    refine lv (d := 8) rfl rfl (by kernel_rfl) (e_assign (v := .bool false) rfl) ?_
    refine wpList_nil ?_
    refine then_n ?_
    refine wp_ret ?_
    refine then_r ?_
    obtain rfl := Option.some.inj M
    exact ret1 rfl rfl  (show _ = .bool false from (by kernel_rfl)) ⟨rfl, S353.chg⟩
  replace M := ifn q355 M
  refine lvg (d := 115) (t := 114) rfl (by kernel_rfl) rfl (bf q355 (by kernel_rfl)) rfl (by kernel_rfl) (e_move (v := .int .i64 t324.2) (by kernel_rfl)) ?_
  refine lvg (d := 116) (t := 114) rfl (by kernel_rfl) rfl (bf q355 (by kernel_rfl)) rfl (by kernel_rfl) (e_move (v := .int .i64 t58.2) (by kernel_rfl)) ?_
  refine lvg (d := 117) (t := 114) rfl (by kernel_rfl) rfl (bf q355 (by kernel_rfl)) rfl (by kernel_rfl) (e_neq (k := .i64) (a := t324.2) (b := t58.2) (by kernel_rfl) (by kernel_rfl)) ?_
  refine lv (d := 118) rfl rfl (by kernel_rfl) (e_pick_f (v := .bool (decide (t324.2 ≠ t58.2))) (bf q355 (by kernel_rfl)) (by kernel_rfl)) ?_
  refine wpList_nil ?_
  refine then_n ?_
  by_cases q356 : t324.2 ≠ t58.2
  · replace M := ifp q356 M
    refine cond_t rfl (bt q356 (by kernel_rfl)) ?_
    refine wp_seq ?_
    refine wp_region_lit ?_
    refine lv (d := 8) rfl rfl (by kernel_rfl) (e_assign (v := .bool false) rfl) ?_
    refine wpList_nil ?_
    refine then_n ?_
    refine wp_ret ?_
    refine then_r ?_
    obtain rfl := Option.some.inj M
    exact ret1 rfl rfl  (show _ = .bool false from (by kernel_rfl)) ⟨rfl, S353.chg⟩
  replace M := ifn q356 M
  refine cond_f rfl (bf q356 (by kernel_rfl)) ?_
  refine wp_skip ?_
  refine then_n ?_
  refine wp_seq ?_
  refine wp_region_lit ?_
  refine lv (d := 18) rfl rfl (by kernel_rfl) (e_assign (v := .int .i64 1) rfl) ?_
  refine wpList_nil ?_
  refine then_n ?_
  refine wp_seq ?_
  refine wp_region_lit ?_
  refine lv (d := 119) rfl rfl (by kernel_rfl) (e_move (v := .slice A115 t110.1.length c116) (by kernel_rfl)) ?_
  refine lv (d := 120) rfl rfl (by kernel_rfl) (e_move (v := .int .i64 1) (by kernel_rfl)) ?_
  obtain ⟨t357, u358, M⟩ := bnd M
  refine lcall (d := 121) rfl rfl (by kernel_rfl) (e_call (l := [.tmp 119, .tmp 120]) (vs := [.slice A115 t110.1.length c116, .int .i64 1]) Try.func15 (by kernel_rfl) rfl (by kernel_rfl) rfl) (by have l359 := h267.le; have S360 := S353.pull (F := F268) (Fr := [F332, F234, F222, F191, F159, F66]) 1 rfl rfl; obtain ⟨H361, S362, E363, h364, z365⟩ := S360.frzRow h267; replace h331 := h331.ext E363; replace h233 := h233.ext E363; replace h221 := h221.ext E363; replace h190 := h190.ext E363; replace h158 := h158.ext E363; replace h65 := h65.ext E363; exact (by have q_ := (laws_heldOpS.calls k w351 H361 t262.2 A115 c116 1 h364 l359 S362.own0 t357 u358); (try rw [(show t262.2.length = t110.1.length from n269)] at q_); exact q_)) ?_
  rintro _ w366 ⟨rfl, C367⟩
  refine ⟨_, rfl, ?_⟩
  obtain ⟨S368, K369⟩ := S353.still C367
  replace h331 := h331.move (K369.at 0 rfl)
  replace h267 := h267.move (K369.at 1 rfl)
  replace h233 := h233.move (K369.at 2 rfl)
  replace h221 := h221.move (K369.at 3 rfl)
  replace h190 := h190.move (K369.at 4 rfl)
  replace h158 := h158.move (K369.at 5 rfl)
  replace h65 := h65.move (K369.at 6 rfl)
  refine lv (d := 18) rfl rfl (by kernel_rfl) (e_assign (v := .int .i64 t357) (by kernel_rfl)) ?_
  refine wpList_nil ?_
  refine then_n ?_
  refine wp_seq ?_
  refine wp_seq ?_
  refine wp_region_lit ?_
  refine lv (d := 122) rfl rfl (by kernel_rfl) (e_move (v := .int .i64 t357) (by kernel_rfl)) ?_
  refine lv (d := 123) rfl rfl (by kernel_rfl) (e_lss (k := .i64) (a := t357) (b := 0) (by kernel_rfl) rfl) ?_
  refine wpList_nil ?_
  refine then_n ?_
  by_cases q370 : t357 < 0
  · replace M := ifp q370 M
    refine cond_t rfl (bt q370 (by kernel_rfl)) ?_
    refine wp_seq ?_
    refine wp_region_lit ?_
    refine lv (d := 8) rfl rfl (by kernel_rfl) (e_assign (v := .bool false) rfl) ?_
    refine wpList_nil ?_
    refine then_n ?_
    refine wp_ret ?_
    refine then_r ?_
    obtain rfl := Option.some.inj M
    exact ret1 rfl rfl  (show _ = .bool false from (by kernel_rfl)) ⟨rfl, S368.chg⟩
  replace M := ifn q370 M
  refine cond_f rfl (bf q370 (by kernel_rfl)) ?_
  refine wp_skip ?_
  refine then_n ?_
  refine wp_seq ?_
  refine wp_seq ?_
  refine wp_region_lit ?_
  refine lv (d := 124) rfl rfl (by kernel_rfl) (e_move (v := .int .i64 t357) (by kernel_rfl)) ?_
  refine lv (d := 125) rfl rfl (by kernel_rfl) (e_move (v := .int .i64 t262.1) (by kernel_rfl)) ?_
  refine lv (d := 126) rfl rfl (by kernel_rfl) (e_neq (k := .i64) (a := t357) (b := t262.1) (by kernel_rfl) (by kernel_rfl)) ?_
  refine wpList_nil ?_
  refine then_n ?_
  by_cases q371 : t357 ≠ t262.1
  · replace M := ifp q371 M
    refine cond_t rfl (bt q371 (by kernel_rfl)) ?_
    refine wp_seq ?_
    refine wp_region_lit ?_
    refine lv (d := 8) rfl rfl (by kernel_rfl) (e_assign (v := .bool false) rfl) ?_
    refine wpList_nil ?_
    refine then_n ?_
    refine wp_ret ?_
    refine then_r ?_
    obtain rfl := Option.some.inj M
    exact ret1 rfl rfl  (show _ = .bool false from (by kernel_rfl)) ⟨rfl, S368.chg⟩
  replace M := ifn q371 M
  refine cond_f rfl (bf q371 (by kernel_rfl)) ?_
  refine wp_skip ?_
  refine then_n ?_
  refine wp_seq ?_
  refine wp_region_lit ?_
  refine lv (d := 8) rfl rfl (by kernel_rfl) (e_assign (v := .bool true) rfl) ?_
  refine wpList_nil ?_
  refine then_n ?_
  refine wp_ret ?_
  obtain rfl := Option.some.inj M
  exact ret1 rfl rfl  (show _ = .bool true from (by kernel_rfl)) ⟨rfl, S368.chg⟩
end Go.Proofs.Ytminnekeekhjcaa
