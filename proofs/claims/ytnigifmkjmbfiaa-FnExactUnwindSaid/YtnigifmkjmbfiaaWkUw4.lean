import Derived.Test.YtnigifmkjmbfiaaWkUw3
namespace Go.Proofs.Ytnigifmkjmbfiaa
open Go.Sx Go.Sy
attribute [local irreducible] Go.wpList Go.wpStill Go.wpQuiet Go.Code.wp
set_option maxRecDepth 100000
set_option maxHeartbeats 1000000
set_option linter.unusedVariables false
set_option linter.unusedSimpArgs false

/-! laws_heldIntS -/
def laws_heldIntS.l0 : Nat → (List Int) → Int → Int → Option Int
  | 0, _, _, _ => none
  | k19 + 1, x1, x9, x10 => (if x10 < (x1.length : Int) then (if 0 ≤ x10 then (if (x1.getD ((x10).toNat) (0 : Int)) ≠ x9 then some (-1) else (laws_heldIntS.l0 k19 x1 (IntKind.i64.wrap (x9 + 1)) (IntKind.i64.wrap (x10 + 1)))) else none) else some x9)
def laws_heldIntS.f (k : Nat) (x1 : List Int) (x6 : Int) : Option Int := (laws_heldIntS.l0 k x1 x6 0)
theorem laws_heldIntS.calls (k : Nat) (w : World) (H : Hp) (x1 : List Int) (A2 : Option Addr) (c3 : Nat) (x6 : Int) (h4 : Rd tInt H A2 x1) (l5 : x1.length ≤ c3) (S : Own [] H w) (r : Int) (M : laws_heldIntS.f k x1 x6 = some r) :
    Calls Try.prog 60 #[.slice A2 x1.length c3, .int .i64 x6] w (fun e e_w => e = .returned (.int .i64 r) ∧ Chg no w e_w) := by
  rw [laws_heldIntS.f] at M
  refine enter (l := [.slice A2 x1.length c3, .int .i64 x6]) 21 Try.func60 rfl rfl rfl ?_
  have S0_ := S.st
  refine wp_seq ?_
  refine wp_region_lit ?_
  refine lv (d := 4) rfl rfl (by kernel_rfl) (e_assign (v := .int .i64 0) rfl) ?_
  refine wpList_nil ?_
  refine then_n ?_
  refine wp_seq ?_
  refine wp_seq ?_
  refine wp_region_lit ?_
  refine lv (d := 5) rfl rfl (by kernel_rfl) (e_assign (v := .int .i64 0) rfl) ?_
  refine wpList_nil ?_
  refine then_n ?_
  refine wp_block ?_
  refine wp_loop_g (fun k17 a18 w7 => ∃ (f8 : Nat → Value) (x9 : Int) (x10 : Int), a18 = mk 21 f8 ∧ f8 0 = .slice A2 x1.length c3 ∧ f8 1 = .int .i64 x9 ∧ f8 5 = .int .i64 x10 ∧ St (anyOf []) H w [] H w7 ∧ laws_heldIntS.l0 k17 x1 x9 x10 = some r) k ⟨_, x6, 0, rfl, (by kernel_rfl), (by kernel_rfl), (by kernel_rfl), S0_, M⟩ ?_
  clear M
  rintro k17 a18 w7 ⟨f8, x9, x10, rfl, e11, e12, e13, S14, M⟩
  rcases k17 with _ | k19
  · rw [laws_heldIntS.l0] at M
    cases M
  rw [laws_heldIntS.l0] at M
  refine wp_seq ?_
  refine wp_seq ?_
  refine wp_region_lit ?_
  refine lv (d := 6) rfl rfl (by kernel_rfl) (e_move (v := .int .i64 x10) (by exact e13)) ?_
  refine lv (d := 7) rfl rfl (by kernel_rfl) (e_move (v := .slice A2 x1.length c3) (by exact e11)) ?_
  refine lv (d := 8) rfl rfl (by kernel_rfl) (e_len (A := A2) (n := x1.length) (c := c3) Try.underlying23 (by kernel_rfl)) ?_
  refine lv (d := 9) rfl rfl (by kernel_rfl) (e_lss (k := .i64) (a := x10) (b := (x1.length : Int)) (by kernel_rfl) (by kernel_rfl)) ?_
  refine wpList_nil ?_
  refine then_n ?_
  by_cases q20 : x10 < (x1.length : Int)
  · replace M := ifp q20 M
    refine cond_t rfl (bt q20 (by kernel_rfl)) ?_
    refine wp_skip ?_
    refine then_n ?_
    refine wp_seq ?_
    refine wp_block ?_
    refine wp_seq ?_
    refine wp_seq ?_
    refine wp_region_lit ?_
    refine lv (d := 12) rfl rfl (by kernel_rfl) (e_move (v := .slice A2 x1.length c3) (by exact e11)) ?_
    refine lv (d := 13) rfl rfl (by kernel_rfl) (e_move (v := .int .i64 x10) (by exact e13)) ?_
    obtain ⟨q21, M⟩ := chk M
    obtain ⟨b22, o23, e24⟩ := Rd.addr h4 (show (x10).toNat < x1.length by omega)
    obtain ⟨y25, r26, k27⟩ := Rd.at h4 e24 (getD_some (0 : Int) (show (x10).toNat < x1.length by omega))
    obtain rfl := r26
    refine lv (d := 14) rfl rfl (by kernel_rfl) (e_indexAddr (b := b22) (off := o23) (n := x1.length) (c := c3) (sz := 1) (i := x10) (k := .i64) Try.underlying23 e24 (by kernel_rfl) (by kernel_rfl) (by kernel_rfl) q21 q20) ?_
    refine lv (d := 15) rfl rfl (by kernel_rfl) (e_load1 (ad := ⟨b22, o23 + (x10 : Int).toNat * 1, none⟩) (v := .int .i64 (x1.getD ((x10).toNat) (0 : Int))) Try.underlying3 rfl (by kernel_rfl) (hpx (S14.inv.cell (k27 0 _ rfl)))) ?_
    refine lv (d := 16) rfl rfl (by kernel_rfl) (e_move (v := .int .i64 x9) (by exact e12)) ?_
    refine lv (d := 17) rfl rfl (by kernel_rfl) (e_neq (k := .i64) (a := (x1.getD ((x10).toNat) (0 : Int))) (b := x9) (by kernel_rfl) (by kernel_rfl)) ?_
    refine wpList_nil ?_
    refine then_n ?_
    by_cases q28 : (x1.getD ((x10).toNat) (0 : Int)) ≠ x9
    · replace M := ifp q28 M
      refine cond_t rfl (bt q28 (by kernel_rfl)) ?_
      refine wp_seq ?_
      refine wp_region_lit ?_
      refine lv (d := 4) rfl rfl (by kernel_rfl) (e_assign (v := .int .i64 (-1)) rfl) ?_
      refine wpList_nil ?_
      refine then_n ?_
      refine wp_ret ?_
      refine then_r ?_
      refine inb_r ?_
      refine then_r ?_
      refine then_r ?_
      refine inb_r ?_
      refine then_r ?_
      obtain rfl := Option.some.inj M
      exact ret1 rfl rfl  (show _ = .int .i64 (-1) from (by kernel_rfl)) ⟨rfl, S14.chg⟩
    replace M := ifn q28 M
    refine cond_f rfl (bf q28 (by kernel_rfl)) ?_
    refine wp_skip ?_
    refine then_n ?_
    refine wp_region_lit ?_
    refine lv (d := 18) rfl rfl (by kernel_rfl) (e_move (v := .int .i64 x9) (by exact e12)) ?_
    refine lv (d := 19) rfl rfl (by kernel_rfl) (e_add (k := .i64) (a := x9) (b := 1) (by kernel_rfl) rfl) ?_
    refine lv (d := 1) rfl rfl (by kernel_rfl) (e_assign (v := .int .i64 (IntKind.i64.wrap (x9 + 1))) (by kernel_rfl)) ?_
    refine wpList_nil ?_
    refine inb_n ?_
    refine then_n ?_
    refine wp_region_lit ?_
    refine lv (d := 10) rfl rfl (by kernel_rfl) (e_move (v := .int .i64 x10) (by exact e13)) ?_
    refine lv (d := 11) rfl rfl (by kernel_rfl) (e_add (k := .i64) (a := x10) (b := 1) (by kernel_rfl) rfl) ?_
    refine lv (d := 5) rfl rfl (by kernel_rfl) (e_assign (v := .int .i64 (IntKind.i64.wrap (x10 + 1))) (by kernel_rfl)) ?_
    refine wpList_nil ?_
    refine then_n ?_
    exact ⟨k19, (by omega), _, (IntKind.i64.wrap (x9 + 1)), (IntKind.i64.wrap (x10 + 1)), rfl, (by exact e11), (by kernel_rfl), (by kernel_rfl), S14, M⟩
  replace M := ifn q20 M
  refine cond_f rfl (bf q20 (by kernel_rfl)) ?_
  refine wp_exit ?_
  refine then_e ?_
  refine then_e ?_
  refine inb_hit ?_
  refine then_n ?_
  refine wp_seq ?_
  refine wp_region_lit ?_
  refine lv (d := 20) rfl rfl (by kernel_rfl) (e_move (v := .int .i64 x9) (by exact e12)) ?_
  refine lv (d := 4) rfl rfl (by kernel_rfl) (e_assign (v := .int .i64 x9) (by kernel_rfl)) ?_
  refine wpList_nil ?_
  refine then_n ?_
  refine wp_ret ?_
  obtain rfl := Option.some.inj M
  exact ret1 rfl rfl  (show _ = .int .i64 x9 from (by kernel_rfl)) ⟨rfl, S14.chg⟩

/-! laws_heldStore -/
def laws_heldStore.f (k : Nat) (x1 : Store) (x10 : Int) : Option Int := ((laws_heldCellS.f k x1.cells x10).bind fun t16 => (if t16 < 0 then some (-1) else ((laws_heldIntS.f k x1.trail t16).bind fun t23 => (if t23 < 0 then some (-1) else some t23))))
theorem laws_heldStore.calls (k : Nat) (w : World) (H : Hp) (x1 : Store) (A2 : Option Addr) (c3 : Nat) (A6 : Option Addr) (c7 : Nat) (x10 : Int) (h4 : Rd st36 H A2 x1.cells) (l5 : x1.cells.length ≤ c3) (h8 : Rd tInt H A6 x1.trail) (l9 : x1.trail.length ≤ c7) (S : Own [] H w) (r : Int) (M : laws_heldStore.f k x1 x10 = some r) :
    Calls Try.prog 29 #[.agg #[.slice A2 x1.cells.length c3, .slice A6 x1.trail.length c7], .int .i64 x10] w (fun e e_w => e = .returned (.int .i64 r) ∧ Chg no w e_w) := by
  rw [laws_heldStore.f] at M
  refine enter (l := [.agg #[.slice A2 x1.cells.length c3, .slice A6 x1.trail.length c7], .int .i64 x10]) 18 Try.func29 rfl rfl rfl ?_
  have S0_ := S.st
  refine wp_seq ?_
  refine wp_region_lit ?_
  refine lve (d := 2) rfl rfl (by kernel_rfl) (new_blk (v := fun g_ => .pointer (some ⟨g_, 0, none⟩)) (cs := #[.slice A2 x1.cells.length c3, .slice A6 x1.trail.length c7]) (t := 34) S0_ (by kernel_rfl)) ?_
  rintro _ w11 ⟨g12, rfl, b13, S14, K15⟩
  refine lv (d := 4) rfl rfl (by kernel_rfl) (e_assign (v := .int .i64 0) rfl) ?_
  refine wpList_nil ?_
  refine then_n ?_
  refine wp_seq ?_
  refine wp_region_lit ?_
  refine lv (d := 5) rfl rfl (by kernel_rfl) (e_fieldAddr (b := g12) (off := 0) (o := 0) Try.underlying34 rfl rfl (sz := 1) (by kernel_rfl) (by decide) (by kernel_rfl)) ?_
  refine lv (d := 6) rfl rfl (by kernel_rfl) (e_load1 (ad := ⟨g12, 0 + 0, none⟩) (v := .slice A2 x1.cells.length c3) Try.underlying32 rfl (by kernel_rfl) (blk_cell b13 rfl)) ?_
  refine lv (d := 7) rfl rfl (by kernel_rfl) (e_move (v := .int .i64 x10) (by kernel_rfl)) ?_
  obtain ⟨t16, u17, M⟩ := bnd M
  refine lcall (d := 8) rfl rfl (by kernel_rfl) (e_call (l := [.tmp 6, .tmp 7]) (vs := [.slice A2 x1.cells.length c3, .int .i64 x10]) Try.func26 (by kernel_rfl) rfl (by kernel_rfl) rfl) (laws_heldCellS.calls k w11 H x1.cells A2 c3 x10 h4 l5 S14.own0 t16 u17) ?_
  rintro _ w18 ⟨rfl, C19⟩
  refine ⟨_, rfl, ?_⟩
  obtain ⟨S20, K21⟩ := S14.still C19
  replace b13 := K21.blk 0 rfl b13
  refine lv (d := 1) rfl rfl (by kernel_rfl) (e_assign (v := .int .i64 t16) (by kernel_rfl)) ?_
  refine wpList_nil ?_
  refine then_n ?_
  refine wp_seq ?_
  refine wp_seq ?_
  refine wp_region_lit ?_
  refine lv (d := 9) rfl rfl (by kernel_rfl) (e_move (v := .int .i64 t16) (by kernel_rfl)) ?_
  refine lv (d := 10) rfl rfl (by kernel_rfl) (e_lss (k := .i64) (a := t16) (b := 0) (by kernel_rfl) rfl) ?_
  refine wpList_nil ?_
  refine then_n ?_
  by_cases q22 : t16 < 0
  · replace M := ifp q22 M
    refine cond_t rfl (bt q22 (by kernel_rfl)) ?_
    refine wp_seq ?_
    refine wp_region_lit ?_
    refine lv (d := 4) rfl rfl (by kernel_rfl) (e_assign (v := .int .i64 (-1)) rfl) ?_
    refine wpList_nil ?_
    refine then_n ?_
    refine wp_ret ?_
    refine then_r ?_
    obtain rfl := Option.some.inj M
    exact ret1 rfl rfl  (show _ = .int .i64 (-1) from (by kernel_rfl)) ⟨rfl, S20.chg⟩
  replace M := ifn q22 M
  refine cond_f rfl (bf q22 (by kernel_rfl)) ?_
  refine wp_skip ?_
  refine then_n ?_
  refine wp_seq ?_
  refine wp_region_lit ?_
  refine lv (d := 11) rfl rfl (by kernel_rfl) (e_fieldAddr (b := g12) (off := 0) (o := 1) Try.underlying34 rfl rfl (sz := 1) (by kernel_rfl) (by decide) (by kernel_rfl)) ?_
  refine lv (d := 12) rfl rfl (by kernel_rfl) (e_load1 (ad := ⟨g12, 0 + 1, none⟩) (v := .slice A6 x1.trail.length c7) Try.underlying23 rfl (by kernel_rfl) (blk_cell b13 rfl)) ?_
  refine lv (d := 13) rfl rfl (by kernel_rfl) (e_move (v := .int .i64 t16) (by kernel_rfl)) ?_
  obtain ⟨t23, u24, M⟩ := bnd M
  refine lcall (d := 14) rfl rfl (by kernel_rfl) (e_call (l := [.tmp 12, .tmp 13]) (vs := [.slice A6 x1.trail.length c7, .int .i64 t16]) Try.func60 (by kernel_rfl) rfl (by kernel_rfl) rfl) (laws_heldIntS.calls k w18 H x1.trail A6 c7 t16 h8 l9 S20.own0 t23 u24) ?_
  rintro _ w25 ⟨rfl, C26⟩
  refine ⟨_, rfl, ?_⟩
  obtain ⟨S27, K28⟩ := S20.still C26
  replace b13 := K28.blk 0 rfl b13
  refine lv (d := 1) rfl rfl (by kernel_rfl) (e_assign (v := .int .i64 t23) (by kernel_rfl)) ?_
  refine wpList_nil ?_
  refine then_n ?_
  refine wp_seq ?_
  refine wp_seq ?_
  refine wp_region_lit ?_
  refine lv (d := 15) rfl rfl (by kernel_rfl) (e_move (v := .int .i64 t23) (by kernel_rfl)) ?_
  refine lv (d := 16) rfl rfl (by kernel_rfl) (e_lss (k := .i64) (a := t23) (b := 0) (by kernel_rfl) rfl) ?_
  refine wpList_nil ?_
  refine then_n ?_
  by_cases q29 : t23 < 0
  · replace M := ifp q29 M
    refine cond_t rfl (bt q29 (by kernel_rfl)) ?_
    refine wp_seq ?_
    refine wp_region_lit ?_
    refine lv (d := 4) rfl rfl (by kernel_rfl) (e_assign (v := .int .i64 (-1)) rfl) ?_
    refine wpList_nil ?_
    refine then_n ?_
    refine wp_ret ?_
    refine then_r ?_
    obtain rfl := Option.some.inj M
    exact ret1 rfl rfl  (show _ = .int .i64 (-1) from (by kernel_rfl)) ⟨rfl, S27.chg⟩
  replace M := ifn q29 M
  refine cond_f rfl (bf q29 (by kernel_rfl)) ?_
  refine wp_skip ?_
  refine then_n ?_
  refine wp_seq ?_
  refine wp_region_lit ?_
  refine lv (d := 17) rfl rfl (by kernel_rfl) (e_move (v := .int .i64 t23) (by kernel_rfl)) ?_
  refine lv (d := 4) rfl rfl (by kernel_rfl) (e_assign (v := .int .i64 t23) (by kernel_rfl)) ?_
  refine wpList_nil ?_
  refine then_n ?_
  refine wp_ret ?_
  obtain rfl := Option.some.inj M
  exact ret1 rfl rfl  (show _ = .int .i64 t23 from (by kernel_rfl)) ⟨rfl, S27.chg⟩

/-! laws_FnExactUnwind -/
def laws_FnExactUnwind.f (k : Nat) (x1 : Store) (x10 : Int) (x11 : Int) : Option Bool := ((laws_szStore.f k x1 1048576).bind fun t17 => (if t17 < 0 then some true else ((laws_toStore.f k x1).bind fun t24 => ((spec_Unwind.f k t24 x10 x11).bind fun t52 => ((laws_toStore.f k x1).bind fun t77 => ((impl_Unwind.f k t77 x10 x11).bind fun t121 => ((laws_eqStore.f k t121.1 t52.1).bind fun t153 => (if ¬ (t153 = true) then some false else (if t121.2 ≠ t52.2 then some false else ((laws_toStore.f k x1).bind fun t199 => ((laws_eqStore.f k t77 t199).bind fun t217 => (if ¬ (t217 = true) then some false else ((laws_markStore_2.f k t77 1).bind fun t256 => (if t256.1 < 0 then some false else ((laws_eqStore.f k t121.1 t52.1).bind fun t271 => (if ¬ (t271 = true) then some false else ((laws_markStore_2.f k t121.1 1).bind fun t308 => ((laws_heldStore.f k (⟨t308.2.1, t308.2.2⟩ : Store) 1).bind fun t322 => (if t322 < 0 then some false else (if t322 ≠ t308.1 then some false else ((laws_toStore.f k x1).bind fun t342 => ((impl_Unwind.f k t342 x10 x11).bind fun t370 => ((laws_eqStore.f k t370.1 t52.1).bind fun t395 => (if ¬ (t395 = true) then some false else (if t370.2 ≠ t52.2 then some false else ((laws_heldStore.f k (⟨t308.2.1, t308.2.2⟩ : Store) 1).bind fun t431 => (if t431 < 0 then some false else (if t431 ≠ t308.1 then some false else some true))))))))))))))))))))))))))))
theorem laws_FnExactUnwind.calls (k : Nat) (w : World) (H : Hp) (x1 : Store) (A2 : Option Addr) (c3 : Nat) (A6 : Option Addr) (c7 : Nat) (x10 : Int) (x11 : Int) (h4 : Rd st28 H A2 x1.cells) (l5 : x1.cells.length ≤ c3) (h8 : Rd tInt H A6 x1.trail) (l9 : x1.trail.length ≤ c7) (S : Own [] H w) (r : Bool) (M : laws_FnExactUnwind.f k x1 x10 x11 = some r) :
    Calls Try.prog 6 #[.agg #[.slice A2 x1.cells.length c3, .slice A6 x1.trail.length c7], .int .i64 x10, .int .i64 x11] w (fun e e_w => e = .returned (.bool r) ∧ Chg no w e_w) := by
  rw [laws_FnExactUnwind.f] at M
  refine enter (l := [.agg #[.slice A2 x1.cells.length c3, .slice A6 x1.trail.length c7], .int .i64 x10, .int .i64 x11]) 106 Try.func6 rfl rfl rfl ?_
  have S0_ := S.st
  refine wp_seq ?_
  refine wp_region_lit ?_
  refine lve (d := 3) rfl rfl (by kernel_rfl) (new_blk (v := fun g_ => .pointer (some ⟨g_, 0, none⟩)) (cs := #[.slice A2 x1.cells.length c3, .slice A6 x1.trail.length c7]) (t := 25) S0_ (by kernel_rfl)) ?_
  rintro _ w12 ⟨g13, rfl, b14, S15, K16⟩
  refine lv (d := 6) rfl rfl (by kernel_rfl) (e_assign (v := .bool false) rfl) ?_
  refine wpList_nil ?_
  refine then_n ?_
  refine wp_seq ?_
  refine wp_region_lit ?_
  refine lv (d := 7) rfl rfl (by kernel_rfl) (e_assign (v := .int .i64 1048576) rfl) ?_
  refine wpList_nil ?_
  refine then_n ?_
  refine wp_seq ?_
  refine wp_region_lit ?_
  refine lv (d := 18) rfl rfl (by kernel_rfl) (e_loadS (b := g13) (off := 0) (cs := [.slice A2 x1.cells.length c3, .slice A6 x1.trail.length c7]) Try.underlying25 rfl (by kernel_rfl) (by kernel_rfl) (blk_cells b14 rfl)) ?_
  refine lv (d := 19) rfl rfl (by kernel_rfl) (e_move (v := .int .i64 1048576) (by kernel_rfl)) ?_
  obtain ⟨t17, u18, M⟩ := bnd M
  refine lcall (d := 20) rfl rfl (by kernel_rfl) (e_call (l := [.tmp 18, .tmp 19]) (vs := [.agg #[.slice A2 x1.cells.length c3, .slice A6 x1.trail.length c7], .int .i64 1048576]) Try.func9 (by kernel_rfl) rfl (by kernel_rfl) rfl) (laws_szStore.calls k w12 H x1 A2 c3 A6 c7 1048576 h4 l5 h8 l9 S15.own0 t17 u18) ?_
  rintro _ w19 ⟨rfl, C20⟩
  refine ⟨_, rfl, ?_⟩
  obtain ⟨S21, K22⟩ := S15.still C20
  replace b14 := K22.blk 0 rfl b14
  refine lv (d := 7) rfl rfl (by kernel_rfl) (e_assign (v := .int .i64 t17) (by kernel_rfl)) ?_
  refine wpList_nil ?_
  refine then_n ?_
  refine wp_seq ?_
  refine wp_seq ?_
  refine wp_region_lit ?_
  refine lv (d := 21) rfl rfl (by kernel_rfl) (e_move (v := .int .i64 t17) (by kernel_rfl)) ?_
  refine lv (d := 22) rfl rfl (by kernel_rfl) (e_lss (k := .i64) (a := t17) (b := 0) (by kernel_rfl) rfl) ?_
  refine wpList_nil ?_
  refine then_n ?_
  by_cases q23 : t17 < 0
  · replace M := ifp q23 M
    refine cond_t rfl (bt q23 (by kernel_rfl)) ?_
    refine wp_seq ?_
    refine wp_region_lit ?_
    refine lv (d := 6) rfl rfl (by kernel_rfl) (e_assign (v := .bool true) rfl) ?_
    refine wpList_nil ?_
    refine then_n ?_
    refine wp_ret ?_
    refine then_r ?_
    obtain rfl := Option.some.inj M
    exact ret1 rfl rfl  (show _ = .bool true from (by kernel_rfl)) ⟨rfl, S21.chg⟩
  replace M := ifn q23 M
  refine cond_f rfl (bf q23 (by kernel_rfl)) ?_
  refine wp_skip ?_
  refine then_n ?_
  refine wp_seq ?_
  refine wp_region_lit ?_
  refine lv (d := 24) rfl rfl (by kernel_rfl) (e_loadS (b := g13) (off := 0) (cs := [.slice A2 x1.cells.length c3, .slice A6 x1.trail.length c7]) Try.underlying25 rfl (by kernel_rfl) (by kernel_rfl) (blk_cells b14 rfl)) ?_
  obtain ⟨t24, u25, M⟩ := bnd M
  refine lcall (d := 25) rfl rfl (by kernel_rfl) (e_call (l := [.tmp 24]) (vs := [.agg #[.slice A2 x1.cells.length c3, .slice A6 x1.trail.length c7]]) Try.func12 (by kernel_rfl) rfl (by kernel_rfl) rfl) (laws_toStore.calls k w19 H x1 A2 c3 A6 c7 h4 l5 h8 l9 (St.own' (Fa := []) (Fr := [(is g13)]) S21) t24 u25) ?_
  rintro _ w26 ⟨A29, c30, F32, A33, c34, F36, H27, rfl, h31, h35, T28⟩
  refine ⟨_, rfl, ?_⟩
  obtain ⟨S37, K38⟩ := St.call (Fa := []) (Fr := [(is g13)]) S21 T28
  replace b14 := K38.blk 0 rfl b14
  have E39 := T28.ext
  refine lv (d := 26) rfl rfl (by kernel_rfl) (e_move (v := .int .i64 x10) (by kernel_rfl)) ?_
  refine lv (d := 27) rfl rfl (by kernel_rfl) (e_move (v := .int .i64 x11) (by kernel_rfl)) ?_
  have l40 := h31.le
  obtain ⟨H41, S42, E43, h44, z45⟩ := S37.frzRow h31
  replace h35 := h35.ext E43
  have l46 := h35.le
  obtain ⟨H47, S48, E49, h50, z51⟩ := S42.frzRow h35
  obtain ⟨t52, u53, M⟩ := bnd M
  refine lcall (d := 28) rfl rfl (by kernel_rfl) (e_call (l := [.tmp 25, .tmp 26, .tmp 27]) (vs := [.agg #[.slice A29 t24.cells.length c30, .slice A33 t24.trail.length c34], .int .i64 x10, .int .i64 x11]) Try.func27 (by kernel_rfl) rfl (by kernel_rfl) rfl) (spec_Unwind.calls k w26 H47 t24 A29 c30 A33 c34 x10 x11 (h44.ext E49) l40 h50 l46 (St.own' (Fa := []) (Fr := [(is g13)]) S48) t52 u53) ?_
  rintro _ w54 ⟨A57, c58, F60, A61, c62, F64, H55, rfl, h59, h63, T56⟩
  refine ⟨_, rfl, ?_⟩
  obtain ⟨S65, K66⟩ := St.call (Fa := []) (Fr := [(is g13)]) S48 T56
  replace b14 := K66.blk 0 rfl b14
  have E67 := T56.ext
  refine lv (d := 23) rfl rfl (by kernel_rfl) (e_move (v := .tuple #[.agg #[.slice A57 t52.1.cells.length c58, .slice A61 t52.1.trail.length c62], .int .i64 t52.2]) (by kernel_rfl)) ?_
  refine lv (d := 29) rfl rfl (by kernel_rfl) (e_extract (vs := #[.agg #[.slice A57 t52.1.cells.length c58, .slice A61 t52.1.trail.length c62], .int .i64 t52.2]) (v := .agg #[.slice A57 t52.1.cells.length c58, .slice A61 t52.1.trail.length c62]) (by kernel_rfl) rfl) ?_
  refine lv (d := 30) rfl rfl (by kernel_rfl) (e_extract (vs := #[.agg #[.slice A57 t52.1.cells.length c58, .slice A61 t52.1.trail.length c62], .int .i64 t52.2]) (v := .int .i64 t52.2) (by kernel_rfl) rfl) ?_
  refine lve (d := 8) rfl rfl (by kernel_rfl) (new_blk (v := fun g_ => .pointer (some ⟨g_, 0, none⟩)) (cs := #[.slice none 0 0, .slice none 0 0]) (t := 34) S65 (by kernel_rfl)) ?_
  rintro _ w68 ⟨g69, rfl, b70, S71, K72⟩
  replace h59 := h59.move (K72.at 0 rfl)
  replace h63 := h63.move (K72.at 1 rfl)
  replace b14 := K72.blk 2 rfl b14
  refine lse rfl rfl (by kernel_rfl) (e_store (g := g69) (o := 0) (v := .agg #[.slice A57 t52.1.cells.length c58, .slice A61 t52.1.trail.length c62]) (cur' := #[.slice A57 t52.1.cells.length c58, .slice A61 t52.1.trail.length c62]) (vs := [.slice A57 t52.1.cells.length c58, .slice A61 t52.1.trail.length c62]) S71 (by kernel_rfl) (by kernel_rfl) rfl (by kernel_rfl) b70 (Nat.le_of_ble_eq_true rfl) (List.forall_mem_cons.2 ⟨rfl, (List.forall_mem_cons.2 ⟨rfl, (fun _ h_ => by cases h_)⟩)⟩) rfl) ?_
  rintro w73 ⟨b74, S75, K76⟩
  replace h59 := h59.move (K76.at 0 rfl)
  replace h63 := h63.move (K76.at 1 rfl)
  replace b14 := K76.blk 2 rfl b14
  clear b70
  refine lv (d := 9) rfl rfl (by kernel_rfl) (e_assign (v := .int .i64 t52.2) (by kernel_rfl)) ?_
  refine wpList_nil ?_
  refine then_n ?_
  refine wp_seq ?_
  refine wp_region_lit ?_
  refine lv (d := 31) rfl rfl (by kernel_rfl) (e_loadS (b := g13) (off := 0) (cs := [.slice A2 x1.cells.length c3, .slice A6 x1.trail.length c7]) Try.underlying25 rfl (by kernel_rfl) (by kernel_rfl) (blk_cells b14 rfl)) ?_
  obtain ⟨t77, u78, M⟩ := bnd M
  refine lcall (d := 32) rfl rfl (by kernel_rfl) (e_call (l := [.tmp 31]) (vs := [.agg #[.slice A2 x1.cells.length c3, .slice A6 x1.trail.length c7]]) Try.func12 (by kernel_rfl) rfl (by kernel_rfl) rfl) (laws_toStore.calls k w73 H55 x1 A2 c3 A6 c7 (h4.ext (((E39.trans E43).trans E49).trans E67)) l5 (h8.ext (((E39.trans E43).trans E49).trans E67)) l9 (St.own' (Fa := []) (Fr := [(is g69), F60, F64, (is g13)]) S75) t77 u78) ?_
  rintro _ w79 ⟨A82, c83, F85, A86, c87, F89, H80, rfl, h84, h88, T81⟩
  refine ⟨_, rfl, ?_⟩
  obtain ⟨S90, K91⟩ := St.call (Fa := []) (Fr := [(is g69), F60, F64, (is g13)]) S75 T81
  replace b74 := K91.blk 0 rfl b74
  replace h59 := h59.move (K91.at 1 rfl)
  replace h63 := h63.move (K91.at 2 rfl)
  replace b14 := K91.blk 3 rfl b14
  have E92 := T81.ext
  replace h59 := h59.ext E92
  replace h63 := h63.ext E92
  refine lve (d := 10) rfl rfl (by kernel_rfl) (new_blk (v := fun g_ => .pointer (some ⟨g_, 0, none⟩)) (cs := #[.slice none 0 0, .slice none 0 0]) (t := 34) S90 (by kernel_rfl)) ?_
  rintro _ w93 ⟨g94, rfl, b95, S96, K97⟩
  replace h84 := h84.move (K97.at 0 rfl)
  replace h88 := h88.move (K97.at 1 rfl)
  replace b74 := K97.blk 2 rfl b74
  replace h59 := h59.move (K97.at 3 rfl)
  replace h63 := h63.move (K97.at 4 rfl)
  replace b14 := K97.blk 5 rfl b14
  refine lse rfl rfl (by kernel_rfl) (e_store (g := g94) (o := 0) (v := .agg #[.slice A82 t77.cells.length c83, .slice A86 t77.trail.length c87]) (cur' := #[.slice A82 t77.cells.length c83, .slice A86 t77.trail.length c87]) (vs := [.slice A82 t77.cells.length c83, .slice A86 t77.trail.length c87]) S96 (by kernel_rfl) (by kernel_rfl) rfl (by kernel_rfl) b95 (Nat.le_of_ble_eq_true rfl) (List.forall_mem_cons.2 ⟨rfl, (List.forall_mem_cons.2 ⟨rfl, (fun _ h_ => by cases h_)⟩)⟩) rfl) ?_
  rintro w98 ⟨b99, S100, K101⟩
  replace h84 := h84.move (K101.at 0 rfl)
  replace h88 := h88.move (K101.at 1 rfl)
  replace b74 := K101.blk 2 rfl b74
  replace h59 := h59.move (K101.at 3 rfl)
  replace h63 := h63.move (K101.at 4 rfl)
  replace b14 := K101.blk 5 rfl b14
  clear b95
  refine wpList_nil ?_
  refine then_n ?_
  refine wp_seq ?_
  refine wp_region_lit ?_
  refine lv (d := 34) rfl rfl (by kernel_rfl) (e_loadS (b := g94) (off := 0) (cs := [.slice A82 t77.cells.length c83, .slice A86 t77.trail.length c87]) Try.underlying34 rfl (by kernel_rfl) (by kernel_rfl) (blk_cells b99 rfl)) ?_
  refine lv (d := 35) rfl rfl (by kernel_rfl) (e_move (v := .int .i64 x10) (by kernel_rfl)) ?_
  refine lv (d := 36) rfl rfl (by kernel_rfl) (e_move (v := .int .i64 x11) (by kernel_rfl)) ?_
  have S102 := S100.pull (F := F85) (Fr := [(is g94), F89, (is g69), F60, F64, (is g13)]) 1 rfl rfl
  have l103 := h84.le
  obtain ⟨H104, S105, E106, h107, z108⟩ := S102.frzRow h84
  have h109 := h88.ext E106
  have h110 := h59.ext E106
  have h111 := h63.ext E106
  have S112 := S105.pull (F := F89) (Fr := [(is g94), (is g69), F60, F64, (is g13)]) 1 rfl rfl
  have l113 := h109.le
  obtain ⟨H114, S115, E116, h117, z118⟩ := S112.frzRow h109
  have h119 := h110.ext E116
  have h120 := h111.ext E116
  obtain ⟨t121, u122, M⟩ := bnd M
  refine lcall (d := 37) rfl rfl (by kernel_rfl) (e_call (l := [.tmp 34, .tmp 35, .tmp 36]) (vs := [.agg #[.slice A82 t77.cells.length c83, .slice A86 t77.trail.length c87], .int .i64 x10, .int .i64 x11]) Try.func28 (by kernel_rfl) rfl (by kernel_rfl) rfl) (impl_Unwind.calls k w98 H114 t77 A82 c83 A86 c87 x10 x11 (h107.ext E116) l103 h117 l113 S115.own0 t121 u122) ?_
  rintro _ w123 ⟨A126, c127, F129, A130, c131, F133, H124, rfl, h128, h132, T125⟩
  refine ⟨_, rfl, ?_⟩
  obtain ⟨S134, K135⟩ := St.call (Fa := []) (Fr := [(is g94), (is g69), F60, F64, (is g13)]) S115 T125
  replace b99 := K135.blk 0 rfl b99
  replace b74 := K135.blk 1 rfl b74
  replace h59 := h59.move (K135.at 2 rfl)
  replace h63 := h63.move (K135.at 3 rfl)
  replace b14 := K135.blk 4 rfl b14
  obtain ⟨H136, S137, E138, v139⟩ := St.thaw S112 z118 S134 T125.ext E116 T125.size
  replace h88 := h88.move v139
  obtain ⟨H140, S141, E142, v143⟩ := St.thaw S102 z108 S137 E138 E106 T125.size
  replace h84 := h84.move v143
  replace h84 := h84.ext E142
  replace h88 := h88.ext E142
  replace h59 := h59.ext E142
  replace h63 := h63.ext E142
  replace h128 := Row.free (H' := H140) (free_iso (free_pair (free_scal _ _) (free_pair (free_scal _ _) (free_slice (free_scal _ _))))) h128
  replace h132 := Row.free (H' := H140) (free_scal _ _) h132
  refine lv (d := 33) rfl rfl (by kernel_rfl) (e_move (v := .tuple #[.agg #[.slice A126 t121.1.cells.length c127, .slice A130 t121.1.trail.length c131], .int .i64 t121.2]) (by kernel_rfl)) ?_
  refine lv (d := 38) rfl rfl (by kernel_rfl) (e_extract (vs := #[.agg #[.slice A126 t121.1.cells.length c127, .slice A130 t121.1.trail.length c131], .int .i64 t121.2]) (v := .agg #[.slice A126 t121.1.cells.length c127, .slice A130 t121.1.trail.length c131]) (by kernel_rfl) rfl) ?_
  refine lv (d := 39) rfl rfl (by kernel_rfl) (e_extract (vs := #[.agg #[.slice A126 t121.1.cells.length c127, .slice A130 t121.1.trail.length c131], .int .i64 t121.2]) (v := .int .i64 t121.2) (by kernel_rfl) rfl) ?_
  refine lve (d := 11) rfl rfl (by kernel_rfl) (new_blk (v := fun g_ => .pointer (some ⟨g_, 0, none⟩)) (cs := #[.slice none 0 0, .slice none 0 0]) (t := 34) S141 (by kernel_rfl)) ?_
  rintro _ w144 ⟨g145, rfl, b146, S147, K148⟩
  replace h84 := h84.move (K148.at 0 rfl)
  replace h88 := h88.move (K148.at 1 rfl)
  replace h128 := h128.move (K148.at 2 rfl)
  replace h132 := h132.move (K148.at 3 rfl)
  replace b99 := K148.blk 4 rfl b99
  replace b74 := K148.blk 5 rfl b74
  replace h59 := h59.move (K148.at 6 rfl)
  replace h63 := h63.move (K148.at 7 rfl)
  replace b14 := K148.blk 8 rfl b14
  refine lse rfl rfl (by kernel_rfl) (e_store (g := g145) (o := 0) (v := .agg #[.slice A126 t121.1.cells.length c127, .slice A130 t121.1.trail.length c131]) (cur' := #[.slice A126 t121.1.cells.length c127, .slice A130 t121.1.trail.length c131]) (vs := [.slice A126 t121.1.cells.length c127, .slice A130 t121.1.trail.length c131]) S147 (by kernel_rfl) (by kernel_rfl) rfl (by kernel_rfl) b146 (Nat.le_of_ble_eq_true rfl) (List.forall_mem_cons.2 ⟨rfl, (List.forall_mem_cons.2 ⟨rfl, (fun _ h_ => by cases h_)⟩)⟩) rfl) ?_
  rintro w149 ⟨b150, S151, K152⟩
  replace h84 := h84.move (K152.at 0 rfl)
  replace h88 := h88.move (K152.at 1 rfl)
  replace h128 := h128.move (K152.at 2 rfl)
  replace h132 := h132.move (K152.at 3 rfl)
  replace b99 := K152.blk 4 rfl b99
  replace b74 := K152.blk 5 rfl b74
  replace h59 := h59.move (K152.at 6 rfl)
  replace h63 := h63.move (K152.at 7 rfl)
  replace b14 := K152.blk 8 rfl b14
  clear b146
  refine lv (d := 12) rfl rfl (by kernel_rfl) (e_assign (v := .int .i64 t121.2) (by kernel_rfl)) ?_
  refine wpList_nil ?_
  refine then_n ?_
  refine wp_seq ?_
  refine wp_seq ?_
  refine wp_region_lit ?_
  refine lv (d := 40) rfl rfl (by kernel_rfl) (e_loadS (b := g145) (off := 0) (cs := [.slice A126 t121.1.cells.length c127, .slice A130 t121.1.trail.length c131]) Try.underlying34 rfl (by kernel_rfl) (by kernel_rfl) (blk_cells b150 rfl)) ?_
  refine lv (d := 41) rfl rfl (by kernel_rfl) (e_loadS (b := g69) (off := 0) (cs := [.slice A57 t52.1.cells.length c58, .slice A61 t52.1.trail.length c62]) Try.underlying34 rfl (by kernel_rfl) (by kernel_rfl) (blk_cells b74 rfl)) ?_
  obtain ⟨t153, u154, M⟩ := bnd M
  refine lcall (d := 42) rfl rfl (by kernel_rfl) (e_call (l := [.tmp 40, .tmp 41]) (vs := [.agg #[.slice A126 t121.1.cells.length c127, .slice A130 t121.1.trail.length c131], .agg #[.slice A57 t52.1.cells.length c58, .slice A61 t52.1.trail.length c62]]) Try.func15 (by kernel_rfl) rfl (by kernel_rfl) rfl) (by have l155 := h128.le; have S156 := S151.pull (F := F129) (Fr := [(is g145), F85, F89, F133, (is g94), (is g69), F60, F64, (is g13)]) 3 rfl rfl; obtain ⟨H157, S158, E159, h160, z161⟩ := S156.frzRow h128; replace h84 := h84.ext E159; replace h88 := h88.ext E159; replace h132 := h132.ext E159; replace h59 := h59.ext E159; replace h63 := h63.ext E159; have l162 := h132.le; have S163 := S158.pull (F := F133) (Fr := [(is g145), F85, F89, (is g94), (is g69), F60, F64, (is g13)]) 3 rfl rfl; obtain ⟨H164, S165, E166, h167, z168⟩ := S163.frzRow h132; replace h84 := h84.ext E166; replace h88 := h88.ext E166; replace h59 := h59.ext E166; replace h63 := h63.ext E166; have l169 := h59.le; have S170 := S165.pull (F := F60) (Fr := [(is g145), F85, F89, (is g94), (is g69), F64, (is g13)]) 5 rfl rfl; obtain ⟨H171, S172, E173, h174, z175⟩ := S170.frzRow h59; replace h84 := h84.ext E173; replace h88 := h88.ext E173; replace h63 := h63.ext E173; have l176 := h63.le; have S177 := S172.pull (F := F64) (Fr := [(is g145), F85, F89, (is g94), (is g69), (is g13)]) 5 rfl rfl; obtain ⟨H178, S179, E180, h181, z182⟩ := S177.frzRow h63; replace h84 := h84.ext E180; replace h88 := h88.ext E180; exact (laws_eqStore.calls k w149 H178 t121.1 A126 c127 A130 c131 t52.1 A57 c58 A61 c62 (h160.ext ((E166.trans E173).trans E180)) l155 (h167.ext (E173.trans E180)) l162 (h174.ext E180) l169 h181 l176 S179.own0 t153 u154)) ?_
  rintro _ w183 ⟨rfl, C184⟩
  refine ⟨_, rfl, ?_⟩
  obtain ⟨S185, K186⟩ := S151.still C184
  replace b150 := K186.blk 0 rfl b150
  replace h84 := h84.move (K186.at 1 rfl)
  replace h88 := h88.move (K186.at 2 rfl)
  replace h128 := h128.move (K186.at 3 rfl)
  replace h132 := h132.move (K186.at 4 rfl)
  replace b99 := K186.blk 5 rfl b99
  replace b74 := K186.blk 6 rfl b74
  replace h59 := h59.move (K186.at 7 rfl)
  replace h63 := h63.move (K186.at 8 rfl)
  replace b14 := K186.blk 9 rfl b14
  refine lv (d := 43) rfl rfl (by kernel_rfl) (e_notv (c := t153) (by kernel_rfl)) ?_
  refine lv (d := 44) rfl rfl (by kernel_rfl) (e_move (v := .bool (decide (¬ (t153 = true)))) (by kernel_rfl)) ?_
  by_cases q187 : ¬ (t153 = true)
  · replace M := ifp q187 M
    refine lskip (t := 44) (c := true) rfl (by kernel_rfl) rfl (bt q187 (by kernel_rfl)) rfl rfl ?_
    refine lskip (t := 44) (c := true) rfl (by kernel_rfl) rfl (bt q187 (by kernel_rfl)) rfl rfl ?_
    refine lskip (t := 44) (c := true) rfl (by kernel_rfl) rfl (bt q187 (by kernel_rfl)) rfl rfl ?_
    refine lv (d := 48) rfl rfl (by kernel_rfl) (e_pick_t (v := .bool true) (bt q187 (by kernel_rfl)) rfl) ?_
    refine wpList_nil ?_
    refine then_n ?_
    refine cond_t rfl (by kernel_rfl) ?_
    refine wp_seq ?_
    refine wp_region_lit ?_
    refine lv (d := 6) rfl rfl (by kernel_rfl) (e_assign (v := .bool false) rfl) ?_
    refine wpList_nil ?_
    refine then_n ?_
    refine wp_ret ?_
    refine then_r ?_
    obtain rfl := Option.some.inj M
    exact ret1 rfl rfl  (show _ = .bool false from (by kernel_rfl)) ⟨rfl, S185.chg⟩
  replace M := ifn q187 M
  refine lvg (d := 45) (t := 44) rfl (by kernel_rfl) rfl (bf q187 (by kernel_rfl)) rfl (by kernel_rfl) (e_move (v := .int .i64 t121.2) (by kernel_rfl)) ?_
  refine lvg (d := 46) (t := 44) rfl (by kernel_rfl) rfl (bf q187 (by kernel_rfl)) rfl (by kernel_rfl) (e_move (v := .int .i64 t52.2) (by kernel_rfl)) ?_
  refine lvg (d := 47) (t := 44) rfl (by kernel_rfl) rfl (bf q187 (by kernel_rfl)) rfl (by kernel_rfl) (e_neq (k := .i64) (a := t121.2) (b := t52.2) (by kernel_rfl) (by kernel_rfl)) ?_
  refine lv (d := 48) rfl rfl (by kernel_rfl) (e_pick_f (v := .bool (decide (t121.2 ≠ t52.2))) (bf q187 (by kernel_rfl)) (by kernel_rfl)) ?_
  refine wpList_nil ?_
  refine then_n ?_
  by_cases q188 : t121.2 ≠ t52.2
  · replace M := ifp q188 M
    refine cond_t rfl (bt q188 (by kernel_rfl)) ?_
    refine wp_seq ?_
    refine wp_region_lit ?_
    refine lv (d := 6) rfl rfl (by kernel_rfl) (e_assign (v := .bool false) rfl) ?_
    refine wpList_nil ?_
    refine then_n ?_
    refine wp_ret ?_
    refine then_r ?_
    obtain rfl := Option.some.inj M
    exact ret1 rfl rfl  (show _ = .bool false from (by kernel_rfl)) ⟨rfl, S185.chg⟩
  replace M := ifn q188 M
  refine cond_f rfl (bf q188 (by kernel_rfl)) ?_
  refine wp_skip ?_
  refine then_n ?_
  refine wp_seq ?_
  refine wp_seq ?_
  refine region_mix (S := (fun (L_ : Array Bool) (w_ : World) => Ext H140 (hp w_) ∧ (∀ b_, (is g94) b_ → hp w_ b_ = hp w183 b_))) (by kernel_rfl) S185 ?_
  intro w189 S190 K191 hc192
  have o193 := b99
  have hs194 : (fun (L_ : Array Bool) (w_ : World) => Ext H140 (hp w_) ∧ (∀ b_, (is g94) b_ → hp w_ b_ = hp w183 b_)) (Array.replicate 5 false) w189 := ⟨S190.inv, (fun b_ h_ => K191.at 5 rfl b_ h_)⟩
  replace b150 := K191.blk 0 rfl b150
  replace h84 := h84.move (K191.at 1 rfl)
  replace h88 := h88.move (K191.at 2 rfl)
  replace h128 := h128.move (K191.at 3 rfl)
  replace h132 := h132.move (K191.at 4 rfl)
  replace b99 := K191.blk 5 rfl b99
  replace b74 := K191.blk 6 rfl b74
  replace h59 := h59.move (K191.at 7 rfl)
  replace h63 := h63.move (K191.at 8 rfl)
  replace b14 := K191.blk 9 rfl b14
  refine xv (i := 0) (d := 49) rfl rfl rfl (by kernel_rfl) (by kernel_rfl) (fun _ _ => Iff.rfl) hc192 hs194 (fun L_ w_ hc_ hu_ hs_ => e_loadS (b := g94) (off := 0) (cs := [.slice A82 t77.cells.length c83, .slice A86 t77.trail.length c87]) Try.underlying34 rfl (by kernel_rfl) (by kernel_rfl) (blk_cells ((hs_.2 _ rfl).trans o193) rfl)) ?_; intro hc195 hs196
  refine xone (i := 1) (by kernel_rfl) hc195 ?_
  refine yo (i := 1) (d := 50) rfl rfl (wanted_none rfl _) (by kernel_rfl) (by kernel_rfl) (fun _ _ => Iff.rfl) hs196 (e_loadS (b := g13) (off := 0) (cs := [.slice A2 x1.cells.length c3, .slice A6 x1.trail.length c7]) Try.underlying25 rfl (by kernel_rfl) (by kernel_rfl) (blk_cells b14 rfl)) ?_; intro hc197 hs198
  obtain ⟨t199, u200, M⟩ := bnd M
  refine xone (i := 2) (by kernel_rfl) hc197 ?_
  refine yc (i := 2) rfl (wanted_none rfl _) (by kernel_rfl) (by kernel_rfl) (e_call (l := [.tmp 50]) (vs := [.agg #[.slice A2 x1.cells.length c3, .slice A6 x1.trail.length c7]]) Try.func12 (by kernel_rfl) rfl (by kernel_rfl) rfl) (laws_toStore.calls k w189 H140 x1 A2 c3 A6 c7 (h4.ext (((((E39.trans E43).trans E49).trans E67).trans E92).trans E142)) l5 (h8.ext (((((E39.trans E43).trans E49).trans E67).trans E92).trans E142)) l9 (St.own' (Fa := []) (Fr := [(is g145), F85, F89, F129, F133, (is g94), (is g69), F60, F64, (is g13)]) S190) t199 u200) ?_
  rintro hc212 _ w201 ⟨A204, c205, F207, A208, c209, F211, H202, rfl, h206, h210, T203⟩
  refine ⟨_, rfl, ?_⟩
  obtain ⟨S213, K214⟩ := St.call (Fa := []) (Fr := [(is g145), F85, F89, F129, F133, (is g94), (is g69), F60, F64, (is g13)]) S190 T203
  replace b150 := K214.blk 0 rfl b150
  replace h84 := h84.move (K214.at 1 rfl)
  replace h88 := h88.move (K214.at 2 rfl)
  replace h128 := h128.move (K214.at 3 rfl)
  replace h132 := h132.move (K214.at 4 rfl)
  replace b99 := K214.blk 5 rfl b99
  replace b74 := K214.blk 6 rfl b74
  replace h59 := h59.move (K214.at 7 rfl)
  replace h63 := h63.move (K214.at 8 rfl)
  replace b14 := K214.blk 9 rfl b14
  have E215 := T203.ext
  replace h84 := h84.ext E215
  replace h88 := h88.ext E215
  replace h128 := h128.ext E215
  replace h132 := h132.ext E215
  replace h59 := h59.ext E215
  replace h63 := h63.ext E215
  refine ⟨⟨(Ext.trans E215 S213.inv), (fun b_ h_ => (K214.at 5 rfl b_ h_).trans (hs198.2 b_ h_))⟩, fun hs216 => ?_⟩
  obtain ⟨t217, u218, M⟩ := bnd M
  refine xone (i := 3) (by kernel_rfl) hc212 ?_
  refine yc (i := 3) rfl (wanted_none rfl _) (by kernel_rfl) (by kernel_rfl) (e_call (l := [.tmp 49, .tmp 51]) (vs := [.agg #[.slice A82 t77.cells.length c83, .slice A86 t77.trail.length c87], .agg #[.slice A204 t199.cells.length c205, .slice A208 t199.trail.length c209]]) Try.func15 (by kernel_rfl) rfl (by kernel_rfl) rfl) (by have l219 := h84.le; have S220 := S213.pull (F := F85) (Fr := [F207, F211, (is g145), F89, F129, F133, (is g94), (is g69), F60, F64, (is g13)]) 3 rfl rfl; obtain ⟨H221, S222, E223, h224, z225⟩ := S220.frzRow h84; replace h206 := h206.ext E223; replace h210 := h210.ext E223; replace h88 := h88.ext E223; replace h128 := h128.ext E223; replace h132 := h132.ext E223; replace h59 := h59.ext E223; replace h63 := h63.ext E223; have l226 := h88.le; have S227 := S222.pull (F := F89) (Fr := [F207, F211, (is g145), F129, F133, (is g94), (is g69), F60, F64, (is g13)]) 3 rfl rfl; obtain ⟨H228, S229, E230, h231, z232⟩ := S227.frzRow h88; replace h206 := h206.ext E230; replace h210 := h210.ext E230; replace h128 := h128.ext E230; replace h132 := h132.ext E230; replace h59 := h59.ext E230; replace h63 := h63.ext E230; have l233 := h206.le; obtain ⟨H234, S235, E236, h237, z238⟩ := S229.frzRow h206; replace h210 := h210.ext E236; replace h128 := h128.ext E236; replace h132 := h132.ext E236; replace h59 := h59.ext E236; replace h63 := h63.ext E236; have l239 := h210.le; obtain ⟨H240, S241, E242, h243, z244⟩ := S235.frzRow h210; replace h128 := h128.ext E242; replace h132 := h132.ext E242; replace h59 := h59.ext E242; replace h63 := h63.ext E242; exact (laws_eqStore.calls k w201 H240 t77 A82 c83 A86 c87 t199 A204 c205 A208 c209 (h224.ext ((E230.trans E236).trans E242)) l219 (h231.ext (E236.trans E242)) l226 (h237.ext E242) l233 h243 l239 S241.own0 t217 u218)) ?_
  rintro hc247 _ w245 ⟨rfl, C246⟩
  refine ⟨_, rfl, ?_⟩
  obtain ⟨S248, K249⟩ := S213.still C246
  replace h206 := h206.move (K249.at 0 rfl)
  replace h210 := h210.move (K249.at 1 rfl)
  replace b150 := K249.blk 2 rfl b150
  replace h84 := h84.move (K249.at 3 rfl)
  replace h88 := h88.move (K249.at 4 rfl)
  replace h128 := h128.move (K249.at 5 rfl)
  replace h132 := h132.move (K249.at 6 rfl)
  replace b99 := K249.blk 7 rfl b99
  replace b74 := K249.blk 8 rfl b74
  replace h59 := h59.move (K249.at 9 rfl)
  replace h63 := h63.move (K249.at 10 rfl)
  replace b14 := K249.blk 11 rfl b14
  refine ⟨⟨(Ext.trans E215 S248.inv), (fun b_ h_ => (K249.at 7 rfl b_ h_).trans (hs216.2 b_ h_))⟩, fun hs250 => ?_⟩
  refine xone (i := 4) (by kernel_rfl) hc247 ?_
  refine yo (i := 4) (d := 53) rfl rfl (wanted_none rfl _) (by kernel_rfl) (by kernel_rfl) (fun _ _ => Iff.rfl) hs250 (e_notv (c := t217) (by kernel_rfl)) ?_; intro hc251 hs252
  refine xn (by kernel_rfl) ?_ _
  refine then_n ?_
  by_cases q253 : ¬ (t217 = true)
  · replace M := ifp q253 M
    refine cond_t rfl (bt q253 (by kernel_rfl)) ?_
    refine wp_seq ?_
    refine wp_region_lit ?_
    refine lv (d := 6) rfl rfl (by kernel_rfl) (e_assign (v := .bool false) rfl) ?_
    refine wpList_nil ?_
    refine then_n ?_
    refine wp_ret ?_
    refine then_r ?_
    obtain rfl := Option.some.inj M
    exact ret1 rfl rfl  (show _ = .bool false from (by kernel_rfl)) ⟨rfl, S248.chg⟩
  replace M := ifn q253 M
  refine cond_f rfl (bf q253 (by kernel_rfl)) ?_
  refine wp_skip ?_
  refine then_n ?_
  refine wp_seq ?_
  refine wp_region_lit ?_
  refine lv (d := 13) rfl rfl (by kernel_rfl) (e_assign (v := .int .i64 1) rfl) ?_
  refine wpList_nil ?_
  refine then_n ?_
  refine wp_seq ?_
  refine wp_region_lit ?_
  refine lv (d := 54) rfl rfl (by kernel_rfl) (e_loadS (b := g94) (off := 0) (cs := [.slice A82 t77.cells.length c83, .slice A86 t77.trail.length c87]) Try.underlying34 rfl (by kernel_rfl) (by kernel_rfl) (blk_cells b99 rfl)) ?_
  refine lv (d := 55) rfl rfl (by kernel_rfl) (e_move (v := .int .i64 1) (by kernel_rfl)) ?_
  have S254 := S248.pull (F := F89) (Fr := [F207, F211, (is g145), F85, F129, F133, (is g94), (is g69), F60, F64, (is g13)]) 4 rfl rfl
  have S255 := S254.pull (F := F85) (Fr := [F89, F207, F211, (is g145), F129, F133, (is g94), (is g69), F60, F64, (is g13)]) 4 rfl rfl
  obtain ⟨t256, u257, M⟩ := bnd M
  refine lcall (d := 56) rfl rfl (by kernel_rfl) (e_call (l := [.tmp 54, .tmp 55]) (vs := [.agg #[.slice A82 t77.cells.length c83, .slice A86 t77.trail.length c87], .int .i64 1]) Try.func19 (by kernel_rfl) rfl (by kernel_rfl) rfl) (laws_markStore_2.calls k w245 H202 t77 A82 c83 F85 A86 c87 F89 1 h84 h88 (St.own' (Fa := [F85, F89]) (Fr := [F207, F211, (is g145), F129, F133, (is g94), (is g69), F60, F64, (is g13)]) S255) t256 u257) ?_
  rintro _ w258 ⟨F262, F265, H259, rfl, n263, h261, n266, h264, T260⟩
  refine ⟨_, rfl, ?_⟩
  obtain ⟨S267, K268⟩ := St.call (Fa := [F85, F89]) (Fr := [F207, F211, (is g145), F129, F133, (is g94), (is g69), F60, F64, (is g13)]) S255 T260
  replace h206 := h206.move (K268.at 0 rfl)
  replace h210 := h210.move (K268.at 1 rfl)
  replace b150 := K268.blk 2 rfl b150
  replace h128 := h128.move (K268.at 3 rfl)
  replace h132 := h132.move (K268.at 4 rfl)
  replace b99 := K268.blk 5 rfl b99
  replace b74 := K268.blk 6 rfl b74
  replace h59 := h59.move (K268.at 7 rfl)
  replace h63 := h63.move (K268.at 8 rfl)
  replace b14 := K268.blk 9 rfl b14
  have E269 := T260.ext
  replace h206 := h206.ext E269
  replace h210 := h210.ext E269
  replace h128 := h128.ext E269
  replace h132 := h132.ext E269
  replace h59 := h59.ext E269
  replace h63 := h63.ext E269
  refine lv (d := 13) rfl rfl (by kernel_rfl) (e_assign (v := .int .i64 t256.1) (by kernel_rfl)) ?_
  refine wpList_nil ?_
  refine then_n ?_
  refine wp_seq ?_
  refine wp_seq ?_
  refine wp_region_lit ?_
  refine lv (d := 57) rfl rfl (by kernel_rfl) (e_move (v := .int .i64 t256.1) (by kernel_rfl)) ?_
  refine lv (d := 58) rfl rfl (by kernel_rfl) (e_lss (k := .i64) (a := t256.1) (b := 0) (by kernel_rfl) rfl) ?_
  refine lv (d := 59) rfl rfl (by kernel_rfl) (e_move (v := .bool (decide (t256.1 < 0))) (by kernel_rfl)) ?_
  by_cases q270 : t256.1 < 0
  · replace M := ifp q270 M
    refine lskip (t := 59) (c := true) rfl (by kernel_rfl) rfl (bt q270 (by kernel_rfl)) rfl rfl ?_
    refine lskip (t := 59) (c := true) rfl (by kernel_rfl) rfl (bt q270 (by kernel_rfl)) rfl rfl ?_
    refine lskip (t := 59) (c := true) rfl (by kernel_rfl) rfl (bt q270 (by kernel_rfl)) rfl rfl ?_
    refine lskip (t := 59) (c := true) rfl (by kernel_rfl) rfl (bt q270 (by kernel_rfl)) rfl rfl ?_
    refine lv (d := 64) rfl rfl (by kernel_rfl) (e_pick_t (v := .bool true) (bt q270 (by kernel_rfl)) rfl) ?_
    refine lv (d := 65) rfl rfl (by kernel_rfl) (e_move (v := .bool true) (by kernel_rfl)) ?_
    refine lskip (t := 65) (c := true) rfl (by kernel_rfl) rfl (by kernel_rfl) rfl rfl ?_
    refine lskip (t := 65) (c := true) rfl (by kernel_rfl) rfl (by kernel_rfl) rfl rfl ?_
    refine lskip (t := 65) (c := true) rfl (by kernel_rfl) rfl (by kernel_rfl) rfl rfl ?_
    refine lv (d := 69) rfl rfl (by kernel_rfl) (e_pick_t (v := .bool true) (by kernel_rfl) rfl) ?_
    refine wpList_nil ?_
    refine then_n ?_
    refine cond_t rfl (by kernel_rfl) ?_
    refine wp_seq ?_
    refine wp_region_lit ?_
    refine lv (d := 6) rfl rfl (by kernel_rfl) (e_assign (v := .bool false) rfl) ?_
    refine wpList_nil ?_
    refine then_n ?_
    refine wp_ret ?_
    refine then_r ?_
    obtain rfl := Option.some.inj M
    exact ret1 rfl rfl  (show _ = .bool false from (by kernel_rfl)) ⟨rfl, S267.chg⟩
  replace M := ifn q270 M
  refine lvg (d := 60) (t := 59) rfl (by kernel_rfl) rfl (bf q270 (by kernel_rfl)) rfl (by kernel_rfl) (e_loadS (b := g145) (off := 0) (cs := [.slice A126 t121.1.cells.length c127, .slice A130 t121.1.trail.length c131]) Try.underlying34 rfl (by kernel_rfl) (by kernel_rfl) (blk_cells b150 rfl)) ?_
  refine lvg (d := 61) (t := 59) rfl (by kernel_rfl) rfl (bf q270 (by kernel_rfl)) rfl (by kernel_rfl) (e_loadS (b := g69) (off := 0) (cs := [.slice A57 t52.1.cells.length c58, .slice A61 t52.1.trail.length c62]) Try.underlying34 rfl (by kernel_rfl) (by kernel_rfl) (blk_cells b74 rfl)) ?_
  obtain ⟨t271, u272, M⟩ := bnd M
  refine lcallg (d := 62) (t := 59) rfl (by kernel_rfl) rfl (bf q270 (by kernel_rfl)) rfl (by kernel_rfl) (e_call (l := [.tmp 60, .tmp 61]) (vs := [.agg #[.slice A126 t121.1.cells.length c127, .slice A130 t121.1.trail.length c131], .agg #[.slice A57 t52.1.cells.length c58, .slice A61 t52.1.trail.length c62]]) Try.func15 (by kernel_rfl) rfl (by kernel_rfl) rfl) (by have l273 := h128.le; have S274 := S267.pull (F := F129) (Fr := [F262, F265, F207, F211, (is g145), F133, (is g94), (is g69), F60, F64, (is g13)]) 5 rfl rfl; obtain ⟨H275, S276, E277, h278, z279⟩ := S274.frzRow h128; replace h261 := h261.ext E277; replace h264 := h264.ext E277; replace h206 := h206.ext E277; replace h210 := h210.ext E277; replace h132 := h132.ext E277; replace h59 := h59.ext E277; replace h63 := h63.ext E277; have l280 := h132.le; have S281 := S276.pull (F := F133) (Fr := [F262, F265, F207, F211, (is g145), (is g94), (is g69), F60, F64, (is g13)]) 5 rfl rfl; obtain ⟨H282, S283, E284, h285, z286⟩ := S281.frzRow h132; replace h261 := h261.ext E284; replace h264 := h264.ext E284; replace h206 := h206.ext E284; replace h210 := h210.ext E284; replace h59 := h59.ext E284; replace h63 := h63.ext E284; have l287 := h59.le; have S288 := S283.pull (F := F60) (Fr := [F262, F265, F207, F211, (is g145), (is g94), (is g69), F64, (is g13)]) 7 rfl rfl; obtain ⟨H289, S290, E291, h292, z293⟩ := S288.frzRow h59; replace h261 := h261.ext E291; replace h264 := h264.ext E291; replace h206 := h206.ext E291; replace h210 := h210.ext E291; replace h63 := h63.ext E291; have l294 := h63.le; have S295 := S290.pull (F := F64) (Fr := [F262, F265, F207, F211, (is g145), (is g94), (is g69), (is g13)]) 7 rfl rfl; obtain ⟨H296, S297, E298, h299, z300⟩ := S295.frzRow h63; replace h261 := h261.ext E298; replace h264 := h264.ext E298; replace h206 := h206.ext E298; replace h210 := h210.ext E298; exact (laws_eqStore.calls k w258 H296 t121.1 A126 c127 A130 c131 t52.1 A57 c58 A61 c62 (h278.ext ((E284.trans E291).trans E298)) l273 (h285.ext (E291.trans E298)) l280 (h292.ext E298) l287 h299 l294 S297.own0 t271 u272)) ?_
  rintro _ w301 ⟨rfl, C302⟩
  refine ⟨_, rfl, ?_⟩
  obtain ⟨S303, K304⟩ := S267.still C302
  replace h261 := h261.move (K304.at 0 rfl)
  replace h264 := h264.move (K304.at 1 rfl)
  replace h206 := h206.move (K304.at 2 rfl)
  replace h210 := h210.move (K304.at 3 rfl)
  replace b150 := K304.blk 4 rfl b150
  replace h128 := h128.move (K304.at 5 rfl)
  replace h132 := h132.move (K304.at 6 rfl)
  replace b99 := K304.blk 7 rfl b99
  replace b74 := K304.blk 8 rfl b74
  replace h59 := h59.move (K304.at 9 rfl)
  replace h63 := h63.move (K304.at 10 rfl)
  replace b14 := K304.blk 11 rfl b14
  refine lvg (d := 63) (t := 59) rfl (by kernel_rfl) rfl (bf q270 (by kernel_rfl)) rfl (by kernel_rfl) (e_notv (c := t271) (by kernel_rfl)) ?_
  refine lv (d := 64) rfl rfl (by kernel_rfl) (e_pick_f (v := .bool (decide (¬ (t271 = true)))) (bf q270 (by kernel_rfl)) (by kernel_rfl)) ?_
  refine lv (d := 65) rfl rfl (by kernel_rfl) (e_move (v := .bool (decide (¬ (t271 = true)))) (by kernel_rfl)) ?_
  by_cases q305 : ¬ (t271 = true)
  · replace M := ifp q305 M
    refine lskip (t := 65) (c := true) rfl (by kernel_rfl) rfl (bt q305 (by kernel_rfl)) rfl rfl ?_
    refine lskip (t := 65) (c := true) rfl (by kernel_rfl) rfl (bt q305 (by kernel_rfl)) rfl rfl ?_
    refine lskip (t := 65) (c := true) rfl (by kernel_rfl) rfl (bt q305 (by kernel_rfl)) rfl rfl ?_
    refine lv (d := 69) rfl rfl (by kernel_rfl) (e_pick_t (v := .bool true) (bt q305 (by kernel_rfl)) rfl) ?_
    refine wpList_nil ?_
    refine then_n ?_
    refine cond_t rfl (by kernel_rfl) ?_
    refine wp_seq ?_
    refine wp_region_lit ?_
    refine lv (d := 6) rfl rfl (by kernel_rfl) (e_assign (v := .bool false) rfl) ?_
    refine wpList_nil ?_
    refine then_n ?_
    refine wp_ret ?_
    refine then_r ?_
    obtain rfl := Option.some.inj M
    exact ret1 rfl rfl  (show _ = .bool false from (by kernel_rfl)) ⟨rfl, S303.chg⟩
  replace M := ifn q305 M
  refine lvg (d := 66) (t := 65) rfl (by kernel_rfl) rfl (bf q305 (by kernel_rfl)) rfl (by kernel_rfl) (e_move (v := .int .i64 t121.2) (by kernel_rfl)) ?_
  refine lvg (d := 67) (t := 65) rfl (by kernel_rfl) rfl (bf q305 (by kernel_rfl)) rfl (by kernel_rfl) (e_move (v := .int .i64 t52.2) (by kernel_rfl)) ?_
  refine lvg (d := 68) (t := 65) rfl (by kernel_rfl) rfl (bf q305 (by kernel_rfl)) rfl (by kernel_rfl) (e_neq (k := .i64) (a := t121.2) (b := t52.2) (by kernel_rfl) (by kernel_rfl)) ?_
  refine lv (d := 69) rfl rfl (by kernel_rfl) (e_pick_f (v := .bool (decide (t121.2 ≠ t52.2))) (bf q305 (by kernel_rfl)) (by kernel_rfl)) ?_
  refine wpList_nil ?_
  refine then_n ?_
  refine cond_f rfl (bf q188 (by kernel_rfl)) ?_
  refine wp_skip ?_
  refine then_n ?_
  refine wp_seq ?_
  refine wp_region_lit ?_
  refine lv (d := 14) rfl rfl (by kernel_rfl) (e_assign (v := .int .i64 1) rfl) ?_
  refine wpList_nil ?_
  refine then_n ?_
  refine wp_seq ?_
  refine wp_region_lit ?_
  refine lv (d := 70) rfl rfl (by kernel_rfl) (e_loadS (b := g145) (off := 0) (cs := [.slice A126 t121.1.cells.length c127, .slice A130 t121.1.trail.length c131]) Try.underlying34 rfl (by kernel_rfl) (by kernel_rfl) (blk_cells b150 rfl)) ?_
  refine lv (d := 71) rfl rfl (by kernel_rfl) (e_move (v := .int .i64 1) (by kernel_rfl)) ?_
  have S306 := S303.pull (F := F133) (Fr := [F262, F265, F207, F211, (is g145), F129, (is g94), (is g69), F60, F64, (is g13)]) 6 rfl rfl
  have S307 := S306.pull (F := F129) (Fr := [F133, F262, F265, F207, F211, (is g145), (is g94), (is g69), F60, F64, (is g13)]) 6 rfl rfl
  obtain ⟨t308, u309, M⟩ := bnd M
  refine lcall (d := 72) rfl rfl (by kernel_rfl) (e_call (l := [.tmp 70, .tmp 71]) (vs := [.agg #[.slice A126 t121.1.cells.length c127, .slice A130 t121.1.trail.length c131], .int .i64 1]) Try.func19 (by kernel_rfl) rfl (by kernel_rfl) rfl) (laws_markStore_2.calls k w301 H259 t121.1 A126 c127 F129 A130 c131 F133 1 h128 h132 (St.own' (Fa := [F129, F133]) (Fr := [F262, F265, F207, F211, (is g145), (is g94), (is g69), F60, F64, (is g13)]) S307) t308 u309) ?_
  rintro _ w310 ⟨F314, F317, H311, rfl, n315, h313, n318, h316, T312⟩
  refine ⟨_, rfl, ?_⟩
  obtain ⟨S319, K320⟩ := St.call (Fa := [F129, F133]) (Fr := [F262, F265, F207, F211, (is g145), (is g94), (is g69), F60, F64, (is g13)]) S307 T312
  replace h261 := h261.move (K320.at 0 rfl)
  replace h264 := h264.move (K320.at 1 rfl)
  replace h206 := h206.move (K320.at 2 rfl)
  replace h210 := h210.move (K320.at 3 rfl)
  replace b150 := K320.blk 4 rfl b150
  replace b99 := K320.blk 5 rfl b99
  replace b74 := K320.blk 6 rfl b74
  replace h59 := h59.move (K320.at 7 rfl)
  replace h63 := h63.move (K320.at 8 rfl)
  replace b14 := K320.blk 9 rfl b14
  have E321 := T312.ext
  replace h261 := h261.ext E321
  replace h264 := h264.ext E321
  replace h206 := h206.ext E321
  replace h210 := h210.ext E321
  replace h59 := h59.ext E321
  replace h63 := h63.ext E321
  refine lv (d := 14) rfl rfl (by kernel_rfl) (e_assign (v := .int .i64 t308.1) (by kernel_rfl)) ?_
  refine wpList_nil ?_
  refine then_n ?_
  refine wp_seq ?_
  refine wp_region_lit ?_
  refine lv (d := 15) rfl rfl (by kernel_rfl) (e_assign (v := .int .i64 1) rfl) ?_
  refine wpList_nil ?_
  refine then_n ?_
  refine wp_seq ?_
  refine wp_region_lit ?_
  refine lv (d := 73) rfl rfl (by kernel_rfl) (e_loadS (b := g145) (off := 0) (cs := [.slice A126 t121.1.cells.length c127, .slice A130 t121.1.trail.length c131]) Try.underlying34 rfl (by kernel_rfl) (by kernel_rfl) (blk_cells b150 rfl)) ?_
  refine lv (d := 74) rfl rfl (by kernel_rfl) (e_move (v := .int .i64 1) (by kernel_rfl)) ?_
  obtain ⟨t322, u323, M⟩ := bnd M
  refine lcall (d := 75) rfl rfl (by kernel_rfl) (e_call (l := [.tmp 73, .tmp 74]) (vs := [.agg #[.slice A126 t121.1.cells.length c127, .slice A130 t121.1.trail.length c131], .int .i64 1]) Try.func29 (by kernel_rfl) rfl (by kernel_rfl) rfl) (by have l324 := h313.le; obtain ⟨H325, S326, E327, h328, z329⟩ := S319.frzRow h313; replace h316 := h316.ext E327; replace h261 := h261.ext E327; replace h264 := h264.ext E327; replace h206 := h206.ext E327; replace h210 := h210.ext E327; replace h59 := h59.ext E327; replace h63 := h63.ext E327; have l330 := h316.le; obtain ⟨H331, S332, E333, h334, z335⟩ := S326.frzRow h316; replace h261 := h261.ext E333; replace h264 := h264.ext E333; replace h206 := h206.ext E333; replace h210 := h210.ext E333; replace h59 := h59.ext E333; replace h63 := h63.ext E333; exact (by have q_ := (laws_heldStore.calls k w310 H331 (⟨t308.2.1, t308.2.2⟩ : Store) A126 c127 A130 c131 1 (h328.ext E333) l324 h334 l330 S332.own0 t322 u323); rw [(show t308.2.1.length = t121.1.cells.length from n315), (show t308.2.2.length = t121.1.trail.length from n318)] at q_; exact q_)) ?_
  rintro _ w336 ⟨rfl, C337⟩
  refine ⟨_, rfl, ?_⟩
  obtain ⟨S338, K339⟩ := S319.still C337
  replace h313 := h313.move (K339.at 0 rfl)
  replace h316 := h316.move (K339.at 1 rfl)
  replace h261 := h261.move (K339.at 2 rfl)
  replace h264 := h264.move (K339.at 3 rfl)
  replace h206 := h206.move (K339.at 4 rfl)
  replace h210 := h210.move (K339.at 5 rfl)
  replace b150 := K339.blk 6 rfl b150
  replace b99 := K339.blk 7 rfl b99
  replace b74 := K339.blk 8 rfl b74
  replace h59 := h59.move (K339.at 9 rfl)
  replace h63 := h63.move (K339.at 10 rfl)
  replace b14 := K339.blk 11 rfl b14
  refine lv (d := 15) rfl rfl (by kernel_rfl) (e_assign (v := .int .i64 t322) (by kernel_rfl)) ?_
  refine wpList_nil ?_
  refine then_n ?_
  refine wp_seq ?_
  refine wp_seq ?_
  refine wp_region_lit ?_
  refine lv (d := 76) rfl rfl (by kernel_rfl) (e_move (v := .int .i64 t322) (by kernel_rfl)) ?_
  refine lv (d := 77) rfl rfl (by kernel_rfl) (e_lss (k := .i64) (a := t322) (b := 0) (by kernel_rfl) rfl) ?_
  refine wpList_nil ?_
  refine then_n ?_
  by_cases q340 : t322 < 0
  · replace M := ifp q340 M
    refine cond_t rfl (bt q340 (by kernel_rfl)) ?_
    refine wp_seq ?_
    refine wp_region_lit ?_
    refine lv (d := 6) rfl rfl (by kernel_rfl) (e_assign (v := .bool false) rfl) ?_
    refine wpList_nil ?_
    refine then_n ?_
    refine wp_ret ?_
    refine then_r ?_
    obtain rfl := Option.some.inj M
    exact ret1 rfl rfl  (show _ = .bool false from (by kernel_rfl)) ⟨rfl, S338.chg⟩
  replace M := ifn q340 M
  refine cond_f rfl (bf q340 (by kernel_rfl)) ?_
  refine wp_skip ?_
  refine then_n ?_
  refine wp_seq ?_
  refine wp_seq ?_
  refine wp_region_lit ?_
  refine lv (d := 78) rfl rfl (by kernel_rfl) (e_move (v := .int .i64 t322) (by kernel_rfl)) ?_
  refine lv (d := 79) rfl rfl (by kernel_rfl) (e_move (v := .int .i64 t308.1) (by kernel_rfl)) ?_
  refine lv (d := 80) rfl rfl (by kernel_rfl) (e_neq (k := .i64) (a := t322) (b := t308.1) (by kernel_rfl) (by kernel_rfl)) ?_
  refine wpList_nil ?_
  refine then_n ?_
  by_cases q341 : t322 ≠ t308.1
  · replace M := ifp q341 M
    refine cond_t rfl (bt q341 (by kernel_rfl)) ?_
    refine wp_seq ?_
    refine wp_region_lit ?_
    refine lv (d := 6) rfl rfl (by kernel_rfl) (e_assign (v := .bool false) rfl) ?_
    refine wpList_nil ?_
    refine then_n ?_
    refine wp_ret ?_
    refine then_r ?_
    obtain rfl := Option.some.inj M
    exact ret1 rfl rfl  (show _ = .bool false from (by kernel_rfl)) ⟨rfl, S338.chg⟩
  replace M := ifn q341 M
  refine cond_f rfl (bf q341 (by kernel_rfl)) ?_
  refine wp_skip ?_
  refine then_n ?_
  refine wp_seq ?_
  refine wp_region_lit ?_
  refine lv (d := 82) rfl rfl (by kernel_rfl) (e_loadS (b := g13) (off := 0) (cs := [.slice A2 x1.cells.length c3, .slice A6 x1.trail.length c7]) Try.underlying25 rfl (by kernel_rfl) (by kernel_rfl) (blk_cells b14 rfl)) ?_
  obtain ⟨t342, u343, M⟩ := bnd M
  refine lcall (d := 83) rfl rfl (by kernel_rfl) (e_call (l := [.tmp 82]) (vs := [.agg #[.slice A2 x1.cells.length c3, .slice A6 x1.trail.length c7]]) Try.func12 (by kernel_rfl) rfl (by kernel_rfl) rfl) (laws_toStore.calls k w336 H311 x1 A2 c3 A6 c7 (h4.ext ((((((((E39.trans E43).trans E49).trans E67).trans E92).trans E142).trans E215).trans E269).trans E321)) l5 (h8.ext ((((((((E39.trans E43).trans E49).trans E67).trans E92).trans E142).trans E215).trans E269).trans E321)) l9 (St.own' (Fa := []) (Fr := [F314, F317, F262, F265, F207, F211, (is g145), (is g94), (is g69), F60, F64, (is g13)]) S338) t342 u343) ?_
  rintro _ w344 ⟨A347, c348, F350, A351, c352, F354, H345, rfl, h349, h353, T346⟩
  refine ⟨_, rfl, ?_⟩
  obtain ⟨S355, K356⟩ := St.call (Fa := []) (Fr := [F314, F317, F262, F265, F207, F211, (is g145), (is g94), (is g69), F60, F64, (is g13)]) S338 T346
  replace h313 := h313.move (K356.at 0 rfl)
  replace h316 := h316.move (K356.at 1 rfl)
  replace h261 := h261.move (K356.at 2 rfl)
  replace h264 := h264.move (K356.at 3 rfl)
  replace h206 := h206.move (K356.at 4 rfl)
  replace h210 := h210.move (K356.at 5 rfl)
  replace b150 := K356.blk 6 rfl b150
  replace b99 := K356.blk 7 rfl b99
  replace b74 := K356.blk 8 rfl b74
  replace h59 := h59.move (K356.at 9 rfl)
  replace h63 := h63.move (K356.at 10 rfl)
  replace b14 := K356.blk 11 rfl b14
  have E357 := T346.ext
  replace h313 := h313.ext E357
  replace h316 := h316.ext E357
  replace h261 := h261.ext E357
  replace h264 := h264.ext E357
  replace h206 := h206.ext E357
  replace h210 := h210.ext E357
  replace h59 := h59.ext E357
  replace h63 := h63.ext E357
  refine lv (d := 84) rfl rfl (by kernel_rfl) (e_move (v := .int .i64 x10) (by kernel_rfl)) ?_
  refine lv (d := 85) rfl rfl (by kernel_rfl) (e_move (v := .int .i64 x11) (by kernel_rfl)) ?_
  have l358 := h349.le
  obtain ⟨H359, S360, E361, h362, z363⟩ := S355.frzRow h349
  replace h353 := h353.ext E361
  replace h313 := h313.ext E361
  replace h316 := h316.ext E361
  replace h261 := h261.ext E361
  replace h264 := h264.ext E361
  replace h206 := h206.ext E361
  replace h210 := h210.ext E361
  replace h59 := h59.ext E361
  replace h63 := h63.ext E361
  have l364 := h353.le
  obtain ⟨H365, S366, E367, h368, z369⟩ := S360.frzRow h353
  replace h313 := h313.ext E367
  replace h316 := h316.ext E367
  replace h261 := h261.ext E367
  replace h264 := h264.ext E367
  replace h206 := h206.ext E367
  replace h210 := h210.ext E367
  replace h59 := h59.ext E367
  replace h63 := h63.ext E367
  obtain ⟨t370, u371, M⟩ := bnd M
  refine lcall (d := 86) rfl rfl (by kernel_rfl) (e_call (l := [.tmp 83, .tmp 84, .tmp 85]) (vs := [.agg #[.slice A347 t342.cells.length c348, .slice A351 t342.trail.length c352], .int .i64 x10, .int .i64 x11]) Try.func28 (by kernel_rfl) rfl (by kernel_rfl) rfl) (impl_Unwind.calls k w344 H365 t342 A347 c348 A351 c352 x10 x11 (h362.ext E367) l358 h368 l364 (St.own' (Fa := []) (Fr := [F314, F317, F262, F265, F207, F211, (is g145), (is g94), (is g69), F60, F64, (is g13)]) S366) t370 u371) ?_
  rintro _ w372 ⟨A375, c376, F378, A379, c380, F382, H373, rfl, h377, h381, T374⟩
  refine ⟨_, rfl, ?_⟩
  obtain ⟨S383, K384⟩ := St.call (Fa := []) (Fr := [F314, F317, F262, F265, F207, F211, (is g145), (is g94), (is g69), F60, F64, (is g13)]) S366 T374
  replace h313 := h313.move (K384.at 0 rfl)
  replace h316 := h316.move (K384.at 1 rfl)
  replace h261 := h261.move (K384.at 2 rfl)
  replace h264 := h264.move (K384.at 3 rfl)
  replace h206 := h206.move (K384.at 4 rfl)
  replace h210 := h210.move (K384.at 5 rfl)
  replace b150 := K384.blk 6 rfl b150
  replace b99 := K384.blk 7 rfl b99
  replace b74 := K384.blk 8 rfl b74
  replace h59 := h59.move (K384.at 9 rfl)
  replace h63 := h63.move (K384.at 10 rfl)
  replace b14 := K384.blk 11 rfl b14
  have E385 := T374.ext
  replace h313 := h313.ext E385
  replace h316 := h316.ext E385
  replace h261 := h261.ext E385
  replace h264 := h264.ext E385
  replace h206 := h206.ext E385
  replace h210 := h210.ext E385
  replace h59 := h59.ext E385
  replace h63 := h63.ext E385
  refine lv (d := 81) rfl rfl (by kernel_rfl) (e_move (v := .tuple #[.agg #[.slice A375 t370.1.cells.length c376, .slice A379 t370.1.trail.length c380], .int .i64 t370.2]) (by kernel_rfl)) ?_
  refine lv (d := 87) rfl rfl (by kernel_rfl) (e_extract (vs := #[.agg #[.slice A375 t370.1.cells.length c376, .slice A379 t370.1.trail.length c380], .int .i64 t370.2]) (v := .agg #[.slice A375 t370.1.cells.length c376, .slice A379 t370.1.trail.length c380]) (by kernel_rfl) rfl) ?_
  refine lv (d := 88) rfl rfl (by kernel_rfl) (e_extract (vs := #[.agg #[.slice A375 t370.1.cells.length c376, .slice A379 t370.1.trail.length c380], .int .i64 t370.2]) (v := .int .i64 t370.2) (by kernel_rfl) rfl) ?_
  refine lve (d := 16) rfl rfl (by kernel_rfl) (new_blk (v := fun g_ => .pointer (some ⟨g_, 0, none⟩)) (cs := #[.slice none 0 0, .slice none 0 0]) (t := 34) S383 (by kernel_rfl)) ?_
  rintro _ w386 ⟨g387, rfl, b388, S389, K390⟩
  replace h377 := h377.move (K390.at 0 rfl)
  replace h381 := h381.move (K390.at 1 rfl)
  replace h313 := h313.move (K390.at 2 rfl)
  replace h316 := h316.move (K390.at 3 rfl)
  replace h261 := h261.move (K390.at 4 rfl)
  replace h264 := h264.move (K390.at 5 rfl)
  replace h206 := h206.move (K390.at 6 rfl)
  replace h210 := h210.move (K390.at 7 rfl)
  replace b150 := K390.blk 8 rfl b150
  replace b99 := K390.blk 9 rfl b99
  replace b74 := K390.blk 10 rfl b74
  replace h59 := h59.move (K390.at 11 rfl)
  replace h63 := h63.move (K390.at 12 rfl)
  replace b14 := K390.blk 13 rfl b14
  refine lse rfl rfl (by kernel_rfl) (e_store (g := g387) (o := 0) (v := .agg #[.slice A375 t370.1.cells.length c376, .slice A379 t370.1.trail.length c380]) (cur' := #[.slice A375 t370.1.cells.length c376, .slice A379 t370.1.trail.length c380]) (vs := [.slice A375 t370.1.cells.length c376, .slice A379 t370.1.trail.length c380]) S389 (by kernel_rfl) (by kernel_rfl) rfl (by kernel_rfl) b388 (Nat.le_of_ble_eq_true rfl) (List.forall_mem_cons.2 ⟨rfl, (List.forall_mem_cons.2 ⟨rfl, (fun _ h_ => by cases h_)⟩)⟩) rfl) ?_
  rintro w391 ⟨b392, S393, K394⟩
  replace h377 := h377.move (K394.at 0 rfl)
  replace h381 := h381.move (K394.at 1 rfl)
  replace h313 := h313.move (K394.at 2 rfl)
  replace h316 := h316.move (K394.at 3 rfl)
  replace h261 := h261.move (K394.at 4 rfl)
  replace h264 := h264.move (K394.at 5 rfl)
  replace h206 := h206.move (K394.at 6 rfl)
  replace h210 := h210.move (K394.at 7 rfl)
  replace b150 := K394.blk 8 rfl b150
  replace b99 := K394.blk 9 rfl b99
  replace b74 := K394.blk 10 rfl b74
  replace h59 := h59.move (K394.at 11 rfl)
  replace h63 := h63.move (K394.at 12 rfl)
  replace b14 := K394.blk 13 rfl b14
  clear b388
  refine lv (d := 17) rfl rfl (by kernel_rfl) (e_assign (v := .int .i64 t370.2) (by kernel_rfl)) ?_
  refine wpList_nil ?_
  refine then_n ?_
  refine wp_seq ?_
  refine wp_seq ?_
  refine wp_region_lit ?_
  refine lv (d := 89) rfl rfl (by kernel_rfl) (e_loadS (b := g387) (off := 0) (cs := [.slice A375 t370.1.cells.length c376, .slice A379 t370.1.trail.length c380]) Try.underlying34 rfl (by kernel_rfl) (by kernel_rfl) (blk_cells b392 rfl)) ?_
  refine lv (d := 90) rfl rfl (by kernel_rfl) (e_loadS (b := g69) (off := 0) (cs := [.slice A57 t52.1.cells.length c58, .slice A61 t52.1.trail.length c62]) Try.underlying34 rfl (by kernel_rfl) (by kernel_rfl) (blk_cells b74 rfl)) ?_
  obtain ⟨t395, u396, M⟩ := bnd M
  refine lcall (d := 91) rfl rfl (by kernel_rfl) (e_call (l := [.tmp 89, .tmp 90]) (vs := [.agg #[.slice A375 t370.1.cells.length c376, .slice A379 t370.1.trail.length c380], .agg #[.slice A57 t52.1.cells.length c58, .slice A61 t52.1.trail.length c62]]) Try.func15 (by kernel_rfl) rfl (by kernel_rfl) rfl) (by have l397 := h377.le; have S398 := S393.pull (F := F378) (Fr := [(is g387), F382, F314, F317, F262, F265, F207, F211, (is g145), (is g94), (is g69), F60, F64, (is g13)]) 1 rfl rfl; obtain ⟨H399, S400, E401, h402, z403⟩ := S398.frzRow h377; replace h381 := h381.ext E401; replace h313 := h313.ext E401; replace h316 := h316.ext E401; replace h261 := h261.ext E401; replace h264 := h264.ext E401; replace h206 := h206.ext E401; replace h210 := h210.ext E401; replace h59 := h59.ext E401; replace h63 := h63.ext E401; have l404 := h381.le; have S405 := S400.pull (F := F382) (Fr := [(is g387), F314, F317, F262, F265, F207, F211, (is g145), (is g94), (is g69), F60, F64, (is g13)]) 1 rfl rfl; obtain ⟨H406, S407, E408, h409, z410⟩ := S405.frzRow h381; replace h313 := h313.ext E408; replace h316 := h316.ext E408; replace h261 := h261.ext E408; replace h264 := h264.ext E408; replace h206 := h206.ext E408; replace h210 := h210.ext E408; replace h59 := h59.ext E408; replace h63 := h63.ext E408; have l411 := h59.le; have S412 := S407.pull (F := F60) (Fr := [(is g387), F314, F317, F262, F265, F207, F211, (is g145), (is g94), (is g69), F64, (is g13)]) 10 rfl rfl; obtain ⟨H413, S414, E415, h416, z417⟩ := S412.frzRow h59; replace h313 := h313.ext E415; replace h316 := h316.ext E415; replace h261 := h261.ext E415; replace h264 := h264.ext E415; replace h206 := h206.ext E415; replace h210 := h210.ext E415; replace h63 := h63.ext E415; have l418 := h63.le; have S419 := S414.pull (F := F64) (Fr := [(is g387), F314, F317, F262, F265, F207, F211, (is g145), (is g94), (is g69), (is g13)]) 10 rfl rfl; obtain ⟨H420, S421, E422, h423, z424⟩ := S419.frzRow h63; replace h313 := h313.ext E422; replace h316 := h316.ext E422; replace h261 := h261.ext E422; replace h264 := h264.ext E422; replace h206 := h206.ext E422; replace h210 := h210.ext E422; exact (laws_eqStore.calls k w391 H420 t370.1 A375 c376 A379 c380 t52.1 A57 c58 A61 c62 (h402.ext ((E408.trans E415).trans E422)) l397 (h409.ext (E415.trans E422)) l404 (h416.ext E422) l411 h423 l418 S421.own0 t395 u396)) ?_
  rintro _ w425 ⟨rfl, C426⟩
  refine ⟨_, rfl, ?_⟩
  obtain ⟨S427, K428⟩ := S393.still C426
  replace b392 := K428.blk 0 rfl b392
  replace h377 := h377.move (K428.at 1 rfl)
  replace h381 := h381.move (K428.at 2 rfl)
  replace h313 := h313.move (K428.at 3 rfl)
  replace h316 := h316.move (K428.at 4 rfl)
  replace h261 := h261.move (K428.at 5 rfl)
  replace h264 := h264.move (K428.at 6 rfl)
  replace h206 := h206.move (K428.at 7 rfl)
  replace h210 := h210.move (K428.at 8 rfl)
  replace b150 := K428.blk 9 rfl b150
  replace b99 := K428.blk 10 rfl b99
  replace b74 := K428.blk 11 rfl b74
  replace h59 := h59.move (K428.at 12 rfl)
  replace h63 := h63.move (K428.at 13 rfl)
  replace b14 := K428.blk 14 rfl b14
  refine lv (d := 92) rfl rfl (by kernel_rfl) (e_notv (c := t395) (by kernel_rfl)) ?_
  refine lv (d := 93) rfl rfl (by kernel_rfl) (e_move (v := .bool (decide (¬ (t395 = true)))) (by kernel_rfl)) ?_
  by_cases q429 : ¬ (t395 = true)
  · replace M := ifp q429 M
    refine lskip (t := 93) (c := true) rfl (by kernel_rfl) rfl (bt q429 (by kernel_rfl)) rfl rfl ?_
    refine lskip (t := 93) (c := true) rfl (by kernel_rfl) rfl (bt q429 (by kernel_rfl)) rfl rfl ?_
    refine lskip (t := 93) (c := true) rfl (by kernel_rfl) rfl (bt q429 (by kernel_rfl)) rfl rfl ?_
    refine lv (d := 97) rfl rfl (by kernel_rfl) (e_pick_t (v := .bool true) (bt q429 (by kernel_rfl)) rfl) ?_
    refine wpList_nil ?_
    refine then_n ?_
    refine cond_t rfl (by kernel_rfl) ?_
    refine wp_seq ?_
    refine wp_region_lit ?_
    refine lv (d := 6) rfl rfl (by kernel_rfl) (e_assign (v := .bool false) rfl) ?_
    refine wpList_nil ?_
    refine then_n ?_
    refine wp_ret ?_
    refine then_r ?_
    obtain rfl := Option.some.inj M
    exact ret1 rfl rfl  (show _ = .bool false from (by kernel_rfl)) ⟨rfl, S427.chg⟩
  replace M := ifn q429 M
  refine lvg (d := 94) (t := 93) rfl (by kernel_rfl) rfl (bf q429 (by kernel_rfl)) rfl (by kernel_rfl) (e_move (v := .int .i64 t370.2) (by kernel_rfl)) ?_
  refine lvg (d := 95) (t := 93) rfl (by kernel_rfl) rfl (bf q429 (by kernel_rfl)) rfl (by kernel_rfl) (e_move (v := .int .i64 t52.2) (by kernel_rfl)) ?_
  refine lvg (d := 96) (t := 93) rfl (by kernel_rfl) rfl (bf q429 (by kernel_rfl)) rfl (by kernel_rfl) (e_neq (k := .i64) (a := t370.2) (b := t52.2) (by kernel_rfl) (by kernel_rfl)) ?_
  refine lv (d := 97) rfl rfl (by kernel_rfl) (e_pick_f (v := .bool (decide (t370.2 ≠ t52.2))) (bf q429 (by kernel_rfl)) (by kernel_rfl)) ?_
  refine wpList_nil ?_
  refine then_n ?_
  by_cases q430 : t370.2 ≠ t52.2
  · replace M := ifp q430 M
    refine cond_t rfl (bt q430 (by kernel_rfl)) ?_
    refine wp_seq ?_
    refine wp_region_lit ?_
    refine lv (d := 6) rfl rfl (by kernel_rfl) (e_assign (v := .bool false) rfl) ?_
    refine wpList_nil ?_
    refine then_n ?_
    refine wp_ret ?_
    refine then_r ?_
    obtain rfl := Option.some.inj M
    exact ret1 rfl rfl  (show _ = .bool false from (by kernel_rfl)) ⟨rfl, S427.chg⟩
  replace M := ifn q430 M
  refine cond_f rfl (bf q430 (by kernel_rfl)) ?_
  refine wp_skip ?_
  refine then_n ?_
  refine wp_seq ?_
  refine wp_region_lit ?_
  refine lv (d := 15) rfl rfl (by kernel_rfl) (e_assign (v := .int .i64 1) rfl) ?_
  refine wpList_nil ?_
  refine then_n ?_
  refine wp_seq ?_
  refine wp_region_lit ?_
  refine lv (d := 98) rfl rfl (by kernel_rfl) (e_loadS (b := g145) (off := 0) (cs := [.slice A126 t121.1.cells.length c127, .slice A130 t121.1.trail.length c131]) Try.underlying34 rfl (by kernel_rfl) (by kernel_rfl) (blk_cells b150 rfl)) ?_
  refine lv (d := 99) rfl rfl (by kernel_rfl) (e_move (v := .int .i64 1) (by kernel_rfl)) ?_
  obtain ⟨t431, u432, M⟩ := bnd M
  refine lcall (d := 100) rfl rfl (by kernel_rfl) (e_call (l := [.tmp 98, .tmp 99]) (vs := [.agg #[.slice A126 t121.1.cells.length c127, .slice A130 t121.1.trail.length c131], .int .i64 1]) Try.func29 (by kernel_rfl) rfl (by kernel_rfl) rfl) (by have l433 := h313.le; have S434 := S427.pull (F := F314) (Fr := [(is g387), F378, F382, F317, F262, F265, F207, F211, (is g145), (is g94), (is g69), F60, F64, (is g13)]) 3 rfl rfl; obtain ⟨H435, S436, E437, h438, z439⟩ := S434.frzRow h313; replace h377 := h377.ext E437; replace h381 := h381.ext E437; replace h316 := h316.ext E437; replace h261 := h261.ext E437; replace h264 := h264.ext E437; replace h206 := h206.ext E437; replace h210 := h210.ext E437; replace h59 := h59.ext E437; replace h63 := h63.ext E437; have l440 := h316.le; have S441 := S436.pull (F := F317) (Fr := [(is g387), F378, F382, F262, F265, F207, F211, (is g145), (is g94), (is g69), F60, F64, (is g13)]) 3 rfl rfl; obtain ⟨H442, S443, E444, h445, z446⟩ := S441.frzRow h316; replace h377 := h377.ext E444; replace h381 := h381.ext E444; replace h261 := h261.ext E444; replace h264 := h264.ext E444; replace h206 := h206.ext E444; replace h210 := h210.ext E444; replace h59 := h59.ext E444; replace h63 := h63.ext E444; exact (by have q_ := (laws_heldStore.calls k w425 H442 (⟨t308.2.1, t308.2.2⟩ : Store) A126 c127 A130 c131 1 (h438.ext E444) l433 h445 l440 S443.own0 t431 u432); rw [(show t308.2.1.length = t121.1.cells.length from n315), (show t308.2.2.length = t121.1.trail.length from n318)] at q_; exact q_)) ?_
  rintro _ w447 ⟨rfl, C448⟩
  refine ⟨_, rfl, ?_⟩
  obtain ⟨S449, K450⟩ := S427.still C448
  replace b392 := K450.blk 0 rfl b392
  replace h377 := h377.move (K450.at 1 rfl)
  replace h381 := h381.move (K450.at 2 rfl)
  replace h313 := h313.move (K450.at 3 rfl)
  replace h316 := h316.move (K450.at 4 rfl)
  replace h261 := h261.move (K450.at 5 rfl)
  replace h264 := h264.move (K450.at 6 rfl)
  replace h206 := h206.move (K450.at 7 rfl)
  replace h210 := h210.move (K450.at 8 rfl)
  replace b150 := K450.blk 9 rfl b150
  replace b99 := K450.blk 10 rfl b99
  replace b74 := K450.blk 11 rfl b74
  replace h59 := h59.move (K450.at 12 rfl)
  replace h63 := h63.move (K450.at 13 rfl)
  replace b14 := K450.blk 14 rfl b14
  refine lv (d := 15) rfl rfl (by kernel_rfl) (e_assign (v := .int .i64 t431) (by kernel_rfl)) ?_
  refine wpList_nil ?_
  refine then_n ?_
  refine wp_seq ?_
  refine wp_seq ?_
  refine wp_region_lit ?_
  refine lv (d := 101) rfl rfl (by kernel_rfl) (e_move (v := .int .i64 t431) (by kernel_rfl)) ?_
  refine lv (d := 102) rfl rfl (by kernel_rfl) (e_lss (k := .i64) (a := t431) (b := 0) (by kernel_rfl) rfl) ?_
  refine wpList_nil ?_
  refine then_n ?_
  by_cases q451 : t431 < 0
  · replace M := ifp q451 M
    refine cond_t rfl (bt q451 (by kernel_rfl)) ?_
    refine wp_seq ?_
    refine wp_region_lit ?_
    refine lv (d := 6) rfl rfl (by kernel_rfl) (e_assign (v := .bool false) rfl) ?_
    refine wpList_nil ?_
    refine then_n ?_
    refine wp_ret ?_
    refine then_r ?_
    obtain rfl := Option.some.inj M
    exact ret1 rfl rfl  (show _ = .bool false from (by kernel_rfl)) ⟨rfl, S449.chg⟩
  replace M := ifn q451 M
  refine cond_f rfl (bf q451 (by kernel_rfl)) ?_
  refine wp_skip ?_
  refine then_n ?_
  refine wp_seq ?_
  refine wp_seq ?_
  refine wp_region_lit ?_
  refine lv (d := 103) rfl rfl (by kernel_rfl) (e_move (v := .int .i64 t431) (by kernel_rfl)) ?_
  refine lv (d := 104) rfl rfl (by kernel_rfl) (e_move (v := .int .i64 t308.1) (by kernel_rfl)) ?_
  refine lv (d := 105) rfl rfl (by kernel_rfl) (e_neq (k := .i64) (a := t431) (b := t308.1) (by kernel_rfl) (by kernel_rfl)) ?_
  refine wpList_nil ?_
  refine then_n ?_
  by_cases q452 : t431 ≠ t308.1
  · replace M := ifp q452 M
    refine cond_t rfl (bt q452 (by kernel_rfl)) ?_
    refine wp_seq ?_
    refine wp_region_lit ?_
    refine lv (d := 6) rfl rfl (by kernel_rfl) (e_assign (v := .bool false) rfl) ?_
    refine wpList_nil ?_
    refine then_n ?_
    refine wp_ret ?_
    refine then_r ?_
    obtain rfl := Option.some.inj M
    exact ret1 rfl rfl  (show _ = .bool false from (by kernel_rfl)) ⟨rfl, S449.chg⟩
  replace M := ifn q452 M
  refine cond_f rfl (bf q452 (by kernel_rfl)) ?_
  refine wp_skip ?_
  refine then_n ?_
  refine wp_seq ?_
  refine wp_region_lit ?_
  refine lv (d := 6) rfl rfl (by kernel_rfl) (e_assign (v := .bool true) rfl) ?_
  refine wpList_nil ?_
  refine then_n ?_
  refine wp_ret ?_
  obtain rfl := Option.some.inj M
  exact ret1 rfl rfl  (show _ = .bool true from (by kernel_rfl)) ⟨rfl, S449.chg⟩
end Go.Proofs.Ytnigifmkjmbfiaa
