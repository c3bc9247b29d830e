import Derived.Test.YtnigifmkjmbfiaaWkVs1
namespace Go.Proofs.Ytnigifmkjmbfiaa
open Go.Sx Go.Sy
attribute [local irreducible] Go.wpList Go.wpStill Go.wpQuiet Go.Code.wp
set_option maxRecDepth 100000
set_option maxHeartbeats 1000000
set_option linter.unusedVariables false
set_option linter.unusedSimpArgs false

/-! impl_wordOk -/
def impl_wordOk.l0 (_k : Nat) (x1 : Cell) (x13 : Bool) : Option Bool := (if x13 = true then some (decide ((x1.text.length : Int) = 0)) else (if x1.kind = 1 then (if x1.n ≥ (-1000000000000000) then (if x1.n ≤ 1000000000000000 then some (decide ((x1.text.length : Int) = 0)) else some false) else some false) else (if x1.kind = 2 then (if x1.n = 0 then some (decide ((x1.text.length : Int) ≤ 100)) else some false) else some false)))
def impl_wordOk.f (x1 : Cell) : Option Bool := (if x1.kind = 0 then (impl_wordOk.l0 0 x1 (decide (x1.kind = 0))) else (impl_wordOk.l0 0 x1 (decide (x1.kind = 4))))
theorem impl_wordOk.calls (w : World) (H : Hp) (x1 : Cell) (A2 : Option Addr) (c3 : Nat) (h4 : Rd tByte H A2 x1.text) (l5 : x1.text.length ≤ c3) (S : Own [] H w) (r : Bool) (M : impl_wordOk.f x1 = some r) :
    Calls Try.prog 67 #[.agg #[.int .i64 x1.kind, .int .i64 x1.n, .slice A2 x1.text.length c3]] w (fun e e_w => e = .returned (.bool r) ∧ Chg no w e_w) := by
  rw [impl_wordOk.f] at M
  refine enter (l := [.agg #[.int .i64 x1.kind, .int .i64 x1.n, .slice A2 x1.text.length c3]]) 39 Try.func67 rfl rfl rfl ?_
  have S0_ := S.st
  refine wp_seq ?_
  refine wp_region_lit ?_
  refine lve (d := 1) rfl rfl (by kernel_rfl) (new_blk (v := fun g_ => .pointer (some ⟨g_, 0, none⟩)) (cs := #[.int .i64 x1.kind, .int .i64 x1.n, .slice A2 x1.text.length c3]) (t := 36) S0_ (by kernel_rfl)) ?_
  rintro _ w6 ⟨g7, rfl, b8, S9, K10⟩
  refine lv (d := 2) rfl rfl (by kernel_rfl) (e_assign (v := .bool false) rfl) ?_
  refine wpList_nil ?_
  refine then_n ?_
  refine wp_seq ?_
  refine wp_seq ?_
  refine wp_region_lit ?_
  refine lv (d := 3) rfl rfl (by kernel_rfl) (e_fieldAddr (b := g7) (off := 0) (o := 0) Try.underlying36 rfl rfl (sz := 1) (by kernel_rfl) (by decide) (by kernel_rfl)) ?_
  refine lv (d := 4) rfl rfl (by kernel_rfl) (e_load1 (ad := ⟨g7, 0 + 0, none⟩) (v := .int .i64 x1.kind) Try.underlying3 rfl (by kernel_rfl) (blk_cell b8 rfl)) ?_
  refine wpList_nil ?_
  refine then_n ?_
  refine wp_block ?_
  refine wp_seq_cut (fun a20 w11 => ∃ (f12 : Nat → Value) (x13 : Bool), a20 = mk 39 f12 ∧ f12 1 = .pointer (some ⟨g7, 0, none⟩) ∧ f12 4 = .int .i64 x1.kind ∧ f12 5 = .bool x13 ∧ w11.heap[g7]? = some (.cells #[.int .i64 x1.kind, .int .i64 x1.n, .slice A2 x1.text.length c3] 36 (0, 0)) ∧ St (anyOf []) H w [(is g7)] H w11 ∧ impl_wordOk.l0 0 x1 x13 = some r) ?_ ?_
  · refine wp_seq ?_
    refine wp_region_lit ?_
    refine lv (d := 6) rfl rfl (by kernel_rfl) (e_eql (k := .i64) (a := x1.kind) (b := 0) (by kernel_rfl) rfl) ?_
    refine lv (d := 5) rfl rfl (by kernel_rfl) (e_assign (v := .bool (decide (x1.kind = 0))) (by kernel_rfl)) ?_
    refine wpList_nil ?_
    refine then_n ?_
    by_cases q21 : x1.kind = 0
    · replace M := ifp q21 M
      refine cond_t rfl (bt q21 (by kernel_rfl)) ?_
      refine wp_skip ?_
      refine then_n ?_
      exact ⟨_, (decide (x1.kind = 0)), rfl, (by kernel_rfl), (by kernel_rfl), (by kernel_rfl), b8, S9, M⟩
    replace M := ifn q21 M
    refine cond_f rfl (bf q21 (by kernel_rfl)) ?_
    refine wp_region_lit ?_
    refine lv (d := 7) rfl rfl (by kernel_rfl) (e_eql (k := .i64) (a := x1.kind) (b := 4) (by kernel_rfl) rfl) ?_
    refine lv (d := 5) rfl rfl (by kernel_rfl) (e_assign (v := .bool (decide (x1.kind = 4))) (by kernel_rfl)) ?_
    refine wpList_nil ?_
    refine then_n ?_
    exact ⟨_, (decide (x1.kind = 4)), rfl, (by kernel_rfl), (by kernel_rfl), (by kernel_rfl), b8, S9, M⟩
  clear M
  rintro a20 w11 ⟨f12, x13, rfl, e14, e15, e16, b8, S17, M⟩
  rw [impl_wordOk.l0] at M
  by_cases q22 : x13 = true
  · replace M := ifp q22 M
    refine cond_t rfl (bvt q22 (by exact e16)) ?_
    refine wp_seq ?_
    refine wp_region_lit ?_
    refine lv (d := 8) rfl rfl (by kernel_rfl) (e_fieldAddr (b := g7) (off := 0) (o := 2) Try.underlying36 rfl rfl (sz := 1) (by kernel_rfl) (by decide) (by exact e14)) ?_
    refine lv (d := 9) rfl rfl (by kernel_rfl) (e_load1 (ad := ⟨g7, 0 + 2, none⟩) (v := .slice A2 x1.text.length c3) Try.underlying26 rfl (by kernel_rfl) (blk_cell b8 rfl)) ?_
    refine lv (d := 10) rfl rfl (by kernel_rfl) (e_len (A := A2) (n := x1.text.length) (c := c3) Try.underlying26 (by kernel_rfl)) ?_
    refine lv (d := 11) rfl rfl (by kernel_rfl) (e_eql (k := .i64) (a := (x1.text.length : Int)) (b := 0) (by kernel_rfl) rfl) ?_
    refine lv (d := 2) rfl rfl (by kernel_rfl) (e_assign (v := .bool (decide ((x1.text.length : Int) = 0))) (by kernel_rfl)) ?_
    refine wpList_nil ?_
    refine then_n ?_
    refine wp_ret ?_
    refine inb_r ?_
    refine then_r ?_
    obtain rfl := Option.some.inj M
    exact ret1 rfl rfl  (show _ = .bool (decide ((x1.text.length : Int) = 0)) from (by kernel_rfl)) ⟨rfl, S17.chg⟩
  replace M := ifn q22 M
  refine cond_f rfl (bvf q22 (by exact e16)) ?_
  refine wp_seq ?_
  refine wp_region_lit ?_
  refine lv (d := 13) rfl rfl (by kernel_rfl) (e_eql (k := .i64) (a := x1.kind) (b := 1) (by exact e15) rfl) ?_
  refine lv (d := 12) rfl rfl (by kernel_rfl) (e_assign (v := .bool (decide (x1.kind = 1))) (by kernel_rfl)) ?_
  refine wpList_nil ?_
  refine then_n ?_
  by_cases q23 : x1.kind = 1
  · replace M := ifp q23 M
    refine cond_t rfl (bt q23 (by kernel_rfl)) ?_
    refine wp_seq ?_
    refine wp_region_lit ?_
    refine lv (d := 14) rfl rfl (by kernel_rfl) (e_fieldAddr (b := g7) (off := 0) (o := 1) Try.underlying36 rfl rfl (sz := 1) (by kernel_rfl) (by decide) (by exact e14)) ?_
    refine lv (d := 15) rfl rfl (by kernel_rfl) (e_load1 (ad := ⟨g7, 0 + 1, none⟩) (v := .int .i64 x1.n) Try.underlying3 rfl (by kernel_rfl) (blk_cell b8 rfl)) ?_
    refine lv (d := 16) rfl rfl (by kernel_rfl) (e_geq (k := .i64) (a := x1.n) (b := (-1000000000000000)) (by kernel_rfl) rfl) ?_
    refine lv (d := 17) rfl rfl (by kernel_rfl) (e_move (v := .bool (decide (x1.n ≥ (-1000000000000000)))) (by kernel_rfl)) ?_
    by_cases q24 : x1.n ≥ (-1000000000000000)
    · replace M := ifp q24 M
      refine lvg (d := 18) (t := 17) rfl (by kernel_rfl) rfl (bt q24 (by kernel_rfl)) rfl (by kernel_rfl) (e_fieldAddr (b := g7) (off := 0) (o := 1) Try.underlying36 rfl rfl (sz := 1) (by kernel_rfl) (by decide) (by exact e14)) ?_
      refine lvg (d := 19) (t := 17) rfl (by kernel_rfl) rfl (bt q24 (by kernel_rfl)) rfl (by kernel_rfl) (e_load1 (ad := ⟨g7, 0 + 1, none⟩) (v := .int .i64 x1.n) Try.underlying3 rfl (by kernel_rfl) (blk_cell b8 rfl)) ?_
      refine lvg (d := 20) (t := 17) rfl (by kernel_rfl) rfl (bt q24 (by kernel_rfl)) rfl (by kernel_rfl) (e_leq (k := .i64) (a := x1.n) (b := 1000000000000000) (by kernel_rfl) rfl) ?_
      refine lv (d := 21) rfl rfl (by kernel_rfl) (e_pick_t (v := .bool (decide (x1.n ≤ 1000000000000000))) (bt q24 (by kernel_rfl)) (by kernel_rfl)) ?_
      refine lv (d := 22) rfl rfl (by kernel_rfl) (e_move (v := .bool (decide (x1.n ≤ 1000000000000000))) (by kernel_rfl)) ?_
      by_cases q25 : x1.n ≤ 1000000000000000
      · replace M := ifp q25 M
        refine lvg (d := 23) (t := 22) rfl (by kernel_rfl) rfl (bt q25 (by kernel_rfl)) rfl (by kernel_rfl) (e_fieldAddr (b := g7) (off := 0) (o := 2) Try.underlying36 rfl rfl (sz := 1) (by kernel_rfl) (by decide) (by exact e14)) ?_
        refine lvg (d := 24) (t := 22) rfl (by kernel_rfl) rfl (bt q25 (by kernel_rfl)) rfl (by kernel_rfl) (e_load1 (ad := ⟨g7, 0 + 2, none⟩) (v := .slice A2 x1.text.length c3) Try.underlying26 rfl (by kernel_rfl) (blk_cell b8 rfl)) ?_
        refine lvg (d := 25) (t := 22) rfl (by kernel_rfl) rfl (bt q25 (by kernel_rfl)) rfl (by kernel_rfl) (e_len (A := A2) (n := x1.text.length) (c := c3) Try.underlying26 (by kernel_rfl)) ?_
        refine lvg (d := 26) (t := 22) rfl (by kernel_rfl) rfl (bt q25 (by kernel_rfl)) rfl (by kernel_rfl) (e_eql (k := .i64) (a := (x1.text.length : Int)) (b := 0) (by kernel_rfl) rfl) ?_
        refine lv (d := 27) rfl rfl (by kernel_rfl) (e_pick_t (v := .bool (decide ((x1.text.length : Int) = 0))) (bt q25 (by kernel_rfl)) (by kernel_rfl)) ?_
        refine lv (d := 2) rfl rfl (by kernel_rfl) (e_assign (v := .bool (decide ((x1.text.length : Int) = 0))) (by kernel_rfl)) ?_
        refine wpList_nil ?_
        refine then_n ?_
        refine wp_ret ?_
        refine inb_r ?_
        refine then_r ?_
        obtain rfl := Option.some.inj M
        exact ret1 rfl rfl  (show _ = .bool (decide ((x1.text.length : Int) = 0)) from (by kernel_rfl)) ⟨rfl, S17.chg⟩
      replace M := ifn q25 M
      refine lskip (t := 22) (c := false) rfl (by kernel_rfl) rfl (bf q25 (by kernel_rfl)) rfl rfl ?_
      refine lskip (t := 22) (c := false) rfl (by kernel_rfl) rfl (bf q25 (by kernel_rfl)) rfl rfl ?_
      refine lskip (t := 22) (c := false) rfl (by kernel_rfl) rfl (bf q25 (by kernel_rfl)) rfl rfl ?_
      refine lskip (t := 22) (c := false) rfl (by kernel_rfl) rfl (bf q25 (by kernel_rfl)) rfl rfl ?_
      refine lv (d := 27) rfl rfl (by kernel_rfl) (e_pick_f (v := .bool false) (bf q25 (by kernel_rfl)) rfl) ?_
      refine lv (d := 2) rfl rfl (by kernel_rfl) (e_assign (v := .bool false) (by kernel_rfl)) ?_
      refine wpList_nil ?_
      refine then_n ?_
      refine wp_ret ?_
      refine inb_r ?_
      refine then_r ?_
      obtain rfl := Option.some.inj M
      exact ret1 rfl rfl  (show _ = .bool false from (by kernel_rfl)) ⟨rfl, S17.chg⟩
    replace M := ifn q24 M
    refine lskip (t := 17) (c := false) rfl (by kernel_rfl) rfl (bf q24 (by kernel_rfl)) rfl rfl ?_
    refine lskip (t := 17) (c := false) rfl (by kernel_rfl) rfl (bf q24 (by kernel_rfl)) rfl rfl ?_
    refine lskip (t := 17) (c := false) rfl (by kernel_rfl) rfl (bf q24 (by kernel_rfl)) rfl rfl ?_
    refine lv (d := 21) rfl rfl (by kernel_rfl) (e_pick_f (v := .bool false) (bf q24 (by kernel_rfl)) rfl) ?_
    refine lv (d := 22) rfl rfl (by kernel_rfl) (e_move (v := .bool false) (by kernel_rfl)) ?_
    refine lskip (t := 22) (c := false) rfl (by kernel_rfl) rfl (by kernel_rfl) rfl rfl ?_
    refine lskip (t := 22) (c := false) rfl (by kernel_rfl) rfl (by kernel_rfl) rfl rfl ?_
    refine lskip (t := 22) (c := false) rfl (by kernel_rfl) rfl (by kernel_rfl) rfl rfl ?_
    refine lskip (t := 22) (c := false) rfl (by kernel_rfl) rfl (by kernel_rfl) rfl rfl ?_
    refine lv (d := 27) rfl rfl (by kernel_rfl) (e_pick_f (v := .bool false) (by kernel_rfl) rfl) ?_
    refine lv (d := 2) rfl rfl (by kernel_rfl) (e_assign (v := .bool false) (by kernel_rfl)) ?_
    refine wpList_nil ?_
    refine then_n ?_
    refine wp_ret ?_
    refine inb_r ?_
    refine then_r ?_
    obtain rfl := Option.some.inj M
    exact ret1 rfl rfl  (show _ = .bool false from (by kernel_rfl)) ⟨rfl, S17.chg⟩
  replace M := ifn q23 M
  refine cond_f rfl (bf q23 (by kernel_rfl)) ?_
  refine wp_seq ?_
  refine wp_region_lit ?_
  refine lv (d := 29) rfl rfl (by kernel_rfl) (e_eql (k := .i64) (a := x1.kind) (b := 2) (by exact e15) rfl) ?_
  refine lv (d := 28) rfl rfl (by kernel_rfl) (e_assign (v := .bool (decide (x1.kind = 2))) (by kernel_rfl)) ?_
  refine wpList_nil ?_
  refine then_n ?_
  by_cases q26 : x1.kind = 2
  · replace M := ifp q26 M
    refine cond_t rfl (bt q26 (by kernel_rfl)) ?_
    refine wp_seq ?_
    refine wp_region_lit ?_
    refine lv (d := 30) rfl rfl (by kernel_rfl) (e_fieldAddr (b := g7) (off := 0) (o := 1) Try.underlying36 rfl rfl (sz := 1) (by kernel_rfl) (by decide) (by exact e14)) ?_
    refine lv (d := 31) rfl rfl (by kernel_rfl) (e_load1 (ad := ⟨g7, 0 + 1, none⟩) (v := .int .i64 x1.n) Try.underlying3 rfl (by kernel_rfl) (blk_cell b8 rfl)) ?_
    refine lv (d := 32) rfl rfl (by kernel_rfl) (e_eql (k := .i64) (a := x1.n) (b := 0) (by kernel_rfl) rfl) ?_
    refine lv (d := 33) rfl rfl (by kernel_rfl) (e_move (v := .bool (decide (x1.n = 0))) (by kernel_rfl)) ?_
    by_cases q27 : x1.n = 0
    · replace M := ifp q27 M
      refine lvg (d := 34) (t := 33) rfl (by kernel_rfl) rfl (bt q27 (by kernel_rfl)) rfl (by kernel_rfl) (e_fieldAddr (b := g7) (off := 0) (o := 2) Try.underlying36 rfl rfl (sz := 1) (by kernel_rfl) (by decide) (by exact e14)) ?_
      refine lvg (d := 35) (t := 33) rfl (by kernel_rfl) rfl (bt q27 (by kernel_rfl)) rfl (by kernel_rfl) (e_load1 (ad := ⟨g7, 0 + 2, none⟩) (v := .slice A2 x1.text.length c3) Try.underlying26 rfl (by kernel_rfl) (blk_cell b8 rfl)) ?_
      refine lvg (d := 36) (t := 33) rfl (by kernel_rfl) rfl (bt q27 (by kernel_rfl)) rfl (by kernel_rfl) (e_len (A := A2) (n := x1.text.length) (c := c3) Try.underlying26 (by kernel_rfl)) ?_
      refine lvg (d := 37) (t := 33) rfl (by kernel_rfl) rfl (bt q27 (by kernel_rfl)) rfl (by kernel_rfl) (e_leq (k := .i64) (a := (x1.text.length : Int)) (b := 100) (by kernel_rfl) rfl) ?_
      refine lv (d := 38) rfl rfl (by kernel_rfl) (e_pick_t (v := .bool (decide ((x1.text.length : Int) ≤ 100))) (bt q27 (by kernel_rfl)) (by kernel_rfl)) ?_
      refine lv (d := 2) rfl rfl (by kernel_rfl) (e_assign (v := .bool (decide ((x1.text.length : Int) ≤ 100))) (by kernel_rfl)) ?_
      refine wpList_nil ?_
      refine then_n ?_
      refine wp_ret ?_
      refine inb_r ?_
      refine then_r ?_
      obtain rfl := Option.some.inj M
      exact ret1 rfl rfl  (show _ = .bool (decide ((x1.text.length : Int) ≤ 100)) from (by kernel_rfl)) ⟨rfl, S17.chg⟩
    replace M := ifn q27 M
    refine lskip (t := 33) (c := false) rfl (by kernel_rfl) rfl (bf q27 (by kernel_rfl)) rfl rfl ?_
    refine lskip (t := 33) (c := false) rfl (by kernel_rfl) rfl (bf q27 (by kernel_rfl)) rfl rfl ?_
    refine lskip (t := 33) (c := false) rfl (by kernel_rfl) rfl (bf q27 (by kernel_rfl)) rfl rfl ?_
    refine lskip (t := 33) (c := false) rfl (by kernel_rfl) rfl (bf q27 (by kernel_rfl)) rfl rfl ?_
    refine lv (d := 38) rfl rfl (by kernel_rfl) (e_pick_f (v := .bool false) (bf q27 (by kernel_rfl)) rfl) ?_
    refine lv (d := 2) rfl rfl (by kernel_rfl) (e_assign (v := .bool false) (by kernel_rfl)) ?_
    refine wpList_nil ?_
    refine then_n ?_
    refine wp_ret ?_
    refine inb_r ?_
    refine then_r ?_
    obtain rfl := Option.some.inj M
    exact ret1 rfl rfl  (show _ = .bool false from (by kernel_rfl)) ⟨rfl, S17.chg⟩
  replace M := ifn q26 M
  refine cond_f rfl (bf q26 (by kernel_rfl)) ?_
  refine wp_skip ?_
  refine inb_n ?_
  refine then_n ?_
  refine wp_seq ?_
  refine wp_region_lit ?_
  refine lv (d := 2) rfl rfl (by kernel_rfl) (e_assign (v := .bool false) rfl) ?_
  refine wpList_nil ?_
  refine then_n ?_
  refine wp_ret ?_
  obtain rfl := Option.some.inj M
  exact ret1 rfl rfl  (show _ = .bool false from (by kernel_rfl)) ⟨rfl, S17.chg⟩

/-! impl_Store_points -/
def impl_Store_points.f (x1 : Store) (x10 : Cell) : Option Bool := ((impl_wordOk.f x10).bind fun t25 => (if ¬ (t25 = true) then some false else (if x10.kind = 0 then (if x10.n ≥ 0 then (if x10.n < (x1.cells.length : Int) then (if 0 ≤ x10.n then some (decide (((x1.cells.getD ((x10.n).toNat) z36).kind) ≠ 3)) else none) else some false) else some false) else (if x10.kind = 4 then (if x10.n ≥ 0 then (if x10.n < (x1.cells.length : Int) then (if 0 ≤ x10.n then some (decide (((x1.cells.getD ((x10.n).toNat) z36).kind) = 3)) else none) else some false) else some false) else some true))))
theorem impl_Store_points.calls (w : World) (H : Hp) (x1 : Store) (A2 : Option Addr) (c3 : Nat) (A6 : Option Addr) (c7 : Nat) (x10 : Cell) (A11 : Option Addr) (c12 : Nat) (h4 : Rd st36 H A2 x1.cells) (l5 : x1.cells.length ≤ c3) (h8 : Rd tInt H A6 x1.trail) (l9 : x1.trail.length ≤ c7) (h13 : Rd tByte H A11 x10.text) (l14 : x10.text.length ≤ c12) (S : Own [] H w) (r : Bool) (M : impl_Store_points.f x1 x10 = some r) :
    Calls Try.prog 43 #[.agg #[.slice A2 x1.cells.length c3, .slice A6 x1.trail.length c7], .agg #[.int .i64 x10.kind, .int .i64 x10.n, .slice A11 x10.text.length c12]] w (fun e e_w => e = .returned (.bool r) ∧ Chg no w e_w) := by
  rw [impl_Store_points.f] at M
  refine enter (l := [.agg #[.slice A2 x1.cells.length c3, .slice A6 x1.trail.length c7], .agg #[.int .i64 x10.kind, .int .i64 x10.n, .slice A11 x10.text.length c12]]) 56 Try.func43 rfl rfl rfl ?_
  have S0_ := S.st
  refine wp_seq ?_
  refine wp_region_lit ?_
  refine lve (d := 2) rfl rfl (by kernel_rfl) (new_blk (v := fun g_ => .pointer (some ⟨g_, 0, none⟩)) (cs := #[.slice A2 x1.cells.length c3, .slice A6 x1.trail.length c7]) (t := 34) S0_ (by kernel_rfl)) ?_
  rintro _ w15 ⟨g16, rfl, b17, S18, K19⟩
  refine lve (d := 3) rfl rfl (by kernel_rfl) (new_blk (v := fun g_ => .pointer (some ⟨g_, 0, none⟩)) (cs := #[.int .i64 x10.kind, .int .i64 x10.n, .slice A11 x10.text.length c12]) (t := 36) S18 (by kernel_rfl)) ?_
  rintro _ w20 ⟨g21, rfl, b22, S23, K24⟩
  replace b17 := K24.blk 0 rfl b17
  refine lv (d := 4) rfl rfl (by kernel_rfl) (e_assign (v := .bool false) rfl) ?_
  refine wpList_nil ?_
  refine then_n ?_
  refine wp_seq ?_
  refine wp_seq ?_
  refine wp_region_lit ?_
  refine lv (d := 5) rfl rfl (by kernel_rfl) (e_loadS (b := g21) (off := 0) (cs := [.int .i64 x10.kind, .int .i64 x10.n, .slice A11 x10.text.length c12]) Try.underlying36 rfl (by kernel_rfl) (by kernel_rfl) (blk_cells b22 rfl)) ?_
  obtain ⟨t25, u26, M⟩ := bnd M
  refine lcall (d := 6) rfl rfl (by kernel_rfl) (e_call (l := [.tmp 5]) (vs := [.agg #[.int .i64 x10.kind, .int .i64 x10.n, .slice A11 x10.text.length c12]]) Try.func67 (by kernel_rfl) rfl (by kernel_rfl) rfl) (impl_wordOk.calls w20 H x10 A11 c12 h13 l14 S23.own0 t25 u26) ?_
  rintro _ w27 ⟨rfl, C28⟩
  refine ⟨_, rfl, ?_⟩
  obtain ⟨S29, K30⟩ := S23.still C28
  replace b22 := K30.blk 0 rfl b22
  replace b17 := K30.blk 1 rfl b17
  refine lv (d := 7) rfl rfl (by kernel_rfl) (e_notv (c := t25) (by kernel_rfl)) ?_
  refine wpList_nil ?_
  refine then_n ?_
  by_cases q31 : ¬ (t25 = true)
  · replace M := ifp q31 M
    refine cond_t rfl (bt q31 (by kernel_rfl)) ?_
    refine wp_seq ?_
    refine wp_region_lit ?_
    refine lv (d := 4) rfl rfl (by kernel_rfl) (e_assign (v := .bool false) rfl) ?_
    refine wpList_nil ?_
    refine then_n ?_
    refine wp_ret ?_
    refine then_r ?_
    obtain rfl := Option.some.inj M
    exact ret1 rfl rfl  (show _ = .bool false from (by kernel_rfl)) ⟨rfl, S29.chg⟩
  replace M := ifn q31 M
  refine cond_f rfl (bf q31 (by kernel_rfl)) ?_
  refine wp_skip ?_
  refine then_n ?_
  refine wp_seq ?_
  refine wp_seq ?_
  refine wp_region_lit ?_
  refine lv (d := 8) rfl rfl (by kernel_rfl) (e_fieldAddr (b := g21) (off := 0) (o := 0) Try.underlying36 rfl rfl (sz := 1) (by kernel_rfl) (by decide) (by kernel_rfl)) ?_
  refine lv (d := 9) rfl rfl (by kernel_rfl) (e_load1 (ad := ⟨g21, 0 + 0, none⟩) (v := .int .i64 x10.kind) Try.underlying3 rfl (by kernel_rfl) (blk_cell b22 rfl)) ?_
  refine wpList_nil ?_
  refine then_n ?_
  refine wp_block ?_
  refine wp_seq ?_
  refine wp_region_lit ?_
  refine lv (d := 11) rfl rfl (by kernel_rfl) (e_eql (k := .i64) (a := x10.kind) (b := 0) (by kernel_rfl) rfl) ?_
  refine lv (d := 10) rfl rfl (by kernel_rfl) (e_assign (v := .bool (decide (x10.kind = 0))) (by kernel_rfl)) ?_
  refine wpList_nil ?_
  refine then_n ?_
  by_cases q32 : x10.kind = 0
  · replace M := ifp q32 M
    refine cond_t rfl (bt q32 (by kernel_rfl)) ?_
    refine wp_seq ?_
    refine wp_region_lit ?_
    refine lv (d := 12) rfl rfl (by kernel_rfl) (e_fieldAddr (b := g21) (off := 0) (o := 1) Try.underlying36 rfl rfl (sz := 1) (by kernel_rfl) (by decide) (by kernel_rfl)) ?_
    refine lv (d := 13) rfl rfl (by kernel_rfl) (e_load1 (ad := ⟨g21, 0 + 1, none⟩) (v := .int .i64 x10.n) Try.underlying3 rfl (by kernel_rfl) (blk_cell b22 rfl)) ?_
    refine lv (d := 14) rfl rfl (by kernel_rfl) (e_geq (k := .i64) (a := x10.n) (b := 0) (by kernel_rfl) rfl) ?_
    refine lv (d := 15) rfl rfl (by kernel_rfl) (e_move (v := .bool (decide (x10.n ≥ 0))) (by kernel_rfl)) ?_
    by_cases q33 : x10.n ≥ 0
    · replace M := ifp q33 M
      refine lvg (d := 16) (t := 15) rfl (by kernel_rfl) rfl (bt q33 (by kernel_rfl)) rfl (by kernel_rfl) (e_fieldAddr (b := g21) (off := 0) (o := 1) Try.underlying36 rfl rfl (sz := 1) (by kernel_rfl) (by decide) (by kernel_rfl)) ?_
      refine lvg (d := 17) (t := 15) rfl (by kernel_rfl) rfl (bt q33 (by kernel_rfl)) rfl (by kernel_rfl) (e_load1 (ad := ⟨g21, 0 + 1, none⟩) (v := .int .i64 x10.n) Try.underlying3 rfl (by kernel_rfl) (blk_cell b22 rfl)) ?_
      refine lvg (d := 18) (t := 15) rfl (by kernel_rfl) rfl (bt q33 (by kernel_rfl)) rfl (by kernel_rfl) (e_fieldAddr (b := g16) (off := 0) (o := 0) Try.underlying34 rfl rfl (sz := 1) (by kernel_rfl) (by decide) (by kernel_rfl)) ?_
      refine lvg (d := 19) (t := 15) rfl (by kernel_rfl) rfl (bt q33 (by kernel_rfl)) rfl (by kernel_rfl) (e_load1 (ad := ⟨g16, 0 + 0, none⟩) (v := .slice A2 x1.cells.length c3) Try.underlying32 rfl (by kernel_rfl) (blk_cell b17 rfl)) ?_
      refine lvg (d := 20) (t := 15) rfl (by kernel_rfl) rfl (bt q33 (by kernel_rfl)) rfl (by kernel_rfl) (e_len (A := A2) (n := x1.cells.length) (c := c3) Try.underlying32 (by kernel_rfl)) ?_
      refine lvg (d := 21) (t := 15) rfl (by kernel_rfl) rfl (bt q33 (by kernel_rfl)) rfl (by kernel_rfl) (e_lss (k := .i64) (a := x10.n) (b := (x1.cells.length : Int)) (by kernel_rfl) (by kernel_rfl)) ?_
      refine lv (d := 22) rfl rfl (by kernel_rfl) (e_pick_t (v := .bool (decide (x10.n < (x1.cells.length : Int)))) (bt q33 (by kernel_rfl)) (by kernel_rfl)) ?_
      refine lv (d := 23) rfl rfl (by kernel_rfl) (e_move (v := .bool (decide (x10.n < (x1.cells.length : Int)))) (by kernel_rfl)) ?_
      by_cases q34 : x10.n < (x1.cells.length : Int)
      · replace M := ifp q34 M
        refine lvg (d := 24) (t := 23) rfl (by kernel_rfl) rfl (bt q34 (by kernel_rfl)) rfl (by kernel_rfl) (e_fieldAddr (b := g16) (off := 0) (o := 0) Try.underlying34 rfl rfl (sz := 1) (by kernel_rfl) (by decide) (by kernel_rfl)) ?_
        refine lvg (d := 25) (t := 23) rfl (by kernel_rfl) rfl (bt q34 (by kernel_rfl)) rfl (by kernel_rfl) (e_load1 (ad := ⟨g16, 0 + 0, none⟩) (v := .slice A2 x1.cells.length c3) Try.underlying32 rfl (by kernel_rfl) (blk_cell b17 rfl)) ?_
        refine lvg (d := 26) (t := 23) rfl (by kernel_rfl) rfl (bt q34 (by kernel_rfl)) rfl (by kernel_rfl) (e_fieldAddr (b := g21) (off := 0) (o := 1) Try.underlying36 rfl rfl (sz := 1) (by kernel_rfl) (by decide) (by kernel_rfl)) ?_
        refine lvg (d := 27) (t := 23) rfl (by kernel_rfl) rfl (bt q34 (by kernel_rfl)) rfl (by kernel_rfl) (e_load1 (ad := ⟨g21, 0 + 1, none⟩) (v := .int .i64 x10.n) Try.underlying3 rfl (by kernel_rfl) (blk_cell b22 rfl)) ?_
        obtain ⟨q35, M⟩ := chk M
        obtain ⟨b36, o37, e38⟩ := Rd.addr h4 (show (x10.n).toNat < x1.cells.length by omega)
        obtain ⟨y39, r40, k41⟩ := Rd.at h4 e38 (getD_some z36 (show (x10.n).toNat < x1.cells.length by omega))
        obtain ⟨A42, c43, rfl, l44, h45⟩ := st36_open r40
        refine lvg (d := 28) (t := 23) rfl (by kernel_rfl) rfl (bt q34 (by kernel_rfl)) rfl (by kernel_rfl) (e_indexAddr (b := b36) (off := o37) (n := x1.cells.length) (c := c3) (sz := 3) (i := x10.n) (k := .i64) Try.underlying32 e38 (by kernel_rfl) (by kernel_rfl) (by kernel_rfl) q35 q34) ?_
        refine lvg (d := 29) (t := 23) rfl (by kernel_rfl) rfl (bt q34 (by kernel_rfl)) rfl (by kernel_rfl) (e_fieldAddr (b := b36) (off := o37 + (x10.n : Int).toNat * 3) (o := 0) Try.underlying36 rfl rfl (sz := 1) (by kernel_rfl) (by decide) (by kernel_rfl)) ?_
        refine lvg (d := 30) (t := 23) rfl (by kernel_rfl) rfl (bt q34 (by kernel_rfl)) rfl (by kernel_rfl) (e_load1 (ad := ⟨b36, o37 + (x10.n : Int).toNat * 3 + 0, none⟩) (v := .int .i64 ((x1.cells.getD ((x10.n).toNat) z36).kind)) Try.underlying3 rfl (by kernel_rfl) (hpx (S29.inv.cell (k41 0 _ rfl)))) ?_
        refine lvg (d := 31) (t := 23) rfl (by kernel_rfl) rfl (bt q34 (by kernel_rfl)) rfl (by kernel_rfl) (e_neq (k := .i64) (a := (x1.cells.getD ((x10.n).toNat) z36).kind) (b := 3) (by kernel_rfl) rfl) ?_
        refine lv (d := 32) rfl rfl (by kernel_rfl) (e_pick_t (v := .bool (decide (((x1.cells.getD ((x10.n).toNat) z36).kind) ≠ 3))) (bt q34 (by kernel_rfl)) (by kernel_rfl)) ?_
        refine lv (d := 4) rfl rfl (by kernel_rfl) (e_assign (v := .bool (decide (((x1.cells.getD ((x10.n).toNat) z36).kind) ≠ 3))) (by kernel_rfl)) ?_
        refine wpList_nil ?_
        refine then_n ?_
        refine wp_ret ?_
        refine inb_r ?_
        refine then_r ?_
        obtain rfl := Option.some.inj M
        exact ret1 rfl rfl  (show _ = .bool (decide (((x1.cells.getD ((x10.n).toNat) z36).kind) ≠ 3)) from (by kernel_rfl)) ⟨rfl, S29.chg⟩
      replace M := ifn q34 M
      refine lskip (t := 23) (c := false) rfl (by kernel_rfl) rfl (bf q34 (by kernel_rfl)) rfl rfl ?_
      refine lskip (t := 23) (c := false) rfl (by kernel_rfl) rfl (bf q34 (by kernel_rfl)) rfl rfl ?_
      refine lskip (t := 23) (c := false) rfl (by kernel_rfl) rfl (bf q34 (by kernel_rfl)) rfl rfl ?_
      refine lskip (t := 23) (c := false) rfl (by kernel_rfl) rfl (bf q34 (by kernel_rfl)) rfl rfl ?_
      refine lskip (t := 23) (c := false) rfl (by kernel_rfl) rfl (bf q34 (by kernel_rfl)) rfl rfl ?_
      refine lskip (t := 23) (c := false) rfl (by kernel_rfl) rfl (bf q34 (by kernel_rfl)) rfl rfl ?_
      refine lskip (t := 23) (c := false) rfl (by kernel_rfl) rfl (bf q34 (by kernel_rfl)) rfl rfl ?_
      refine lskip (t := 23) (c := false) rfl (by kernel_rfl) rfl (bf q34 (by kernel_rfl)) rfl rfl ?_
      refine lv (d := 32) rfl rfl (by kernel_rfl) (e_pick_f (v := .bool false) (bf q34 (by kernel_rfl)) rfl) ?_
      refine lv (d := 4) rfl rfl (by kernel_rfl) (e_assign (v := .bool false) (by kernel_rfl)) ?_
      refine wpList_nil ?_
      refine then_n ?_
      refine wp_ret ?_
      refine inb_r ?_
      refine then_r ?_
      obtain rfl := Option.some.inj M
      exact ret1 rfl rfl  (show _ = .bool false from (by kernel_rfl)) ⟨rfl, S29.chg⟩
    replace M := ifn q33 M
    refine lskip (t := 15) (c := false) rfl (by kernel_rfl) rfl (bf q33 (by kernel_rfl)) rfl rfl ?_
    refine lskip (t := 15) (c := false) rfl (by kernel_rfl) rfl (bf q33 (by kernel_rfl)) rfl rfl ?_
    refine lskip (t := 15) (c := false) rfl (by kernel_rfl) rfl (bf q33 (by kernel_rfl)) rfl rfl ?_
    refine lskip (t := 15) (c := false) rfl (by kernel_rfl) rfl (bf q33 (by kernel_rfl)) rfl rfl ?_
    refine lskip (t := 15) (c := false) rfl (by kernel_rfl) rfl (bf q33 (by kernel_rfl)) rfl rfl ?_
    refine lskip (t := 15) (c := false) rfl (by kernel_rfl) rfl (bf q33 (by kernel_rfl)) rfl rfl ?_
    refine lv (d := 22) rfl rfl (by kernel_rfl) (e_pick_f (v := .bool false) (bf q33 (by kernel_rfl)) rfl) ?_
    refine lv (d := 23) rfl rfl (by kernel_rfl) (e_move (v := .bool false) (by kernel_rfl)) ?_
    refine lskip (t := 23) (c := false) rfl (by kernel_rfl) rfl (by kernel_rfl) rfl rfl ?_
    refine lskip (t := 23) (c := false) rfl (by kernel_rfl) rfl (by kernel_rfl) rfl rfl ?_
    refine lskip (t := 23) (c := false) rfl (by kernel_rfl) rfl (by kernel_rfl) rfl rfl ?_
    refine lskip (t := 23) (c := false) rfl (by kernel_rfl) rfl (by kernel_rfl) rfl rfl ?_
    refine lskip (t := 23) (c := false) rfl (by kernel_rfl) rfl (by kernel_rfl) rfl rfl ?_
    refine lskip (t := 23) (c := false) rfl (by kernel_rfl) rfl (by kernel_rfl) rfl rfl ?_
    refine lskip (t := 23) (c := false) rfl (by kernel_rfl) rfl (by kernel_rfl) rfl rfl ?_
    refine lskip (t := 23) (c := false) rfl (by kernel_rfl) rfl (by kernel_rfl) rfl rfl ?_
    refine lv (d := 32) rfl rfl (by kernel_rfl) (e_pick_f (v := .bool false) (by kernel_rfl) rfl) ?_
    refine lv (d := 4) rfl rfl (by kernel_rfl) (e_assign (v := .bool false) (by kernel_rfl)) ?_
    refine wpList_nil ?_
    refine then_n ?_
    refine wp_ret ?_
    refine inb_r ?_
    refine then_r ?_
    obtain rfl := Option.some.inj M
    exact ret1 rfl rfl  (show _ = .bool false from (by kernel_rfl)) ⟨rfl, S29.chg⟩
  replace M := ifn q32 M
  refine cond_f rfl (bf q32 (by kernel_rfl)) ?_
  refine wp_seq ?_
  refine wp_region_lit ?_
  refine lv (d := 34) rfl rfl (by kernel_rfl) (e_eql (k := .i64) (a := x10.kind) (b := 4) (by kernel_rfl) rfl) ?_
  refine lv (d := 33) rfl rfl (by kernel_rfl) (e_assign (v := .bool (decide (x10.kind = 4))) (by kernel_rfl)) ?_
  refine wpList_nil ?_
  refine then_n ?_
  by_cases q46 : x10.kind = 4
  · replace M := ifp q46 M
    refine cond_t rfl (bt q46 (by kernel_rfl)) ?_
    refine wp_seq ?_
    refine wp_region_lit ?_
    refine lv (d := 35) rfl rfl (by kernel_rfl) (e_fieldAddr (b := g21) (off := 0) (o := 1) Try.underlying36 rfl rfl (sz := 1) (by kernel_rfl) (by decide) (by kernel_rfl)) ?_
    refine lv (d := 36) rfl rfl (by kernel_rfl) (e_load1 (ad := ⟨g21, 0 + 1, none⟩) (v := .int .i64 x10.n) Try.underlying3 rfl (by kernel_rfl) (blk_cell b22 rfl)) ?_
    refine lv (d := 37) rfl rfl (by kernel_rfl) (e_geq (k := .i64) (a := x10.n) (b := 0) (by kernel_rfl) rfl) ?_
    refine lv (d := 38) rfl rfl (by kernel_rfl) (e_move (v := .bool (decide (x10.n ≥ 0))) (by kernel_rfl)) ?_
    by_cases q47 : x10.n ≥ 0
    · replace M := ifp q47 M
      refine lvg (d := 39) (t := 38) rfl (by kernel_rfl) rfl (bt q47 (by kernel_rfl)) rfl (by kernel_rfl) (e_fieldAddr (b := g21) (off := 0) (o := 1) Try.underlying36 rfl rfl (sz := 1) (by kernel_rfl) (by decide) (by kernel_rfl)) ?_
      refine lvg (d := 40) (t := 38) rfl (by kernel_rfl) rfl (bt q47 (by kernel_rfl)) rfl (by kernel_rfl) (e_load1 (ad := ⟨g21, 0 + 1, none⟩) (v := .int .i64 x10.n) Try.underlying3 rfl (by kernel_rfl) (blk_cell b22 rfl)) ?_
      refine lvg (d := 41) (t := 38) rfl (by kernel_rfl) rfl (bt q47 (by kernel_rfl)) rfl (by kernel_rfl) (e_fieldAddr (b := g16) (off := 0) (o := 0) Try.underlying34 rfl rfl (sz := 1) (by kernel_rfl) (by decide) (by kernel_rfl)) ?_
      refine lvg (d := 42) (t := 38) rfl (by kernel_rfl) rfl (bt q47 (by kernel_rfl)) rfl (by kernel_rfl) (e_load1 (ad := ⟨g16, 0 + 0, none⟩) (v := .slice A2 x1.cells.length c3) Try.underlying32 rfl (by kernel_rfl) (blk_cell b17 rfl)) ?_
      refine lvg (d := 43) (t := 38) rfl (by kernel_rfl) rfl (bt q47 (by kernel_rfl)) rfl (by kernel_rfl) (e_len (A := A2) (n := x1.cells.length) (c := c3) Try.underlying32 (by kernel_rfl)) ?_
      refine lvg (d := 44) (t := 38) rfl (by kernel_rfl) rfl (bt q47 (by kernel_rfl)) rfl (by kernel_rfl) (e_lss (k := .i64) (a := x10.n) (b := (x1.cells.length : Int)) (by kernel_rfl) (by kernel_rfl)) ?_
      refine lv (d := 45) rfl rfl (by kernel_rfl) (e_pick_t (v := .bool (decide (x10.n < (x1.cells.length : Int)))) (bt q47 (by kernel_rfl)) (by kernel_rfl)) ?_
      refine lv (d := 46) rfl rfl (by kernel_rfl) (e_move (v := .bool (decide (x10.n < (x1.cells.length : Int)))) (by kernel_rfl)) ?_
      by_cases q48 : x10.n < (x1.cells.length : Int)
      · replace M := ifp q48 M
        refine lvg (d := 47) (t := 46) rfl (by kernel_rfl) rfl (bt q48 (by kernel_rfl)) rfl (by kernel_rfl) (e_fieldAddr (b := g16) (off := 0) (o := 0) Try.underlying34 rfl rfl (sz := 1) (by kernel_rfl) (by decide) (by kernel_rfl)) ?_
        refine lvg (d := 48) (t := 46) rfl (by kernel_rfl) rfl (bt q48 (by kernel_rfl)) rfl (by kernel_rfl) (e_load1 (ad := ⟨g16, 0 + 0, none⟩) (v := .slice A2 x1.cells.length c3) Try.underlying32 rfl (by kernel_rfl) (blk_cell b17 rfl)) ?_
        refine lvg (d := 49) (t := 46) rfl (by kernel_rfl) rfl (bt q48 (by kernel_rfl)) rfl (by kernel_rfl) (e_fieldAddr (b := g21) (off := 0) (o := 1) Try.underlying36 rfl rfl (sz := 1) (by kernel_rfl) (by decide) (by kernel_rfl)) ?_
        refine lvg (d := 50) (t := 46) rfl (by kernel_rfl) rfl (bt q48 (by kernel_rfl)) rfl (by kernel_rfl) (e_load1 (ad := ⟨g21, 0 + 1, none⟩) (v := .int .i64 x10.n) Try.underlying3 rfl (by kernel_rfl) (blk_cell b22 rfl)) ?_
        obtain ⟨q49, M⟩ := chk M
        obtain ⟨b50, o51, e52⟩ := Rd.addr h4 (show (x10.n).toNat < x1.cells.length by omega)
        obtain ⟨y53, r54, k55⟩ := Rd.at h4 e52 (getD_some z36 (show (x10.n).toNat < x1.cells.length by omega))
        obtain ⟨A56, c57, rfl, l58, h59⟩ := st36_open r54
        refine lvg (d := 51) (t := 46) rfl (by kernel_rfl) rfl (bt q48 (by kernel_rfl)) rfl (by kernel_rfl) (e_indexAddr (b := b50) (off := o51) (n := x1.cells.length) (c := c3) (sz := 3) (i := x10.n) (k := .i64) Try.underlying32 e52 (by kernel_rfl) (by kernel_rfl) (by kernel_rfl) q49 q48) ?_
        refine lvg (d := 52) (t := 46) rfl (by kernel_rfl) rfl (bt q48 (by kernel_rfl)) rfl (by kernel_rfl) (e_fieldAddr (b := b50) (off := o51 + (x10.n : Int).toNat * 3) (o := 0) Try.underlying36 rfl rfl (sz := 1) (by kernel_rfl) (by decide) (by kernel_rfl)) ?_
        refine lvg (d := 53) (t := 46) rfl (by kernel_rfl) rfl (bt q48 (by kernel_rfl)) rfl (by kernel_rfl) (e_load1 (ad := ⟨b50, o51 + (x10.n : Int).toNat * 3 + 0, none⟩) (v := .int .i64 ((x1.cells.getD ((x10.n).toNat) z36).kind)) Try.underlying3 rfl (by kernel_rfl) (hpx (S29.inv.cell (k55 0 _ rfl)))) ?_
        refine lvg (d := 54) (t := 46) rfl (by kernel_rfl) rfl (bt q48 (by kernel_rfl)) rfl (by kernel_rfl) (e_eql (k := .i64) (a := (x1.cells.getD ((x10.n).toNat) z36).kind) (b := 3) (by kernel_rfl) rfl) ?_
        refine lv (d := 55) rfl rfl (by kernel_rfl) (e_pick_t (v := .bool (decide (((x1.cells.getD ((x10.n).toNat) z36).kind) = 3))) (bt q48 (by kernel_rfl)) (by kernel_rfl)) ?_
        refine lv (d := 4) rfl rfl (by kernel_rfl) (e_assign (v := .bool (decide (((x1.cells.getD ((x10.n).toNat) z36).kind) = 3))) (by kernel_rfl)) ?_
        refine wpList_nil ?_
        refine then_n ?_
        refine wp_ret ?_
        refine inb_r ?_
        refine then_r ?_
        obtain rfl := Option.some.inj M
        exact ret1 rfl rfl  (show _ = .bool (decide (((x1.cells.getD ((x10.n).toNat) z36).kind) = 3)) from (by kernel_rfl)) ⟨rfl, S29.chg⟩
      replace M := ifn q48 M
      refine lskip (t := 46) (c := false) rfl (by kernel_rfl) rfl (bf q48 (by kernel_rfl)) rfl rfl ?_
      refine lskip (t := 46) (c := false) rfl (by kernel_rfl) rfl (bf q48 (by kernel_rfl)) rfl rfl ?_
      refine lskip (t := 46) (c := false) rfl (by kernel_rfl) rfl (bf q48 (by kernel_rfl)) rfl rfl ?_
      refine lskip (t := 46) (c := false) rfl (by kernel_rfl) rfl (bf q48 (by kernel_rfl)) rfl rfl ?_
      refine lskip (t := 46) (c := false) rfl (by kernel_rfl) rfl (bf q48 (by kernel_rfl)) rfl rfl ?_
      refine lskip (t := 46) (c := false) rfl (by kernel_rfl) rfl (bf q48 (by kernel_rfl)) rfl rfl ?_
      refine lskip (t := 46) (c := false) rfl (by kernel_rfl) rfl (bf q48 (by kernel_rfl)) rfl rfl ?_
      refine lskip (t := 46) (c := false) rfl (by kernel_rfl) rfl (bf q48 (by kernel_rfl)) rfl rfl ?_
      refine lv (d := 55) rfl rfl (by kernel_rfl) (e_pick_f (v := .bool false) (bf q48 (by kernel_rfl)) rfl) ?_
      refine lv (d := 4) rfl rfl (by kernel_rfl) (e_assign (v := .bool false) (by kernel_rfl)) ?_
      refine wpList_nil ?_
      refine then_n ?_
      refine wp_ret ?_
      refine inb_r ?_
      refine then_r ?_
      obtain rfl := Option.some.inj M
      exact ret1 rfl rfl  (show _ = .bool false from (by kernel_rfl)) ⟨rfl, S29.chg⟩
    replace M := ifn q47 M
    refine lskip (t := 38) (c := false) rfl (by kernel_rfl) rfl (bf q47 (by kernel_rfl)) rfl rfl ?_
    refine lskip (t := 38) (c := false) rfl (by kernel_rfl) rfl (bf q47 (by kernel_rfl)) rfl rfl ?_
    refine lskip (t := 38) (c := false) rfl (by kernel_rfl) rfl (bf q47 (by kernel_rfl)) rfl rfl ?_
    refine lskip (t := 38) (c := false) rfl (by kernel_rfl) rfl (bf q47 (by kernel_rfl)) rfl rfl ?_
    refine lskip (t := 38) (c := false) rfl (by kernel_rfl) rfl (bf q47 (by kernel_rfl)) rfl rfl ?_
    refine lskip (t := 38) (c := false) rfl (by kernel_rfl) rfl (bf q47 (by kernel_rfl)) rfl rfl ?_
    refine lv (d := 45) rfl rfl (by kernel_rfl) (e_pick_f (v := .bool false) (bf q47 (by kernel_rfl)) rfl) ?_
    refine lv (d := 46) rfl rfl (by kernel_rfl) (e_move (v := .bool false) (by kernel_rfl)) ?_
    refine lskip (t := 46) (c := false) rfl (by kernel_rfl) rfl (by kernel_rfl) rfl rfl ?_
    refine lskip (t := 46) (c := false) rfl (by kernel_rfl) rfl (by kernel_rfl) rfl rfl ?_
    refine lskip (t := 46) (c := false) rfl (by kernel_rfl) rfl (by kernel_rfl) rfl rfl ?_
    refine lskip (t := 46) (c := false) rfl (by kernel_rfl) rfl (by kernel_rfl) rfl rfl ?_
    refine lskip (t := 46) (c := false) rfl (by kernel_rfl) rfl (by kernel_rfl) rfl rfl ?_
    refine lskip (t := 46) (c := false) rfl (by kernel_rfl) rfl (by kernel_rfl) rfl rfl ?_
    refine lskip (t := 46) (c := false) rfl (by kernel_rfl) rfl (by kernel_rfl) rfl rfl ?_
    refine lskip (t := 46) (c := false) rfl (by kernel_rfl) rfl (by kernel_rfl) rfl rfl ?_
    refine lv (d := 55) rfl rfl (by kernel_rfl) (e_pick_f (v := .bool false) (by kernel_rfl) rfl) ?_
    refine lv (d := 4) rfl rfl (by kernel_rfl) (e_assign (v := .bool false) (by kernel_rfl)) ?_
    refine wpList_nil ?_
    refine then_n ?_
    refine wp_ret ?_
    refine inb_r ?_
    refine then_r ?_
    obtain rfl := Option.some.inj M
    exact ret1 rfl rfl  (show _ = .bool false from (by kernel_rfl)) ⟨rfl, S29.chg⟩
  replace M := ifn q46 M
  refine cond_f rfl (bf q46 (by kernel_rfl)) ?_
  refine wp_skip ?_
  refine inb_n ?_
  refine then_n ?_
  refine wp_seq ?_
  refine wp_region_lit ?_
  refine lv (d := 4) rfl rfl (by kernel_rfl) (e_assign (v := .bool true) rfl) ?_
  refine wpList_nil ?_
  refine then_n ?_
  refine wp_ret ?_
  obtain rfl := Option.some.inj M
  exact ret1 rfl rfl  (show _ = .bool true from (by kernel_rfl)) ⟨rfl, S29.chg⟩

/-! impl_Store_ok_c1 -/
structure GStep where
  at_ : Int
  next_ : Int
  deriving Inhabited
def st86 : Ty GStep := iso (pair tInt tInt) (fun x => (x.at_, x.next_))
theorem st86_open {H : Hp} {x : GStep} {cs : List Value} (h : st86.R H x cs) : cs = [.int .i64 x.at_, .int .i64 x.next_] := by
  obtain ⟨_, _, rfl, rfl, rfl⟩ := h
  exact rfl
theorem st86_mkR {H : Hp} {x : GStep} : st86.R H x [.int .i64 x.at_, .int .i64 x.next_] := ⟨[.int .i64 x.at_], [.int .i64 x.next_], rfl, rfl, rfl⟩
theorem st86_mkO {H X : Hp} {x : GStep} : st86.O H X no x [.int .i64 x.at_, .int .i64 x.next_] := (pairO0 (a := tInt) (b := tInt) (x := (x.at_, x.next_)) (c0 := [.int .i64 x.at_]) (c1 := [.int .i64 x.next_]) (F := no) rfl rfl)
theorem st86_openO {H X : Hp} {F : Foot} {x : GStep} {cs : List Value} (h : st86.O H X F x cs) : cs = [.int .i64 x.at_, .int .i64 x.next_] := by
  obtain ⟨_, _, K0, L0, rfl, rfl, rfl, d0, s0⟩ := h
  exact rfl
theorem st86_RO : RO st86 := (ro_iso (ro_pair (ro_scal _ _) (ro_scal _ _)))
theorem st86_c0 {H X : Hp} {F : Foot} {x : GStep} {cs : List Value} (h : st86.O H X F x cs) : cs[0]? = some (.int .i64 x.at_) := by obtain rfl := st86_openO h; rfl
theorem st86_r0 {H : Hp} {x : GStep} {cs : List Value} (h : st86.R H x cs) : cs[0]? = some (.int .i64 x.at_) := by obtain rfl := st86_open h; rfl
theorem st86_c1 {H X : Hp} {F : Foot} {x : GStep} {cs : List Value} (h : st86.O H X F x cs) : cs[1]? = some (.int .i64 x.next_) := by obtain rfl := st86_openO h; rfl
theorem st86_r1 {H : Hp} {x : GStep} {cs : List Value} (h : st86.R H x cs) : cs[1]? = some (.int .i64 x.next_) := by obtain rfl := st86_open h; rfl
theorem st86_u0 {H X : Hp} {F1 F2 : Foot} {x : GStep} (y : Int) {cs : List Value} (h : st86.O H X F1 x cs) : st86.O H X (or2 F1 F2) {x with at_ := y} (cs.take 0 ++ [.int .i64 y] ++ cs.drop 1) := by
  obtain rfl := st86_openO h
  exact st86.O_mono (fun _ h => h.elim) (st86_mkO (x := {x with at_ := y}))
theorem st86_u1 {H X : Hp} {F1 F2 : Foot} {x : GStep} (y : Int) {cs : List Value} (h : st86.O H X F1 x cs) : st86.O H X (or2 F1 F2) {x with next_ := y} (cs.take 1 ++ [.int .i64 y] ++ cs.drop 2) := by
  obtain rfl := st86_openO h
  exact st86.O_mono (fun _ h => h.elim) (st86_mkO (x := {x with next_ := y}))
def z86 : GStep := ⟨(0 : Int), (0 : Int)⟩
theorem z86_O (H X : Hp) : st86.O H X no z86 [.int .i64 (0 : Int), .int .i64 (0 : Int)] := st86_mkO (x := z86)
theorem z86_R (H : Hp) : st86.R H z86 [.int .i64 (0 : Int), .int .i64 (0 : Int)] := st86_mkR (x := z86)
def impl_Store_ok_c1.f (x1 : Int) (x2 : Int) (x3 : Store) : Option (Int × Bool) := (if 0 ≤ x1 then (if x1 < (x3.cells.length : Int) then (if ((x3.cells.getD ((x1).toNat) z36).kind) = 0 then (if ((x3.cells.getD ((x1).toNat) z36).n) ≠ x1 then (if x2 = 0 then some ((x3.cells.getD ((x1).toNat) z36).n, true) else (if ((x3.cells.getD ((x1).toNat) z36).kind) = 4 then (if 0 ≤ ((x3.cells.getD ((x1).toNat) z36).n) then (if ((x3.cells.getD ((x1).toNat) z36).n) < (x3.cells.length : Int) then (if x2 < ((x3.cells.getD (((x3.cells.getD ((x1).toNat) z36).n).toNat) z36).n) then some ((IntKind.i64.wrap ((IntKind.i64.wrap (((x3.cells.getD ((x1).toNat) z36).n) + 1)) + x2)), true) else some (0, false)) else none) else none) else some (0, false))) else (if ((x3.cells.getD ((x1).toNat) z36).kind) = 4 then (if 0 ≤ ((x3.cells.getD ((x1).toNat) z36).n) then (if ((x3.cells.getD ((x1).toNat) z36).n) < (x3.cells.length : Int) then (if x2 < ((x3.cells.getD (((x3.cells.getD ((x1).toNat) z36).n).toNat) z36).n) then some ((IntKind.i64.wrap ((IntKind.i64.wrap (((x3.cells.getD ((x1).toNat) z36).n) + 1)) + x2)), true) else some (0, false)) else none) else none) else some (0, false))) else (if ((x3.cells.getD ((x1).toNat) z36).kind) = 4 then (if 0 ≤ ((x3.cells.getD ((x1).toNat) z36).n) then (if ((x3.cells.getD ((x1).toNat) z36).n) < (x3.cells.length : Int) then (if x2 < ((x3.cells.getD (((x3.cells.getD ((x1).toNat) z36).n).toNat) z36).n) then some ((IntKind.i64.wrap ((IntKind.i64.wrap (((x3.cells.getD ((x1).toNat) z36).n) + 1)) + x2)), true) else some (0, false)) else none) else none) else some (0, false))) else none) else none)
theorem impl_Store_ok_c1.calls (w : World) (H : Hp) (x1 : Int) (x2 : Int) (x3 : Store) (g4 : Nat) (A6 : Option Addr) (c7 : Nat) (A10 : Option Addr) (c11 : Nat) (h8 : Rd st36 H A6 x3.cells) (l9 : x3.cells.length ≤ c7) (h12 : Rd tInt H A10 x3.trail) (l13 : x3.trail.length ≤ c11) (b5 : H g4 = some (.cells #[.slice A6 x3.cells.length c7, .slice A10 x3.trail.length c11] 34 (0, 0))) (S : Own [] H w) (r : Int × Bool) (M : impl_Store_ok_c1.f x1 x2 x3 = some r) :
    Calls Try.prog 66 #[.int .i64 x1, .int .i64 x2, .pointer (some ⟨g4, 0, none⟩)] w (fun e e_w => e = .returned (.tuple #[.int .i64 r.1, .bool r.2]) ∧ Chg no w e_w) := by
  rw [impl_Store_ok_c1.f] at M
  refine enter (l := [.int .i64 x1, .int .i64 x2, .pointer (some ⟨g4, 0, none⟩)]) 49 Try.func66 rfl rfl rfl ?_
  have S0_ := S.st
  refine wp_seq ?_
  refine wp_region_lit ?_
  refine lv (d := 5) rfl rfl (by kernel_rfl) (e_assign (v := .int .i64 0) rfl) ?_
  refine lv (d := 6) rfl rfl (by kernel_rfl) (e_assign (v := .bool false) rfl) ?_
  refine wpList_nil ?_
  refine then_n ?_
  refine wp_seq ?_
  refine wp_region_lit ?_
  refine lv (d := 8) rfl rfl (by kernel_rfl) (e_fieldAddr (b := g4) (off := 0) (o := 0) Try.underlying34 rfl rfl (sz := 1) (by kernel_rfl) (by decide) (by kernel_rfl)) ?_
  refine lv (d := 9) rfl rfl (by kernel_rfl) (e_load1 (ad := ⟨g4, 0 + 0, none⟩) (v := .slice A6 x3.cells.length c7) Try.underlying32 rfl (by kernel_rfl) (blk_cell (S0_.inv _ _ b5) rfl)) ?_
  refine lv (d := 10) rfl rfl (by kernel_rfl) (e_move (v := .int .i64 x1) (by kernel_rfl)) ?_
  obtain ⟨q14, M⟩ := chk M
  obtain ⟨q15, M⟩ := chk M
  obtain ⟨b16, o17, e18⟩ := Rd.addr h8 (show (x1).toNat < x3.cells.length by omega)
  obtain ⟨y19, r20, k21⟩ := Rd.at h8 e18 (getD_some z36 (show (x1).toNat < x3.cells.length by omega))
  obtain ⟨A22, c23, rfl, l24, h25⟩ := st36_open r20
  refine lv (d := 11) rfl rfl (by kernel_rfl) (e_indexAddr (b := b16) (off := o17) (n := x3.cells.length) (c := c7) (sz := 3) (i := x1) (k := .i64) Try.underlying32 e18 (by kernel_rfl) (by kernel_rfl) (by kernel_rfl) q14 q15) ?_
  refine lv (d := 12) rfl rfl (by kernel_rfl) (e_loadS (b := b16) (off := o17 + (x1 : Int).toNat * 3) (cs := [.int .i64 ((x3.cells.getD ((x1).toNat) z36).kind), .int .i64 ((x3.cells.getD ((x1).toNat) z36).n), .slice A22 ((x3.cells.getD ((x1).toNat) z36).text).length c23]) Try.underlying36 rfl (by kernel_rfl) (by kernel_rfl) (fun j_ u_ e_ => (hpx (S0_.inv.cell (k21 j_ u_ e_))))) ?_
  refine lve (d := 7) rfl rfl (by kernel_rfl) (new_blk (v := fun g_ => .pointer (some ⟨g_, 0, none⟩)) (cs := #[.int .i64 0, .int .i64 0, .slice none 0 0]) (t := 36) S0_ (by kernel_rfl)) ?_
  rintro _ w26 ⟨g27, rfl, b28, S29, K30⟩
  refine lse rfl rfl (by kernel_rfl) (e_store (g := g27) (o := 0) (v := .agg #[.int .i64 ((x3.cells.getD ((x1).toNat) z36).kind), .int .i64 ((x3.cells.getD ((x1).toNat) z36).n), .slice A22 ((x3.cells.getD ((x1).toNat) z36).text).length c23]) (cur' := #[.int .i64 ((x3.cells.getD ((x1).toNat) z36).kind), .int .i64 ((x3.cells.getD ((x1).toNat) z36).n), .slice A22 ((x3.cells.getD ((x1).toNat) z36).text).length c23]) (vs := [.int .i64 ((x3.cells.getD ((x1).toNat) z36).kind), .int .i64 ((x3.cells.getD ((x1).toNat) z36).n), .slice A22 ((x3.cells.getD ((x1).toNat) z36).text).length c23]) S29 (by kernel_rfl) (by kernel_rfl) rfl (by kernel_rfl) b28 (Nat.le_of_ble_eq_true rfl) (List.forall_mem_cons.2 ⟨rfl, (List.forall_mem_cons.2 ⟨rfl, (List.forall_mem_cons.2 ⟨rfl, (fun _ h_ => by cases h_)⟩)⟩)⟩) rfl) ?_
  rintro w31 ⟨b32, S33, K34⟩
  clear b28
  refine wpList_nil ?_
  refine then_n ?_
  refine wp_seq ?_
  refine wp_block ?_
  refine wp_seq ?_
  refine wp_region_lit ?_
  refine lv (d := 14) rfl rfl (by kernel_rfl) (e_fieldAddr (b := g27) (off := 0) (o := 0) Try.underlying36 rfl rfl (sz := 1) (by kernel_rfl) (by decide) (by kernel_rfl)) ?_
  refine lv (d := 15) rfl rfl (by kernel_rfl) (e_load1 (ad := ⟨g27, 0 + 0, none⟩) (v := .int .i64 ((x3.cells.getD ((x1).toNat) z36).kind)) Try.underlying3 rfl (by kernel_rfl) (blk_cell b32 rfl)) ?_
  refine lv (d := 16) rfl rfl (by kernel_rfl) (e_eql (k := .i64) (a := (x3.cells.getD ((x1).toNat) z36).kind) (b := 0) (by kernel_rfl) rfl) ?_
  refine lv (d := 17) rfl rfl (by kernel_rfl) (e_move (v := .bool (decide (((x3.cells.getD ((x1).toNat) z36).kind) = 0))) (by kernel_rfl)) ?_
  by_cases q35 : ((x3.cells.getD ((x1).toNat) z36).kind) = 0
  · replace M := ifp q35 M
    refine lvg (d := 18) (t := 17) rfl (by kernel_rfl) rfl (bt q35 (by kernel_rfl)) rfl (by kernel_rfl) (e_fieldAddr (b := g27) (off := 0) (o := 1) Try.underlying36 rfl rfl (sz := 1) (by kernel_rfl) (by decide) (by kernel_rfl)) ?_
    refine lvg (d := 19) (t := 17) rfl (by kernel_rfl) rfl (bt q35 (by kernel_rfl)) rfl (by kernel_rfl) (e_load1 (ad := ⟨g27, 0 + 1, none⟩) (v := .int .i64 ((x3.cells.getD ((x1).toNat) z36).n)) Try.underlying3 rfl (by kernel_rfl) (blk_cell b32 rfl)) ?_
    refine lvg (d := 20) (t := 17) rfl (by kernel_rfl) rfl (bt q35 (by kernel_rfl)) rfl (by kernel_rfl) (e_move (v := .int .i64 x1) (by kernel_rfl)) ?_
    refine lvg (d := 21) (t := 17) rfl (by kernel_rfl) rfl (bt q35 (by kernel_rfl)) rfl (by kernel_rfl) (e_neq (k := .i64) (a := (x3.cells.getD ((x1).toNat) z36).n) (b := x1) (by kernel_rfl) (by kernel_rfl)) ?_
    refine lv (d := 22) rfl rfl (by kernel_rfl) (e_pick_t (v := .bool (decide (((x3.cells.getD ((x1).toNat) z36).n) ≠ x1))) (bt q35 (by kernel_rfl)) (by kernel_rfl)) ?_
    refine lv (d := 23) rfl rfl (by kernel_rfl) (e_move (v := .bool (decide (((x3.cells.getD ((x1).toNat) z36).n) ≠ x1))) (by kernel_rfl)) ?_
    by_cases q36 : ((x3.cells.getD ((x1).toNat) z36).n) ≠ x1
    · replace M := ifp q36 M
      refine lvg (d := 24) (t := 23) rfl (by kernel_rfl) rfl (bt q36 (by kernel_rfl)) rfl (by kernel_rfl) (e_move (v := .int .i64 x2) (by kernel_rfl)) ?_
      refine lvg (d := 25) (t := 23) rfl (by kernel_rfl) rfl (bt q36 (by kernel_rfl)) rfl (by kernel_rfl) (e_eql (k := .i64) (a := x2) (b := 0) (by kernel_rfl) rfl) ?_
      refine lv (d := 26) rfl rfl (by kernel_rfl) (e_pick_t (v := .bool (decide (x2 = 0))) (bt q36 (by kernel_rfl)) (by kernel_rfl)) ?_
      refine lv (d := 13) rfl rfl (by kernel_rfl) (e_assign (v := .bool (decide (x2 = 0))) (by kernel_rfl)) ?_
      refine wpList_nil ?_
      refine then_n ?_
      by_cases q37 : x2 = 0
      · replace M := ifp q37 M
        refine cond_t rfl (bt q37 (by kernel_rfl)) ?_
        refine wp_seq ?_
        refine wp_region_lit ?_
        refine lv (d := 27) rfl rfl (by kernel_rfl) (e_fieldAddr (b := g27) (off := 0) (o := 1) Try.underlying36 rfl rfl (sz := 1) (by kernel_rfl) (by decide) (by kernel_rfl)) ?_
        refine lv (d := 28) rfl rfl (by kernel_rfl) (e_load1 (ad := ⟨g27, 0 + 1, none⟩) (v := .int .i64 ((x3.cells.getD ((x1).toNat) z36).n)) Try.underlying3 rfl (by kernel_rfl) (blk_cell b32 rfl)) ?_
        refine lv (d := 5) rfl rfl (by kernel_rfl) (e_assign (v := .int .i64 ((x3.cells.getD ((x1).toNat) z36).n)) (by kernel_rfl)) ?_
        refine lv (d := 6) rfl rfl (by kernel_rfl) (e_assign (v := .bool true) rfl) ?_
        refine wpList_nil ?_
        refine then_n ?_
        refine wp_ret ?_
        refine inb_r ?_
        refine then_r ?_
        obtain rfl := Option.some.inj M
        exact ret2 rfl rfl rfl (show _ = .int .i64 ((x3.cells.getD ((x1).toNat) z36).n) from (by kernel_rfl)) (show _ = .bool true from (by kernel_rfl)) ⟨rfl, S33.chg⟩
      replace M := ifn q37 M
      refine cond_f rfl (bf q37 (by kernel_rfl)) ?_
      refine wp_seq ?_
      refine wp_region_lit ?_
      refine lv (d := 30) rfl rfl (by kernel_rfl) (e_fieldAddr (b := g27) (off := 0) (o := 0) Try.underlying36 rfl rfl (sz := 1) (by kernel_rfl) (by decide) (by kernel_rfl)) ?_
      refine lv (d := 31) rfl rfl (by kernel_rfl) (e_load1 (ad := ⟨g27, 0 + 0, none⟩) (v := .int .i64 ((x3.cells.getD ((x1).toNat) z36).kind)) Try.underlying3 rfl (by kernel_rfl) (blk_cell b32 rfl)) ?_
      refine lv (d := 32) rfl rfl (by kernel_rfl) (e_eql (k := .i64) (a := (x3.cells.getD ((x1).toNat) z36).kind) (b := 4) (by kernel_rfl) rfl) ?_
      refine lv (d := 33) rfl rfl (by kernel_rfl) (e_move (v := .bool (decide (((x3.cells.getD ((x1).toNat) z36).kind) = 4))) (by kernel_rfl)) ?_
      by_cases q38 : ((x3.cells.getD ((x1).toNat) z36).kind) = 4
      · replace M := ifp q38 M
        refine lvg (d := 34) (t := 33) rfl (by kernel_rfl) rfl (bt q38 (by kernel_rfl)) rfl (by kernel_rfl) (e_move (v := .int .i64 x2) (by kernel_rfl)) ?_
        refine lvg (d := 35) (t := 33) rfl (by kernel_rfl) rfl (bt q38 (by kernel_rfl)) rfl (by kernel_rfl) (e_fieldAddr (b := g4) (off := 0) (o := 0) Try.underlying34 rfl rfl (sz := 1) (by kernel_rfl) (by decide) (by kernel_rfl)) ?_
        refine lvg (d := 36) (t := 33) rfl (by kernel_rfl) rfl (bt q38 (by kernel_rfl)) rfl (by kernel_rfl) (e_load1 (ad := ⟨g4, 0 + 0, none⟩) (v := .slice A6 x3.cells.length c7) Try.underlying32 rfl (by kernel_rfl) (blk_cell (S33.inv _ _ b5) rfl)) ?_
        refine lvg (d := 37) (t := 33) rfl (by kernel_rfl) rfl (bt q38 (by kernel_rfl)) rfl (by kernel_rfl) (e_fieldAddr (b := g27) (off := 0) (o := 1) Try.underlying36 rfl rfl (sz := 1) (by kernel_rfl) (by decide) (by kernel_rfl)) ?_
        refine lvg (d := 38) (t := 33) rfl (by kernel_rfl) rfl (bt q38 (by kernel_rfl)) rfl (by kernel_rfl) (e_load1 (ad := ⟨g27, 0 + 1, none⟩) (v := .int .i64 ((x3.cells.getD ((x1).toNat) z36).n)) Try.underlying3 rfl (by kernel_rfl) (blk_cell b32 rfl)) ?_
        obtain ⟨q39, M⟩ := chk M
        obtain ⟨q40, M⟩ := chk M
        obtain ⟨b41, o42, e43⟩ := Rd.addr h8 (show ((x3.cells.getD ((x1).toNat) z36).n).toNat < x3.cells.length by omega)
        obtain ⟨y44, r45, k46⟩ := Rd.at h8 e43 (getD_some z36 (show ((x3.cells.getD ((x1).toNat) z36).n).toNat < x3.cells.length by omega))
        obtain ⟨A47, c48, rfl, l49, h50⟩ := st36_open r45
        refine lvg (d := 39) (t := 33) rfl (by kernel_rfl) rfl (bt q38 (by kernel_rfl)) rfl (by kernel_rfl) (e_indexAddr (b := b41) (off := o42) (n := x3.cells.length) (c := c7) (sz := 3) (i := (x3.cells.getD ((x1).toNat) z36).n) (k := .i64) Try.underlying32 e43 (by kernel_rfl) (by kernel_rfl) (by kernel_rfl) q39 q40) ?_
        refine lvg (d := 40) (t := 33) rfl (by kernel_rfl) rfl (bt q38 (by kernel_rfl)) rfl (by kernel_rfl) (e_fieldAddr (b := b41) (off := o42 + ((x3.cells.getD ((x1).toNat) z36).n : Int).toNat * 3) (o := 1) Try.underlying36 rfl rfl (sz := 1) (by kernel_rfl) (by decide) (by kernel_rfl)) ?_
        refine lvg (d := 41) (t := 33) rfl (by kernel_rfl) rfl (bt q38 (by kernel_rfl)) rfl (by kernel_rfl) (e_load1 (ad := ⟨b41, o42 + ((x3.cells.getD ((x1).toNat) z36).n : Int).toNat * 3 + 1, none⟩) (v := .int .i64 ((x3.cells.getD (((x3.cells.getD ((x1).toNat) z36).n).toNat) z36).n)) Try.underlying3 rfl (by kernel_rfl) (hpx (S33.inv.cell (k46 1 _ rfl)))) ?_
        refine lvg (d := 42) (t := 33) rfl (by kernel_rfl) rfl (bt q38 (by kernel_rfl)) rfl (by kernel_rfl) (e_lss (k := .i64) (a := x2) (b := (x3.cells.getD (((x3.cells.getD ((x1).toNat) z36).n).toNat) z36).n) (by kernel_rfl) (by kernel_rfl)) ?_
        refine lv (d := 43) rfl rfl (by kernel_rfl) (e_pick_t (v := .bool (decide (x2 < ((x3.cells.getD (((x3.cells.getD ((x1).toNat) z36).n).toNat) z36).n)))) (bt q38 (by kernel_rfl)) (by kernel_rfl)) ?_
        refine lv (d := 29) rfl rfl (by kernel_rfl) (e_assign (v := .bool (decide (x2 < ((x3.cells.getD (((x3.cells.getD ((x1).toNat) z36).n).toNat) z36).n)))) (by kernel_rfl)) ?_
        refine wpList_nil ?_
        refine then_n ?_
        by_cases q51 : x2 < ((x3.cells.getD (((x3.cells.getD ((x1).toNat) z36).n).toNat) z36).n)
        · replace M := ifp q51 M
          refine cond_t rfl (bt q51 (by kernel_rfl)) ?_
          refine wp_seq ?_
          refine wp_region_lit ?_
          refine lv (d := 44) rfl rfl (by kernel_rfl) (e_fieldAddr (b := g27) (off := 0) (o := 1) Try.underlying36 rfl rfl (sz := 1) (by kernel_rfl) (by decide) (by kernel_rfl)) ?_
          refine lv (d := 45) rfl rfl (by kernel_rfl) (e_load1 (ad := ⟨g27, 0 + 1, none⟩) (v := .int .i64 ((x3.cells.getD ((x1).toNat) z36).n)) Try.underlying3 rfl (by kernel_rfl) (blk_cell b32 rfl)) ?_
          refine lv (d := 46) rfl rfl (by kernel_rfl) (e_add (k := .i64) (a := (x3.cells.getD ((x1).toNat) z36).n) (b := 1) (by kernel_rfl) rfl) ?_
          refine lv (d := 47) rfl rfl (by kernel_rfl) (e_move (v := .int .i64 x2) (by kernel_rfl)) ?_
          refine lv (d := 48) rfl rfl (by kernel_rfl) (e_add (k := .i64) (a := (IntKind.i64.wrap (((x3.cells.getD ((x1).toNat) z36).n) + 1))) (b := x2) (by kernel_rfl) (by kernel_rfl)) ?_
          refine lv (d := 5) rfl rfl (by kernel_rfl) (e_assign (v := .int .i64 (IntKind.i64.wrap ((IntKind.i64.wrap (((x3.cells.getD ((x1).toNat) z36).n) + 1)) + x2))) (by kernel_rfl)) ?_
          refine lv (d := 6) rfl rfl (by kernel_rfl) (e_assign (v := .bool true) rfl) ?_
          refine wpList_nil ?_
          refine then_n ?_
          refine wp_ret ?_
          refine inb_r ?_
          refine then_r ?_
          obtain rfl := Option.some.inj M
          exact ret2 rfl rfl rfl (show _ = .int .i64 (IntKind.i64.wrap ((IntKind.i64.wrap (((x3.cells.getD ((x1).toNat) z36).n) + 1)) + x2)) from (by kernel_rfl)) (show _ = .bool true from (by kernel_rfl)) ⟨rfl, S33.chg⟩
        replace M := ifn q51 M
        refine cond_f rfl (bf q51 (by kernel_rfl)) ?_
        refine wp_skip ?_
        refine inb_n ?_
        refine then_n ?_
        refine wp_seq ?_
        refine wp_region_lit ?_
        refine lv (d := 5) rfl rfl (by kernel_rfl) (e_assign (v := .int .i64 0) rfl) ?_
        refine lv (d := 6) rfl rfl (by kernel_rfl) (e_assign (v := .bool false) rfl) ?_
        refine wpList_nil ?_
        refine then_n ?_
        refine wp_ret ?_
        obtain rfl := Option.some.inj M
        exact ret2 rfl rfl rfl (show _ = .int .i64 0 from (by kernel_rfl)) (show _ = .bool false from (by kernel_rfl)) ⟨rfl, S33.chg⟩
      replace M := ifn q38 M
      refine lskip (t := 33) (c := false) rfl (by kernel_rfl) rfl (bf q38 (by kernel_rfl)) rfl rfl ?_
      refine lskip (t := 33) (c := false) rfl (by kernel_rfl) rfl (bf q38 (by kernel_rfl)) rfl rfl ?_
      refine lskip (t := 33) (c := false) rfl (by kernel_rfl) rfl (bf q38 (by kernel_rfl)) rfl rfl ?_
      refine lskip (t := 33) (c := false) rfl (by kernel_rfl) rfl (bf q38 (by kernel_rfl)) rfl rfl ?_
      refine lskip (t := 33) (c := false) rfl (by kernel_rfl) rfl (bf q38 (by kernel_rfl)) rfl rfl ?_
      refine lskip (t := 33) (c := false) rfl (by kernel_rfl) rfl (bf q38 (by kernel_rfl)) rfl rfl ?_
      refine lskip (t := 33) (c := false) rfl (by kernel_rfl) rfl (bf q38 (by kernel_rfl)) rfl rfl ?_
      refine lskip (t := 33) (c := false) rfl (by kernel_rfl) rfl (bf q38 (by kernel_rfl)) rfl rfl ?_
      refine lskip (t := 33) (c := false) rfl (by kernel_rfl) rfl (bf q38 (by kernel_rfl)) rfl rfl ?_
      refine lv (d := 43) rfl rfl (by kernel_rfl) (e_pick_f (v := .bool false) (bf q38 (by kernel_rfl)) rfl) ?_
      refine lv (d := 29) rfl rfl (by kernel_rfl) (e_assign (v := .bool false) (by kernel_rfl)) ?_
      refine wpList_nil ?_
      refine then_n ?_
      refine cond_f rfl (by kernel_rfl) ?_
      refine wp_skip ?_
      refine inb_n ?_
      refine then_n ?_
      refine wp_seq ?_
      refine wp_region_lit ?_
      refine lv (d := 5) rfl rfl (by kernel_rfl) (e_assign (v := .int .i64 0) rfl) ?_
      refine lv (d := 6) rfl rfl (by kernel_rfl) (e_assign (v := .bool false) rfl) ?_
      refine wpList_nil ?_
      refine then_n ?_
      refine wp_ret ?_
      obtain rfl := Option.some.inj M
      exact ret2 rfl rfl rfl (show _ = .int .i64 0 from (by kernel_rfl)) (show _ = .bool false from (by kernel_rfl)) ⟨rfl, S33.chg⟩
    replace M := ifn q36 M
    refine lskip (t := 23) (c := false) rfl (by kernel_rfl) rfl (bf q36 (by kernel_rfl)) rfl rfl ?_
    refine lskip (t := 23) (c := false) rfl (by kernel_rfl) rfl (bf q36 (by kernel_rfl)) rfl rfl ?_
    refine lv (d := 26) rfl rfl (by kernel_rfl) (e_pick_f (v := .bool false) (bf q36 (by kernel_rfl)) rfl) ?_
    refine lv (d := 13) rfl rfl (by kernel_rfl) (e_assign (v := .bool false) (by kernel_rfl)) ?_
    refine wpList_nil ?_
    refine then_n ?_
    refine cond_f rfl (by kernel_rfl) ?_
    refine wp_seq ?_
    refine wp_region_lit ?_
    refine lv (d := 30) rfl rfl (by kernel_rfl) (e_fieldAddr (b := g27) (off := 0) (o := 0) Try.underlying36 rfl rfl (sz := 1) (by kernel_rfl) (by decide) (by kernel_rfl)) ?_
    refine lv (d := 31) rfl rfl (by kernel_rfl) (e_load1 (ad := ⟨g27, 0 + 0, none⟩) (v := .int .i64 ((x3.cells.getD ((x1).toNat) z36).kind)) Try.underlying3 rfl (by kernel_rfl) (blk_cell b32 rfl)) ?_
    refine lv (d := 32) rfl rfl (by kernel_rfl) (e_eql (k := .i64) (a := (x3.cells.getD ((x1).toNat) z36).kind) (b := 4) (by kernel_rfl) rfl) ?_
    refine lv (d := 33) rfl rfl (by kernel_rfl) (e_move (v := .bool (decide (((x3.cells.getD ((x1).toNat) z36).kind) = 4))) (by kernel_rfl)) ?_
    by_cases q52 : ((x3.cells.getD ((x1).toNat) z36).kind) = 4
    · replace M := ifp q52 M
      refine lvg (d := 34) (t := 33) rfl (by kernel_rfl) rfl (bt q52 (by kernel_rfl)) rfl (by kernel_rfl) (e_move (v := .int .i64 x2) (by kernel_rfl)) ?_
      refine lvg (d := 35) (t := 33) rfl (by kernel_rfl) rfl (bt q52 (by kernel_rfl)) rfl (by kernel_rfl) (e_fieldAddr (b := g4) (off := 0) (o := 0) Try.underlying34 rfl rfl (sz := 1) (by kernel_rfl) (by decide) (by kernel_rfl)) ?_
      refine lvg (d := 36) (t := 33) rfl (by kernel_rfl) rfl (bt q52 (by kernel_rfl)) rfl (by kernel_rfl) (e_load1 (ad := ⟨g4, 0 + 0, none⟩) (v := .slice A6 x3.cells.length c7) Try.underlying32 rfl (by kernel_rfl) (blk_cell (S33.inv _ _ b5) rfl)) ?_
      refine lvg (d := 37) (t := 33) rfl (by kernel_rfl) rfl (bt q52 (by kernel_rfl)) rfl (by kernel_rfl) (e_fieldAddr (b := g27) (off := 0) (o := 1) Try.underlying36 rfl rfl (sz := 1) (by kernel_rfl) (by decide) (by kernel_rfl)) ?_
      refine lvg (d := 38) (t := 33) rfl (by kernel_rfl) rfl (bt q52 (by kernel_rfl)) rfl (by kernel_rfl) (e_load1 (ad := ⟨g27, 0 + 1, none⟩) (v := .int .i64 ((x3.cells.getD ((x1).toNat) z36).n)) Try.underlying3 rfl (by kernel_rfl) (blk_cell b32 rfl)) ?_
      obtain ⟨q53, M⟩ := chk M
      obtain ⟨q54, M⟩ := chk M
      obtain ⟨b55, o56, e57⟩ := Rd.addr h8 (show ((x3.cells.getD ((x1).toNat) z36).n).toNat < x3.cells.length by omega)
      obtain ⟨y58, r59, k60⟩ := Rd.at h8 e57 (getD_some z36 (show ((x3.cells.getD ((x1).toNat) z36).n).toNat < x3.cells.length by omega))
      obtain ⟨A61, c62, rfl, l63, h64⟩ := st36_open r59
      refine lvg (d := 39) (t := 33) rfl (by kernel_rfl) rfl (bt q52 (by kernel_rfl)) rfl (by kernel_rfl) (e_indexAddr (b := b55) (off := o56) (n := x3.cells.length) (c := c7) (sz := 3) (i := (x3.cells.getD ((x1).toNat) z36).n) (k := .i64) Try.underlying32 e57 (by kernel_rfl) (by kernel_rfl) (by kernel_rfl) q53 q54) ?_
      refine lvg (d := 40) (t := 33) rfl (by kernel_rfl) rfl (bt q52 (by kernel_rfl)) rfl (by kernel_rfl) (e_fieldAddr (b := b55) (off := o56 + ((x3.cells.getD ((x1).toNat) z36).n : Int).toNat * 3) (o := 1) Try.underlying36 rfl rfl (sz := 1) (by kernel_rfl) (by decide) (by kernel_rfl)) ?_
      refine lvg (d := 41) (t := 33) rfl (by kernel_rfl) rfl (bt q52 (by kernel_rfl)) rfl (by kernel_rfl) (e_load1 (ad := ⟨b55, o56 + ((x3.cells.getD ((x1).toNat) z36).n : Int).toNat * 3 + 1, none⟩) (v := .int .i64 ((x3.cells.getD (((x3.cells.getD ((x1).toNat) z36).n).toNat) z36).n)) Try.underlying3 rfl (by kernel_rfl) (hpx (S33.inv.cell (k60 1 _ rfl)))) ?_
      refine lvg (d := 42) (t := 33) rfl (by kernel_rfl) rfl (bt q52 (by kernel_rfl)) rfl (by kernel_rfl) (e_lss (k := .i64) (a := x2) (b := (x3.cells.getD (((x3.cells.getD ((x1).toNat) z36).n).toNat) z36).n) (by kernel_rfl) (by kernel_rfl)) ?_
      refine lv (d := 43) rfl rfl (by kernel_rfl) (e_pick_t (v := .bool (decide (x2 < ((x3.cells.getD (((x3.cells.getD ((x1).toNat) z36).n).toNat) z36).n)))) (bt q52 (by kernel_rfl)) (by kernel_rfl)) ?_
      refine lv (d := 29) rfl rfl (by kernel_rfl) (e_assign (v := .bool (decide (x2 < ((x3.cells.getD (((x3.cells.getD ((x1).toNat) z36).n).toNat) z36).n)))) (by kernel_rfl)) ?_
      refine wpList_nil ?_
      refine then_n ?_
      by_cases q65 : x2 < ((x3.cells.getD (((x3.cells.getD ((x1).toNat) z36).n).toNat) z36).n)
      · replace M := ifp q65 M
        refine cond_t rfl (bt q65 (by kernel_rfl)) ?_
        refine wp_seq ?_
        refine wp_region_lit ?_
        refine lv (d := 44) rfl rfl (by kernel_rfl) (e_fieldAddr (b := g27) (off := 0) (o := 1) Try.underlying36 rfl rfl (sz := 1) (by kernel_rfl) (by decide) (by kernel_rfl)) ?_
        refine lv (d := 45) rfl rfl (by kernel_rfl) (e_load1 (ad := ⟨g27, 0 + 1, none⟩) (v := .int .i64 ((x3.cells.getD ((x1).toNat) z36).n)) Try.underlying3 rfl (by kernel_rfl) (blk_cell b32 rfl)) ?_
        refine lv (d := 46) rfl rfl (by kernel_rfl) (e_add (k := .i64) (a := (x3.cells.getD ((x1).toNat) z36).n) (b := 1) (by kernel_rfl) rfl) ?_
        refine lv (d := 47) rfl rfl (by kernel_rfl) (e_move (v := .int .i64 x2) (by kernel_rfl)) ?_
        refine lv (d := 48) rfl rfl (by kernel_rfl) (e_add (k := .i64) (a := (IntKind.i64.wrap (((x3.cells.getD ((x1).toNat) z36).n) + 1))) (b := x2) (by kernel_rfl) (by kernel_rfl)) ?_
        refine lv (d := 5) rfl rfl (by kernel_rfl) (e_assign (v := .int .i64 (IntKind.i64.wrap ((IntKind.i64.wrap (((x3.cells.getD ((x1).toNat) z36).n) + 1)) + x2))) (by kernel_rfl)) ?_
        refine lv (d := 6) rfl rfl (by kernel_rfl) (e_assign (v := .bool true) rfl) ?_
        refine wpList_nil ?_
        refine then_n ?_
        refine wp_ret ?_
        refine inb_r ?_
        refine then_r ?_
        obtain rfl := Option.some.inj M
        exact ret2 rfl rfl rfl (show _ = .int .i64 (IntKind.i64.wrap ((IntKind.i64.wrap (((x3.cells.getD ((x1).toNat) z36).n) + 1)) + x2)) from (by kernel_rfl)) (show _ = .bool true from (by kernel_rfl)) ⟨rfl, S33.chg⟩
      replace M := ifn q65 M
      refine cond_f rfl (bf q65 (by kernel_rfl)) ?_
      refine wp_skip ?_
      refine inb_n ?_
      refine then_n ?_
      refine wp_seq ?_
      refine wp_region_lit ?_
      refine lv (d := 5) rfl rfl (by kernel_rfl) (e_assign (v := .int .i64 0) rfl) ?_
      refine lv (d := 6) rfl rfl (by kernel_rfl) (e_assign (v := .bool false) rfl) ?_
      refine wpList_nil ?_
      refine then_n ?_
      refine wp_ret ?_
      obtain rfl := Option.some.inj M
      exact ret2 rfl rfl rfl (show _ = .int .i64 0 from (by kernel_rfl)) (show _ = .bool false from (by kernel_rfl)) ⟨rfl, S33.chg⟩
    replace M := ifn q52 M
    refine lskip (t := 33) (c := false) rfl (by kernel_rfl) rfl (bf q52 (by kernel_rfl)) rfl rfl ?_
    refine lskip (t := 33) (c := false) rfl (by kernel_rfl) rfl (bf q52 (by kernel_rfl)) rfl rfl ?_
    refine lskip (t := 33) (c := false) rfl (by kernel_rfl) rfl (bf q52 (by kernel_rfl)) rfl rfl ?_
    refine lskip (t := 33) (c := false) rfl (by kernel_rfl) rfl (bf q52 (by kernel_rfl)) rfl rfl ?_
    refine lskip (t := 33) (c := false) rfl (by kernel_rfl) rfl (bf q52 (by kernel_rfl)) rfl rfl ?_
    refine lskip (t := 33) (c := false) rfl (by kernel_rfl) rfl (bf q52 (by kernel_rfl)) rfl rfl ?_
    refine lskip (t := 33) (c := false) rfl (by kernel_rfl) rfl (bf q52 (by kernel_rfl)) rfl rfl ?_
    refine lskip (t := 33) (c := false) rfl (by kernel_rfl) rfl (bf q52 (by kernel_rfl)) rfl rfl ?_
    refine lskip (t := 33) (c := false) rfl (by kernel_rfl) rfl (bf q52 (by kernel_rfl)) rfl rfl ?_
    refine lv (d := 43) rfl rfl (by kernel_rfl) (e_pick_f (v := .bool false) (bf q52 (by kernel_rfl)) rfl) ?_
    refine lv (d := 29) rfl rfl (by kernel_rfl) (e_assign (v := .bool false) (by kernel_rfl)) ?_
    refine wpList_nil ?_
    refine then_n ?_
    refine cond_f rfl (by kernel_rfl) ?_
    refine wp_skip ?_
    refine inb_n ?_
    refine then_n ?_
    refine wp_seq ?_
    refine wp_region_lit ?_
    refine lv (d := 5) rfl rfl (by kernel_rfl) (e_assign (v := .int .i64 0) rfl) ?_
    refine lv (d := 6) rfl rfl (by kernel_rfl) (e_assign (v := .bool false) rfl) ?_
    refine wpList_nil ?_
    refine then_n ?_
    refine wp_ret ?_
    obtain rfl := Option.some.inj M
    exact ret2 rfl rfl rfl (show _ = .int .i64 0 from (by kernel_rfl)) (show _ = .bool false from (by kernel_rfl)) ⟨rfl, S33.chg⟩
  replace M := ifn q35 M
  refine lskip (t := 17) (c := false) rfl (by kernel_rfl) rfl (bf q35 (by kernel_rfl)) rfl rfl ?_
  refine lskip (t := 17) (c := false) rfl (by kernel_rfl) rfl (bf q35 (by kernel_rfl)) rfl rfl ?_
  refine lskip (t := 17) (c := false) rfl (by kernel_rfl) rfl (bf q35 (by kernel_rfl)) rfl rfl ?_
  refine lskip (t := 17) (c := false) rfl (by kernel_rfl) rfl (bf q35 (by kernel_rfl)) rfl rfl ?_
  refine lv (d := 22) rfl rfl (by kernel_rfl) (e_pick_f (v := .bool false) (bf q35 (by kernel_rfl)) rfl) ?_
  refine lv (d := 23) rfl rfl (by kernel_rfl) (e_move (v := .bool false) (by kernel_rfl)) ?_
  refine lskip (t := 23) (c := false) rfl (by kernel_rfl) rfl (by kernel_rfl) rfl rfl ?_
  refine lskip (t := 23) (c := false) rfl (by kernel_rfl) rfl (by kernel_rfl) rfl rfl ?_
  refine lv (d := 26) rfl rfl (by kernel_rfl) (e_pick_f (v := .bool false) (by kernel_rfl) rfl) ?_
  refine lv (d := 13) rfl rfl (by kernel_rfl) (e_assign (v := .bool false) (by kernel_rfl)) ?_
  refine wpList_nil ?_
  refine then_n ?_
  refine cond_f rfl (by kernel_rfl) ?_
  refine wp_seq ?_
  refine wp_region_lit ?_
  refine lv (d := 30) rfl rfl (by kernel_rfl) (e_fieldAddr (b := g27) (off := 0) (o := 0) Try.underlying36 rfl rfl (sz := 1) (by kernel_rfl) (by decide) (by kernel_rfl)) ?_
  refine lv (d := 31) rfl rfl (by kernel_rfl) (e_load1 (ad := ⟨g27, 0 + 0, none⟩) (v := .int .i64 ((x3.cells.getD ((x1).toNat) z36).kind)) Try.underlying3 rfl (by kernel_rfl) (blk_cell b32 rfl)) ?_
  refine lv (d := 32) rfl rfl (by kernel_rfl) (e_eql (k := .i64) (a := (x3.cells.getD ((x1).toNat) z36).kind) (b := 4) (by kernel_rfl) rfl) ?_
  refine lv (d := 33) rfl rfl (by kernel_rfl) (e_move (v := .bool (decide (((x3.cells.getD ((x1).toNat) z36).kind) = 4))) (by kernel_rfl)) ?_
  by_cases q66 : ((x3.cells.getD ((x1).toNat) z36).kind) = 4
  · replace M := ifp q66 M
    refine lvg (d := 34) (t := 33) rfl (by kernel_rfl) rfl (bt q66 (by kernel_rfl)) rfl (by kernel_rfl) (e_move (v := .int .i64 x2) (by kernel_rfl)) ?_
    refine lvg (d := 35) (t := 33) rfl (by kernel_rfl) rfl (bt q66 (by kernel_rfl)) rfl (by kernel_rfl) (e_fieldAddr (b := g4) (off := 0) (o := 0) Try.underlying34 rfl rfl (sz := 1) (by kernel_rfl) (by decide) (by kernel_rfl)) ?_
    refine lvg (d := 36) (t := 33) rfl (by kernel_rfl) rfl (bt q66 (by kernel_rfl)) rfl (by kernel_rfl) (e_load1 (ad := ⟨g4, 0 + 0, none⟩) (v := .slice A6 x3.cells.length c7) Try.underlying32 rfl (by kernel_rfl) (blk_cell (S33.inv _ _ b5) rfl)) ?_
    refine lvg (d := 37) (t := 33) rfl (by kernel_rfl) rfl (bt q66 (by kernel_rfl)) rfl (by kernel_rfl) (e_fieldAddr (b := g27) (off := 0) (o := 1) Try.underlying36 rfl rfl (sz := 1) (by kernel_rfl) (by decide) (by kernel_rfl)) ?_
    refine lvg (d := 38) (t := 33) rfl (by kernel_rfl) rfl (bt q66 (by kernel_rfl)) rfl (by kernel_rfl) (e_load1 (ad := ⟨g27, 0 + 1, none⟩) (v := .int .i64 ((x3.cells.getD ((x1).toNat) z36).n)) Try.underlying3 rfl (by kernel_rfl) (blk_cell b32 rfl)) ?_
    obtain ⟨q67, M⟩ := chk M
    obtain ⟨q68, M⟩ := chk M
    obtain ⟨b69, o70, e71⟩ := Rd.addr h8 (show ((x3.cells.getD ((x1).toNat) z36).n).toNat < x3.cells.length by omega)
    obtain ⟨y72, r73, k74⟩ := Rd.at h8 e71 (getD_some z36 (show ((x3.cells.getD ((x1).toNat) z36).n).toNat < x3.cells.length by omega))
    obtain ⟨A75, c76, rfl, l77, h78⟩ := st36_open r73
    refine lvg (d := 39) (t := 33) rfl (by kernel_rfl) rfl (bt q66 (by kernel_rfl)) rfl (by kernel_rfl) (e_indexAddr (b := b69) (off := o70) (n := x3.cells.length) (c := c7) (sz := 3) (i := (x3.cells.getD ((x1).toNat) z36).n) (k := .i64) Try.underlying32 e71 (by kernel_rfl) (by kernel_rfl) (by kernel_rfl) q67 q68) ?_
    refine lvg (d := 40) (t := 33) rfl (by kernel_rfl) rfl (bt q66 (by kernel_rfl)) rfl (by kernel_rfl) (e_fieldAddr (b := b69) (off := o70 + ((x3.cells.getD ((x1).toNat) z36).n : Int).toNat * 3) (o := 1) Try.underlying36 rfl rfl (sz := 1) (by kernel_rfl) (by decide) (by kernel_rfl)) ?_
    refine lvg (d := 41) (t := 33) rfl (by kernel_rfl) rfl (bt q66 (by kernel_rfl)) rfl (by kernel_rfl) (e_load1 (ad := ⟨b69, o70 + ((x3.cells.getD ((x1).toNat) z36).n : Int).toNat * 3 + 1, none⟩) (v := .int .i64 ((x3.cells.getD (((x3.cells.getD ((x1).toNat) z36).n).toNat) z36).n)) Try.underlying3 rfl (by kernel_rfl) (hpx (S33.inv.cell (k74 1 _ rfl)))) ?_
    refine lvg (d := 42) (t := 33) rfl (by kernel_rfl) rfl (bt q66 (by kernel_rfl)) rfl (by kernel_rfl) (e_lss (k := .i64) (a := x2) (b := (x3.cells.getD (((x3.cells.getD ((x1).toNat) z36).n).toNat) z36).n) (by kernel_rfl) (by kernel_rfl)) ?_
    refine lv (d := 43) rfl rfl (by kernel_rfl) (e_pick_t (v := .bool (decide (x2 < ((x3.cells.getD (((x3.cells.getD ((x1).toNat) z36).n).toNat) z36).n)))) (bt q66 (by kernel_rfl)) (by kernel_rfl)) ?_
    refine lv (d := 29) rfl rfl (by kernel_rfl) (e_assign (v := .bool (decide (x2 < ((x3.cells.getD (((x3.cells.getD ((x1).toNat) z36).n).toNat) z36).n)))) (by kernel_rfl)) ?_
    refine wpList_nil ?_
    refine then_n ?_
    by_cases q79 : x2 < ((x3.cells.getD (((x3.cells.getD ((x1).toNat) z36).n).toNat) z36).n)
    · replace M := ifp q79 M
      refine cond_t rfl (bt q79 (by kernel_rfl)) ?_
      refine wp_seq ?_
      refine wp_region_lit ?_
      refine lv (d := 44) rfl rfl (by kernel_rfl) (e_fieldAddr (b := g27) (off := 0) (o := 1) Try.underlying36 rfl rfl (sz := 1) (by kernel_rfl) (by decide) (by kernel_rfl)) ?_
      refine lv (d := 45) rfl rfl (by kernel_rfl) (e_load1 (ad := ⟨g27, 0 + 1, none⟩) (v := .int .i64 ((x3.cells.getD ((x1).toNat) z36).n)) Try.underlying3 rfl (by kernel_rfl) (blk_cell b32 rfl)) ?_
      refine lv (d := 46) rfl rfl (by kernel_rfl) (e_add (k := .i64) (a := (x3.cells.getD ((x1).toNat) z36).n) (b := 1) (by kernel_rfl) rfl) ?_
      refine lv (d := 47) rfl rfl (by kernel_rfl) (e_move (v := .int .i64 x2) (by kernel_rfl)) ?_
      refine lv (d := 48) rfl rfl (by kernel_rfl) (e_add (k := .i64) (a := (IntKind.i64.wrap (((x3.cells.getD ((x1).toNat) z36).n) + 1))) (b := x2) (by kernel_rfl) (by kernel_rfl)) ?_
      refine lv (d := 5) rfl rfl (by kernel_rfl) (e_assign (v := .int .i64 (IntKind.i64.wrap ((IntKind.i64.wrap (((x3.cells.getD ((x1).toNat) z36).n) + 1)) + x2))) (by kernel_rfl)) ?_
      refine lv (d := 6) rfl rfl (by kernel_rfl) (e_assign (v := .bool true) rfl) ?_
      refine wpList_nil ?_
      refine then_n ?_
      refine wp_ret ?_
      refine inb_r ?_
      refine then_r ?_
      obtain rfl := Option.some.inj M
      exact ret2 rfl rfl rfl (show _ = .int .i64 (IntKind.i64.wrap ((IntKind.i64.wrap (((x3.cells.getD ((x1).toNat) z36).n) + 1)) + x2)) from (by kernel_rfl)) (show _ = .bool true from (by kernel_rfl)) ⟨rfl, S33.chg⟩
    replace M := ifn q79 M
    refine cond_f rfl (bf q79 (by kernel_rfl)) ?_
    refine wp_skip ?_
    refine inb_n ?_
    refine then_n ?_
    refine wp_seq ?_
    refine wp_region_lit ?_
    refine lv (d := 5) rfl rfl (by kernel_rfl) (e_assign (v := .int .i64 0) rfl) ?_
    refine lv (d := 6) rfl rfl (by kernel_rfl) (e_assign (v := .bool false) rfl) ?_
    refine wpList_nil ?_
    refine then_n ?_
    refine wp_ret ?_
    obtain rfl := Option.some.inj M
    exact ret2 rfl rfl rfl (show _ = .int .i64 0 from (by kernel_rfl)) (show _ = .bool false from (by kernel_rfl)) ⟨rfl, S33.chg⟩
  replace M := ifn q66 M
  refine lskip (t := 33) (c := false) rfl (by kernel_rfl) rfl (bf q66 (by kernel_rfl)) rfl rfl ?_
  refine lskip (t := 33) (c := false) rfl (by kernel_rfl) rfl (bf q66 (by kernel_rfl)) rfl rfl ?_
  refine lskip (t := 33) (c := false) rfl (by kernel_rfl) rfl (bf q66 (by kernel_rfl)) rfl rfl ?_
  refine lskip (t := 33) (c := false) rfl (by kernel_rfl) rfl (bf q66 (by kernel_rfl)) rfl rfl ?_
  refine lskip (t := 33) (c := false) rfl (by kernel_rfl) rfl (bf q66 (by kernel_rfl)) rfl rfl ?_
  refine lskip (t := 33) (c := false) rfl (by kernel_rfl) rfl (bf q66 (by kernel_rfl)) rfl rfl ?_
  refine lskip (t := 33) (c := false) rfl (by kernel_rfl) rfl (bf q66 (by kernel_rfl)) rfl rfl ?_
  refine lskip (t := 33) (c := false) rfl (by kernel_rfl) rfl (bf q66 (by kernel_rfl)) rfl rfl ?_
  refine lskip (t := 33) (c := false) rfl (by kernel_rfl) rfl (bf q66 (by kernel_rfl)) rfl rfl ?_
  refine lv (d := 43) rfl rfl (by kernel_rfl) (e_pick_f (v := .bool false) (bf q66 (by kernel_rfl)) rfl) ?_
  refine lv (d := 29) rfl rfl (by kernel_rfl) (e_assign (v := .bool false) (by kernel_rfl)) ?_
  refine wpList_nil ?_
  refine then_n ?_
  refine cond_f rfl (by kernel_rfl) ?_
  refine wp_skip ?_
  refine inb_n ?_
  refine then_n ?_
  refine wp_seq ?_
  refine wp_region_lit ?_
  refine lv (d := 5) rfl rfl (by kernel_rfl) (e_assign (v := .int .i64 0) rfl) ?_
  refine lv (d := 6) rfl rfl (by kernel_rfl) (e_assign (v := .bool false) rfl) ?_
  refine wpList_nil ?_
  refine then_n ?_
  refine wp_ret ?_
  obtain rfl := Option.some.inj M
  exact ret2 rfl rfl rfl (show _ = .int .i64 0 from (by kernel_rfl)) (show _ = .bool false from (by kernel_rfl)) ⟨rfl, S33.chg⟩

/-! impl_Store_ok -/
mutual
def impl_Store_ok.l3 : Nat → Store → Int → (List UInt8) → Option Bool
  | 0, _, _, _ => none
  | k146 + 1, x1, x132, x134 => (if x132 < (x1.cells.length : Int) then (if 0 ≤ x132 then (if ((x1.cells.getD ((x132).toNat) z36).kind) = 3 then (impl_Store_ok.l3 k146 x1 (IntKind.i64.wrap (x132 + 1)) x134) else (if x132 < (((x1.cells.length : Int)).toNat : Int) then (if ((x134.getD ((x132).toNat) (0 : UInt8)).toNat : Int) ≠ 0 then (impl_Store_ok.l3 k146 x1 (IntKind.i64.wrap (x132 + 1)) x134) else (impl_Store_ok.l4 k146 x1 x132 [(⟨x132, 0⟩ : GStep)] (x134.set ((x132).toNat) (1 : UInt8)))) else none)) else none) else some true)
def impl_Store_ok.l4 : Nat → Store → Int → (List GStep) → (List UInt8) → Option Bool
  | 0, _, _, _, _ => none
  | k226 + 1, x1, x132, x202, x208 => (if (x202.length : Int) > 0 then (if 0 ≤ (IntKind.i64.wrap ((x202.length : Int) - 1)) then (if (IntKind.i64.wrap ((x202.length : Int) - 1)) < (x202.length : Int) then ((impl_Store_ok_c1.f ((x202.getD (((IntKind.i64.wrap ((x202.length : Int) - 1))).toNat) z86).at_) ((x202.getD (((IntKind.i64.wrap ((x202.length : Int) - 1))).toNat) z86).next_) x1).bind fun t261 => (if ¬ (t261.2 = true) then (if 0 ≤ ((x202.getD (((IntKind.i64.wrap ((x202.length : Int) - 1))).toNat) z86).at_) then (if ((x202.getD (((IntKind.i64.wrap ((x202.length : Int) - 1))).toNat) z86).at_) < (((x1.cells.length : Int)).toNat : Int) then (if (IntKind.i64.wrap ((x202.length : Int) - 1)) ≤ (x202.length : Int) then (impl_Store_ok.l4 k226 x1 x132 (x202.take (((IntKind.i64.wrap ((x202.length : Int) - 1)) : Int).toNat)) (x208.set (((x202.getD (((IntKind.i64.wrap ((x202.length : Int) - 1))).toNat) z86).at_).toNat) (2 : UInt8))) else none) else none) else none) else (if 0 ≤ t261.1 then (if t261.1 < (((x1.cells.length : Int)).toNat : Int) then (if ((x208.getD ((t261.1).toNat) (0 : UInt8)).toNat : Int) = 0 then (if x202.length + 1 ≤ 8796093022208 then (impl_Store_ok.l4 k226 x1 x132 ((x202.set (((IntKind.i64.wrap ((x202.length : Int) - 1))).toNat) ({(x202.getD (((IntKind.i64.wrap ((x202.length : Int) - 1))).toNat) z86) with next_ := (IntKind.i64.wrap (((x202.getD (((IntKind.i64.wrap ((x202.length : Int) - 1))).toNat) z86).next_) + 1))})) ++ [(⟨t261.1, 0⟩ : GStep)]) (x208.set ((t261.1).toNat) (1 : UInt8))) else none) else (if ((x208.getD ((t261.1).toNat) (0 : UInt8)).toNat : Int) = 1 then some false else (impl_Store_ok.l4 k226 x1 x132 (x202.set (((IntKind.i64.wrap ((x202.length : Int) - 1))).toNat) ({(x202.getD (((IntKind.i64.wrap ((x202.length : Int) - 1))).toNat) z86) with next_ := (IntKind.i64.wrap (((x202.getD (((IntKind.i64.wrap ((x202.length : Int) - 1))).toNat) z86).next_) + 1))})) x208))) else none) else none))) else none) else none) else (impl_Store_ok.l3 k226 x1 (IntKind.i64.wrap (x132 + 1)) x208))
end
def impl_Store_ok.l2 : Nat → Store → Int → Option Bool
  | 0, _, _ => none
  | k97 + 1, x1, x87 => (if x87 < (x1.trail.length : Int) then (if 0 ≤ x87 then (if (x1.trail.getD ((x87).toNat) (0 : Int)) < 0 then some false else (if (x1.trail.getD ((x87).toNat) (0 : Int)) ≥ (x1.cells.length : Int) then some false else (if 0 ≤ (x1.trail.getD ((x87).toNat) (0 : Int)) then (if (x1.trail.getD ((x87).toNat) (0 : Int)) < (x1.cells.length : Int) then (if ((x1.cells.getD (((x1.trail.getD ((x87).toNat) (0 : Int))).toNat) z36).kind) = 3 then some false else (impl_Store_ok.l2 k97 x1 (IntKind.i64.wrap (x87 + 1)))) else none) else none))) else none) else (if 0 ≤ (x1.cells.length : Int) then (if ((x1.cells.length : Int)).toNat ≤ 281474976710656 then (impl_Store_ok.l3 k97 x1 0 (List.replicate ((x1.cells.length : Int)).toNat (0 : UInt8))) else none) else none))
mutual
def impl_Store_ok.l0 : Nat → Store → Int → Int → Option Bool
  | 0, _, _, _ => none
  | k31 + 1, x1, x19, x20 => (if x20 < (x1.cells.length : Int) then (if 0 ≤ x20 then (if ((x1.cells.getD ((x20).toNat) z36).kind) = 3 then (if x19 > 0 then some false else (if ((x1.cells.getD ((x20).toNat) z36).n) < 1 then some false else (if ((x1.cells.getD ((x20).toNat) z36).n) > 20 then some false else (if (((x1.cells.getD ((x20).toNat) z36).text).length : Int) > 100 then some false else (impl_Store_ok.l1 k31 x1 x20 ((x1.cells.getD ((x20).toNat) z36).n)))))) else ((impl_Store_points.f x1 (x1.cells.getD ((x20).toNat) z36)).bind fun t74 => (if ¬ (t74 = true) then some false else (impl_Store_ok.l1 k31 x1 x20 (if (IntKind.i64.wrap (x19 - 1)) > 0 then (IntKind.i64.wrap (x19 - 1)) else 0))))) else none) else (if x19 > 0 then some false else (impl_Store_ok.l2 k31 x1 0)))
def impl_Store_ok.l1 : Nat → Store → Int → Int → Option Bool
  | 0, _, _, _ => none
  | k45 + 1, x1, x20, x35 => (impl_Store_ok.l0 k45 x1 x35 (IntKind.i64.wrap (x20 + 1)))
end
def impl_Store_ok.f (k : Nat) (x1 : Store) : Option Bool := (if (x1.cells.length : Int) > 20000 then some false else (if (x1.trail.length : Int) > 20000 then some false else (impl_Store_ok.l0 k x1 0 0)))
theorem impl_Store_ok.calls (k : Nat) (w : World) (H : Hp) (x1 : Store) (A2 : Option Addr) (c3 : Nat) (A6 : Option Addr) (c7 : Nat) (h4 : Rd st36 H A2 x1.cells) (l5 : x1.cells.length ≤ c3) (h8 : Rd tInt H A6 x1.trail) (l9 : x1.trail.length ≤ c7) (S : Own [] H w) (r : Bool) (M : impl_Store_ok.f k x1 = some r) :
    Calls Try.prog 42 #[.agg #[.slice A2 x1.cells.length c3, .slice A6 x1.trail.length c7]] w (fun e e_w => e = .returned (.bool r) ∧ Chg no w e_w) := by
  rw [impl_Store_ok.f] at M
  refine enter (l := [.agg #[.slice A2 x1.cells.length c3, .slice A6 x1.trail.length c7]]) 179 Try.func42 rfl rfl rfl ?_
  have S0_ := S.st
  refine wp_seq ?_
  refine wp_region_lit ?_
  refine lve (d := 1) rfl rfl (by kernel_rfl) (new_blk (v := fun g_ => .pointer (some ⟨g_, 0, none⟩)) (cs := #[.slice A2 x1.cells.length c3, .slice A6 x1.trail.length c7]) (t := 34) S0_ (by kernel_rfl)) ?_
  rintro _ w10 ⟨g11, rfl, b12, S13, K14⟩
  refine lv (d := 2) rfl rfl (by kernel_rfl) (e_assign (v := .bool false) rfl) ?_
  refine wpList_nil ?_
  refine then_n ?_
  refine wp_seq ?_
  refine wp_seq ?_
  refine wp_region_lit ?_
  refine lv (d := 16) rfl rfl (by kernel_rfl) (e_fieldAddr (b := g11) (off := 0) (o := 0) Try.underlying34 rfl rfl (sz := 1) (by kernel_rfl) (by decide) (by kernel_rfl)) ?_
  refine lv (d := 17) rfl rfl (by kernel_rfl) (e_load1 (ad := ⟨g11, 0 + 0, none⟩) (v := .slice A2 x1.cells.length c3) Try.underlying32 rfl (by kernel_rfl) (blk_cell b12 rfl)) ?_
  refine lv (d := 18) rfl rfl (by kernel_rfl) (e_len (A := A2) (n := x1.cells.length) (c := c3) Try.underlying32 (by kernel_rfl)) ?_
  refine lv (d := 19) rfl rfl (by kernel_rfl) (e_gtr (k := .i64) (a := (x1.cells.length : Int)) (b := 20000) (by kernel_rfl) rfl) ?_
  refine lv (d := 20) rfl rfl (by kernel_rfl) (e_move (v := .bool (decide ((x1.cells.length : Int) > 20000))) (by kernel_rfl)) ?_
  by_cases q15 : (x1.cells.length : Int) > 20000
  · replace M := ifp q15 M
    refine lskip (t := 20) (c := true) rfl (by kernel_rfl) rfl (bt q15 (by kernel_rfl)) rfl rfl ?_
    refine lskip (t := 20) (c := true) rfl (by kernel_rfl) rfl (bt q15 (by kernel_rfl)) rfl rfl ?_
    refine lskip (t := 20) (c := true) rfl (by kernel_rfl) rfl (bt q15 (by kernel_rfl)) rfl rfl ?_
    refine lskip (t := 20) (c := true) rfl (by kernel_rfl) rfl (bt q15 (by kernel_rfl)) rfl rfl ?_
    refine lv (d := 25) rfl rfl (by kernel_rfl) (e_pick_t (v := .bool true) (bt q15 (by kernel_rfl)) rfl) ?_
    refine wpList_nil ?_
    refine then_n ?_
    refine cond_t rfl (by kernel_rfl) ?_
    refine wp_seq ?_
    refine wp_region_lit ?_
    refine lv (d := 2) rfl rfl (by kernel_rfl) (e_assign (v := .bool false) rfl) ?_
    refine wpList_nil ?_
    refine then_n ?_
    refine wp_ret ?_
    refine then_r ?_
    obtain rfl := Option.some.inj M
    exact ret1 rfl rfl  (show _ = .bool false from (by kernel_rfl)) ⟨rfl, S13.chg⟩
  replace M := ifn q15 M
  refine lvg (d := 21) (t := 20) rfl (by kernel_rfl) rfl (bf q15 (by kernel_rfl)) rfl (by kernel_rfl) (e_fieldAddr (b := g11) (off := 0) (o := 1) Try.underlying34 rfl rfl (sz := 1) (by kernel_rfl) (by decide) (by kernel_rfl)) ?_
  refine lvg (d := 22) (t := 20) rfl (by kernel_rfl) rfl (bf q15 (by kernel_rfl)) rfl (by kernel_rfl) (e_load1 (ad := ⟨g11, 0 + 1, none⟩) (v := .slice A6 x1.trail.length c7) Try.underlying23 rfl (by kernel_rfl) (blk_cell b12 rfl)) ?_
  refine lvg (d := 23) (t := 20) rfl (by kernel_rfl) rfl (bf q15 (by kernel_rfl)) rfl (by kernel_rfl) (e_len (A := A6) (n := x1.trail.length) (c := c7) Try.underlying23 (by kernel_rfl)) ?_
  refine lvg (d := 24) (t := 20) rfl (by kernel_rfl) rfl (bf q15 (by kernel_rfl)) rfl (by kernel_rfl) (e_gtr (k := .i64) (a := (x1.trail.length : Int)) (b := 20000) (by kernel_rfl) rfl) ?_
  refine lv (d := 25) rfl rfl (by kernel_rfl) (e_pick_f (v := .bool (decide ((x1.trail.length : Int) > 20000))) (bf q15 (by kernel_rfl)) (by kernel_rfl)) ?_
  refine wpList_nil ?_
  refine then_n ?_
  by_cases q16 : (x1.trail.length : Int) > 20000
  · replace M := ifp q16 M
    refine cond_t rfl (bt q16 (by kernel_rfl)) ?_
    refine wp_seq ?_
    refine wp_region_lit ?_
    refine lv (d := 2) rfl rfl (by kernel_rfl) (e_assign (v := .bool false) rfl) ?_
    refine wpList_nil ?_
    refine then_n ?_
    refine wp_ret ?_
    refine then_r ?_
    obtain rfl := Option.some.inj M
    exact ret1 rfl rfl  (show _ = .bool false from (by kernel_rfl)) ⟨rfl, S13.chg⟩
  replace M := ifn q16 M
  refine cond_f rfl (bf q16 (by kernel_rfl)) ?_
  refine wp_skip ?_
  refine then_n ?_
  refine wp_seq ?_
  refine wp_region_lit ?_
  refine lv (d := 3) rfl rfl (by kernel_rfl) (e_assign (v := .int .i64 0) rfl) ?_
  refine wpList_nil ?_
  refine then_n ?_
  refine wp_seq ?_
  refine wp_seq ?_
  refine wp_region_lit ?_
  refine lv (d := 26) rfl rfl (by kernel_rfl) (e_fieldAddr (b := g11) (off := 0) (o := 0) Try.underlying34 rfl rfl (sz := 1) (by kernel_rfl) (by decide) (by kernel_rfl)) ?_
  refine lv (d := 27) rfl rfl (by kernel_rfl) (e_load1 (ad := ⟨g11, 0 + 0, none⟩) (v := .slice A2 x1.cells.length c3) Try.underlying32 rfl (by kernel_rfl) (blk_cell b12 rfl)) ?_
  refine lv (d := 28) rfl rfl (by kernel_rfl) (e_len (A := A2) (n := x1.cells.length) (c := c3) Try.underlying32 (by kernel_rfl)) ?_
  refine lv (d := 29) rfl rfl (by kernel_rfl) (e_move (v := .int .i64 0) rfl) ?_
  refine wpList_nil ?_
  refine then_n ?_
  refine wp_block ?_
  refine wp_loop_g (fun k29 a30 w17 => ∃ (f18 : Nat → Value) (x19 : Int) (x20 : Int), a30 = mk 179 f18 ∧ f18 1 = .pointer (some ⟨g11, 0, none⟩) ∧ f18 3 = .int .i64 x19 ∧ f18 27 = .slice A2 x1.cells.length c3 ∧ f18 28 = .int .i64 (x1.cells.length : Int) ∧ f18 29 = .int .i64 x20 ∧ w17.heap[g11]? = some (.cells #[.slice A2 x1.cells.length c3, .slice A6 x1.trail.length c7] 34 (0, 0)) ∧ St (anyOf []) H w [(is g11)] H w17 ∧ impl_Store_ok.l0 k29 x1 x19 x20 = some r) k ⟨_, 0, 0, rfl, (by kernel_rfl), (by kernel_rfl), (by kernel_rfl), (by kernel_rfl), (by kernel_rfl), b12, S13, M⟩ ?_
  clear M
  rintro k29 a30 w17 ⟨f18, x19, x20, rfl, e21, e22, e23, e24, e25, b12, S26, M⟩
  rcases k29 with _ | k31
  · rw [impl_Store_ok.l0] at M
    cases M
  rw [impl_Store_ok.l0] at M
  refine wp_seq ?_
  refine wp_region_lit ?_
  refine lv (d := 30) rfl rfl (by kernel_rfl) (e_lss (k := .i64) (a := x20) (b := (x1.cells.length : Int)) (by exact e25) (by exact e24)) ?_
  refine wpList_nil ?_
  refine then_n ?_
  refine wp_seq ?_
  by_cases q32 : x20 < (x1.cells.length : Int)
  · replace M := ifp q32 M
    refine cond_t rfl (bt q32 (by kernel_rfl)) ?_
    refine wp_skip ?_
    refine then_n ?_
    refine wp_seq_cut (fun a44 w33 => ∃ (k46 : Nat), k46 ≤ k31 ∧ ∃ (f34 : Nat → Value) (x35 : Int), a44 = mk 179 f34 ∧ f34 1 = .pointer (some ⟨g11, 0, none⟩) ∧ f34 3 = .int .i64 x35 ∧ f34 27 = .slice A2 x1.cells.length c3 ∧ f34 28 = .int .i64 (x1.cells.length : Int) ∧ f34 29 = .int .i64 x20 ∧ w33.heap[g11]? = some (.cells #[.slice A2 x1.cells.length c3, .slice A6 x1.trail.length c7] 34 (0, 0)) ∧ St (anyOf []) H w [(is g11)] H w33 ∧ impl_Store_ok.l1 k46 x1 x20 x35 = some r) ?_ ?_
    · refine wp_block ?_
      refine wp_seq ?_
      refine wp_region_lit ?_
      obtain ⟨q47, M⟩ := chk M
      obtain ⟨b48, o49, e50⟩ := Rd.addr h4 (show (x20).toNat < x1.cells.length by omega)
      obtain ⟨y51, r52, k53⟩ := Rd.at h4 e50 (getD_some z36 (show (x20).toNat < x1.cells.length by omega))
      obtain ⟨A54, c55, rfl, l56, h57⟩ := st36_open r52
      refine lv (d := 31) rfl rfl (by kernel_rfl) (e_indexAddr (b := b48) (off := o49) (n := x1.cells.length) (c := c3) (sz := 3) (i := x20) (k := .i64) Try.underlying32 e50 (by kernel_rfl) (by exact e23) (by exact e25) q47 q32) ?_
      refine lv (d := 32) rfl rfl (by kernel_rfl) (e_loadS (b := b48) (off := o49 + (x20 : Int).toNat * 3) (cs := [.int .i64 ((x1.cells.getD ((x20).toNat) z36).kind), .int .i64 ((x1.cells.getD ((x20).toNat) z36).n), .slice A54 ((x1.cells.getD ((x20).toNat) z36).text).length c55]) Try.underlying36 rfl (by kernel_rfl) (by kernel_rfl) (fun j_ u_ e_ => (hpx (S26.inv.cell (k53 j_ u_ e_))))) ?_
      refine lve (d := 5) rfl rfl (by kernel_rfl) (new_blk (v := fun g_ => .pointer (some ⟨g_, 0, none⟩)) (cs := #[.int .i64 0, .int .i64 0, .slice none 0 0]) (t := 36) S26 (by kernel_rfl)) ?_
      rintro _ w58 ⟨g59, rfl, b60, S61, K62⟩
      replace b12 := K62.blk 0 rfl b12
      refine lse rfl rfl (by kernel_rfl) (e_store (g := g59) (o := 0) (v := .agg #[.int .i64 ((x1.cells.getD ((x20).toNat) z36).kind), .int .i64 ((x1.cells.getD ((x20).toNat) z36).n), .slice A54 ((x1.cells.getD ((x20).toNat) z36).text).length c55]) (cur' := #[.int .i64 ((x1.cells.getD ((x20).toNat) z36).kind), .int .i64 ((x1.cells.getD ((x20).toNat) z36).n), .slice A54 ((x1.cells.getD ((x20).toNat) z36).text).length c55]) (vs := [.int .i64 ((x1.cells.getD ((x20).toNat) z36).kind), .int .i64 ((x1.cells.getD ((x20).toNat) z36).n), .slice A54 ((x1.cells.getD ((x20).toNat) z36).text).length c55]) S61 (by kernel_rfl) (by kernel_rfl) rfl (by kernel_rfl) b60 (Nat.le_of_ble_eq_true rfl) (List.forall_mem_cons.2 ⟨rfl, (List.forall_mem_cons.2 ⟨rfl, (List.forall_mem_cons.2 ⟨rfl, (fun _ h_ => by cases h_)⟩)⟩)⟩) rfl) ?_
      rintro w63 ⟨b64, S65, K66⟩
      replace b12 := K66.blk 0 rfl b12
      clear b60
      refine wpList_nil ?_
      refine then_n ?_
      refine wp_seq ?_
      refine wp_seq ?_
      refine wp_region_lit ?_
      refine lv (d := 33) rfl rfl (by kernel_rfl) (e_fieldAddr (b := g59) (off := 0) (o := 0) Try.underlying36 rfl rfl (sz := 1) (by kernel_rfl) (by decide) (by kernel_rfl)) ?_
      refine lv (d := 34) rfl rfl (by kernel_rfl) (e_load1 (ad := ⟨g59, 0 + 0, none⟩) (v := .int .i64 ((x1.cells.getD ((x20).toNat) z36).kind)) Try.underlying3 rfl (by kernel_rfl) (blk_cell b64 rfl)) ?_
      refine lv (d := 35) rfl rfl (by kernel_rfl) (e_eql (k := .i64) (a := (x1.cells.getD ((x20).toNat) z36).kind) (b := 3) (by kernel_rfl) rfl) ?_
      refine wpList_nil ?_
      refine then_n ?_
      by_cases q67 : ((x1.cells.getD ((x20).toNat) z36).kind) = 3
      · replace M := ifp q67 M
        refine cond_t rfl (bt q67 (by kernel_rfl)) ?_
        refine wp_seq ?_
        refine wp_seq ?_
        refine wp_region_lit ?_
        refine lv (d := 36) rfl rfl (by kernel_rfl) (e_move (v := .int .i64 x19) (by exact e22)) ?_
        refine lv (d := 37) rfl rfl (by kernel_rfl) (e_gtr (k := .i64) (a := x19) (b := 0) (by kernel_rfl) rfl) ?_
        refine lv (d := 38) rfl rfl (by kernel_rfl) (e_move (v := .bool (decide (x19 > 0))) (by kernel_rfl)) ?_
        by_cases q68 : x19 > 0
        · replace M := ifp q68 M
          refine lskip (t := 38) (c := true) rfl (by kernel_rfl) rfl (bt q68 (by kernel_rfl)) rfl rfl ?_
          refine lskip (t := 38) (c := true) rfl (by kernel_rfl) rfl (bt q68 (by kernel_rfl)) rfl rfl ?_
          refine lskip (t := 38) (c := true) rfl (by kernel_rfl) rfl (bt q68 (by kernel_rfl)) rfl rfl ?_
          refine lv (d := 42) rfl rfl (by kernel_rfl) (e_pick_t (v := .bool true) (bt q68 (by kernel_rfl)) rfl) ?_
          refine lv (d := 43) rfl rfl (by kernel_rfl) (e_move (v := .bool true) (by kernel_rfl)) ?_
          refine lskip (t := 43) (c := true) rfl (by kernel_rfl) rfl (by kernel_rfl) rfl rfl ?_
          refine lskip (t := 43) (c := true) rfl (by kernel_rfl) rfl (by kernel_rfl) rfl rfl ?_
          refine lskip (t := 43) (c := true) rfl (by kernel_rfl) rfl (by kernel_rfl) rfl rfl ?_
          refine lv (d := 47) rfl rfl (by kernel_rfl) (e_pick_t (v := .bool true) (by kernel_rfl) rfl) ?_
          refine lv (d := 48) rfl rfl (by kernel_rfl) (e_move (v := .bool true) (by kernel_rfl)) ?_
          refine lskip (t := 48) (c := true) rfl (by kernel_rfl) rfl (by kernel_rfl) rfl rfl ?_
          refine lskip (t := 48) (c := true) rfl (by kernel_rfl) rfl (by kernel_rfl) rfl rfl ?_
          refine lskip (t := 48) (c := true) rfl (by kernel_rfl) rfl (by kernel_rfl) rfl rfl ?_
          refine lskip (t := 48) (c := true) rfl (by kernel_rfl) rfl (by kernel_rfl) rfl rfl ?_
          refine lv (d := 53) rfl rfl (by kernel_rfl) (e_pick_t (v := .bool true) (by kernel_rfl) rfl) ?_
          refine wpList_nil ?_
          refine then_n ?_
          refine cond_t rfl (by kernel_rfl) ?_
          refine wp_seq ?_
          refine wp_region_lit ?_
          refine lv (d := 2) rfl rfl (by kernel_rfl) (e_assign (v := .bool false) rfl) ?_
          refine wpList_nil ?_
          refine then_n ?_
          refine wp_ret ?_
          refine then_r ?_
          refine then_r ?_
          refine inb_r ?_
          refine then_r ?_
          refine then_r ?_
          refine inb_r ?_
          refine then_r ?_
          obtain rfl := Option.some.inj M
          exact ret1 rfl rfl  (show _ = .bool false from (by kernel_rfl)) ⟨rfl, S65.chg⟩
        replace M := ifn q68 M
        refine lvg (d := 39) (t := 38) rfl (by kernel_rfl) rfl (bf q68 (by kernel_rfl)) rfl (by kernel_rfl) (e_fieldAddr (b := g59) (off := 0) (o := 1) Try.underlying36 rfl rfl (sz := 1) (by kernel_rfl) (by decide) (by kernel_rfl)) ?_
        refine lvg (d := 40) (t := 38) rfl (by kernel_rfl) rfl (bf q68 (by kernel_rfl)) rfl (by kernel_rfl) (e_load1 (ad := ⟨g59, 0 + 1, none⟩) (v := .int .i64 ((x1.cells.getD ((x20).toNat) z36).n)) Try.underlying3 rfl (by kernel_rfl) (blk_cell b64 rfl)) ?_
        refine lvg (d := 41) (t := 38) rfl (by kernel_rfl) rfl (bf q68 (by kernel_rfl)) rfl (by kernel_rfl) (e_lss (k := .i64) (a := (x1.cells.getD ((x20).toNat) z36).n) (b := 1) (by kernel_rfl) rfl) ?_
        refine lv (d := 42) rfl rfl (by kernel_rfl) (e_pick_f (v := .bool (decide (((x1.cells.getD ((x20).toNat) z36).n) < 1))) (bf q68 (by kernel_rfl)) (by kernel_rfl)) ?_
        refine lv (d := 43) rfl rfl (by kernel_rfl) (e_move (v := .bool (decide (((x1.cells.getD ((x20).toNat) z36).n) < 1))) (by kernel_rfl)) ?_
        by_cases q69 : ((x1.cells.getD ((x20).toNat) z36).n) < 1
        · replace M := ifp q69 M
          refine lskip (t := 43) (c := true) rfl (by kernel_rfl) rfl (bt q69 (by kernel_rfl)) rfl rfl ?_
          refine lskip (t := 43) (c := true) rfl (by kernel_rfl) rfl (bt q69 (by kernel_rfl)) rfl rfl ?_
          refine lskip (t := 43) (c := true) rfl (by kernel_rfl) rfl (bt q69 (by kernel_rfl)) rfl rfl ?_
          refine lv (d := 47) rfl rfl (by kernel_rfl) (e_pick_t (v := .bool true) (bt q69 (by kernel_rfl)) rfl) ?_
          refine lv (d := 48) rfl rfl (by kernel_rfl) (e_move (v := .bool true) (by kernel_rfl)) ?_
          refine lskip (t := 48) (c := true) rfl (by kernel_rfl) rfl (by kernel_rfl) rfl rfl ?_
          refine lskip (t := 48) (c := true) rfl (by kernel_rfl) rfl (by kernel_rfl) rfl rfl ?_
          refine lskip (t := 48) (c := true) rfl (by kernel_rfl) rfl (by kernel_rfl) rfl rfl ?_
          refine lskip (t := 48) (c := true) rfl (by kernel_rfl) rfl (by kernel_rfl) rfl rfl ?_
          refine lv (d := 53) rfl rfl (by kernel_rfl) (e_pick_t (v := .bool true) (by kernel_rfl) rfl) ?_
          refine wpList_nil ?_
          refine then_n ?_
          refine cond_t rfl (by kernel_rfl) ?_
          refine wp_seq ?_
          refine wp_region_lit ?_
          refine lv (d := 2) rfl rfl (by kernel_rfl) (e_assign (v := .bool false) rfl) ?_
          refine wpList_nil ?_
          refine then_n ?_
          refine wp_ret ?_
          refine then_r ?_
          refine then_r ?_
          refine inb_r ?_
          refine then_r ?_
          refine then_r ?_
          refine inb_r ?_
          refine then_r ?_
          obtain rfl := Option.some.inj M
          exact ret1 rfl rfl  (show _ = .bool false from (by kernel_rfl)) ⟨rfl, S65.chg⟩
        replace M := ifn q69 M
        refine lvg (d := 44) (t := 43) rfl (by kernel_rfl) rfl (bf q69 (by kernel_rfl)) rfl (by kernel_rfl) (e_fieldAddr (b := g59) (off := 0) (o := 1) Try.underlying36 rfl rfl (sz := 1) (by kernel_rfl) (by decide) (by kernel_rfl)) ?_
        refine lvg (d := 45) (t := 43) rfl (by kernel_rfl) rfl (bf q69 (by kernel_rfl)) rfl (by kernel_rfl) (e_load1 (ad := ⟨g59, 0 + 1, none⟩) (v := .int .i64 ((x1.cells.getD ((x20).toNat) z36).n)) Try.underlying3 rfl (by kernel_rfl) (blk_cell b64 rfl)) ?_
        refine lvg (d := 46) (t := 43) rfl (by kernel_rfl) rfl (bf q69 (by kernel_rfl)) rfl (by kernel_rfl) (e_gtr (k := .i64) (a := (x1.cells.getD ((x20).toNat) z36).n) (b := 20) (by kernel_rfl) rfl) ?_
        refine lv (d := 47) rfl rfl (by kernel_rfl) (e_pick_f (v := .bool (decide (((x1.cells.getD ((x20).toNat) z36).n) > 20))) (bf q69 (by kernel_rfl)) (by kernel_rfl)) ?_
        refine lv (d := 48) rfl rfl (by kernel_rfl) (e_move (v := .bool (decide (((x1.cells.getD ((x20).toNat) z36).n) > 20))) (by kernel_rfl)) ?_
        by_cases q70 : ((x1.cells.getD ((x20).toNat) z36).n) > 20
        · replace M := ifp q70 M
          refine lskip (t := 48) (c := true) rfl (by kernel_rfl) rfl (bt q70 (by kernel_rfl)) rfl rfl ?_
          refine lskip (t := 48) (c := true) rfl (by kernel_rfl) rfl (bt q70 (by kernel_rfl)) rfl rfl ?_
          refine lskip (t := 48) (c := true) rfl (by kernel_rfl) rfl (bt q70 (by kernel_rfl)) rfl rfl ?_
          refine lskip (t := 48) (c := true) rfl (by kernel_rfl) rfl (bt q70 (by kernel_rfl)) rfl rfl ?_
          refine lv (d := 53) rfl rfl (by kernel_rfl) (e_pick_t (v := .bool true) (bt q70 (by kernel_rfl)) rfl) ?_
          refine wpList_nil ?_
          refine then_n ?_
          refine cond_t rfl (by kernel_rfl) ?_
          refine wp_seq ?_
          refine wp_region_lit ?_
          refine lv (d := 2) rfl rfl (by kernel_rfl) (e_assign (v := .bool false) rfl) ?_
          refine wpList_nil ?_
          refine then_n ?_
          refine wp_ret ?_
          refine then_r ?_
          refine then_r ?_
          refine inb_r ?_
          refine then_r ?_
          refine then_r ?_
          refine inb_r ?_
          refine then_r ?_
          obtain rfl := Option.some.inj M
          exact ret1 rfl rfl  (show _ = .bool false from (by kernel_rfl)) ⟨rfl, S65.chg⟩
        replace M := ifn q70 M
        refine lvg (d := 49) (t := 48) rfl (by kernel_rfl) rfl (bf q70 (by kernel_rfl)) rfl (by kernel_rfl) (e_fieldAddr (b := g59) (off := 0) (o := 2) Try.underlying36 rfl rfl (sz := 1) (by kernel_rfl) (by decide) (by kernel_rfl)) ?_
        refine lvg (d := 50) (t := 48) rfl (by kernel_rfl) rfl (bf q70 (by kernel_rfl)) rfl (by kernel_rfl) (e_load1 (ad := ⟨g59, 0 + 2, none⟩) (v := .slice A54 ((x1.cells.getD ((x20).toNat) z36).text).length c55) Try.underlying26 rfl (by kernel_rfl) (blk_cell b64 rfl)) ?_
        refine lvg (d := 51) (t := 48) rfl (by kernel_rfl) rfl (bf q70 (by kernel_rfl)) rfl (by kernel_rfl) (e_len (A := A54) (n := ((x1.cells.getD ((x20).toNat) z36).text).length) (c := c55) Try.underlying26 (by kernel_rfl)) ?_
        refine lvg (d := 52) (t := 48) rfl (by kernel_rfl) rfl (bf q70 (by kernel_rfl)) rfl (by kernel_rfl) (e_gtr (k := .i64) (a := (((x1.cells.getD ((x20).toNat) z36).text).length : Int)) (b := 100) (by kernel_rfl) rfl) ?_
        refine lv (d := 53) rfl rfl (by kernel_rfl) (e_pick_f (v := .bool (decide ((((x1.cells.getD ((x20).toNat) z36).text).length : Int) > 100))) (bf q70 (by kernel_rfl)) (by kernel_rfl)) ?_
        refine wpList_nil ?_
        refine then_n ?_
        by_cases q71 : (((x1.cells.getD ((x20).toNat) z36).text).length : Int) > 100
        · replace M := ifp q71 M
          refine cond_t rfl (bt q71 (by kernel_rfl)) ?_
          refine wp_seq ?_
          refine wp_region_lit ?_
          refine lv (d := 2) rfl rfl (by kernel_rfl) (e_assign (v := .bool false) rfl) ?_
          refine wpList_nil ?_
          refine then_n ?_
          refine wp_ret ?_
          refine then_r ?_
          refine then_r ?_
          refine inb_r ?_
          refine then_r ?_
          refine then_r ?_
          refine inb_r ?_
          refine then_r ?_
          obtain rfl := Option.some.inj M
          exact ret1 rfl rfl  (show _ = .bool false from (by kernel_rfl)) ⟨rfl, S65.chg⟩
        replace M := ifn q71 M
        refine cond_f rfl (bf q71 (by kernel_rfl)) ?_
        refine wp_skip ?_
        refine then_n ?_
        refine wp_seq ?_
        refine wp_region_lit ?_
        refine lv (d := 54) rfl rfl (by kernel_rfl) (e_fieldAddr (b := g59) (off := 0) (o := 1) Try.underlying36 rfl rfl (sz := 1) (by kernel_rfl) (by decide) (by kernel_rfl)) ?_
        refine lv (d := 55) rfl rfl (by kernel_rfl) (e_load1 (ad := ⟨g59, 0 + 1, none⟩) (v := .int .i64 ((x1.cells.getD ((x20).toNat) z36).n)) Try.underlying3 rfl (by kernel_rfl) (blk_cell b64 rfl)) ?_
        refine lv (d := 3) rfl rfl (by kernel_rfl) (e_assign (v := .int .i64 ((x1.cells.getD ((x20).toNat) z36).n)) (by kernel_rfl)) ?_
        refine wpList_nil ?_
        refine then_n ?_
        refine wp_exit ?_
        refine then_e ?_
        refine inb_hit ?_
        refine then_n ?_
        have S72 := S65.pull (F := (is g11)) (Fr := [(is g59)]) 1 rfl rfl
        have S73 := St.first (Fa := [(is g11)]) (Fr := [(is g59)]) S72
        exact ⟨k31, (by omega), _, ((x1.cells.getD ((x20).toNat) z36).n), rfl, (by exact e21), (by kernel_rfl), (by exact e23), (by exact e24), (by exact e25), b12, S73, M⟩
      replace M := ifn q67 M
      refine cond_f rfl (bf q67 (by kernel_rfl)) ?_
      refine wp_skip ?_
      refine then_n ?_
      refine wp_seq ?_
      refine wp_seq ?_
      refine wp_region_lit ?_
      refine lv (d := 56) rfl rfl (by kernel_rfl) (e_loadS (b := g11) (off := 0) (cs := [.slice A2 x1.cells.length c3, .slice A6 x1.trail.length c7]) Try.underlying34 rfl (by kernel_rfl) (by exact e21) (blk_cells b12 rfl)) ?_
      refine lv (d := 57) rfl rfl (by kernel_rfl) (e_loadS (b := g59) (off := 0) (cs := [.int .i64 ((x1.cells.getD ((x20).toNat) z36).kind), .int .i64 ((x1.cells.getD ((x20).toNat) z36).n), .slice A54 ((x1.cells.getD ((x20).toNat) z36).text).length c55]) Try.underlying36 rfl (by kernel_rfl) (by kernel_rfl) (blk_cells b64 rfl)) ?_
      obtain ⟨t74, u75, M⟩ := bnd M
      refine lcall (d := 58) rfl rfl (by kernel_rfl) (e_call (l := [.tmp 56, .tmp 57]) (vs := [.agg #[.slice A2 x1.cells.length c3, .slice A6 x1.trail.length c7], .agg #[.int .i64 ((x1.cells.getD ((x20).toNat) z36).kind), .int .i64 ((x1.cells.getD ((x20).toNat) z36).n), .slice A54 ((x1.cells.getD ((x20).toNat) z36).text).length c55]]) Try.func43 (by kernel_rfl) rfl (by kernel_rfl) rfl) (impl_Store_points.calls w63 H x1 A2 c3 A6 c7 (x1.cells.getD ((x20).toNat) z36) A54 c55 h4 l5 h8 l9 h57 l56 S65.own0 t74 u75) ?_
      rintro _ w76 ⟨rfl, C77⟩
      refine ⟨_, rfl, ?_⟩
      obtain ⟨S78, K79⟩ := S65.still C77
      replace b64 := K79.blk 0 rfl b64
      replace b12 := K79.blk 1 rfl b12
      refine lv (d := 59) rfl rfl (by kernel_rfl) (e_notv (c := t74) (by kernel_rfl)) ?_
      refine wpList_nil ?_
      refine then_n ?_
      by_cases q80 : ¬ (t74 = true)
      · replace M := ifp q80 M
        refine cond_t rfl (bt q80 (by kernel_rfl)) ?_
        refine wp_seq ?_
        refine wp_region_lit ?_
        refine lv (d := 2) rfl rfl (by kernel_rfl) (e_assign (v := .bool false) rfl) ?_
        refine wpList_nil ?_
        refine then_n ?_
        refine wp_ret ?_
        refine then_r ?_
        refine inb_r ?_
        refine then_r ?_
        refine then_r ?_
        refine inb_r ?_
        refine then_r ?_
        obtain rfl := Option.some.inj M
        exact ret1 rfl rfl  (show _ = .bool false from (by kernel_rfl)) ⟨rfl, S78.chg⟩
      replace M := ifn q80 M
      refine cond_f rfl (bf q80 (by kernel_rfl)) ?_
      refine wp_skip ?_
      refine then_n ?_
      refine wp_region_lit ?_
      refine lv (d := 60) rfl rfl (by kernel_rfl) (e_move (v := .int .i64 x19) (by exact e22)) ?_
      refine lv (d := 61) rfl rfl (by kernel_rfl) (e_sub (k := .i64) (a := x19) (b := 1) (by kernel_rfl) rfl) ?_
      refine lv (d := 62) rfl rfl (by kernel_rfl) (e_max (k := .i64) (a := 0) (b := (IntKind.i64.wrap (x19 - 1))) rfl (by kernel_rfl)) ?_
      refine lv (d := 3) rfl rfl (by kernel_rfl) (e_assign (v := .int .i64 (if (IntKind.i64.wrap (x19 - 1)) > 0 then (IntKind.i64.wrap (x19 - 1)) else 0)) (by kernel_rfl)) ?_
      refine wpList_nil ?_
      refine inb_n ?_
      refine then_n ?_
      have S81 := S78.pull (F := (is g11)) (Fr := [(is g59)]) 1 rfl rfl
      have S82 := St.first (Fa := [(is g11)]) (Fr := [(is g59)]) S81
      exact ⟨k31, (by omega), _, (if (IntKind.i64.wrap (x19 - 1)) > 0 then (IntKind.i64.wrap (x19 - 1)) else 0), rfl, (by exact e21), (by kernel_rfl), (by exact e23), (by exact e24), (by exact e25), b12, S82, M⟩
    clear M
    rintro a44 w33 ⟨k46, z83, f34, x35, rfl, e36, e37, e38, e39, e40, b12, S41, M⟩
    rcases k46 with _ | k45
    · rw [impl_Store_ok.l1] at M
      cases M
    rw [impl_Store_ok.l1] at M
    refine wp_region_lit ?_
    refine lv (d := 63) rfl rfl (by kernel_rfl) (e_add (k := .i64) (a := x20) (b := 1) (by exact e40) rfl) ?_
    refine lv (d := 29) rfl rfl (by kernel_rfl) (e_move (v := .int .i64 (IntKind.i64.wrap (x20 + 1))) (by kernel_rfl)) ?_
    refine wpList_nil ?_
    refine then_n ?_
    exact ⟨k45, (by omega), _, x35, (IntKind.i64.wrap (x20 + 1)), rfl, (by exact e36), (by exact e37), (by exact e38), (by exact e39), (by kernel_rfl), b12, S41, M⟩
  replace M := ifn q32 M
  refine cond_f rfl (bf q32 (by kernel_rfl)) ?_
  refine wp_exit ?_
  refine then_e ?_
  refine then_e ?_
  refine inb_hit ?_
  refine then_n ?_
  refine wp_seq ?_
  refine wp_seq ?_
  refine wp_region_lit ?_
  refine lv (d := 64) rfl rfl (by kernel_rfl) (e_move (v := .int .i64 x19) (by exact e22)) ?_
  refine lv (d := 65) rfl rfl (by kernel_rfl) (e_gtr (k := .i64) (a := x19) (b := 0) (by kernel_rfl) rfl) ?_
  refine wpList_nil ?_
  refine then_n ?_
  by_cases q84 : x19 > 0
  · replace M := ifp q84 M
    refine cond_t rfl (bt q84 (by kernel_rfl)) ?_
    refine wp_seq ?_
    refine wp_region_lit ?_
    refine lv (d := 2) rfl rfl (by kernel_rfl) (e_assign (v := .bool false) rfl) ?_
    refine wpList_nil ?_
    refine then_n ?_
    refine wp_ret ?_
    refine then_r ?_
    obtain rfl := Option.some.inj M
    exact ret1 rfl rfl  (show _ = .bool false from (by kernel_rfl)) ⟨rfl, S26.chg⟩
  replace M := ifn q84 M
  refine cond_f rfl (bf q84 (by kernel_rfl)) ?_
  refine wp_skip ?_
  refine then_n ?_
  refine wp_seq ?_
  refine wp_seq ?_
  refine wp_region_lit ?_
  refine lv (d := 66) rfl rfl (by kernel_rfl) (e_fieldAddr (b := g11) (off := 0) (o := 1) Try.underlying34 rfl rfl (sz := 1) (by kernel_rfl) (by decide) (by exact e21)) ?_
  refine lv (d := 67) rfl rfl (by kernel_rfl) (e_load1 (ad := ⟨g11, 0 + 1, none⟩) (v := .slice A6 x1.trail.length c7) Try.underlying23 rfl (by kernel_rfl) (blk_cell b12 rfl)) ?_
  refine lv (d := 68) rfl rfl (by kernel_rfl) (e_len (A := A6) (n := x1.trail.length) (c := c7) Try.underlying23 (by kernel_rfl)) ?_
  refine lv (d := 69) rfl rfl (by kernel_rfl) (e_move (v := .int .i64 0) rfl) ?_
  refine wpList_nil ?_
  refine then_n ?_
  refine wp_block ?_
  refine wp_loop_g (fun k95 a96 w85 => ∃ (f86 : Nat → Value) (x87 : Int), k95 ≤ k31 ∧ a96 = mk 179 f86 ∧ f86 1 = .pointer (some ⟨g11, 0, none⟩) ∧ f86 67 = .slice A6 x1.trail.length c7 ∧ f86 68 = .int .i64 (x1.trail.length : Int) ∧ f86 69 = .int .i64 x87 ∧ w85.heap[g11]? = some (.cells #[.slice A2 x1.cells.length c3, .slice A6 x1.trail.length c7] 34 (0, 0)) ∧ St (anyOf []) H w [(is g11)] H w85 ∧ impl_Store_ok.l2 k95 x1 x87 = some r) k31 ⟨_, 0, (by omega), rfl, (by exact e21), (by kernel_rfl), (by kernel_rfl), (by kernel_rfl), b12, S26, M⟩ ?_
  clear M
  rintro k95 a96 w85 ⟨f86, x87, z94, rfl, e88, e89, e90, e91, b12, S92, M⟩
  rcases k95 with _ | k97
  · rw [impl_Store_ok.l2] at M
    cases M
  rw [impl_Store_ok.l2] at M
  refine wp_seq ?_
  refine wp_region_lit ?_
  refine lv (d := 70) rfl rfl (by kernel_rfl) (e_lss (k := .i64) (a := x87) (b := (x1.trail.length : Int)) (by exact e91) (by exact e90)) ?_
  refine wpList_nil ?_
  refine then_n ?_
  refine wp_seq ?_
  by_cases q98 : x87 < (x1.trail.length : Int)
  · replace M := ifp q98 M
    refine cond_t rfl (bt q98 (by kernel_rfl)) ?_
    refine wp_skip ?_
    refine then_n ?_
    refine wp_seq ?_
    refine wp_block ?_
    refine wp_seq ?_
    refine wp_region_lit ?_
    obtain ⟨q99, M⟩ := chk M
    obtain ⟨b100, o101, e102⟩ := Rd.addr h8 (show (x87).toNat < x1.trail.length by omega)
    obtain ⟨y103, r104, k105⟩ := Rd.at h8 e102 (getD_some (0 : Int) (show (x87).toNat < x1.trail.length by omega))
    obtain rfl := r104
    refine lv (d := 71) rfl rfl (by kernel_rfl) (e_indexAddr (b := b100) (off := o101) (n := x1.trail.length) (c := c7) (sz := 1) (i := x87) (k := .i64) Try.underlying23 e102 (by kernel_rfl) (by exact e89) (by exact e91) q99 q98) ?_
    refine lv (d := 72) rfl rfl (by kernel_rfl) (e_load1 (ad := ⟨b100, o101 + (x87 : Int).toNat * 1, none⟩) (v := .int .i64 (x1.trail.getD ((x87).toNat) (0 : Int))) Try.underlying3 rfl (by kernel_rfl) (hpx (S92.inv.cell (k105 0 _ rfl)))) ?_
    refine lv (d := 7) rfl rfl (by kernel_rfl) (e_assign (v := .int .i64 (x1.trail.getD ((x87).toNat) (0 : Int))) (by kernel_rfl)) ?_
    refine wpList_nil ?_
    refine then_n ?_
    refine wp_seq ?_
    refine wp_region_lit ?_
    refine lv (d := 73) rfl rfl (by kernel_rfl) (e_move (v := .int .i64 (x1.trail.getD ((x87).toNat) (0 : Int))) (by kernel_rfl)) ?_
    refine lv (d := 74) rfl rfl (by kernel_rfl) (e_lss (k := .i64) (a := (x1.trail.getD ((x87).toNat) (0 : Int))) (b := 0) (by kernel_rfl) rfl) ?_
    refine lv (d := 75) rfl rfl (by kernel_rfl) (e_move (v := .bool (decide ((x1.trail.getD ((x87).toNat) (0 : Int)) < 0))) (by kernel_rfl)) ?_
    by_cases q106 : (x1.trail.getD ((x87).toNat) (0 : Int)) < 0
    · replace M := ifp q106 M
      refine lskip (t := 75) (c := true) rfl (by kernel_rfl) rfl (bt q106 (by kernel_rfl)) rfl rfl ?_
      refine lskip (t := 75) (c := true) rfl (by kernel_rfl) rfl (bt q106 (by kernel_rfl)) rfl rfl ?_
      refine lskip (t := 75) (c := true) rfl (by kernel_rfl) rfl (bt q106 (by kernel_rfl)) rfl rfl ?_
      refine lskip (t := 75) (c := true) rfl (by kernel_rfl) rfl (bt q106 (by kernel_rfl)) rfl rfl ?_
      refine lskip (t := 75) (c := true) rfl (by kernel_rfl) rfl (bt q106 (by kernel_rfl)) rfl rfl ?_
      refine lv (d := 81) rfl rfl (by kernel_rfl) (e_pick_t (v := .bool true) (bt q106 (by kernel_rfl)) rfl) ?_
      refine lv (d := 82) rfl rfl (by kernel_rfl) (e_move (v := .bool true) (by kernel_rfl)) ?_
      refine lskip (t := 82) (c := true) rfl (by kernel_rfl) rfl (by kernel_rfl) rfl rfl ?_
      refine lskip (t := 82) (c := true) rfl (by kernel_rfl) rfl (by kernel_rfl) rfl rfl ?_
      refine lskip (t := 82) (c := true) rfl (by kernel_rfl) rfl (by kernel_rfl) rfl rfl ?_
      refine lskip (t := 82) (c := true) rfl (by kernel_rfl) rfl (by kernel_rfl) rfl rfl ?_
      refine lskip (t := 82) (c := true) rfl (by kernel_rfl) rfl (by kernel_rfl) rfl rfl ?_
      refine lskip (t := 82) (c := true) rfl (by kernel_rfl) rfl (by kernel_rfl) rfl rfl ?_
      refine lskip (t := 82) (c := true) rfl (by kernel_rfl) rfl (by kernel_rfl) rfl rfl ?_
      refine lv (d := 90) rfl rfl (by kernel_rfl) (e_pick_t (v := .bool true) (by kernel_rfl) rfl) ?_
      refine wpList_nil ?_
      refine then_n ?_
      refine cond_t rfl (by kernel_rfl) ?_
      refine wp_seq ?_
      refine wp_region_lit ?_
      refine lv (d := 2) rfl rfl (by kernel_rfl) (e_assign (v := .bool false) rfl) ?_
      refine wpList_nil ?_
      refine then_n ?_
      refine wp_ret ?_
      refine inb_r ?_
      refine then_r ?_
      refine then_r ?_
      refine inb_r ?_
      refine then_r ?_
      obtain rfl := Option.some.inj M
      exact ret1 rfl rfl  (show _ = .bool false from (by kernel_rfl)) ⟨rfl, S92.chg⟩
    replace M := ifn q106 M
    refine lvg (d := 76) (t := 75) rfl (by kernel_rfl) rfl (bf q106 (by kernel_rfl)) rfl (by kernel_rfl) (e_move (v := .int .i64 (x1.trail.getD ((x87).toNat) (0 : Int))) (by kernel_rfl)) ?_
    refine lvg (d := 77) (t := 75) rfl (by kernel_rfl) rfl (bf q106 (by kernel_rfl)) rfl (by kernel_rfl) (e_fieldAddr (b := g11) (off := 0) (o := 0) Try.underlying34 rfl rfl (sz := 1) (by kernel_rfl) (by decide) (by exact e88)) ?_
    refine lvg (d := 78) (t := 75) rfl (by kernel_rfl) rfl (bf q106 (by kernel_rfl)) rfl (by kernel_rfl) (e_load1 (ad := ⟨g11, 0 + 0, none⟩) (v := .slice A2 x1.cells.length c3) Try.underlying32 rfl (by kernel_rfl) (blk_cell b12 rfl)) ?_
    refine lvg (d := 79) (t := 75) rfl (by kernel_rfl) rfl (bf q106 (by kernel_rfl)) rfl (by kernel_rfl) (e_len (A := A2) (n := x1.cells.length) (c := c3) Try.underlying32 (by kernel_rfl)) ?_
    refine lvg (d := 80) (t := 75) rfl (by kernel_rfl) rfl (bf q106 (by kernel_rfl)) rfl (by kernel_rfl) (e_geq (k := .i64) (a := (x1.trail.getD ((x87).toNat) (0 : Int))) (b := (x1.cells.length : Int)) (by kernel_rfl) (by kernel_rfl)) ?_
    refine lv (d := 81) rfl rfl (by kernel_rfl) (e_pick_f (v := .bool (decide ((x1.trail.getD ((x87).toNat) (0 : Int)) ≥ (x1.cells.length : Int)))) (bf q106 (by kernel_rfl)) (by kernel_rfl)) ?_
    refine lv (d := 82) rfl rfl (by kernel_rfl) (e_move (v := .bool (decide ((x1.trail.getD ((x87).toNat) (0 : Int)) ≥ (x1.cells.length : Int)))) (by kernel_rfl)) ?_
    by_cases q107 : (x1.trail.getD ((x87).toNat) (0 : Int)) ≥ (x1.cells.length : Int)
    · replace M := ifp q107 M
      refine lskip (t := 82) (c := true) rfl (by kernel_rfl) rfl (bt q107 (by kernel_rfl)) rfl rfl ?_
      refine lskip (t := 82) (c := true) rfl (by kernel_rfl) rfl (bt q107 (by kernel_rfl)) rfl rfl ?_
      refine lskip (t := 82) (c := true) rfl (by kernel_rfl) rfl (bt q107 (by kernel_rfl)) rfl rfl ?_
      refine lskip (t := 82) (c := true) rfl (by kernel_rfl) rfl (bt q107 (by kernel_rfl)) rfl rfl ?_
      refine lskip (t := 82) (c := true) rfl (by kernel_rfl) rfl (bt q107 (by kernel_rfl)) rfl rfl ?_
      refine lskip (t := 82) (c := true) rfl (by kernel_rfl) rfl (bt q107 (by kernel_rfl)) rfl rfl ?_
      refine lskip (t := 82) (c := true) rfl (by kernel_rfl) rfl (bt q107 (by kernel_rfl)) rfl rfl ?_
      refine lv (d := 90) rfl rfl (by kernel_rfl) (e_pick_t (v := .bool true) (bt q107 (by kernel_rfl)) rfl) ?_
      refine wpList_nil ?_
      refine then_n ?_
      refine cond_t rfl (by kernel_rfl) ?_
      refine wp_seq ?_
      refine wp_region_lit ?_
      refine lv (d := 2) rfl rfl (by kernel_rfl) (e_assign (v := .bool false) rfl) ?_
      refine wpList_nil ?_
      refine then_n ?_
      refine wp_ret ?_
      refine inb_r ?_
      refine then_r ?_
      refine then_r ?_
      refine inb_r ?_
      refine then_r ?_
      obtain rfl := Option.some.inj M
      exact ret1 rfl rfl  (show _ = .bool false from (by kernel_rfl)) ⟨rfl, S92.chg⟩
    replace M := ifn q107 M
    refine lvg (d := 83) (t := 82) rfl (by kernel_rfl) rfl (bf q107 (by kernel_rfl)) rfl (by kernel_rfl) (e_fieldAddr (b := g11) (off := 0) (o := 0) Try.underlying34 rfl rfl (sz := 1) (by kernel_rfl) (by decide) (by exact e88)) ?_
    refine lvg (d := 84) (t := 82) rfl (by kernel_rfl) rfl (bf q107 (by kernel_rfl)) rfl (by kernel_rfl) (e_load1 (ad := ⟨g11, 0 + 0, none⟩) (v := .slice A2 x1.cells.length c3) Try.underlying32 rfl (by kernel_rfl) (blk_cell b12 rfl)) ?_
    refine lvg (d := 85) (t := 82) rfl (by kernel_rfl) rfl (bf q107 (by kernel_rfl)) rfl (by kernel_rfl) (e_move (v := .int .i64 (x1.trail.getD ((x87).toNat) (0 : Int))) (by kernel_rfl)) ?_
    obtain ⟨q108, M⟩ := chk M
    obtain ⟨q109, M⟩ := chk M
    obtain ⟨b110, o111, e112⟩ := Rd.addr h4 (show ((x1.trail.getD ((x87).toNat) (0 : Int))).toNat < x1.cells.length by omega)
    obtain ⟨y113, r114, k115⟩ := Rd.at h4 e112 (getD_some z36 (show ((x1.trail.getD ((x87).toNat) (0 : Int))).toNat < x1.cells.length by omega))
    obtain ⟨A116, c117, rfl, l118, h119⟩ := st36_open r114
    refine lvg (d := 86) (t := 82) rfl (by kernel_rfl) rfl (bf q107 (by kernel_rfl)) rfl (by kernel_rfl) (e_indexAddr (b := b110) (off := o111) (n := x1.cells.length) (c := c3) (sz := 3) (i := (x1.trail.getD ((x87).toNat) (0 : Int))) (k := .i64) Try.underlying32 e112 (by kernel_rfl) (by kernel_rfl) (by kernel_rfl) q108 q109) ?_
    refine lvg (d := 87) (t := 82) rfl (by kernel_rfl) rfl (bf q107 (by kernel_rfl)) rfl (by kernel_rfl) (e_fieldAddr (b := b110) (off := o111 + ((x1.trail.getD ((x87).toNat) (0 : Int)) : Int).toNat * 3) (o := 0) Try.underlying36 rfl rfl (sz := 1) (by kernel_rfl) (by decide) (by kernel_rfl)) ?_
    refine lvg (d := 88) (t := 82) rfl (by kernel_rfl) rfl (bf q107 (by kernel_rfl)) rfl (by kernel_rfl) (e_load1 (ad := ⟨b110, o111 + ((x1.trail.getD ((x87).toNat) (0 : Int)) : Int).toNat * 3 + 0, none⟩) (v := .int .i64 ((x1.cells.getD (((x1.trail.getD ((x87).toNat) (0 : Int))).toNat) z36).kind)) Try.underlying3 rfl (by kernel_rfl) (hpx (S92.inv.cell (k115 0 _ rfl)))) ?_
    refine lvg (d := 89) (t := 82) rfl (by kernel_rfl) rfl (bf q107 (by kernel_rfl)) rfl (by kernel_rfl) (e_eql (k := .i64) (a := (x1.cells.getD (((x1.trail.getD ((x87).toNat) (0 : Int))).toNat) z36).kind) (b := 3) (by kernel_rfl) rfl) ?_
    refine lv (d := 90) rfl rfl (by kernel_rfl) (e_pick_f (v := .bool (decide (((x1.cells.getD (((x1.trail.getD ((x87).toNat) (0 : Int))).toNat) z36).kind) = 3))) (bf q107 (by kernel_rfl)) (by kernel_rfl)) ?_
    refine wpList_nil ?_
    refine then_n ?_
    by_cases q120 : ((x1.cells.getD (((x1.trail.getD ((x87).toNat) (0 : Int))).toNat) z36).kind) = 3
    · replace M := ifp q120 M
      refine cond_t rfl (bt q120 (by kernel_rfl)) ?_
      refine wp_seq ?_
      refine wp_region_lit ?_
      refine lv (d := 2) rfl rfl (by kernel_rfl) (e_assign (v := .bool false) rfl) ?_
      refine wpList_nil ?_
      refine then_n ?_
      refine wp_ret ?_
      refine inb_r ?_
      refine then_r ?_
      refine then_r ?_
      refine inb_r ?_
      refine then_r ?_
      obtain rfl := Option.some.inj M
      exact ret1 rfl rfl  (show _ = .bool false from (by kernel_rfl)) ⟨rfl, S92.chg⟩
    replace M := ifn q120 M
    refine cond_f rfl (bf q120 (by kernel_rfl)) ?_
    refine wp_skip ?_
    refine inb_n ?_
    refine then_n ?_
    refine wp_region_lit ?_
    refine lv (d := 91) rfl rfl (by kernel_rfl) (e_add (k := .i64) (a := x87) (b := 1) (by exact e91) rfl) ?_
    refine lv (d := 69) rfl rfl (by kernel_rfl) (e_move (v := .int .i64 (IntKind.i64.wrap (x87 + 1))) (by kernel_rfl)) ?_
    refine wpList_nil ?_
    refine then_n ?_
    exact ⟨k97, (by omega), _, (IntKind.i64.wrap (x87 + 1)), (by omega), rfl, (by exact e88), (by exact e89), (by exact e90), (by kernel_rfl), b12, S92, M⟩
  replace M := ifn q98 M
  refine cond_f rfl (bf q98 (by kernel_rfl)) ?_
  refine wp_exit ?_
  refine then_e ?_
  refine then_e ?_
  refine inb_hit ?_
  refine then_n ?_
  refine wp_seq ?_
  refine wp_region_lit ?_
  refine lv (d := 92) rfl rfl (by kernel_rfl) (e_fieldAddr (b := g11) (off := 0) (o := 0) Try.underlying34 rfl rfl (sz := 1) (by kernel_rfl) (by decide) (by exact e88)) ?_
  refine lv (d := 93) rfl rfl (by kernel_rfl) (e_load1 (ad := ⟨g11, 0 + 0, none⟩) (v := .slice A2 x1.cells.length c3) Try.underlying32 rfl (by kernel_rfl) (blk_cell b12 rfl)) ?_
  refine lv (d := 94) rfl rfl (by kernel_rfl) (e_len (A := A2) (n := x1.cells.length) (c := c3) Try.underlying32 (by kernel_rfl)) ?_
  obtain ⟨q121, M⟩ := chk M
  obtain ⟨q122, M⟩ := chk M
  refine lve (d := 95) rfl rfl (by kernel_rfl) (e_make (d := tByte) (k := .i64) (k2 := .i64) (n := (x1.cells.length : Int)) (z := .int .u8 0) (zx := (0 : UInt8)) (bytes := 1) S92 Try.underlying26 (by kernel_rfl) rfl (by decide) (fun _ => rfl) (by kernel_rfl) (by kernel_rfl) q121 (by omega) (by omega)) ?_
  rintro _ w123 ⟨A124, c125, F126, rfl, h127, S128, K129⟩
  replace b12 := K129.blk 0 rfl b12
  refine lv (d := 8) rfl rfl (by kernel_rfl) (e_assign (v := .slice A124 (((x1.cells.length : Int)).toNat) c125) (by kernel_rfl)) ?_
  refine wpList_nil ?_
  refine then_n ?_
  refine wp_seq ?_
  refine wp_region_lit ?_
  refine lv (d := 96) rfl rfl (by kernel_rfl) (e_makeFunc (cs := [.tmp 1]) (vs := [.pointer (some ⟨g11, 0, none⟩)]) (map_c (by exact e88) rfl)) ?_
  refine lv (d := 9) rfl rfl (by kernel_rfl) (e_assign (v := .func (.func 66) #[] #[.pointer (some ⟨g11, 0, none⟩)]) (by kernel_rfl)) ?_
  refine wpList_nil ?_
  refine then_n ?_
  refine wp_seq ?_
  refine wp_seq ?_
  refine wp_region_lit ?_
  refine lv (d := 97) rfl rfl (by kernel_rfl) (e_fieldAddr (b := g11) (off := 0) (o := 0) Try.underlying34 rfl rfl (sz := 1) (by kernel_rfl) (by decide) (by exact e88)) ?_
  refine lv (d := 98) rfl rfl (by kernel_rfl) (e_load1 (ad := ⟨g11, 0 + 0, none⟩) (v := .slice A2 x1.cells.length c3) Try.underlying32 rfl (by kernel_rfl) (blk_cell b12 rfl)) ?_
  refine lv (d := 99) rfl rfl (by kernel_rfl) (e_len (A := A2) (n := x1.cells.length) (c := c3) Try.underlying32 (by kernel_rfl)) ?_
  refine lv (d := 100) rfl rfl (by kernel_rfl) (e_move (v := .int .i64 0) rfl) ?_
  refine wpList_nil ?_
  refine then_n ?_
  refine wp_block ?_
  refine wp_loop_g (fun k144 a145 w130 => ∃ (f131 : Nat → Value) (x132 : Int) (F133 : Foot) (x134 : List UInt8), k144 ≤ k97 ∧ a145 = mk 179 f131 ∧ f131 8 = .slice A124 (((x1.cells.length : Int)).toNat) c125 ∧ f131 9 = .func (.func 66) #[] #[.pointer (some ⟨g11, 0, none⟩)] ∧ f131 98 = .slice A2 x1.cells.length c3 ∧ f131 99 = .int .i64 (x1.cells.length : Int) ∧ f131 100 = .int .i64 x132 ∧ Row tByte 5 H (hp w130) F133 A124 c125 x134 ∧ w130.heap[g11]? = some (.cells #[.slice A2 x1.cells.length c3, .slice A6 x1.trail.length c7] 34 (0, 0)) ∧ x134.length = ((x1.cells.length : Int)).toNat ∧ St (anyOf []) H w [F133, (is g11)] H w130 ∧ impl_Store_ok.l3 k144 x1 x132 x134 = some r) k97 ⟨_, 0, F126, (List.replicate ((x1.cells.length : Int)).toNat (0 : UInt8)), (by omega), rfl, (by kernel_rfl), (by kernel_rfl), (by kernel_rfl), (by kernel_rfl), (by kernel_rfl), h127, b12, List.length_replicate, S128, M⟩ ?_
  clear M
  rintro k144 a145 w130 ⟨f131, x132, F133, x134, z143, rfl, e136, e137, e138, e139, e140, h127, b12, n135, S141, M⟩
  rcases k144 with _ | k146
  · rw [impl_Store_ok.l3] at M
    cases M
  rw [impl_Store_ok.l3] at M
  refine wp_seq ?_
  refine wp_region_lit ?_
  refine lv (d := 101) rfl rfl (by kernel_rfl) (e_lss (k := .i64) (a := x132) (b := (x1.cells.length : Int)) (by exact e140) (by exact e139)) ?_
  refine wpList_nil ?_
  refine then_n ?_
  refine wp_seq ?_
  by_cases q147 : x132 < (x1.cells.length : Int)
  · replace M := ifp q147 M
    refine cond_t rfl (bt q147 (by kernel_rfl)) ?_
    refine wp_skip ?_
    refine then_n ?_
    refine wp_seq ?_
    refine wp_block ?_
    refine wp_seq ?_
    refine wp_region_lit ?_
    refine lv (d := 102) rfl rfl (by kernel_rfl) (e_move (v := .int .i64 x132) (by exact e140)) ?_
    obtain ⟨q148, M⟩ := chk M
    obtain ⟨b149, o150, e151⟩ := Rd.addr h4 (show (x132).toNat < x1.cells.length by omega)
    obtain ⟨y152, r153, k154⟩ := Rd.at h4 e151 (getD_some z36 (show (x132).toNat < x1.cells.length by omega))
    obtain ⟨A155, c156, rfl, l157, h158⟩ := st36_open r153
    refine lv (d := 103) rfl rfl (by kernel_rfl) (e_indexAddr (b := b149) (off := o150) (n := x1.cells.length) (c := c3) (sz := 3) (i := x132) (k := .i64) Try.underlying32 e151 (by kernel_rfl) (by exact e138) (by exact e140) q148 q147) ?_
    refine lv (d := 104) rfl rfl (by kernel_rfl) (e_loadS (b := b149) (off := o150 + (x132 : Int).toNat * 3) (cs := [.int .i64 ((x1.cells.getD ((x132).toNat) z36).kind), .int .i64 ((x1.cells.getD ((x132).toNat) z36).n), .slice A155 ((x1.cells.getD ((x132).toNat) z36).text).length c156]) Try.underlying36 rfl (by kernel_rfl) (by kernel_rfl) (fun j_ u_ e_ => (hpx (S141.inv.cell (k154 j_ u_ e_))))) ?_
    refine lve (d := 11) rfl rfl (by kernel_rfl) (new_blk (v := fun g_ => .pointer (some ⟨g_, 0, none⟩)) (cs := #[.int .i64 0, .int .i64 0, .slice none 0 0]) (t := 36) S141 (by kernel_rfl)) ?_
    rintro _ w159 ⟨g160, rfl, b161, S162, K163⟩
    replace h127 := h127.move (K163.at 0 rfl)
    replace b12 := K163.blk 1 rfl b12
    refine lv (d := 10) rfl rfl (by kernel_rfl) (e_assign (v := .int .i64 x132) (by kernel_rfl)) ?_
    refine lse rfl rfl (by kernel_rfl) (e_store (g := g160) (o := 0) (v := .agg #[.int .i64 ((x1.cells.getD ((x132).toNat) z36).kind), .int .i64 ((x1.cells.getD ((x132).toNat) z36).n), .slice A155 ((x1.cells.getD ((x132).toNat) z36).text).length c156]) (cur' := #[.int .i64 ((x1.cells.getD ((x132).toNat) z36).kind), .int .i64 ((x1.cells.getD ((x132).toNat) z36).n), .slice A155 ((x1.cells.getD ((x132).toNat) z36).text).length c156]) (vs := [.int .i64 ((x1.cells.getD ((x132).toNat) z36).kind), .int .i64 ((x1.cells.getD ((x132).toNat) z36).n), .slice A155 ((x1.cells.getD ((x132).toNat) z36).text).length c156]) S162 (by kernel_rfl) (by kernel_rfl) rfl (by kernel_rfl) b161 (Nat.le_of_ble_eq_true rfl) (List.forall_mem_cons.2 ⟨rfl, (List.forall_mem_cons.2 ⟨rfl, (List.forall_mem_cons.2 ⟨rfl, (fun _ h_ => by cases h_)⟩)⟩)⟩) rfl) ?_
    rintro w164 ⟨b165, S166, K167⟩
    replace h127 := h127.move (K167.at 0 rfl)
    replace b12 := K167.blk 1 rfl b12
    clear b161
    refine wpList_nil ?_
    refine then_n ?_
    refine wp_seq ?_
    refine wp_seq ?_
    refine wp_region_lit ?_
    refine lv (d := 105) rfl rfl (by kernel_rfl) (e_fieldAddr (b := g160) (off := 0) (o := 0) Try.underlying36 rfl rfl (sz := 1) (by kernel_rfl) (by decide) (by kernel_rfl)) ?_
    refine lv (d := 106) rfl rfl (by kernel_rfl) (e_load1 (ad := ⟨g160, 0 + 0, none⟩) (v := .int .i64 ((x1.cells.getD ((x132).toNat) z36).kind)) Try.underlying3 rfl (by kernel_rfl) (blk_cell b165 rfl)) ?_
    refine lv (d := 107) rfl rfl (by kernel_rfl) (e_eql (k := .i64) (a := (x1.cells.getD ((x132).toNat) z36).kind) (b := 3) (by kernel_rfl) rfl) ?_
    refine lv (d := 108) rfl rfl (by kernel_rfl) (e_move (v := .bool (decide (((x1.cells.getD ((x132).toNat) z36).kind) = 3))) (by kernel_rfl)) ?_
    by_cases q168 : ((x1.cells.getD ((x132).toNat) z36).kind) = 3
    · replace M := ifp q168 M
      refine lskip (t := 108) (c := true) rfl (by kernel_rfl) rfl (bt q168 (by kernel_rfl)) rfl rfl ?_
      refine lskip (t := 108) (c := true) rfl (by kernel_rfl) rfl (bt q168 (by kernel_rfl)) rfl rfl ?_
      refine lskip (t := 108) (c := true) rfl (by kernel_rfl) rfl (bt q168 (by kernel_rfl)) rfl rfl ?_
      refine lskip (t := 108) (c := true) rfl (by kernel_rfl) rfl (bt q168 (by kernel_rfl)) rfl rfl ?_
      refine lskip (t := 108) (c := true) rfl (by kernel_rfl) rfl (bt q168 (by kernel_rfl)) rfl rfl ?_
      refine lv (d := 114) rfl rfl (by kernel_rfl) (e_pick_t (v := .bool true) (bt q168 (by kernel_rfl)) rfl) ?_
      refine wpList_nil ?_
      refine then_n ?_
      refine cond_t rfl (by kernel_rfl) ?_
      refine wp_exit ?_
      refine then_e ?_
      refine inb_hit ?_
      refine then_n ?_
      refine wp_region_lit ?_
      refine lv (d := 178) rfl rfl (by kernel_rfl) (e_add (k := .i64) (a := x132) (b := 1) (by exact e140) rfl) ?_
      refine lv (d := 100) rfl rfl (by kernel_rfl) (e_move (v := .int .i64 (IntKind.i64.wrap (x132 + 1))) (by kernel_rfl)) ?_
      refine wpList_nil ?_
      refine then_n ?_
      have S169 := S166.pull (F := (is g11)) (Fr := [(is g160), F133]) 2 rfl rfl
      have S170 := S169.pull (F := F133) (Fr := [(is g11), (is g160)]) 2 rfl rfl
      have S171 := St.first (Fa := [F133, (is g11)]) (Fr := [(is g160)]) S170
      exact ⟨k146, (by omega), _, (IntKind.i64.wrap (x132 + 1)), F133, x134, (by omega), rfl, (by exact e136), (by exact e137), (by exact e138), (by exact e139), (by kernel_rfl), h127, b12, n135, S171, M⟩
    replace M := ifn q168 M
    refine lvg (d := 109) (t := 108) rfl (by kernel_rfl) rfl (bf q168 (by kernel_rfl)) rfl (by kernel_rfl) (e_move (v := .slice A124 (((x1.cells.length : Int)).toNat) c125) (by exact e136)) ?_
    refine lvg (d := 110) (t := 108) rfl (by kernel_rfl) rfl (bf q168 (by kernel_rfl)) rfl (by kernel_rfl) (e_move (v := .int .i64 x132) (by kernel_rfl)) ?_
    obtain ⟨q172, M⟩ := chk M
    obtain ⟨b173, e175⟩ := Row.addr h127 (show (x132).toNat < x134.length by have : x134.length = ((x1.cells.length : Int)).toNat := n135; omega)
    refine lvg (d := 111) (t := 108) rfl (by kernel_rfl) rfl (bf q168 (by kernel_rfl)) rfl (by kernel_rfl) (e_indexAddr (b := b173) (off := 0) (n := ((x1.cells.length : Int)).toNat) (c := c125) (sz := 1) (i := x132) (k := .i64) Try.underlying26 e175 (by kernel_rfl) (by kernel_rfl) (by kernel_rfl) q148 q172) ?_
    refine lvg (d := 112) (t := 108) rfl (by kernel_rfl) rfl (bf q168 (by kernel_rfl)) rfl (by kernel_rfl) (e_load1 (ad := ⟨b173, 0 + (x132 : Int).toNat * 1, none⟩) (v := .int .u8 ((x134.getD ((x132).toNat) (0 : UInt8)).toNat : Int)) Try.underlying5 rfl (by kernel_rfl) (hpx (Row.pick (j := 0) (u := .int .u8 ((x134.getD ((x132).toNat) (0 : UInt8)).toNat : Int)) h127 e175 (getD_some (0 : UInt8) (show (x132).toNat < x134.length by have : x134.length = ((x1.cells.length : Int)).toNat := n135; omega)) (fun _ _ o_ => by rw [show _ = _ from o_]; rfl)))) ?_
    refine lvg (d := 113) (t := 108) rfl (by kernel_rfl) rfl (bf q168 (by kernel_rfl)) rfl (by kernel_rfl) (e_neq (k := .u8) (a := ((x134.getD ((x132).toNat) (0 : UInt8)).toNat : Int)) (b := 0) (by kernel_rfl) rfl) ?_
    refine lv (d := 114) rfl rfl (by kernel_rfl) (e_pick_f (v := .bool (decide (((x134.getD ((x132).toNat) (0 : UInt8)).toNat : Int) ≠ 0))) (bf q168 (by kernel_rfl)) (by kernel_rfl)) ?_
    refine wpList_nil ?_
    refine then_n ?_
    by_cases q176 : ((x134.getD ((x132).toNat) (0 : UInt8)).toNat : Int) ≠ 0
    · replace M := ifp q176 M
      refine cond_t rfl (bt q176 (by kernel_rfl)) ?_
      refine wp_exit ?_
      refine then_e ?_
      refine inb_hit ?_
      refine then_n ?_
      refine wp_region_lit ?_
      refine lv (d := 178) rfl rfl (by kernel_rfl) (e_add (k := .i64) (a := x132) (b := 1) (by exact e140) rfl) ?_
      refine lv (d := 100) rfl rfl (by kernel_rfl) (e_move (v := .int .i64 (IntKind.i64.wrap (x132 + 1))) (by kernel_rfl)) ?_
      refine wpList_nil ?_
      refine then_n ?_
      have S177 := S166.pull (F := (is g11)) (Fr := [(is g160), F133]) 2 rfl rfl
      have S178 := S177.pull (F := F133) (Fr := [(is g11), (is g160)]) 2 rfl rfl
      have S179 := St.first (Fa := [F133, (is g11)]) (Fr := [(is g160)]) S178
      exact ⟨k146, (by omega), _, (IntKind.i64.wrap (x132 + 1)), F133, x134, (by omega), rfl, (by exact e136), (by exact e137), (by exact e138), (by exact e139), (by kernel_rfl), h127, b12, n135, S179, M⟩
    replace M := ifn q176 M
    refine cond_f rfl (bf q176 (by kernel_rfl)) ?_
    refine wp_skip ?_
    refine then_n ?_
    refine wp_seq ?_
    refine wp_region_lit ?_
    refine lv (d := 115) rfl rfl (by kernel_rfl) (e_move (v := .int .i64 x132) (by kernel_rfl)) ?_
    refine lv (d := 116) rfl rfl (by kernel_rfl) (show _ = Result.ok (Next.value (.agg #[.int .i64 x132, .int .i64 0])) w164 from by kernel_rfl) ?_
    refine lve (d := 117) rfl rfl (by kernel_rfl) (new_blk (v := fun g_ => .slice (some ⟨g_, 0, none⟩) 1 1) (cs := #[.int .i64 x132, .int .i64 0]) (t := 86) S166 (by kernel_rfl)) ?_
    rintro _ w180 ⟨g181, rfl, b182, S183, K184⟩
    replace b165 := K184.blk 0 rfl b165
    replace h127 := h127.move (K184.at 1 rfl)
    replace b12 := K184.blk 2 rfl b12
    have S185 := S183.unit
    have S186 := S185.pull (F := (is g181)) (Fr := [no, (is g160), F133, (is g11)]) 1 rfl rfl
    obtain ⟨h187, S188⟩ := row_lit (d := st86) (xs := [(⟨x132, 0⟩ : GStep)]) S186 b182 rfl (elsO_one1 (st86_mkO (x := (⟨x132, 0⟩ : GStep)))) (Nat.le_of_ble_eq_true rfl)
    refine lv (d := 12) rfl rfl (by kernel_rfl) (e_assign (v := .slice (some ⟨g181, 0, none⟩) 1 1) (by kernel_rfl)) ?_
    refine wpList_nil ?_
    refine then_n ?_
    refine wp_seq ?_
    refine wp_region_lit ?_
    refine lv (d := 118) rfl rfl (by kernel_rfl) (e_move (v := .slice A124 (((x1.cells.length : Int)).toNat) c125) (by exact e136)) ?_
    refine lv (d := 119) rfl rfl (by kernel_rfl) (e_move (v := .int .i64 x132) (by kernel_rfl)) ?_
    obtain ⟨b189, e191⟩ := Row.addr h127 (show (x132).toNat < x134.length by have : x134.length = ((x1.cells.length : Int)).toNat := n135; omega)
    refine lv (d := 120) rfl rfl (by kernel_rfl) (e_indexAddr (b := b189) (off := 0) (n := ((x1.cells.length : Int)).toNat) (c := c125) (sz := 1) (i := x132) (k := .i64) Try.underlying26 e191 (by kernel_rfl) (by kernel_rfl) (by kernel_rfl) q148 q172) ?_
    have S192 := S188.pull (F := F133) (Fr := [(or2 (is g181) no), (is g160), (is g11)]) 2 rfl rfl
    have S193 := S192.unit
    have S194 := S193.pull (F := F133) (Fr := [no, (or2 (is g181) no), (is g160), (is g11)]) 1 rfl rfl
    refine lse rfl rfl (by kernel_rfl) (e_setel (d := tByte) (b := b189) (i := (x132).toNat) (v := .int .u8 1) (vs := [.int .u8 1]) (yv := (1 : UInt8)) S194 (by kernel_rfl) e191 rfl rfl (by kernel_rfl) h127 (show (x132).toNat < x134.length by have : x134.length = ((x1.cells.length : Int)).toNat := n135; omega) rfl) ?_
    rintro w195 ⟨F197, h196, S198, K199⟩
    replace h187 := h187.move (K199.at 0 rfl)
    replace b165 := K199.blk 1 rfl b165
    replace b12 := K199.blk 2 rfl b12
    clear h127
    refine wpList_nil ?_
    refine then_n ?_
    refine wp_block ?_
    have S227 := S198.pull (F := (or2 (is g181) no)) (Fr := [F197, (is g160), (is g11)]) 1 rfl rfl
    have S228 := S227.pull (F := (is g11)) (Fr := [(or2 (is g181) no), F197, (is g160)]) 3 rfl rfl
    have S229 := S228.pull (F := F197) (Fr := [(is g11), (or2 (is g181) no), (is g160)]) 2 rfl rfl
    have S230 := St.first (Fa := [F197, (is g11), (or2 (is g181) no)]) (Fr := [(is g160)]) S229
    refine wp_loop_g (fun k224 a225 w200 => ∃ (f201 : Nat → Value) (x202 : List GStep) (A203 : Option Addr) (c204 : Nat) (F205 : Foot) (F207 : Foot) (x208 : List UInt8), k224 ≤ k146 ∧ a225 = mk 179 f201 ∧ f201 8 = .slice A124 (((x1.cells.length : Int)).toNat) c125 ∧ f201 9 = .func (.func 66) #[] #[.pointer (some ⟨g11, 0, none⟩)] ∧ f201 12 = .slice A203 x202.length c204 ∧ f201 98 = .slice A2 x1.cells.length c3 ∧ f201 99 = .int .i64 (x1.cells.length : Int) ∧ f201 100 = .int .i64 x132 ∧ f201 109 = .slice A124 (((x1.cells.length : Int)).toNat) c125 ∧ f201 110 = .int .i64 x132 ∧ f201 111 = .pointer (some ⟨b173, 0 + (x132 : Int).toNat * 1, none⟩) ∧ f201 112 = .int .u8 ((x134.getD ((x132).toNat) (0 : UInt8)).toNat : Int) ∧ f201 113 = .bool (decide (((x134.getD ((x132).toNat) (0 : UInt8)).toNat : Int) ≠ 0)) ∧ Row tByte 5 H (hp w200) F207 A124 c125 x208 ∧ w200.heap[g11]? = some (.cells #[.slice A2 x1.cells.length c3, .slice A6 x1.trail.length c7] 34 (0, 0)) ∧ Row st86 86 H (hp w200) F205 A203 c204 x202 ∧ x208.length = ((x1.cells.length : Int)).toNat ∧ St (anyOf []) H w [F207, (is g11), F205] H w200 ∧ impl_Store_ok.l4 k224 x1 x132 x202 x208 = some r) k146 ⟨_, [(⟨x132, 0⟩ : GStep)], (some ⟨g181, 0, none⟩), 1, (or2 (is g181) no), F197, (x134.set ((x132).toNat) (1 : UInt8)), (by omega), rfl, (by exact e136), (by exact e137), (by kernel_rfl), (by exact e138), (by exact e139), (by exact e140), (by kernel_rfl), (by kernel_rfl), (by kernel_rfl), (by kernel_rfl), (by kernel_rfl), h196, b12, h187, (List.length_set.trans n135), S230, M⟩ ?_
    clear M
    rintro k224 a225 w200 ⟨f201, x202, A203, c204, F205, F207, x208, z223, rfl, e210, e211, e212, e213, e214, e215, e216, e217, e218, e219, e220, h196, b12, h206, n209, S221, M⟩
    rcases k224 with _ | k226
    · rw [impl_Store_ok.l4] at M
      cases M
    rw [impl_Store_ok.l4] at M
    refine wp_seq ?_
    refine wp_seq ?_
    refine wp_region_lit ?_
    refine lv (d := 121) rfl rfl (by kernel_rfl) (e_move (v := .slice A203 x202.length c204) (by exact e212)) ?_
    refine lv (d := 122) rfl rfl (by kernel_rfl) (e_len (A := A203) (n := x202.length) (c := c204) Try.underlying87 (by kernel_rfl)) ?_
    refine lv (d := 123) rfl rfl (by kernel_rfl) (e_gtr (k := .i64) (a := (x202.length : Int)) (b := 0) (by kernel_rfl) rfl) ?_
    refine wpList_nil ?_
    refine then_n ?_
    by_cases q231 : (x202.length : Int) > 0
    · replace M := ifp q231 M
      refine cond_t rfl (bt q231 (by kernel_rfl)) ?_
      refine wp_skip ?_
      refine then_n ?_
      refine wp_block ?_
      refine wp_seq ?_
      refine wp_region_lit ?_
      refine lv (d := 124) rfl rfl (by kernel_rfl) (e_move (v := .slice A203 x202.length c204) (by exact e212)) ?_
      refine lv (d := 125) rfl rfl (by kernel_rfl) (e_move (v := .slice A203 x202.length c204) (by exact e212)) ?_
      refine lv (d := 126) rfl rfl (by kernel_rfl) (e_len (A := A203) (n := x202.length) (c := c204) Try.underlying87 (by kernel_rfl)) ?_
      refine lv (d := 127) rfl rfl (by kernel_rfl) (e_sub (k := .i64) (a := (x202.length : Int)) (b := 1) (by kernel_rfl) rfl) ?_
      obtain ⟨q232, M⟩ := chk M
      obtain ⟨q233, M⟩ := chk M
      obtain ⟨b234, e236⟩ := Row.addr h206 (show ((IntKind.i64.wrap ((x202.length : Int) - 1))).toNat < x202.length by omega)
      refine lv (d := 128) rfl rfl (by kernel_rfl) (e_indexAddr (b := b234) (off := 0) (n := x202.length) (c := c204) (sz := 2) (i := (IntKind.i64.wrap ((x202.length : Int) - 1))) (k := .i64) Try.underlying87 e236 (by kernel_rfl) (by kernel_rfl) (by kernel_rfl) q232 q233) ?_
      refine lv (d := 13) rfl rfl (by kernel_rfl) (e_assign (v := .pointer (some ⟨b234, 0 + ((IntKind.i64.wrap ((x202.length : Int) - 1)) : Int).toNat * 2, none⟩)) (by kernel_rfl)) ?_
      refine wpList_nil ?_
      refine then_n ?_
      refine wp_seq ?_
      refine region_mix (S := (fun (L_ : Array Bool) (w_ : World) => Ext H (hp w_) ∧ (∀ b_, F205 b_ → hp w_ b_ = hp w200 b_))) (by kernel_rfl) S221 ?_
      intro w237 S238 K239 hc240
      have o241 := h206
      have hs242 : (fun (L_ : Array Bool) (w_ : World) => Ext H (hp w_) ∧ (∀ b_, F205 b_ → hp w_ b_ = hp w200 b_)) (Array.replicate 15 false) w237 := ⟨S238.inv, (fun b_ h_ => K239.at 2 rfl b_ h_)⟩
      replace h196 := h196.move (K239.at 0 rfl)
      replace b12 := K239.blk 1 rfl b12
      replace h206 := h206.move (K239.at 2 rfl)
      refine xv (i := 0) (d := 130) rfl rfl rfl (by kernel_rfl) (by kernel_rfl) (fun _ _ => Iff.rfl) hc240 hs242 (fun L_ w_ hc_ hu_ hs_ => e_move (v := .func (.func 66) #[] #[.pointer (some ⟨g11, 0, none⟩)]) (by exact e211)) ?_; intro hc243 hs244
      refine xv (i := 1) (d := 131) rfl rfl rfl (by kernel_rfl) (by kernel_rfl) (fun _ _ => Iff.rfl) hc243 hs244 (fun L_ w_ hc_ hu_ hs_ => e_move (v := .pointer (some ⟨b234, 0 + ((IntKind.i64.wrap ((x202.length : Int) - 1)) : Int).toNat * 2, none⟩)) (by kernel_rfl)) ?_; intro hc245 hs246
      refine xv (i := 2) (d := 132) rfl rfl rfl (by kernel_rfl) (by kernel_rfl) (fun _ _ => Iff.rfl) hc245 hs246 (fun L_ w_ hc_ hu_ hs_ => e_nilCheck (ad := ⟨b234, 0 + ((IntKind.i64.wrap ((x202.length : Int) - 1)) : Int).toNat * 2, none⟩) (by kernel_rfl)) ?_; intro hc247 hs248
      refine xv (i := 3) (d := 133) rfl rfl rfl (by kernel_rfl) (by kernel_rfl) (fun _ _ => Iff.rfl) hc247 hs248 (fun L_ w_ hc_ hu_ hs_ => e_fieldAddr (b := b234) (off := 0 + ((IntKind.i64.wrap ((x202.length : Int) - 1)) : Int).toNat * 2) (o := 0) Try.underlying86 rfl rfl (sz := 1) (by kernel_rfl) (by decide) (by kernel_rfl)) ?_; intro hc249 hs250
      refine xv (i := 4) (d := 134) rfl rfl rfl (by kernel_rfl) (by kernel_rfl) (fun _ _ => Iff.rfl) hc249 hs250 (fun L_ w_ hc_ hu_ hs_ => e_load1 (ad := ⟨b234, 0 + ((IntKind.i64.wrap ((x202.length : Int) - 1)) : Int).toNat * 2 + 0, none⟩) (v := .int .i64 ((x202.getD (((IntKind.i64.wrap ((x202.length : Int) - 1))).toNat) z86).at_)) Try.underlying3 rfl (by kernel_rfl) (hpx (Row.pick (j := 0) (u := .int .i64 ((x202.getD (((IntKind.i64.wrap ((x202.length : Int) - 1))).toNat) z86).at_)) (o241.move hs_.2) e236 (getD_some z86 (show ((IntKind.i64.wrap ((x202.length : Int) - 1))).toNat < x202.length by omega)) (fun _ _ o_ => st86_c0 o_)))) ?_; intro hc251 hs252
      refine xone (i := 5) (by kernel_rfl) hc251 ?_
      refine yo (i := 5) (d := 135) rfl rfl (wanted_none rfl _) (by kernel_rfl) (by kernel_rfl) (fun _ _ => Iff.rfl) hs252 (e_move (v := .pointer (some ⟨b234, 0 + ((IntKind.i64.wrap ((x202.length : Int) - 1)) : Int).toNat * 2, none⟩)) (by kernel_rfl)) ?_; intro hc253 hs254
      refine xone (i := 6) (by kernel_rfl) hc253 ?_
      refine yo (i := 6) (d := 136) rfl rfl (wanted_none rfl _) (by kernel_rfl) (by kernel_rfl) (fun _ _ => Iff.rfl) hs254 (e_nilCheck (ad := ⟨b234, 0 + ((IntKind.i64.wrap ((x202.length : Int) - 1)) : Int).toNat * 2, none⟩) (by kernel_rfl)) ?_; intro hc255 hs256
      refine xone (i := 7) (by kernel_rfl) hc255 ?_
      refine yo (i := 7) (d := 137) rfl rfl (wanted_none rfl _) (by kernel_rfl) (by kernel_rfl) (fun _ _ => Iff.rfl) hs256 (e_fieldAddr (b := b234) (off := 0 + ((IntKind.i64.wrap ((x202.length : Int) - 1)) : Int).toNat * 2) (o := 1) Try.underlying86 rfl rfl (sz := 1) (by kernel_rfl) (by decide) (by kernel_rfl)) ?_; intro hc257 hs258
      refine xone (i := 8) (by kernel_rfl) hc257 ?_
      refine yo (i := 8) (d := 138) rfl rfl (wanted_none rfl _) (by kernel_rfl) (by kernel_rfl) (fun _ _ => Iff.rfl) hs258 (e_load1 (ad := ⟨b234, 0 + ((IntKind.i64.wrap ((x202.length : Int) - 1)) : Int).toNat * 2 + 1, none⟩) (v := .int .i64 ((x202.getD (((IntKind.i64.wrap ((x202.length : Int) - 1))).toNat) z86).next_)) Try.underlying3 rfl (by kernel_rfl) (hpx (Row.pick (j := 1) (u := .int .i64 ((x202.getD (((IntKind.i64.wrap ((x202.length : Int) - 1))).toNat) z86).next_)) h206 e236 (getD_some z86 (show ((IntKind.i64.wrap ((x202.length : Int) - 1))).toNat < x202.length by omega)) (fun _ _ o_ => st86_c1 o_)))) ?_; intro hc259 hs260
      obtain ⟨t261, u262, M⟩ := bnd M
      refine xone (i := 9) (by kernel_rfl) hc259 ?_
      refine yc (i := 9) rfl (wanted_none rfl _) (by kernel_rfl) (by kernel_rfl) (e_callv (l := [.tmp 134, .tmp 138]) (vs := [.int .i64 ((x202.getD (((IntKind.i64.wrap ((x202.length : Int) - 1))).toNat) z86).at_), .int .i64 ((x202.getD (((IntKind.i64.wrap ((x202.length : Int) - 1))).toNat) z86).next_)]) (cs := [.pointer (some ⟨g11, 0, none⟩)]) Try.func66 (by kernel_rfl) rfl (by kernel_rfl) (by kernel_rfl)) (by have S263 := S238.pull (F := (is g11)) (Fr := [F207, F205]) 1 rfl rfl; obtain ⟨H264, S265, E266, h267, z268⟩ := S263.frzBlk b12; replace h196 := h196.ext E266; replace h206 := h206.ext E266; exact (impl_Store_ok_c1.calls w237 H264 ((x202.getD (((IntKind.i64.wrap ((x202.length : Int) - 1))).toNat) z86).at_) ((x202.getD (((IntKind.i64.wrap ((x202.length : Int) - 1))).toNat) z86).next_) x1 g11 A2 c3 A6 c7 (h4.ext E266) l5 (h8.ext E266) l9 h267 S265.own0 t261 u262)) ?_
      rintro hc271 _ w269 ⟨rfl, C270⟩
      refine ⟨_, rfl, ?_⟩
      obtain ⟨S272, K273⟩ := S238.still C270
      replace h196 := h196.move (K273.at 0 rfl)
      replace b12 := K273.blk 1 rfl b12
      replace h206 := h206.move (K273.at 2 rfl)
      refine ⟨⟨S272.inv, (fun b_ h_ => (K273.at 2 rfl b_ h_).trans (hs260.2 b_ h_))⟩, fun hs274 => ?_⟩
      refine xone (i := 10) (by kernel_rfl) hc271 ?_
      refine yo (i := 10) (d := 129) rfl rfl (wanted_none rfl _) (by kernel_rfl) (by kernel_rfl) (fun _ _ => Iff.rfl) hs274 (e_move (v := .tuple #[.int .i64 t261.1, .bool t261.2]) (by kernel_rfl)) ?_; intro hc275 hs276
      refine xv (i := 11) (d := 140) rfl rfl rfl (by kernel_rfl) (by kernel_rfl) (fun _ _ => Iff.rfl) hc275 hs276 (fun L_ w_ hc_ hu_ hs_ => e_extract (vs := #[.int .i64 t261.1, .bool t261.2]) (v := .int .i64 t261.1) (by kernel_rfl) rfl) ?_; intro hc277 hs278
      refine xv (i := 12) (d := 141) rfl rfl rfl (by kernel_rfl) (by kernel_rfl) (fun _ _ => Iff.rfl) hc277 hs278 (fun L_ w_ hc_ hu_ hs_ => e_extract (vs := #[.int .i64 t261.1, .bool t261.2]) (v := .bool t261.2) (by kernel_rfl) rfl) ?_; intro hc279 hs280
      refine xone (i := 13) (by kernel_rfl) hc279 ?_
      refine yo (i := 13) (d := 14) rfl rfl (wanted_none rfl _) (by kernel_rfl) (by kernel_rfl) (fun _ _ => Iff.rfl) hs280 (e_assign (v := .int .i64 t261.1) (by kernel_rfl)) ?_; intro hc281 hs282
      refine xone (i := 14) (by kernel_rfl) hc281 ?_
      refine yo (i := 14) (d := 15) rfl rfl (wanted_none rfl _) (by kernel_rfl) (by kernel_rfl) (fun _ _ => Iff.rfl) hs282 (e_assign (v := .bool t261.2) (by kernel_rfl)) ?_; intro hc283 hs284
      refine xn (by kernel_rfl) ?_ _
      refine then_n ?_
      refine wp_seq ?_
      refine wp_seq ?_
      refine wp_region_lit ?_
      refine lv (d := 142) rfl rfl (by kernel_rfl) (e_move (v := .bool t261.2) (by kernel_rfl)) ?_
      refine lv (d := 143) rfl rfl (by kernel_rfl) (e_notv (c := t261.2) (by kernel_rfl)) ?_
      refine wpList_nil ?_
      refine then_n ?_
      by_cases q285 : ¬ (t261.2 = true)
      · replace M := ifp q285 M
        refine cond_t rfl (bt q285 (by kernel_rfl)) ?_
        refine wp_seq ?_
        refine wp_region_lit ?_
        refine lv (d := 144) rfl rfl (by kernel_rfl) (e_move (v := .slice A124 (((x1.cells.length : Int)).toNat) c125) (by exact e210)) ?_
        refine lv (d := 145) rfl rfl (by kernel_rfl) (e_move (v := .pointer (some ⟨b234, 0 + ((IntKind.i64.wrap ((x202.length : Int) - 1)) : Int).toNat * 2, none⟩)) (by kernel_rfl)) ?_
        refine lv (d := 146) rfl rfl (by kernel_rfl) (e_nilCheck (ad := ⟨b234, 0 + ((IntKind.i64.wrap ((x202.length : Int) - 1)) : Int).toNat * 2, none⟩) (by kernel_rfl)) ?_
        refine lv (d := 147) rfl rfl (by kernel_rfl) (e_fieldAddr (b := b234) (off := 0 + ((IntKind.i64.wrap ((x202.length : Int) - 1)) : Int).toNat * 2) (o := 0) Try.underlying86 rfl rfl (sz := 1) (by kernel_rfl) (by decide) (by kernel_rfl)) ?_
        refine lv (d := 148) rfl rfl (by kernel_rfl) (e_load1 (ad := ⟨b234, 0 + ((IntKind.i64.wrap ((x202.length : Int) - 1)) : Int).toNat * 2 + 0, none⟩) (v := .int .i64 ((x202.getD (((IntKind.i64.wrap ((x202.length : Int) - 1))).toNat) z86).at_)) Try.underlying3 rfl (by kernel_rfl) (hpx (Row.pick (j := 0) (u := .int .i64 ((x202.getD (((IntKind.i64.wrap ((x202.length : Int) - 1))).toNat) z86).at_)) h206 e236 (getD_some z86 (show ((IntKind.i64.wrap ((x202.length : Int) - 1))).toNat < x202.length by omega)) (fun _ _ o_ => st86_c0 o_)))) ?_
        obtain ⟨q286, M⟩ := chk M
        obtain ⟨q287, M⟩ := chk M
        obtain ⟨b288, e290⟩ := Row.addr h196 (show ((x202.getD (((IntKind.i64.wrap ((x202.length : Int) - 1))).toNat) z86).at_).toNat < x208.length by have : x208.length = ((x1.cells.length : Int)).toNat := n209; omega)
        refine lv (d := 149) rfl rfl (by kernel_rfl) (e_indexAddr (b := b288) (off := 0) (n := ((x1.cells.length : Int)).toNat) (c := c125) (sz := 1) (i := (x202.getD (((IntKind.i64.wrap ((x202.length : Int) - 1))).toNat) z86).at_) (k := .i64) Try.underlying26 e290 (by kernel_rfl) (by kernel_rfl) (by kernel_rfl) q286 q287) ?_
        have S291 := S272.unit
        have S292 := S291.pull (F := F207) (Fr := [no, (is g11), F205]) 1 rfl rfl
        refine lse rfl rfl (by kernel_rfl) (e_setel (d := tByte) (b := b288) (i := ((x202.getD (((IntKind.i64.wrap ((x202.length : Int) - 1))).toNat) z86).at_).toNat) (v := .int .u8 2) (vs := [.int .u8 2]) (yv := (2 : UInt8)) S292 (by kernel_rfl) e290 rfl rfl (by kernel_rfl) h196 (show ((x202.getD (((IntKind.i64.wrap ((x202.length : Int) - 1))).toNat) z86).at_).toNat < x208.length by have : x208.length = ((x1.cells.length : Int)).toNat := n209; omega) rfl) ?_
        rintro w293 ⟨F295, h294, S296, K297⟩
        replace b12 := K297.blk 0 rfl b12
        replace h206 := h206.move (K297.at 1 rfl)
        clear h196
        refine wpList_nil ?_
        refine then_n ?_
        refine wp_seq ?_
        refine wp_region_lit ?_
        refine lv (d := 150) rfl rfl (by kernel_rfl) (e_move (v := .slice A203 x202.length c204) (by exact e212)) ?_
        refine lv (d := 151) rfl rfl (by kernel_rfl) (e_move (v := .slice A203 x202.length c204) (by exact e212)) ?_
        refine lv (d := 152) rfl rfl (by kernel_rfl) (e_len (A := A203) (n := x202.length) (c := c204) Try.underlying87 (by kernel_rfl)) ?_
        refine lv (d := 153) rfl rfl (by kernel_rfl) (e_sub (k := .i64) (a := (x202.length : Int)) (b := 1) (by kernel_rfl) rfl) ?_
        obtain ⟨q298, M⟩ := chk M
        refine lv (d := 154) rfl rfl (by kernel_rfl) (e_slice_h (xs := x202) (n := x202.length) (m := 2) (cap := c204) (A := A203) (b := (IntKind.i64.wrap ((x202.length : Int) - 1))) (k2 := .i64) Try.underlying87 (by kernel_rfl) (by kernel_rfl) (by kernel_rfl) q232 q298 (by have := h206.le; have := (rfl : x202.length = x202.length); omega) (take_len q232 q298 rfl)) ?_
        have h299 := h206.cut (n := ((IntKind.i64.wrap ((x202.length : Int) - 1)) : Int).toNat) (by have := (rfl : x202.length = x202.length); omega)
        clear h206
        refine lv (d := 12) rfl rfl (by kernel_rfl) (e_assign (v := .slice A203 ((x202.take (((IntKind.i64.wrap ((x202.length : Int) - 1)) : Int).toNat)).length) c204) (by kernel_rfl)) ?_
        refine wpList_nil ?_
        refine then_n ?_
        refine wp_exit ?_
        refine then_e ?_
        refine inb_hit ?_
        refine then_n ?_
        exact ⟨k226, (by omega), _, (x202.take (((IntKind.i64.wrap ((x202.length : Int) - 1)) : Int).toNat)), A203, c204, F205, F295, (x208.set (((x202.getD (((IntKind.i64.wrap ((x202.length : Int) - 1))).toNat) z86).at_).toNat) (2 : UInt8)), (by omega), rfl, (by exact e210), (by exact e211), (by kernel_rfl), (by exact e213), (by exact e214), (by exact e215), (by exact e216), (by exact e217), (by exact e218), (by exact e219), (by exact e220), h294, b12, h299, (List.length_set.trans n209), S296, M⟩
      replace M := ifn q285 M
      refine cond_f rfl (bf q285 (by kernel_rfl)) ?_
      refine wp_skip ?_
      refine then_n ?_
      refine wp_seq ?_
      refine wp_region_lit ?_
      refine lv (d := 155) rfl rfl (by kernel_rfl) (e_move (v := .pointer (some ⟨b234, 0 + ((IntKind.i64.wrap ((x202.length : Int) - 1)) : Int).toNat * 2, none⟩)) (by kernel_rfl)) ?_
      refine lv (d := 156) rfl rfl (by kernel_rfl) (e_nilCheck (ad := ⟨b234, 0 + ((IntKind.i64.wrap ((x202.length : Int) - 1)) : Int).toNat * 2, none⟩) (by kernel_rfl)) ?_
      refine lv (d := 157) rfl rfl (by kernel_rfl) (e_fieldAddr (b := b234) (off := 0 + ((IntKind.i64.wrap ((x202.length : Int) - 1)) : Int).toNat * 2) (o := 1) Try.underlying86 rfl rfl (sz := 1) (by kernel_rfl) (by decide) (by kernel_rfl)) ?_
      refine lv (d := 158) rfl rfl (by kernel_rfl) (e_load1 (ad := ⟨b234, 0 + ((IntKind.i64.wrap ((x202.length : Int) - 1)) : Int).toNat * 2 + 1, none⟩) (v := .int .i64 ((x202.getD (((IntKind.i64.wrap ((x202.length : Int) - 1))).toNat) z86).next_)) Try.underlying3 rfl (by kernel_rfl) (hpx (Row.pick (j := 1) (u := .int .i64 ((x202.getD (((IntKind.i64.wrap ((x202.length : Int) - 1))).toNat) z86).next_)) h206 e236 (getD_some z86 (show ((IntKind.i64.wrap ((x202.length : Int) - 1))).toNat < x202.length by omega)) (fun _ _ o_ => st86_c1 o_)))) ?_
      refine lv (d := 159) rfl rfl (by kernel_rfl) (e_add (k := .i64) (a := (x202.getD (((IntKind.i64.wrap ((x202.length : Int) - 1))).toNat) z86).next_) (b := 1) (by kernel_rfl) rfl) ?_
      refine lv (d := 160) rfl rfl (by kernel_rfl) (e_nilCheck (ad := ⟨b234, 0 + ((IntKind.i64.wrap ((x202.length : Int) - 1)) : Int).toNat * 2, none⟩) (by kernel_rfl)) ?_
      refine lv (d := 161) rfl rfl (by kernel_rfl) (e_fieldAddr (b := b234) (off := 0 + ((IntKind.i64.wrap ((x202.length : Int) - 1)) : Int).toNat * 2) (o := 1) Try.underlying86 rfl rfl (sz := 1) (by kernel_rfl) (by decide) (by kernel_rfl)) ?_
      have S300 := S272.pull (F := F205) (Fr := [F207, (is g11)]) 2 rfl rfl
      have S301 := S300.unit
      have S302 := S301.pull (F := F205) (Fr := [no, F207, (is g11)]) 1 rfl rfl
      refine lse rfl rfl (by kernel_rfl) (e_setpart (d := st86) (b := b234) (i := ((IntKind.i64.wrap ((x202.length : Int) - 1))).toNat) (j := 1) (v := .int .i64 (IntKind.i64.wrap (((x202.getD (((IntKind.i64.wrap ((x202.length : Int) - 1))).toNat) z86).next_) + 1))) (vs := [.int .i64 (IntKind.i64.wrap (((x202.getD (((IntKind.i64.wrap ((x202.length : Int) - 1))).toNat) z86).next_) + 1))]) (yv := {(x202.getD (((IntKind.i64.wrap ((x202.length : Int) - 1))).toNat) z86) with next_ := (IntKind.i64.wrap (((x202.getD (((IntKind.i64.wrap ((x202.length : Int) - 1))).toNat) z86).next_) + 1))}) S302 (by kernel_rfl) e236 (by kernel_rfl) rfl (by kernel_rfl) h206 (getD_some z86 (show ((IntKind.i64.wrap ((x202.length : Int) - 1))).toNat < x202.length by omega)) (Nat.le_of_ble_eq_true rfl) (List.forall_mem_cons.2 ⟨rfl, (fun _ h_ => by cases h_)⟩) (fun _ _ _ o_ => st86_u1 (IntKind.i64.wrap (((x202.getD (((IntKind.i64.wrap ((x202.length : Int) - 1))).toNat) z86).next_) + 1)) o_)) ?_
      rintro w303 ⟨F305, h304, S306, K307⟩
      replace h196 := h196.move (K307.at 0 rfl)
      replace b12 := K307.blk 1 rfl b12
      clear h206
      refine wpList_nil ?_
      refine then_n ?_
      refine wp_seq ?_
      refine wp_region_lit ?_
      refine lv (d := 162) rfl rfl (by kernel_rfl) (e_move (v := .slice A124 (((x1.cells.length : Int)).toNat) c125) (by exact e210)) ?_
      refine lv (d := 163) rfl rfl (by kernel_rfl) (e_move (v := .int .i64 t261.1) (by kernel_rfl)) ?_
      obtain ⟨q308, M⟩ := chk M
      obtain ⟨q309, M⟩ := chk M
      obtain ⟨b310, e312⟩ := Row.addr h196 (show (t261.1).toNat < x208.length by have : x208.length = ((x1.cells.length : Int)).toNat := n209; omega)
      refine lv (d := 164) rfl rfl (by kernel_rfl) (e_indexAddr (b := b310) (off := 0) (n := ((x1.cells.length : Int)).toNat) (c := c125) (sz := 1) (i := t261.1) (k := .i64) Try.underlying26 e312 (by kernel_rfl) (by kernel_rfl) (by kernel_rfl) q308 q309) ?_
      refine lv (d := 165) rfl rfl (by kernel_rfl) (e_load1 (ad := ⟨b310, 0 + (t261.1 : Int).toNat * 1, none⟩) (v := .int .u8 ((x208.getD ((t261.1).toNat) (0 : UInt8)).toNat : Int)) Try.underlying5 rfl (by kernel_rfl) (hpx (Row.pick (j := 0) (u := .int .u8 ((x208.getD ((t261.1).toNat) (0 : UInt8)).toNat : Int)) h196 e312 (getD_some (0 : UInt8) (show (t261.1).toNat < x208.length by have : x208.length = ((x1.cells.length : Int)).toNat := n209; omega)) (fun _ _ o_ => by rw [show _ = _ from o_]; rfl)))) ?_
      refine wpList_nil ?_
      refine then_n ?_
      refine wp_block ?_
      refine wp_seq ?_
      refine wp_region_lit ?_
      refine lv (d := 167) rfl rfl (by kernel_rfl) (e_eql (k := .u8) (a := ((x208.getD ((t261.1).toNat) (0 : UInt8)).toNat : Int)) (b := 0) (by kernel_rfl) rfl) ?_
      refine lv (d := 166) rfl rfl (by kernel_rfl) (e_assign (v := .bool (decide (((x208.getD ((t261.1).toNat) (0 : UInt8)).toNat : Int) = 0))) (by kernel_rfl)) ?_
      refine wpList_nil ?_
      refine then_n ?_
      by_cases q313 : ((x208.getD ((t261.1).toNat) (0 : UInt8)).toNat : Int) = 0
      · replace M := ifp q313 M
        refine cond_t rfl (bt q313 (by kernel_rfl)) ?_
        refine wp_seq ?_
        refine wp_region_lit ?_
        refine lv (d := 168) rfl rfl (by kernel_rfl) (e_move (v := .slice A124 (((x1.cells.length : Int)).toNat) c125) (by exact e210)) ?_
        refine lv (d := 169) rfl rfl (by kernel_rfl) (e_move (v := .int .i64 t261.1) (by kernel_rfl)) ?_
        obtain ⟨b314, e316⟩ := Row.addr h196 (show (t261.1).toNat < x208.length by have : x208.length = ((x1.cells.length : Int)).toNat := n209; omega)
        refine lv (d := 170) rfl rfl (by kernel_rfl) (e_indexAddr (b := b314) (off := 0) (n := ((x1.cells.length : Int)).toNat) (c := c125) (sz := 1) (i := t261.1) (k := .i64) Try.underlying26 e316 (by kernel_rfl) (by kernel_rfl) (by kernel_rfl) q308 q309) ?_
        have S317 := S306.pull (F := F207) (Fr := [F305, (is g11)]) 1 rfl rfl
        have S318 := S317.unit
        have S319 := S318.pull (F := F207) (Fr := [no, F305, (is g11)]) 1 rfl rfl
        refine lse rfl rfl (by kernel_rfl) (e_setel (d := tByte) (b := b314) (i := (t261.1).toNat) (v := .int .u8 1) (vs := [.int .u8 1]) (yv := (1 : UInt8)) S319 (by kernel_rfl) e316 rfl rfl (by kernel_rfl) h196 (show (t261.1).toNat < x208.length by have : x208.length = ((x1.cells.length : Int)).toNat := n209; omega) rfl) ?_
        rintro w320 ⟨F322, h321, S323, K324⟩
        replace h304 := h304.move (K324.at 0 rfl)
        replace b12 := K324.blk 1 rfl b12
        clear h196
        refine wpList_nil ?_
        refine then_n ?_
        refine wp_region_lit ?_
        refine lv (d := 171) rfl rfl (by kernel_rfl) (e_move (v := .slice A203 x202.length c204) (by exact e212)) ?_
        refine lv (d := 172) rfl rfl (by kernel_rfl) (e_move (v := .int .i64 t261.1) (by kernel_rfl)) ?_
        refine lv (d := 173) rfl rfl (by kernel_rfl) (show _ = Result.ok (Next.value (.agg #[.int .i64 t261.1, .int .i64 0])) w320 from by kernel_rfl) ?_
        refine lve (d := 174) rfl rfl (by kernel_rfl) (new_blk (v := fun g_ => .slice (some ⟨g_, 0, none⟩) 1 1) (cs := #[.int .i64 t261.1, .int .i64 0]) (t := 86) S323 (by kernel_rfl)) ?_
        rintro _ w325 ⟨g326, rfl, b327, S328, K329⟩
        replace h321 := h321.move (K329.at 0 rfl)
        replace h304 := h304.move (K329.at 1 rfl)
        replace b12 := K329.blk 2 rfl b12
        obtain ⟨q330, M⟩ := chk M
        have S331 := S328.pull (F := F305) (Fr := [(is g326), F322, (is g11)]) 2 rfl rfl
        have S332 := S331.unit
        have S333 := S332.pull (F := F305) (Fr := [no, (is g326), F322, (is g11)]) 1 rfl rfl
        refine lve (d := 175) rfl rfl (by kernel_rfl) (e_append (d := st86) (n := x202.length) (xs := (x202.set (((IntKind.i64.wrap ((x202.length : Int) - 1))).toNat) ({(x202.getD (((IntKind.i64.wrap ((x202.length : Int) - 1))).toNat) z86) with next_ := (IntKind.i64.wrap (((x202.getD (((IntKind.i64.wrap ((x202.length : Int) - 1))).toNat) z86).next_) + 1))}))) (cap := c204) (A := A203) (ys := [(⟨t261.1, 0⟩ : GStep)]) (A2 := (some ⟨g326, 0, none⟩)) (c2 := 1) (z := .agg #[.int .i64 0, .int .i64 0]) (bytes := 16) S333 Try.underlying87 (by kernel_rfl) rfl (by decide) (by kernel_rfl) (List.length_set.trans rfl) (by kernel_rfl) h304 (elsO_one1 (st86_mkO (x := (⟨t261.1, 0⟩ : GStep)))) (.inr (blk_news b327 rfl)) (show (x202.length + [(⟨t261.1, 0⟩ : GStep)].length) * 16 ≤ _ by first | omega | (simp only [List.length_cons, List.length_nil]; omega)) (by decide)) ?_
        rintro _ w334 ⟨A335, c336, F337, rfl, h338, S339, K340⟩
        replace b327 := K340.blk 0 rfl b327
        replace h321 := h321.move (K340.at 1 rfl)
        replace b12 := K340.blk 2 rfl b12
        refine lv (d := 12) rfl rfl (by kernel_rfl) (e_assign (v := .slice A335 (((x202.set (((IntKind.i64.wrap ((x202.length : Int) - 1))).toNat) ({(x202.getD (((IntKind.i64.wrap ((x202.length : Int) - 1))).toNat) z86) with next_ := (IntKind.i64.wrap (((x202.getD (((IntKind.i64.wrap ((x202.length : Int) - 1))).toNat) z86).next_) + 1))})) ++ [(⟨t261.1, 0⟩ : GStep)]).length) c336) (by kernel_rfl)) ?_
        refine wpList_nil ?_
        refine inb_n ?_
        refine inb_n ?_
        refine then_n ?_
        have S341 := S339.pull (F := (is g11)) (Fr := [F337, (is g326), F322]) 3 rfl rfl
        have S342 := S341.pull (F := F322) (Fr := [(is g11), F337, (is g326)]) 3 rfl rfl
        have S343 := St.first (Fa := [F322, (is g11), F337]) (Fr := [(is g326)]) S342
        exact ⟨k226, (by omega), _, ((x202.set (((IntKind.i64.wrap ((x202.length : Int) - 1))).toNat) ({(x202.getD (((IntKind.i64.wrap ((x202.length : Int) - 1))).toNat) z86) with next_ := (IntKind.i64.wrap (((x202.getD (((IntKind.i64.wrap ((x202.length : Int) - 1))).toNat) z86).next_) + 1))})) ++ [(⟨t261.1, 0⟩ : GStep)]), A335, c336, F337, F322, (x208.set ((t261.1).toNat) (1 : UInt8)), (by omega), rfl, (by exact e210), (by exact e211), (by kernel_rfl), (by exact e213), (by exact e214), (by exact e215), (by exact e216), (by exact e217), (by exact e218), (by exact e219), (by exact e220), h321, b12, h338, (List.length_set.trans n209), S343, M⟩
      replace M := ifn q313 M
      refine cond_f rfl (bf q313 (by kernel_rfl)) ?_
      refine wp_seq ?_
      refine wp_region_lit ?_
      refine lv (d := 177) rfl rfl (by kernel_rfl) (e_eql (k := .u8) (a := ((x208.getD ((t261.1).toNat) (0 : UInt8)).toNat : Int)) (b := 1) (by kernel_rfl) rfl) ?_
      refine lv (d := 176) rfl rfl (by kernel_rfl) (e_assign (v := .bool (decide (((x208.getD ((t261.1).toNat) (0 : UInt8)).toNat : Int) = 1))) (by kernel_rfl)) ?_
      refine wpList_nil ?_
      refine then_n ?_
      by_cases q344 : ((x208.getD ((t261.1).toNat) (0 : UInt8)).toNat : Int) = 1
      · replace M := ifp q344 M
        refine cond_t rfl (bt q344 (by kernel_rfl)) ?_
        refine wp_seq ?_
        refine wp_region_lit ?_
        refine lv (d := 2) rfl rfl (by kernel_rfl) (e_assign (v := .bool false) rfl) ?_
        refine wpList_nil ?_
        refine then_n ?_
        refine wp_ret ?_
        refine inb_r ?_
        refine inb_r ?_
        refine then_r ?_
        refine inb_r ?_
        refine inb_r ?_
        refine then_r ?_
        refine then_r ?_
        refine inb_r ?_
        refine then_r ?_
        obtain rfl := Option.some.inj M
        exact ret1 rfl rfl  (show _ = .bool false from (by kernel_rfl)) ⟨rfl, S306.chg⟩
      replace M := ifn q344 M
      refine cond_f rfl (bf q344 (by kernel_rfl)) ?_
      refine wp_skip ?_
      refine inb_n ?_
      refine inb_n ?_
      refine then_n ?_
      have S345 := S306.pull (F := (is g11)) (Fr := [F305, F207]) 2 rfl rfl
      have S346 := S345.pull (F := F207) (Fr := [(is g11), F305]) 2 rfl rfl
      exact ⟨k226, (by omega), _, (x202.set (((IntKind.i64.wrap ((x202.length : Int) - 1))).toNat) ({(x202.getD (((IntKind.i64.wrap ((x202.length : Int) - 1))).toNat) z86) with next_ := (IntKind.i64.wrap (((x202.getD (((IntKind.i64.wrap ((x202.length : Int) - 1))).toNat) z86).next_) + 1))})), A203, c204, F305, F207, x208, (by omega), rfl, (by exact e210), (by exact e211), (by rw [(show (x202.set (((IntKind.i64.wrap ((x202.length : Int) - 1))).toNat) ({(x202.getD (((IntKind.i64.wrap ((x202.length : Int) - 1))).toNat) z86) with next_ := (IntKind.i64.wrap (((x202.getD (((IntKind.i64.wrap ((x202.length : Int) - 1))).toNat) z86).next_) + 1))})).length = x202.length from (List.length_set.trans rfl))]; exact (by exact e212)), (by exact e213), (by exact e214), (by exact e215), (by exact e216), (by exact e217), (by exact e218), (by exact e219), (by exact e220), h196, b12, h304, n209, S346, M⟩
    replace M := ifn q231 M
    refine cond_f rfl (bf q231 (by kernel_rfl)) ?_
    refine wp_exit ?_
    refine then_e ?_
    refine then_e ?_
    refine inb_hit ?_
    refine inb_n ?_
    refine then_n ?_
    refine wp_region_lit ?_
    refine lv (d := 178) rfl rfl (by kernel_rfl) (e_add (k := .i64) (a := x132) (b := 1) (by exact e215) rfl) ?_
    refine lv (d := 100) rfl rfl (by kernel_rfl) (e_move (v := .int .i64 (IntKind.i64.wrap (x132 + 1))) (by kernel_rfl)) ?_
    refine wpList_nil ?_
    refine then_n ?_
    have S347 := S221.pull (F := (is g11)) (Fr := [F207, F205]) 1 rfl rfl
    have S348 := S347.pull (F := F207) (Fr := [(is g11), F205]) 1 rfl rfl
    have S349 := St.first (Fa := [F207, (is g11)]) (Fr := [F205]) S348
    exact ⟨k226, (by omega), _, (IntKind.i64.wrap (x132 + 1)), F207, x208, (by omega), rfl, (by exact e210), (by exact e211), (by exact e213), (by exact e214), (by kernel_rfl), h196, b12, n209, S349, M⟩
  replace M := ifn q147 M
  refine cond_f rfl (bf q147 (by kernel_rfl)) ?_
  refine wp_exit ?_
  refine then_e ?_
  refine then_e ?_
  refine inb_hit ?_
  refine then_n ?_
  refine wp_seq ?_
  refine wp_region_lit ?_
  refine lv (d := 2) rfl rfl (by kernel_rfl) (e_assign (v := .bool true) rfl) ?_
  refine wpList_nil ?_
  refine then_n ?_
  refine wp_ret ?_
  obtain rfl := Option.some.inj M
  exact ret1 rfl rfl  (show _ = .bool true from (by kernel_rfl)) ⟨rfl, S141.chg⟩

/-! impl_ValidStore -/
def impl_ValidStore.f (k : Nat) (x1 : Store) (x10 : Cell) : Option Bool := ((impl_Store_ok.f k x1).bind fun t25 => (if t25 = true then ((impl_Store_points.f x1 x10).bind fun t32 => some t32) else some false))
theorem impl_ValidStore.calls (k : Nat) (w : World) (H : Hp) (x1 : Store) (A2 : Option Addr) (c3 : Nat) (A6 : Option Addr) (c7 : Nat) (x10 : Cell) (A11 : Option Addr) (c12 : Nat) (h4 : Rd st36 H A2 x1.cells) (l5 : x1.cells.length ≤ c3) (h8 : Rd tInt H A6 x1.trail) (l9 : x1.trail.length ≤ c7) (h13 : Rd tByte H A11 x10.text) (l14 : x10.text.length ≤ c12) (S : Own [] H w) (r : Bool) (M : impl_ValidStore.f k x1 x10 = some r) :
    Calls Try.prog 14 #[.agg #[.slice A2 x1.cells.length c3, .slice A6 x1.trail.length c7], .agg #[.int .i64 x10.kind, .int .i64 x10.n, .slice A11 x10.text.length c12]] w (fun e e_w => e = .returned (.bool r) ∧ Chg no w e_w) := by
  rw [impl_ValidStore.f] at M
  refine enter (l := [.agg #[.slice A2 x1.cells.length c3, .slice A6 x1.trail.length c7], .agg #[.int .i64 x10.kind, .int .i64 x10.n, .slice A11 x10.text.length c12]]) 12 Try.func14 rfl rfl rfl ?_
  have S0_ := S.st
  refine wp_seq ?_
  refine wp_region_lit ?_
  refine lve (d := 2) rfl rfl (by kernel_rfl) (new_blk (v := fun g_ => .pointer (some ⟨g_, 0, none⟩)) (cs := #[.slice A2 x1.cells.length c3, .slice A6 x1.trail.length c7]) (t := 34) S0_ (by kernel_rfl)) ?_
  rintro _ w15 ⟨g16, rfl, b17, S18, K19⟩
  refine lve (d := 3) rfl rfl (by kernel_rfl) (new_blk (v := fun g_ => .pointer (some ⟨g_, 0, none⟩)) (cs := #[.int .i64 x10.kind, .int .i64 x10.n, .slice A11 x10.text.length c12]) (t := 36) S18 (by kernel_rfl)) ?_
  rintro _ w20 ⟨g21, rfl, b22, S23, K24⟩
  replace b17 := K24.blk 0 rfl b17
  refine lv (d := 4) rfl rfl (by kernel_rfl) (e_assign (v := .bool false) rfl) ?_
  refine wpList_nil ?_
  refine then_n ?_
  refine wp_seq ?_
  refine wp_region_lit ?_
  refine lv (d := 5) rfl rfl (by kernel_rfl) (e_loadS (b := g16) (off := 0) (cs := [.slice A2 x1.cells.length c3, .slice A6 x1.trail.length c7]) Try.underlying34 rfl (by kernel_rfl) (by kernel_rfl) (blk_cells b17 rfl)) ?_
  obtain ⟨t25, u26, M⟩ := bnd M
  refine lcall (d := 6) rfl rfl (by kernel_rfl) (e_call (l := [.tmp 5]) (vs := [.agg #[.slice A2 x1.cells.length c3, .slice A6 x1.trail.length c7]]) Try.func42 (by kernel_rfl) rfl (by kernel_rfl) rfl) (impl_Store_ok.calls k w20 H x1 A2 c3 A6 c7 h4 l5 h8 l9 S23.own0 t25 u26) ?_
  rintro _ w27 ⟨rfl, C28⟩
  refine ⟨_, rfl, ?_⟩
  obtain ⟨S29, K30⟩ := S23.still C28
  replace b22 := K30.blk 0 rfl b22
  replace b17 := K30.blk 1 rfl b17
  refine lv (d := 7) rfl rfl (by kernel_rfl) (e_move (v := .bool t25) (by kernel_rfl)) ?_
  by_cases q31 : t25 = true
  · replace M := ifp q31 M
    refine lvg (d := 8) (t := 7) rfl (by kernel_rfl) rfl (bvt q31 (by kernel_rfl)) rfl (by kernel_rfl) (e_loadS (b := g16) (off := 0) (cs := [.slice A2 x1.cells.length c3, .slice A6 x1.trail.length c7]) Try.underlying34 rfl (by kernel_rfl) (by kernel_rfl) (blk_cells b17 rfl)) ?_
    refine lvg (d := 9) (t := 7) rfl (by kernel_rfl) rfl (bvt q31 (by kernel_rfl)) rfl (by kernel_rfl) (e_loadS (b := g21) (off := 0) (cs := [.int .i64 x10.kind, .int .i64 x10.n, .slice A11 x10.text.length c12]) Try.underlying36 rfl (by kernel_rfl) (by kernel_rfl) (blk_cells b22 rfl)) ?_
    obtain ⟨t32, u33, M⟩ := bnd M
    refine lcallg (d := 10) (t := 7) rfl (by kernel_rfl) rfl (bvt q31 (by kernel_rfl)) rfl (by kernel_rfl) (e_call (l := [.tmp 8, .tmp 9]) (vs := [.agg #[.slice A2 x1.cells.length c3, .slice A6 x1.trail.length c7], .agg #[.int .i64 x10.kind, .int .i64 x10.n, .slice A11 x10.text.length c12]]) Try.func43 (by kernel_rfl) rfl (by kernel_rfl) rfl) (impl_Store_points.calls w27 H x1 A2 c3 A6 c7 x10 A11 c12 h4 l5 h8 l9 h13 l14 S29.own0 t32 u33) ?_
    rintro _ w34 ⟨rfl, C35⟩
    refine ⟨_, rfl, ?_⟩
    obtain ⟨S36, K37⟩ := S29.still C35
    replace b22 := K37.blk 0 rfl b22
    replace b17 := K37.blk 1 rfl b17
    refine lv (d := 11) rfl rfl (by kernel_rfl) (e_pick_t (v := .bool t32) (bvt q31 (by kernel_rfl)) (by kernel_rfl)) ?_
    refine lv (d := 4) rfl rfl (by kernel_rfl) (e_assign (v := .bool t32) (by kernel_rfl)) ?_
    refine wpList_nil ?_
    refine then_n ?_
    refine wp_ret ?_
    obtain rfl := Option.some.inj M
    exact ret1 rfl rfl  (show _ = .bool t32 from (by kernel_rfl)) ⟨rfl, S36.chg⟩
  replace M := ifn q31 M
  refine lskip (t := 7) (c := false) rfl (by kernel_rfl) rfl (bvf q31 (by kernel_rfl)) rfl rfl ?_
  refine lskip (t := 7) (c := false) rfl (by kernel_rfl) rfl (bvf q31 (by kernel_rfl)) rfl rfl ?_
  refine lskip (t := 7) (c := false) rfl (by kernel_rfl) rfl (bvf q31 (by kernel_rfl)) rfl rfl ?_
  refine lv (d := 11) rfl rfl (by kernel_rfl) (e_pick_f (v := .bool false) (bvf q31 (by kernel_rfl)) rfl) ?_
  refine lv (d := 4) rfl rfl (by kernel_rfl) (e_assign (v := .bool false) (by kernel_rfl)) ?_
  refine wpList_nil ?_
  refine then_n ?_
  refine wp_ret ?_
  obtain rfl := Option.some.inj M
  exact ret1 rfl rfl  (show _ = .bool false from (by kernel_rfl)) ⟨rfl, S29.chg⟩

/-! laws_eqByteS -/
def laws_eqByteS.l0 : Nat → (List UInt8) → (List UInt8) → Int → Option Bool
  | 0, _, _, _ => none
  | k23 + 1, x1, x6, x14 => (if x14 < (x1.length : Int) then (if 0 ≤ x14 then (if x14 < (x6.length : Int) then (if ((x1.getD ((x14).toNat) (0 : UInt8)).toNat : Int) ≠ ((x6.getD ((x14).toNat) (0 : UInt8)).toNat : Int) then some false else (laws_eqByteS.l0 k23 x1 x6 (IntKind.i64.wrap (x14 + 1)))) else none) else none) else some true)
def laws_eqByteS.f (k : Nat) (x1 : List UInt8) (x6 : List UInt8) : Option Bool := (if (x1.length : Int) ≠ (x6.length : Int) then some false else (laws_eqByteS.l0 k x1 x6 0))
theorem laws_eqByteS.calls (k : Nat) (w : World) (H : Hp) (x1 : List UInt8) (A2 : Option Addr) (c3 : Nat) (x6 : List UInt8) (A7 : Option Addr) (c8 : Nat) (h4 : Rd tByte H A2 x1) (l5 : x1.length ≤ c3) (h9 : Rd tByte H A7 x6) (l10 : x6.length ≤ c8) (S : Own [] H w) (r : Bool) (M : laws_eqByteS.f k x1 x6 = some r) :
    Calls Try.prog 45 #[.slice A2 x1.length c3, .slice A7 x6.length c8] w (fun e e_w => e = .returned (.bool r) ∧ Chg no w e_w) := by
  rw [laws_eqByteS.f] at M
  refine enter (l := [.slice A2 x1.length c3, .slice A7 x6.length c8]) 26 Try.func45 rfl rfl rfl ?_
  have S0_ := S.st
  refine wp_seq ?_
  refine wp_region_lit ?_
  refine lv (d := 4) rfl rfl (by kernel_rfl) (e_assign (v := .bool false) rfl) ?_
  refine wpList_nil ?_
  refine then_n ?_
  refine wp_seq ?_
  refine wp_seq ?_
  refine wp_region_lit ?_
  refine lv (d := 6) rfl rfl (by kernel_rfl) (e_move (v := .slice A2 x1.length c3) (by kernel_rfl)) ?_
  refine lv (d := 7) rfl rfl (by kernel_rfl) (e_len (A := A2) (n := x1.length) (c := c3) Try.underlying26 (by kernel_rfl)) ?_
  refine lv (d := 8) rfl rfl (by kernel_rfl) (e_move (v := .slice A7 x6.length c8) (by kernel_rfl)) ?_
  refine lv (d := 9) rfl rfl (by kernel_rfl) (e_len (A := A7) (n := x6.length) (c := c8) Try.underlying26 (by kernel_rfl)) ?_
  refine lv (d := 10) rfl rfl (by kernel_rfl) (e_neq (k := .i64) (a := (x1.length : Int)) (b := (x6.length : Int)) (by kernel_rfl) (by kernel_rfl)) ?_
  refine wpList_nil ?_
  refine then_n ?_
  by_cases q11 : (x1.length : Int) ≠ (x6.length : Int)
  · replace M := ifp q11 M
    refine cond_t rfl (bt q11 (by kernel_rfl)) ?_
    refine wp_seq ?_
    refine wp_region_lit ?_
    refine lv (d := 4) rfl rfl (by kernel_rfl) (e_assign (v := .bool false) rfl) ?_
    refine wpList_nil ?_
    refine then_n ?_
    refine wp_ret ?_
    refine then_r ?_
    obtain rfl := Option.some.inj M
    exact ret1 rfl rfl  (show _ = .bool false from (by kernel_rfl)) ⟨rfl, S0_.chg⟩
  replace M := ifn q11 M
  refine cond_f rfl (bf q11 (by kernel_rfl)) ?_
  refine wp_skip ?_
  refine then_n ?_
  refine wp_seq ?_
  refine wp_seq ?_
  refine wp_region_lit ?_
  refine lv (d := 5) rfl rfl (by kernel_rfl) (e_assign (v := .int .i64 0) rfl) ?_
  refine wpList_nil ?_
  refine then_n ?_
  refine wp_block ?_
  refine wp_loop_g (fun k21 a22 w12 => ∃ (f13 : Nat → Value) (x14 : Int), a22 = mk 26 f13 ∧ f13 0 = .slice A2 x1.length c3 ∧ f13 1 = .slice A7 x6.length c8 ∧ f13 5 = .int .i64 x14 ∧ St (anyOf []) H w [] H w12 ∧ laws_eqByteS.l0 k21 x1 x6 x14 = some r) k ⟨_, 0, rfl, (by kernel_rfl), (by kernel_rfl), (by kernel_rfl), S0_, M⟩ ?_
  clear M
  rintro k21 a22 w12 ⟨f13, x14, rfl, e15, e16, e17, S18, M⟩
  rcases k21 with _ | k23
  · rw [laws_eqByteS.l0] at M
    cases M
  rw [laws_eqByteS.l0] at M
  refine wp_seq ?_
  refine wp_seq ?_
  refine wp_region_lit ?_
  refine lv (d := 11) rfl rfl (by kernel_rfl) (e_move (v := .int .i64 x14) (by exact e17)) ?_
  refine lv (d := 12) rfl rfl (by kernel_rfl) (e_move (v := .slice A2 x1.length c3) (by exact e15)) ?_
  refine lv (d := 13) rfl rfl (by kernel_rfl) (e_len (A := A2) (n := x1.length) (c := c3) Try.underlying26 (by kernel_rfl)) ?_
  refine lv (d := 14) rfl rfl (by kernel_rfl) (e_lss (k := .i64) (a := x14) (b := (x1.length : Int)) (by kernel_rfl) (by kernel_rfl)) ?_
  refine wpList_nil ?_
  refine then_n ?_
  by_cases q24 : x14 < (x1.length : Int)
  · replace M := ifp q24 M
    refine cond_t rfl (bt q24 (by kernel_rfl)) ?_
    refine wp_skip ?_
    refine then_n ?_
    refine wp_seq ?_
    refine wp_block ?_
    refine wp_seq ?_
    refine region_still (by kernel_rfl) (by kernel_rfl) S18 ?_
    intro w25 S26 K27
    refine sv (d := 17) rfl rfl (by kernel_rfl) (e_move (v := .slice A2 x1.length c3) (by exact e15)) ?_
    refine sv (d := 18) rfl rfl (by kernel_rfl) (e_move (v := .int .i64 x14) (by exact e17)) ?_
    obtain ⟨q28, M⟩ := chk M
    obtain ⟨b29, o30, e31⟩ := Rd.addr h4 (show (x14).toNat < x1.length by omega)
    obtain ⟨y32, r33, k34⟩ := Rd.at h4 e31 (getD_some (0 : UInt8) (show (x14).toNat < x1.length by omega))
    obtain rfl := r33
    refine sv (d := 19) rfl rfl (by kernel_rfl) (e_indexAddr (b := b29) (off := o30) (n := x1.length) (c := c3) (sz := 1) (i := x14) (k := .i64) Try.underlying26 e31 (by kernel_rfl) (by kernel_rfl) (by kernel_rfl) q28 q24) ?_
    refine sv (d := 20) rfl rfl (by kernel_rfl) (e_load1 (ad := ⟨b29, o30 + (x14 : Int).toNat * 1, none⟩) (v := .int .u8 ((x1.getD ((x14).toNat) (0 : UInt8)).toNat : Int)) Try.underlying5 rfl (by kernel_rfl) (hpx (S26.inv.cell (k34 0 _ rfl)))) ?_
    refine sv (d := 21) rfl rfl (by kernel_rfl) (e_move (v := .slice A7 x6.length c8) (by exact e16)) ?_
    refine sv (d := 22) rfl rfl (by kernel_rfl) (e_move (v := .int .i64 x14) (by exact e17)) ?_
    obtain ⟨q35, M⟩ := chk M
    obtain ⟨b36, o37, e38⟩ := Rd.addr h9 (show (x14).toNat < x6.length by omega)
    obtain ⟨y39, r40, k41⟩ := Rd.at h9 e38 (getD_some (0 : UInt8) (show (x14).toNat < x6.length by omega))
    obtain rfl := r40
    refine sv (d := 23) rfl rfl (by kernel_rfl) (e_indexAddr (b := b36) (off := o37) (n := x6.length) (c := c8) (sz := 1) (i := x14) (k := .i64) Try.underlying26 e38 (by kernel_rfl) (by kernel_rfl) (by kernel_rfl) q28 q35) ?_
    refine sv (d := 24) rfl rfl (by kernel_rfl) (e_load1 (ad := ⟨b36, o37 + (x14 : Int).toNat * 1, none⟩) (v := .int .u8 ((x6.getD ((x14).toNat) (0 : UInt8)).toNat : Int)) Try.underlying5 rfl (by kernel_rfl) (hpx (S26.inv.cell (k41 0 _ rfl)))) ?_
    refine sv (d := 25) rfl rfl (by kernel_rfl) (e_neq (k := .u8) (a := ((x1.getD ((x14).toNat) (0 : UInt8)).toNat : Int)) (b := ((x6.getD ((x14).toNat) (0 : UInt8)).toNat : Int)) (by kernel_rfl) (by kernel_rfl)) ?_
    refine wpStill_nil ?_
    refine then_n ?_
    by_cases q42 : ((x1.getD ((x14).toNat) (0 : UInt8)).toNat : Int) ≠ ((x6.getD ((x14).toNat) (0 : UInt8)).toNat : Int)
    · replace M := ifp q42 M
      refine cond_t rfl (bt q42 (by kernel_rfl)) ?_
      refine wp_seq ?_
      refine wp_region_lit ?_
      refine lv (d := 4) rfl rfl (by kernel_rfl) (e_assign (v := .bool false) rfl) ?_
      refine wpList_nil ?_
      refine then_n ?_
      refine wp_ret ?_
      refine inb_r ?_
      refine then_r ?_
      refine then_r ?_
      refine inb_r ?_
      refine then_r ?_
      obtain rfl := Option.some.inj M
      exact ret1 rfl rfl  (show _ = .bool false from (by kernel_rfl)) ⟨rfl, S26.chg⟩
    replace M := ifn q42 M
    refine cond_f rfl (bf q42 (by kernel_rfl)) ?_
    refine wp_skip ?_
    refine inb_n ?_
    refine then_n ?_
    refine wp_region_lit ?_
    refine lv (d := 15) rfl rfl (by kernel_rfl) (e_move (v := .int .i64 x14) (by exact e17)) ?_
    refine lv (d := 16) rfl rfl (by kernel_rfl) (e_add (k := .i64) (a := x14) (b := 1) (by kernel_rfl) rfl) ?_
    refine lv (d := 5) rfl rfl (by kernel_rfl) (e_assign (v := .int .i64 (IntKind.i64.wrap (x14 + 1))) (by kernel_rfl)) ?_
    refine wpList_nil ?_
    refine then_n ?_
    exact ⟨k23, (by omega), _, (IntKind.i64.wrap (x14 + 1)), rfl, (by exact e15), (by exact e16), (by kernel_rfl), S26, M⟩
  replace M := ifn q24 M
  refine cond_f rfl (bf q24 (by kernel_rfl)) ?_
  refine wp_exit ?_
  refine then_e ?_
  refine then_e ?_
  refine inb_hit ?_
  refine then_n ?_
  refine wp_seq ?_
  refine wp_region_lit ?_
  refine lv (d := 4) rfl rfl (by kernel_rfl) (e_assign (v := .bool true) rfl) ?_
  refine wpList_nil ?_
  refine then_n ?_
  refine wp_ret ?_
  obtain rfl := Option.some.inj M
  exact ret1 rfl rfl  (show _ = .bool true from (by kernel_rfl)) ⟨rfl, S18.chg⟩

/-! laws_eqCell -/
def laws_eqCell.f (k : Nat) (x1 : Cell) (x6 : Cell) : Option Bool := (if x1.kind ≠ x6.kind then some false else (if x1.n ≠ x6.n then some false else ((laws_eqByteS.f k x1.text x6.text).bind fun t23 => (if ¬ (t23 = true) then some false else some true))))
theorem laws_eqCell.calls (k : Nat) (w : World) (H : Hp) (x1 : Cell) (A2 : Option Addr) (c3 : Nat) (x6 : Cell) (A7 : Option Addr) (c8 : Nat) (h4 : Rd tByte H A2 x1.text) (l5 : x1.text.length ≤ c3) (h9 : Rd tByte H A7 x6.text) (l10 : x6.text.length ≤ c8) (S : Own [] H w) (r : Bool) (M : laws_eqCell.f k x1 x6 = some r) :
    Calls Try.prog 16 #[.agg #[.int .i64 x1.kind, .int .i64 x1.n, .slice A2 x1.text.length c3], .agg #[.int .i64 x6.kind, .int .i64 x6.n, .slice A7 x6.text.length c8]] w (fun e e_w => e = .returned (.bool r) ∧ Chg no w e_w) := by
  rw [laws_eqCell.f] at M
  refine enter (l := [.agg #[.int .i64 x1.kind, .int .i64 x1.n, .slice A2 x1.text.length c3], .agg #[.int .i64 x6.kind, .int .i64 x6.n, .slice A7 x6.text.length c8]]) 21 Try.func16 rfl rfl rfl ?_
  have S0_ := S.st
  refine wp_seq ?_
  refine wp_region_lit ?_
  refine lve (d := 2) rfl rfl (by kernel_rfl) (new_blk (v := fun g_ => .pointer (some ⟨g_, 0, none⟩)) (cs := #[.int .i64 x1.kind, .int .i64 x1.n, .slice A2 x1.text.length c3]) (t := 36) S0_ (by kernel_rfl)) ?_
  rintro _ w11 ⟨g12, rfl, b13, S14, K15⟩
  refine lve (d := 3) rfl rfl (by kernel_rfl) (new_blk (v := fun g_ => .pointer (some ⟨g_, 0, none⟩)) (cs := #[.int .i64 x6.kind, .int .i64 x6.n, .slice A7 x6.text.length c8]) (t := 36) S14 (by kernel_rfl)) ?_
  rintro _ w16 ⟨g17, rfl, b18, S19, K20⟩
  replace b13 := K20.blk 0 rfl b13
  refine lv (d := 4) rfl rfl (by kernel_rfl) (e_assign (v := .bool false) rfl) ?_
  refine wpList_nil ?_
  refine then_n ?_
  refine wp_seq ?_
  refine wp_seq ?_
  refine wp_region_lit ?_
  refine lv (d := 5) rfl rfl (by kernel_rfl) (e_fieldAddr (b := g12) (off := 0) (o := 0) Try.underlying36 rfl rfl (sz := 1) (by kernel_rfl) (by decide) (by kernel_rfl)) ?_
  refine lv (d := 6) rfl rfl (by kernel_rfl) (e_load1 (ad := ⟨g12, 0 + 0, none⟩) (v := .int .i64 x1.kind) Try.underlying3 rfl (by kernel_rfl) (blk_cell b13 rfl)) ?_
  refine lv (d := 7) rfl rfl (by kernel_rfl) (e_fieldAddr (b := g17) (off := 0) (o := 0) Try.underlying36 rfl rfl (sz := 1) (by kernel_rfl) (by decide) (by kernel_rfl)) ?_
  refine lv (d := 8) rfl rfl (by kernel_rfl) (e_load1 (ad := ⟨g17, 0 + 0, none⟩) (v := .int .i64 x6.kind) Try.underlying3 rfl (by kernel_rfl) (blk_cell b18 rfl)) ?_
  refine lv (d := 9) rfl rfl (by kernel_rfl) (e_neq (k := .i64) (a := x1.kind) (b := x6.kind) (by kernel_rfl) (by kernel_rfl)) ?_
  refine wpList_nil ?_
  refine then_n ?_
  by_cases q21 : x1.kind ≠ x6.kind
  · replace M := ifp q21 M
    refine cond_t rfl (bt q21 (by kernel_rfl)) ?_
    refine wp_seq ?_
    refine wp_region_lit ?_
    refine lv (d := 4) rfl rfl (by kernel_rfl) (e_assign (v := .bool false) rfl) ?_
    refine wpList_nil ?_
    refine then_n ?_
    refine wp_ret ?_
    refine then_r ?_
    obtain rfl := Option.some.inj M
    exact ret1 rfl rfl  (show _ = .bool false from (by kernel_rfl)) ⟨rfl, S19.chg⟩
  replace M := ifn q21 M
  refine cond_f rfl (bf q21 (by kernel_rfl)) ?_
  refine wp_skip ?_
  refine then_n ?_
  refine wp_seq ?_
  refine wp_seq ?_
  refine wp_region_lit ?_
  refine lv (d := 10) rfl rfl (by kernel_rfl) (e_fieldAddr (b := g12) (off := 0) (o := 1) Try.underlying36 rfl rfl (sz := 1) (by kernel_rfl) (by decide) (by kernel_rfl)) ?_
  refine lv (d := 11) rfl rfl (by kernel_rfl) (e_load1 (ad := ⟨g12, 0 + 1, none⟩) (v := .int .i64 x1.n) Try.underlying3 rfl (by kernel_rfl) (blk_cell b13 rfl)) ?_
  refine lv (d := 12) rfl rfl (by kernel_rfl) (e_fieldAddr (b := g17) (off := 0) (o := 1) Try.underlying36 rfl rfl (sz := 1) (by kernel_rfl) (by decide) (by kernel_rfl)) ?_
  refine lv (d := 13) rfl rfl (by kernel_rfl) (e_load1 (ad := ⟨g17, 0 + 1, none⟩) (v := .int .i64 x6.n) Try.underlying3 rfl (by kernel_rfl) (blk_cell b18 rfl)) ?_
  refine lv (d := 14) rfl rfl (by kernel_rfl) (e_neq (k := .i64) (a := x1.n) (b := x6.n) (by kernel_rfl) (by kernel_rfl)) ?_
  refine wpList_nil ?_
  refine then_n ?_
  by_cases q22 : x1.n ≠ x6.n
  · replace M := ifp q22 M
    refine cond_t rfl (bt q22 (by kernel_rfl)) ?_
    refine wp_seq ?_
    refine wp_region_lit ?_
    refine lv (d := 4) rfl rfl (by kernel_rfl) (e_assign (v := .bool false) rfl) ?_
    refine wpList_nil ?_
    refine then_n ?_
    refine wp_ret ?_
    refine then_r ?_
    obtain rfl := Option.some.inj M
    exact ret1 rfl rfl  (show _ = .bool false from (by kernel_rfl)) ⟨rfl, S19.chg⟩
  replace M := ifn q22 M
  refine cond_f rfl (bf q22 (by kernel_rfl)) ?_
  refine wp_skip ?_
  refine then_n ?_
  refine wp_seq ?_
  refine wp_seq ?_
  refine wp_region_lit ?_
  refine lv (d := 15) rfl rfl (by kernel_rfl) (e_fieldAddr (b := g12) (off := 0) (o := 2) Try.underlying36 rfl rfl (sz := 1) (by kernel_rfl) (by decide) (by kernel_rfl)) ?_
  refine lv (d := 16) rfl rfl (by kernel_rfl) (e_load1 (ad := ⟨g12, 0 + 2, none⟩) (v := .slice A2 x1.text.length c3) Try.underlying26 rfl (by kernel_rfl) (blk_cell b13 rfl)) ?_
  refine lv (d := 17) rfl rfl (by kernel_rfl) (e_fieldAddr (b := g17) (off := 0) (o := 2) Try.underlying36 rfl rfl (sz := 1) (by kernel_rfl) (by decide) (by kernel_rfl)) ?_
  refine lv (d := 18) rfl rfl (by kernel_rfl) (e_load1 (ad := ⟨g17, 0 + 2, none⟩) (v := .slice A7 x6.text.length c8) Try.underlying26 rfl (by kernel_rfl) (blk_cell b18 rfl)) ?_
  obtain ⟨t23, u24, M⟩ := bnd M
  refine lcall (d := 19) rfl rfl (by kernel_rfl) (e_call (l := [.tmp 16, .tmp 18]) (vs := [.slice A2 x1.text.length c3, .slice A7 x6.text.length c8]) Try.func45 (by kernel_rfl) rfl (by kernel_rfl) rfl) (laws_eqByteS.calls k w16 H x1.text A2 c3 x6.text A7 c8 h4 l5 h9 l10 S19.own0 t23 u24) ?_
  rintro _ w25 ⟨rfl, C26⟩
  refine ⟨_, rfl, ?_⟩
  obtain ⟨S27, K28⟩ := S19.still C26
  replace b18 := K28.blk 0 rfl b18
  replace b13 := K28.blk 1 rfl b13
  refine lv (d := 20) rfl rfl (by kernel_rfl) (e_notv (c := t23) (by kernel_rfl)) ?_
  refine wpList_nil ?_
  refine then_n ?_
  by_cases q29 : ¬ (t23 = true)
  · replace M := ifp q29 M
    refine cond_t rfl (bt q29 (by kernel_rfl)) ?_
    refine wp_seq ?_
    refine wp_region_lit ?_
    refine lv (d := 4) rfl rfl (by kernel_rfl) (e_assign (v := .bool false) rfl) ?_
    refine wpList_nil ?_
    refine then_n ?_
    refine wp_ret ?_
    refine then_r ?_
    obtain rfl := Option.some.inj M
    exact ret1 rfl rfl  (show _ = .bool false from (by kernel_rfl)) ⟨rfl, S27.chg⟩
  replace M := ifn q29 M
  refine cond_f rfl (bf q29 (by kernel_rfl)) ?_
  refine wp_skip ?_
  refine then_n ?_
  refine wp_seq ?_
  refine wp_region_lit ?_
  refine lv (d := 4) rfl rfl (by kernel_rfl) (e_assign (v := .bool true) rfl) ?_
  refine wpList_nil ?_
  refine then_n ?_
  refine wp_ret ?_
  obtain rfl := Option.some.inj M
  exact ret1 rfl rfl  (show _ = .bool true from (by kernel_rfl)) ⟨rfl, S27.chg⟩

/-! laws_eqCellS -/
def laws_eqCellS.l0 : Nat → (List Cell) → (List Cell) → Int → Option Bool
  | 0, _, _, _ => none
  | k23 + 1, x1, x6, x14 => (if x14 < (x1.length : Int) then (if 0 ≤ x14 then (if x14 < (x6.length : Int) then ((laws_eqCell.f k23 (x1.getD ((x14).toNat) z36) (x6.getD ((x14).toNat) z36)).bind fun t47 => (if ¬ (t47 = true) then some false else (laws_eqCellS.l0 k23 x1 x6 (IntKind.i64.wrap (x14 + 1))))) else none) else none) else some true)
def laws_eqCellS.f (k : Nat) (x1 : List Cell) (x6 : List Cell) : Option Bool := (if (x1.length : Int) ≠ (x6.length : Int) then some false else (laws_eqCellS.l0 k x1 x6 0))
theorem laws_eqCellS.calls (k : Nat) (w : World) (H : Hp) (x1 : List Cell) (A2 : Option Addr) (c3 : Nat) (x6 : List Cell) (A7 : Option Addr) (c8 : Nat) (h4 : Rd st36 H A2 x1) (l5 : x1.length ≤ c3) (h9 : Rd st36 H A7 x6) (l10 : x6.length ≤ c8) (S : Own [] H w) (r : Bool) (M : laws_eqCellS.f k x1 x6 = some r) :
    Calls Try.prog 24 #[.slice A2 x1.length c3, .slice A7 x6.length c8] w (fun e e_w => e = .returned (.bool r) ∧ Chg no w e_w) := by
  rw [laws_eqCellS.f] at M
  refine enter (l := [.slice A2 x1.length c3, .slice A7 x6.length c8]) 27 Try.func24 rfl rfl rfl ?_
  have S0_ := S.st
  refine wp_seq ?_
  refine wp_region_lit ?_
  refine lv (d := 4) rfl rfl (by kernel_rfl) (e_assign (v := .bool false) rfl) ?_
  refine wpList_nil ?_
  refine then_n ?_
  refine wp_seq ?_
  refine wp_seq ?_
  refine wp_region_lit ?_
  refine lv (d := 6) rfl rfl (by kernel_rfl) (e_move (v := .slice A2 x1.length c3) (by kernel_rfl)) ?_
  refine lv (d := 7) rfl rfl (by kernel_rfl) (e_len (A := A2) (n := x1.length) (c := c3) Try.underlying32 (by kernel_rfl)) ?_
  refine lv (d := 8) rfl rfl (by kernel_rfl) (e_move (v := .slice A7 x6.length c8) (by kernel_rfl)) ?_
  refine lv (d := 9) rfl rfl (by kernel_rfl) (e_len (A := A7) (n := x6.length) (c := c8) Try.underlying32 (by kernel_rfl)) ?_
  refine lv (d := 10) rfl rfl (by kernel_rfl) (e_neq (k := .i64) (a := (x1.length : Int)) (b := (x6.length : Int)) (by kernel_rfl) (by kernel_rfl)) ?_
  refine wpList_nil ?_
  refine then_n ?_
  by_cases q11 : (x1.length : Int) ≠ (x6.length : Int)
  · replace M := ifp q11 M
    refine cond_t rfl (bt q11 (by kernel_rfl)) ?_
    refine wp_seq ?_
    refine wp_region_lit ?_
    refine lv (d := 4) rfl rfl (by kernel_rfl) (e_assign (v := .bool false) rfl) ?_
    refine wpList_nil ?_
    refine then_n ?_
    refine wp_ret ?_
    refine then_r ?_
    obtain rfl := Option.some.inj M
    exact ret1 rfl rfl  (show _ = .bool false from (by kernel_rfl)) ⟨rfl, S0_.chg⟩
  replace M := ifn q11 M
  refine cond_f rfl (bf q11 (by kernel_rfl)) ?_
  refine wp_skip ?_
  refine then_n ?_
  refine wp_seq ?_
  refine wp_seq ?_
  refine wp_region_lit ?_
  refine lv (d := 5) rfl rfl (by kernel_rfl) (e_assign (v := .int .i64 0) rfl) ?_
  refine wpList_nil ?_
  refine then_n ?_
  refine wp_block ?_
  refine wp_loop_g (fun k21 a22 w12 => ∃ (f13 : Nat → Value) (x14 : Int), a22 = mk 27 f13 ∧ f13 0 = .slice A2 x1.length c3 ∧ f13 1 = .slice A7 x6.length c8 ∧ f13 5 = .int .i64 x14 ∧ St (anyOf []) H w [] H w12 ∧ laws_eqCellS.l0 k21 x1 x6 x14 = some r) k ⟨_, 0, rfl, (by kernel_rfl), (by kernel_rfl), (by kernel_rfl), S0_, M⟩ ?_
  clear M
  rintro k21 a22 w12 ⟨f13, x14, rfl, e15, e16, e17, S18, M⟩
  rcases k21 with _ | k23
  · rw [laws_eqCellS.l0] at M
    cases M
  rw [laws_eqCellS.l0] at M
  refine wp_seq ?_
  refine wp_seq ?_
  refine wp_region_lit ?_
  refine lv (d := 11) rfl rfl (by kernel_rfl) (e_move (v := .int .i64 x14) (by exact e17)) ?_
  refine lv (d := 12) rfl rfl (by kernel_rfl) (e_move (v := .slice A2 x1.length c3) (by exact e15)) ?_
  refine lv (d := 13) rfl rfl (by kernel_rfl) (e_len (A := A2) (n := x1.length) (c := c3) Try.underlying32 (by kernel_rfl)) ?_
  refine lv (d := 14) rfl rfl (by kernel_rfl) (e_lss (k := .i64) (a := x14) (b := (x1.length : Int)) (by kernel_rfl) (by kernel_rfl)) ?_
  refine wpList_nil ?_
  refine then_n ?_
  by_cases q24 : x14 < (x1.length : Int)
  · replace M := ifp q24 M
    refine cond_t rfl (bt q24 (by kernel_rfl)) ?_
    refine wp_skip ?_
    refine then_n ?_
    refine wp_seq ?_
    refine wp_block ?_
    refine wp_seq ?_
    refine region_quiet (by kernel_rfl) (by kernel_rfl) ?_
    refine qv (d := 17) rfl rfl (by kernel_rfl) (fun wq_ hq_ => e_move (v := .slice A2 x1.length c3) (by exact e15)) ?_
    refine qv (d := 18) rfl rfl (by kernel_rfl) (fun wq_ hq_ => e_move (v := .int .i64 x14) (by exact e17)) ?_
    obtain ⟨q25, M⟩ := chk M
    obtain ⟨b26, o27, e28⟩ := Rd.addr h4 (show (x14).toNat < x1.length by omega)
    obtain ⟨y29, r30, k31⟩ := Rd.at h4 e28 (getD_some z36 (show (x14).toNat < x1.length by omega))
    obtain ⟨A32, c33, rfl, l34, h35⟩ := st36_open r30
    refine qv (d := 19) rfl rfl (by kernel_rfl) (fun wq_ hq_ => e_indexAddr (b := b26) (off := o27) (n := x1.length) (c := c3) (sz := 3) (i := x14) (k := .i64) Try.underlying32 e28 (by kernel_rfl) (by kernel_rfl) (by kernel_rfl) q25 q24) ?_
    refine qv (d := 20) rfl rfl (by kernel_rfl) (fun wq_ hq_ => e_loadS (b := b26) (off := o27 + (x14 : Int).toNat * 3) (cs := [.int .i64 ((x1.getD ((x14).toNat) z36).kind), .int .i64 ((x1.getD ((x14).toNat) z36).n), .slice A32 ((x1.getD ((x14).toNat) z36).text).length c33]) Try.underlying36 rfl (by kernel_rfl) (by kernel_rfl) (fun j_ u_ e_ => (hpx ((S18.still hq_).1.inv.cell (k31 j_ u_ e_))))) ?_
    refine qv (d := 21) rfl rfl (by kernel_rfl) (fun wq_ hq_ => e_move (v := .slice A7 x6.length c8) (by exact e16)) ?_
    refine qv (d := 22) rfl rfl (by kernel_rfl) (fun wq_ hq_ => e_move (v := .int .i64 x14) (by exact e17)) ?_
    obtain ⟨q36, M⟩ := chk M
    obtain ⟨b37, o38, e39⟩ := Rd.addr h9 (show (x14).toNat < x6.length by omega)
    obtain ⟨y40, r41, k42⟩ := Rd.at h9 e39 (getD_some z36 (show (x14).toNat < x6.length by omega))
    obtain ⟨A43, c44, rfl, l45, h46⟩ := st36_open r41
    refine qv (d := 23) rfl rfl (by kernel_rfl) (fun wq_ hq_ => e_indexAddr (b := b37) (off := o38) (n := x6.length) (c := c8) (sz := 3) (i := x14) (k := .i64) Try.underlying32 e39 (by kernel_rfl) (by kernel_rfl) (by kernel_rfl) q25 q36) ?_
    refine qv (d := 24) rfl rfl (by kernel_rfl) (fun wq_ hq_ => e_loadS (b := b37) (off := o38 + (x14 : Int).toNat * 3) (cs := [.int .i64 ((x6.getD ((x14).toNat) z36).kind), .int .i64 ((x6.getD ((x14).toNat) z36).n), .slice A43 ((x6.getD ((x14).toNat) z36).text).length c44]) Try.underlying36 rfl (by kernel_rfl) (by kernel_rfl) (fun j_ u_ e_ => (hpx ((S18.still hq_).1.inv.cell (k42 j_ u_ e_))))) ?_
    obtain ⟨t47, u48, M⟩ := bnd M
    refine qcall (v := .bool t47) (d := 25) rfl rfl (by kernel_rfl) (fun w_ => e_call (l := [.tmp 20, .tmp 24]) (vs := [.agg #[.int .i64 ((x1.getD ((x14).toNat) z36).kind), .int .i64 ((x1.getD ((x14).toNat) z36).n), .slice A32 ((x1.getD ((x14).toNat) z36).text).length c33], .agg #[.int .i64 ((x6.getD ((x14).toNat) z36).kind), .int .i64 ((x6.getD ((x14).toNat) z36).n), .slice A43 ((x6.getD ((x14).toNat) z36).text).length c44]]) Try.func16 (by kernel_rfl) rfl (by kernel_rfl) rfl) (fun wq_ hq_ => (by obtain ⟨S_, K_⟩ := S18.still hq_; exact (laws_eqCell.calls k23 wq_ H (x1.getD ((x14).toNat) z36) A32 c33 (x6.getD ((x14).toNat) z36) A43 c44 h35 l34 h46 l45 S_.own0 t47 u48))) ?_
    refine qv (d := 26) rfl rfl (by kernel_rfl) (fun wq_ hq_ => e_notv (c := t47) (by kernel_rfl)) ?_
    refine wpQuiet_nil ?_
    intro w49 C52
    obtain ⟨S50, K51⟩ := S18.still C52
    refine then_n ?_
    by_cases q53 : ¬ (t47 = true)
    · replace M := ifp q53 M
      refine cond_t rfl (bt q53 (by kernel_rfl)) ?_
      refine wp_seq ?_
      refine wp_region_lit ?_
      refine lv (d := 4) rfl rfl (by kernel_rfl) (e_assign (v := .bool false) rfl) ?_
      refine wpList_nil ?_
      refine then_n ?_
      refine wp_ret ?_
      refine inb_r ?_
      refine then_r ?_
      refine then_r ?_
      refine inb_r ?_
      refine then_r ?_
      obtain rfl := Option.some.inj M
      exact ret1 rfl rfl  (show _ = .bool false from (by kernel_rfl)) ⟨rfl, S50.chg⟩
    replace M := ifn q53 M
    refine cond_f rfl (bf q53 (by kernel_rfl)) ?_
    refine wp_skip ?_
    refine inb_n ?_
    refine then_n ?_
    refine wp_region_lit ?_
    refine lv (d := 15) rfl rfl (by kernel_rfl) (e_move (v := .int .i64 x14) (by exact e17)) ?_
    refine lv (d := 16) rfl rfl (by kernel_rfl) (e_add (k := .i64) (a := x14) (b := 1) (by kernel_rfl) rfl) ?_
    refine lv (d := 5) rfl rfl (by kernel_rfl) (e_assign (v := .int .i64 (IntKind.i64.wrap (x14 + 1))) (by kernel_rfl)) ?_
    refine wpList_nil ?_
    refine then_n ?_
    exact ⟨k23, (by omega), _, (IntKind.i64.wrap (x14 + 1)), rfl, (by exact e15), (by exact e16), (by kernel_rfl), S50, M⟩
  replace M := ifn q24 M
  refine cond_f rfl (bf q24 (by kernel_rfl)) ?_
  refine wp_exit ?_
  refine then_e ?_
  refine then_e ?_
  refine inb_hit ?_
  refine then_n ?_
  refine wp_seq ?_
  refine wp_region_lit ?_
  refine lv (d := 4) rfl rfl (by kernel_rfl) (e_assign (v := .bool true) rfl) ?_
  refine wpList_nil ?_
  refine then_n ?_
  refine wp_ret ?_
  obtain rfl := Option.some.inj M
  exact ret1 rfl rfl  (show _ = .bool true from (by kernel_rfl)) ⟨rfl, S18.chg⟩

/-! laws_eqIntS -/
def laws_eqIntS.l0 : Nat → (List Int) → (List Int) → Int → Option Bool
  | 0, _, _, _ => none
  | k23 + 1, x1, x6, x14 => (if x14 < (x1.length : Int) then (if 0 ≤ x14 then (if x14 < (x6.length : Int) then (if (x1.getD ((x14).toNat) (0 : Int)) ≠ (x6.getD ((x14).toNat) (0 : Int)) then some false else (laws_eqIntS.l0 k23 x1 x6 (IntKind.i64.wrap (x14 + 1)))) else none) else none) else some true)
def laws_eqIntS.f (k : Nat) (x1 : List Int) (x6 : List Int) : Option Bool := (if (x1.length : Int) ≠ (x6.length : Int) then some false else (laws_eqIntS.l0 k x1 x6 0))
theorem laws_eqIntS.calls (k : Nat) (w : World) (H : Hp) (x1 : List Int) (A2 : Option Addr) (c3 : Nat) (x6 : List Int) (A7 : Option Addr) (c8 : Nat) (h4 : Rd tInt H A2 x1) (l5 : x1.length ≤ c3) (h9 : Rd tInt H A7 x6) (l10 : x6.length ≤ c8) (S : Own [] H w) (r : Bool) (M : laws_eqIntS.f k x1 x6 = some r) :
    Calls Try.prog 44 #[.slice A2 x1.length c3, .slice A7 x6.length c8] w (fun e e_w => e = .returned (.bool r) ∧ Chg no w e_w) := by
  rw [laws_eqIntS.f] at M
  refine enter (l := [.slice A2 x1.length c3, .slice A7 x6.length c8]) 26 Try.func44 rfl rfl rfl ?_
  have S0_ := S.st
  refine wp_seq ?_
  refine wp_region_lit ?_
  refine lv (d := 4) rfl rfl (by kernel_rfl) (e_assign (v := .bool false) rfl) ?_
  refine wpList_nil ?_
  refine then_n ?_
  refine wp_seq ?_
  refine wp_seq ?_
  refine wp_region_lit ?_
  refine lv (d := 6) rfl rfl (by kernel_rfl) (e_move (v := .slice A2 x1.length c3) (by kernel_rfl)) ?_
  refine lv (d := 7) rfl rfl (by kernel_rfl) (e_len (A := A2) (n := x1.length) (c := c3) Try.underlying23 (by kernel_rfl)) ?_
  refine lv (d := 8) rfl rfl (by kernel_rfl) (e_move (v := .slice A7 x6.length c8) (by kernel_rfl)) ?_
  refine lv (d := 9) rfl rfl (by kernel_rfl) (e_len (A := A7) (n := x6.length) (c := c8) Try.underlying23 (by kernel_rfl)) ?_
  refine lv (d := 10) rfl rfl (by kernel_rfl) (e_neq (k := .i64) (a := (x1.length : Int)) (b := (x6.length : Int)) (by kernel_rfl) (by kernel_rfl)) ?_
  refine wpList_nil ?_
  refine then_n ?_
  by_cases q11 : (x1.length : Int) ≠ (x6.length : Int)
  · replace M := ifp q11 M
    refine cond_t rfl (bt q11 (by kernel_rfl)) ?_
    refine wp_seq ?_
    refine wp_region_lit ?_
    refine lv (d := 4) rfl rfl (by kernel_rfl) (e_assign (v := .bool false) rfl) ?_
    refine wpList_nil ?_
    refine then_n ?_
    refine wp_ret ?_
    refine then_r ?_
    obtain rfl := Option.some.inj M
    exact ret1 rfl rfl  (show _ = .bool false from (by kernel_rfl)) ⟨rfl, S0_.chg⟩
  replace M := ifn q11 M
  refine cond_f rfl (bf q11 (by kernel_rfl)) ?_
  refine wp_skip ?_
  refine then_n ?_
  refine wp_seq ?_
  refine wp_seq ?_
  refine wp_region_lit ?_
  refine lv (d := 5) rfl rfl (by kernel_rfl) (e_assign (v := .int .i64 0) rfl) ?_
  refine wpList_nil ?_
  refine then_n ?_
  refine wp_block ?_
  refine wp_loop_g (fun k21 a22 w12 => ∃ (f13 : Nat → Value) (x14 : Int), a22 = mk 26 f13 ∧ f13 0 = .slice A2 x1.length c3 ∧ f13 1 = .slice A7 x6.length c8 ∧ f13 5 = .int .i64 x14 ∧ St (anyOf []) H w [] H w12 ∧ laws_eqIntS.l0 k21 x1 x6 x14 = some r) k ⟨_, 0, rfl, (by kernel_rfl), (by kernel_rfl), (by kernel_rfl), S0_, M⟩ ?_
  clear M
  rintro k21 a22 w12 ⟨f13, x14, rfl, e15, e16, e17, S18, M⟩
  rcases k21 with _ | k23
  · rw [laws_eqIntS.l0] at M
    cases M
  rw [laws_eqIntS.l0] at M
  refine wp_seq ?_
  refine wp_seq ?_
  refine wp_region_lit ?_
  refine lv (d := 11) rfl rfl (by kernel_rfl) (e_move (v := .int .i64 x14) (by exact e17)) ?_
  refine lv (d := 12) rfl rfl (by kernel_rfl) (e_move (v := .slice A2 x1.length c3) (by exact e15)) ?_
  refine lv (d := 13) rfl rfl (by kernel_rfl) (e_len (A := A2) (n := x1.length) (c := c3) Try.underlying23 (by kernel_rfl)) ?_
  refine lv (d := 14) rfl rfl (by kernel_rfl) (e_lss (k := .i64) (a := x14) (b := (x1.length : Int)) (by kernel_rfl) (by kernel_rfl)) ?_
  refine wpList_nil ?_
  refine then_n ?_
  by_cases q24 : x14 < (x1.length : Int)
  · replace M := ifp q24 M
    refine cond_t rfl (bt q24 (by kernel_rfl)) ?_
    refine wp_skip ?_
    refine then_n ?_
    refine wp_seq ?_
    refine wp_block ?_
    refine wp_seq ?_
    refine region_still (by kernel_rfl) (by kernel_rfl) S18 ?_
    intro w25 S26 K27
    refine sv (d := 17) rfl rfl (by kernel_rfl) (e_move (v := .slice A2 x1.length c3) (by exact e15)) ?_
    refine sv (d := 18) rfl rfl (by kernel_rfl) (e_move (v := .int .i64 x14) (by exact e17)) ?_
    obtain ⟨q28, M⟩ := chk M
    obtain ⟨b29, o30, e31⟩ := Rd.addr h4 (show (x14).toNat < x1.length by omega)
    obtain ⟨y32, r33, k34⟩ := Rd.at h4 e31 (getD_some (0 : Int) (show (x14).toNat < x1.length by omega))
    obtain rfl := r33
    refine sv (d := 19) rfl rfl (by kernel_rfl) (e_indexAddr (b := b29) (off := o30) (n := x1.length) (c := c3) (sz := 1) (i := x14) (k := .i64) Try.underlying23 e31 (by kernel_rfl) (by kernel_rfl) (by kernel_rfl) q28 q24) ?_
    refine sv (d := 20) rfl rfl (by kernel_rfl) (e_load1 (ad := ⟨b29, o30 + (x14 : Int).toNat * 1, none⟩) (v := .int .i64 (x1.getD ((x14).toNat) (0 : Int))) Try.underlying3 rfl (by kernel_rfl) (hpx (S26.inv.cell (k34 0 _ rfl)))) ?_
    refine sv (d := 21) rfl rfl (by kernel_rfl) (e_move (v := .slice A7 x6.length c8) (by exact e16)) ?_
    refine sv (d := 22) rfl rfl (by kernel_rfl) (e_move (v := .int .i64 x14) (by exact e17)) ?_
    obtain ⟨q35, M⟩ := chk M
    obtain ⟨b36, o37, e38⟩ := Rd.addr h9 (show (x14).toNat < x6.length by omega)
    obtain ⟨y39, r40, k41⟩ := Rd.at h9 e38 (getD_some (0 : Int) (show (x14).toNat < x6.length by omega))
    obtain rfl := r40
    refine sv (d := 23) rfl rfl (by kernel_rfl) (e_indexAddr (b := b36) (off := o37) (n := x6.length) (c := c8) (sz := 1) (i := x14) (k := .i64) Try.underlying23 e38 (by kernel_rfl) (by kernel_rfl) (by kernel_rfl) q28 q35) ?_
    refine sv (d := 24) rfl rfl (by kernel_rfl) (e_load1 (ad := ⟨b36, o37 + (x14 : Int).toNat * 1, none⟩) (v := .int .i64 (x6.getD ((x14).toNat) (0 : Int))) Try.underlying3 rfl (by kernel_rfl) (hpx (S26.inv.cell (k41 0 _ rfl)))) ?_
    refine sv (d := 25) rfl rfl (by kernel_rfl) (e_neq (k := .i64) (a := (x1.getD ((x14).toNat) (0 : Int))) (b := (x6.getD ((x14).toNat) (0 : Int))) (by kernel_rfl) (by kernel_rfl)) ?_
    refine wpStill_nil ?_
    refine then_n ?_
    by_cases q42 : (x1.getD ((x14).toNat) (0 : Int)) ≠ (x6.getD ((x14).toNat) (0 : Int))
    · replace M := ifp q42 M
      refine cond_t rfl (bt q42 (by kernel_rfl)) ?_
      refine wp_seq ?_
      refine wp_region_lit ?_
      refine lv (d := 4) rfl rfl (by kernel_rfl) (e_assign (v := .bool false) rfl) ?_
      refine wpList_nil ?_
      refine then_n ?_
      refine wp_ret ?_
      refine inb_r ?_
      refine then_r ?_
      refine then_r ?_
      refine inb_r ?_
      refine then_r ?_
      obtain rfl := Option.some.inj M
      exact ret1 rfl rfl  (show _ = .bool false from (by kernel_rfl)) ⟨rfl, S26.chg⟩
    replace M := ifn q42 M
    refine cond_f rfl (bf q42 (by kernel_rfl)) ?_
    refine wp_skip ?_
    refine inb_n ?_
    refine then_n ?_
    refine wp_region_lit ?_
    refine lv (d := 15) rfl rfl (by kernel_rfl) (e_move (v := .int .i64 x14) (by exact e17)) ?_
    refine lv (d := 16) rfl rfl (by kernel_rfl) (e_add (k := .i64) (a := x14) (b := 1) (by kernel_rfl) rfl) ?_
    refine lv (d := 5) rfl rfl (by kernel_rfl) (e_assign (v := .int .i64 (IntKind.i64.wrap (x14 + 1))) (by kernel_rfl)) ?_
    refine wpList_nil ?_
    refine then_n ?_
    exact ⟨k23, (by omega), _, (IntKind.i64.wrap (x14 + 1)), rfl, (by exact e15), (by exact e16), (by kernel_rfl), S26, M⟩
  replace M := ifn q24 M
  refine cond_f rfl (bf q24 (by kernel_rfl)) ?_
  refine wp_exit ?_
  refine then_e ?_
  refine then_e ?_
  refine inb_hit ?_
  refine then_n ?_
  refine wp_seq ?_
  refine wp_region_lit ?_
  refine lv (d := 4) rfl rfl (by kernel_rfl) (e_assign (v := .bool true) rfl) ?_
  refine wpList_nil ?_
  refine then_n ?_
  refine wp_ret ?_
  obtain rfl := Option.some.inj M
  exact ret1 rfl rfl  (show _ = .bool true from (by kernel_rfl)) ⟨rfl, S18.chg⟩

/-! laws_eqStore -/
def laws_eqStore.f (k : Nat) (x1 : Store) (x10 : Store) : Option Bool := ((laws_eqCellS.f k x1.cells x10.cells).bind fun t29 => (if ¬ (t29 = true) then some false else ((laws_eqIntS.f k x1.trail x10.trail).bind fun t36 => (if ¬ (t36 = true) then some false else some true))))
theorem laws_eqStore.calls (k : Nat) (w : World) (H : Hp) (x1 : Store) (A2 : Option Addr) (c3 : Nat) (A6 : Option Addr) (c7 : Nat) (x10 : Store) (A11 : Option Addr) (c12 : Nat) (A15 : Option Addr) (c16 : Nat) (h4 : Rd st36 H A2 x1.cells) (l5 : x1.cells.length ≤ c3) (h8 : Rd tInt H A6 x1.trail) (l9 : x1.trail.length ≤ c7) (h13 : Rd st36 H A11 x10.cells) (l14 : x10.cells.length ≤ c12) (h17 : Rd tInt H A15 x10.trail) (l18 : x10.trail.length ≤ c16) (S : Own [] H w) (r : Bool) (M : laws_eqStore.f k x1 x10 = some r) :
    Calls Try.prog 15 #[.agg #[.slice A2 x1.cells.length c3, .slice A6 x1.trail.length c7], .agg #[.slice A11 x10.cells.length c12, .slice A15 x10.trail.length c16]] w (fun e e_w => e = .returned (.bool r) ∧ Chg no w e_w) := by
  rw [laws_eqStore.f] at M
  refine enter (l := [.agg #[.slice A2 x1.cells.length c3, .slice A6 x1.trail.length c7], .agg #[.slice A11 x10.cells.length c12, .slice A15 x10.trail.length c16]]) 17 Try.func15 rfl rfl rfl ?_
  have S0_ := S.st
  refine wp_seq ?_
  refine wp_region_lit ?_
  refine lve (d := 2) rfl rfl (by kernel_rfl) (new_blk (v := fun g_ => .pointer (some ⟨g_, 0, none⟩)) (cs := #[.slice A2 x1.cells.length c3, .slice A6 x1.trail.length c7]) (t := 34) S0_ (by kernel_rfl)) ?_
  rintro _ w19 ⟨g20, rfl, b21, S22, K23⟩
  refine lve (d := 3) rfl rfl (by kernel_rfl) (new_blk (v := fun g_ => .pointer (some ⟨g_, 0, none⟩)) (cs := #[.slice A11 x10.cells.length c12, .slice A15 x10.trail.length c16]) (t := 34) S22 (by kernel_rfl)) ?_
  rintro _ w24 ⟨g25, rfl, b26, S27, K28⟩
  replace b21 := K28.blk 0 rfl b21
  refine lv (d := 4) rfl rfl (by kernel_rfl) (e_assign (v := .bool false) rfl) ?_
  refine wpList_nil ?_
  refine then_n ?_
  refine wp_seq ?_
  refine wp_seq ?_
  refine wp_region_lit ?_
  refine lv (d := 5) rfl rfl (by kernel_rfl) (e_fieldAddr (b := g20) (off := 0) (o := 0) Try.underlying34 rfl rfl (sz := 1) (by kernel_rfl) (by decide) (by kernel_rfl)) ?_
  refine lv (d := 6) rfl rfl (by kernel_rfl) (e_load1 (ad := ⟨g20, 0 + 0, none⟩) (v := .slice A2 x1.cells.length c3) Try.underlying32 rfl (by kernel_rfl) (blk_cell b21 rfl)) ?_
  refine lv (d := 7) rfl rfl (by kernel_rfl) (e_fieldAddr (b := g25) (off := 0) (o := 0) Try.underlying34 rfl rfl (sz := 1) (by kernel_rfl) (by decide) (by kernel_rfl)) ?_
  refine lv (d := 8) rfl rfl (by kernel_rfl) (e_load1 (ad := ⟨g25, 0 + 0, none⟩) (v := .slice A11 x10.cells.length c12) Try.underlying32 rfl (by kernel_rfl) (blk_cell b26 rfl)) ?_
  obtain ⟨t29, u30, M⟩ := bnd M
  refine lcall (d := 9) rfl rfl (by kernel_rfl) (e_call (l := [.tmp 6, .tmp 8]) (vs := [.slice A2 x1.cells.length c3, .slice A11 x10.cells.length c12]) Try.func24 (by kernel_rfl) rfl (by kernel_rfl) rfl) (laws_eqCellS.calls k w24 H x1.cells A2 c3 x10.cells A11 c12 h4 l5 h13 l14 S27.own0 t29 u30) ?_
  rintro _ w31 ⟨rfl, C32⟩
  refine ⟨_, rfl, ?_⟩
  obtain ⟨S33, K34⟩ := S27.still C32
  replace b26 := K34.blk 0 rfl b26
  replace b21 := K34.blk 1 rfl b21
  refine lv (d := 10) rfl rfl (by kernel_rfl) (e_notv (c := t29) (by kernel_rfl)) ?_
  refine wpList_nil ?_
  refine then_n ?_
  by_cases q35 : ¬ (t29 = true)
  · replace M := ifp q35 M
    refine cond_t rfl (bt q35 (by kernel_rfl)) ?_
    refine wp_seq ?_
    refine wp_region_lit ?_
    refine lv (d := 4) rfl rfl (by kernel_rfl) (e_assign (v := .bool false) rfl) ?_
    refine wpList_nil ?_
    refine then_n ?_
    refine wp_ret ?_
    refine then_r ?_
    obtain rfl := Option.some.inj M
    exact ret1 rfl rfl  (show _ = .bool false from (by kernel_rfl)) ⟨rfl, S33.chg⟩
  replace M := ifn q35 M
  refine cond_f rfl (bf q35 (by kernel_rfl)) ?_
  refine wp_skip ?_
  refine then_n ?_
  refine wp_seq ?_
  refine wp_seq ?_
  refine wp_region_lit ?_
  refine lv (d := 11) rfl rfl (by kernel_rfl) (e_fieldAddr (b := g20) (off := 0) (o := 1) Try.underlying34 rfl rfl (sz := 1) (by kernel_rfl) (by decide) (by kernel_rfl)) ?_
  refine lv (d := 12) rfl rfl (by kernel_rfl) (e_load1 (ad := ⟨g20, 0 + 1, none⟩) (v := .slice A6 x1.trail.length c7) Try.underlying23 rfl (by kernel_rfl) (blk_cell b21 rfl)) ?_
  refine lv (d := 13) rfl rfl (by kernel_rfl) (e_fieldAddr (b := g25) (off := 0) (o := 1) Try.underlying34 rfl rfl (sz := 1) (by kernel_rfl) (by decide) (by kernel_rfl)) ?_
  refine lv (d := 14) rfl rfl (by kernel_rfl) (e_load1 (ad := ⟨g25, 0 + 1, none⟩) (v := .slice A15 x10.trail.length c16) Try.underlying23 rfl (by kernel_rfl) (blk_cell b26 rfl)) ?_
  obtain ⟨t36, u37, M⟩ := bnd M
  refine lcall (d := 15) rfl rfl (by kernel_rfl) (e_call (l := [.tmp 12, .tmp 14]) (vs := [.slice A6 x1.trail.length c7, .slice A15 x10.trail.length c16]) Try.func44 (by kernel_rfl) rfl (by kernel_rfl) rfl) (laws_eqIntS.calls k w31 H x1.trail A6 c7 x10.trail A15 c16 h8 l9 h17 l18 S33.own0 t36 u37) ?_
  rintro _ w38 ⟨rfl, C39⟩
  refine ⟨_, rfl, ?_⟩
  obtain ⟨S40, K41⟩ := S33.still C39
  replace b26 := K41.blk 0 rfl b26
  replace b21 := K41.blk 1 rfl b21
  refine lv (d := 16) rfl rfl (by kernel_rfl) (e_notv (c := t36) (by kernel_rfl)) ?_
  refine wpList_nil ?_
  refine then_n ?_
  by_cases q42 : ¬ (t36 = true)
  · replace M := ifp q42 M
    refine cond_t rfl (bt q42 (by kernel_rfl)) ?_
    refine wp_seq ?_
    refine wp_region_lit ?_
    refine lv (d := 4) rfl rfl (by kernel_rfl) (e_assign (v := .bool false) rfl) ?_
    refine wpList_nil ?_
    refine then_n ?_
    refine wp_ret ?_
    refine then_r ?_
    obtain rfl := Option.some.inj M
    exact ret1 rfl rfl  (show _ = .bool false from (by kernel_rfl)) ⟨rfl, S40.chg⟩
  replace M := ifn q42 M
  refine cond_f rfl (bf q42 (by kernel_rfl)) ?_
  refine wp_skip ?_
  refine then_n ?_
  refine wp_seq ?_
  refine wp_region_lit ?_
  refine lv (d := 4) rfl rfl (by kernel_rfl) (e_assign (v := .bool true) rfl) ?_
  refine wpList_nil ?_
  refine then_n ?_
  refine wp_ret ?_
  obtain rfl := Option.some.inj M
  exact ret1 rfl rfl  (show _ = .bool true from (by kernel_rfl)) ⟨rfl, S40.chg⟩

/-! laws_FnExactValidStore -/
def laws_FnExactValidStore.f (k : Nat) (x1 : Store) (x10 : Cell) : Option Bool := ((laws_szStore.f k x1 1048576).bind fun t25 => (if t25 < 0 then some true else ((laws_szCell.f x10 t25).bind fun t32 => (if t32 < 0 then some true else ((laws_toStore.f k x1).bind fun t50 => ((laws_toCell.f k x10).bind fun t68 => ((spec_ValidStore.f k t50 t68).bind fun t82 => ((laws_toStore.f k x1).bind fun t112 => ((laws_toCell.f k x10).bind fun t137 => ((impl_ValidStore.f k t112 t137).bind fun t158 => (if t158 ≠ t82 then some false else ((laws_toStore.f k x1).bind fun t196 => ((laws_eqStore.f k t112 t196).bind fun t214 => (if ¬ (t214 = true) then some false else ((laws_toCell.f k x10).bind fun t261 => ((laws_eqCell.f k t137 t261).bind fun t275 => (if ¬ (t275 = true) then some false else some true)))))))))))))))))
theorem laws_FnExactValidStore.calls (k : Nat) (w : World) (H : Hp) (x1 : Store) (A2 : Option Addr) (c3 : Nat) (A6 : Option Addr) (c7 : Nat) (x10 : Cell) (A11 : Option Addr) (c12 : Nat) (h4 : Rd st28 H A2 x1.cells) (l5 : x1.cells.length ≤ c3) (h8 : Rd tInt H A6 x1.trail) (l9 : x1.trail.length ≤ c7) (h13 : Rd tByte H A11 x10.text) (l14 : x10.text.length ≤ c12) (S : Own [] H w) (r : Bool) (M : laws_FnExactValidStore.f k x1 x10 = some r) :
    Calls Try.prog 3 #[.agg #[.slice A2 x1.cells.length c3, .slice A6 x1.trail.length c7], .agg #[.int .i64 x10.kind, .int .i64 x10.n, .slice A11 x10.text.length c12]] w (fun e e_w => e = .returned (.bool r) ∧ Chg no w e_w) := by
  rw [laws_FnExactValidStore.f] at M
  refine enter (l := [.agg #[.slice A2 x1.cells.length c3, .slice A6 x1.trail.length c7], .agg #[.int .i64 x10.kind, .int .i64 x10.n, .slice A11 x10.text.length c12]]) 45 Try.func3 rfl rfl rfl ?_
  have S0_ := S.st
  refine wp_seq ?_
  refine wp_region_lit ?_
  refine lve (d := 2) rfl rfl (by kernel_rfl) (new_blk (v := fun g_ => .pointer (some ⟨g_, 0, none⟩)) (cs := #[.slice A2 x1.cells.length c3, .slice A6 x1.trail.length c7]) (t := 25) S0_ (by kernel_rfl)) ?_
  rintro _ w15 ⟨g16, rfl, b17, S18, K19⟩
  refine lve (d := 3) rfl rfl (by kernel_rfl) (new_blk (v := fun g_ => .pointer (some ⟨g_, 0, none⟩)) (cs := #[.int .i64 x10.kind, .int .i64 x10.n, .slice A11 x10.text.length c12]) (t := 28) S18 (by kernel_rfl)) ?_
  rintro _ w20 ⟨g21, rfl, b22, S23, K24⟩
  replace b17 := K24.blk 0 rfl b17
  refine lv (d := 4) rfl rfl (by kernel_rfl) (e_assign (v := .bool false) rfl) ?_
  refine wpList_nil ?_
  refine then_n ?_
  refine wp_seq ?_
  refine wp_region_lit ?_
  refine lv (d := 5) rfl rfl (by kernel_rfl) (e_assign (v := .int .i64 1048576) rfl) ?_
  refine wpList_nil ?_
  refine then_n ?_
  refine wp_seq ?_
  refine wp_region_lit ?_
  refine lv (d := 10) rfl rfl (by kernel_rfl) (e_loadS (b := g16) (off := 0) (cs := [.slice A2 x1.cells.length c3, .slice A6 x1.trail.length c7]) Try.underlying25 rfl (by kernel_rfl) (by kernel_rfl) (blk_cells b17 rfl)) ?_
  refine lv (d := 11) rfl rfl (by kernel_rfl) (e_move (v := .int .i64 1048576) (by kernel_rfl)) ?_
  obtain ⟨t25, u26, M⟩ := bnd M
  refine lcall (d := 12) rfl rfl (by kernel_rfl) (e_call (l := [.tmp 10, .tmp 11]) (vs := [.agg #[.slice A2 x1.cells.length c3, .slice A6 x1.trail.length c7], .int .i64 1048576]) Try.func9 (by kernel_rfl) rfl (by kernel_rfl) rfl) (laws_szStore.calls k w20 H x1 A2 c3 A6 c7 1048576 h4 l5 h8 l9 S23.own0 t25 u26) ?_
  rintro _ w27 ⟨rfl, C28⟩
  refine ⟨_, rfl, ?_⟩
  obtain ⟨S29, K30⟩ := S23.still C28
  replace b22 := K30.blk 0 rfl b22
  replace b17 := K30.blk 1 rfl b17
  refine lv (d := 5) rfl rfl (by kernel_rfl) (e_assign (v := .int .i64 t25) (by kernel_rfl)) ?_
  refine wpList_nil ?_
  refine then_n ?_
  refine wp_seq ?_
  refine wp_seq ?_
  refine wp_region_lit ?_
  refine lv (d := 13) rfl rfl (by kernel_rfl) (e_move (v := .int .i64 t25) (by kernel_rfl)) ?_
  refine lv (d := 14) rfl rfl (by kernel_rfl) (e_lss (k := .i64) (a := t25) (b := 0) (by kernel_rfl) rfl) ?_
  refine wpList_nil ?_
  refine then_n ?_
  by_cases q31 : t25 < 0
  · replace M := ifp q31 M
    refine cond_t rfl (bt q31 (by kernel_rfl)) ?_
    refine wp_seq ?_
    refine wp_region_lit ?_
    refine lv (d := 4) rfl rfl (by kernel_rfl) (e_assign (v := .bool true) rfl) ?_
    refine wpList_nil ?_
    refine then_n ?_
    refine wp_ret ?_
    refine then_r ?_
    obtain rfl := Option.some.inj M
    exact ret1 rfl rfl  (show _ = .bool true from (by kernel_rfl)) ⟨rfl, S29.chg⟩
  replace M := ifn q31 M
  refine cond_f rfl (bf q31 (by kernel_rfl)) ?_
  refine wp_skip ?_
  refine then_n ?_
  refine wp_seq ?_
  refine wp_region_lit ?_
  refine lv (d := 15) rfl rfl (by kernel_rfl) (e_loadS (b := g21) (off := 0) (cs := [.int .i64 x10.kind, .int .i64 x10.n, .slice A11 x10.text.length c12]) Try.underlying28 rfl (by kernel_rfl) (by kernel_rfl) (blk_cells b22 rfl)) ?_
  refine lv (d := 16) rfl rfl (by kernel_rfl) (e_move (v := .int .i64 t25) (by kernel_rfl)) ?_
  obtain ⟨t32, u33, M⟩ := bnd M
  refine lcall (d := 17) rfl rfl (by kernel_rfl) (e_call (l := [.tmp 15, .tmp 16]) (vs := [.agg #[.int .i64 x10.kind, .int .i64 x10.n, .slice A11 x10.text.length c12], .int .i64 t25]) Try.func10 (by kernel_rfl) rfl (by kernel_rfl) rfl) (laws_szCell.calls w27 H x10 A11 c12 t25 h13 l14 S29.own0 t32 u33) ?_
  rintro _ w34 ⟨rfl, C35⟩
  refine ⟨_, rfl, ?_⟩
  obtain ⟨S36, K37⟩ := S29.still C35
  replace b22 := K37.blk 0 rfl b22
  replace b17 := K37.blk 1 rfl b17
  refine lv (d := 5) rfl rfl (by kernel_rfl) (e_assign (v := .int .i64 t32) (by kernel_rfl)) ?_
  refine wpList_nil ?_
  refine then_n ?_
  refine wp_seq ?_
  refine wp_seq ?_
  refine wp_region_lit ?_
  refine lv (d := 18) rfl rfl (by kernel_rfl) (e_move (v := .int .i64 t32) (by kernel_rfl)) ?_
  refine lv (d := 19) rfl rfl (by kernel_rfl) (e_lss (k := .i64) (a := t32) (b := 0) (by kernel_rfl) rfl) ?_
  refine wpList_nil ?_
  refine then_n ?_
  by_cases q38 : t32 < 0
  · replace M := ifp q38 M
    refine cond_t rfl (bt q38 (by kernel_rfl)) ?_
    refine wp_seq ?_
    refine wp_region_lit ?_
    refine lv (d := 4) rfl rfl (by kernel_rfl) (e_assign (v := .bool true) rfl) ?_
    refine wpList_nil ?_
    refine then_n ?_
    refine wp_ret ?_
    refine then_r ?_
    obtain rfl := Option.some.inj M
    exact ret1 rfl rfl  (show _ = .bool true from (by kernel_rfl)) ⟨rfl, S36.chg⟩
  replace M := ifn q38 M
  refine cond_f rfl (bf q38 (by kernel_rfl)) ?_
  refine wp_skip ?_
  refine then_n ?_
  refine wp_seq ?_
  refine region_mix (S := (fun (L_ : Array Bool) (w_ : World) => Ext H (hp w_) ∧ (∀ b_, (is g21) b_ → hp w_ b_ = hp w34 b_) ∧ (∀ b_, (is g16) b_ → hp w_ b_ = hp w34 b_))) (by kernel_rfl) S36 ?_
  intro w39 S40 K41 hc42
  have o43 := b22
  have o44 := b17
  have hs45 : (fun (L_ : Array Bool) (w_ : World) => Ext H (hp w_) ∧ (∀ b_, (is g21) b_ → hp w_ b_ = hp w34 b_) ∧ (∀ b_, (is g16) b_ → hp w_ b_ = hp w34 b_)) (Array.replicate 6 false) w39 := ⟨S40.inv, (fun b_ h_ => K41.at 0 rfl b_ h_), (fun b_ h_ => K41.at 1 rfl b_ h_)⟩
  replace b22 := K41.blk 0 rfl b22
  replace b17 := K41.blk 1 rfl b17
  refine xv (i := 0) (d := 20) rfl rfl rfl (by kernel_rfl) (by kernel_rfl) (fun _ _ => Iff.rfl) hc42 hs45 (fun L_ w_ hc_ hu_ hs_ => e_loadS (b := g16) (off := 0) (cs := [.slice A2 x1.cells.length c3, .slice A6 x1.trail.length c7]) Try.underlying25 rfl (by kernel_rfl) (by kernel_rfl) (blk_cells ((hs_.2.2 _ rfl).trans o44) rfl)) ?_; intro hc46 hs47
  refine xv (i := 2) (d := 22) rfl rfl rfl (by kernel_rfl) (by kernel_rfl) (fun _ _ => Iff.rfl) hc46 hs47 (fun L_ w_ hc_ hu_ hs_ => e_loadS (b := g21) (off := 0) (cs := [.int .i64 x10.kind, .int .i64 x10.n, .slice A11 x10.text.length c12]) Try.underlying28 rfl (by kernel_rfl) (by kernel_rfl) (blk_cells ((hs_.2.1 _ rfl).trans o43) rfl)) ?_; intro hc48 hs49
  obtain ⟨t50, u51, M⟩ := bnd M
  refine xone (i := 1) (by kernel_rfl) hc48 ?_
  refine yc (i := 1) rfl (wanted_none rfl _) (by kernel_rfl) (by kernel_rfl) (e_call (l := [.tmp 20]) (vs := [.agg #[.slice A2 x1.cells.length c3, .slice A6 x1.trail.length c7]]) Try.func12 (by kernel_rfl) rfl (by kernel_rfl) rfl) (laws_toStore.calls k w39 H x1 A2 c3 A6 c7 h4 l5 h8 l9 (St.own' (Fa := []) (Fr := [(is g21), (is g16)]) S40) t50 u51) ?_
  rintro hc63 _ w52 ⟨A55, c56, F58, A59, c60, F62, H53, rfl, h57, h61, T54⟩
  refine ⟨_, rfl, ?_⟩
  obtain ⟨S64, K65⟩ := St.call (Fa := []) (Fr := [(is g21), (is g16)]) S40 T54
  replace b22 := K65.blk 0 rfl b22
  replace b17 := K65.blk 1 rfl b17
  have E66 := T54.ext
  refine ⟨⟨(Ext.trans E66 S64.inv), (fun b_ h_ => (K65.at 0 rfl b_ h_).trans (hs49.2.1 b_ h_)), (fun b_ h_ => (K65.at 1 rfl b_ h_).trans (hs49.2.2 b_ h_))⟩, fun hs67 => ?_⟩
  obtain ⟨t68, u69, M⟩ := bnd M
  refine xone (i := 3) (by kernel_rfl) hc63 ?_
  refine yc (i := 3) rfl (wanted_none rfl _) (by kernel_rfl) (by kernel_rfl) (e_call (l := [.tmp 22]) (vs := [.agg #[.int .i64 x10.kind, .int .i64 x10.n, .slice A11 x10.text.length c12]]) Try.func13 (by kernel_rfl) rfl (by kernel_rfl) rfl) (laws_toCell.calls k w52 H53 x10 A11 c12 (h13.ext E66) l14 (St.own' (Fa := []) (Fr := [F58, F62, (is g21), (is g16)]) S64) t68 u69) ?_
  rintro hc77 _ w70 ⟨A73, c74, F76, H71, rfl, h75, T72⟩
  refine ⟨_, rfl, ?_⟩
  obtain ⟨S78, K79⟩ := St.call (Fa := []) (Fr := [F58, F62, (is g21), (is g16)]) S64 T72
  replace h57 := h57.move (K79.at 0 rfl)
  replace h61 := h61.move (K79.at 1 rfl)
  replace b22 := K79.blk 2 rfl b22
  replace b17 := K79.blk 3 rfl b17
  have E80 := T72.ext
  replace h57 := h57.ext E80
  replace h61 := h61.ext E80
  refine ⟨⟨(Ext.trans (E66.trans E80) S78.inv), (fun b_ h_ => (K79.at 2 rfl b_ h_).trans (hs67.2.1 b_ h_)), (fun b_ h_ => (K79.at 3 rfl b_ h_).trans (hs67.2.2 b_ h_))⟩, fun hs81 => ?_⟩
  obtain ⟨t82, u83, M⟩ := bnd M
  refine xone (i := 4) (by kernel_rfl) hc77 ?_
  refine yc (i := 4) rfl (wanted_none rfl _) (by kernel_rfl) (by kernel_rfl) (e_call (l := [.tmp 21, .tmp 23]) (vs := [.agg #[.slice A55 t50.cells.length c56, .slice A59 t50.trail.length c60], .agg #[.int .i64 t68.kind, .int .i64 t68.n, .slice A73 t68.text.length c74]]) Try.func11 (by kernel_rfl) rfl (by kernel_rfl) rfl) (by have l84 := h57.le; have S85 := S78.pull (F := F58) (Fr := [F76, F62, (is g21), (is g16)]) 1 rfl rfl; obtain ⟨H86, S87, E88, h89, z90⟩ := S85.frzRow h57; replace h75 := h75.ext E88; replace h61 := h61.ext E88; have l91 := h61.le; have S92 := S87.pull (F := F62) (Fr := [F76, (is g21), (is g16)]) 1 rfl rfl; obtain ⟨H93, S94, E95, h96, z97⟩ := S92.frzRow h61; replace h75 := h75.ext E95; have l98 := h75.le; obtain ⟨H99, S100, E101, h102, z103⟩ := S94.frzRow h75; exact (spec_ValidStore.calls k w70 H99 t50 A55 c56 A59 c60 t68 A73 c74 (h89.ext (E95.trans E101)) l84 (h96.ext E101) l91 h102 l98 S100.own0 t82 u83)) ?_
  rintro hc106 _ w104 ⟨rfl, C105⟩
  refine ⟨_, rfl, ?_⟩
  obtain ⟨S107, K108⟩ := S78.still C105
  replace h75 := h75.move (K108.at 0 rfl)
  replace h57 := h57.move (K108.at 1 rfl)
  replace h61 := h61.move (K108.at 2 rfl)
  replace b22 := K108.blk 3 rfl b22
  replace b17 := K108.blk 4 rfl b17
  refine ⟨⟨(Ext.trans (E66.trans E80) S107.inv), (fun b_ h_ => (K108.at 3 rfl b_ h_).trans (hs81.2.1 b_ h_)), (fun b_ h_ => (K108.at 4 rfl b_ h_).trans (hs81.2.2 b_ h_))⟩, fun hs109 => ?_⟩
  refine xone (i := 5) (by kernel_rfl) hc106 ?_
  refine yo (i := 5) (d := 6) rfl rfl (wanted_none rfl _) (by kernel_rfl) (by kernel_rfl) (fun _ _ => Iff.rfl) hs109 (e_assign (v := .bool t82) (by kernel_rfl)) ?_; intro hc110 hs111
  refine xn (by kernel_rfl) ?_ _
  refine then_n ?_
  refine wp_seq ?_
  refine wp_region_lit ?_
  refine lv (d := 25) rfl rfl (by kernel_rfl) (e_loadS (b := g16) (off := 0) (cs := [.slice A2 x1.cells.length c3, .slice A6 x1.trail.length c7]) Try.underlying25 rfl (by kernel_rfl) (by kernel_rfl) (blk_cells b17 rfl)) ?_
  obtain ⟨t112, u113, M⟩ := bnd M
  refine lcall (d := 26) rfl rfl (by kernel_rfl) (e_call (l := [.tmp 25]) (vs := [.agg #[.slice A2 x1.cells.length c3, .slice A6 x1.trail.length c7]]) Try.func12 (by kernel_rfl) rfl (by kernel_rfl) rfl) (laws_toStore.calls k w104 H71 x1 A2 c3 A6 c7 (h4.ext (E66.trans E80)) l5 (h8.ext (E66.trans E80)) l9 (St.own' (Fa := []) (Fr := [F76, F58, F62, (is g21), (is g16)]) S107) t112 u113) ?_
  rintro _ w114 ⟨A117, c118, F120, A121, c122, F124, H115, rfl, h119, h123, T116⟩
  refine ⟨_, rfl, ?_⟩
  obtain ⟨S125, K126⟩ := St.call (Fa := []) (Fr := [F76, F58, F62, (is g21), (is g16)]) S107 T116
  replace h75 := h75.move (K126.at 0 rfl)
  replace h57 := h57.move (K126.at 1 rfl)
  replace h61 := h61.move (K126.at 2 rfl)
  replace b22 := K126.blk 3 rfl b22
  replace b17 := K126.blk 4 rfl b17
  have E127 := T116.ext
  replace h75 := h75.ext E127
  replace h57 := h57.ext E127
  replace h61 := h61.ext E127
  refine lve (d := 7) rfl rfl (by kernel_rfl) (new_blk (v := fun g_ => .pointer (some ⟨g_, 0, none⟩)) (cs := #[.slice none 0 0, .slice none 0 0]) (t := 34) S125 (by kernel_rfl)) ?_
  rintro _ w128 ⟨g129, rfl, b130, S131, K132⟩
  replace h119 := h119.move (K132.at 0 rfl)
  replace h123 := h123.move (K132.at 1 rfl)
  replace h75 := h75.move (K132.at 2 rfl)
  replace h57 := h57.move (K132.at 3 rfl)
  replace h61 := h61.move (K132.at 4 rfl)
  replace b22 := K132.blk 5 rfl b22
  replace b17 := K132.blk 6 rfl b17
  refine lse rfl rfl (by kernel_rfl) (e_store (g := g129) (o := 0) (v := .agg #[.slice A117 t112.cells.length c118, .slice A121 t112.trail.length c122]) (cur' := #[.slice A117 t112.cells.length c118, .slice A121 t112.trail.length c122]) (vs := [.slice A117 t112.cells.length c118, .slice A121 t112.trail.length c122]) S131 (by kernel_rfl) (by kernel_rfl) rfl (by kernel_rfl) b130 (Nat.le_of_ble_eq_true rfl) (List.forall_mem_cons.2 ⟨rfl, (List.forall_mem_cons.2 ⟨rfl, (fun _ h_ => by cases h_)⟩)⟩) rfl) ?_
  rintro w133 ⟨b134, S135, K136⟩
  replace h119 := h119.move (K136.at 0 rfl)
  replace h123 := h123.move (K136.at 1 rfl)
  replace h75 := h75.move (K136.at 2 rfl)
  replace h57 := h57.move (K136.at 3 rfl)
  replace h61 := h61.move (K136.at 4 rfl)
  replace b22 := K136.blk 5 rfl b22
  replace b17 := K136.blk 6 rfl b17
  clear b130
  refine wpList_nil ?_
  refine then_n ?_
  refine wp_seq ?_
  refine wp_region_lit ?_
  refine lv (d := 27) rfl rfl (by kernel_rfl) (e_loadS (b := g21) (off := 0) (cs := [.int .i64 x10.kind, .int .i64 x10.n, .slice A11 x10.text.length c12]) Try.underlying28 rfl (by kernel_rfl) (by kernel_rfl) (blk_cells b22 rfl)) ?_
  obtain ⟨t137, u138, M⟩ := bnd M
  refine lcall (d := 28) rfl rfl (by kernel_rfl) (e_call (l := [.tmp 27]) (vs := [.agg #[.int .i64 x10.kind, .int .i64 x10.n, .slice A11 x10.text.length c12]]) Try.func13 (by kernel_rfl) rfl (by kernel_rfl) rfl) (laws_toCell.calls k w133 H115 x10 A11 c12 (h13.ext ((E66.trans E80).trans E127)) l14 (St.own' (Fa := []) (Fr := [(is g129), F120, F124, F76, F58, F62, (is g21), (is g16)]) S135) t137 u138) ?_
  rintro _ w139 ⟨A142, c143, F145, H140, rfl, h144, T141⟩
  refine ⟨_, rfl, ?_⟩
  obtain ⟨S146, K147⟩ := St.call (Fa := []) (Fr := [(is g129), F120, F124, F76, F58, F62, (is g21), (is g16)]) S135 T141
  replace b134 := K147.blk 0 rfl b134
  replace h119 := h119.move (K147.at 1 rfl)
  replace h123 := h123.move (K147.at 2 rfl)
  replace h75 := h75.move (K147.at 3 rfl)
  replace h57 := h57.move (K147.at 4 rfl)
  replace h61 := h61.move (K147.at 5 rfl)
  replace b22 := K147.blk 6 rfl b22
  replace b17 := K147.blk 7 rfl b17
  have E148 := T141.ext
  replace h119 := h119.ext E148
  replace h123 := h123.ext E148
  replace h75 := h75.ext E148
  replace h57 := h57.ext E148
  replace h61 := h61.ext E148
  refine lve (d := 8) rfl rfl (by kernel_rfl) (new_blk (v := fun g_ => .pointer (some ⟨g_, 0, none⟩)) (cs := #[.int .i64 0, .int .i64 0, .slice none 0 0]) (t := 36) S146 (by kernel_rfl)) ?_
  rintro _ w149 ⟨g150, rfl, b151, S152, K153⟩
  replace h144 := h144.move (K153.at 0 rfl)
  replace b134 := K153.blk 1 rfl b134
  replace h119 := h119.move (K153.at 2 rfl)
  replace h123 := h123.move (K153.at 3 rfl)
  replace h75 := h75.move (K153.at 4 rfl)
  replace h57 := h57.move (K153.at 5 rfl)
  replace h61 := h61.move (K153.at 6 rfl)
  replace b22 := K153.blk 7 rfl b22
  replace b17 := K153.blk 8 rfl b17
  refine lse rfl rfl (by kernel_rfl) (e_store (g := g150) (o := 0) (v := .agg #[.int .i64 t137.kind, .int .i64 t137.n, .slice A142 t137.text.length c143]) (cur' := #[.int .i64 t137.kind, .int .i64 t137.n, .slice A142 t137.text.length c143]) (vs := [.int .i64 t137.kind, .int .i64 t137.n, .slice A142 t137.text.length c143]) S152 (by kernel_rfl) (by kernel_rfl) rfl (by kernel_rfl) b151 (Nat.le_of_ble_eq_true rfl) (List.forall_mem_cons.2 ⟨rfl, (List.forall_mem_cons.2 ⟨rfl, (List.forall_mem_cons.2 ⟨rfl, (fun _ h_ => by cases h_)⟩)⟩)⟩) rfl) ?_
  rintro w154 ⟨b155, S156, K157⟩
  replace h144 := h144.move (K157.at 0 rfl)
  replace b134 := K157.blk 1 rfl b134
  replace h119 := h119.move (K157.at 2 rfl)
  replace h123 := h123.move (K157.at 3 rfl)
  replace h75 := h75.move (K157.at 4 rfl)
  replace h57 := h57.move (K157.at 5 rfl)
  replace h61 := h61.move (K157.at 6 rfl)
  replace b22 := K157.blk 7 rfl b22
  replace b17 := K157.blk 8 rfl b17
  clear b151
  refine wpList_nil ?_
  refine then_n ?_
  refine wp_seq ?_
  refine wp_region_lit ?_
  refine lv (d := 29) rfl rfl (by kernel_rfl) (e_loadS (b := g129) (off := 0) (cs := [.slice A117 t112.cells.length c118, .slice A121 t112.trail.length c122]) Try.underlying34 rfl (by kernel_rfl) (by kernel_rfl) (blk_cells b134 rfl)) ?_
  refine lv (d := 30) rfl rfl (by kernel_rfl) (e_loadS (b := g150) (off := 0) (cs := [.int .i64 t137.kind, .int .i64 t137.n, .slice A142 t137.text.length c143]) Try.underlying36 rfl (by kernel_rfl) (by kernel_rfl) (blk_cells b155 rfl)) ?_
  obtain ⟨t158, u159, M⟩ := bnd M
  refine lcall (d := 31) rfl rfl (by kernel_rfl) (e_call (l := [.tmp 29, .tmp 30]) (vs := [.agg #[.slice A117 t112.cells.length c118, .slice A121 t112.trail.length c122], .agg #[.int .i64 t137.kind, .int .i64 t137.n, .slice A142 t137.text.length c143]]) Try.func14 (by kernel_rfl) rfl (by kernel_rfl) rfl) (by have l160 := h119.le; have S161 := S156.pull (F := F120) (Fr := [(is g150), F145, (is g129), F124, F76, F58, F62, (is g21), (is g16)]) 3 rfl rfl; obtain ⟨H162, S163, E164, h165, z166⟩ := S161.frzRow h119; replace h144 := h144.ext E164; replace h123 := h123.ext E164; replace h75 := h75.ext E164; replace h57 := h57.ext E164; replace h61 := h61.ext E164; have l167 := h123.le; have S168 := S163.pull (F := F124) (Fr := [(is g150), F145, (is g129), F76, F58, F62, (is g21), (is g16)]) 3 rfl rfl; obtain ⟨H169, S170, E171, h172, z173⟩ := S168.frzRow h123; replace h144 := h144.ext E171; replace h75 := h75.ext E171; replace h57 := h57.ext E171; replace h61 := h61.ext E171; have l174 := h144.le; have S175 := S170.pull (F := F145) (Fr := [(is g150), (is g129), F76, F58, F62, (is g21), (is g16)]) 1 rfl rfl; obtain ⟨H176, S177, E178, h179, z180⟩ := S175.frzRow h144; replace h75 := h75.ext E178; replace h57 := h57.ext E178; replace h61 := h61.ext E178; exact (impl_ValidStore.calls k w154 H176 t112 A117 c118 A121 c122 t137 A142 c143 (h165.ext (E171.trans E178)) l160 (h172.ext E178) l167 h179 l174 S177.own0 t158 u159)) ?_
  rintro _ w181 ⟨rfl, C182⟩
  refine ⟨_, rfl, ?_⟩
  obtain ⟨S183, K184⟩ := S156.still C182
  replace b155 := K184.blk 0 rfl b155
  replace h144 := h144.move (K184.at 1 rfl)
  replace b134 := K184.blk 2 rfl b134
  replace h119 := h119.move (K184.at 3 rfl)
  replace h123 := h123.move (K184.at 4 rfl)
  replace h75 := h75.move (K184.at 5 rfl)
  replace h57 := h57.move (K184.at 6 rfl)
  replace h61 := h61.move (K184.at 7 rfl)
  replace b22 := K184.blk 8 rfl b22
  replace b17 := K184.blk 9 rfl b17
  refine lv (d := 9) rfl rfl (by kernel_rfl) (e_assign (v := .bool t158) (by kernel_rfl)) ?_
  refine wpList_nil ?_
  refine then_n ?_
  refine wp_seq ?_
  refine wp_seq ?_
  refine wp_region_lit ?_
  refine lv (d := 32) rfl rfl (by kernel_rfl) (e_move (v := .bool t158) (by kernel_rfl)) ?_
  refine lv (d := 33) rfl rfl (by kernel_rfl) (e_move (v := .bool t82) (by kernel_rfl)) ?_
  refine lv (d := 34) rfl rfl (by kernel_rfl) (e_bneq (p := t158) (q := t82) Try.underlying4 (by kernel_rfl) (by kernel_rfl)) ?_
  refine wpList_nil ?_
  refine then_n ?_
  by_cases q185 : t158 ≠ t82
  · replace M := ifp q185 M
    refine cond_t rfl (bt q185 (by kernel_rfl)) ?_
    refine wp_seq ?_
    refine wp_region_lit ?_
    refine lv (d := 4) rfl rfl (by kernel_rfl) (e_assign (v := .bool false) rfl) ?_
    refine wpList_nil ?_
    refine then_n ?_
    refine wp_ret ?_
    refine then_r ?_
    obtain rfl := Option.some.inj M
    exact ret1 rfl rfl  (show _ = .bool false from (by kernel_rfl)) ⟨rfl, S183.chg⟩
  replace M := ifn q185 M
  refine cond_f rfl (bf q185 (by kernel_rfl)) ?_
  refine wp_skip ?_
  refine then_n ?_
  refine wp_seq ?_
  refine wp_seq ?_
  refine region_mix (S := (fun (L_ : Array Bool) (w_ : World) => Ext H140 (hp w_) ∧ (∀ b_, (is g129) b_ → hp w_ b_ = hp w181 b_))) (by kernel_rfl) S183 ?_
  intro w186 S187 K188 hc189
  have o190 := b134
  have hs191 : (fun (L_ : Array Bool) (w_ : World) => Ext H140 (hp w_) ∧ (∀ b_, (is g129) b_ → hp w_ b_ = hp w181 b_)) (Array.replicate 5 false) w186 := ⟨S187.inv, (fun b_ h_ => K188.at 2 rfl b_ h_)⟩
  replace b155 := K188.blk 0 rfl b155
  replace h144 := h144.move (K188.at 1 rfl)
  replace b134 := K188.blk 2 rfl b134
  replace h119 := h119.move (K188.at 3 rfl)
  replace h123 := h123.move (K188.at 4 rfl)
  replace h75 := h75.move (K188.at 5 rfl)
  replace h57 := h57.move (K188.at 6 rfl)
  replace h61 := h61.move (K188.at 7 rfl)
  replace b22 := K188.blk 8 rfl b22
  replace b17 := K188.blk 9 rfl b17
  refine xv (i := 0) (d := 35) rfl rfl rfl (by kernel_rfl) (by kernel_rfl) (fun _ _ => Iff.rfl) hc189 hs191 (fun L_ w_ hc_ hu_ hs_ => e_loadS (b := g129) (off := 0) (cs := [.slice A117 t112.cells.length c118, .slice A121 t112.trail.length c122]) Try.underlying34 rfl (by kernel_rfl) (by kernel_rfl) (blk_cells ((hs_.2 _ rfl).trans o190) rfl)) ?_; intro hc192 hs193
  refine xone (i := 1) (by kernel_rfl) hc192 ?_
  refine yo (i := 1) (d := 36) rfl rfl (wanted_none rfl _) (by kernel_rfl) (by kernel_rfl) (fun _ _ => Iff.rfl) hs193 (e_loadS (b := g16) (off := 0) (cs := [.slice A2 x1.cells.length c3, .slice A6 x1.trail.length c7]) Try.underlying25 rfl (by kernel_rfl) (by kernel_rfl) (blk_cells b17 rfl)) ?_; intro hc194 hs195
  obtain ⟨t196, u197, M⟩ := bnd M
  refine xone (i := 2) (by kernel_rfl) hc194 ?_
  refine yc (i := 2) rfl (wanted_none rfl _) (by kernel_rfl) (by kernel_rfl) (e_call (l := [.tmp 36]) (vs := [.agg #[.slice A2 x1.cells.length c3, .slice A6 x1.trail.length c7]]) Try.func12 (by kernel_rfl) rfl (by kernel_rfl) rfl) (laws_toStore.calls k w186 H140 x1 A2 c3 A6 c7 (h4.ext (((E66.trans E80).trans E127).trans E148)) l5 (h8.ext (((E66.trans E80).trans E127).trans E148)) l9 (St.own' (Fa := []) (Fr := [(is g150), F145, (is g129), F120, F124, F76, F58, F62, (is g21), (is g16)]) S187) t196 u197) ?_
  rintro hc209 _ w198 ⟨A201, c202, F204, A205, c206, F208, H199, rfl, h203, h207, T200⟩
  refine ⟨_, rfl, ?_⟩
  obtain ⟨S210, K211⟩ := St.call (Fa := []) (Fr := [(is g150), F145, (is g129), F120, F124, F76, F58, F62, (is g21), (is g16)]) S187 T200
  replace b155 := K211.blk 0 rfl b155
  replace h144 := h144.move (K211.at 1 rfl)
  replace b134 := K211.blk 2 rfl b134
  replace h119 := h119.move (K211.at 3 rfl)
  replace h123 := h123.move (K211.at 4 rfl)
  replace h75 := h75.move (K211.at 5 rfl)
  replace h57 := h57.move (K211.at 6 rfl)
  replace h61 := h61.move (K211.at 7 rfl)
  replace b22 := K211.blk 8 rfl b22
  replace b17 := K211.blk 9 rfl b17
  have E212 := T200.ext
  replace h144 := h144.ext E212
  replace h119 := h119.ext E212
  replace h123 := h123.ext E212
  replace h75 := h75.ext E212
  replace h57 := h57.ext E212
  replace h61 := h61.ext E212
  refine ⟨⟨(Ext.trans E212 S210.inv), (fun b_ h_ => (K211.at 2 rfl b_ h_).trans (hs195.2 b_ h_))⟩, fun hs213 => ?_⟩
  obtain ⟨t214, u215, M⟩ := bnd M
  refine xone (i := 3) (by kernel_rfl) hc209 ?_
  refine yc (i := 3) rfl (wanted_none rfl _) (by kernel_rfl) (by kernel_rfl) (e_call (l := [.tmp 35, .tmp 37]) (vs := [.agg #[.slice A117 t112.cells.length c118, .slice A121 t112.trail.length c122], .agg #[.slice A201 t196.cells.length c202, .slice A205 t196.trail.length c206]]) Try.func15 (by kernel_rfl) rfl (by kernel_rfl) rfl) (by have l216 := h119.le; have S217 := S210.pull (F := F120) (Fr := [F204, F208, (is g150), F145, (is g129), F124, F76, F58, F62, (is g21), (is g16)]) 5 rfl rfl; obtain ⟨H218, S219, E220, h221, z222⟩ := S217.frzRow h119; replace h203 := h203.ext E220; replace h207 := h207.ext E220; replace h144 := h144.ext E220; replace h123 := h123.ext E220; replace h75 := h75.ext E220; replace h57 := h57.ext E220; replace h61 := h61.ext E220; have l223 := h123.le; have S224 := S219.pull (F := F124) (Fr := [F204, F208, (is g150), F145, (is g129), F76, F58, F62, (is g21), (is g16)]) 5 rfl rfl; obtain ⟨H225, S226, E227, h228, z229⟩ := S224.frzRow h123; replace h203 := h203.ext E227; replace h207 := h207.ext E227; replace h144 := h144.ext E227; replace h75 := h75.ext E227; replace h57 := h57.ext E227; replace h61 := h61.ext E227; have l230 := h203.le; obtain ⟨H231, S232, E233, h234, z235⟩ := S226.frzRow h203; replace h207 := h207.ext E233; replace h144 := h144.ext E233; replace h75 := h75.ext E233; replace h57 := h57.ext E233; replace h61 := h61.ext E233; have l236 := h207.le; obtain ⟨H237, S238, E239, h240, z241⟩ := S232.frzRow h207; replace h144 := h144.ext E239; replace h75 := h75.ext E239; replace h57 := h57.ext E239; replace h61 := h61.ext E239; exact (laws_eqStore.calls k w198 H237 t112 A117 c118 A121 c122 t196 A201 c202 A205 c206 (h221.ext ((E227.trans E233).trans E239)) l216 (h228.ext (E233.trans E239)) l223 (h234.ext E239) l230 h240 l236 S238.own0 t214 u215)) ?_
  rintro hc244 _ w242 ⟨rfl, C243⟩
  refine ⟨_, rfl, ?_⟩
  obtain ⟨S245, K246⟩ := S210.still C243
  replace h203 := h203.move (K246.at 0 rfl)
  replace h207 := h207.move (K246.at 1 rfl)
  replace b155 := K246.blk 2 rfl b155
  replace h144 := h144.move (K246.at 3 rfl)
  replace b134 := K246.blk 4 rfl b134
  replace h119 := h119.move (K246.at 5 rfl)
  replace h123 := h123.move (K246.at 6 rfl)
  replace h75 := h75.move (K246.at 7 rfl)
  replace h57 := h57.move (K246.at 8 rfl)
  replace h61 := h61.move (K246.at 9 rfl)
  replace b22 := K246.blk 10 rfl b22
  replace b17 := K246.blk 11 rfl b17
  refine ⟨⟨(Ext.trans E212 S245.inv), (fun b_ h_ => (K246.at 4 rfl b_ h_).trans (hs213.2 b_ h_))⟩, fun hs247 => ?_⟩
  refine xone (i := 4) (by kernel_rfl) hc244 ?_
  refine yo (i := 4) (d := 39) rfl rfl (wanted_none rfl _) (by kernel_rfl) (by kernel_rfl) (fun _ _ => Iff.rfl) hs247 (e_notv (c := t214) (by kernel_rfl)) ?_; intro hc248 hs249
  refine xn (by kernel_rfl) ?_ _
  refine then_n ?_
  by_cases q250 : ¬ (t214 = true)
  · replace M := ifp q250 M
    refine cond_t rfl (bt q250 (by kernel_rfl)) ?_
    refine wp_seq ?_
    refine wp_region_lit ?_
    refine lv (d := 4) rfl rfl (by kernel_rfl) (e_assign (v := .bool false) rfl) ?_
    refine wpList_nil ?_
    refine then_n ?_
    refine wp_ret ?_
    refine then_r ?_
    obtain rfl := Option.some.inj M
    exact ret1 rfl rfl  (show _ = .bool false from (by kernel_rfl)) ⟨rfl, S245.chg⟩
  replace M := ifn q250 M
  refine cond_f rfl (bf q250 (by kernel_rfl)) ?_
  refine wp_skip ?_
  refine then_n ?_
  refine wp_seq ?_
  refine wp_seq ?_
  refine region_mix (S := (fun (L_ : Array Bool) (w_ : World) => Ext H199 (hp w_) ∧ (∀ b_, (is g150) b_ → hp w_ b_ = hp w242 b_))) (by kernel_rfl) S245 ?_
  intro w251 S252 K253 hc254
  have o255 := b155
  have hs256 : (fun (L_ : Array Bool) (w_ : World) => Ext H199 (hp w_) ∧ (∀ b_, (is g150) b_ → hp w_ b_ = hp w242 b_)) (Array.replicate 5 false) w251 := ⟨S252.inv, (fun b_ h_ => K253.at 2 rfl b_ h_)⟩
  replace h203 := h203.move (K253.at 0 rfl)
  replace h207 := h207.move (K253.at 1 rfl)
  replace b155 := K253.blk 2 rfl b155
  replace h144 := h144.move (K253.at 3 rfl)
  replace b134 := K253.blk 4 rfl b134
  replace h119 := h119.move (K253.at 5 rfl)
  replace h123 := h123.move (K253.at 6 rfl)
  replace h75 := h75.move (K253.at 7 rfl)
  replace h57 := h57.move (K253.at 8 rfl)
  replace h61 := h61.move (K253.at 9 rfl)
  replace b22 := K253.blk 10 rfl b22
  replace b17 := K253.blk 11 rfl b17
  refine xv (i := 0) (d := 40) rfl rfl rfl (by kernel_rfl) (by kernel_rfl) (fun _ _ => Iff.rfl) hc254 hs256 (fun L_ w_ hc_ hu_ hs_ => e_loadS (b := g150) (off := 0) (cs := [.int .i64 t137.kind, .int .i64 t137.n, .slice A142 t137.text.length c143]) Try.underlying36 rfl (by kernel_rfl) (by kernel_rfl) (blk_cells ((hs_.2 _ rfl).trans o255) rfl)) ?_; intro hc257 hs258
  refine xone (i := 1) (by kernel_rfl) hc257 ?_
  refine yo (i := 1) (d := 41) rfl rfl (wanted_none rfl _) (by kernel_rfl) (by kernel_rfl) (fun _ _ => Iff.rfl) hs258 (e_loadS (b := g21) (off := 0) (cs := [.int .i64 x10.kind, .int .i64 x10.n, .slice A11 x10.text.length c12]) Try.underlying28 rfl (by kernel_rfl) (by kernel_rfl) (blk_cells b22 rfl)) ?_; intro hc259 hs260
  obtain ⟨t261, u262, M⟩ := bnd M
  refine xone (i := 2) (by kernel_rfl) hc259 ?_
  refine yc (i := 2) rfl (wanted_none rfl _) (by kernel_rfl) (by kernel_rfl) (e_call (l := [.tmp 41]) (vs := [.agg #[.int .i64 x10.kind, .int .i64 x10.n, .slice A11 x10.text.length c12]]) Try.func13 (by kernel_rfl) rfl (by kernel_rfl) rfl) (laws_toCell.calls k w251 H199 x10 A11 c12 (h13.ext ((((E66.trans E80).trans E127).trans E148).trans E212)) l14 (St.own' (Fa := []) (Fr := [F204, F208, (is g150), F145, (is g129), F120, F124, F76, F58, F62, (is g21), (is g16)]) S252) t261 u262) ?_
  rintro hc270 _ w263 ⟨A266, c267, F269, H264, rfl, h268, T265⟩
  refine ⟨_, rfl, ?_⟩
  obtain ⟨S271, K272⟩ := St.call (Fa := []) (Fr := [F204, F208, (is g150), F145, (is g129), F120, F124, F76, F58, F62, (is g21), (is g16)]) S252 T265
  replace h203 := h203.move (K272.at 0 rfl)
  replace h207 := h207.move (K272.at 1 rfl)
  replace b155 := K272.blk 2 rfl b155
  replace h144 := h144.move (K272.at 3 rfl)
  replace b134 := K272.blk 4 rfl b134
  replace h119 := h119.move (K272.at 5 rfl)
  replace h123 := h123.move (K272.at 6 rfl)
  replace h75 := h75.move (K272.at 7 rfl)
  replace h57 := h57.move (K272.at 8 rfl)
  replace h61 := h61.move (K272.at 9 rfl)
  replace b22 := K272.blk 10 rfl b22
  replace b17 := K272.blk 11 rfl b17
  have E273 := T265.ext
  replace h203 := h203.ext E273
  replace h207 := h207.ext E273
  replace h144 := h144.ext E273
  replace h119 := h119.ext E273
  replace h123 := h123.ext E273
  replace h75 := h75.ext E273
  replace h57 := h57.ext E273
  replace h61 := h61.ext E273
  refine ⟨⟨(Ext.trans E273 S271.inv), (fun b_ h_ => (K272.at 2 rfl b_ h_).trans (hs260.2 b_ h_))⟩, fun hs274 => ?_⟩
  obtain ⟨t275, u276, M⟩ := bnd M
  refine xone (i := 3) (by kernel_rfl) hc270 ?_
  refine yc (i := 3) rfl (wanted_none rfl _) (by kernel_rfl) (by kernel_rfl) (e_call (l := [.tmp 40, .tmp 42]) (vs := [.agg #[.int .i64 t137.kind, .int .i64 t137.n, .slice A142 t137.text.length c143], .agg #[.int .i64 t261.kind, .int .i64 t261.n, .slice A266 t261.text.length c267]]) Try.func16 (by kernel_rfl) rfl (by kernel_rfl) rfl) (by have l277 := h144.le; have S278 := S271.pull (F := F145) (Fr := [F269, F204, F208, (is g150), (is g129), F120, F124, F76, F58, F62, (is g21), (is g16)]) 4 rfl rfl; obtain ⟨H279, S280, E281, h282, z283⟩ := S278.frzRow h144; replace h268 := h268.ext E281; replace h203 := h203.ext E281; replace h207 := h207.ext E281; replace h119 := h119.ext E281; replace h123 := h123.ext E281; replace h75 := h75.ext E281; replace h57 := h57.ext E281; replace h61 := h61.ext E281; have l284 := h268.le; obtain ⟨H285, S286, E287, h288, z289⟩ := S280.frzRow h268; replace h203 := h203.ext E287; replace h207 := h207.ext E287; replace h119 := h119.ext E287; replace h123 := h123.ext E287; replace h75 := h75.ext E287; replace h57 := h57.ext E287; replace h61 := h61.ext E287; exact (laws_eqCell.calls k w263 H285 t137 A142 c143 t261 A266 c267 (h282.ext E287) l277 h288 l284 S286.own0 t275 u276)) ?_
  rintro hc292 _ w290 ⟨rfl, C291⟩
  refine ⟨_, rfl, ?_⟩
  obtain ⟨S293, K294⟩ := S271.still C291
  replace h268 := h268.move (K294.at 0 rfl)
  replace h203 := h203.move (K294.at 1 rfl)
  replace h207 := h207.move (K294.at 2 rfl)
  replace b155 := K294.blk 3 rfl b155
  replace h144 := h144.move (K294.at 4 rfl)
  replace b134 := K294.blk 5 rfl b134
  replace h119 := h119.move (K294.at 6 rfl)
  replace h123 := h123.move (K294.at 7 rfl)
  replace h75 := h75.move (K294.at 8 rfl)
  replace h57 := h57.move (K294.at 9 rfl)
  replace h61 := h61.move (K294.at 10 rfl)
  replace b22 := K294.blk 11 rfl b22
  replace b17 := K294.blk 12 rfl b17
  refine ⟨⟨(Ext.trans E273 S293.inv), (fun b_ h_ => (K294.at 3 rfl b_ h_).trans (hs274.2 b_ h_))⟩, fun hs295 => ?_⟩
  refine xone (i := 4) (by kernel_rfl) hc292 ?_
  refine yo (i := 4) (d := 44) rfl rfl (wanted_none rfl _) (by kernel_rfl) (by kernel_rfl) (fun _ _ => Iff.rfl) hs295 (e_notv (c := t275) (by kernel_rfl)) ?_; intro hc296 hs297
  refine xn (by kernel_rfl) ?_ _
  refine then_n ?_
  by_cases q298 : ¬ (t275 = true)
  · replace M := ifp q298 M
    refine cond_t rfl (bt q298 (by kernel_rfl)) ?_
    refine wp_seq ?_
    refine wp_region_lit ?_
    refine lv (d := 4) rfl rfl (by kernel_rfl) (e_assign (v := .bool false) rfl) ?_
    refine wpList_nil ?_
    refine then_n ?_
    refine wp_ret ?_
    refine then_r ?_
    obtain rfl := Option.some.inj M
    exact ret1 rfl rfl  (show _ = .bool false from (by kernel_rfl)) ⟨rfl, S293.chg⟩
  replace M := ifn q298 M
  refine cond_f rfl (bf q298 (by kernel_rfl)) ?_
  refine wp_skip ?_
  refine then_n ?_
  refine wp_seq ?_
  refine wp_region_lit ?_
  refine lv (d := 4) rfl rfl (by kernel_rfl) (e_assign (v := .bool true) rfl) ?_
  refine wpList_nil ?_
  refine then_n ?_
  refine wp_ret ?_
  obtain rfl := Option.some.inj M
  exact ret1 rfl rfl  (show _ = .bool true from (by kernel_rfl)) ⟨rfl, S293.chg⟩
end Go.Proofs.Ytnigifmkjmbfiaa
