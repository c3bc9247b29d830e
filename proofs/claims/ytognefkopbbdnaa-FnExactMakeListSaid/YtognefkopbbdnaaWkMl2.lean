import Derived.Test.YtognefkopbbdnaaWkMl1
namespace Go.Proofs.Ytognefkopbbdnaa
open Go.Sx Go.Sy
attribute [local irreducible] Go.wpList Go.wpStill Go.wpQuiet Go.Code.wp
set_option maxRecDepth 100000
set_option maxHeartbeats 1000000
set_option linter.unusedVariables false
set_option linter.unusedSimpArgs false

/-! laws_eqByteS -/
def laws_eqByteS.l0 : Nat → (List UInt8) → (List UInt8) → Int → Option Bool
  | 0, _, _, _ => none
  | k22 + 1, x1, x6, x14 => (if x14 < (x1.length : Int) then (if 0 ≤ x14 then (if x14 < (x6.length : Int) then (if ((x1.getD ((x14).toNat) (0 : UInt8)).toNat : Int) ≠ ((x6.getD ((x14).toNat) (0 : UInt8)).toNat : Int) then some false else (laws_eqByteS.l0 k22 x1 x6 (IntKind.i64.wrap (x14 + 1)))) else none) else none) else some true)
def laws_eqByteS.f (k : Nat) (x1 : List UInt8) (x6 : List UInt8) : Option Bool := (if (x1.length : Int) ≠ (x6.length : Int) then some false else (laws_eqByteS.l0 k x1 x6 0))
theorem laws_eqByteS.calls (k : Nat) (w : World) (H : Hp) (x1 : List UInt8) (A2 : Option Addr) (c3 : Nat) (x6 : List UInt8) (A7 : Option Addr) (c8 : Nat) (h4 : Rd tByte H A2 x1) (l5 : x1.length ≤ c3) (h9 : Rd tByte H A7 x6) (l10 : x6.length ≤ c8) (S : Own [] H w) (r : Bool) (M : laws_eqByteS.f k x1 x6 = some r) :
    Calls Try.prog 104 #[.slice A2 x1.length c3, .slice A7 x6.length c8] w (fun e e_w => e = .returned (.bool r) ∧ Chg no w e_w) := by
  rw [laws_eqByteS.f] at M
  refine enter (l := [.slice A2 x1.length c3, .slice A7 x6.length c8]) 26 Try.func104 rfl rfl rfl ?_
  have S0_ := S.st
  refine wp_seq ?_
  refine wp_region_lit ?_
  refine lv (d := 4) rfl rfl (by kernel_rfl) (e_assign (v := .bool false) rfl) ?_
  refine wpList_nil ?_
  refine then_n ?_
  refine wp_seq ?_
  refine wp_seq ?_
  refine wp_region_lit ?_
  refine lv (d := 6) rfl rfl (by kernel_rfl) (e_move (v := .slice A2 x1.length c3) (by kernel_rfl)) ?_
  refine lv (d := 7) rfl rfl (by kernel_rfl) (e_len (A := A2) (n := x1.length) (c := c3) Try.underlying59 (by kernel_rfl)) ?_
  refine lv (d := 8) rfl rfl (by kernel_rfl) (e_move (v := .slice A7 x6.length c8) (by kernel_rfl)) ?_
  refine lv (d := 9) rfl rfl (by kernel_rfl) (e_len (A := A7) (n := x6.length) (c := c8) Try.underlying59 (by kernel_rfl)) ?_
  refine lv (d := 10) rfl rfl (by kernel_rfl) (e_neq (k := .i64) (a := (x1.length : Int)) (b := (x6.length : Int)) (by kernel_rfl) (by kernel_rfl)) ?_
  refine wpList_nil ?_
  refine then_n ?_
  by_cases q11 : (x1.length : Int) ≠ (x6.length : Int)
  · replace M := ifp q11 M
    refine cond_t rfl (bt q11 (by kernel_rfl)) ?_
    refine wp_seq ?_
    refine wp_region_lit ?_
    refine lv (d := 4) rfl rfl (by kernel_rfl) (e_assign (v := .bool false) rfl) ?_
    refine wpList_nil ?_
    refine then_n ?_
    refine wp_ret ?_
    refine then_r ?_
    obtain rfl := Option.some.inj M
    exact ret1 rfl rfl  (show _ = .bool false from (by kernel_rfl)) ⟨rfl, S0_.chg⟩
  replace M := ifn q11 M
  refine cond_f rfl (bf q11 (by kernel_rfl)) ?_
  refine wp_skip ?_
  refine then_n ?_
  refine wp_seq ?_
  refine wp_seq ?_
  refine wp_region_lit ?_
  refine lv (d := 5) rfl rfl (by kernel_rfl) (e_assign (v := .int .i64 0) rfl) ?_
  refine wpList_nil ?_
  refine then_n ?_
  refine wp_block ?_
  refine wp_loop_g (fun k20 a21 w12 => ∃ (f13 : Nat → Value) (x14 : Int), a21 = mk 26 f13 ∧ f13 0 = .slice A2 x1.length c3 ∧ f13 1 = .slice A7 x6.length c8 ∧ f13 5 = .int .i64 x14 ∧ St (anyOf []) H w [] H w12 ∧ laws_eqByteS.l0 k20 x1 x6 x14 = some r) k ⟨_, 0, rfl, (by kernel_rfl), (by kernel_rfl), (by kernel_rfl), S0_, M⟩ ?_
  clear M
  rintro k20 a21 w12 ⟨f13, x14, rfl, e15, e16, e17, S18, M⟩
  rcases k20 with _ | k22
  · rw [laws_eqByteS.l0] at M
    cases M
  rw [laws_eqByteS.l0] at M
  refine wp_seq ?_
  refine wp_seq ?_
  refine wp_region_lit ?_
  refine lv (d := 11) rfl rfl (by kernel_rfl) (e_move (v := .int .i64 x14) (by exact e17)) ?_
  refine lv (d := 12) rfl rfl (by kernel_rfl) (e_move (v := .slice A2 x1.length c3) (by exact e15)) ?_
  refine lv (d := 13) rfl rfl (by kernel_rfl) (e_len (A := A2) (n := x1.length) (c := c3) Try.underlying59 (by kernel_rfl)) ?_
  refine lv (d := 14) rfl rfl (by kernel_rfl) (e_lss (k := .i64) (a := x14) (b := (x1.length : Int)) (by kernel_rfl) (by kernel_rfl)) ?_
  refine wpList_nil ?_
  refine then_n ?_
  by_cases q23 : x14 < (x1.length : Int)
  · replace M := ifp q23 M
    refine cond_t rfl (bt q23 (by kernel_rfl)) ?_
    refine wp_skip ?_
    refine then_n ?_
    refine wp_seq ?_
    refine wp_block ?_
    refine wp_seq ?_
    refine region_still (by kernel_rfl) (by kernel_rfl) S18 ?_
    intro w24 S25 K26
    refine sv (d := 17) rfl rfl (by kernel_rfl) (e_move (v := .slice A2 x1.length c3) (by exact e15)) ?_
    refine sv (d := 18) rfl rfl (by kernel_rfl) (e_move (v := .int .i64 x14) (by exact e17)) ?_
    obtain ⟨q27, M⟩ := chk M
    obtain ⟨b28, o29, e30⟩ := Rd.addr h4 (show (x14).toNat < x1.length by omega)
    obtain ⟨y31, r32, k33⟩ := Rd.at h4 e30 (getD_some (0 : UInt8) (show (x14).toNat < x1.length by omega))
    obtain rfl := r32
    refine sv (d := 19) rfl rfl (by kernel_rfl) (e_indexAddr (b := b28) (off := o29) (n := x1.length) (c := c3) (sz := 1) (i := x14) (k := .i64) Try.underlying59 e30 (by kernel_rfl) (by kernel_rfl) (by kernel_rfl) q27 q23) ?_
    refine sv (d := 20) rfl rfl (by kernel_rfl) (e_load1 (ad := ⟨b28, o29 + (x14 : Int).toNat * 1, none⟩) (v := .int .u8 ((x1.getD ((x14).toNat) (0 : UInt8)).toNat : Int)) Try.underlying5 rfl (by kernel_rfl) (hpx (S25.inv.cell (k33 0 _ rfl)))) ?_
    refine sv (d := 21) rfl rfl (by kernel_rfl) (e_move (v := .slice A7 x6.length c8) (by exact e16)) ?_
    refine sv (d := 22) rfl rfl (by kernel_rfl) (e_move (v := .int .i64 x14) (by exact e17)) ?_
    obtain ⟨q34, M⟩ := chk M
    obtain ⟨b35, o36, e37⟩ := Rd.addr h9 (show (x14).toNat < x6.length by omega)
    obtain ⟨y38, r39, k40⟩ := Rd.at h9 e37 (getD_some (0 : UInt8) (show (x14).toNat < x6.length by omega))
    obtain rfl := r39
    refine sv (d := 23) rfl rfl (by kernel_rfl) (e_indexAddr (b := b35) (off := o36) (n := x6.length) (c := c8) (sz := 1) (i := x14) (k := .i64) Try.underlying59 e37 (by kernel_rfl) (by kernel_rfl) (by kernel_rfl) q27 q34) ?_
    refine sv (d := 24) rfl rfl (by kernel_rfl) (e_load1 (ad := ⟨b35, o36 + (x14 : Int).toNat * 1, none⟩) (v := .int .u8 ((x6.getD ((x14).toNat) (0 : UInt8)).toNat : Int)) Try.underlying5 rfl (by kernel_rfl) (hpx (S25.inv.cell (k40 0 _ rfl)))) ?_
    refine sv (d := 25) rfl rfl (by kernel_rfl) (e_neq (k := .u8) (a := ((x1.getD ((x14).toNat) (0 : UInt8)).toNat : Int)) (b := ((x6.getD ((x14).toNat) (0 : UInt8)).toNat : Int)) (by kernel_rfl) (by kernel_rfl)) ?_
    refine wpStill_nil ?_
    refine then_n ?_
    by_cases q41 : ((x1.getD ((x14).toNat) (0 : UInt8)).toNat : Int) ≠ ((x6.getD ((x14).toNat) (0 : UInt8)).toNat : Int)
    · replace M := ifp q41 M
      refine cond_t rfl (bt q41 (by kernel_rfl)) ?_
      refine wp_seq ?_
      refine wp_region_lit ?_
      refine lv (d := 4) rfl rfl (by kernel_rfl) (e_assign (v := .bool false) rfl) ?_
      refine wpList_nil ?_
      refine then_n ?_
      refine wp_ret ?_
      refine inb_r ?_
      refine then_r ?_
      refine then_r ?_
      refine inb_r ?_
      refine then_r ?_
      obtain rfl := Option.some.inj M
      exact ret1 rfl rfl  (show _ = .bool false from (by kernel_rfl)) ⟨rfl, S25.chg⟩
    replace M := ifn q41 M
    refine cond_f rfl (bf q41 (by kernel_rfl)) ?_
    refine wp_skip ?_
    refine inb_n ?_
    refine then_n ?_
    refine wp_region_lit ?_
    refine lv (d := 15) rfl rfl (by kernel_rfl) (e_move (v := .int .i64 x14) (by exact e17)) ?_
    refine lv (d := 16) rfl rfl (by kernel_rfl) (e_add (k := .i64) (a := x14) (b := 1) (by kernel_rfl) rfl) ?_
    refine lv (d := 5) rfl rfl (by kernel_rfl) (e_assign (v := .int .i64 (IntKind.i64.wrap (x14 + 1))) (by kernel_rfl)) ?_
    refine wpList_nil ?_
    refine then_n ?_
    exact ⟨k22, (by omega), _, (IntKind.i64.wrap (x14 + 1)), rfl, (by exact e15), (by exact e16), (by kernel_rfl), S25, M⟩
  replace M := ifn q23 M
  refine cond_f rfl (bf q23 (by kernel_rfl)) ?_
  refine wp_exit ?_
  refine then_e ?_
  refine then_e ?_
  refine inb_hit ?_
  refine then_n ?_
  refine wp_seq ?_
  refine wp_region_lit ?_
  refine lv (d := 4) rfl rfl (by kernel_rfl) (e_assign (v := .bool true) rfl) ?_
  refine wpList_nil ?_
  refine then_n ?_
  refine wp_ret ?_
  obtain rfl := Option.some.inj M
  exact ret1 rfl rfl  (show _ = .bool true from (by kernel_rfl)) ⟨rfl, S18.chg⟩

/-! laws_eqCell -/
def laws_eqCell.f (k : Nat) (x1 : Cell) (x6 : Cell) : Option Bool := (if x1.kind ≠ x6.kind then some false else (if x1.n ≠ x6.n then some false else ((laws_eqByteS.f k x1.text x6.text).bind fun t23 => (if ¬ (t23 = true) then some false else some true))))
theorem laws_eqCell.calls (k : Nat) (w : World) (H : Hp) (x1 : Cell) (A2 : Option Addr) (c3 : Nat) (x6 : Cell) (A7 : Option Addr) (c8 : Nat) (h4 : Rd tByte H A2 x1.text) (l5 : x1.text.length ≤ c3) (h9 : Rd tByte H A7 x6.text) (l10 : x6.text.length ≤ c8) (S : Own [] H w) (r : Bool) (M : laws_eqCell.f k x1 x6 = some r) :
    Calls Try.prog 59 #[.agg #[.int .i64 x1.kind, .int .i64 x1.n, .slice A2 x1.text.length c3], .agg #[.int .i64 x6.kind, .int .i64 x6.n, .slice A7 x6.text.length c8]] w (fun e e_w => e = .returned (.bool r) ∧ Chg no w e_w) := by
  rw [laws_eqCell.f] at M
  refine enter (l := [.agg #[.int .i64 x1.kind, .int .i64 x1.n, .slice A2 x1.text.length c3], .agg #[.int .i64 x6.kind, .int .i64 x6.n, .slice A7 x6.text.length c8]]) 21 Try.func59 rfl rfl rfl ?_
  have S0_ := S.st
  refine wp_seq ?_
  refine wp_region_lit ?_
  refine lve (d := 2) rfl rfl (by kernel_rfl) (new_blk (v := fun g_ => .pointer (some ⟨g_, 0, none⟩)) (cs := #[.int .i64 x1.kind, .int .i64 x1.n, .slice A2 x1.text.length c3]) (t := 65) S0_ (by kernel_rfl)) ?_
  rintro _ w11 ⟨g12, rfl, b13, S14, K15⟩
  refine lve (d := 3) rfl rfl (by kernel_rfl) (new_blk (v := fun g_ => .pointer (some ⟨g_, 0, none⟩)) (cs := #[.int .i64 x6.kind, .int .i64 x6.n, .slice A7 x6.text.length c8]) (t := 65) S14 (by kernel_rfl)) ?_
  rintro _ w16 ⟨g17, rfl, b18, S19, K20⟩
  replace b13 := K20.blk 0 rfl b13
  refine lv (d := 4) rfl rfl (by kernel_rfl) (e_assign (v := .bool false) rfl) ?_
  refine wpList_nil ?_
  refine then_n ?_
  refine wp_seq ?_
  refine wp_seq ?_
  refine wp_region_lit ?_
  refine lv (d := 5) rfl rfl (by kernel_rfl) (e_fieldAddr (b := g12) (off := 0) (o := 0) Try.underlying65 rfl rfl (sz := 1) (by kernel_rfl) (by decide) (by kernel_rfl)) ?_
  refine lv (d := 6) rfl rfl (by kernel_rfl) (e_load1 (ad := ⟨g12, 0 + 0, none⟩) (v := .int .i64 x1.kind) Try.underlying3 rfl (by kernel_rfl) (blk_cell b13 rfl)) ?_
  refine lv (d := 7) rfl rfl (by kernel_rfl) (e_fieldAddr (b := g17) (off := 0) (o := 0) Try.underlying65 rfl rfl (sz := 1) (by kernel_rfl) (by decide) (by kernel_rfl)) ?_
  refine lv (d := 8) rfl rfl (by kernel_rfl) (e_load1 (ad := ⟨g17, 0 + 0, none⟩) (v := .int .i64 x6.kind) Try.underlying3 rfl (by kernel_rfl) (blk_cell b18 rfl)) ?_
  refine lv (d := 9) rfl rfl (by kernel_rfl) (e_neq (k := .i64) (a := x1.kind) (b := x6.kind) (by kernel_rfl) (by kernel_rfl)) ?_
  refine wpList_nil ?_
  refine then_n ?_
  by_cases q21 : x1.kind ≠ x6.kind
  · replace M := ifp q21 M
    refine cond_t rfl (bt q21 (by kernel_rfl)) ?_
    refine wp_seq ?_
    refine wp_region_lit ?_
    refine lv (d := 4) rfl rfl (by kernel_rfl) (e_assign (v := .bool false) rfl) ?_
    refine wpList_nil ?_
    refine then_n ?_
    refine wp_ret ?_
    refine then_r ?_
    obtain rfl := Option.some.inj M
    exact ret1 rfl rfl  (show _ = .bool false from (by kernel_rfl)) ⟨rfl, S19.chg⟩
  replace M := ifn q21 M
  refine cond_f rfl (bf q21 (by kernel_rfl)) ?_
  refine wp_skip ?_
  refine then_n ?_
  refine wp_seq ?_
  refine wp_seq ?_
  refine wp_region_lit ?_
  refine lv (d := 10) rfl rfl (by kernel_rfl) (e_fieldAddr (b := g12) (off := 0) (o := 1) Try.underlying65 rfl rfl (sz := 1) (by kernel_rfl) (by decide) (by kernel_rfl)) ?_
  refine lv (d := 11) rfl rfl (by kernel_rfl) (e_load1 (ad := ⟨g12, 0 + 1, none⟩) (v := .int .i64 x1.n) Try.underlying3 rfl (by kernel_rfl) (blk_cell b13 rfl)) ?_
  refine lv (d := 12) rfl rfl (by kernel_rfl) (e_fieldAddr (b := g17) (off := 0) (o := 1) Try.underlying65 rfl rfl (sz := 1) (by kernel_rfl) (by decide) (by kernel_rfl)) ?_
  refine lv (d := 13) rfl rfl (by kernel_rfl) (e_load1 (ad := ⟨g17, 0 + 1, none⟩) (v := .int .i64 x6.n) Try.underlying3 rfl (by kernel_rfl) (blk_cell b18 rfl)) ?_
  refine lv (d := 14) rfl rfl (by kernel_rfl) (e_neq (k := .i64) (a := x1.n) (b := x6.n) (by kernel_rfl) (by kernel_rfl)) ?_
  refine wpList_nil ?_
  refine then_n ?_
  by_cases q22 : x1.n ≠ x6.n
  · replace M := ifp q22 M
    refine cond_t rfl (bt q22 (by kernel_rfl)) ?_
    refine wp_seq ?_
    refine wp_region_lit ?_
    refine lv (d := 4) rfl rfl (by kernel_rfl) (e_assign (v := .bool false) rfl) ?_
    refine wpList_nil ?_
    refine then_n ?_
    refine wp_ret ?_
    refine then_r ?_
    obtain rfl := Option.some.inj M
    exact ret1 rfl rfl  (show _ = .bool false from (by kernel_rfl)) ⟨rfl, S19.chg⟩
  replace M := ifn q22 M
  refine cond_f rfl (bf q22 (by kernel_rfl)) ?_
  refine wp_skip ?_
  refine then_n ?_
  refine wp_seq ?_
  refine wp_seq ?_
  refine wp_region_lit ?_
  refine lv (d := 15) rfl rfl (by kernel_rfl) (e_fieldAddr (b := g12) (off := 0) (o := 2) Try.underlying65 rfl rfl (sz := 1) (by kernel_rfl) (by decide) (by kernel_rfl)) ?_
  refine lv (d := 16) rfl rfl (by kernel_rfl) (e_load1 (ad := ⟨g12, 0 + 2, none⟩) (v := .slice A2 x1.text.length c3) Try.underlying59 rfl (by kernel_rfl) (blk_cell b13 rfl)) ?_
  refine lv (d := 17) rfl rfl (by kernel_rfl) (e_fieldAddr (b := g17) (off := 0) (o := 2) Try.underlying65 rfl rfl (sz := 1) (by kernel_rfl) (by decide) (by kernel_rfl)) ?_
  refine lv (d := 18) rfl rfl (by kernel_rfl) (e_load1 (ad := ⟨g17, 0 + 2, none⟩) (v := .slice A7 x6.text.length c8) Try.underlying59 rfl (by kernel_rfl) (blk_cell b18 rfl)) ?_
  obtain ⟨t23, u24, M⟩ := bnd M
  refine lcall (d := 19) rfl rfl (by kernel_rfl) (e_call (l := [.tmp 16, .tmp 18]) (vs := [.slice A2 x1.text.length c3, .slice A7 x6.text.length c8]) Try.func104 (by kernel_rfl) rfl (by kernel_rfl) rfl) (laws_eqByteS.calls k w16 H x1.text A2 c3 x6.text A7 c8 h4 l5 h9 l10 S19.own0 t23 u24) ?_
  rintro _ w25 ⟨rfl, C26⟩
  refine ⟨_, rfl, ?_⟩
  obtain ⟨S27, K28⟩ := S19.still C26
  replace b18 := K28.blk 0 rfl b18
  replace b13 := K28.blk 1 rfl b13
  refine lv (d := 20) rfl rfl (by kernel_rfl) (e_notv (c := t23) (by kernel_rfl)) ?_
  refine wpList_nil ?_
  refine then_n ?_
  by_cases q29 : ¬ (t23 = true)
  · replace M := ifp q29 M
    refine cond_t rfl (bt q29 (by kernel_rfl)) ?_
    refine wp_seq ?_
    refine wp_region_lit ?_
    refine lv (d := 4) rfl rfl (by kernel_rfl) (e_assign (v := .bool false) rfl) ?_
    refine wpList_nil ?_
    refine then_n ?_
    refine wp_ret ?_
    refine then_r ?_
    obtain rfl := Option.some.inj M
    exact ret1 rfl rfl  (show _ = .bool false from (by kernel_rfl)) ⟨rfl, S27.chg⟩
  replace M := ifn q29 M
  refine cond_f rfl (bf q29 (by kernel_rfl)) ?_
  refine wp_skip ?_
  refine then_n ?_
  refine wp_seq ?_
  refine wp_region_lit ?_
  refine lv (d := 4) rfl rfl (by kernel_rfl) (e_assign (v := .bool true) rfl) ?_
  refine wpList_nil ?_
  refine then_n ?_
  refine wp_ret ?_
  obtain rfl := Option.some.inj M
  exact ret1 rfl rfl  (show _ = .bool true from (by kernel_rfl)) ⟨rfl, S27.chg⟩

/-! laws_eqCellS -/
def laws_eqCellS.l0 : Nat → (List Cell) → (List Cell) → Int → Option Bool
  | 0, _, _, _ => none
  | k22 + 1, x1, x6, x14 => (if x14 < (x1.length : Int) then (if 0 ≤ x14 then (if x14 < (x6.length : Int) then ((laws_eqCell.f k22 (x1.getD ((x14).toNat) z65) (x6.getD ((x14).toNat) z65)).bind fun t46 => (if ¬ (t46 = true) then some false else (laws_eqCellS.l0 k22 x1 x6 (IntKind.i64.wrap (x14 + 1))))) else none) else none) else some true)
def laws_eqCellS.f (k : Nat) (x1 : List Cell) (x6 : List Cell) : Option Bool := (if (x1.length : Int) ≠ (x6.length : Int) then some false else (laws_eqCellS.l0 k x1 x6 0))
theorem laws_eqCellS.calls (k : Nat) (w : World) (H : Hp) (x1 : List Cell) (A2 : Option Addr) (c3 : Nat) (x6 : List Cell) (A7 : Option Addr) (c8 : Nat) (h4 : Rd st65 H A2 x1) (l5 : x1.length ≤ c3) (h9 : Rd st65 H A7 x6) (l10 : x6.length ≤ c8) (S : Own [] H w) (r : Bool) (M : laws_eqCellS.f k x1 x6 = some r) :
    Calls Try.prog 18 #[.slice A2 x1.length c3, .slice A7 x6.length c8] w (fun e e_w => e = .returned (.bool r) ∧ Chg no w e_w) := by
  rw [laws_eqCellS.f] at M
  refine enter (l := [.slice A2 x1.length c3, .slice A7 x6.length c8]) 27 Try.func18 rfl rfl rfl ?_
  have S0_ := S.st
  refine wp_seq ?_
  refine wp_region_lit ?_
  refine lv (d := 4) rfl rfl (by kernel_rfl) (e_assign (v := .bool false) rfl) ?_
  refine wpList_nil ?_
  refine then_n ?_
  refine wp_seq ?_
  refine wp_seq ?_
  refine wp_region_lit ?_
  refine lv (d := 6) rfl rfl (by kernel_rfl) (e_move (v := .slice A2 x1.length c3) (by kernel_rfl)) ?_
  refine lv (d := 7) rfl rfl (by kernel_rfl) (e_len (A := A2) (n := x1.length) (c := c3) Try.underlying25 (by kernel_rfl)) ?_
  refine lv (d := 8) rfl rfl (by kernel_rfl) (e_move (v := .slice A7 x6.length c8) (by kernel_rfl)) ?_
  refine lv (d := 9) rfl rfl (by kernel_rfl) (e_len (A := A7) (n := x6.length) (c := c8) Try.underlying25 (by kernel_rfl)) ?_
  refine lv (d := 10) rfl rfl (by kernel_rfl) (e_neq (k := .i64) (a := (x1.length : Int)) (b := (x6.length : Int)) (by kernel_rfl) (by kernel_rfl)) ?_
  refine wpList_nil ?_
  refine then_n ?_
  by_cases q11 : (x1.length : Int) ≠ (x6.length : Int)
  · replace M := ifp q11 M
    refine cond_t rfl (bt q11 (by kernel_rfl)) ?_
    refine wp_seq ?_
    refine wp_region_lit ?_
    refine lv (d := 4) rfl rfl (by kernel_rfl) (e_assign (v := .bool false) rfl) ?_
    refine wpList_nil ?_
    refine then_n ?_
    refine wp_ret ?_
    refine then_r ?_
    obtain rfl := Option.some.inj M
    exact ret1 rfl rfl  (show _ = .bool false from (by kernel_rfl)) ⟨rfl, S0_.chg⟩
  replace M := ifn q11 M
  refine cond_f rfl (bf q11 (by kernel_rfl)) ?_
  refine wp_skip ?_
  refine then_n ?_
  refine wp_seq ?_
  refine wp_seq ?_
  refine wp_region_lit ?_
  refine lv (d := 5) rfl rfl (by kernel_rfl) (e_assign (v := .int .i64 0) rfl) ?_
  refine wpList_nil ?_
  refine then_n ?_
  refine wp_block ?_
  refine wp_loop_g (fun k20 a21 w12 => ∃ (f13 : Nat → Value) (x14 : Int), a21 = mk 27 f13 ∧ f13 0 = .slice A2 x1.length c3 ∧ f13 1 = .slice A7 x6.length c8 ∧ f13 5 = .int .i64 x14 ∧ St (anyOf []) H w [] H w12 ∧ laws_eqCellS.l0 k20 x1 x6 x14 = some r) k ⟨_, 0, rfl, (by kernel_rfl), (by kernel_rfl), (by kernel_rfl), S0_, M⟩ ?_
  clear M
  rintro k20 a21 w12 ⟨f13, x14, rfl, e15, e16, e17, S18, M⟩
  rcases k20 with _ | k22
  · rw [laws_eqCellS.l0] at M
    cases M
  rw [laws_eqCellS.l0] at M
  refine wp_seq ?_
  refine wp_seq ?_
  refine wp_region_lit ?_
  refine lv (d := 11) rfl rfl (by kernel_rfl) (e_move (v := .int .i64 x14) (by exact e17)) ?_
  refine lv (d := 12) rfl rfl (by kernel_rfl) (e_move (v := .slice A2 x1.length c3) (by exact e15)) ?_
  refine lv (d := 13) rfl rfl (by kernel_rfl) (e_len (A := A2) (n := x1.length) (c := c3) Try.underlying25 (by kernel_rfl)) ?_
  refine lv (d := 14) rfl rfl (by kernel_rfl) (e_lss (k := .i64) (a := x14) (b := (x1.length : Int)) (by kernel_rfl) (by kernel_rfl)) ?_
  refine wpList_nil ?_
  refine then_n ?_
  by_cases q23 : x14 < (x1.length : Int)
  · replace M := ifp q23 M
    refine cond_t rfl (bt q23 (by kernel_rfl)) ?_
    refine wp_skip ?_
    refine then_n ?_
    refine wp_seq ?_
    refine wp_block ?_
    refine wp_seq ?_
    refine region_quiet (by kernel_rfl) (by kernel_rfl) ?_
    refine qv (d := 17) rfl rfl (by kernel_rfl) (fun wq_ hq_ => e_move (v := .slice A2 x1.length c3) (by exact e15)) ?_
    refine qv (d := 18) rfl rfl (by kernel_rfl) (fun wq_ hq_ => e_move (v := .int .i64 x14) (by exact e17)) ?_
    obtain ⟨q24, M⟩ := chk M
    obtain ⟨b25, o26, e27⟩ := Rd.addr h4 (show (x14).toNat < x1.length by omega)
    obtain ⟨y28, r29, k30⟩ := Rd.at h4 e27 (getD_some z65 (show (x14).toNat < x1.length by omega))
    obtain ⟨A31, c32, rfl, l33, h34⟩ := st65_open r29
    refine qv (d := 19) rfl rfl (by kernel_rfl) (fun wq_ hq_ => e_indexAddr (b := b25) (off := o26) (n := x1.length) (c := c3) (sz := 3) (i := x14) (k := .i64) Try.underlying25 e27 (by kernel_rfl) (by kernel_rfl) (by kernel_rfl) q24 q23) ?_
    refine qv (d := 20) rfl rfl (by kernel_rfl) (fun wq_ hq_ => e_loadS (b := b25) (off := o26 + (x14 : Int).toNat * 3) (cs := [.int .i64 ((x1.getD ((x14).toNat) z65).kind), .int .i64 ((x1.getD ((x14).toNat) z65).n), .slice A31 ((x1.getD ((x14).toNat) z65).text).length c32]) Try.underlying65 rfl (by kernel_rfl) (by kernel_rfl) (fun j_ u_ e_ => (hpx ((S18.still hq_).1.inv.cell (k30 j_ u_ e_))))) ?_
    refine qv (d := 21) rfl rfl (by kernel_rfl) (fun wq_ hq_ => e_move (v := .slice A7 x6.length c8) (by exact e16)) ?_
    refine qv (d := 22) rfl rfl (by kernel_rfl) (fun wq_ hq_ => e_move (v := .int .i64 x14) (by exact e17)) ?_
    obtain ⟨q35, M⟩ := chk M
    obtain ⟨b36, o37, e38⟩ := Rd.addr h9 (show (x14).toNat < x6.length by omega)
    obtain ⟨y39, r40, k41⟩ := Rd.at h9 e38 (getD_some z65 (show (x14).toNat < x6.length by omega))
    obtain ⟨A42, c43, rfl, l44, h45⟩ := st65_open r40
    refine qv (d := 23) rfl rfl (by kernel_rfl) (fun wq_ hq_ => e_indexAddr (b := b36) (off := o37) (n := x6.length) (c := c8) (sz := 3) (i := x14) (k := .i64) Try.underlying25 e38 (by kernel_rfl) (by kernel_rfl) (by kernel_rfl) q24 q35) ?_
    refine qv (d := 24) rfl rfl (by kernel_rfl) (fun wq_ hq_ => e_loadS (b := b36) (off := o37 + (x14 : Int).toNat * 3) (cs := [.int .i64 ((x6.getD ((x14).toNat) z65).kind), .int .i64 ((x6.getD ((x14).toNat) z65).n), .slice A42 ((x6.getD ((x14).toNat) z65).text).length c43]) Try.underlying65 rfl (by kernel_rfl) (by kernel_rfl) (fun j_ u_ e_ => (hpx ((S18.still hq_).1.inv.cell (k41 j_ u_ e_))))) ?_
    obtain ⟨t46, u47, M⟩ := bnd M
    refine qcall (v := .bool t46) (d := 25) rfl rfl (by kernel_rfl) (fun w_ => e_call (l := [.tmp 20, .tmp 24]) (vs := [.agg #[.int .i64 ((x1.getD ((x14).toNat) z65).kind), .int .i64 ((x1.getD ((x14).toNat) z65).n), .slice A31 ((x1.getD ((x14).toNat) z65).text).length c32], .agg #[.int .i64 ((x6.getD ((x14).toNat) z65).kind), .int .i64 ((x6.getD ((x14).toNat) z65).n), .slice A42 ((x6.getD ((x14).toNat) z65).text).length c43]]) Try.func59 (by kernel_rfl) rfl (by kernel_rfl) rfl) (fun wq_ hq_ => (by obtain ⟨S_, K_⟩ := S18.still hq_; exact (laws_eqCell.calls k22 wq_ H (x1.getD ((x14).toNat) z65) A31 c32 (x6.getD ((x14).toNat) z65) A42 c43 h34 l33 h45 l44 S_.own0 t46 u47))) ?_
    refine qv (d := 26) rfl rfl (by kernel_rfl) (fun wq_ hq_ => e_notv (c := t46) (by kernel_rfl)) ?_
    refine wpQuiet_nil ?_
    intro w48 C51
    obtain ⟨S49, K50⟩ := S18.still C51
    refine then_n ?_
    by_cases q52 : ¬ (t46 = true)
    · replace M := ifp q52 M
      refine cond_t rfl (bt q52 (by kernel_rfl)) ?_
      refine wp_seq ?_
      refine wp_region_lit ?_
      refine lv (d := 4) rfl rfl (by kernel_rfl) (e_assign (v := .bool false) rfl) ?_
      refine wpList_nil ?_
      refine then_n ?_
      refine wp_ret ?_
      refine inb_r ?_
      refine then_r ?_
      refine then_r ?_
      refine inb_r ?_
      refine then_r ?_
      obtain rfl := Option.some.inj M
      exact ret1 rfl rfl  (show _ = .bool false from (by kernel_rfl)) ⟨rfl, S49.chg⟩
    replace M := ifn q52 M
    refine cond_f rfl (bf q52 (by kernel_rfl)) ?_
    refine wp_skip ?_
    refine inb_n ?_
    refine then_n ?_
    refine wp_region_lit ?_
    refine lv (d := 15) rfl rfl (by kernel_rfl) (e_move (v := .int .i64 x14) (by exact e17)) ?_
    refine lv (d := 16) rfl rfl (by kernel_rfl) (e_add (k := .i64) (a := x14) (b := 1) (by kernel_rfl) rfl) ?_
    refine lv (d := 5) rfl rfl (by kernel_rfl) (e_assign (v := .int .i64 (IntKind.i64.wrap (x14 + 1))) (by kernel_rfl)) ?_
    refine wpList_nil ?_
    refine then_n ?_
    exact ⟨k22, (by omega), _, (IntKind.i64.wrap (x14 + 1)), rfl, (by exact e15), (by exact e16), (by kernel_rfl), S49, M⟩
  replace M := ifn q23 M
  refine cond_f rfl (bf q23 (by kernel_rfl)) ?_
  refine wp_exit ?_
  refine then_e ?_
  refine then_e ?_
  refine inb_hit ?_
  refine then_n ?_
  refine wp_seq ?_
  refine wp_region_lit ?_
  refine lv (d := 4) rfl rfl (by kernel_rfl) (e_assign (v := .bool true) rfl) ?_
  refine wpList_nil ?_
  refine then_n ?_
  refine wp_ret ?_
  obtain rfl := Option.some.inj M
  exact ret1 rfl rfl  (show _ = .bool true from (by kernel_rfl)) ⟨rfl, S18.chg⟩

/-! laws_eqCellSS -/
def laws_eqCellSS.l0 : Nat → (List (List Cell)) → (List (List Cell)) → Int → Option Bool
  | 0, _, _, _ => none
  | k22 + 1, x1, x6, x14 => (if x14 < (x1.length : Int) then (if 0 ≤ x14 then (if x14 < (x6.length : Int) then ((laws_eqCellS.f k22 (x1.getD ((x14).toNat) ([] : List Cell)) (x6.getD ((x14).toNat) ([] : List Cell))).bind fun t46 => (if ¬ (t46 = true) then some false else (laws_eqCellSS.l0 k22 x1 x6 (IntKind.i64.wrap (x14 + 1))))) else none) else none) else some true)
def laws_eqCellSS.f (k : Nat) (x1 : List (List Cell)) (x6 : List (List Cell)) : Option Bool := (if (x1.length : Int) ≠ (x6.length : Int) then some false else (laws_eqCellSS.l0 k x1 x6 0))
theorem laws_eqCellSS.calls (k : Nat) (w : World) (H : Hp) (x1 : List (List Cell)) (A2 : Option Addr) (c3 : Nat) (x6 : List (List Cell)) (A7 : Option Addr) (c8 : Nat) (h4 : Rd sl65 H A2 x1) (l5 : x1.length ≤ c3) (h9 : Rd sl65 H A7 x6) (l10 : x6.length ≤ c8) (S : Own [] H w) (r : Bool) (M : laws_eqCellSS.f k x1 x6 = some r) :
    Calls Try.prog 36 #[.slice A2 x1.length c3, .slice A7 x6.length c8] w (fun e e_w => e = .returned (.bool r) ∧ Chg no w e_w) := by
  rw [laws_eqCellSS.f] at M
  refine enter (l := [.slice A2 x1.length c3, .slice A7 x6.length c8]) 27 Try.func36 rfl rfl rfl ?_
  have S0_ := S.st
  refine wp_seq ?_
  refine wp_region_lit ?_
  refine lv (d := 4) rfl rfl (by kernel_rfl) (e_assign (v := .bool false) rfl) ?_
  refine wpList_nil ?_
  refine then_n ?_
  refine wp_seq ?_
  refine wp_seq ?_
  refine wp_region_lit ?_
  refine lv (d := 6) rfl rfl (by kernel_rfl) (e_move (v := .slice A2 x1.length c3) (by kernel_rfl)) ?_
  refine lv (d := 7) rfl rfl (by kernel_rfl) (e_len (A := A2) (n := x1.length) (c := c3) Try.underlying38 (by kernel_rfl)) ?_
  refine lv (d := 8) rfl rfl (by kernel_rfl) (e_move (v := .slice A7 x6.length c8) (by kernel_rfl)) ?_
  refine lv (d := 9) rfl rfl (by kernel_rfl) (e_len (A := A7) (n := x6.length) (c := c8) Try.underlying38 (by kernel_rfl)) ?_
  refine lv (d := 10) rfl rfl (by kernel_rfl) (e_neq (k := .i64) (a := (x1.length : Int)) (b := (x6.length : Int)) (by kernel_rfl) (by kernel_rfl)) ?_
  refine wpList_nil ?_
  refine then_n ?_
  by_cases q11 : (x1.length : Int) ≠ (x6.length : Int)
  · replace M := ifp q11 M
    refine cond_t rfl (bt q11 (by kernel_rfl)) ?_
    refine wp_seq ?_
    refine wp_region_lit ?_
    refine lv (d := 4) rfl rfl (by kernel_rfl) (e_assign (v := .bool false) rfl) ?_
    refine wpList_nil ?_
    refine then_n ?_
    refine wp_ret ?_
    refine then_r ?_
    obtain rfl := Option.some.inj M
    exact ret1 rfl rfl  (show _ = .bool false from (by kernel_rfl)) ⟨rfl, S0_.chg⟩
  replace M := ifn q11 M
  refine cond_f rfl (bf q11 (by kernel_rfl)) ?_
  refine wp_skip ?_
  refine then_n ?_
  refine wp_seq ?_
  refine wp_seq ?_
  refine wp_region_lit ?_
  refine lv (d := 5) rfl rfl (by kernel_rfl) (e_assign (v := .int .i64 0) rfl) ?_
  refine wpList_nil ?_
  refine then_n ?_
  refine wp_block ?_
  refine wp_loop_g (fun k20 a21 w12 => ∃ (f13 : Nat → Value) (x14 : Int), a21 = mk 27 f13 ∧ f13 0 = .slice A2 x1.length c3 ∧ f13 1 = .slice A7 x6.length c8 ∧ f13 5 = .int .i64 x14 ∧ St (anyOf []) H w [] H w12 ∧ laws_eqCellSS.l0 k20 x1 x6 x14 = some r) k ⟨_, 0, rfl, (by kernel_rfl), (by kernel_rfl), (by kernel_rfl), S0_, M⟩ ?_
  clear M
  rintro k20 a21 w12 ⟨f13, x14, rfl, e15, e16, e17, S18, M⟩
  rcases k20 with _ | k22
  · rw [laws_eqCellSS.l0] at M
    cases M
  rw [laws_eqCellSS.l0] at M
  refine wp_seq ?_
  refine wp_seq ?_
  refine wp_region_lit ?_
  refine lv (d := 11) rfl rfl (by kernel_rfl) (e_move (v := .int .i64 x14) (by exact e17)) ?_
  refine lv (d := 12) rfl rfl (by kernel_rfl) (e_move (v := .slice A2 x1.length c3) (by exact e15)) ?_
  refine lv (d := 13) rfl rfl (by kernel_rfl) (e_len (A := A2) (n := x1.length) (c := c3) Try.underlying38 (by kernel_rfl)) ?_
  refine lv (d := 14) rfl rfl (by kernel_rfl) (e_lss (k := .i64) (a := x14) (b := (x1.length : Int)) (by kernel_rfl) (by kernel_rfl)) ?_
  refine wpList_nil ?_
  refine then_n ?_
  by_cases q23 : x14 < (x1.length : Int)
  · replace M := ifp q23 M
    refine cond_t rfl (bt q23 (by kernel_rfl)) ?_
    refine wp_skip ?_
    refine then_n ?_
    refine wp_seq ?_
    refine wp_block ?_
    refine wp_seq ?_
    refine region_quiet (by kernel_rfl) (by kernel_rfl) ?_
    refine qv (d := 17) rfl rfl (by kernel_rfl) (fun wq_ hq_ => e_move (v := .slice A2 x1.length c3) (by exact e15)) ?_
    refine qv (d := 18) rfl rfl (by kernel_rfl) (fun wq_ hq_ => e_move (v := .int .i64 x14) (by exact e17)) ?_
    obtain ⟨q24, M⟩ := chk M
    obtain ⟨b25, o26, e27⟩ := Rd.addr h4 (show (x14).toNat < x1.length by omega)
    obtain ⟨y28, r29, k30⟩ := Rd.at h4 e27 (getD_some ([] : List Cell) (show (x14).toNat < x1.length by omega))
    obtain ⟨A31, c32, rfl, l33, h34⟩ := r29
    refine qv (d := 19) rfl rfl (by kernel_rfl) (fun wq_ hq_ => e_indexAddr (b := b25) (off := o26) (n := x1.length) (c := c3) (sz := 1) (i := x14) (k := .i64) Try.underlying38 e27 (by kernel_rfl) (by kernel_rfl) (by kernel_rfl) q24 q23) ?_
    refine qv (d := 20) rfl rfl (by kernel_rfl) (fun wq_ hq_ => e_load1 (ad := ⟨b25, o26 + (x14 : Int).toNat * 1, none⟩) (v := .slice A31 (x1.getD ((x14).toNat) ([] : List Cell)).length c32) Try.underlying25 rfl (by kernel_rfl) (hpx ((S18.still hq_).1.inv.cell (k30 0 _ rfl)))) ?_
    refine qv (d := 21) rfl rfl (by kernel_rfl) (fun wq_ hq_ => e_move (v := .slice A7 x6.length c8) (by exact e16)) ?_
    refine qv (d := 22) rfl rfl (by kernel_rfl) (fun wq_ hq_ => e_move (v := .int .i64 x14) (by exact e17)) ?_
    obtain ⟨q35, M⟩ := chk M
    obtain ⟨b36, o37, e38⟩ := Rd.addr h9 (show (x14).toNat < x6.length by omega)
    obtain ⟨y39, r40, k41⟩ := Rd.at h9 e38 (getD_some ([] : List Cell) (show (x14).toNat < x6.length by omega))
    obtain ⟨A42, c43, rfl, l44, h45⟩ := r40
    refine qv (d := 23) rfl rfl (by kernel_rfl) (fun wq_ hq_ => e_indexAddr (b := b36) (off := o37) (n := x6.length) (c := c8) (sz := 1) (i := x14) (k := .i64) Try.underlying38 e38 (by kernel_rfl) (by kernel_rfl) (by kernel_rfl) q24 q35) ?_
    refine qv (d := 24) rfl rfl (by kernel_rfl) (fun wq_ hq_ => e_load1 (ad := ⟨b36, o37 + (x14 : Int).toNat * 1, none⟩) (v := .slice A42 (x6.getD ((x14).toNat) ([] : List Cell)).length c43) Try.underlying25 rfl (by kernel_rfl) (hpx ((S18.still hq_).1.inv.cell (k41 0 _ rfl)))) ?_
    obtain ⟨t46, u47, M⟩ := bnd M
    refine qcall (v := .bool t46) (d := 25) rfl rfl (by kernel_rfl) (fun w_ => e_call (l := [.tmp 20, .tmp 24]) (vs := [.slice A31 (x1.getD ((x14).toNat) ([] : List Cell)).length c32, .slice A42 (x6.getD ((x14).toNat) ([] : List Cell)).length c43]) Try.func18 (by kernel_rfl) rfl (by kernel_rfl) rfl) (fun wq_ hq_ => (by obtain ⟨S_, K_⟩ := S18.still hq_; exact (laws_eqCellS.calls k22 wq_ H (x1.getD ((x14).toNat) ([] : List Cell)) A31 c32 (x6.getD ((x14).toNat) ([] : List Cell)) A42 c43 h34 l33 h45 l44 S_.own0 t46 u47))) ?_
    refine qv (d := 26) rfl rfl (by kernel_rfl) (fun wq_ hq_ => e_notv (c := t46) (by kernel_rfl)) ?_
    refine wpQuiet_nil ?_
    intro w48 C51
    obtain ⟨S49, K50⟩ := S18.still C51
    refine then_n ?_
    by_cases q52 : ¬ (t46 = true)
    · replace M := ifp q52 M
      refine cond_t rfl (bt q52 (by kernel_rfl)) ?_
      refine wp_seq ?_
      refine wp_region_lit ?_
      refine lv (d := 4) rfl rfl (by kernel_rfl) (e_assign (v := .bool false) rfl) ?_
      refine wpList_nil ?_
      refine then_n ?_
      refine wp_ret ?_
      refine inb_r ?_
      refine then_r ?_
      refine then_r ?_
      refine inb_r ?_
      refine then_r ?_
      obtain rfl := Option.some.inj M
      exact ret1 rfl rfl  (show _ = .bool false from (by kernel_rfl)) ⟨rfl, S49.chg⟩
    replace M := ifn q52 M
    refine cond_f rfl (bf q52 (by kernel_rfl)) ?_
    refine wp_skip ?_
    refine inb_n ?_
    refine then_n ?_
    refine wp_region_lit ?_
    refine lv (d := 15) rfl rfl (by kernel_rfl) (e_move (v := .int .i64 x14) (by exact e17)) ?_
    refine lv (d := 16) rfl rfl (by kernel_rfl) (e_add (k := .i64) (a := x14) (b := 1) (by kernel_rfl) rfl) ?_
    refine lv (d := 5) rfl rfl (by kernel_rfl) (e_assign (v := .int .i64 (IntKind.i64.wrap (x14 + 1))) (by kernel_rfl)) ?_
    refine wpList_nil ?_
    refine then_n ?_
    exact ⟨k22, (by omega), _, (IntKind.i64.wrap (x14 + 1)), rfl, (by exact e15), (by exact e16), (by kernel_rfl), S49, M⟩
  replace M := ifn q23 M
  refine cond_f rfl (bf q23 (by kernel_rfl)) ?_
  refine wp_exit ?_
  refine then_e ?_
  refine then_e ?_
  refine inb_hit ?_
  refine then_n ?_
  refine wp_seq ?_
  refine wp_region_lit ?_
  refine lv (d := 4) rfl rfl (by kernel_rfl) (e_assign (v := .bool true) rfl) ?_
  refine wpList_nil ?_
  refine then_n ?_
  refine wp_ret ?_
  obtain rfl := Option.some.inj M
  exact ret1 rfl rfl  (show _ = .bool true from (by kernel_rfl)) ⟨rfl, S18.chg⟩

/-! laws_markByteS -/
def laws_markByteS_2.l0 : Nat → (List UInt8) → Int → Int → (List UInt8) → Option (Int × (List UInt8))
  | 0, _, _, _, _ => none
  | k21 + 1, x1, x9, x10, x12 => (if x10 < (x1.length : Int) then (if 0 ≤ x10 then (laws_markByteS_2.l0 k21 x1 (IntKind.i64.wrap (x9 + 1)) (IntKind.i64.wrap (x10 + 1)) (x12.set ((x10).toNat) (b8 (x9)))) else none) else some (x9, x12))
def laws_markByteS_2.f (k : Nat) (x1 : List UInt8) (x6 : Int) : Option (Int × (List UInt8)) := (laws_markByteS_2.l0 k x1 x6 0 x1)
theorem laws_markByteS_2.calls (k : Nat) (w : World) (H : Hp) (x1 : List UInt8) (A2 : Option Addr) (c3 : Nat) (F5 : Foot) (x6 : Int) (h4 : Row tByte 5 H (hp w) F5 A2 c3 x1) (S : Own [F5] H w) (r : Int × (List UInt8)) (M : laws_markByteS_2.f k x1 x6 = some r) :
    Calls Try.prog 65 #[.slice A2 x1.length c3, .int .i64 x6] w (fun e e_w => ∃ (F_1 : Foot) (H_ : Hp), e = .returned (.int .i64 r.1) ∧ r.2.length = x1.length ∧ Row tByte 5 H_ (hp e_w) F_1 A2 c3 r.2 ∧ St (anyOf [F5]) H w [F_1] H_ e_w) := by
  rw [laws_markByteS_2.f] at M
  refine enter (l := [.slice A2 x1.length c3, .int .i64 x6]) 20 Try.func65 rfl rfl rfl ?_
  have S0_ := S.st
  refine wp_seq ?_
  refine wp_region_lit ?_
  refine lv (d := 4) rfl rfl (by kernel_rfl) (e_assign (v := .int .i64 0) rfl) ?_
  refine wpList_nil ?_
  refine then_n ?_
  refine wp_seq ?_
  refine wp_seq ?_
  refine wp_region_lit ?_
  refine lv (d := 5) rfl rfl (by kernel_rfl) (e_assign (v := .int .i64 0) rfl) ?_
  refine wpList_nil ?_
  refine then_n ?_
  refine wp_block ?_
  refine wp_loop_g (fun k19 a20 w7 => ∃ (f8 : Nat → Value) (x9 : Int) (x10 : Int) (F11 : Foot) (x12 : List UInt8), a20 = mk 20 f8 ∧ f8 0 = .slice A2 x1.length c3 ∧ f8 1 = .int .i64 x9 ∧ f8 5 = .int .i64 x10 ∧ Row tByte 5 H (hp w7) F11 A2 c3 x12 ∧ x12.length = x1.length ∧ St (anyOf [F5]) H w [F11] H w7 ∧ laws_markByteS_2.l0 k19 x1 x9 x10 x12 = some r) k ⟨_, x6, 0, F5, x1, rfl, (by kernel_rfl), (by kernel_rfl), (by kernel_rfl), h4, rfl, S0_, M⟩ ?_
  clear M
  rintro k19 a20 w7 ⟨f8, x9, x10, F11, x12, rfl, e14, e15, e16, h4, n13, S17, M⟩
  rcases k19 with _ | k21
  · rw [laws_markByteS_2.l0] at M
    cases M
  rw [laws_markByteS_2.l0] at M
  refine wp_seq ?_
  refine wp_seq ?_
  refine wp_region_lit ?_
  refine lv (d := 6) rfl rfl (by kernel_rfl) (e_move (v := .int .i64 x10) (by exact e16)) ?_
  refine lv (d := 7) rfl rfl (by kernel_rfl) (e_move (v := .slice A2 x1.length c3) (by exact e14)) ?_
  refine lv (d := 8) rfl rfl (by kernel_rfl) (e_len (A := A2) (n := x1.length) (c := c3) Try.underlying59 (by kernel_rfl)) ?_
  refine lv (d := 9) rfl rfl (by kernel_rfl) (e_lss (k := .i64) (a := x10) (b := (x1.length : Int)) (by kernel_rfl) (by kernel_rfl)) ?_
  refine wpList_nil ?_
  refine then_n ?_
  by_cases q22 : x10 < (x1.length : Int)
  · replace M := ifp q22 M
    refine cond_t rfl (bt q22 (by kernel_rfl)) ?_
    refine wp_skip ?_
    refine then_n ?_
    refine wp_seq ?_
    refine wp_block ?_
    refine wp_seq ?_
    refine wp_region_lit ?_
    refine lv (d := 12) rfl rfl (by kernel_rfl) (e_move (v := .slice A2 x1.length c3) (by exact e14)) ?_
    refine lv (d := 13) rfl rfl (by kernel_rfl) (e_move (v := .int .i64 x10) (by exact e16)) ?_
    refine lv (d := 14) rfl rfl (by kernel_rfl) (e_move (v := .int .i64 x9) (by exact e15)) ?_
    refine lv (d := 15) rfl rfl (by kernel_rfl) (e_conv_i8 (k := .i64) (a := x9) (by kernel_rfl) Try.underlying5 (by kernel_rfl)) ?_
    obtain ⟨q23, M⟩ := chk M
    obtain ⟨b24, e26⟩ := Row.addr h4 (show (x10).toNat < x12.length by have : x12.length = x1.length := n13; omega)
    refine lv (d := 16) rfl rfl (by kernel_rfl) (e_indexAddr (b := b24) (off := 0) (n := x1.length) (c := c3) (sz := 1) (i := x10) (k := .i64) Try.underlying59 e26 (by kernel_rfl) (by kernel_rfl) (by kernel_rfl) q23 q22) ?_
    have S27 := S17.unit
    have S28 := S27.pull (F := F11) (Fr := [no]) 1 rfl rfl
    refine lse rfl rfl (by kernel_rfl) (e_setel (d := tByte) (b := b24) (i := (x10).toNat) (v := .int .u8 ((b8 (x9)).toNat : Int)) (vs := [.int .u8 ((b8 (x9)).toNat : Int)]) (yv := (b8 (x9))) S28 (by kernel_rfl) e26 (by kernel_rfl) rfl (by kernel_rfl) h4 (show (x10).toNat < x12.length by have : x12.length = x1.length := n13; omega) rfl) ?_
    rintro w29 ⟨F31, h30, S32, K33⟩
    clear h4
    refine wpList_nil ?_
    refine then_n ?_
    refine wp_region_lit ?_
    refine lv (d := 17) rfl rfl (by kernel_rfl) (e_move (v := .int .i64 x9) (by exact e15)) ?_
    refine lv (d := 18) rfl rfl (by kernel_rfl) (e_add (k := .i64) (a := x9) (b := 1) (by kernel_rfl) rfl) ?_
    refine lv (d := 1) rfl rfl (by kernel_rfl) (e_assign (v := .int .i64 (IntKind.i64.wrap (x9 + 1))) (by kernel_rfl)) ?_
    refine wpList_nil ?_
    refine inb_n ?_
    refine then_n ?_
    refine wp_region_lit ?_
    refine lv (d := 10) rfl rfl (by kernel_rfl) (e_move (v := .int .i64 x10) (by exact e16)) ?_
    refine lv (d := 11) rfl rfl (by kernel_rfl) (e_add (k := .i64) (a := x10) (b := 1) (by kernel_rfl) rfl) ?_
    refine lv (d := 5) rfl rfl (by kernel_rfl) (e_assign (v := .int .i64 (IntKind.i64.wrap (x10 + 1))) (by kernel_rfl)) ?_
    refine wpList_nil ?_
    refine then_n ?_
    exact ⟨k21, (by omega), _, (IntKind.i64.wrap (x9 + 1)), (IntKind.i64.wrap (x10 + 1)), F31, (x12.set ((x10).toNat) (b8 (x9))), rfl, (by exact e14), (by kernel_rfl), (by kernel_rfl), h30, (List.length_set.trans n13), S32, M⟩
  replace M := ifn q22 M
  refine cond_f rfl (bf q22 (by kernel_rfl)) ?_
  refine wp_exit ?_
  refine then_e ?_
  refine then_e ?_
  refine inb_hit ?_
  refine then_n ?_
  refine wp_seq ?_
  refine wp_region_lit ?_
  refine lv (d := 19) rfl rfl (by kernel_rfl) (e_move (v := .int .i64 x9) (by exact e15)) ?_
  refine lv (d := 4) rfl rfl (by kernel_rfl) (e_assign (v := .int .i64 x9) (by kernel_rfl)) ?_
  refine wpList_nil ?_
  refine then_n ?_
  refine wp_ret ?_
  obtain rfl := Option.some.inj M
  exact ret1 rfl rfl  (show _ = .int .i64 x9 from (by kernel_rfl)) ⟨F11, H, rfl, n13, h4, S17⟩

/-! laws_markCellS -/
def laws_markCellS_2.l0 : Nat → (List Cell) → Int → Int → (List Cell) → Option (Int × (List Cell))
  | 0, _, _, _, _ => none
  | k23 + 1, x1, x11, x12, x14 => (if x12 < (x1.length : Int) then (if 0 ≤ x12 then ((laws_markByteS_2.f k23 ((((x14.set ((x12).toNat) ({(x14.getD ((x12).toNat) z65) with kind := x11})).set ((x12).toNat) ({((x14.set ((x12).toNat) ({(x14.getD ((x12).toNat) z65) with kind := x11})).getD ((x12).toNat) z65) with n := (IntKind.i64.wrap (x11 + 1))})).getD ((x12).toNat) z65).text) (IntKind.i64.wrap ((IntKind.i64.wrap (x11 + 1)) + 1))).bind fun t70 => (laws_markCellS_2.l0 k23 x1 t70.1 (IntKind.i64.wrap (x12 + 1)) (((x14.set ((x12).toNat) ({(x14.getD ((x12).toNat) z65) with kind := x11})).set ((x12).toNat) ({((x14.set ((x12).toNat) ({(x14.getD ((x12).toNat) z65) with kind := x11})).getD ((x12).toNat) z65) with n := (IntKind.i64.wrap (x11 + 1))})).set ((x12).toNat) ({(((x14.set ((x12).toNat) ({(x14.getD ((x12).toNat) z65) with kind := x11})).set ((x12).toNat) ({((x14.set ((x12).toNat) ({(x14.getD ((x12).toNat) z65) with kind := x11})).getD ((x12).toNat) z65) with n := (IntKind.i64.wrap (x11 + 1))})).getD ((x12).toNat) z65) with text := t70.2})))) else none) else some (x11, x14))
def laws_markCellS_2.f (k : Nat) (x1 : List Cell) (x6 : Int) : Option (Int × (List Cell)) := (laws_markCellS_2.l0 k x1 x6 0 x1)
theorem laws_markCellS_2.calls (k : Nat) (w : World) (H : Hp) (x1 : List Cell) (A2 : Option Addr) (c3 : Nat) (F5 : Foot) (x6 : Int) (h4 : Row st65 65 H (hp w) F5 A2 c3 x1) (S : Own [F5] H w) (r : Int × (List Cell)) (M : laws_markCellS_2.f k x1 x6 = some r) :
    Calls Try.prog 24 #[.slice A2 x1.length c3, .int .i64 x6] w (fun e e_w => ∃ (F_1 : Foot) (H_ : Hp), e = .returned (.int .i64 r.1) ∧ r.2.length = x1.length ∧ Row st65 65 H_ (hp e_w) F_1 A2 c3 r.2 ∧ St (anyOf [F5]) H w [F_1] H_ e_w) := by
  rw [laws_markCellS_2.f] at M
  refine enter (l := [.slice A2 x1.length c3, .int .i64 x6]) 34 Try.func24 rfl rfl rfl ?_
  have S0_ := S.st
  refine wp_seq ?_
  refine wp_region_lit ?_
  refine lv (d := 4) rfl rfl (by kernel_rfl) (e_assign (v := .int .i64 0) rfl) ?_
  refine wpList_nil ?_
  refine then_n ?_
  refine wp_seq ?_
  refine wp_seq ?_
  refine wp_region_lit ?_
  refine lv (d := 5) rfl rfl (by kernel_rfl) (e_assign (v := .int .i64 0) rfl) ?_
  refine wpList_nil ?_
  refine then_n ?_
  refine wp_block ?_
  refine wp_loop_g (fun k21 a22 w7 => ∃ (f8 : Nat → Value) (H9 : Hp) (x11 : Int) (x12 : Int) (F13 : Foot) (x14 : List Cell), a22 = mk 34 f8 ∧ f8 0 = .slice A2 x1.length c3 ∧ f8 1 = .int .i64 x11 ∧ f8 5 = .int .i64 x12 ∧ Row st65 65 H9 (hp w7) F13 A2 c3 x14 ∧ x14.length = x1.length ∧ Ext H H9 ∧ St (anyOf [F5]) H w [F13] H9 w7 ∧ laws_markCellS_2.l0 k21 x1 x11 x12 x14 = some r) k ⟨_, H, x6, 0, F5, x1, rfl, (by kernel_rfl), (by kernel_rfl), (by kernel_rfl), h4, rfl, (Ext.refl _), S0_, M⟩ ?_
  clear M
  rintro k21 a22 w7 ⟨f8, H9, x11, x12, F13, x14, rfl, e16, e17, e18, h4, n15, Y10, S19, M⟩
  rcases k21 with _ | k23
  · rw [laws_markCellS_2.l0] at M
    cases M
  rw [laws_markCellS_2.l0] at M
  refine wp_seq ?_
  refine wp_seq ?_
  refine wp_region_lit ?_
  refine lv (d := 6) rfl rfl (by kernel_rfl) (e_move (v := .int .i64 x12) (by exact e18)) ?_
  refine lv (d := 7) rfl rfl (by kernel_rfl) (e_move (v := .slice A2 x1.length c3) (by exact e16)) ?_
  refine lv (d := 8) rfl rfl (by kernel_rfl) (e_len (A := A2) (n := x1.length) (c := c3) Try.underlying25 (by kernel_rfl)) ?_
  refine lv (d := 9) rfl rfl (by kernel_rfl) (e_lss (k := .i64) (a := x12) (b := (x1.length : Int)) (by kernel_rfl) (by kernel_rfl)) ?_
  refine wpList_nil ?_
  refine then_n ?_
  by_cases q24 : x12 < (x1.length : Int)
  · replace M := ifp q24 M
    refine cond_t rfl (bt q24 (by kernel_rfl)) ?_
    refine wp_skip ?_
    refine then_n ?_
    refine wp_seq ?_
    refine wp_block ?_
    refine wp_seq ?_
    refine wp_region_lit ?_
    refine lv (d := 12) rfl rfl (by kernel_rfl) (e_move (v := .slice A2 x1.length c3) (by exact e16)) ?_
    refine lv (d := 13) rfl rfl (by kernel_rfl) (e_move (v := .int .i64 x12) (by exact e18)) ?_
    refine lv (d := 14) rfl rfl (by kernel_rfl) (e_move (v := .int .i64 x11) (by exact e17)) ?_
    obtain ⟨q25, M⟩ := chk M
    obtain ⟨b26, e28⟩ := Row.addr h4 (show (x12).toNat < x14.length by have : x14.length = x1.length := n15; omega)
    refine lv (d := 15) rfl rfl (by kernel_rfl) (e_indexAddr (b := b26) (off := 0) (n := x1.length) (c := c3) (sz := 3) (i := x12) (k := .i64) Try.underlying25 e28 (by kernel_rfl) (by kernel_rfl) (by kernel_rfl) q25 q24) ?_
    refine lv (d := 16) rfl rfl (by kernel_rfl) (e_fieldAddr (b := b26) (off := 0 + (x12 : Int).toNat * 3) (o := 0) Try.underlying65 rfl rfl (sz := 1) (by kernel_rfl) (by decide) (by kernel_rfl)) ?_
    have S29 := S19.unit
    have S30 := S29.pull (F := F13) (Fr := [no]) 1 rfl rfl
    refine lse rfl rfl (by kernel_rfl) (e_setpart (d := st65) (b := b26) (i := (x12).toNat) (j := 0) (v := .int .i64 x11) (vs := [.int .i64 x11]) (yv := {(x14.getD ((x12).toNat) z65) with kind := x11}) S30 (by kernel_rfl) e28 (by kernel_rfl) rfl (by kernel_rfl) h4 (getD_some z65 (show (x12).toNat < x14.length by have : x14.length = x1.length := n15; omega)) (Nat.le_of_ble_eq_true rfl) (List.forall_mem_cons.2 ⟨rfl, (fun _ h_ => by cases h_)⟩) (fun _ _ _ o_ => st65_u0 x11 o_)) ?_
    rintro w31 ⟨F33, h32, S34, K35⟩
    clear h4
    refine wpList_nil ?_
    refine then_n ?_
    refine wp_seq ?_
    refine wp_region_lit ?_
    refine lv (d := 17) rfl rfl (by kernel_rfl) (e_move (v := .int .i64 x11) (by exact e17)) ?_
    refine lv (d := 18) rfl rfl (by kernel_rfl) (e_add (k := .i64) (a := x11) (b := 1) (by kernel_rfl) rfl) ?_
    refine lv (d := 1) rfl rfl (by kernel_rfl) (e_assign (v := .int .i64 (IntKind.i64.wrap (x11 + 1))) (by kernel_rfl)) ?_
    refine wpList_nil ?_
    refine then_n ?_
    refine wp_seq ?_
    refine wp_region_lit ?_
    refine lv (d := 19) rfl rfl (by kernel_rfl) (e_move (v := .slice A2 x1.length c3) (by exact e16)) ?_
    refine lv (d := 20) rfl rfl (by kernel_rfl) (e_move (v := .int .i64 x12) (by exact e18)) ?_
    refine lv (d := 21) rfl rfl (by kernel_rfl) (e_move (v := .int .i64 (IntKind.i64.wrap (x11 + 1))) (by kernel_rfl)) ?_
    obtain ⟨b36, e38⟩ := Row.addr h32 (show (x12).toNat < (x14.set ((x12).toNat) ({(x14.getD ((x12).toNat) z65) with kind := x11})).length by have : (x14.set ((x12).toNat) ({(x14.getD ((x12).toNat) z65) with kind := x11})).length = x1.length := (List.length_set.trans n15); omega)
    refine lv (d := 22) rfl rfl (by kernel_rfl) (e_indexAddr (b := b36) (off := 0) (n := x1.length) (c := c3) (sz := 3) (i := x12) (k := .i64) Try.underlying25 e38 (by kernel_rfl) (by kernel_rfl) (by kernel_rfl) q25 q24) ?_
    refine lv (d := 23) rfl rfl (by kernel_rfl) (e_fieldAddr (b := b36) (off := 0 + (x12 : Int).toNat * 3) (o := 1) Try.underlying65 rfl rfl (sz := 1) (by kernel_rfl) (by decide) (by kernel_rfl)) ?_
    have S39 := S34.unit
    have S40 := S39.pull (F := F33) (Fr := [no]) 1 rfl rfl
    refine lse rfl rfl (by kernel_rfl) (e_setpart (d := st65) (b := b36) (i := (x12).toNat) (j := 1) (v := .int .i64 (IntKind.i64.wrap (x11 + 1))) (vs := [.int .i64 (IntKind.i64.wrap (x11 + 1))]) (yv := {((x14.set ((x12).toNat) ({(x14.getD ((x12).toNat) z65) with kind := x11})).getD ((x12).toNat) z65) with n := (IntKind.i64.wrap (x11 + 1))}) S40 (by kernel_rfl) e38 (by kernel_rfl) rfl (by kernel_rfl) h32 (getD_some z65 (show (x12).toNat < (x14.set ((x12).toNat) ({(x14.getD ((x12).toNat) z65) with kind := x11})).length by have : (x14.set ((x12).toNat) ({(x14.getD ((x12).toNat) z65) with kind := x11})).length = x1.length := (List.length_set.trans n15); omega)) (Nat.le_of_ble_eq_true rfl) (List.forall_mem_cons.2 ⟨rfl, (fun _ h_ => by cases h_)⟩) (fun _ _ _ o_ => st65_u1 (IntKind.i64.wrap (x11 + 1)) o_)) ?_
    rintro w41 ⟨F43, h42, S44, K45⟩
    clear h32
    refine wpList_nil ?_
    refine then_n ?_
    refine wp_seq ?_
    refine wp_region_lit ?_
    refine lv (d := 24) rfl rfl (by kernel_rfl) (e_move (v := .int .i64 (IntKind.i64.wrap (x11 + 1))) (by kernel_rfl)) ?_
    refine lv (d := 25) rfl rfl (by kernel_rfl) (e_add (k := .i64) (a := (IntKind.i64.wrap (x11 + 1))) (b := 1) (by kernel_rfl) rfl) ?_
    refine lv (d := 1) rfl rfl (by kernel_rfl) (e_assign (v := .int .i64 (IntKind.i64.wrap ((IntKind.i64.wrap (x11 + 1)) + 1))) (by kernel_rfl)) ?_
    refine wpList_nil ?_
    refine then_n ?_
    refine wp_region_lit ?_
    refine lv (d := 26) rfl rfl (by kernel_rfl) (e_move (v := .slice A2 x1.length c3) (by exact e16)) ?_
    refine lv (d := 27) rfl rfl (by kernel_rfl) (e_move (v := .int .i64 x12) (by exact e18)) ?_
    obtain ⟨b46, e48⟩ := Row.addr h42 (show (x12).toNat < ((x14.set ((x12).toNat) ({(x14.getD ((x12).toNat) z65) with kind := x11})).set ((x12).toNat) ({((x14.set ((x12).toNat) ({(x14.getD ((x12).toNat) z65) with kind := x11})).getD ((x12).toNat) z65) with n := (IntKind.i64.wrap (x11 + 1))})).length by have : ((x14.set ((x12).toNat) ({(x14.getD ((x12).toNat) z65) with kind := x11})).set ((x12).toNat) ({((x14.set ((x12).toNat) ({(x14.getD ((x12).toNat) z65) with kind := x11})).getD ((x12).toNat) z65) with n := (IntKind.i64.wrap (x11 + 1))})).length = x1.length := (List.length_set.trans (List.length_set.trans n15)); omega)
    refine lv (d := 28) rfl rfl (by kernel_rfl) (e_indexAddr (b := b46) (off := 0) (n := x1.length) (c := c3) (sz := 3) (i := x12) (k := .i64) Try.underlying25 e48 (by kernel_rfl) (by kernel_rfl) (by kernel_rfl) q25 q24) ?_
    refine lv (d := 29) rfl rfl (by kernel_rfl) (e_fieldAddr (b := b46) (off := 0 + (x12 : Int).toNat * 3) (o := 2) Try.underlying65 rfl rfl (sz := 1) (by kernel_rfl) (by decide) (by kernel_rfl)) ?_
    obtain ⟨y54, F55, G56, r57, d58, s59, k60, t61⟩ := Row.lend h42 e48 (getD_some z65 (show (x12).toNat < ((x14.set ((x12).toNat) ({(x14.getD ((x12).toNat) z65) with kind := x11})).set ((x12).toNat) ({((x14.set ((x12).toNat) ({(x14.getD ((x12).toNat) z65) with kind := x11})).getD ((x12).toNat) z65) with n := (IntKind.i64.wrap (x11 + 1))})).length by have : ((x14.set ((x12).toNat) ({(x14.getD ((x12).toNat) z65) with kind := x11})).set ((x12).toNat) ({((x14.set ((x12).toNat) ({(x14.getD ((x12).toNat) z65) with kind := x11})).getD ((x12).toNat) z65) with n := (IntKind.i64.wrap (x11 + 1))})).length = x1.length := (List.length_set.trans (List.length_set.trans n15)); omega))
    obtain ⟨A62, c63, F66, rfl, h64, s65⟩ := st65_openO r57
    refine lv (d := 30) rfl rfl (by kernel_rfl) (e_load1 (ad := ⟨b46, 0 + (x12 : Int).toNat * 3 + 2, none⟩) (v := .slice A62 ((((x14.set ((x12).toNat) ({(x14.getD ((x12).toNat) z65) with kind := x11})).set ((x12).toNat) ({((x14.set ((x12).toNat) ({(x14.getD ((x12).toNat) z65) with kind := x11})).getD ((x12).toNat) z65) with n := (IntKind.i64.wrap (x11 + 1))})).getD ((x12).toNat) z65).text).length c63) Try.underlying59 rfl (by kernel_rfl) (hpx (k60 2 _ rfl))) ?_
    refine lv (d := 31) rfl rfl (by kernel_rfl) (e_move (v := .int .i64 (IntKind.i64.wrap ((IntKind.i64.wrap (x11 + 1)) + 1))) (by kernel_rfl)) ?_
    have S67 := S44.part d58 s59
    have S68 := S67.sub s65
    have q69 : ∀ b_, G56 b_ → hp w41 b_ = hp w41 b_ := fun _ _ => rfl
    obtain ⟨t70, u71, M⟩ := bnd M
    refine lcall (d := 32) rfl rfl (by kernel_rfl) (e_call (l := [.tmp 30, .tmp 31]) (vs := [.slice A62 ((((x14.set ((x12).toNat) ({(x14.getD ((x12).toNat) z65) with kind := x11})).set ((x12).toNat) ({((x14.set ((x12).toNat) ({(x14.getD ((x12).toNat) z65) with kind := x11})).getD ((x12).toNat) z65) with n := (IntKind.i64.wrap (x11 + 1))})).getD ((x12).toNat) z65).text).length c63, .int .i64 (IntKind.i64.wrap ((IntKind.i64.wrap (x11 + 1)) + 1))]) Try.func65 (by kernel_rfl) rfl (by kernel_rfl) rfl) (laws_markByteS_2.calls k23 w41 H9 ((((x14.set ((x12).toNat) ({(x14.getD ((x12).toNat) z65) with kind := x11})).set ((x12).toNat) ({((x14.set ((x12).toNat) ({(x14.getD ((x12).toNat) z65) with kind := x11})).getD ((x12).toNat) z65) with n := (IntKind.i64.wrap (x11 + 1))})).getD ((x12).toNat) z65).text) A62 c63 F66 (IntKind.i64.wrap ((IntKind.i64.wrap (x11 + 1)) + 1)) h64 (St.own' (Fa := [F66]) (Fr := [G56]) S68) t70 u71) ?_
    rintro _ w72 ⟨F76, H73, rfl, n77, h75, T74⟩
    refine ⟨_, rfl, ?_⟩
    obtain ⟨S78, K79⟩ := St.call (Fa := [F66]) (Fr := [G56]) S68 T74
    replace q69 := fun b_ h_ => (K79.at 0 rfl b_ h_).trans (q69 b_ h_)
    have E80 := T74.ext
    have S81 := S78.pull (F := G56) (Fr := [F76]) 1 rfl rfl
    have S82 := S81.pull (F := F76) (Fr := [G56]) 1 rfl rfl
    have h83 := t61 H73 (hp w72) F76 ({(((x14.set ((x12).toNat) ({(x14.getD ((x12).toNat) z65) with kind := x11})).set ((x12).toNat) ({((x14.set ((x12).toNat) ({(x14.getD ((x12).toNat) z65) with kind := x11})).getD ((x12).toNat) z65) with n := (IntKind.i64.wrap (x11 + 1))})).getD ((x12).toNat) z65) with text := t70.2} : Cell) E80 q69 (by have q_ := st65_mkO (x := {(((x14.set ((x12).toNat) ({(x14.getD ((x12).toNat) z65) with kind := x11})).set ((x12).toNat) ({((x14.set ((x12).toNat) ({(x14.getD ((x12).toNat) z65) with kind := x11})).getD ((x12).toNat) z65) with n := (IntKind.i64.wrap (x11 + 1))})).getD ((x12).toNat) z65) with text := t70.2}) h75; rw [show t70.2.length = ((((x14.set ((x12).toNat) ({(x14.getD ((x12).toNat) z65) with kind := x11})).set ((x12).toNat) ({((x14.set ((x12).toNat) ({(x14.getD ((x12).toNat) z65) with kind := x11})).getD ((x12).toNat) z65) with n := (IntKind.i64.wrap (x11 + 1))})).getD ((x12).toNat) z65).text).length from n77] at q_; exact q_) S82.dj
    have S84 := S82.join
    refine lv (d := 1) rfl rfl (by kernel_rfl) (e_assign (v := .int .i64 t70.1) (by kernel_rfl)) ?_
    refine wpList_nil ?_
    refine inb_n ?_
    refine then_n ?_
    refine wp_region_lit ?_
    refine lv (d := 10) rfl rfl (by kernel_rfl) (e_move (v := .int .i64 x12) (by exact e18)) ?_
    refine lv (d := 11) rfl rfl (by kernel_rfl) (e_add (k := .i64) (a := x12) (b := 1) (by kernel_rfl) rfl) ?_
    refine lv (d := 5) rfl rfl (by kernel_rfl) (e_assign (v := .int .i64 (IntKind.i64.wrap (x12 + 1))) (by kernel_rfl)) ?_
    refine wpList_nil ?_
    refine then_n ?_
    exact ⟨k23, (by omega), _, H73, t70.1, (IntKind.i64.wrap (x12 + 1)), (or2 F76 G56), (((x14.set ((x12).toNat) ({(x14.getD ((x12).toNat) z65) with kind := x11})).set ((x12).toNat) ({((x14.set ((x12).toNat) ({(x14.getD ((x12).toNat) z65) with kind := x11})).getD ((x12).toNat) z65) with n := (IntKind.i64.wrap (x11 + 1))})).set ((x12).toNat) ({(((x14.set ((x12).toNat) ({(x14.getD ((x12).toNat) z65) with kind := x11})).set ((x12).toNat) ({((x14.set ((x12).toNat) ({(x14.getD ((x12).toNat) z65) with kind := x11})).getD ((x12).toNat) z65) with n := (IntKind.i64.wrap (x11 + 1))})).getD ((x12).toNat) z65) with text := t70.2})), rfl, (by exact e16), (by kernel_rfl), (by kernel_rfl), h83, (List.length_set.trans (List.length_set.trans (List.length_set.trans n15))), (Y10.trans E80), S84, M⟩
  replace M := ifn q24 M
  refine cond_f rfl (bf q24 (by kernel_rfl)) ?_
  refine wp_exit ?_
  refine then_e ?_
  refine then_e ?_
  refine inb_hit ?_
  refine then_n ?_
  refine wp_seq ?_
  refine wp_region_lit ?_
  refine lv (d := 33) rfl rfl (by kernel_rfl) (e_move (v := .int .i64 x11) (by exact e17)) ?_
  refine lv (d := 4) rfl rfl (by kernel_rfl) (e_assign (v := .int .i64 x11) (by kernel_rfl)) ?_
  refine wpList_nil ?_
  refine then_n ?_
  refine wp_ret ?_
  obtain rfl := Option.some.inj M
  exact ret1 rfl rfl  (show _ = .int .i64 x11 from (by kernel_rfl)) ⟨F13, H9, rfl, n15, h4, S19⟩

/-! laws_markCellSS -/
def laws_markCellSS_2.l0 : Nat → (List (List Cell)) → Int → Int → (List (List Cell)) → Option (Int × (List (List Cell)))
  | 0, _, _, _, _ => none
  | k23 + 1, x1, x11, x12, x14 => (if x12 < (x1.length : Int) then (if 0 ≤ x12 then ((laws_markCellS_2.f k23 (x14.getD ((x12).toNat) ([] : List Cell)) x11).bind fun t48 => (laws_markCellSS_2.l0 k23 x1 t48.1 (IntKind.i64.wrap (x12 + 1)) (x14.set ((x12).toNat) t48.2))) else none) else some (x11, x14))
def laws_markCellSS_2.f (k : Nat) (x1 : List (List Cell)) (x6 : Int) : Option (Int × (List (List Cell))) := (laws_markCellSS_2.l0 k x1 x6 0 x1)
theorem laws_markCellSS_2.calls (k : Nat) (w : World) (H : Hp) (x1 : List (List Cell)) (A2 : Option Addr) (c3 : Nat) (F5 : Foot) (x6 : Int) (h4 : Row sl65 25 H (hp w) F5 A2 c3 x1) (S : Own [F5] H w) (r : Int × (List (List Cell))) (M : laws_markCellSS_2.f k x1 x6 = some r) :
    Calls Try.prog 37 #[.slice A2 x1.length c3, .int .i64 x6] w (fun e e_w => ∃ (F_1 : Foot) (H_ : Hp), e = .returned (.int .i64 r.1) ∧ r.2.length = x1.length ∧ Row sl65 25 H_ (hp e_w) F_1 A2 c3 r.2 ∧ St (anyOf [F5]) H w [F_1] H_ e_w) := by
  rw [laws_markCellSS_2.f] at M
  refine enter (l := [.slice A2 x1.length c3, .int .i64 x6]) 19 Try.func37 rfl rfl rfl ?_
  have S0_ := S.st
  refine wp_seq ?_
  refine wp_region_lit ?_
  refine lv (d := 4) rfl rfl (by kernel_rfl) (e_assign (v := .int .i64 0) rfl) ?_
  refine wpList_nil ?_
  refine then_n ?_
  refine wp_seq ?_
  refine wp_seq ?_
  refine wp_region_lit ?_
  refine lv (d := 5) rfl rfl (by kernel_rfl) (e_assign (v := .int .i64 0) rfl) ?_
  refine wpList_nil ?_
  refine then_n ?_
  refine wp_block ?_
  refine wp_loop_g (fun k21 a22 w7 => ∃ (f8 : Nat → Value) (H9 : Hp) (x11 : Int) (x12 : Int) (F13 : Foot) (x14 : List (List Cell)), a22 = mk 19 f8 ∧ f8 0 = .slice A2 x1.length c3 ∧ f8 1 = .int .i64 x11 ∧ f8 5 = .int .i64 x12 ∧ Row sl65 25 H9 (hp w7) F13 A2 c3 x14 ∧ x14.length = x1.length ∧ Ext H H9 ∧ St (anyOf [F5]) H w [F13] H9 w7 ∧ laws_markCellSS_2.l0 k21 x1 x11 x12 x14 = some r) k ⟨_, H, x6, 0, F5, x1, rfl, (by kernel_rfl), (by kernel_rfl), (by kernel_rfl), h4, rfl, (Ext.refl _), S0_, M⟩ ?_
  clear M
  rintro k21 a22 w7 ⟨f8, H9, x11, x12, F13, x14, rfl, e16, e17, e18, h4, n15, Y10, S19, M⟩
  rcases k21 with _ | k23
  · rw [laws_markCellSS_2.l0] at M
    cases M
  rw [laws_markCellSS_2.l0] at M
  refine wp_seq ?_
  refine wp_seq ?_
  refine wp_region_lit ?_
  refine lv (d := 6) rfl rfl (by kernel_rfl) (e_move (v := .int .i64 x12) (by exact e18)) ?_
  refine lv (d := 7) rfl rfl (by kernel_rfl) (e_move (v := .slice A2 x1.length c3) (by exact e16)) ?_
  refine lv (d := 8) rfl rfl (by kernel_rfl) (e_len (A := A2) (n := x1.length) (c := c3) Try.underlying38 (by kernel_rfl)) ?_
  refine lv (d := 9) rfl rfl (by kernel_rfl) (e_lss (k := .i64) (a := x12) (b := (x1.length : Int)) (by kernel_rfl) (by kernel_rfl)) ?_
  refine wpList_nil ?_
  refine then_n ?_
  by_cases q24 : x12 < (x1.length : Int)
  · replace M := ifp q24 M
    refine cond_t rfl (bt q24 (by kernel_rfl)) ?_
    refine wp_skip ?_
    refine then_n ?_
    refine wp_seq ?_
    refine wp_block ?_
    refine wp_region_lit ?_
    refine lv (d := 12) rfl rfl (by kernel_rfl) (e_move (v := .slice A2 x1.length c3) (by exact e16)) ?_
    refine lv (d := 13) rfl rfl (by kernel_rfl) (e_move (v := .int .i64 x12) (by exact e18)) ?_
    obtain ⟨q25, M⟩ := chk M
    obtain ⟨b26, e28⟩ := Row.addr h4 (show (x12).toNat < x14.length by have : x14.length = x1.length := n15; omega)
    refine lv (d := 14) rfl rfl (by kernel_rfl) (e_indexAddr (b := b26) (off := 0) (n := x1.length) (c := c3) (sz := 1) (i := x12) (k := .i64) Try.underlying38 e28 (by kernel_rfl) (by kernel_rfl) (by kernel_rfl) q25 q24) ?_
    obtain ⟨y34, F35, G36, r37, d38, s39, k40, t41⟩ := Row.lend h4 e28 (getD_some ([] : List Cell) (show (x12).toNat < x14.length by have : x14.length = x1.length := n15; omega))
    obtain ⟨A42, c43, rfl, h44⟩ := r37
    refine lv (d := 15) rfl rfl (by kernel_rfl) (e_load1 (ad := ⟨b26, 0 + (x12 : Int).toNat * 1, none⟩) (v := .slice A42 (x14.getD ((x12).toNat) ([] : List Cell)).length c43) Try.underlying25 rfl (by kernel_rfl) (hpx (k40 0 _ rfl))) ?_
    refine lv (d := 16) rfl rfl (by kernel_rfl) (e_move (v := .int .i64 x11) (by exact e17)) ?_
    have S46 := S19.part d38 s39
    have q47 : ∀ b_, G36 b_ → hp w7 b_ = hp w7 b_ := fun _ _ => rfl
    obtain ⟨t48, u49, M⟩ := bnd M
    refine lcall (d := 17) rfl rfl (by kernel_rfl) (e_call (l := [.tmp 15, .tmp 16]) (vs := [.slice A42 (x14.getD ((x12).toNat) ([] : List Cell)).length c43, .int .i64 x11]) Try.func24 (by kernel_rfl) rfl (by kernel_rfl) rfl) (laws_markCellS_2.calls k23 w7 H9 (x14.getD ((x12).toNat) ([] : List Cell)) A42 c43 F35 x11 h44 (St.own' (Fa := [F35]) (Fr := [G36]) S46) t48 u49) ?_
    rintro _ w50 ⟨F54, H51, rfl, n55, h53, T52⟩
    refine ⟨_, rfl, ?_⟩
    obtain ⟨S56, K57⟩ := St.call (Fa := [F35]) (Fr := [G36]) S46 T52
    replace q47 := fun b_ h_ => (K57.at 0 rfl b_ h_).trans (q47 b_ h_)
    have E58 := T52.ext
    have S59 := S56.pull (F := G36) (Fr := [F54]) 1 rfl rfl
    have S60 := S59.pull (F := F54) (Fr := [G36]) 1 rfl rfl
    have h61 := t41 H51 (hp w50) F54 (t48.2 : List Cell) E58 q47 (⟨_, _, by rw [show t48.2.length = (x14.getD ((x12).toNat) ([] : List Cell)).length from n55], h53⟩) S60.dj
    have S62 := S60.join
    refine lv (d := 1) rfl rfl (by kernel_rfl) (e_assign (v := .int .i64 t48.1) (by kernel_rfl)) ?_
    refine wpList_nil ?_
    refine inb_n ?_
    refine then_n ?_
    refine wp_region_lit ?_
    refine lv (d := 10) rfl rfl (by kernel_rfl) (e_move (v := .int .i64 x12) (by exact e18)) ?_
    refine lv (d := 11) rfl rfl (by kernel_rfl) (e_add (k := .i64) (a := x12) (b := 1) (by kernel_rfl) rfl) ?_
    refine lv (d := 5) rfl rfl (by kernel_rfl) (e_assign (v := .int .i64 (IntKind.i64.wrap (x12 + 1))) (by kernel_rfl)) ?_
    refine wpList_nil ?_
    refine then_n ?_
    exact ⟨k23, (by omega), _, H51, t48.1, (IntKind.i64.wrap (x12 + 1)), (or2 F54 G36), (x14.set ((x12).toNat) t48.2), rfl, (by exact e16), (by kernel_rfl), (by kernel_rfl), h61, (List.length_set.trans n15), (Y10.trans E58), S62, M⟩
  replace M := ifn q24 M
  refine cond_f rfl (bf q24 (by kernel_rfl)) ?_
  refine wp_exit ?_
  refine then_e ?_
  refine then_e ?_
  refine inb_hit ?_
  refine then_n ?_
  refine wp_seq ?_
  refine wp_region_lit ?_
  refine lv (d := 18) rfl rfl (by kernel_rfl) (e_move (v := .int .i64 x11) (by exact e17)) ?_
  refine lv (d := 4) rfl rfl (by kernel_rfl) (e_assign (v := .int .i64 x11) (by kernel_rfl)) ?_
  refine wpList_nil ?_
  refine then_n ?_
  refine wp_ret ?_
  obtain rfl := Option.some.inj M
  exact ret1 rfl rfl  (show _ = .int .i64 x11 from (by kernel_rfl)) ⟨F13, H9, rfl, n15, h4, S19⟩

/-! laws_heldByteS -/
def laws_heldByteS.l0 : Nat → (List UInt8) → Int → Int → Option Int
  | 0, _, _, _ => none
  | k18 + 1, x1, x9, x10 => (if x10 < (x1.length : Int) then (if 0 ≤ x10 then (if ((x1.getD ((x10).toNat) (0 : UInt8)).toNat : Int) ≠ ((b8 (x9)).toNat : Int) then some (-1) else (laws_heldByteS.l0 k18 x1 (IntKind.i64.wrap (x9 + 1)) (IntKind.i64.wrap (x10 + 1)))) else none) else some x9)
def laws_heldByteS.f (k : Nat) (x1 : List UInt8) (x6 : Int) : Option Int := (laws_heldByteS.l0 k x1 x6 0)
theorem laws_heldByteS.calls (k : Nat) (w : World) (H : Hp) (x1 : List UInt8) (A2 : Option Addr) (c3 : Nat) (x6 : Int) (h4 : Rd tByte H A2 x1) (l5 : x1.length ≤ c3) (S : Own [] H w) (r : Int) (M : laws_heldByteS.f k x1 x6 = some r) :
    Calls Try.prog 69 #[.slice A2 x1.length c3, .int .i64 x6] w (fun e e_w => e = .returned (.int .i64 r) ∧ Chg no w e_w) := by
  rw [laws_heldByteS.f] at M
  refine enter (l := [.slice A2 x1.length c3, .int .i64 x6]) 22 Try.func69 rfl rfl rfl ?_
  have S0_ := S.st
  refine wp_seq ?_
  refine wp_region_lit ?_
  refine lv (d := 4) rfl rfl (by kernel_rfl) (e_assign (v := .int .i64 0) rfl) ?_
  refine wpList_nil ?_
  refine then_n ?_
  refine wp_seq ?_
  refine wp_seq ?_
  refine wp_region_lit ?_
  refine lv (d := 5) rfl rfl (by kernel_rfl) (e_assign (v := .int .i64 0) rfl) ?_
  refine wpList_nil ?_
  refine then_n ?_
  refine wp_block ?_
  refine wp_loop_g (fun k16 a17 w7 => ∃ (f8 : Nat → Value) (x9 : Int) (x10 : Int), a17 = mk 22 f8 ∧ f8 0 = .slice A2 x1.length c3 ∧ f8 1 = .int .i64 x9 ∧ f8 5 = .int .i64 x10 ∧ St (anyOf []) H w [] H w7 ∧ laws_heldByteS.l0 k16 x1 x9 x10 = some r) k ⟨_, x6, 0, rfl, (by kernel_rfl), (by kernel_rfl), (by kernel_rfl), S0_, M⟩ ?_
  clear M
  rintro k16 a17 w7 ⟨f8, x9, x10, rfl, e11, e12, e13, S14, M⟩
  rcases k16 with _ | k18
  · rw [laws_heldByteS.l0] at M
    cases M
  rw [laws_heldByteS.l0] at M
  refine wp_seq ?_
  refine wp_seq ?_
  refine wp_region_lit ?_
  refine lv (d := 6) rfl rfl (by kernel_rfl) (e_move (v := .int .i64 x10) (by exact e13)) ?_
  refine lv (d := 7) rfl rfl (by kernel_rfl) (e_move (v := .slice A2 x1.length c3) (by exact e11)) ?_
  refine lv (d := 8) rfl rfl (by kernel_rfl) (e_len (A := A2) (n := x1.length) (c := c3) Try.underlying59 (by kernel_rfl)) ?_
  refine lv (d := 9) rfl rfl (by kernel_rfl) (e_lss (k := .i64) (a := x10) (b := (x1.length : Int)) (by kernel_rfl) (by kernel_rfl)) ?_
  refine wpList_nil ?_
  refine then_n ?_
  by_cases q19 : x10 < (x1.length : Int)
  · replace M := ifp q19 M
    refine cond_t rfl (bt q19 (by kernel_rfl)) ?_
    refine wp_skip ?_
    refine then_n ?_
    refine wp_seq ?_
    refine wp_block ?_
    refine wp_seq ?_
    refine wp_seq ?_
    refine wp_region_lit ?_
    refine lv (d := 12) rfl rfl (by kernel_rfl) (e_move (v := .slice A2 x1.length c3) (by exact e11)) ?_
    refine lv (d := 13) rfl rfl (by kernel_rfl) (e_move (v := .int .i64 x10) (by exact e13)) ?_
    obtain ⟨q20, M⟩ := chk M
    obtain ⟨b21, o22, e23⟩ := Rd.addr h4 (show (x10).toNat < x1.length by omega)
    obtain ⟨y24, r25, k26⟩ := Rd.at h4 e23 (getD_some (0 : UInt8) (show (x10).toNat < x1.length by omega))
    obtain rfl := r25
    refine lv (d := 14) rfl rfl (by kernel_rfl) (e_indexAddr (b := b21) (off := o22) (n := x1.length) (c := c3) (sz := 1) (i := x10) (k := .i64) Try.underlying59 e23 (by kernel_rfl) (by kernel_rfl) (by kernel_rfl) q20 q19) ?_
    refine lv (d := 15) rfl rfl (by kernel_rfl) (e_load1 (ad := ⟨b21, o22 + (x10 : Int).toNat * 1, none⟩) (v := .int .u8 ((x1.getD ((x10).toNat) (0 : UInt8)).toNat : Int)) Try.underlying5 rfl (by kernel_rfl) (hpx (S14.inv.cell (k26 0 _ rfl)))) ?_
    refine lv (d := 16) rfl rfl (by kernel_rfl) (e_move (v := .int .i64 x9) (by exact e12)) ?_
    refine lv (d := 17) rfl rfl (by kernel_rfl) (e_conv_i8 (k := .i64) (a := x9) (by kernel_rfl) Try.underlying5 (by kernel_rfl)) ?_
    refine lv (d := 18) rfl rfl (by kernel_rfl) (e_neq (k := .u8) (a := ((x1.getD ((x10).toNat) (0 : UInt8)).toNat : Int)) (b := ((b8 (x9)).toNat : Int)) (by kernel_rfl) (by kernel_rfl)) ?_
    refine wpList_nil ?_
    refine then_n ?_
    by_cases q27 : ((x1.getD ((x10).toNat) (0 : UInt8)).toNat : Int) ≠ ((b8 (x9)).toNat : Int)
    · replace M := ifp q27 M
      refine cond_t rfl (bt q27 (by kernel_rfl)) ?_
      refine wp_seq ?_
      refine wp_region_lit ?_
      refine lv (d := 4) rfl rfl (by kernel_rfl) (e_assign (v := .int .i64 (-1)) rfl) ?_
      refine wpList_nil ?_
      refine then_n ?_
      refine wp_ret ?_
      refine then_r ?_
      refine inb_r ?_
      refine then_r ?_
      refine then_r ?_
      refine inb_r ?_
      refine then_r ?_
      obtain rfl := Option.some.inj M
      exact ret1 rfl rfl  (show _ = .int .i64 (-1) from (by kernel_rfl)) ⟨rfl, S14.chg⟩
    replace M := ifn q27 M
    refine cond_f rfl (bf q27 (by kernel_rfl)) ?_
    refine wp_skip ?_
    refine then_n ?_
    refine wp_region_lit ?_
    refine lv (d := 19) rfl rfl (by kernel_rfl) (e_move (v := .int .i64 x9) (by exact e12)) ?_
    refine lv (d := 20) rfl rfl (by kernel_rfl) (e_add (k := .i64) (a := x9) (b := 1) (by kernel_rfl) rfl) ?_
    refine lv (d := 1) rfl rfl (by kernel_rfl) (e_assign (v := .int .i64 (IntKind.i64.wrap (x9 + 1))) (by kernel_rfl)) ?_
    refine wpList_nil ?_
    refine inb_n ?_
    refine then_n ?_
    refine wp_region_lit ?_
    refine lv (d := 10) rfl rfl (by kernel_rfl) (e_move (v := .int .i64 x10) (by exact e13)) ?_
    refine lv (d := 11) rfl rfl (by kernel_rfl) (e_add (k := .i64) (a := x10) (b := 1) (by kernel_rfl) rfl) ?_
    refine lv (d := 5) rfl rfl (by kernel_rfl) (e_assign (v := .int .i64 (IntKind.i64.wrap (x10 + 1))) (by kernel_rfl)) ?_
    refine wpList_nil ?_
    refine then_n ?_
    exact ⟨k18, (by omega), _, (IntKind.i64.wrap (x9 + 1)), (IntKind.i64.wrap (x10 + 1)), rfl, (by exact e11), (by kernel_rfl), (by kernel_rfl), S14, M⟩
  replace M := ifn q19 M
  refine cond_f rfl (bf q19 (by kernel_rfl)) ?_
  refine wp_exit ?_
  refine then_e ?_
  refine then_e ?_
  refine inb_hit ?_
  refine then_n ?_
  refine wp_seq ?_
  refine wp_region_lit ?_
  refine lv (d := 21) rfl rfl (by kernel_rfl) (e_move (v := .int .i64 x9) (by exact e12)) ?_
  refine lv (d := 4) rfl rfl (by kernel_rfl) (e_assign (v := .int .i64 x9) (by kernel_rfl)) ?_
  refine wpList_nil ?_
  refine then_n ?_
  refine wp_ret ?_
  obtain rfl := Option.some.inj M
  exact ret1 rfl rfl  (show _ = .int .i64 x9 from (by kernel_rfl)) ⟨rfl, S14.chg⟩

/-! laws_heldCellS -/
def laws_heldCellS.l0 : Nat → (List Cell) → Int → Int → Option Int
  | 0, _, _, _ => none
  | k18 + 1, x1, x9, x10 => (if x10 < (x1.length : Int) then (if 0 ≤ x10 then (if ((x1.getD ((x10).toNat) z65).kind) ≠ x9 then some (-1) else (if ((x1.getD ((x10).toNat) z65).n) ≠ (IntKind.i64.wrap (x9 + 1)) then some (-1) else ((laws_heldByteS.f k18 ((x1.getD ((x10).toNat) z65).text) (IntKind.i64.wrap ((IntKind.i64.wrap (x9 + 1)) + 1))).bind fun t53 => (if t53 < 0 then some (-1) else (laws_heldCellS.l0 k18 x1 t53 (IntKind.i64.wrap (x10 + 1))))))) else none) else some x9)
def laws_heldCellS.f (k : Nat) (x1 : List Cell) (x6 : Int) : Option Int := (laws_heldCellS.l0 k x1 x6 0)
theorem laws_heldCellS.calls (k : Nat) (w : World) (H : Hp) (x1 : List Cell) (A2 : Option Addr) (c3 : Nat) (x6 : Int) (h4 : Rd st65 H A2 x1) (l5 : x1.length ≤ c3) (S : Own [] H w) (r : Int) (M : laws_heldCellS.f k x1 x6 = some r) :
    Calls Try.prog 29 #[.slice A2 x1.length c3, .int .i64 x6] w (fun e e_w => e = .returned (.int .i64 r) ∧ Chg no w e_w) := by
  rw [laws_heldCellS.f] at M
  refine enter (l := [.slice A2 x1.length c3, .int .i64 x6]) 40 Try.func29 rfl rfl rfl ?_
  have S0_ := S.st
  refine wp_seq ?_
  refine wp_region_lit ?_
  refine lv (d := 4) rfl rfl (by kernel_rfl) (e_assign (v := .int .i64 0) rfl) ?_
  refine wpList_nil ?_
  refine then_n ?_
  refine wp_seq ?_
  refine wp_seq ?_
  refine wp_region_lit ?_
  refine lv (d := 5) rfl rfl (by kernel_rfl) (e_assign (v := .int .i64 0) rfl) ?_
  refine wpList_nil ?_
  refine then_n ?_
  refine wp_block ?_
  refine wp_loop_g (fun k16 a17 w7 => ∃ (f8 : Nat → Value) (x9 : Int) (x10 : Int), a17 = mk 40 f8 ∧ f8 0 = .slice A2 x1.length c3 ∧ f8 1 = .int .i64 x9 ∧ f8 5 = .int .i64 x10 ∧ St (anyOf []) H w [] H w7 ∧ laws_heldCellS.l0 k16 x1 x9 x10 = some r) k ⟨_, x6, 0, rfl, (by kernel_rfl), (by kernel_rfl), (by kernel_rfl), S0_, M⟩ ?_
  clear M
  rintro k16 a17 w7 ⟨f8, x9, x10, rfl, e11, e12, e13, S14, M⟩
  rcases k16 with _ | k18
  · rw [laws_heldCellS.l0] at M
    cases M
  rw [laws_heldCellS.l0] at M
  refine wp_seq ?_
  refine wp_seq ?_
  refine wp_region_lit ?_
  refine lv (d := 6) rfl rfl (by kernel_rfl) (e_move (v := .int .i64 x10) (by exact e13)) ?_
  refine lv (d := 7) rfl rfl (by kernel_rfl) (e_move (v := .slice A2 x1.length c3) (by exact e11)) ?_
  refine lv (d := 8) rfl rfl (by kernel_rfl) (e_len (A := A2) (n := x1.length) (c := c3) Try.underlying25 (by kernel_rfl)) ?_
  refine lv (d := 9) rfl rfl (by kernel_rfl) (e_lss (k := .i64) (a := x10) (b := (x1.length : Int)) (by kernel_rfl) (by kernel_rfl)) ?_
  refine wpList_nil ?_
  refine then_n ?_
  by_cases q19 : x10 < (x1.length : Int)
  · replace M := ifp q19 M
    refine cond_t rfl (bt q19 (by kernel_rfl)) ?_
    refine wp_skip ?_
    refine then_n ?_
    refine wp_seq ?_
    refine wp_block ?_
    refine wp_seq ?_
    refine wp_seq ?_
    refine wp_region_lit ?_
    refine lv (d := 12) rfl rfl (by kernel_rfl) (e_move (v := .slice A2 x1.length c3) (by exact e11)) ?_
    refine lv (d := 13) rfl rfl (by kernel_rfl) (e_move (v := .int .i64 x10) (by exact e13)) ?_
    obtain ⟨q20, M⟩ := chk M
    obtain ⟨b21, o22, e23⟩ := Rd.addr h4 (show (x10).toNat < x1.length by omega)
    obtain ⟨y24, r25, k26⟩ := Rd.at h4 e23 (getD_some z65 (show (x10).toNat < x1.length by omega))
    obtain ⟨A27, c28, rfl, l29, h30⟩ := st65_open r25
    refine lv (d := 14) rfl rfl (by kernel_rfl) (e_indexAddr (b := b21) (off := o22) (n := x1.length) (c := c3) (sz := 3) (i := x10) (k := .i64) Try.underlying25 e23 (by kernel_rfl) (by kernel_rfl) (by kernel_rfl) q20 q19) ?_
    refine lv (d := 15) rfl rfl (by kernel_rfl) (e_fieldAddr (b := b21) (off := o22 + (x10 : Int).toNat * 3) (o := 0) Try.underlying65 rfl rfl (sz := 1) (by kernel_rfl) (by decide) (by kernel_rfl)) ?_
    refine lv (d := 16) rfl rfl (by kernel_rfl) (e_load1 (ad := ⟨b21, o22 + (x10 : Int).toNat * 3 + 0, none⟩) (v := .int .i64 ((x1.getD ((x10).toNat) z65).kind)) Try.underlying3 rfl (by kernel_rfl) (hpx (S14.inv.cell (k26 0 _ rfl)))) ?_
    refine lv (d := 17) rfl rfl (by kernel_rfl) (e_move (v := .int .i64 x9) (by exact e12)) ?_
    refine lv (d := 18) rfl rfl (by kernel_rfl) (e_neq (k := .i64) (a := (x1.getD ((x10).toNat) z65).kind) (b := x9) (by kernel_rfl) (by kernel_rfl)) ?_
    refine wpList_nil ?_
    refine then_n ?_
    by_cases q31 : ((x1.getD ((x10).toNat) z65).kind) ≠ x9
    · replace M := ifp q31 M
      refine cond_t rfl (bt q31 (by kernel_rfl)) ?_
      refine wp_seq ?_
      refine wp_region_lit ?_
      refine lv (d := 4) rfl rfl (by kernel_rfl) (e_assign (v := .int .i64 (-1)) rfl) ?_
      refine wpList_nil ?_
      refine then_n ?_
      refine wp_ret ?_
      refine then_r ?_
      refine inb_r ?_
      refine then_r ?_
      refine then_r ?_
      refine inb_r ?_
      refine then_r ?_
      obtain rfl := Option.some.inj M
      exact ret1 rfl rfl  (show _ = .int .i64 (-1) from (by kernel_rfl)) ⟨rfl, S14.chg⟩
    replace M := ifn q31 M
    refine cond_f rfl (bf q31 (by kernel_rfl)) ?_
    refine wp_skip ?_
    refine then_n ?_
    refine wp_seq ?_
    refine wp_region_lit ?_
    refine lv (d := 19) rfl rfl (by kernel_rfl) (e_move (v := .int .i64 x9) (by exact e12)) ?_
    refine lv (d := 20) rfl rfl (by kernel_rfl) (e_add (k := .i64) (a := x9) (b := 1) (by kernel_rfl) rfl) ?_
    refine lv (d := 1) rfl rfl (by kernel_rfl) (e_assign (v := .int .i64 (IntKind.i64.wrap (x9 + 1))) (by kernel_rfl)) ?_
    refine wpList_nil ?_
    refine then_n ?_
    refine wp_seq ?_
    refine wp_seq ?_
    refine wp_region_lit ?_
    refine lv (d := 21) rfl rfl (by kernel_rfl) (e_move (v := .slice A2 x1.length c3) (by exact e11)) ?_
    refine lv (d := 22) rfl rfl (by kernel_rfl) (e_move (v := .int .i64 x10) (by exact e13)) ?_
    obtain ⟨b32, o33, e34⟩ := Rd.addr h4 (show (x10).toNat < x1.length by omega)
    obtain ⟨y35, r36, k37⟩ := Rd.at h4 e34 (getD_some z65 (show (x10).toNat < x1.length by omega))
    obtain ⟨A38, c39, rfl, l40, h41⟩ := st65_open r36
    refine lv (d := 23) rfl rfl (by kernel_rfl) (e_indexAddr (b := b32) (off := o33) (n := x1.length) (c := c3) (sz := 3) (i := x10) (k := .i64) Try.underlying25 e34 (by kernel_rfl) (by kernel_rfl) (by kernel_rfl) q20 q19) ?_
    refine lv (d := 24) rfl rfl (by kernel_rfl) (e_fieldAddr (b := b32) (off := o33 + (x10 : Int).toNat * 3) (o := 1) Try.underlying65 rfl rfl (sz := 1) (by kernel_rfl) (by decide) (by kernel_rfl)) ?_
    refine lv (d := 25) rfl rfl (by kernel_rfl) (e_load1 (ad := ⟨b32, o33 + (x10 : Int).toNat * 3 + 1, none⟩) (v := .int .i64 ((x1.getD ((x10).toNat) z65).n)) Try.underlying3 rfl (by kernel_rfl) (hpx (S14.inv.cell (k37 1 _ rfl)))) ?_
    refine lv (d := 26) rfl rfl (by kernel_rfl) (e_move (v := .int .i64 (IntKind.i64.wrap (x9 + 1))) (by kernel_rfl)) ?_
    refine lv (d := 27) rfl rfl (by kernel_rfl) (e_neq (k := .i64) (a := (x1.getD ((x10).toNat) z65).n) (b := (IntKind.i64.wrap (x9 + 1))) (by kernel_rfl) (by kernel_rfl)) ?_
    refine wpList_nil ?_
    refine then_n ?_
    by_cases q42 : ((x1.getD ((x10).toNat) z65).n) ≠ (IntKind.i64.wrap (x9 + 1))
    · replace M := ifp q42 M
      refine cond_t rfl (bt q42 (by kernel_rfl)) ?_
      refine wp_seq ?_
      refine wp_region_lit ?_
      refine lv (d := 4) rfl rfl (by kernel_rfl) (e_assign (v := .int .i64 (-1)) rfl) ?_
      refine wpList_nil ?_
      refine then_n ?_
      refine wp_ret ?_
      refine then_r ?_
      refine inb_r ?_
      refine then_r ?_
      refine then_r ?_
      refine inb_r ?_
      refine then_r ?_
      obtain rfl := Option.some.inj M
      exact ret1 rfl rfl  (show _ = .int .i64 (-1) from (by kernel_rfl)) ⟨rfl, S14.chg⟩
    replace M := ifn q42 M
    refine cond_f rfl (bf q42 (by kernel_rfl)) ?_
    refine wp_skip ?_
    refine then_n ?_
    refine wp_seq ?_
    refine wp_region_lit ?_
    refine lv (d := 28) rfl rfl (by kernel_rfl) (e_move (v := .int .i64 (IntKind.i64.wrap (x9 + 1))) (by kernel_rfl)) ?_
    refine lv (d := 29) rfl rfl (by kernel_rfl) (e_add (k := .i64) (a := (IntKind.i64.wrap (x9 + 1))) (b := 1) (by kernel_rfl) rfl) ?_
    refine lv (d := 1) rfl rfl (by kernel_rfl) (e_assign (v := .int .i64 (IntKind.i64.wrap ((IntKind.i64.wrap (x9 + 1)) + 1))) (by kernel_rfl)) ?_
    refine wpList_nil ?_
    refine then_n ?_
    refine wp_seq ?_
    refine wp_region_lit ?_
    refine lv (d := 30) rfl rfl (by kernel_rfl) (e_move (v := .slice A2 x1.length c3) (by exact e11)) ?_
    refine lv (d := 31) rfl rfl (by kernel_rfl) (e_move (v := .int .i64 x10) (by exact e13)) ?_
    obtain ⟨b43, o44, e45⟩ := Rd.addr h4 (show (x10).toNat < x1.length by omega)
    obtain ⟨y46, r47, k48⟩ := Rd.at h4 e45 (getD_some z65 (show (x10).toNat < x1.length by omega))
    obtain ⟨A49, c50, rfl, l51, h52⟩ := st65_open r47
    refine lv (d := 32) rfl rfl (by kernel_rfl) (e_indexAddr (b := b43) (off := o44) (n := x1.length) (c := c3) (sz := 3) (i := x10) (k := .i64) Try.underlying25 e45 (by kernel_rfl) (by kernel_rfl) (by kernel_rfl) q20 q19) ?_
    refine lv (d := 33) rfl rfl (by kernel_rfl) (e_fieldAddr (b := b43) (off := o44 + (x10 : Int).toNat * 3) (o := 2) Try.underlying65 rfl rfl (sz := 1) (by kernel_rfl) (by decide) (by kernel_rfl)) ?_
    refine lv (d := 34) rfl rfl (by kernel_rfl) (e_load1 (ad := ⟨b43, o44 + (x10 : Int).toNat * 3 + 2, none⟩) (v := .slice A49 ((x1.getD ((x10).toNat) z65).text).length c50) Try.underlying59 rfl (by kernel_rfl) (hpx (S14.inv.cell (k48 2 _ rfl)))) ?_
    refine lv (d := 35) rfl rfl (by kernel_rfl) (e_move (v := .int .i64 (IntKind.i64.wrap ((IntKind.i64.wrap (x9 + 1)) + 1))) (by kernel_rfl)) ?_
    obtain ⟨t53, u54, M⟩ := bnd M
    refine lcall (d := 36) rfl rfl (by kernel_rfl) (e_call (l := [.tmp 34, .tmp 35]) (vs := [.slice A49 ((x1.getD ((x10).toNat) z65).text).length c50, .int .i64 (IntKind.i64.wrap ((IntKind.i64.wrap (x9 + 1)) + 1))]) Try.func69 (by kernel_rfl) rfl (by kernel_rfl) rfl) (laws_heldByteS.calls k18 w7 H ((x1.getD ((x10).toNat) z65).text) A49 c50 (IntKind.i64.wrap ((IntKind.i64.wrap (x9 + 1)) + 1)) h52 l51 S14.own0 t53 u54) ?_
    rintro _ w55 ⟨rfl, C56⟩
    refine ⟨_, rfl, ?_⟩
    obtain ⟨S57, K58⟩ := S14.still C56
    refine lv (d := 1) rfl rfl (by kernel_rfl) (e_assign (v := .int .i64 t53) (by kernel_rfl)) ?_
    refine wpList_nil ?_
    refine then_n ?_
    refine wp_seq ?_
    refine wp_region_lit ?_
    refine lv (d := 37) rfl rfl (by kernel_rfl) (e_move (v := .int .i64 t53) (by kernel_rfl)) ?_
    refine lv (d := 38) rfl rfl (by kernel_rfl) (e_lss (k := .i64) (a := t53) (b := 0) (by kernel_rfl) rfl) ?_
    refine wpList_nil ?_
    refine then_n ?_
    by_cases q59 : t53 < 0
    · replace M := ifp q59 M
      refine cond_t rfl (bt q59 (by kernel_rfl)) ?_
      refine wp_seq ?_
      refine wp_region_lit ?_
      refine lv (d := 4) rfl rfl (by kernel_rfl) (e_assign (v := .int .i64 (-1)) rfl) ?_
      refine wpList_nil ?_
      refine then_n ?_
      refine wp_ret ?_
      refine inb_r ?_
      refine then_r ?_
      refine then_r ?_
      refine inb_r ?_
      refine then_r ?_
      obtain rfl := Option.some.inj M
      exact ret1 rfl rfl  (show _ = .int .i64 (-1) from (by kernel_rfl)) ⟨rfl, S57.chg⟩
    replace M := ifn q59 M
    refine cond_f rfl (bf q59 (by kernel_rfl)) ?_
    refine wp_skip ?_
    refine inb_n ?_
    refine then_n ?_
    refine wp_region_lit ?_
    refine lv (d := 10) rfl rfl (by kernel_rfl) (e_move (v := .int .i64 x10) (by exact e13)) ?_
    refine lv (d := 11) rfl rfl (by kernel_rfl) (e_add (k := .i64) (a := x10) (b := 1) (by kernel_rfl) rfl) ?_
    refine lv (d := 5) rfl rfl (by kernel_rfl) (e_assign (v := .int .i64 (IntKind.i64.wrap (x10 + 1))) (by kernel_rfl)) ?_
    refine wpList_nil ?_
    refine then_n ?_
    exact ⟨k18, (by omega), _, t53, (IntKind.i64.wrap (x10 + 1)), rfl, (by exact e11), (by kernel_rfl), (by kernel_rfl), S57, M⟩
  replace M := ifn q19 M
  refine cond_f rfl (bf q19 (by kernel_rfl)) ?_
  refine wp_exit ?_
  refine then_e ?_
  refine then_e ?_
  refine inb_hit ?_
  refine then_n ?_
  refine wp_seq ?_
  refine wp_region_lit ?_
  refine lv (d := 39) rfl rfl (by kernel_rfl) (e_move (v := .int .i64 x9) (by exact e12)) ?_
  refine lv (d := 4) rfl rfl (by kernel_rfl) (e_assign (v := .int .i64 x9) (by kernel_rfl)) ?_
  refine wpList_nil ?_
  refine then_n ?_
  refine wp_ret ?_
  obtain rfl := Option.some.inj M
  exact ret1 rfl rfl  (show _ = .int .i64 x9 from (by kernel_rfl)) ⟨rfl, S14.chg⟩

/-! laws_FnExactMakeList -/
def laws_FnExactMakeList.f (k : Nat) (x1 : List (List Cell)) : Option Bool := ((laws_szCellSS.f k x1 1048576).bind fun t6 => (if t6 < 0 then some true else ((laws_toCellSS.f k x1).bind fun t13 => ((spec_MakeList.f k t13).bind fun t31 => ((laws_toCellSS.f k x1).bind fun t43 => ((impl_MakeList.f k t43).bind fun t62 => ((laws_eqCellS.f k t62.1 t31.1).bind fun t77 => (if ¬ (t77 = true) then some false else (if t62.2 ≠ t31.2 then some false else ((laws_toCellSS.f k x1).bind fun t99 => ((laws_eqCellSS.f k t43 t99).bind fun t111 => (if ¬ (t111 = true) then some false else ((laws_markCellSS_2.f k t43 1).bind fun t132 => (if t132.1 < 0 then some false else ((laws_eqCellS.f k t62.1 t31.1).bind fun t144 => (if ¬ (t144 = true) then some false else ((laws_markCellS_2.f k t62.1 1).bind fun t166 => ((laws_heldCellS.f k t166.2 1).bind fun t177 => (if t177 < 0 then some false else (if t177 ≠ t166.1 then some false else ((laws_toCellSS.f k x1).bind fun t191 => ((impl_MakeList.f k t191).bind fun t209 => ((laws_eqCellS.f k t209.1 t31.1).bind fun t221 => (if ¬ (t221 = true) then some false else (if t209.2 ≠ t31.2 then some false else ((laws_heldCellS.f k t166.2 1).bind fun t242 => (if t242 < 0 then some false else (if t242 ≠ t166.1 then some false else some true))))))))))))))))))))))))))))
theorem laws_FnExactMakeList.calls (k : Nat) (w : World) (H : Hp) (x1 : List (List Cell)) (A2 : Option Addr) (c3 : Nat) (h4 : Rd sl68 H A2 x1) (l5 : x1.length ≤ c3) (S : Own [] H w) (r : Bool) (M : laws_FnExactMakeList.f k x1 = some r) :
    Calls Try.prog 10 #[.slice A2 x1.length c3] w (fun e e_w => e = .returned (.bool r) ∧ Chg no w e_w) := by
  rw [laws_FnExactMakeList.f] at M
  refine enter (l := [.slice A2 x1.length c3]) 96 Try.func10 rfl rfl rfl ?_
  have S0_ := S.st
  refine wp_seq ?_
  refine wp_region_lit ?_
  refine lv (d := 2) rfl rfl (by kernel_rfl) (e_assign (v := .bool false) rfl) ?_
  refine wpList_nil ?_
  refine then_n ?_
  refine wp_seq ?_
  refine wp_region_lit ?_
  refine lv (d := 3) rfl rfl (by kernel_rfl) (e_assign (v := .int .i64 1048576) rfl) ?_
  refine wpList_nil ?_
  refine then_n ?_
  refine wp_seq ?_
  refine wp_region_lit ?_
  refine lv (d := 14) rfl rfl (by kernel_rfl) (e_move (v := .slice A2 x1.length c3) (by kernel_rfl)) ?_
  refine lv (d := 15) rfl rfl (by kernel_rfl) (e_move (v := .int .i64 1048576) (by kernel_rfl)) ?_
  obtain ⟨t6, u7, M⟩ := bnd M
  refine lcall (d := 16) rfl rfl (by kernel_rfl) (e_call (l := [.tmp 14, .tmp 15]) (vs := [.slice A2 x1.length c3, .int .i64 1048576]) Try.func39 (by kernel_rfl) rfl (by kernel_rfl) rfl) (laws_szCellSS.calls k w H x1 A2 c3 1048576 h4 l5 S0_.own0 t6 u7) ?_
  rintro _ w8 ⟨rfl, C9⟩
  refine ⟨_, rfl, ?_⟩
  obtain ⟨S10, K11⟩ := S0_.still C9
  refine lv (d := 3) rfl rfl (by kernel_rfl) (e_assign (v := .int .i64 t6) (by kernel_rfl)) ?_
  refine wpList_nil ?_
  refine then_n ?_
  refine wp_seq ?_
  refine wp_seq ?_
  refine wp_region_lit ?_
  refine lv (d := 17) rfl rfl (by kernel_rfl) (e_move (v := .int .i64 t6) (by kernel_rfl)) ?_
  refine lv (d := 18) rfl rfl (by kernel_rfl) (e_lss (k := .i64) (a := t6) (b := 0) (by kernel_rfl) rfl) ?_
  refine wpList_nil ?_
  refine then_n ?_
  by_cases q12 : t6 < 0
  · replace M := ifp q12 M
    refine cond_t rfl (bt q12 (by kernel_rfl)) ?_
    refine wp_seq ?_
    refine wp_region_lit ?_
    refine lv (d := 2) rfl rfl (by kernel_rfl) (e_assign (v := .bool true) rfl) ?_
    refine wpList_nil ?_
    refine then_n ?_
    refine wp_ret ?_
    refine then_r ?_
    obtain rfl := Option.some.inj M
    exact ret1 rfl rfl  (show _ = .bool true from (by kernel_rfl)) ⟨rfl, S10.chg⟩
  replace M := ifn q12 M
  refine cond_f rfl (bf q12 (by kernel_rfl)) ?_
  refine wp_skip ?_
  refine then_n ?_
  refine wp_seq ?_
  refine wp_region_lit ?_
  refine lv (d := 20) rfl rfl (by kernel_rfl) (e_move (v := .slice A2 x1.length c3) (by kernel_rfl)) ?_
  obtain ⟨t13, u14, M⟩ := bnd M
  refine lcall (d := 21) rfl rfl (by kernel_rfl) (e_call (l := [.tmp 20]) (vs := [.slice A2 x1.length c3]) Try.func41 (by kernel_rfl) rfl (by kernel_rfl) rfl) (laws_toCellSS.calls k w8 H x1 A2 c3 h4 l5 (St.own' (Fa := []) (Fr := []) S10) t13 u14) ?_
  rintro _ w15 ⟨A18, c19, F21, H16, rfl, h20, T17⟩
  refine ⟨_, rfl, ?_⟩
  obtain ⟨S22, K23⟩ := St.call (Fa := []) (Fr := []) S10 T17
  have E24 := T17.ext
  have l25 := h20.le
  obtain ⟨H26, S27, E28, h29, z30⟩ := S22.frzRow h20
  obtain ⟨t31, u32, M⟩ := bnd M
  refine lcall (d := 22) rfl rfl (by kernel_rfl) (e_call (l := [.tmp 21]) (vs := [.slice A18 t13.length c19]) Try.func40 (by kernel_rfl) rfl (by kernel_rfl) rfl) (spec_MakeList.calls k w15 H26 t13 A18 c19 h29 l25 (St.own' (Fa := []) (Fr := []) S27) t31 u32) ?_
  rintro _ w33 ⟨A36, c37, F39, H34, rfl, h38, T35⟩
  refine ⟨_, rfl, ?_⟩
  obtain ⟨S40, K41⟩ := St.call (Fa := []) (Fr := []) S27 T35
  have E42 := T35.ext
  refine lv (d := 19) rfl rfl (by kernel_rfl) (e_move (v := .tuple #[.slice A36 t31.1.length c37, .int .i64 t31.2]) (by kernel_rfl)) ?_
  refine lv (d := 23) rfl rfl (by kernel_rfl) (e_extract (vs := #[.slice A36 t31.1.length c37, .int .i64 t31.2]) (v := .slice A36 t31.1.length c37) (by kernel_rfl) rfl) ?_
  refine lv (d := 24) rfl rfl (by kernel_rfl) (e_extract (vs := #[.slice A36 t31.1.length c37, .int .i64 t31.2]) (v := .int .i64 t31.2) (by kernel_rfl) rfl) ?_
  refine lv (d := 4) rfl rfl (by kernel_rfl) (e_assign (v := .slice A36 t31.1.length c37) (by kernel_rfl)) ?_
  refine lv (d := 5) rfl rfl (by kernel_rfl) (e_assign (v := .int .i64 t31.2) (by kernel_rfl)) ?_
  refine wpList_nil ?_
  refine then_n ?_
  refine wp_seq ?_
  refine wp_region_lit ?_
  refine lv (d := 25) rfl rfl (by kernel_rfl) (e_move (v := .slice A2 x1.length c3) (by kernel_rfl)) ?_
  obtain ⟨t43, u44, M⟩ := bnd M
  refine lcall (d := 26) rfl rfl (by kernel_rfl) (e_call (l := [.tmp 25]) (vs := [.slice A2 x1.length c3]) Try.func41 (by kernel_rfl) rfl (by kernel_rfl) rfl) (laws_toCellSS.calls k w33 H34 x1 A2 c3 (h4.ext ((E24.trans E28).trans E42)) l5 (St.own' (Fa := []) (Fr := [F39]) S40) t43 u44) ?_
  rintro _ w45 ⟨A48, c49, F51, H46, rfl, h50, T47⟩
  refine ⟨_, rfl, ?_⟩
  obtain ⟨S52, K53⟩ := St.call (Fa := []) (Fr := [F39]) S40 T47
  replace h38 := h38.move (K53.at 0 rfl)
  have E54 := T47.ext
  replace h38 := h38.ext E54
  refine lv (d := 6) rfl rfl (by kernel_rfl) (e_assign (v := .slice A48 t43.length c49) (by kernel_rfl)) ?_
  refine wpList_nil ?_
  refine then_n ?_
  refine wp_seq ?_
  refine wp_region_lit ?_
  refine lv (d := 28) rfl rfl (by kernel_rfl) (e_move (v := .slice A48 t43.length c49) (by kernel_rfl)) ?_
  have l55 := h50.le
  obtain ⟨H56, S57, E58, h59, z60⟩ := S52.frzRow h50
  have h61 := h38.ext E58
  obtain ⟨t62, u63, M⟩ := bnd M
  refine lcall (d := 29) rfl rfl (by kernel_rfl) (e_call (l := [.tmp 28]) (vs := [.slice A48 t43.length c49]) Try.func42 (by kernel_rfl) rfl (by kernel_rfl) rfl) (impl_MakeList.calls k w45 H56 t43 A48 c49 h59 l55 S57.own0 t62 u63) ?_
  rintro _ w64 ⟨A67, c68, F70, H65, rfl, h69, T66⟩
  refine ⟨_, rfl, ?_⟩
  obtain ⟨S71, K72⟩ := St.call (Fa := []) (Fr := [F39]) S57 T66
  replace h38 := h38.move (K72.at 0 rfl)
  obtain ⟨H73, S74, E75, v76⟩ := St.thaw S52 z60 S71 T66.ext E58 T66.size
  replace h50 := h50.move v76
  replace h50 := h50.ext E75
  replace h38 := h38.ext E75
  replace h69 := Row.free (H' := H73) (free_iso (free_pair (free_scal _ _) (free_pair (free_scal _ _) (free_slice (free_scal _ _))))) h69
  refine lv (d := 27) rfl rfl (by kernel_rfl) (e_move (v := .tuple #[.slice A67 t62.1.length c68, .int .i64 t62.2]) (by kernel_rfl)) ?_
  refine lv (d := 30) rfl rfl (by kernel_rfl) (e_extract (vs := #[.slice A67 t62.1.length c68, .int .i64 t62.2]) (v := .slice A67 t62.1.length c68) (by kernel_rfl) rfl) ?_
  refine lv (d := 31) rfl rfl (by kernel_rfl) (e_extract (vs := #[.slice A67 t62.1.length c68, .int .i64 t62.2]) (v := .int .i64 t62.2) (by kernel_rfl) rfl) ?_
  refine lv (d := 7) rfl rfl (by kernel_rfl) (e_assign (v := .slice A67 t62.1.length c68) (by kernel_rfl)) ?_
  refine lv (d := 8) rfl rfl (by kernel_rfl) (e_assign (v := .int .i64 t62.2) (by kernel_rfl)) ?_
  refine wpList_nil ?_
  refine then_n ?_
  refine wp_seq ?_
  refine wp_seq ?_
  refine wp_region_lit ?_
  refine lv (d := 32) rfl rfl (by kernel_rfl) (e_move (v := .slice A67 t62.1.length c68) (by kernel_rfl)) ?_
  refine lv (d := 33) rfl rfl (by kernel_rfl) (e_move (v := .slice A36 t31.1.length c37) (by kernel_rfl)) ?_
  obtain ⟨t77, u78, M⟩ := bnd M
  refine lcall (d := 34) rfl rfl (by kernel_rfl) (e_call (l := [.tmp 32, .tmp 33]) (vs := [.slice A67 t62.1.length c68, .slice A36 t31.1.length c37]) Try.func18 (by kernel_rfl) rfl (by kernel_rfl) rfl) (by have l79 := h69.le; have S80 := S74.pull (F := F70) (Fr := [F51, F39]) 1 rfl rfl; obtain ⟨H81, S82, E83, h84, z85⟩ := S80.frzRow h69; replace h50 := h50.ext E83; replace h38 := h38.ext E83; have l86 := h38.le; have S87 := S82.pull (F := F39) (Fr := [F51]) 1 rfl rfl; obtain ⟨H88, S89, E90, h91, z92⟩ := S87.frzRow h38; replace h50 := h50.ext E90; exact (laws_eqCellS.calls k w64 H88 t62.1 A67 c68 t31.1 A36 c37 (h84.ext E90) l79 h91 l86 S89.own0 t77 u78)) ?_
  rintro _ w93 ⟨rfl, C94⟩
  refine ⟨_, rfl, ?_⟩
  obtain ⟨S95, K96⟩ := S74.still C94
  replace h50 := h50.move (K96.at 0 rfl)
  replace h69 := h69.move (K96.at 1 rfl)
  replace h38 := h38.move (K96.at 2 rfl)
  refine lv (d := 35) rfl rfl (by kernel_rfl) (e_notv (c := t77) (by kernel_rfl)) ?_
  refine lv (d := 36) rfl rfl (by kernel_rfl) (e_move (v := .bool (decide (¬ (t77 = true)))) (by kernel_rfl)) ?_
  by_cases q97 : ¬ (t77 = true)
  · replace M := ifp q97 M
    refine lskip (t := 36) (c := true) rfl (by kernel_rfl) rfl (bt q97 (by kernel_rfl)) rfl rfl ?_
    refine lskip (t := 36) (c := true) rfl (by kernel_rfl) rfl (bt q97 (by kernel_rfl)) rfl rfl ?_
    refine lskip (t := 36) (c := true) rfl (by kernel_rfl) rfl (bt q97 (by kernel_rfl)) rfl rfl ?_
    refine lv (d := 40) rfl rfl (by kernel_rfl) (e_pick_t (v := .bool true) (bt q97 (by kernel_rfl)) rfl) ?_
    refine wpList_nil ?_
    refine then_n ?_
    refine cond_t rfl (by kernel_rfl) ?_
    refine wp_seq ?_
    refine wp_region_lit ?_
    refine lv (d := 2) rfl rfl (by kernel_rfl) (e_assign (v := .bool false) rfl) ?_
    refine wpList_nil ?_
    refine then_n ?_
    refine wp_ret ?_
    refine then_r ?_
    obtain rfl := Option.some.inj M
    exact ret1 rfl rfl  (show _ = .bool false from (by kernel_rfl)) ⟨rfl, S95.chg⟩
  replace M := ifn q97 M
  refine lvg (d := 37) (t := 36) rfl (by kernel_rfl) rfl (bf q97 (by kernel_rfl)) rfl (by kernel_rfl) (e_move (v := .int .i64 t62.2) (by kernel_rfl)) ?_
  refine lvg (d := 38) (t := 36) rfl (by kernel_rfl) rfl (bf q97 (by kernel_rfl)) rfl (by kernel_rfl) (e_move (v := .int .i64 t31.2) (by kernel_rfl)) ?_
  refine lvg (d := 39) (t := 36) rfl (by kernel_rfl) rfl (bf q97 (by kernel_rfl)) rfl (by kernel_rfl) (e_neq (k := .i64) (a := t62.2) (b := t31.2) (by kernel_rfl) (by kernel_rfl)) ?_
  refine lv (d := 40) rfl rfl (by kernel_rfl) (e_pick_f (v := .bool (decide (t62.2 ≠ t31.2))) (bf q97 (by kernel_rfl)) (by kernel_rfl)) ?_
  refine wpList_nil ?_
  refine then_n ?_
  by_cases q98 : t62.2 ≠ t31.2
  · replace M := ifp q98 M
    refine cond_t rfl (bt q98 (by kernel_rfl)) ?_
    refine wp_seq ?_
    refine wp_region_lit ?_
    refine lv (d := 2) rfl rfl (by kernel_rfl) (e_assign (v := .bool false) rfl) ?_
    refine wpList_nil ?_
    refine then_n ?_
    refine wp_ret ?_
    refine then_r ?_
    obtain rfl := Option.some.inj M
    exact ret1 rfl rfl  (show _ = .bool false from (by kernel_rfl)) ⟨rfl, S95.chg⟩
  replace M := ifn q98 M
  refine cond_f rfl (bf q98 (by kernel_rfl)) ?_
  refine wp_skip ?_
  refine then_n ?_
  refine wp_seq ?_
  refine wp_seq ?_
  refine wp_region_lit ?_
  refine lv (d := 41) rfl rfl (by kernel_rfl) (e_move (v := .slice A48 t43.length c49) (by kernel_rfl)) ?_
  refine lv (d := 42) rfl rfl (by kernel_rfl) (e_move (v := .slice A2 x1.length c3) (by kernel_rfl)) ?_
  obtain ⟨t99, u100, M⟩ := bnd M
  refine lcall (d := 43) rfl rfl (by kernel_rfl) (e_call (l := [.tmp 42]) (vs := [.slice A2 x1.length c3]) Try.func41 (by kernel_rfl) rfl (by kernel_rfl) rfl) (laws_toCellSS.calls k w93 H73 x1 A2 c3 (h4.ext ((((E24.trans E28).trans E42).trans E54).trans E75)) l5 (St.own' (Fa := []) (Fr := [F51, F70, F39]) S95) t99 u100) ?_
  rintro _ w101 ⟨A104, c105, F107, H102, rfl, h106, T103⟩
  refine ⟨_, rfl, ?_⟩
  obtain ⟨S108, K109⟩ := St.call (Fa := []) (Fr := [F51, F70, F39]) S95 T103
  replace h50 := h50.move (K109.at 0 rfl)
  replace h69 := h69.move (K109.at 1 rfl)
  replace h38 := h38.move (K109.at 2 rfl)
  have E110 := T103.ext
  replace h50 := h50.ext E110
  replace h69 := h69.ext E110
  replace h38 := h38.ext E110
  obtain ⟨t111, u112, M⟩ := bnd M
  refine lcall (d := 44) rfl rfl (by kernel_rfl) (e_call (l := [.tmp 41, .tmp 43]) (vs := [.slice A48 t43.length c49, .slice A104 t99.length c105]) Try.func36 (by kernel_rfl) rfl (by kernel_rfl) rfl) (by have l113 := h50.le; have S114 := S108.pull (F := F51) (Fr := [F107, F70, F39]) 1 rfl rfl; obtain ⟨H115, S116, E117, h118, z119⟩ := S114.frzRow h50; replace h106 := h106.ext E117; replace h69 := h69.ext E117; replace h38 := h38.ext E117; have l120 := h106.le; obtain ⟨H121, S122, E123, h124, z125⟩ := S116.frzRow h106; replace h69 := h69.ext E123; replace h38 := h38.ext E123; exact (laws_eqCellSS.calls k w101 H121 t43 A48 c49 t99 A104 c105 (h118.ext E123) l113 h124 l120 S122.own0 t111 u112)) ?_
  rintro _ w126 ⟨rfl, C127⟩
  refine ⟨_, rfl, ?_⟩
  obtain ⟨S128, K129⟩ := S108.still C127
  replace h106 := h106.move (K129.at 0 rfl)
  replace h50 := h50.move (K129.at 1 rfl)
  replace h69 := h69.move (K129.at 2 rfl)
  replace h38 := h38.move (K129.at 3 rfl)
  refine lv (d := 45) rfl rfl (by kernel_rfl) (e_notv (c := t111) (by kernel_rfl)) ?_
  refine wpList_nil ?_
  refine then_n ?_
  by_cases q130 : ¬ (t111 = true)
  · replace M := ifp q130 M
    refine cond_t rfl (bt q130 (by kernel_rfl)) ?_
    refine wp_seq ?_
    refine wp_region_lit ?_
    refine lv (d := 2) rfl rfl (by kernel_rfl) (e_assign (v := .bool false) rfl) ?_
    refine wpList_nil ?_
    refine then_n ?_
    refine wp_ret ?_
    refine then_r ?_
    obtain rfl := Option.some.inj M
    exact ret1 rfl rfl  (show _ = .bool false from (by kernel_rfl)) ⟨rfl, S128.chg⟩
  replace M := ifn q130 M
  refine cond_f rfl (bf q130 (by kernel_rfl)) ?_
  refine wp_skip ?_
  refine then_n ?_
  refine wp_seq ?_
  refine wp_region_lit ?_
  refine lv (d := 9) rfl rfl (by kernel_rfl) (e_assign (v := .int .i64 1) rfl) ?_
  refine wpList_nil ?_
  refine then_n ?_
  refine wp_seq ?_
  refine wp_region_lit ?_
  refine lv (d := 46) rfl rfl (by kernel_rfl) (e_move (v := .slice A48 t43.length c49) (by kernel_rfl)) ?_
  refine lv (d := 47) rfl rfl (by kernel_rfl) (e_move (v := .int .i64 1) (by kernel_rfl)) ?_
  have S131 := S128.pull (F := F51) (Fr := [F107, F70, F39]) 1 rfl rfl
  obtain ⟨t132, u133, M⟩ := bnd M
  refine lcall (d := 48) rfl rfl (by kernel_rfl) (e_call (l := [.tmp 46, .tmp 47]) (vs := [.slice A48 t43.length c49, .int .i64 1]) Try.func37 (by kernel_rfl) rfl (by kernel_rfl) rfl) (laws_markCellSS_2.calls k w126 H102 t43 A48 c49 F51 1 h50 (St.own' (Fa := [F51]) (Fr := [F107, F70, F39]) S131) t132 u133) ?_
  rintro _ w134 ⟨F138, H135, rfl, n139, h137, T136⟩
  refine ⟨_, rfl, ?_⟩
  obtain ⟨S140, K141⟩ := St.call (Fa := [F51]) (Fr := [F107, F70, F39]) S131 T136
  replace h106 := h106.move (K141.at 0 rfl)
  replace h69 := h69.move (K141.at 1 rfl)
  replace h38 := h38.move (K141.at 2 rfl)
  have E142 := T136.ext
  replace h106 := h106.ext E142
  replace h69 := h69.ext E142
  replace h38 := h38.ext E142
  refine lv (d := 9) rfl rfl (by kernel_rfl) (e_assign (v := .int .i64 t132.1) (by kernel_rfl)) ?_
  refine wpList_nil ?_
  refine then_n ?_
  refine wp_seq ?_
  refine wp_seq ?_
  refine wp_region_lit ?_
  refine lv (d := 49) rfl rfl (by kernel_rfl) (e_move (v := .int .i64 t132.1) (by kernel_rfl)) ?_
  refine lv (d := 50) rfl rfl (by kernel_rfl) (e_lss (k := .i64) (a := t132.1) (b := 0) (by kernel_rfl) rfl) ?_
  refine lv (d := 51) rfl rfl (by kernel_rfl) (e_move (v := .bool (decide (t132.1 < 0))) (by kernel_rfl)) ?_
  by_cases q143 : t132.1 < 0
  · replace M := ifp q143 M
    refine lskip (t := 51) (c := true) rfl (by kernel_rfl) rfl (bt q143 (by kernel_rfl)) rfl rfl ?_
    refine lskip (t := 51) (c := true) rfl (by kernel_rfl) rfl (bt q143 (by kernel_rfl)) rfl rfl ?_
    refine lskip (t := 51) (c := true) rfl (by kernel_rfl) rfl (bt q143 (by kernel_rfl)) rfl rfl ?_
    refine lskip (t := 51) (c := true) rfl (by kernel_rfl) rfl (bt q143 (by kernel_rfl)) rfl rfl ?_
    refine lv (d := 56) rfl rfl (by kernel_rfl) (e_pick_t (v := .bool true) (bt q143 (by kernel_rfl)) rfl) ?_
    refine lv (d := 57) rfl rfl (by kernel_rfl) (e_move (v := .bool true) (by kernel_rfl)) ?_
    refine lskip (t := 57) (c := true) rfl (by kernel_rfl) rfl (by kernel_rfl) rfl rfl ?_
    refine lskip (t := 57) (c := true) rfl (by kernel_rfl) rfl (by kernel_rfl) rfl rfl ?_
    refine lskip (t := 57) (c := true) rfl (by kernel_rfl) rfl (by kernel_rfl) rfl rfl ?_
    refine lv (d := 61) rfl rfl (by kernel_rfl) (e_pick_t (v := .bool true) (by kernel_rfl) rfl) ?_
    refine wpList_nil ?_
    refine then_n ?_
    refine cond_t rfl (by kernel_rfl) ?_
    refine wp_seq ?_
    refine wp_region_lit ?_
    refine lv (d := 2) rfl rfl (by kernel_rfl) (e_assign (v := .bool false) rfl) ?_
    refine wpList_nil ?_
    refine then_n ?_
    refine wp_ret ?_
    refine then_r ?_
    obtain rfl := Option.some.inj M
    exact ret1 rfl rfl  (show _ = .bool false from (by kernel_rfl)) ⟨rfl, S140.chg⟩
  replace M := ifn q143 M
  refine lvg (d := 52) (t := 51) rfl (by kernel_rfl) rfl (bf q143 (by kernel_rfl)) rfl (by kernel_rfl) (e_move (v := .slice A67 t62.1.length c68) (by kernel_rfl)) ?_
  refine lvg (d := 53) (t := 51) rfl (by kernel_rfl) rfl (bf q143 (by kernel_rfl)) rfl (by kernel_rfl) (e_move (v := .slice A36 t31.1.length c37) (by kernel_rfl)) ?_
  obtain ⟨t144, u145, M⟩ := bnd M
  refine lcallg (d := 54) (t := 51) rfl (by kernel_rfl) rfl (bf q143 (by kernel_rfl)) rfl (by kernel_rfl) (e_call (l := [.tmp 52, .tmp 53]) (vs := [.slice A67 t62.1.length c68, .slice A36 t31.1.length c37]) Try.func18 (by kernel_rfl) rfl (by kernel_rfl) rfl) (by have l146 := h69.le; have S147 := S140.pull (F := F70) (Fr := [F138, F107, F39]) 2 rfl rfl; obtain ⟨H148, S149, E150, h151, z152⟩ := S147.frzRow h69; replace h137 := h137.ext E150; replace h106 := h106.ext E150; replace h38 := h38.ext E150; have l153 := h38.le; have S154 := S149.pull (F := F39) (Fr := [F138, F107]) 2 rfl rfl; obtain ⟨H155, S156, E157, h158, z159⟩ := S154.frzRow h38; replace h137 := h137.ext E157; replace h106 := h106.ext E157; exact (laws_eqCellS.calls k w134 H155 t62.1 A67 c68 t31.1 A36 c37 (h151.ext E157) l146 h158 l153 S156.own0 t144 u145)) ?_
  rintro _ w160 ⟨rfl, C161⟩
  refine ⟨_, rfl, ?_⟩
  obtain ⟨S162, K163⟩ := S140.still C161
  replace h137 := h137.move (K163.at 0 rfl)
  replace h106 := h106.move (K163.at 1 rfl)
  replace h69 := h69.move (K163.at 2 rfl)
  replace h38 := h38.move (K163.at 3 rfl)
  refine lvg (d := 55) (t := 51) rfl (by kernel_rfl) rfl (bf q143 (by kernel_rfl)) rfl (by kernel_rfl) (e_notv (c := t144) (by kernel_rfl)) ?_
  refine lv (d := 56) rfl rfl (by kernel_rfl) (e_pick_f (v := .bool (decide (¬ (t144 = true)))) (bf q143 (by kernel_rfl)) (by kernel_rfl)) ?_
  refine lv (d := 57) rfl rfl (by kernel_rfl) (e_move (v := .bool (decide (¬ (t144 = true)))) (by kernel_rfl)) ?_
  by_cases q164 : ¬ (t144 = true)
  · replace M := ifp q164 M
    refine lskip (t := 57) (c := true) rfl (by kernel_rfl) rfl (bt q164 (by kernel_rfl)) rfl rfl ?_
    refine lskip (t := 57) (c := true) rfl (by kernel_rfl) rfl (bt q164 (by kernel_rfl)) rfl rfl ?_
    refine lskip (t := 57) (c := true) rfl (by kernel_rfl) rfl (bt q164 (by kernel_rfl)) rfl rfl ?_
    refine lv (d := 61) rfl rfl (by kernel_rfl) (e_pick_t (v := .bool true) (bt q164 (by kernel_rfl)) rfl) ?_
    refine wpList_nil ?_
    refine then_n ?_
    refine cond_t rfl (by kernel_rfl) ?_
    refine wp_seq ?_
    refine wp_region_lit ?_
    refine lv (d := 2) rfl rfl (by kernel_rfl) (e_assign (v := .bool false) rfl) ?_
    refine wpList_nil ?_
    refine then_n ?_
    refine wp_ret ?_
    refine then_r ?_
    obtain rfl := Option.some.inj M
    exact ret1 rfl rfl  (show _ = .bool false from (by kernel_rfl)) ⟨rfl, S162.chg⟩
  replace M := ifn q164 M
  refine lvg (d := 58) (t := 57) rfl (by kernel_rfl) rfl (bf q164 (by kernel_rfl)) rfl (by kernel_rfl) (e_move (v := .int .i64 t62.2) (by kernel_rfl)) ?_
  refine lvg (d := 59) (t := 57) rfl (by kernel_rfl) rfl (bf q164 (by kernel_rfl)) rfl (by kernel_rfl) (e_move (v := .int .i64 t31.2) (by kernel_rfl)) ?_
  refine lvg (d := 60) (t := 57) rfl (by kernel_rfl) rfl (bf q164 (by kernel_rfl)) rfl (by kernel_rfl) (e_neq (k := .i64) (a := t62.2) (b := t31.2) (by kernel_rfl) (by kernel_rfl)) ?_
  refine lv (d := 61) rfl rfl (by kernel_rfl) (e_pick_f (v := .bool (decide (t62.2 ≠ t31.2))) (bf q164 (by kernel_rfl)) (by kernel_rfl)) ?_
  refine wpList_nil ?_
  refine then_n ?_
  refine cond_f rfl (bf q98 (by kernel_rfl)) ?_
  refine wp_skip ?_
  refine then_n ?_
  refine wp_seq ?_
  refine wp_region_lit ?_
  refine lv (d := 10) rfl rfl (by kernel_rfl) (e_assign (v := .int .i64 1) rfl) ?_
  refine wpList_nil ?_
  refine then_n ?_
  refine wp_seq ?_
  refine wp_region_lit ?_
  refine lv (d := 62) rfl rfl (by kernel_rfl) (e_move (v := .slice A67 t62.1.length c68) (by kernel_rfl)) ?_
  refine lv (d := 63) rfl rfl (by kernel_rfl) (e_move (v := .int .i64 1) (by kernel_rfl)) ?_
  have S165 := S162.pull (F := F70) (Fr := [F138, F107, F39]) 2 rfl rfl
  obtain ⟨t166, u167, M⟩ := bnd M
  refine lcall (d := 64) rfl rfl (by kernel_rfl) (e_call (l := [.tmp 62, .tmp 63]) (vs := [.slice A67 t62.1.length c68, .int .i64 1]) Try.func24 (by kernel_rfl) rfl (by kernel_rfl) rfl) (laws_markCellS_2.calls k w160 H135 t62.1 A67 c68 F70 1 h69 (St.own' (Fa := [F70]) (Fr := [F138, F107, F39]) S165) t166 u167) ?_
  rintro _ w168 ⟨F172, H169, rfl, n173, h171, T170⟩
  refine ⟨_, rfl, ?_⟩
  obtain ⟨S174, K175⟩ := St.call (Fa := [F70]) (Fr := [F138, F107, F39]) S165 T170
  replace h137 := h137.move (K175.at 0 rfl)
  replace h106 := h106.move (K175.at 1 rfl)
  replace h38 := h38.move (K175.at 2 rfl)
  have E176 := T170.ext
  replace h137 := h137.ext E176
  replace h106 := h106.ext E176
  replace h38 := h38.ext E176
  refine lv (d := 10) rfl rfl (by kernel_rfl) (e_assign (v := .int .i64 t166.1) (by kernel_rfl)) ?_
  refine wpList_nil ?_
  refine then_n ?_
  refine wp_seq ?_
  refine wp_region_lit ?_
  refine lv (d := 11) rfl rfl (by kernel_rfl) (e_assign (v := .int .i64 1) rfl) ?_
  refine wpList_nil ?_
  refine then_n ?_
  refine wp_seq ?_
  refine wp_region_lit ?_
  refine lv (d := 65) rfl rfl (by kernel_rfl) (e_move (v := .slice A67 t62.1.length c68) (by kernel_rfl)) ?_
  refine lv (d := 66) rfl rfl (by kernel_rfl) (e_move (v := .int .i64 1) (by kernel_rfl)) ?_
  obtain ⟨t177, u178, M⟩ := bnd M
  refine lcall (d := 67) rfl rfl (by kernel_rfl) (e_call (l := [.tmp 65, .tmp 66]) (vs := [.slice A67 t62.1.length c68, .int .i64 1]) Try.func29 (by kernel_rfl) rfl (by kernel_rfl) rfl) (by have l179 := h171.le; obtain ⟨H180, S181, E182, h183, z184⟩ := S174.frzRow h171; replace h137 := h137.ext E182; replace h106 := h106.ext E182; replace h38 := h38.ext E182; exact (by have q_ := (laws_heldCellS.calls k w168 H180 t166.2 A67 c68 1 h183 l179 S181.own0 t177 u178); rw [(show t166.2.length = t62.1.length from n173)] at q_; exact q_)) ?_
  rintro _ w185 ⟨rfl, C186⟩
  refine ⟨_, rfl, ?_⟩
  obtain ⟨S187, K188⟩ := S174.still C186
  replace h171 := h171.move (K188.at 0 rfl)
  replace h137 := h137.move (K188.at 1 rfl)
  replace h106 := h106.move (K188.at 2 rfl)
  replace h38 := h38.move (K188.at 3 rfl)
  refine lv (d := 11) rfl rfl (by kernel_rfl) (e_assign (v := .int .i64 t177) (by kernel_rfl)) ?_
  refine wpList_nil ?_
  refine then_n ?_
  refine wp_seq ?_
  refine wp_seq ?_
  refine wp_region_lit ?_
  refine lv (d := 68) rfl rfl (by kernel_rfl) (e_move (v := .int .i64 t177) (by kernel_rfl)) ?_
  refine lv (d := 69) rfl rfl (by kernel_rfl) (e_lss (k := .i64) (a := t177) (b := 0) (by kernel_rfl) rfl) ?_
  refine wpList_nil ?_
  refine then_n ?_
  by_cases q189 : t177 < 0
  · replace M := ifp q189 M
    refine cond_t rfl (bt q189 (by kernel_rfl)) ?_
    refine wp_seq ?_
    refine wp_region_lit ?_
    refine lv (d := 2) rfl rfl (by kernel_rfl) (e_assign (v := .bool false) rfl) ?_
    refine wpList_nil ?_
    refine then_n ?_
    refine wp_ret ?_
    refine then_r ?_
    obtain rfl := Option.some.inj M
    exact ret1 rfl rfl  (show _ = .bool false from (by kernel_rfl)) ⟨rfl, S187.chg⟩
  replace M := ifn q189 M
  refine cond_f rfl (bf q189 (by kernel_rfl)) ?_
  refine wp_skip ?_
  refine then_n ?_
  refine wp_seq ?_
  refine wp_seq ?_
  refine wp_region_lit ?_
  refine lv (d := 70) rfl rfl (by kernel_rfl) (e_move (v := .int .i64 t177) (by kernel_rfl)) ?_
  refine lv (d := 71) rfl rfl (by kernel_rfl) (e_move (v := .int .i64 t166.1) (by kernel_rfl)) ?_
  refine lv (d := 72) rfl rfl (by kernel_rfl) (e_neq (k := .i64) (a := t177) (b := t166.1) (by kernel_rfl) (by kernel_rfl)) ?_
  refine wpList_nil ?_
  refine then_n ?_
  by_cases q190 : t177 ≠ t166.1
  · replace M := ifp q190 M
    refine cond_t rfl (bt q190 (by kernel_rfl)) ?_
    refine wp_seq ?_
    refine wp_region_lit ?_
    refine lv (d := 2) rfl rfl (by kernel_rfl) (e_assign (v := .bool false) rfl) ?_
    refine wpList_nil ?_
    refine then_n ?_
    refine wp_ret ?_
    refine then_r ?_
    obtain rfl := Option.some.inj M
    exact ret1 rfl rfl  (show _ = .bool false from (by kernel_rfl)) ⟨rfl, S187.chg⟩
  replace M := ifn q190 M
  refine cond_f rfl (bf q190 (by kernel_rfl)) ?_
  refine wp_skip ?_
  refine then_n ?_
  refine wp_seq ?_
  refine wp_region_lit ?_
  refine lv (d := 74) rfl rfl (by kernel_rfl) (e_move (v := .slice A2 x1.length c3) (by kernel_rfl)) ?_
  obtain ⟨t191, u192, M⟩ := bnd M
  refine lcall (d := 75) rfl rfl (by kernel_rfl) (e_call (l := [.tmp 74]) (vs := [.slice A2 x1.length c3]) Try.func41 (by kernel_rfl) rfl (by kernel_rfl) rfl) (laws_toCellSS.calls k w185 H169 x1 A2 c3 (h4.ext (((((((E24.trans E28).trans E42).trans E54).trans E75).trans E110).trans E142).trans E176)) l5 (St.own' (Fa := []) (Fr := [F172, F138, F107, F39]) S187) t191 u192) ?_
  rintro _ w193 ⟨A196, c197, F199, H194, rfl, h198, T195⟩
  refine ⟨_, rfl, ?_⟩
  obtain ⟨S200, K201⟩ := St.call (Fa := []) (Fr := [F172, F138, F107, F39]) S187 T195
  replace h171 := h171.move (K201.at 0 rfl)
  replace h137 := h137.move (K201.at 1 rfl)
  replace h106 := h106.move (K201.at 2 rfl)
  replace h38 := h38.move (K201.at 3 rfl)
  have E202 := T195.ext
  replace h171 := h171.ext E202
  replace h137 := h137.ext E202
  replace h106 := h106.ext E202
  replace h38 := h38.ext E202
  have l203 := h198.le
  obtain ⟨H204, S205, E206, h207, z208⟩ := S200.frzRow h198
  replace h171 := h171.ext E206
  replace h137 := h137.ext E206
  replace h106 := h106.ext E206
  replace h38 := h38.ext E206
  obtain ⟨t209, u210, M⟩ := bnd M
  refine lcall (d := 76) rfl rfl (by kernel_rfl) (e_call (l := [.tmp 75]) (vs := [.slice A196 t191.length c197]) Try.func42 (by kernel_rfl) rfl (by kernel_rfl) rfl) (impl_MakeList.calls k w193 H204 t191 A196 c197 h207 l203 (St.own' (Fa := []) (Fr := [F172, F138, F107, F39]) S205) t209 u210) ?_
  rintro _ w211 ⟨A214, c215, F217, H212, rfl, h216, T213⟩
  refine ⟨_, rfl, ?_⟩
  obtain ⟨S218, K219⟩ := St.call (Fa := []) (Fr := [F172, F138, F107, F39]) S205 T213
  replace h171 := h171.move (K219.at 0 rfl)
  replace h137 := h137.move (K219.at 1 rfl)
  replace h106 := h106.move (K219.at 2 rfl)
  replace h38 := h38.move (K219.at 3 rfl)
  have E220 := T213.ext
  replace h171 := h171.ext E220
  replace h137 := h137.ext E220
  replace h106 := h106.ext E220
  replace h38 := h38.ext E220
  refine lv (d := 73) rfl rfl (by kernel_rfl) (e_move (v := .tuple #[.slice A214 t209.1.length c215, .int .i64 t209.2]) (by kernel_rfl)) ?_
  refine lv (d := 77) rfl rfl (by kernel_rfl) (e_extract (vs := #[.slice A214 t209.1.length c215, .int .i64 t209.2]) (v := .slice A214 t209.1.length c215) (by kernel_rfl) rfl) ?_
  refine lv (d := 78) rfl rfl (by kernel_rfl) (e_extract (vs := #[.slice A214 t209.1.length c215, .int .i64 t209.2]) (v := .int .i64 t209.2) (by kernel_rfl) rfl) ?_
  refine lv (d := 12) rfl rfl (by kernel_rfl) (e_assign (v := .slice A214 t209.1.length c215) (by kernel_rfl)) ?_
  refine lv (d := 13) rfl rfl (by kernel_rfl) (e_assign (v := .int .i64 t209.2) (by kernel_rfl)) ?_
  refine wpList_nil ?_
  refine then_n ?_
  refine wp_seq ?_
  refine wp_seq ?_
  refine wp_region_lit ?_
  refine lv (d := 79) rfl rfl (by kernel_rfl) (e_move (v := .slice A214 t209.1.length c215) (by kernel_rfl)) ?_
  refine lv (d := 80) rfl rfl (by kernel_rfl) (e_move (v := .slice A36 t31.1.length c37) (by kernel_rfl)) ?_
  obtain ⟨t221, u222, M⟩ := bnd M
  refine lcall (d := 81) rfl rfl (by kernel_rfl) (e_call (l := [.tmp 79, .tmp 80]) (vs := [.slice A214 t209.1.length c215, .slice A36 t31.1.length c37]) Try.func18 (by kernel_rfl) rfl (by kernel_rfl) rfl) (by have l223 := h216.le; obtain ⟨H224, S225, E226, h227, z228⟩ := S218.frzRow h216; replace h171 := h171.ext E226; replace h137 := h137.ext E226; replace h106 := h106.ext E226; replace h38 := h38.ext E226; have l229 := h38.le; have S230 := S225.pull (F := F39) (Fr := [F172, F138, F107]) 3 rfl rfl; obtain ⟨H231, S232, E233, h234, z235⟩ := S230.frzRow h38; replace h171 := h171.ext E233; replace h137 := h137.ext E233; replace h106 := h106.ext E233; exact (laws_eqCellS.calls k w211 H231 t209.1 A214 c215 t31.1 A36 c37 (h227.ext E233) l223 h234 l229 S232.own0 t221 u222)) ?_
  rintro _ w236 ⟨rfl, C237⟩
  refine ⟨_, rfl, ?_⟩
  obtain ⟨S238, K239⟩ := S218.still C237
  replace h216 := h216.move (K239.at 0 rfl)
  replace h171 := h171.move (K239.at 1 rfl)
  replace h137 := h137.move (K239.at 2 rfl)
  replace h106 := h106.move (K239.at 3 rfl)
  replace h38 := h38.move (K239.at 4 rfl)
  refine lv (d := 82) rfl rfl (by kernel_rfl) (e_notv (c := t221) (by kernel_rfl)) ?_
  refine lv (d := 83) rfl rfl (by kernel_rfl) (e_move (v := .bool (decide (¬ (t221 = true)))) (by kernel_rfl)) ?_
  by_cases q240 : ¬ (t221 = true)
  · replace M := ifp q240 M
    refine lskip (t := 83) (c := true) rfl (by kernel_rfl) rfl (bt q240 (by kernel_rfl)) rfl rfl ?_
    refine lskip (t := 83) (c := true) rfl (by kernel_rfl) rfl (bt q240 (by kernel_rfl)) rfl rfl ?_
    refine lskip (t := 83) (c := true) rfl (by kernel_rfl) rfl (bt q240 (by kernel_rfl)) rfl rfl ?_
    refine lv (d := 87) rfl rfl (by kernel_rfl) (e_pick_t (v := .bool true) (bt q240 (by kernel_rfl)) rfl) ?_
    refine wpList_nil ?_
    refine then_n ?_
    refine cond_t rfl (by kernel_rfl) ?_
    refine wp_seq ?_
    refine wp_region_lit ?_
    refine lv (d := 2) rfl rfl (by kernel_rfl) (e_assign (v := .bool false) rfl) ?_
    refine wpList_nil ?_
    refine then_n ?_
    refine wp_ret ?_
    refine then_r ?_
    obtain rfl := Option.some.inj M
    exact ret1 rfl rfl  (show _ = .bool false from (by kernel_rfl)) ⟨rfl, S238.chg⟩
  replace M := ifn q240 M
  refine lvg (d := 84) (t := 83) rfl (by kernel_rfl) rfl (bf q240 (by kernel_rfl)) rfl (by kernel_rfl) (e_move (v := .int .i64 t209.2) (by kernel_rfl)) ?_
  refine lvg (d := 85) (t := 83) rfl (by kernel_rfl) rfl (bf q240 (by kernel_rfl)) rfl (by kernel_rfl) (e_move (v := .int .i64 t31.2) (by kernel_rfl)) ?_
  refine lvg (d := 86) (t := 83) rfl (by kernel_rfl) rfl (bf q240 (by kernel_rfl)) rfl (by kernel_rfl) (e_neq (k := .i64) (a := t209.2) (b := t31.2) (by kernel_rfl) (by kernel_rfl)) ?_
  refine lv (d := 87) rfl rfl (by kernel_rfl) (e_pick_f (v := .bool (decide (t209.2 ≠ t31.2))) (bf q240 (by kernel_rfl)) (by kernel_rfl)) ?_
  refine wpList_nil ?_
  refine then_n ?_
  by_cases q241 : t209.2 ≠ t31.2
  · replace M := ifp q241 M
    refine cond_t rfl (bt q241 (by kernel_rfl)) ?_
    refine wp_seq ?_
    refine wp_region_lit ?_
    refine lv (d := 2) rfl rfl (by kernel_rfl) (e_assign (v := .bool false) rfl) ?_
    refine wpList_nil ?_
    refine then_n ?_
    refine wp_ret ?_
    refine then_r ?_
    obtain rfl := Option.some.inj M
    exact ret1 rfl rfl  (show _ = .bool false from (by kernel_rfl)) ⟨rfl, S238.chg⟩
  replace M := ifn q241 M
  refine cond_f rfl (bf q241 (by kernel_rfl)) ?_
  refine wp_skip ?_
  refine then_n ?_
  refine wp_seq ?_
  refine wp_region_lit ?_
  refine lv (d := 11) rfl rfl (by kernel_rfl) (e_assign (v := .int .i64 1) rfl) ?_
  refine wpList_nil ?_
  refine then_n ?_
  refine wp_seq ?_
  refine wp_region_lit ?_
  refine lv (d := 88) rfl rfl (by kernel_rfl) (e_move (v := .slice A67 t62.1.length c68) (by kernel_rfl)) ?_
  refine lv (d := 89) rfl rfl (by kernel_rfl) (e_move (v := .int .i64 1) (by kernel_rfl)) ?_
  obtain ⟨t242, u243, M⟩ := bnd M
  refine lcall (d := 90) rfl rfl (by kernel_rfl) (e_call (l := [.tmp 88, .tmp 89]) (vs := [.slice A67 t62.1.length c68, .int .i64 1]) Try.func29 (by kernel_rfl) rfl (by kernel_rfl) rfl) (by have l244 := h171.le; have S245 := S238.pull (F := F172) (Fr := [F217, F138, F107, F39]) 1 rfl rfl; obtain ⟨H246, S247, E248, h249, z250⟩ := S245.frzRow h171; replace h216 := h216.ext E248; replace h137 := h137.ext E248; replace h106 := h106.ext E248; replace h38 := h38.ext E248; exact (by have q_ := (laws_heldCellS.calls k w236 H246 t166.2 A67 c68 1 h249 l244 S247.own0 t242 u243); rw [(show t166.2.length = t62.1.length from n173)] at q_; exact q_)) ?_
  rintro _ w251 ⟨rfl, C252⟩
  refine ⟨_, rfl, ?_⟩
  obtain ⟨S253, K254⟩ := S238.still C252
  replace h216 := h216.move (K254.at 0 rfl)
  replace h171 := h171.move (K254.at 1 rfl)
  replace h137 := h137.move (K254.at 2 rfl)
  replace h106 := h106.move (K254.at 3 rfl)
  replace h38 := h38.move (K254.at 4 rfl)
  refine lv (d := 11) rfl rfl (by kernel_rfl) (e_assign (v := .int .i64 t242) (by kernel_rfl)) ?_
  refine wpList_nil ?_
  refine then_n ?_
  refine wp_seq ?_
  refine wp_seq ?_
  refine wp_region_lit ?_
  refine lv (d := 91) rfl rfl (by kernel_rfl) (e_move (v := .int .i64 t242) (by kernel_rfl)) ?_
  refine lv (d := 92) rfl rfl (by kernel_rfl) (e_lss (k := .i64) (a := t242) (b := 0) (by kernel_rfl) rfl) ?_
  refine wpList_nil ?_
  refine then_n ?_
  by_cases q255 : t242 < 0
  · replace M := ifp q255 M
    refine cond_t rfl (bt q255 (by kernel_rfl)) ?_
    refine wp_seq ?_
    refine wp_region_lit ?_
    refine lv (d := 2) rfl rfl (by kernel_rfl) (e_assign (v := .bool false) rfl) ?_
    refine wpList_nil ?_
    refine then_n ?_
    refine wp_ret ?_
    refine then_r ?_
    obtain rfl := Option.some.inj M
    exact ret1 rfl rfl  (show _ = .bool false from (by kernel_rfl)) ⟨rfl, S253.chg⟩
  replace M := ifn q255 M
  refine cond_f rfl (bf q255 (by kernel_rfl)) ?_
  refine wp_skip ?_
  refine then_n ?_
  refine wp_seq ?_
  refine wp_seq ?_
  refine wp_region_lit ?_
  refine lv (d := 93) rfl rfl (by kernel_rfl) (e_move (v := .int .i64 t242) (by kernel_rfl)) ?_
  refine lv (d := 94) rfl rfl (by kernel_rfl) (e_move (v := .int .i64 t166.1) (by kernel_rfl)) ?_
  refine lv (d := 95) rfl rfl (by kernel_rfl) (e_neq (k := .i64) (a := t242) (b := t166.1) (by kernel_rfl) (by kernel_rfl)) ?_
  refine wpList_nil ?_
  refine then_n ?_
  by_cases q256 : t242 ≠ t166.1
  · replace M := ifp q256 M
    refine cond_t rfl (bt q256 (by kernel_rfl)) ?_
    refine wp_seq ?_
    refine wp_region_lit ?_
    refine lv (d := 2) rfl rfl (by kernel_rfl) (e_assign (v := .bool false) rfl) ?_
    refine wpList_nil ?_
    refine then_n ?_
    refine wp_ret ?_
    refine then_r ?_
    obtain rfl := Option.some.inj M
    exact ret1 rfl rfl  (show _ = .bool false from (by kernel_rfl)) ⟨rfl, S253.chg⟩
  replace M := ifn q256 M
  refine cond_f rfl (bf q256 (by kernel_rfl)) ?_
  refine wp_skip ?_
  refine then_n ?_
  refine wp_seq ?_
  refine wp_region_lit ?_
  refine lv (d := 2) rfl rfl (by kernel_rfl) (e_assign (v := .bool true) rfl) ?_
  refine wpList_nil ?_
  refine then_n ?_
  refine wp_ret ?_
  obtain rfl := Option.some.inj M
  exact ret1 rfl rfl  (show _ = .bool true from (by kernel_rfl)) ⟨rfl, S253.chg⟩
end Go.Proofs.Ytognefkopbbdnaa
