import Derived.Test.YtognefkopbbdnaaWkRn1
namespace Go.Proofs.Ytognefkopbbdnaa
open Go.Sx Go.Sy
attribute [local irreducible] Go.wpList Go.wpStill Go.wpQuiet Go.Code.wp
set_option maxRecDepth 100000
set_option maxHeartbeats 1000000
set_option linter.unusedVariables false
set_option linter.unusedSimpArgs false

/-! laws_eqByteS -/
def laws_eqByteS.l0 : Nat → (List UInt8) → (List UInt8) → Int → Option Bool
  | 0, _, _, _ => none
  | k23 + 1, x1, x6, x14 => (if x14 < (x1.length : Int) then (if 0 ≤ x14 then (if x14 < (x6.length : Int) then (if ((x1.getD ((x14).toNat) (0 : UInt8)).toNat : Int) ≠ ((x6.getD ((x14).toNat) (0 : UInt8)).toNat : Int) then some false else (laws_eqByteS.l0 k23 x1 x6 (IntKind.i64.wrap (x14 + 1)))) else none) else none) else some true)
def laws_eqByteS.f (k : Nat) (x1 : List UInt8) (x6 : List UInt8) : Option Bool := (if (x1.length : Int) ≠ (x6.length : Int) then some false else (laws_eqByteS.l0 k x1 x6 0))
theorem laws_eqByteS.calls (k : Nat) (w : World) (H : Hp) (x1 : List UInt8) (A2 : Option Addr) (c3 : Nat) (x6 : List UInt8) (A7 : Option Addr) (c8 : Nat) (h4 : Rd tByte H A2 x1) (l5 : x1.length ≤ c3) (h9 : Rd tByte H A7 x6) (l10 : x6.length ≤ c8) (S : Own [] H w) (r : Bool) (M : laws_eqByteS.f k x1 x6 = some r) :
    Calls Try.prog 104 #[.slice A2 x1.length c3, .slice A7 x6.length c8] w (fun e e_w => e = .returned (.bool r) ∧ Chg no w e_w) := by
  rw [laws_eqByteS.f] at M
  refine enter (l := [.slice A2 x1.length c3, .slice A7 x6.length c8]) 26 Try.func104 rfl rfl rfl ?_
  have S0_ := S.st
  refine wp_seq ?_
  refine wp_region_lit ?_
  refine lv (d := 4) rfl rfl (by kernel_rfl) (e_assign (v := .bool false) rfl) ?_
  refine wpList_nil ?_
  refine then_n ?_
  refine wp_seq ?_
  refine wp_seq ?_
  refine wp_region_lit ?_
  refine lv (d := 6) rfl rfl (by kernel_rfl) (e_move (v := .slice A2 x1.length c3) (by kernel_rfl)) ?_
  refine lv (d := 7) rfl rfl (by kernel_rfl) (e_len (A := A2) (n := x1.length) (c := c3) Try.underlying59 (by kernel_rfl)) ?_
  refine lv (d := 8) rfl rfl (by kernel_rfl) (e_move (v := .slice A7 x6.length c8) (by kernel_rfl)) ?_
  refine lv (d := 9) rfl rfl (by kernel_rfl) (e_len (A := A7) (n := x6.length) (c := c8) Try.underlying59 (by kernel_rfl)) ?_
  refine lv (d := 10) rfl rfl (by kernel_rfl) (e_neq (k := .i64) (a := (x1.length : Int)) (b := (x6.length : Int)) (by kernel_rfl) (by kernel_rfl)) ?_
  refine wpList_nil ?_
  refine then_n ?_
  by_cases q11 : (x1.length : Int) ≠ (x6.length : Int)
  · replace M := ifp q11 M
    refine cond_t rfl (bt q11 (by kernel_rfl)) ?_
    refine wp_seq ?_
    refine wp_region_lit ?_
    refine lv (d := 4) rfl rfl (by kernel_rfl) (e_assign (v := .bool false) rfl) ?_
    refine wpList_nil ?_
    refine then_n ?_
    refine wp_ret ?_
    refine then_r ?_
    obtain rfl := Option.some.inj M
    exact ret1 rfl rfl  (show _ = .bool false from (by kernel_rfl)) ⟨rfl, S0_.chg⟩
  replace M := ifn q11 M
  refine cond_f rfl (bf q11 (by kernel_rfl)) ?_
  refine wp_skip ?_
  refine then_n ?_
  refine wp_seq ?_
  refine wp_seq ?_
  refine wp_region_lit ?_
  refine lv (d := 5) rfl rfl (by kernel_rfl) (e_assign (v := .int .i64 0) rfl) ?_
  refine wpList_nil ?_
  refine then_n ?_
  refine wp_block ?_
  refine wp_loop_g (fun k21 a22 w12 => ∃ (f13 : Nat → Value) (x14 : Int), a22 = mk 26 f13 ∧ f13 0 = .slice A2 x1.length c3 ∧ f13 1 = .slice A7 x6.length c8 ∧ f13 5 = .int .i64 x14 ∧ St (anyOf []) H w [] H w12 ∧ laws_eqByteS.l0 k21 x1 x6 x14 = some r) k ⟨_, 0, rfl, (by kernel_rfl), (by kernel_rfl), (by kernel_rfl), S0_, M⟩ ?_
  clear M
  rintro k21 a22 w12 ⟨f13, x14, rfl, e15, e16, e17, S18, M⟩
  rcases k21 with _ | k23
  · rw [laws_eqByteS.l0] at M
    cases M
  rw [laws_eqByteS.l0] at M
  refine wp_seq ?_
  refine wp_seq ?_
  refine wp_region_lit ?_
  refine lv (d := 11) rfl rfl (by kernel_rfl) (e_move (v := .int .i64 x14) (by exact e17)) ?_
  refine lv (d := 12) rfl rfl (by kernel_rfl) (e_move (v := .slice A2 x1.length c3) (by exact e15)) ?_
  refine lv (d := 13) rfl rfl (by kernel_rfl) (e_len (A := A2) (n := x1.length) (c := c3) Try.underlying59 (by kernel_rfl)) ?_
  refine lv (d := 14) rfl rfl (by kernel_rfl) (e_lss (k := .i64) (a := x14) (b := (x1.length : Int)) (by kernel_rfl) (by kernel_rfl)) ?_
  refine wpList_nil ?_
  refine then_n ?_
  by_cases q24 : x14 < (x1.length : Int)
  · replace M := ifp q24 M
    refine cond_t rfl (bt q24 (by kernel_rfl)) ?_
    refine wp_skip ?_
    refine then_n ?_
    refine wp_seq ?_
    refine wp_block ?_
    refine wp_seq ?_
    refine region_still (by kernel_rfl) (by kernel_rfl) S18 ?_
    intro w25 S26 K27
    refine sv (d := 17) rfl rfl (by kernel_rfl) (e_move (v := .slice A2 x1.length c3) (by exact e15)) ?_
    refine sv (d := 18) rfl rfl (by kernel_rfl) (e_move (v := .int .i64 x14) (by exact e17)) ?_
    obtain ⟨q28, M⟩ := chk M
    obtain ⟨b29, o30, e31⟩ := Rd.addr h4 (show (x14).toNat < x1.length by omega)
    obtain ⟨y32, r33, k34⟩ := Rd.at h4 e31 (getD_some (0 : UInt8) (show (x14).toNat < x1.length by omega))
    obtain rfl := r33
    refine sv (d := 19) rfl rfl (by kernel_rfl) (e_indexAddr (b := b29) (off := o30) (n := x1.length) (c := c3) (sz := 1) (i := x14) (k := .i64) Try.underlying59 e31 (by kernel_rfl) (by kernel_rfl) (by kernel_rfl) q28 q24) ?_
    refine sv (d := 20) rfl rfl (by kernel_rfl) (e_load1 (ad := ⟨b29, o30 + (x14 : Int).toNat * 1, none⟩) (v := .int .u8 ((x1.getD ((x14).toNat) (0 : UInt8)).toNat : Int)) Try.underlying5 rfl (by kernel_rfl) (hpx (S26.inv.cell (k34 0 _ rfl)))) ?_
    refine sv (d := 21) rfl rfl (by kernel_rfl) (e_move (v := .slice A7 x6.length c8) (by exact e16)) ?_
    refine sv (d := 22) rfl rfl (by kernel_rfl) (e_move (v := .int .i64 x14) (by exact e17)) ?_
    obtain ⟨q35, M⟩ := chk M
    obtain ⟨b36, o37, e38⟩ := Rd.addr h9 (show (x14).toNat < x6.length by omega)
    obtain ⟨y39, r40, k41⟩ := Rd.at h9 e38 (getD_some (0 : UInt8) (show (x14).toNat < x6.length by omega))
    obtain rfl := r40
    refine sv (d := 23) rfl rfl (by kernel_rfl) (e_indexAddr (b := b36) (off := o37) (n := x6.length) (c := c8) (sz := 1) (i := x14) (k := .i64) Try.underlying59 e38 (by kernel_rfl) (by kernel_rfl) (by kernel_rfl) q28 q35) ?_
    refine sv (d := 24) rfl rfl (by kernel_rfl) (e_load1 (ad := ⟨b36, o37 + (x14 : Int).toNat * 1, none⟩) (v := .int .u8 ((x6.getD ((x14).toNat) (0 : UInt8)).toNat : Int)) Try.underlying5 rfl (by kernel_rfl) (hpx (S26.inv.cell (k41 0 _ rfl)))) ?_
    refine sv (d := 25) rfl rfl (by kernel_rfl) (e_neq (k := .u8) (a := ((x1.getD ((x14).toNat) (0 : UInt8)).toNat : Int)) (b := ((x6.getD ((x14).toNat) (0 : UInt8)).toNat : Int)) (by kernel_rfl) (by kernel_rfl)) ?_
    refine wpStill_nil ?_
    refine then_n ?_
    by_cases q42 : ((x1.getD ((x14).toNat) (0 : UInt8)).toNat : Int) ≠ ((x6.getD ((x14).toNat) (0 : UInt8)).toNat : Int)
    · replace M := ifp q42 M
      refine cond_t rfl (bt q42 (by kernel_rfl)) ?_
      refine wp_seq ?_
      refine wp_region_lit ?_
      refine lv (d := 4) rfl rfl (by kernel_rfl) (e_assign (v := .bool false) rfl) ?_
      refine wpList_nil ?_
      refine then_n ?_
      refine wp_ret ?_
      refine inb_r ?_
      refine then_r ?_
      refine then_r ?_
      refine inb_r ?_
      refine then_r ?_
      obtain rfl := Option.some.inj M
      exact ret1 rfl rfl  (show _ = .bool false from (by kernel_rfl)) ⟨rfl, S26.chg⟩
    replace M := ifn q42 M
    refine cond_f rfl (bf q42 (by kernel_rfl)) ?_
    refine wp_skip ?_
    refine inb_n ?_
    refine then_n ?_
    refine wp_region_lit ?_
    refine lv (d := 15) rfl rfl (by kernel_rfl) (e_move (v := .int .i64 x14) (by exact e17)) ?_
    refine lv (d := 16) rfl rfl (by kernel_rfl) (e_add (k := .i64) (a := x14) (b := 1) (by kernel_rfl) rfl) ?_
    refine lv (d := 5) rfl rfl (by kernel_rfl) (e_assign (v := .int .i64 (IntKind.i64.wrap (x14 + 1))) (by kernel_rfl)) ?_
    refine wpList_nil ?_
    refine then_n ?_
    exact ⟨k23, (by omega), _, (IntKind.i64.wrap (x14 + 1)), rfl, (by exact e15), (by exact e16), (by kernel_rfl), S26, M⟩
  replace M := ifn q24 M
  refine cond_f rfl (bf q24 (by kernel_rfl)) ?_
  refine wp_exit ?_
  refine then_e ?_
  refine then_e ?_
  refine inb_hit ?_
  refine then_n ?_
  refine wp_seq ?_
  refine wp_region_lit ?_
  refine lv (d := 4) rfl rfl (by kernel_rfl) (e_assign (v := .bool true) rfl) ?_
  refine wpList_nil ?_
  refine then_n ?_
  refine wp_ret ?_
  obtain rfl := Option.some.inj M
  exact ret1 rfl rfl  (show _ = .bool true from (by kernel_rfl)) ⟨rfl, S18.chg⟩

/-! laws_eqCell -/
def laws_eqCell.f (k : Nat) (x1 : Cell) (x6 : Cell) : Option Bool := (if x1.kind ≠ x6.kind then some false else (if x1.n ≠ x6.n then some false else ((laws_eqByteS.f k x1.text x6.text).bind fun t23 => (if ¬ (t23 = true) then some false else some true))))
theorem laws_eqCell.calls (k : Nat) (w : World) (H : Hp) (x1 : Cell) (A2 : Option Addr) (c3 : Nat) (x6 : Cell) (A7 : Option Addr) (c8 : Nat) (h4 : Rd tByte H A2 x1.text) (l5 : x1.text.length ≤ c3) (h9 : Rd tByte H A7 x6.text) (l10 : x6.text.length ≤ c8) (S : Own [] H w) (r : Bool) (M : laws_eqCell.f k x1 x6 = some r) :
    Calls Try.prog 59 #[.agg #[.int .i64 x1.kind, .int .i64 x1.n, .slice A2 x1.text.length c3], .agg #[.int .i64 x6.kind, .int .i64 x6.n, .slice A7 x6.text.length c8]] w (fun e e_w => e = .returned (.bool r) ∧ Chg no w e_w) := by
  rw [laws_eqCell.f] at M
  refine enter (l := [.agg #[.int .i64 x1.kind, .int .i64 x1.n, .slice A2 x1.text.length c3], .agg #[.int .i64 x6.kind, .int .i64 x6.n, .slice A7 x6.text.length c8]]) 21 Try.func59 rfl rfl rfl ?_
  have S0_ := S.st
  refine wp_seq ?_
  refine wp_region_lit ?_
  refine lve (d := 2) rfl rfl (by kernel_rfl) (new_blk (v := fun g_ => .pointer (some ⟨g_, 0, none⟩)) (cs := #[.int .i64 x1.kind, .int .i64 x1.n, .slice A2 x1.text.length c3]) (t := 65) S0_ (by kernel_rfl)) ?_
  rintro _ w11 ⟨g12, rfl, b13, S14, K15⟩
  refine lve (d := 3) rfl rfl (by kernel_rfl) (new_blk (v := fun g_ => .pointer (some ⟨g_, 0, none⟩)) (cs := #[.int .i64 x6.kind, .int .i64 x6.n, .slice A7 x6.text.length c8]) (t := 65) S14 (by kernel_rfl)) ?_
  rintro _ w16 ⟨g17, rfl, b18, S19, K20⟩
  replace b13 := K20.blk 0 rfl b13
  refine lv (d := 4) rfl rfl (by kernel_rfl) (e_assign (v := .bool false) rfl) ?_
  refine wpList_nil ?_
  refine then_n ?_
  refine wp_seq ?_
  refine wp_seq ?_
  refine wp_region_lit ?_
  refine lv (d := 5) rfl rfl (by kernel_rfl) (e_fieldAddr (b := g12) (off := 0) (o := 0) Try.underlying65 rfl rfl (sz := 1) (by kernel_rfl) (by decide) (by kernel_rfl)) ?_
  refine lv (d := 6) rfl rfl (by kernel_rfl) (e_load1 (ad := ⟨g12, 0 + 0, none⟩) (v := .int .i64 x1.kind) Try.underlying3 rfl (by kernel_rfl) (blk_cell b13 rfl)) ?_
  refine lv (d := 7) rfl rfl (by kernel_rfl) (e_fieldAddr (b := g17) (off := 0) (o := 0) Try.underlying65 rfl rfl (sz := 1) (by kernel_rfl) (by decide) (by kernel_rfl)) ?_
  refine lv (d := 8) rfl rfl (by kernel_rfl) (e_load1 (ad := ⟨g17, 0 + 0, none⟩) (v := .int .i64 x6.kind) Try.underlying3 rfl (by kernel_rfl) (blk_cell b18 rfl)) ?_
  refine lv (d := 9) rfl rfl (by kernel_rfl) (e_neq (k := .i64) (a := x1.kind) (b := x6.kind) (by kernel_rfl) (by kernel_rfl)) ?_
  refine wpList_nil ?_
  refine then_n ?_
  by_cases q21 : x1.kind ≠ x6.kind
  · replace M := ifp q21 M
    refine cond_t rfl (bt q21 (by kernel_rfl)) ?_
    refine wp_seq ?_
    refine wp_region_lit ?_
    refine lv (d := 4) rfl rfl (by kernel_rfl) (e_assign (v := .bool false) rfl) ?_
    refine wpList_nil ?_
    refine then_n ?_
    refine wp_ret ?_
    refine then_r ?_
    obtain rfl := Option.some.inj M
    exact ret1 rfl rfl  (show _ = .bool false from (by kernel_rfl)) ⟨rfl, S19.chg⟩
  replace M := ifn q21 M
  refine cond_f rfl (bf q21 (by kernel_rfl)) ?_
  refine wp_skip ?_
  refine then_n ?_
  refine wp_seq ?_
  refine wp_seq ?_
  refine wp_region_lit ?_
  refine lv (d := 10) rfl rfl (by kernel_rfl) (e_fieldAddr (b := g12) (off := 0) (o := 1) Try.underlying65 rfl rfl (sz := 1) (by kernel_rfl) (by decide) (by kernel_rfl)) ?_
  refine lv (d := 11) rfl rfl (by kernel_rfl) (e_load1 (ad := ⟨g12, 0 + 1, none⟩) (v := .int .i64 x1.n) Try.underlying3 rfl (by kernel_rfl) (blk_cell b13 rfl)) ?_
  refine lv (d := 12) rfl rfl (by kernel_rfl) (e_fieldAddr (b := g17) (off := 0) (o := 1) Try.underlying65 rfl rfl (sz := 1) (by kernel_rfl) (by decide) (by kernel_rfl)) ?_
  refine lv (d := 13) rfl rfl (by kernel_rfl) (e_load1 (ad := ⟨g17, 0 + 1, none⟩) (v := .int .i64 x6.n) Try.underlying3 rfl (by kernel_rfl) (blk_cell b18 rfl)) ?_
  refine lv (d := 14) rfl rfl (by kernel_rfl) (e_neq (k := .i64) (a := x1.n) (b := x6.n) (by kernel_rfl) (by kernel_rfl)) ?_
  refine wpList_nil ?_
  refine then_n ?_
  by_cases q22 : x1.n ≠ x6.n
  · replace M := ifp q22 M
    refine cond_t rfl (bt q22 (by kernel_rfl)) ?_
    refine wp_seq ?_
    refine wp_region_lit ?_
    refine lv (d := 4) rfl rfl (by kernel_rfl) (e_assign (v := .bool false) rfl) ?_
    refine wpList_nil ?_
    refine then_n ?_
    refine wp_ret ?_
    refine then_r ?_
    obtain rfl := Option.some.inj M
    exact ret1 rfl rfl  (show _ = .bool false from (by kernel_rfl)) ⟨rfl, S19.chg⟩
  replace M := ifn q22 M
  refine cond_f rfl (bf q22 (by kernel_rfl)) ?_
  refine wp_skip ?_
  refine then_n ?_
  refine wp_seq ?_
  refine wp_seq ?_
  refine wp_region_lit ?_
  refine lv (d := 15) rfl rfl (by kernel_rfl) (e_fieldAddr (b := g12) (off := 0) (o := 2) Try.underlying65 rfl rfl (sz := 1) (by kernel_rfl) (by decide) (by kernel_rfl)) ?_
  refine lv (d := 16) rfl rfl (by kernel_rfl) (e_load1 (ad := ⟨g12, 0 + 2, none⟩) (v := .slice A2 x1.text.length c3) Try.underlying59 rfl (by kernel_rfl) (blk_cell b13 rfl)) ?_
  refine lv (d := 17) rfl rfl (by kernel_rfl) (e_fieldAddr (b := g17) (off := 0) (o := 2) Try.underlying65 rfl rfl (sz := 1) (by kernel_rfl) (by decide) (by kernel_rfl)) ?_
  refine lv (d := 18) rfl rfl (by kernel_rfl) (e_load1 (ad := ⟨g17, 0 + 2, none⟩) (v := .slice A7 x6.text.length c8) Try.underlying59 rfl (by kernel_rfl) (blk_cell b18 rfl)) ?_
  obtain ⟨t23, u24, M⟩ := bnd M
  refine lcall (d := 19) rfl rfl (by kernel_rfl) (e_call (l := [.tmp 16, .tmp 18]) (vs := [.slice A2 x1.text.length c3, .slice A7 x6.text.length c8]) Try.func104 (by kernel_rfl) rfl (by kernel_rfl) rfl) (laws_eqByteS.calls k w16 H x1.text A2 c3 x6.text A7 c8 h4 l5 h9 l10 S19.own0 t23 u24) ?_
  rintro _ w25 ⟨rfl, C26⟩
  refine ⟨_, rfl, ?_⟩
  obtain ⟨S27, K28⟩ := S19.still C26
  replace b18 := K28.blk 0 rfl b18
  replace b13 := K28.blk 1 rfl b13
  refine lv (d := 20) rfl rfl (by kernel_rfl) (e_notv (c := t23) (by kernel_rfl)) ?_
  refine wpList_nil ?_
  refine then_n ?_
  by_cases q29 : ¬ (t23 = true)
  · replace M := ifp q29 M
    refine cond_t rfl (bt q29 (by kernel_rfl)) ?_
    refine wp_seq ?_
    refine wp_region_lit ?_
    refine lv (d := 4) rfl rfl (by kernel_rfl) (e_assign (v := .bool false) rfl) ?_
    refine wpList_nil ?_
    refine then_n ?_
    refine wp_ret ?_
    refine then_r ?_
    obtain rfl := Option.some.inj M
    exact ret1 rfl rfl  (show _ = .bool false from (by kernel_rfl)) ⟨rfl, S27.chg⟩
  replace M := ifn q29 M
  refine cond_f rfl (bf q29 (by kernel_rfl)) ?_
  refine wp_skip ?_
  refine then_n ?_
  refine wp_seq ?_
  refine wp_region_lit ?_
  refine lv (d := 4) rfl rfl (by kernel_rfl) (e_assign (v := .bool true) rfl) ?_
  refine wpList_nil ?_
  refine then_n ?_
  refine wp_ret ?_
  obtain rfl := Option.some.inj M
  exact ret1 rfl rfl  (show _ = .bool true from (by kernel_rfl)) ⟨rfl, S27.chg⟩

/-! laws_eqCellS -/
def laws_eqCellS.l0 : Nat → (List Cell) → (List Cell) → Int → Option Bool
  | 0, _, _, _ => none
  | k23 + 1, x1, x6, x14 => (if x14 < (x1.length : Int) then (if 0 ≤ x14 then (if x14 < (x6.length : Int) then ((laws_eqCell.f k23 (x1.getD ((x14).toNat) z65) (x6.getD ((x14).toNat) z65)).bind fun t47 => (if ¬ (t47 = true) then some false else (laws_eqCellS.l0 k23 x1 x6 (IntKind.i64.wrap (x14 + 1))))) else none) else none) else some true)
def laws_eqCellS.f (k : Nat) (x1 : List Cell) (x6 : List Cell) : Option Bool := (if (x1.length : Int) ≠ (x6.length : Int) then some false else (laws_eqCellS.l0 k x1 x6 0))
theorem laws_eqCellS.calls (k : Nat) (w : World) (H : Hp) (x1 : List Cell) (A2 : Option Addr) (c3 : Nat) (x6 : List Cell) (A7 : Option Addr) (c8 : Nat) (h4 : Rd st65 H A2 x1) (l5 : x1.length ≤ c3) (h9 : Rd st65 H A7 x6) (l10 : x6.length ≤ c8) (S : Own [] H w) (r : Bool) (M : laws_eqCellS.f k x1 x6 = some r) :
    Calls Try.prog 18 #[.slice A2 x1.length c3, .slice A7 x6.length c8] w (fun e e_w => e = .returned (.bool r) ∧ Chg no w e_w) := by
  rw [laws_eqCellS.f] at M
  refine enter (l := [.slice A2 x1.length c3, .slice A7 x6.length c8]) 27 Try.func18 rfl rfl rfl ?_
  have S0_ := S.st
  refine wp_seq ?_
  refine wp_region_lit ?_
  refine lv (d := 4) rfl rfl (by kernel_rfl) (e_assign (v := .bool false) rfl) ?_
  refine wpList_nil ?_
  refine then_n ?_
  refine wp_seq ?_
  refine wp_seq ?_
  refine wp_region_lit ?_
  refine lv (d := 6) rfl rfl (by kernel_rfl) (e_move (v := .slice A2 x1.length c3) (by kernel_rfl)) ?_
  refine lv (d := 7) rfl rfl (by kernel_rfl) (e_len (A := A2) (n := x1.length) (c := c3) Try.underlying25 (by kernel_rfl)) ?_
  refine lv (d := 8) rfl rfl (by kernel_rfl) (e_move (v := .slice A7 x6.length c8) (by kernel_rfl)) ?_
  refine lv (d := 9) rfl rfl (by kernel_rfl) (e_len (A := A7) (n := x6.length) (c := c8) Try.underlying25 (by kernel_rfl)) ?_
  refine lv (d := 10) rfl rfl (by kernel_rfl) (e_neq (k := .i64) (a := (x1.length : Int)) (b := (x6.length : Int)) (by kernel_rfl) (by kernel_rfl)) ?_
  refine wpList_nil ?_
  refine then_n ?_
  by_cases q11 : (x1.length : Int) ≠ (x6.length : Int)
  · replace M := ifp q11 M
    refine cond_t rfl (bt q11 (by kernel_rfl)) ?_
    refine wp_seq ?_
    refine wp_region_lit ?_
    refine lv (d := 4) rfl rfl (by kernel_rfl) (e_assign (v := .bool false) rfl) ?_
    refine wpList_nil ?_
    refine then_n ?_
    refine wp_ret ?_
    refine then_r ?_
    obtain rfl := Option.some.inj M
    exact ret1 rfl rfl  (show _ = .bool false from (by kernel_rfl)) ⟨rfl, S0_.chg⟩
  replace M := ifn q11 M
  refine cond_f rfl (bf q11 (by kernel_rfl)) ?_
  refine wp_skip ?_
  refine then_n ?_
  refine wp_seq ?_
  refine wp_seq ?_
  refine wp_region_lit ?_
  refine lv (d := 5) rfl rfl (by kernel_rfl) (e_assign (v := .int .i64 0) rfl) ?_
  refine wpList_nil ?_
  refine then_n ?_
  refine wp_block ?_
  refine wp_loop_g (fun k21 a22 w12 => ∃ (f13 : Nat → Value) (x14 : Int), a22 = mk 27 f13 ∧ f13 0 = .slice A2 x1.length c3 ∧ f13 1 = .slice A7 x6.length c8 ∧ f13 5 = .int .i64 x14 ∧ St (anyOf []) H w [] H w12 ∧ laws_eqCellS.l0 k21 x1 x6 x14 = some r) k ⟨_, 0, rfl, (by kernel_rfl), (by kernel_rfl), (by kernel_rfl), S0_, M⟩ ?_
  clear M
  rintro k21 a22 w12 ⟨f13, x14, rfl, e15, e16, e17, S18, M⟩
  rcases k21 with _ | k23
  · rw [laws_eqCellS.l0] at M
    cases M
  rw [laws_eqCellS.l0] at M
  refine wp_seq ?_
  refine wp_seq ?_
  refine wp_region_lit ?_
  refine lv (d := 11) rfl rfl (by kernel_rfl) (e_move (v := .int .i64 x14) (by exact e17)) ?_
  refine lv (d := 12) rfl rfl (by kernel_rfl) (e_move (v := .slice A2 x1.length c3) (by exact e15)) ?_
  refine lv (d := 13) rfl rfl (by kernel_rfl) (e_len (A := A2) (n := x1.length) (c := c3) Try.underlying25 (by kernel_rfl)) ?_
  refine lv (d := 14) rfl rfl (by kernel_rfl) (e_lss (k := .i64) (a := x14) (b := (x1.length : Int)) (by kernel_rfl) (by kernel_rfl)) ?_
  refine wpList_nil ?_
  refine then_n ?_
  by_cases q24 : x14 < (x1.length : Int)
  · replace M := ifp q24 M
    refine cond_t rfl (bt q24 (by kernel_rfl)) ?_
    refine wp_skip ?_
    refine then_n ?_
    refine wp_seq ?_
    refine wp_block ?_
    refine wp_seq ?_
    refine region_quiet (by kernel_rfl) (by kernel_rfl) ?_
    refine qv (d := 17) rfl rfl (by kernel_rfl) (fun wq_ hq_ => e_move (v := .slice A2 x1.length c3) (by exact e15)) ?_
    refine qv (d := 18) rfl rfl (by kernel_rfl) (fun wq_ hq_ => e_move (v := .int .i64 x14) (by exact e17)) ?_
    obtain ⟨q25, M⟩ := chk M
    obtain ⟨b26, o27, e28⟩ := Rd.addr h4 (show (x14).toNat < x1.length by omega)
    obtain ⟨y29, r30, k31⟩ := Rd.at h4 e28 (getD_some z65 (show (x14).toNat < x1.length by omega))
    obtain ⟨A32, c33, rfl, l34, h35⟩ := st65_open r30
    refine qv (d := 19) rfl rfl (by kernel_rfl) (fun wq_ hq_ => e_indexAddr (b := b26) (off := o27) (n := x1.length) (c := c3) (sz := 3) (i := x14) (k := .i64) Try.underlying25 e28 (by kernel_rfl) (by kernel_rfl) (by kernel_rfl) q25 q24) ?_
    refine qv (d := 20) rfl rfl (by kernel_rfl) (fun wq_ hq_ => e_loadS (b := b26) (off := o27 + (x14 : Int).toNat * 3) (cs := [.int .i64 ((x1.getD ((x14).toNat) z65).kind), .int .i64 ((x1.getD ((x14).toNat) z65).n), .slice A32 ((x1.getD ((x14).toNat) z65).text).length c33]) Try.underlying65 rfl (by kernel_rfl) (by kernel_rfl) (fun j_ u_ e_ => (hpx ((S18.still hq_).1.inv.cell (k31 j_ u_ e_))))) ?_
    refine qv (d := 21) rfl rfl (by kernel_rfl) (fun wq_ hq_ => e_move (v := .slice A7 x6.length c8) (by exact e16)) ?_
    refine qv (d := 22) rfl rfl (by kernel_rfl) (fun wq_ hq_ => e_move (v := .int .i64 x14) (by exact e17)) ?_
    obtain ⟨q36, M⟩ := chk M
    obtain ⟨b37, o38, e39⟩ := Rd.addr h9 (show (x14).toNat < x6.length by omega)
    obtain ⟨y40, r41, k42⟩ := Rd.at h9 e39 (getD_some z65 (show (x14).toNat < x6.length by omega))
    obtain ⟨A43, c44, rfl, l45, h46⟩ := st65_open r41
    refine qv (d := 23) rfl rfl (by kernel_rfl) (fun wq_ hq_ => e_indexAddr (b := b37) (off := o38) (n := x6.length) (c := c8) (sz := 3) (i := x14) (k := .i64) Try.underlying25 e39 (by kernel_rfl) (by kernel_rfl) (by kernel_rfl) q25 q36) ?_
    refine qv (d := 24) rfl rfl (by kernel_rfl) (fun wq_ hq_ => e_loadS (b := b37) (off := o38 + (x14 : Int).toNat * 3) (cs := [.int .i64 ((x6.getD ((x14).toNat) z65).kind), .int .i64 ((x6.getD ((x14).toNat) z65).n), .slice A43 ((x6.getD ((x14).toNat) z65).text).length c44]) Try.underlying65 rfl (by kernel_rfl) (by kernel_rfl) (fun j_ u_ e_ => (hpx ((S18.still hq_).1.inv.cell (k42 j_ u_ e_))))) ?_
    obtain ⟨t47, u48, M⟩ := bnd M
    refine qcall (v := .bool t47) (d := 25) rfl rfl (by kernel_rfl) (fun w_ => e_call (l := [.tmp 20, .tmp 24]) (vs := [.agg #[.int .i64 ((x1.getD ((x14).toNat) z65).kind), .int .i64 ((x1.getD ((x14).toNat) z65).n), .slice A32 ((x1.getD ((x14).toNat) z65).text).length c33], .agg #[.int .i64 ((x6.getD ((x14).toNat) z65).kind), .int .i64 ((x6.getD ((x14).toNat) z65).n), .slice A43 ((x6.getD ((x14).toNat) z65).text).length c44]]) Try.func59 (by kernel_rfl) rfl (by kernel_rfl) rfl) (fun wq_ hq_ => (by obtain ⟨S_, K_⟩ := S18.still hq_; exact (laws_eqCell.calls k23 wq_ H (x1.getD ((x14).toNat) z65) A32 c33 (x6.getD ((x14).toNat) z65) A43 c44 h35 l34 h46 l45 S_.own0 t47 u48))) ?_
    refine qv (d := 26) rfl rfl (by kernel_rfl) (fun wq_ hq_ => e_notv (c := t47) (by kernel_rfl)) ?_
    refine wpQuiet_nil ?_
    intro w49 C52
    obtain ⟨S50, K51⟩ := S18.still C52
    refine then_n ?_
    by_cases q53 : ¬ (t47 = true)
    · replace M := ifp q53 M
      refine cond_t rfl (bt q53 (by kernel_rfl)) ?_
      refine wp_seq ?_
      refine wp_region_lit ?_
      refine lv (d := 4) rfl rfl (by kernel_rfl) (e_assign (v := .bool false) rfl) ?_
      refine wpList_nil ?_
      refine then_n ?_
      refine wp_ret ?_
      refine inb_r ?_
      refine then_r ?_
      refine then_r ?_
      refine inb_r ?_
      refine then_r ?_
      obtain rfl := Option.some.inj M
      exact ret1 rfl rfl  (show _ = .bool false from (by kernel_rfl)) ⟨rfl, S50.chg⟩
    replace M := ifn q53 M
    refine cond_f rfl (bf q53 (by kernel_rfl)) ?_
    refine wp_skip ?_
    refine inb_n ?_
    refine then_n ?_
    refine wp_region_lit ?_
    refine lv (d := 15) rfl rfl (by kernel_rfl) (e_move (v := .int .i64 x14) (by exact e17)) ?_
    refine lv (d := 16) rfl rfl (by kernel_rfl) (e_add (k := .i64) (a := x14) (b := 1) (by kernel_rfl) rfl) ?_
    refine lv (d := 5) rfl rfl (by kernel_rfl) (e_assign (v := .int .i64 (IntKind.i64.wrap (x14 + 1))) (by kernel_rfl)) ?_
    refine wpList_nil ?_
    refine then_n ?_
    exact ⟨k23, (by omega), _, (IntKind.i64.wrap (x14 + 1)), rfl, (by exact e15), (by exact e16), (by kernel_rfl), S50, M⟩
  replace M := ifn q24 M
  refine cond_f rfl (bf q24 (by kernel_rfl)) ?_
  refine wp_exit ?_
  refine then_e ?_
  refine then_e ?_
  refine inb_hit ?_
  refine then_n ?_
  refine wp_seq ?_
  refine wp_region_lit ?_
  refine lv (d := 4) rfl rfl (by kernel_rfl) (e_assign (v := .bool true) rfl) ?_
  refine wpList_nil ?_
  refine then_n ?_
  refine wp_ret ?_
  obtain rfl := Option.some.inj M
  exact ret1 rfl rfl  (show _ = .bool true from (by kernel_rfl)) ⟨rfl, S18.chg⟩

/-! laws_markByteS -/
def laws_markByteS_2.l0 : Nat → (List UInt8) → Int → Int → (List UInt8) → Option (Int × (List UInt8))
  | 0, _, _, _, _ => none
  | k22 + 1, x1, x9, x10, x12 => (if x10 < (x1.length : Int) then (if 0 ≤ x10 then (laws_markByteS_2.l0 k22 x1 (IntKind.i64.wrap (x9 + 1)) (IntKind.i64.wrap (x10 + 1)) (x12.set ((x10).toNat) (b8 (x9)))) else none) else some (x9, x12))
def laws_markByteS_2.f (k : Nat) (x1 : List UInt8) (x6 : Int) : Option (Int × (List UInt8)) := (laws_markByteS_2.l0 k x1 x6 0 x1)
theorem laws_markByteS_2.calls (k : Nat) (w : World) (H : Hp) (x1 : List UInt8) (A2 : Option Addr) (c3 : Nat) (F5 : Foot) (x6 : Int) (h4 : Row tByte 5 H (hp w) F5 A2 c3 x1) (S : Own [F5] H w) (r : Int × (List UInt8)) (M : laws_markByteS_2.f k x1 x6 = some r) :
    Calls Try.prog 65 #[.slice A2 x1.length c3, .int .i64 x6] w (fun e e_w => ∃ (F_1 : Foot) (H_ : Hp), e = .returned (.int .i64 r.1) ∧ r.2.length = x1.length ∧ Row tByte 5 H_ (hp e_w) F_1 A2 c3 r.2 ∧ St (anyOf [F5]) H w [F_1] H_ e_w) := by
  rw [laws_markByteS_2.f] at M
  refine enter (l := [.slice A2 x1.length c3, .int .i64 x6]) 20 Try.func65 rfl rfl rfl ?_
  have S0_ := S.st
  refine wp_seq ?_
  refine wp_region_lit ?_
  refine lv (d := 4) rfl rfl (by kernel_rfl) (e_assign (v := .int .i64 0) rfl) ?_
  refine wpList_nil ?_
  refine then_n ?_
  refine wp_seq ?_
  refine wp_seq ?_
  refine wp_region_lit ?_
  refine lv (d := 5) rfl rfl (by kernel_rfl) (e_assign (v := .int .i64 0) rfl) ?_
  refine wpList_nil ?_
  refine then_n ?_
  refine wp_block ?_
  refine wp_loop_g (fun k20 a21 w7 => ∃ (f8 : Nat → Value) (x9 : Int) (x10 : Int) (F11 : Foot) (x12 : List UInt8), a21 = mk 20 f8 ∧ f8 0 = .slice A2 x1.length c3 ∧ f8 1 = .int .i64 x9 ∧ f8 5 = .int .i64 x10 ∧ Row tByte 5 H (hp w7) F11 A2 c3 x12 ∧ x12.length = x1.length ∧ St (anyOf [F5]) H w [F11] H w7 ∧ laws_markByteS_2.l0 k20 x1 x9 x10 x12 = some r) k ⟨_, x6, 0, F5, x1, rfl, (by kernel_rfl), (by kernel_rfl), (by kernel_rfl), h4, rfl, S0_, M⟩ ?_
  clear M
  rintro k20 a21 w7 ⟨f8, x9, x10, F11, x12, rfl, e14, e15, e16, h4, n13, S17, M⟩
  rcases k20 with _ | k22
  · rw [laws_markByteS_2.l0] at M
    cases M
  rw [laws_markByteS_2.l0] at M
  refine wp_seq ?_
  refine wp_seq ?_
  refine wp_region_lit ?_
  refine lv (d := 6) rfl rfl (by kernel_rfl) (e_move (v := .int .i64 x10) (by exact e16)) ?_
  refine lv (d := 7) rfl rfl (by kernel_rfl) (e_move (v := .slice A2 x1.length c3) (by exact e14)) ?_
  refine lv (d := 8) rfl rfl (by kernel_rfl) (e_len (A := A2) (n := x1.length) (c := c3) Try.underlying59 (by kernel_rfl)) ?_
  refine lv (d := 9) rfl rfl (by kernel_rfl) (e_lss (k := .i64) (a := x10) (b := (x1.length : Int)) (by kernel_rfl) (by kernel_rfl)) ?_
  refine wpList_nil ?_
  refine then_n ?_
  by_cases q23 : x10 < (x1.length : Int)
  · replace M := ifp q23 M
    refine cond_t rfl (bt q23 (by kernel_rfl)) ?_
    refine wp_skip ?_
    refine then_n ?_
    refine wp_seq ?_
    refine wp_block ?_
    refine wp_seq ?_
    refine wp_region_lit ?_
    refine lv (d := 12) rfl rfl (by kernel_rfl) (e_move (v := .slice A2 x1.length c3) (by exact e14)) ?_
    refine lv (d := 13) rfl rfl (by kernel_rfl) (e_move (v := .int .i64 x10) (by exact e16)) ?_
    refine lv (d := 14) rfl rfl (by kernel_rfl) (e_move (v := .int .i64 x9) (by exact e15)) ?_
    refine lv (d := 15) rfl rfl (by kernel_rfl) (e_conv_i8 (k := .i64) (a := x9) (by kernel_rfl) Try.underlying5 (by kernel_rfl)) ?_
    obtain ⟨q24, M⟩ := chk M
    obtain ⟨b25, e27⟩ := Row.addr h4 (show (x10).toNat < x12.length by have : x12.length = x1.length := n13; omega)
    refine lv (d := 16) rfl rfl (by kernel_rfl) (e_indexAddr (b := b25) (off := 0) (n := x1.length) (c := c3) (sz := 1) (i := x10) (k := .i64) Try.underlying59 e27 (by kernel_rfl) (by kernel_rfl) (by kernel_rfl) q24 q23) ?_
    have S28 := S17.unit
    have S29 := S28.pull (F := F11) (Fr := [no]) 1 rfl rfl
    refine lse rfl rfl (by kernel_rfl) (e_setel (d := tByte) (b := b25) (i := (x10).toNat) (v := .int .u8 ((b8 (x9)).toNat : Int)) (vs := [.int .u8 ((b8 (x9)).toNat : Int)]) (yv := (b8 (x9))) S29 (by kernel_rfl) e27 (by kernel_rfl) rfl (by kernel_rfl) h4 (show (x10).toNat < x12.length by have : x12.length = x1.length := n13; omega) rfl) ?_
    rintro w30 ⟨F32, h31, S33, K34⟩
    clear h4
    refine wpList_nil ?_
    refine then_n ?_
    refine wp_region_lit ?_
    refine lv (d := 17) rfl rfl (by kernel_rfl) (e_move (v := .int .i64 x9) (by exact e15)) ?_
    refine lv (d := 18) rfl rfl (by kernel_rfl) (e_add (k := .i64) (a := x9) (b := 1) (by kernel_rfl) rfl) ?_
    refine lv (d := 1) rfl rfl (by kernel_rfl) (e_assign (v := .int .i64 (IntKind.i64.wrap (x9 + 1))) (by kernel_rfl)) ?_
    refine wpList_nil ?_
    refine inb_n ?_
    refine then_n ?_
    refine wp_region_lit ?_
    refine lv (d := 10) rfl rfl (by kernel_rfl) (e_move (v := .int .i64 x10) (by exact e16)) ?_
    refine lv (d := 11) rfl rfl (by kernel_rfl) (e_add (k := .i64) (a := x10) (b := 1) (by kernel_rfl) rfl) ?_
    refine lv (d := 5) rfl rfl (by kernel_rfl) (e_assign (v := .int .i64 (IntKind.i64.wrap (x10 + 1))) (by kernel_rfl)) ?_
    refine wpList_nil ?_
    refine then_n ?_
    exact ⟨k22, (by omega), _, (IntKind.i64.wrap (x9 + 1)), (IntKind.i64.wrap (x10 + 1)), F32, (x12.set ((x10).toNat) (b8 (x9))), rfl, (by exact e14), (by kernel_rfl), (by kernel_rfl), h31, (List.length_set.trans n13), S33, M⟩
  replace M := ifn q23 M
  refine cond_f rfl (bf q23 (by kernel_rfl)) ?_
  refine wp_exit ?_
  refine then_e ?_
  refine then_e ?_
  refine inb_hit ?_
  refine then_n ?_
  refine wp_seq ?_
  refine wp_region_lit ?_
  refine lv (d := 19) rfl rfl (by kernel_rfl) (e_move (v := .int .i64 x9) (by exact e15)) ?_
  refine lv (d := 4) rfl rfl (by kernel_rfl) (e_assign (v := .int .i64 x9) (by kernel_rfl)) ?_
  refine wpList_nil ?_
  refine then_n ?_
  refine wp_ret ?_
  obtain rfl := Option.some.inj M
  exact ret1 rfl rfl  (show _ = .int .i64 x9 from (by kernel_rfl)) ⟨F11, H, rfl, n13, h4, S17⟩

/-! laws_markCellS -/
def laws_markCellS_2.l0 : Nat → (List Cell) → Int → Int → (List Cell) → Option (Int × (List Cell))
  | 0, _, _, _, _ => none
  | k24 + 1, x1, x11, x12, x14 => (if x12 < (x1.length : Int) then (if 0 ≤ x12 then ((laws_markByteS_2.f k24 ((((x14.set ((x12).toNat) ({(x14.getD ((x12).toNat) z65) with kind := x11})).set ((x12).toNat) ({((x14.set ((x12).toNat) ({(x14.getD ((x12).toNat) z65) with kind := x11})).getD ((x12).toNat) z65) with n := (IntKind.i64.wrap (x11 + 1))})).getD ((x12).toNat) z65).text) (IntKind.i64.wrap ((IntKind.i64.wrap (x11 + 1)) + 1))).bind fun t71 => (laws_markCellS_2.l0 k24 x1 t71.1 (IntKind.i64.wrap (x12 + 1)) (((x14.set ((x12).toNat) ({(x14.getD ((x12).toNat) z65) with kind := x11})).set ((x12).toNat) ({((x14.set ((x12).toNat) ({(x14.getD ((x12).toNat) z65) with kind := x11})).getD ((x12).toNat) z65) with n := (IntKind.i64.wrap (x11 + 1))})).set ((x12).toNat) ({(((x14.set ((x12).toNat) ({(x14.getD ((x12).toNat) z65) with kind := x11})).set ((x12).toNat) ({((x14.set ((x12).toNat) ({(x14.getD ((x12).toNat) z65) with kind := x11})).getD ((x12).toNat) z65) with n := (IntKind.i64.wrap (x11 + 1))})).getD ((x12).toNat) z65) with text := t71.2})))) else none) else some (x11, x14))
def laws_markCellS_2.f (k : Nat) (x1 : List Cell) (x6 : Int) : Option (Int × (List Cell)) := (laws_markCellS_2.l0 k x1 x6 0 x1)
theorem laws_markCellS_2.calls (k : Nat) (w : World) (H : Hp) (x1 : List Cell) (A2 : Option Addr) (c3 : Nat) (F5 : Foot) (x6 : Int) (h4 : Row st65 65 H (hp w) F5 A2 c3 x1) (S : Own [F5] H w) (r : Int × (List Cell)) (M : laws_markCellS_2.f k x1 x6 = some r) :
    Calls Try.prog 24 #[.slice A2 x1.length c3, .int .i64 x6] w (fun e e_w => ∃ (F_1 : Foot) (H_ : Hp), e = .returned (.int .i64 r.1) ∧ r.2.length = x1.length ∧ Row st65 65 H_ (hp e_w) F_1 A2 c3 r.2 ∧ St (anyOf [F5]) H w [F_1] H_ e_w) := by
  rw [laws_markCellS_2.f] at M
  refine enter (l := [.slice A2 x1.length c3, .int .i64 x6]) 34 Try.func24 rfl rfl rfl ?_
  have S0_ := S.st
  refine wp_seq ?_
  refine wp_region_lit ?_
  refine lv (d := 4) rfl rfl (by kernel_rfl) (e_assign (v := .int .i64 0) rfl) ?_
  refine wpList_nil ?_
  refine then_n ?_
  refine wp_seq ?_
  refine wp_seq ?_
  refine wp_region_lit ?_
  refine lv (d := 5) rfl rfl (by kernel_rfl) (e_assign (v := .int .i64 0) rfl) ?_
  refine wpList_nil ?_
  refine then_n ?_
  refine wp_block ?_
  refine wp_loop_g (fun k22 a23 w7 => ∃ (f8 : Nat → Value) (H9 : Hp) (x11 : Int) (x12 : Int) (F13 : Foot) (x14 : List Cell), a23 = mk 34 f8 ∧ f8 0 = .slice A2 x1.length c3 ∧ f8 1 = .int .i64 x11 ∧ f8 5 = .int .i64 x12 ∧ Row st65 65 H9 (hp w7) F13 A2 c3 x14 ∧ x14.length = x1.length ∧ Ext H H9 ∧ St (anyOf [F5]) H w [F13] H9 w7 ∧ laws_markCellS_2.l0 k22 x1 x11 x12 x14 = some r) k ⟨_, H, x6, 0, F5, x1, rfl, (by kernel_rfl), (by kernel_rfl), (by kernel_rfl), h4, rfl, (Ext.refl _), S0_, M⟩ ?_
  clear M
  rintro k22 a23 w7 ⟨f8, H9, x11, x12, F13, x14, rfl, e16, e17, e18, h4, n15, Y10, S19, M⟩
  rcases k22 with _ | k24
  · rw [laws_markCellS_2.l0] at M
    cases M
  rw [laws_markCellS_2.l0] at M
  refine wp_seq ?_
  refine wp_seq ?_
  refine wp_region_lit ?_
  refine lv (d := 6) rfl rfl (by kernel_rfl) (e_move (v := .int .i64 x12) (by exact e18)) ?_
  refine lv (d := 7) rfl rfl (by kernel_rfl) (e_move (v := .slice A2 x1.length c3) (by exact e16)) ?_
  refine lv (d := 8) rfl rfl (by kernel_rfl) (e_len (A := A2) (n := x1.length) (c := c3) Try.underlying25 (by kernel_rfl)) ?_
  refine lv (d := 9) rfl rfl (by kernel_rfl) (e_lss (k := .i64) (a := x12) (b := (x1.length : Int)) (by kernel_rfl) (by kernel_rfl)) ?_
  refine wpList_nil ?_
  refine then_n ?_
  by_cases q25 : x12 < (x1.length : Int)
  · replace M := ifp q25 M
    refine cond_t rfl (bt q25 (by kernel_rfl)) ?_
    refine wp_skip ?_
    refine then_n ?_
    refine wp_seq ?_
    refine wp_block ?_
    refine wp_seq ?_
    refine wp_region_lit ?_
    refine lv (d := 12) rfl rfl (by kernel_rfl) (e_move (v := .slice A2 x1.length c3) (by exact e16)) ?_
    refine lv (d := 13) rfl rfl (by kernel_rfl) (e_move (v := .int .i64 x12) (by exact e18)) ?_
    refine lv (d := 14) rfl rfl (by kernel_rfl) (e_move (v := .int .i64 x11) (by exact e17)) ?_
    obtain ⟨q26, M⟩ := chk M
    obtain ⟨b27, e29⟩ := Row.addr h4 (show (x12).toNat < x14.length by have : x14.length = x1.length := n15; omega)
    refine lv (d := 15) rfl rfl (by kernel_rfl) (e_indexAddr (b := b27) (off := 0) (n := x1.length) (c := c3) (sz := 3) (i := x12) (k := .i64) Try.underlying25 e29 (by kernel_rfl) (by kernel_rfl) (by kernel_rfl) q26 q25) ?_
    refine lv (d := 16) rfl rfl (by kernel_rfl) (e_fieldAddr (b := b27) (off := 0 + (x12 : Int).toNat * 3) (o := 0) Try.underlying65 rfl rfl (sz := 1) (by kernel_rfl) (by decide) (by kernel_rfl)) ?_
    have S30 := S19.unit
    have S31 := S30.pull (F := F13) (Fr := [no]) 1 rfl rfl
    refine lse rfl rfl (by kernel_rfl) (e_setpart (d := st65) (b := b27) (i := (x12).toNat) (j := 0) (v := .int .i64 x11) (vs := [.int .i64 x11]) (yv := {(x14.getD ((x12).toNat) z65) with kind := x11}) S31 (by kernel_rfl) e29 (by kernel_rfl) rfl (by kernel_rfl) h4 (getD_some z65 (show (x12).toNat < x14.length by have : x14.length = x1.length := n15; omega)) (Nat.le_of_ble_eq_true rfl) (List.forall_mem_cons.2 ⟨rfl, (fun _ h_ => by cases h_)⟩) (fun _ _ _ o_ => st65_u0 x11 o_)) ?_
    rintro w32 ⟨F34, h33, S35, K36⟩
    clear h4
    refine wpList_nil ?_
    refine then_n ?_
    refine wp_seq ?_
    refine wp_region_lit ?_
    refine lv (d := 17) rfl rfl (by kernel_rfl) (e_move (v := .int .i64 x11) (by exact e17)) ?_
    refine lv (d := 18) rfl rfl (by kernel_rfl) (e_add (k := .i64) (a := x11) (b := 1) (by kernel_rfl) rfl) ?_
    refine lv (d := 1) rfl rfl (by kernel_rfl) (e_assign (v := .int .i64 (IntKind.i64.wrap (x11 + 1))) (by kernel_rfl)) ?_
    refine wpList_nil ?_
    refine then_n ?_
    refine wp_seq ?_
    refine wp_region_lit ?_
    refine lv (d := 19) rfl rfl (by kernel_rfl) (e_move (v := .slice A2 x1.length c3) (by exact e16)) ?_
    refine lv (d := 20) rfl rfl (by kernel_rfl) (e_move (v := .int .i64 x12) (by exact e18)) ?_
    refine lv (d := 21) rfl rfl (by kernel_rfl) (e_move (v := .int .i64 (IntKind.i64.wrap (x11 + 1))) (by kernel_rfl)) ?_
    obtain ⟨b37, e39⟩ := Row.addr h33 (show (x12).toNat < (x14.set ((x12).toNat) ({(x14.getD ((x12).toNat) z65) with kind := x11})).length by have : (x14.set ((x12).toNat) ({(x14.getD ((x12).toNat) z65) with kind := x11})).length = x1.length := (List.length_set.trans n15); omega)
    refine lv (d := 22) rfl rfl (by kernel_rfl) (e_indexAddr (b := b37) (off := 0) (n := x1.length) (c := c3) (sz := 3) (i := x12) (k := .i64) Try.underlying25 e39 (by kernel_rfl) (by kernel_rfl) (by kernel_rfl) q26 q25) ?_
    refine lv (d := 23) rfl rfl (by kernel_rfl) (e_fieldAddr (b := b37) (off := 0 + (x12 : Int).toNat * 3) (o := 1) Try.underlying65 rfl rfl (sz := 1) (by kernel_rfl) (by decide) (by kernel_rfl)) ?_
    have S40 := S35.unit
    have S41 := S40.pull (F := F34) (Fr := [no]) 1 rfl rfl
    refine lse rfl rfl (by kernel_rfl) (e_setpart (d := st65) (b := b37) (i := (x12).toNat) (j := 1) (v := .int .i64 (IntKind.i64.wrap (x11 + 1))) (vs := [.int .i64 (IntKind.i64.wrap (x11 + 1))]) (yv := {((x14.set ((x12).toNat) ({(x14.getD ((x12).toNat) z65) with kind := x11})).getD ((x12).toNat) z65) with n := (IntKind.i64.wrap (x11 + 1))}) S41 (by kernel_rfl) e39 (by kernel_rfl) rfl (by kernel_rfl) h33 (getD_some z65 (show (x12).toNat < (x14.set ((x12).toNat) ({(x14.getD ((x12).toNat) z65) with kind := x11})).length by have : (x14.set ((x12).toNat) ({(x14.getD ((x12).toNat) z65) with kind := x11})).length = x1.length := (List.length_set.trans n15); omega)) (Nat.le_of_ble_eq_true rfl) (List.forall_mem_cons.2 ⟨rfl, (fun _ h_ => by cases h_)⟩) (fun _ _ _ o_ => st65_u1 (IntKind.i64.wrap (x11 + 1)) o_)) ?_
    rintro w42 ⟨F44, h43, S45, K46⟩
    clear h33
    refine wpList_nil ?_
    refine then_n ?_
    refine wp_seq ?_
    refine wp_region_lit ?_
    refine lv (d := 24) rfl rfl (by kernel_rfl) (e_move (v := .int .i64 (IntKind.i64.wrap (x11 + 1))) (by kernel_rfl)) ?_
    refine lv (d := 25) rfl rfl (by kernel_rfl) (e_add (k := .i64) (a := (IntKind.i64.wrap (x11 + 1))) (b := 1) (by kernel_rfl) rfl) ?_
    refine lv (d := 1) rfl rfl (by kernel_rfl) (e_assign (v := .int .i64 (IntKind.i64.wrap ((IntKind.i64.wrap (x11 + 1)) + 1))) (by kernel_rfl)) ?_
    refine wpList_nil ?_
    refine then_n ?_
    refine wp_region_lit ?_
    refine lv (d := 26) rfl rfl (by kernel_rfl) (e_move (v := .slice A2 x1.length c3) (by exact e16)) ?_
    refine lv (d := 27) rfl rfl (by kernel_rfl) (e_move (v := .int .i64 x12) (by exact e18)) ?_
    obtain ⟨b47, e49⟩ := Row.addr h43 (show (x12).toNat < ((x14.set ((x12).toNat) ({(x14.getD ((x12).toNat) z65) with kind := x11})).set ((x12).toNat) ({((x14.set ((x12).toNat) ({(x14.getD ((x12).toNat) z65) with kind := x11})).getD ((x12).toNat) z65) with n := (IntKind.i64.wrap (x11 + 1))})).length by have : ((x14.set ((x12).toNat) ({(x14.getD ((x12).toNat) z65) with kind := x11})).set ((x12).toNat) ({((x14.set ((x12).toNat) ({(x14.getD ((x12).toNat) z65) with kind := x11})).getD ((x12).toNat) z65) with n := (IntKind.i64.wrap (x11 + 1))})).length = x1.length := (List.length_set.trans (List.length_set.trans n15)); omega)
    refine lv (d := 28) rfl rfl (by kernel_rfl) (e_indexAddr (b := b47) (off := 0) (n := x1.length) (c := c3) (sz := 3) (i := x12) (k := .i64) Try.underlying25 e49 (by kernel_rfl) (by kernel_rfl) (by kernel_rfl) q26 q25) ?_
    refine lv (d := 29) rfl rfl (by kernel_rfl) (e_fieldAddr (b := b47) (off := 0 + (x12 : Int).toNat * 3) (o := 2) Try.underlying65 rfl rfl (sz := 1) (by kernel_rfl) (by decide) (by kernel_rfl)) ?_
    obtain ⟨y55, F56, G57, r58, d59, s60, k61, t62⟩ := Row.lend h43 e49 (getD_some z65 (show (x12).toNat < ((x14.set ((x12).toNat) ({(x14.getD ((x12).toNat) z65) with kind := x11})).set ((x12).toNat) ({((x14.set ((x12).toNat) ({(x14.getD ((x12).toNat) z65) with kind := x11})).getD ((x12).toNat) z65) with n := (IntKind.i64.wrap (x11 + 1))})).length by have : ((x14.set ((x12).toNat) ({(x14.getD ((x12).toNat) z65) with kind := x11})).set ((x12).toNat) ({((x14.set ((x12).toNat) ({(x14.getD ((x12).toNat) z65) with kind := x11})).getD ((x12).toNat) z65) with n := (IntKind.i64.wrap (x11 + 1))})).length = x1.length := (List.length_set.trans (List.length_set.trans n15)); omega))
    obtain ⟨A63, c64, F67, rfl, h65, s66⟩ := st65_openO r58
    refine lv (d := 30) rfl rfl (by kernel_rfl) (e_load1 (ad := ⟨b47, 0 + (x12 : Int).toNat * 3 + 2, none⟩) (v := .slice A63 ((((x14.set ((x12).toNat) ({(x14.getD ((x12).toNat) z65) with kind := x11})).set ((x12).toNat) ({((x14.set ((x12).toNat) ({(x14.getD ((x12).toNat) z65) with kind := x11})).getD ((x12).toNat) z65) with n := (IntKind.i64.wrap (x11 + 1))})).getD ((x12).toNat) z65).text).length c64) Try.underlying59 rfl (by kernel_rfl) (hpx (k61 2 _ rfl))) ?_
    refine lv (d := 31) rfl rfl (by kernel_rfl) (e_move (v := .int .i64 (IntKind.i64.wrap ((IntKind.i64.wrap (x11 + 1)) + 1))) (by kernel_rfl)) ?_
    have S68 := S45.part d59 s60
    have S69 := S68.sub s66
    have q70 : ∀ b_, G57 b_ → hp w42 b_ = hp w42 b_ := fun _ _ => rfl
    obtain ⟨t71, u72, M⟩ := bnd M
    refine lcall (d := 32) rfl rfl (by kernel_rfl) (e_call (l := [.tmp 30, .tmp 31]) (vs := [.slice A63 ((((x14.set ((x12).toNat) ({(x14.getD ((x12).toNat) z65) with kind := x11})).set ((x12).toNat) ({((x14.set ((x12).toNat) ({(x14.getD ((x12).toNat) z65) with kind := x11})).getD ((x12).toNat) z65) with n := (IntKind.i64.wrap (x11 + 1))})).getD ((x12).toNat) z65).text).length c64, .int .i64 (IntKind.i64.wrap ((IntKind.i64.wrap (x11 + 1)) + 1))]) Try.func65 (by kernel_rfl) rfl (by kernel_rfl) rfl) (laws_markByteS_2.calls k24 w42 H9 ((((x14.set ((x12).toNat) ({(x14.getD ((x12).toNat) z65) with kind := x11})).set ((x12).toNat) ({((x14.set ((x12).toNat) ({(x14.getD ((x12).toNat) z65) with kind := x11})).getD ((x12).toNat) z65) with n := (IntKind.i64.wrap (x11 + 1))})).getD ((x12).toNat) z65).text) A63 c64 F67 (IntKind.i64.wrap ((IntKind.i64.wrap (x11 + 1)) + 1)) h65 (St.own' (Fa := [F67]) (Fr := [G57]) S69) t71 u72) ?_
    rintro _ w73 ⟨F77, H74, rfl, n78, h76, T75⟩
    refine ⟨_, rfl, ?_⟩
    obtain ⟨S79, K80⟩ := St.call (Fa := [F67]) (Fr := [G57]) S69 T75
    replace q70 := fun b_ h_ => (K80.at 0 rfl b_ h_).trans (q70 b_ h_)
    have E81 := T75.ext
    have S82 := S79.pull (F := G57) (Fr := [F77]) 1 rfl rfl
    have S83 := S82.pull (F := F77) (Fr := [G57]) 1 rfl rfl
    have h84 := t62 H74 (hp w73) F77 ({(((x14.set ((x12).toNat) ({(x14.getD ((x12).toNat) z65) with kind := x11})).set ((x12).toNat) ({((x14.set ((x12).toNat) ({(x14.getD ((x12).toNat) z65) with kind := x11})).getD ((x12).toNat) z65) with n := (IntKind.i64.wrap (x11 + 1))})).getD ((x12).toNat) z65) with text := t71.2} : Cell) E81 q70 (by have q_ := st65_mkO (x := {(((x14.set ((x12).toNat) ({(x14.getD ((x12).toNat) z65) with kind := x11})).set ((x12).toNat) ({((x14.set ((x12).toNat) ({(x14.getD ((x12).toNat) z65) with kind := x11})).getD ((x12).toNat) z65) with n := (IntKind.i64.wrap (x11 + 1))})).getD ((x12).toNat) z65) with text := t71.2}) h76; rw [show t71.2.length = ((((x14.set ((x12).toNat) ({(x14.getD ((x12).toNat) z65) with kind := x11})).set ((x12).toNat) ({((x14.set ((x12).toNat) ({(x14.getD ((x12).toNat) z65) with kind := x11})).getD ((x12).toNat) z65) with n := (IntKind.i64.wrap (x11 + 1))})).getD ((x12).toNat) z65).text).length from n78] at q_; exact q_) S83.dj
    have S85 := S83.join
    refine lv (d := 1) rfl rfl (by kernel_rfl) (e_assign (v := .int .i64 t71.1) (by kernel_rfl)) ?_
    refine wpList_nil ?_
    refine inb_n ?_
    refine then_n ?_
    refine wp_region_lit ?_
    refine lv (d := 10) rfl rfl (by kernel_rfl) (e_move (v := .int .i64 x12) (by exact e18)) ?_
    refine lv (d := 11) rfl rfl (by kernel_rfl) (e_add (k := .i64) (a := x12) (b := 1) (by kernel_rfl) rfl) ?_
    refine lv (d := 5) rfl rfl (by kernel_rfl) (e_assign (v := .int .i64 (IntKind.i64.wrap (x12 + 1))) (by kernel_rfl)) ?_
    refine wpList_nil ?_
    refine then_n ?_
    exact ⟨k24, (by omega), _, H74, t71.1, (IntKind.i64.wrap (x12 + 1)), (or2 F77 G57), (((x14.set ((x12).toNat) ({(x14.getD ((x12).toNat) z65) with kind := x11})).set ((x12).toNat) ({((x14.set ((x12).toNat) ({(x14.getD ((x12).toNat) z65) with kind := x11})).getD ((x12).toNat) z65) with n := (IntKind.i64.wrap (x11 + 1))})).set ((x12).toNat) ({(((x14.set ((x12).toNat) ({(x14.getD ((x12).toNat) z65) with kind := x11})).set ((x12).toNat) ({((x14.set ((x12).toNat) ({(x14.getD ((x12).toNat) z65) with kind := x11})).getD ((x12).toNat) z65) with n := (IntKind.i64.wrap (x11 + 1))})).getD ((x12).toNat) z65) with text := t71.2})), rfl, (by exact e16), (by kernel_rfl), (by kernel_rfl), h84, (List.length_set.trans (List.length_set.trans (List.length_set.trans n15))), (Y10.trans E81), S85, M⟩
  replace M := ifn q25 M
  refine cond_f rfl (bf q25 (by kernel_rfl)) ?_
  refine wp_exit ?_
  refine then_e ?_
  refine then_e ?_
  refine inb_hit ?_
  refine then_n ?_
  refine wp_seq ?_
  refine wp_region_lit ?_
  refine lv (d := 33) rfl rfl (by kernel_rfl) (e_move (v := .int .i64 x11) (by exact e17)) ?_
  refine lv (d := 4) rfl rfl (by kernel_rfl) (e_assign (v := .int .i64 x11) (by kernel_rfl)) ?_
  refine wpList_nil ?_
  refine then_n ?_
  refine wp_ret ?_
  obtain rfl := Option.some.inj M
  exact ret1 rfl rfl  (show _ = .int .i64 x11 from (by kernel_rfl)) ⟨F13, H9, rfl, n15, h4, S19⟩

/-! laws_heldByteS -/
def laws_heldByteS.l0 : Nat → (List UInt8) → Int → Int → Option Int
  | 0, _, _, _ => none
  | k19 + 1, x1, x9, x10 => (if x10 < (x1.length : Int) then (if 0 ≤ x10 then (if ((x1.getD ((x10).toNat) (0 : UInt8)).toNat : Int) ≠ ((b8 (x9)).toNat : Int) then some (-1) else (laws_heldByteS.l0 k19 x1 (IntKind.i64.wrap (x9 + 1)) (IntKind.i64.wrap (x10 + 1)))) else none) else some x9)
def laws_heldByteS.f (k : Nat) (x1 : List UInt8) (x6 : Int) : Option Int := (laws_heldByteS.l0 k x1 x6 0)
theorem laws_heldByteS.calls (k : Nat) (w : World) (H : Hp) (x1 : List UInt8) (A2 : Option Addr) (c3 : Nat) (x6 : Int) (h4 : Rd tByte H A2 x1) (l5 : x1.length ≤ c3) (S : Own [] H w) (r : Int) (M : laws_heldByteS.f k x1 x6 = some r) :
    Calls Try.prog 69 #[.slice A2 x1.length c3, .int .i64 x6] w (fun e e_w => e = .returned (.int .i64 r) ∧ Chg no w e_w) := by
  rw [laws_heldByteS.f] at M
  refine enter (l := [.slice A2 x1.length c3, .int .i64 x6]) 22 Try.func69 rfl rfl rfl ?_
  have S0_ := S.st
  refine wp_seq ?_
  refine wp_region_lit ?_
  refine lv (d := 4) rfl rfl (by kernel_rfl) (e_assign (v := .int .i64 0) rfl) ?_
  refine wpList_nil ?_
  refine then_n ?_
  refine wp_seq ?_
  refine wp_seq ?_
  refine wp_region_lit ?_
  refine lv (d := 5) rfl rfl (by kernel_rfl) (e_assign (v := .int .i64 0) rfl) ?_
  refine wpList_nil ?_
  refine then_n ?_
  refine wp_block ?_
  refine wp_loop_g (fun k17 a18 w7 => ∃ (f8 : Nat → Value) (x9 : Int) (x10 : Int), a18 = mk 22 f8 ∧ f8 0 = .slice A2 x1.length c3 ∧ f8 1 = .int .i64 x9 ∧ f8 5 = .int .i64 x10 ∧ St (anyOf []) H w [] H w7 ∧ laws_heldByteS.l0 k17 x1 x9 x10 = some r) k ⟨_, x6, 0, rfl, (by kernel_rfl), (by kernel_rfl), (by kernel_rfl), S0_, M⟩ ?_
  clear M
  rintro k17 a18 w7 ⟨f8, x9, x10, rfl, e11, e12, e13, S14, M⟩
  rcases k17 with _ | k19
  · rw [laws_heldByteS.l0] at M
    cases M
  rw [laws_heldByteS.l0] at M
  refine wp_seq ?_
  refine wp_seq ?_
  refine wp_region_lit ?_
  refine lv (d := 6) rfl rfl (by kernel_rfl) (e_move (v := .int .i64 x10) (by exact e13)) ?_
  refine lv (d := 7) rfl rfl (by kernel_rfl) (e_move (v := .slice A2 x1.length c3) (by exact e11)) ?_
  refine lv (d := 8) rfl rfl (by kernel_rfl) (e_len (A := A2) (n := x1.length) (c := c3) Try.underlying59 (by kernel_rfl)) ?_
  refine lv (d := 9) rfl rfl (by kernel_rfl) (e_lss (k := .i64) (a := x10) (b := (x1.length : Int)) (by kernel_rfl) (by kernel_rfl)) ?_
  refine wpList_nil ?_
  refine then_n ?_
  by_cases q20 : x10 < (x1.length : Int)
  · replace M := ifp q20 M
    refine cond_t rfl (bt q20 (by kernel_rfl)) ?_
    refine wp_skip ?_
    refine then_n ?_
    refine wp_seq ?_
    refine wp_block ?_
    refine wp_seq ?_
    refine wp_seq ?_
    refine wp_region_lit ?_
    refine lv (d := 12) rfl rfl (by kernel_rfl) (e_move (v := .slice A2 x1.length c3) (by exact e11)) ?_
    refine lv (d := 13) rfl rfl (by kernel_rfl) (e_move (v := .int .i64 x10) (by exact e13)) ?_
    obtain ⟨q21, M⟩ := chk M
    obtain ⟨b22, o23, e24⟩ := Rd.addr h4 (show (x10).toNat < x1.length by omega)
    obtain ⟨y25, r26, k27⟩ := Rd.at h4 e24 (getD_some (0 : UInt8) (show (x10).toNat < x1.length by omega))
    obtain rfl := r26
    refine lv (d := 14) rfl rfl (by kernel_rfl) (e_indexAddr (b := b22) (off := o23) (n := x1.length) (c := c3) (sz := 1) (i := x10) (k := .i64) Try.underlying59 e24 (by kernel_rfl) (by kernel_rfl) (by kernel_rfl) q21 q20) ?_
    refine lv (d := 15) rfl rfl (by kernel_rfl) (e_load1 (ad := ⟨b22, o23 + (x10 : Int).toNat * 1, none⟩) (v := .int .u8 ((x1.getD ((x10).toNat) (0 : UInt8)).toNat : Int)) Try.underlying5 rfl (by kernel_rfl) (hpx (S14.inv.cell (k27 0 _ rfl)))) ?_
    refine lv (d := 16) rfl rfl (by kernel_rfl) (e_move (v := .int .i64 x9) (by exact e12)) ?_
    refine lv (d := 17) rfl rfl (by kernel_rfl) (e_conv_i8 (k := .i64) (a := x9) (by kernel_rfl) Try.underlying5 (by kernel_rfl)) ?_
    refine lv (d := 18) rfl rfl (by kernel_rfl) (e_neq (k := .u8) (a := ((x1.getD ((x10).toNat) (0 : UInt8)).toNat : Int)) (b := ((b8 (x9)).toNat : Int)) (by kernel_rfl) (by kernel_rfl)) ?_
    refine wpList_nil ?_
    refine then_n ?_
    by_cases q28 : ((x1.getD ((x10).toNat) (0 : UInt8)).toNat : Int) ≠ ((b8 (x9)).toNat : Int)
    · replace M := ifp q28 M
      refine cond_t rfl (bt q28 (by kernel_rfl)) ?_
      refine wp_seq ?_
      refine wp_region_lit ?_
      refine lv (d := 4) rfl rfl (by kernel_rfl) (e_assign (v := .int .i64 (-1)) rfl) ?_
      refine wpList_nil ?_
      refine then_n ?_
      refine wp_ret ?_
      refine then_r ?_
      refine inb_r ?_
      refine then_r ?_
      refine then_r ?_
      refine inb_r ?_
      refine then_r ?_
      obtain rfl := Option.some.inj M
      exact ret1 rfl rfl  (show _ = .int .i64 (-1) from (by kernel_rfl)) ⟨rfl, S14.chg⟩
    replace M := ifn q28 M
    refine cond_f rfl (bf q28 (by kernel_rfl)) ?_
    refine wp_skip ?_
    refine then_n ?_
    refine wp_region_lit ?_
    refine lv (d := 19) rfl rfl (by kernel_rfl) (e_move (v := .int .i64 x9) (by exact e12)) ?_
    refine lv (d := 20) rfl rfl (by kernel_rfl) (e_add (k := .i64) (a := x9) (b := 1) (by kernel_rfl) rfl) ?_
    refine lv (d := 1) rfl rfl (by kernel_rfl) (e_assign (v := .int .i64 (IntKind.i64.wrap (x9 + 1))) (by kernel_rfl)) ?_
    refine wpList_nil ?_
    refine inb_n ?_
    refine then_n ?_
    refine wp_region_lit ?_
    refine lv (d := 10) rfl rfl (by kernel_rfl) (e_move (v := .int .i64 x10) (by exact e13)) ?_
    refine lv (d := 11) rfl rfl (by kernel_rfl) (e_add (k := .i64) (a := x10) (b := 1) (by kernel_rfl) rfl) ?_
    refine lv (d := 5) rfl rfl (by kernel_rfl) (e_assign (v := .int .i64 (IntKind.i64.wrap (x10 + 1))) (by kernel_rfl)) ?_
    refine wpList_nil ?_
    refine then_n ?_
    exact ⟨k19, (by omega), _, (IntKind.i64.wrap (x9 + 1)), (IntKind.i64.wrap (x10 + 1)), rfl, (by exact e11), (by kernel_rfl), (by kernel_rfl), S14, M⟩
  replace M := ifn q20 M
  refine cond_f rfl (bf q20 (by kernel_rfl)) ?_
  refine wp_exit ?_
  refine then_e ?_
  refine then_e ?_
  refine inb_hit ?_
  refine then_n ?_
  refine wp_seq ?_
  refine wp_region_lit ?_
  refine lv (d := 21) rfl rfl (by kernel_rfl) (e_move (v := .int .i64 x9) (by exact e12)) ?_
  refine lv (d := 4) rfl rfl (by kernel_rfl) (e_assign (v := .int .i64 x9) (by kernel_rfl)) ?_
  refine wpList_nil ?_
  refine then_n ?_
  refine wp_ret ?_
  obtain rfl := Option.some.inj M
  exact ret1 rfl rfl  (show _ = .int .i64 x9 from (by kernel_rfl)) ⟨rfl, S14.chg⟩

/-! laws_heldCellS -/
def laws_heldCellS.l0 : Nat → (List Cell) → Int → Int → Option Int
  | 0, _, _, _ => none
  | k19 + 1, x1, x9, x10 => (if x10 < (x1.length : Int) then (if 0 ≤ x10 then (if ((x1.getD ((x10).toNat) z65).kind) ≠ x9 then some (-1) else (if ((x1.getD ((x10).toNat) z65).n) ≠ (IntKind.i64.wrap (x9 + 1)) then some (-1) else ((laws_heldByteS.f k19 ((x1.getD ((x10).toNat) z65).text) (IntKind.i64.wrap ((IntKind.i64.wrap (x9 + 1)) + 1))).bind fun t54 => (if t54 < 0 then some (-1) else (laws_heldCellS.l0 k19 x1 t54 (IntKind.i64.wrap (x10 + 1))))))) else none) else some x9)
def laws_heldCellS.f (k : Nat) (x1 : List Cell) (x6 : Int) : Option Int := (laws_heldCellS.l0 k x1 x6 0)
theorem laws_heldCellS.calls (k : Nat) (w : World) (H : Hp) (x1 : List Cell) (A2 : Option Addr) (c3 : Nat) (x6 : Int) (h4 : Rd st65 H A2 x1) (l5 : x1.length ≤ c3) (S : Own [] H w) (r : Int) (M : laws_heldCellS.f k x1 x6 = some r) :
    Calls Try.prog 29 #[.slice A2 x1.length c3, .int .i64 x6] w (fun e e_w => e = .returned (.int .i64 r) ∧ Chg no w e_w) := by
  rw [laws_heldCellS.f] at M
  refine enter (l := [.slice A2 x1.length c3, .int .i64 x6]) 40 Try.func29 rfl rfl rfl ?_
  have S0_ := S.st
  refine wp_seq ?_
  refine wp_region_lit ?_
  refine lv (d := 4) rfl rfl (by kernel_rfl) (e_assign (v := .int .i64 0) rfl) ?_
  refine wpList_nil ?_
  refine then_n ?_
  refine wp_seq ?_
  refine wp_seq ?_
  refine wp_region_lit ?_
  refine lv (d := 5) rfl rfl (by kernel_rfl) (e_assign (v := .int .i64 0) rfl) ?_
  refine wpList_nil ?_
  refine then_n ?_
  refine wp_block ?_
  refine wp_loop_g (fun k17 a18 w7 => ∃ (f8 : Nat → Value) (x9 : Int) (x10 : Int), a18 = mk 40 f8 ∧ f8 0 = .slice A2 x1.length c3 ∧ f8 1 = .int .i64 x9 ∧ f8 5 = .int .i64 x10 ∧ St (anyOf []) H w [] H w7 ∧ laws_heldCellS.l0 k17 x1 x9 x10 = some r) k ⟨_, x6, 0, rfl, (by kernel_rfl), (by kernel_rfl), (by kernel_rfl), S0_, M⟩ ?_
  clear M
  rintro k17 a18 w7 ⟨f8, x9, x10, rfl, e11, e12, e13, S14, M⟩
  rcases k17 with _ | k19
  · rw [laws_heldCellS.l0] at M
    cases M
  rw [laws_heldCellS.l0] at M
  refine wp_seq ?_
  refine wp_seq ?_
  refine wp_region_lit ?_
  refine lv (d := 6) rfl rfl (by kernel_rfl) (e_move (v := .int .i64 x10) (by exact e13)) ?_
  refine lv (d := 7) rfl rfl (by kernel_rfl) (e_move (v := .slice A2 x1.length c3) (by exact e11)) ?_
  refine lv (d := 8) rfl rfl (by kernel_rfl) (e_len (A := A2) (n := x1.length) (c := c3) Try.underlying25 (by kernel_rfl)) ?_
  refine lv (d := 9) rfl rfl (by kernel_rfl) (e_lss (k := .i64) (a := x10) (b := (x1.length : Int)) (by kernel_rfl) (by kernel_rfl)) ?_
  refine wpList_nil ?_
  refine then_n ?_
  by_cases q20 : x10 < (x1.length : Int)
  · replace M := ifp q20 M
    refine cond_t rfl (bt q20 (by kernel_rfl)) ?_
    refine wp_skip ?_
    refine then_n ?_
    refine wp_seq ?_
    refine wp_block ?_
    refine wp_seq ?_
    refine wp_seq ?_
    refine wp_region_lit ?_
    refine lv (d := 12) rfl rfl (by kernel_rfl) (e_move (v := .slice A2 x1.length c3) (by exact e11)) ?_
    refine lv (d := 13) rfl rfl (by kernel_rfl) (e_move (v := .int .i64 x10) (by exact e13)) ?_
    obtain ⟨q21, M⟩ := chk M
    obtain ⟨b22, o23, e24⟩ := Rd.addr h4 (show (x10).toNat < x1.length by omega)
    obtain ⟨y25, r26, k27⟩ := Rd.at h4 e24 (getD_some z65 (show (x10).toNat < x1.length by omega))
    obtain ⟨A28, c29, rfl, l30, h31⟩ := st65_open r26
    refine lv (d := 14) rfl rfl (by kernel_rfl) (e_indexAddr (b := b22) (off := o23) (n := x1.length) (c := c3) (sz := 3) (i := x10) (k := .i64) Try.underlying25 e24 (by kernel_rfl) (by kernel_rfl) (by kernel_rfl) q21 q20) ?_
    refine lv (d := 15) rfl rfl (by kernel_rfl) (e_fieldAddr (b := b22) (off := o23 + (x10 : Int).toNat * 3) (o := 0) Try.underlying65 rfl rfl (sz := 1) (by kernel_rfl) (by decide) (by kernel_rfl)) ?_
    refine lv (d := 16) rfl rfl (by kernel_rfl) (e_load1 (ad := ⟨b22, o23 + (x10 : Int).toNat * 3 + 0, none⟩) (v := .int .i64 ((x1.getD ((x10).toNat) z65).kind)) Try.underlying3 rfl (by kernel_rfl) (hpx (S14.inv.cell (k27 0 _ rfl)))) ?_
    refine lv (d := 17) rfl rfl (by kernel_rfl) (e_move (v := .int .i64 x9) (by exact e12)) ?_
    refine lv (d := 18) rfl rfl (by kernel_rfl) (e_neq (k := .i64) (a := (x1.getD ((x10).toNat) z65).kind) (b := x9) (by kernel_rfl) (by kernel_rfl)) ?_
    refine wpList_nil ?_
    refine then_n ?_
    by_cases q32 : ((x1.getD ((x10).toNat) z65).kind) ≠ x9
    · replace M := ifp q32 M
      refine cond_t rfl (bt q32 (by kernel_rfl)) ?_
      refine wp_seq ?_
      refine wp_region_lit ?_
      refine lv (d := 4) rfl rfl (by kernel_rfl) (e_assign (v := .int .i64 (-1)) rfl) ?_
      refine wpList_nil ?_
      refine then_n ?_
      refine wp_ret ?_
      refine then_r ?_
      refine inb_r ?_
      refine then_r ?_
      refine then_r ?_
      refine inb_r ?_
      refine then_r ?_
      obtain rfl := Option.some.inj M
      exact ret1 rfl rfl  (show _ = .int .i64 (-1) from (by kernel_rfl)) ⟨rfl, S14.chg⟩
    replace M := ifn q32 M
    refine cond_f rfl (bf q32 (by kernel_rfl)) ?_
    refine wp_skip ?_
    refine then_n ?_
    refine wp_seq ?_
    refine wp_region_lit ?_
    refine lv (d := 19) rfl rfl (by kernel_rfl) (e_move (v := .int .i64 x9) (by exact e12)) ?_
    refine lv (d := 20) rfl rfl (by kernel_rfl) (e_add (k := .i64) (a := x9) (b := 1) (by kernel_rfl) rfl) ?_
    refine lv (d := 1) rfl rfl (by kernel_rfl) (e_assign (v := .int .i64 (IntKind.i64.wrap (x9 + 1))) (by kernel_rfl)) ?_
    refine wpList_nil ?_
    refine then_n ?_
    refine wp_seq ?_
    refine wp_seq ?_
    refine wp_region_lit ?_
    refine lv (d := 21) rfl rfl (by kernel_rfl) (e_move (v := .slice A2 x1.length c3) (by exact e11)) ?_
    refine lv (d := 22) rfl rfl (by kernel_rfl) (e_move (v := .int .i64 x10) (by exact e13)) ?_
    obtain ⟨b33, o34, e35⟩ := Rd.addr h4 (show (x10).toNat < x1.length by omega)
    obtain ⟨y36, r37, k38⟩ := Rd.at h4 e35 (getD_some z65 (show (x10).toNat < x1.length by omega))
    obtain ⟨A39, c40, rfl, l41, h42⟩ := st65_open r37
    refine lv (d := 23) rfl rfl (by kernel_rfl) (e_indexAddr (b := b33) (off := o34) (n := x1.length) (c := c3) (sz := 3) (i := x10) (k := .i64) Try.underlying25 e35 (by kernel_rfl) (by kernel_rfl) (by kernel_rfl) q21 q20) ?_
    refine lv (d := 24) rfl rfl (by kernel_rfl) (e_fieldAddr (b := b33) (off := o34 + (x10 : Int).toNat * 3) (o := 1) Try.underlying65 rfl rfl (sz := 1) (by kernel_rfl) (by decide) (by kernel_rfl)) ?_
    refine lv (d := 25) rfl rfl (by kernel_rfl) (e_load1 (ad := ⟨b33, o34 + (x10 : Int).toNat * 3 + 1, none⟩) (v := .int .i64 ((x1.getD ((x10).toNat) z65).n)) Try.underlying3 rfl (by kernel_rfl) (hpx (S14.inv.cell (k38 1 _ rfl)))) ?_
    refine lv (d := 26) rfl rfl (by kernel_rfl) (e_move (v := .int .i64 (IntKind.i64.wrap (x9 + 1))) (by kernel_rfl)) ?_
    refine lv (d := 27) rfl rfl (by kernel_rfl) (e_neq (k := .i64) (a := (x1.getD ((x10).toNat) z65).n) (b := (IntKind.i64.wrap (x9 + 1))) (by kernel_rfl) (by kernel_rfl)) ?_
    refine wpList_nil ?_
    refine then_n ?_
    by_cases q43 : ((x1.getD ((x10).toNat) z65).n) ≠ (IntKind.i64.wrap (x9 + 1))
    · replace M := ifp q43 M
      refine cond_t rfl (bt q43 (by kernel_rfl)) ?_
      refine wp_seq ?_
      refine wp_region_lit ?_
      refine lv (d := 4) rfl rfl (by kernel_rfl) (e_assign (v := .int .i64 (-1)) rfl) ?_
      refine wpList_nil ?_
      refine then_n ?_
      refine wp_ret ?_
      refine then_r ?_
      refine inb_r ?_
      refine then_r ?_
      refine then_r ?_
      refine inb_r ?_
      refine then_r ?_
      obtain rfl := Option.some.inj M
      exact ret1 rfl rfl  (show _ = .int .i64 (-1) from (by kernel_rfl)) ⟨rfl, S14.chg⟩
    replace M := ifn q43 M
    refine cond_f rfl (bf q43 (by kernel_rfl)) ?_
    refine wp_skip ?_
    refine then_n ?_
    refine wp_seq ?_
    refine wp_region_lit ?_
    refine lv (d := 28) rfl rfl (by kernel_rfl) (e_move (v := .int .i64 (IntKind.i64.wrap (x9 + 1))) (by kernel_rfl)) ?_
    refine lv (d := 29) rfl rfl (by kernel_rfl) (e_add (k := .i64) (a := (IntKind.i64.wrap (x9 + 1))) (b := 1) (by kernel_rfl) rfl) ?_
    refine lv (d := 1) rfl rfl (by kernel_rfl) (e_assign (v := .int .i64 (IntKind.i64.wrap ((IntKind.i64.wrap (x9 + 1)) + 1))) (by kernel_rfl)) ?_
    refine wpList_nil ?_
    refine then_n ?_
    refine wp_seq ?_
    refine wp_region_lit ?_
    refine lv (d := 30) rfl rfl (by kernel_rfl) (e_move (v := .slice A2 x1.length c3) (by exact e11)) ?_
    refine lv (d := 31) rfl rfl (by kernel_rfl) (e_move (v := .int .i64 x10) (by exact e13)) ?_
    obtain ⟨b44, o45, e46⟩ := Rd.addr h4 (show (x10).toNat < x1.length by omega)
    obtain ⟨y47, r48, k49⟩ := Rd.at h4 e46 (getD_some z65 (show (x10).toNat < x1.length by omega))
    obtain ⟨A50, c51, rfl, l52, h53⟩ := st65_open r48
    refine lv (d := 32) rfl rfl (by kernel_rfl) (e_indexAddr (b := b44) (off := o45) (n := x1.length) (c := c3) (sz := 3) (i := x10) (k := .i64) Try.underlying25 e46 (by kernel_rfl) (by kernel_rfl) (by kernel_rfl) q21 q20) ?_
    refine lv (d := 33) rfl rfl (by kernel_rfl) (e_fieldAddr (b := b44) (off := o45 + (x10 : Int).toNat * 3) (o := 2) Try.underlying65 rfl rfl (sz := 1) (by kernel_rfl) (by decide) (by kernel_rfl)) ?_
    refine lv (d := 34) rfl rfl (by kernel_rfl) (e_load1 (ad := ⟨b44, o45 + (x10 : Int).toNat * 3 + 2, none⟩) (v := .slice A50 ((x1.getD ((x10).toNat) z65).text).length c51) Try.underlying59 rfl (by kernel_rfl) (hpx (S14.inv.cell (k49 2 _ rfl)))) ?_
    refine lv (d := 35) rfl rfl (by kernel_rfl) (e_move (v := .int .i64 (IntKind.i64.wrap ((IntKind.i64.wrap (x9 + 1)) + 1))) (by kernel_rfl)) ?_
    obtain ⟨t54, u55, M⟩ := bnd M
    refine lcall (d := 36) rfl rfl (by kernel_rfl) (e_call (l := [.tmp 34, .tmp 35]) (vs := [.slice A50 ((x1.getD ((x10).toNat) z65).text).length c51, .int .i64 (IntKind.i64.wrap ((IntKind.i64.wrap (x9 + 1)) + 1))]) Try.func69 (by kernel_rfl) rfl (by kernel_rfl) rfl) (laws_heldByteS.calls k19 w7 H ((x1.getD ((x10).toNat) z65).text) A50 c51 (IntKind.i64.wrap ((IntKind.i64.wrap (x9 + 1)) + 1)) h53 l52 S14.own0 t54 u55) ?_
    rintro _ w56 ⟨rfl, C57⟩
    refine ⟨_, rfl, ?_⟩
    obtain ⟨S58, K59⟩ := S14.still C57
    refine lv (d := 1) rfl rfl (by kernel_rfl) (e_assign (v := .int .i64 t54) (by kernel_rfl)) ?_
    refine wpList_nil ?_
    refine then_n ?_
    refine wp_seq ?_
    refine wp_region_lit ?_
    refine lv (d := 37) rfl rfl (by kernel_rfl) (e_move (v := .int .i64 t54) (by kernel_rfl)) ?_
    refine lv (d := 38) rfl rfl (by kernel_rfl) (e_lss (k := .i64) (a := t54) (b := 0) (by kernel_rfl) rfl) ?_
    refine wpList_nil ?_
    refine then_n ?_
    by_cases q60 : t54 < 0
    · replace M := ifp q60 M
      refine cond_t rfl (bt q60 (by kernel_rfl)) ?_
      refine wp_seq ?_
      refine wp_region_lit ?_
      refine lv (d := 4) rfl rfl (by kernel_rfl) (e_assign (v := .int .i64 (-1)) rfl) ?_
      refine wpList_nil ?_
      refine then_n ?_
      refine wp_ret ?_
      refine inb_r ?_
      refine then_r ?_
      refine then_r ?_
      refine inb_r ?_
      refine then_r ?_
      obtain rfl := Option.some.inj M
      exact ret1 rfl rfl  (show _ = .int .i64 (-1) from (by kernel_rfl)) ⟨rfl, S58.chg⟩
    replace M := ifn q60 M
    refine cond_f rfl (bf q60 (by kernel_rfl)) ?_
    refine wp_skip ?_
    refine inb_n ?_
    refine then_n ?_
    refine wp_region_lit ?_
    refine lv (d := 10) rfl rfl (by kernel_rfl) (e_move (v := .int .i64 x10) (by exact e13)) ?_
    refine lv (d := 11) rfl rfl (by kernel_rfl) (e_add (k := .i64) (a := x10) (b := 1) (by kernel_rfl) rfl) ?_
    refine lv (d := 5) rfl rfl (by kernel_rfl) (e_assign (v := .int .i64 (IntKind.i64.wrap (x10 + 1))) (by kernel_rfl)) ?_
    refine wpList_nil ?_
    refine then_n ?_
    exact ⟨k19, (by omega), _, t54, (IntKind.i64.wrap (x10 + 1)), rfl, (by exact e11), (by kernel_rfl), (by kernel_rfl), S58, M⟩
  replace M := ifn q20 M
  refine cond_f rfl (bf q20 (by kernel_rfl)) ?_
  refine wp_exit ?_
  refine then_e ?_
  refine then_e ?_
  refine inb_hit ?_
  refine then_n ?_
  refine wp_seq ?_
  refine wp_region_lit ?_
  refine lv (d := 39) rfl rfl (by kernel_rfl) (e_move (v := .int .i64 x9) (by exact e12)) ?_
  refine lv (d := 4) rfl rfl (by kernel_rfl) (e_assign (v := .int .i64 x9) (by kernel_rfl)) ?_
  refine wpList_nil ?_
  refine then_n ?_
  refine wp_ret ?_
  obtain rfl := Option.some.inj M
  exact ret1 rfl rfl  (show _ = .int .i64 x9 from (by kernel_rfl)) ⟨rfl, S14.chg⟩

/-! laws_FnExactRenumber -/
def laws_FnExactRenumber.f (k : Nat) (x1 : List Cell) : Option Bool := ((laws_szCellS.f k x1 1048576).bind fun t6 => (if t6 < 0 then some true else ((laws_toCellS.f k x1).bind fun t13 => ((spec_Renumber.f k t13).bind fun t31 => ((laws_toCellS.f k x1).bind fun t43 => ((impl_Renumber.f k t43).bind fun t62 => ((laws_eqCellS.f k t62 t31).bind fun t77 => (if ¬ (t77 = true) then some false else ((laws_toCellS.f k x1).bind fun t98 => ((laws_eqCellS.f k t43 t98).bind fun t110 => (if ¬ (t110 = true) then some false else ((laws_markCellS_2.f k t43 1).bind fun t131 => (if t131.1 < 0 then some false else ((laws_eqCellS.f k t62 t31).bind fun t143 => (if ¬ (t143 = true) then some false else ((laws_markCellS_2.f k t62 1).bind fun t165 => ((laws_heldCellS.f k t165.2 1).bind fun t176 => (if t176 < 0 then some false else (if t176 ≠ t165.1 then some false else ((laws_toCellS.f k x1).bind fun t190 => ((impl_Renumber.f k t190).bind fun t208 => ((laws_eqCellS.f k t208 t31).bind fun t220 => (if ¬ (t220 = true) then some false else ((laws_heldCellS.f k t165.2 1).bind fun t240 => (if t240 < 0 then some false else (if t240 ≠ t165.1 then some false else some true))))))))))))))))))))))))))
theorem laws_FnExactRenumber.calls (k : Nat) (w : World) (H : Hp) (x1 : List Cell) (A2 : Option Addr) (c3 : Nat) (h4 : Rd st68 H A2 x1) (l5 : x1.length ≤ c3) (S : Own [] H w) (r : Bool) (M : laws_FnExactRenumber.f k x1 = some r) :
    Calls Try.prog 6 #[.slice A2 x1.length c3] w (fun e e_w => e = .returned (.bool r) ∧ Chg no w e_w) := by
  rw [laws_FnExactRenumber.f] at M
  refine enter (l := [.slice A2 x1.length c3]) 69 Try.func6 rfl rfl rfl ?_
  have S0_ := S.st
  refine wp_seq ?_
  refine wp_region_lit ?_
  refine lv (d := 2) rfl rfl (by kernel_rfl) (e_assign (v := .bool false) rfl) ?_
  refine wpList_nil ?_
  refine then_n ?_
  refine wp_seq ?_
  refine wp_region_lit ?_
  refine lv (d := 3) rfl rfl (by kernel_rfl) (e_assign (v := .int .i64 1048576) rfl) ?_
  refine wpList_nil ?_
  refine then_n ?_
  refine wp_seq ?_
  refine wp_region_lit ?_
  refine lv (d := 11) rfl rfl (by kernel_rfl) (e_move (v := .slice A2 x1.length c3) (by kernel_rfl)) ?_
  refine lv (d := 12) rfl rfl (by kernel_rfl) (e_move (v := .int .i64 1048576) (by kernel_rfl)) ?_
  obtain ⟨t6, u7, M⟩ := bnd M
  refine lcall (d := 13) rfl rfl (by kernel_rfl) (e_call (l := [.tmp 11, .tmp 12]) (vs := [.slice A2 x1.length c3, .int .i64 1048576]) Try.func14 (by kernel_rfl) rfl (by kernel_rfl) rfl) (laws_szCellS.calls k w H x1 A2 c3 1048576 h4 l5 S0_.own0 t6 u7) ?_
  rintro _ w8 ⟨rfl, C9⟩
  refine ⟨_, rfl, ?_⟩
  obtain ⟨S10, K11⟩ := S0_.still C9
  refine lv (d := 3) rfl rfl (by kernel_rfl) (e_assign (v := .int .i64 t6) (by kernel_rfl)) ?_
  refine wpList_nil ?_
  refine then_n ?_
  refine wp_seq ?_
  refine wp_seq ?_
  refine wp_region_lit ?_
  refine lv (d := 14) rfl rfl (by kernel_rfl) (e_move (v := .int .i64 t6) (by kernel_rfl)) ?_
  refine lv (d := 15) rfl rfl (by kernel_rfl) (e_lss (k := .i64) (a := t6) (b := 0) (by kernel_rfl) rfl) ?_
  refine wpList_nil ?_
  refine then_n ?_
  by_cases q12 : t6 < 0
  · replace M := ifp q12 M
    refine cond_t rfl (bt q12 (by kernel_rfl)) ?_
    refine wp_seq ?_
    refine wp_region_lit ?_
    refine lv (d := 2) rfl rfl (by kernel_rfl) (e_assign (v := .bool true) rfl) ?_
    refine wpList_nil ?_
    refine then_n ?_
    refine wp_ret ?_
    refine then_r ?_
    obtain rfl := Option.some.inj M
    exact ret1 rfl rfl  (show _ = .bool true from (by kernel_rfl)) ⟨rfl, S10.chg⟩
  replace M := ifn q12 M
  refine cond_f rfl (bf q12 (by kernel_rfl)) ?_
  refine wp_skip ?_
  refine then_n ?_
  refine wp_seq ?_
  refine wp_region_lit ?_
  refine lv (d := 16) rfl rfl (by kernel_rfl) (e_move (v := .slice A2 x1.length c3) (by kernel_rfl)) ?_
  obtain ⟨t13, u14, M⟩ := bnd M
  refine lcall (d := 17) rfl rfl (by kernel_rfl) (e_call (l := [.tmp 16]) (vs := [.slice A2 x1.length c3]) Try.func16 (by kernel_rfl) rfl (by kernel_rfl) rfl) (laws_toCellS.calls k w8 H x1 A2 c3 h4 l5 (St.own' (Fa := []) (Fr := []) S10) t13 u14) ?_
  rintro _ w15 ⟨A18, c19, F21, H16, rfl, h20, T17⟩
  refine ⟨_, rfl, ?_⟩
  obtain ⟨S22, K23⟩ := St.call (Fa := []) (Fr := []) S10 T17
  have E24 := T17.ext
  have l25 := h20.le
  obtain ⟨H26, S27, E28, h29, z30⟩ := S22.frzRow h20
  obtain ⟨t31, u32, M⟩ := bnd M
  refine lcall (d := 18) rfl rfl (by kernel_rfl) (e_call (l := [.tmp 17]) (vs := [.slice A18 t13.length c19]) Try.func27 (by kernel_rfl) rfl (by kernel_rfl) rfl) (spec_Renumber.calls k w15 H26 t13 A18 c19 h29 l25 (St.own' (Fa := []) (Fr := []) S27) t31 u32) ?_
  rintro _ w33 ⟨A36, c37, F39, H34, rfl, h38, T35⟩
  refine ⟨_, rfl, ?_⟩
  obtain ⟨S40, K41⟩ := St.call (Fa := []) (Fr := []) S27 T35
  have E42 := T35.ext
  refine lv (d := 4) rfl rfl (by kernel_rfl) (e_assign (v := .slice A36 t31.length c37) (by kernel_rfl)) ?_
  refine wpList_nil ?_
  refine then_n ?_
  refine wp_seq ?_
  refine wp_region_lit ?_
  refine lv (d := 19) rfl rfl (by kernel_rfl) (e_move (v := .slice A2 x1.length c3) (by kernel_rfl)) ?_
  obtain ⟨t43, u44, M⟩ := bnd M
  refine lcall (d := 20) rfl rfl (by kernel_rfl) (e_call (l := [.tmp 19]) (vs := [.slice A2 x1.length c3]) Try.func16 (by kernel_rfl) rfl (by kernel_rfl) rfl) (laws_toCellS.calls k w33 H34 x1 A2 c3 (h4.ext ((E24.trans E28).trans E42)) l5 (St.own' (Fa := []) (Fr := [F39]) S40) t43 u44) ?_
  rintro _ w45 ⟨A48, c49, F51, H46, rfl, h50, T47⟩
  refine ⟨_, rfl, ?_⟩
  obtain ⟨S52, K53⟩ := St.call (Fa := []) (Fr := [F39]) S40 T47
  replace h38 := h38.move (K53.at 0 rfl)
  have E54 := T47.ext
  replace h38 := h38.ext E54
  refine lv (d := 5) rfl rfl (by kernel_rfl) (e_assign (v := .slice A48 t43.length c49) (by kernel_rfl)) ?_
  refine wpList_nil ?_
  refine then_n ?_
  refine wp_seq ?_
  refine wp_region_lit ?_
  refine lv (d := 21) rfl rfl (by kernel_rfl) (e_move (v := .slice A48 t43.length c49) (by kernel_rfl)) ?_
  have l55 := h50.le
  obtain ⟨H56, S57, E58, h59, z60⟩ := S52.frzRow h50
  have h61 := h38.ext E58
  obtain ⟨t62, u63, M⟩ := bnd M
  refine lcall (d := 22) rfl rfl (by kernel_rfl) (e_call (l := [.tmp 21]) (vs := [.slice A48 t43.length c49]) Try.func28 (by kernel_rfl) rfl (by kernel_rfl) rfl) (impl_Renumber.calls k w45 H56 t43 A48 c49 h59 l55 S57.own0 t62 u63) ?_
  rintro _ w64 ⟨A67, c68, F70, H65, rfl, h69, T66⟩
  refine ⟨_, rfl, ?_⟩
  obtain ⟨S71, K72⟩ := St.call (Fa := []) (Fr := [F39]) S57 T66
  replace h38 := h38.move (K72.at 0 rfl)
  obtain ⟨H73, S74, E75, v76⟩ := St.thaw S52 z60 S71 T66.ext E58 T66.size
  replace h50 := h50.move v76
  replace h50 := h50.ext E75
  replace h38 := h38.ext E75
  replace h69 := Row.free (H' := H73) (free_iso (free_pair (free_scal _ _) (free_pair (free_scal _ _) (free_slice (free_scal _ _))))) h69
  refine lv (d := 6) rfl rfl (by kernel_rfl) (e_assign (v := .slice A67 t62.length c68) (by kernel_rfl)) ?_
  refine wpList_nil ?_
  refine then_n ?_
  refine wp_seq ?_
  refine wp_seq ?_
  refine wp_region_lit ?_
  refine lv (d := 23) rfl rfl (by kernel_rfl) (e_move (v := .slice A67 t62.length c68) (by kernel_rfl)) ?_
  refine lv (d := 24) rfl rfl (by kernel_rfl) (e_move (v := .slice A36 t31.length c37) (by kernel_rfl)) ?_
  obtain ⟨t77, u78, M⟩ := bnd M
  refine lcall (d := 25) rfl rfl (by kernel_rfl) (e_call (l := [.tmp 23, .tmp 24]) (vs := [.slice A67 t62.length c68, .slice A36 t31.length c37]) Try.func18 (by kernel_rfl) rfl (by kernel_rfl) rfl) (by have l79 := h69.le; have S80 := S74.pull (F := F70) (Fr := [F51, F39]) 1 rfl rfl; obtain ⟨H81, S82, E83, h84, z85⟩ := S80.frzRow h69; replace h50 := h50.ext E83; replace h38 := h38.ext E83; have l86 := h38.le; have S87 := S82.pull (F := F39) (Fr := [F51]) 1 rfl rfl; obtain ⟨H88, S89, E90, h91, z92⟩ := S87.frzRow h38; replace h50 := h50.ext E90; exact (laws_eqCellS.calls k w64 H88 t62 A67 c68 t31 A36 c37 (h84.ext E90) l79 h91 l86 S89.own0 t77 u78)) ?_
  rintro _ w93 ⟨rfl, C94⟩
  refine ⟨_, rfl, ?_⟩
  obtain ⟨S95, K96⟩ := S74.still C94
  replace h50 := h50.move (K96.at 0 rfl)
  replace h69 := h69.move (K96.at 1 rfl)
  replace h38 := h38.move (K96.at 2 rfl)
  refine lv (d := 26) rfl rfl (by kernel_rfl) (e_notv (c := t77) (by kernel_rfl)) ?_
  refine wpList_nil ?_
  refine then_n ?_
  by_cases q97 : ¬ (t77 = true)
  · replace M := ifp q97 M
    refine cond_t rfl (bt q97 (by kernel_rfl)) ?_
    refine wp_seq ?_
    refine wp_region_lit ?_
    refine lv (d := 2) rfl rfl (by kernel_rfl) (e_assign (v := .bool false) rfl) ?_
    refine wpList_nil ?_
    refine then_n ?_
    refine wp_ret ?_
    refine then_r ?_
    obtain rfl := Option.some.inj M
    exact ret1 rfl rfl  (show _ = .bool false from (by kernel_rfl)) ⟨rfl, S95.chg⟩
  replace M := ifn q97 M
  refine cond_f rfl (bf q97 (by kernel_rfl)) ?_
  refine wp_skip ?_
  refine then_n ?_
  refine wp_seq ?_
  refine wp_seq ?_
  refine wp_region_lit ?_
  refine lv (d := 27) rfl rfl (by kernel_rfl) (e_move (v := .slice A48 t43.length c49) (by kernel_rfl)) ?_
  refine lv (d := 28) rfl rfl (by kernel_rfl) (e_move (v := .slice A2 x1.length c3) (by kernel_rfl)) ?_
  obtain ⟨t98, u99, M⟩ := bnd M
  refine lcall (d := 29) rfl rfl (by kernel_rfl) (e_call (l := [.tmp 28]) (vs := [.slice A2 x1.length c3]) Try.func16 (by kernel_rfl) rfl (by kernel_rfl) rfl) (laws_toCellS.calls k w93 H73 x1 A2 c3 (h4.ext ((((E24.trans E28).trans E42).trans E54).trans E75)) l5 (St.own' (Fa := []) (Fr := [F51, F70, F39]) S95) t98 u99) ?_
  rintro _ w100 ⟨A103, c104, F106, H101, rfl, h105, T102⟩
  refine ⟨_, rfl, ?_⟩
  obtain ⟨S107, K108⟩ := St.call (Fa := []) (Fr := [F51, F70, F39]) S95 T102
  replace h50 := h50.move (K108.at 0 rfl)
  replace h69 := h69.move (K108.at 1 rfl)
  replace h38 := h38.move (K108.at 2 rfl)
  have E109 := T102.ext
  replace h50 := h50.ext E109
  replace h69 := h69.ext E109
  replace h38 := h38.ext E109
  obtain ⟨t110, u111, M⟩ := bnd M
  refine lcall (d := 30) rfl rfl (by kernel_rfl) (e_call (l := [.tmp 27, .tmp 29]) (vs := [.slice A48 t43.length c49, .slice A103 t98.length c104]) Try.func18 (by kernel_rfl) rfl (by kernel_rfl) rfl) (by have l112 := h50.le; have S113 := S107.pull (F := F51) (Fr := [F106, F70, F39]) 1 rfl rfl; obtain ⟨H114, S115, E116, h117, z118⟩ := S113.frzRow h50; replace h105 := h105.ext E116; replace h69 := h69.ext E116; replace h38 := h38.ext E116; have l119 := h105.le; obtain ⟨H120, S121, E122, h123, z124⟩ := S115.frzRow h105; replace h69 := h69.ext E122; replace h38 := h38.ext E122; exact (laws_eqCellS.calls k w100 H120 t43 A48 c49 t98 A103 c104 (h117.ext E122) l112 h123 l119 S121.own0 t110 u111)) ?_
  rintro _ w125 ⟨rfl, C126⟩
  refine ⟨_, rfl, ?_⟩
  obtain ⟨S127, K128⟩ := S107.still C126
  replace h105 := h105.move (K128.at 0 rfl)
  replace h50 := h50.move (K128.at 1 rfl)
  replace h69 := h69.move (K128.at 2 rfl)
  replace h38 := h38.move (K128.at 3 rfl)
  refine lv (d := 31) rfl rfl (by kernel_rfl) (e_notv (c := t110) (by kernel_rfl)) ?_
  refine wpList_nil ?_
  refine then_n ?_
  by_cases q129 : ¬ (t110 = true)
  · replace M := ifp q129 M
    refine cond_t rfl (bt q129 (by kernel_rfl)) ?_
    refine wp_seq ?_
    refine wp_region_lit ?_
    refine lv (d := 2) rfl rfl (by kernel_rfl) (e_assign (v := .bool false) rfl) ?_
    refine wpList_nil ?_
    refine then_n ?_
    refine wp_ret ?_
    refine then_r ?_
    obtain rfl := Option.some.inj M
    exact ret1 rfl rfl  (show _ = .bool false from (by kernel_rfl)) ⟨rfl, S127.chg⟩
  replace M := ifn q129 M
  refine cond_f rfl (bf q129 (by kernel_rfl)) ?_
  refine wp_skip ?_
  refine then_n ?_
  refine wp_seq ?_
  refine wp_region_lit ?_
  refine lv (d := 7) rfl rfl (by kernel_rfl) (e_assign (v := .int .i64 1) rfl) ?_
  refine wpList_nil ?_
  refine then_n ?_
  refine wp_seq ?_
  refine wp_region_lit ?_
  refine lv (d := 32) rfl rfl (by kernel_rfl) (e_move (v := .slice A48 t43.length c49) (by kernel_rfl)) ?_
  refine lv (d := 33) rfl rfl (by kernel_rfl) (e_move (v := .int .i64 1) (by kernel_rfl)) ?_
  have S130 := S127.pull (F := F51) (Fr := [F106, F70, F39]) 1 rfl rfl
  obtain ⟨t131, u132, M⟩ := bnd M
  refine lcall (d := 34) rfl rfl (by kernel_rfl) (e_call (l := [.tmp 32, .tmp 33]) (vs := [.slice A48 t43.length c49, .int .i64 1]) Try.func24 (by kernel_rfl) rfl (by kernel_rfl) rfl) (laws_markCellS_2.calls k w125 H101 t43 A48 c49 F51 1 h50 (St.own' (Fa := [F51]) (Fr := [F106, F70, F39]) S130) t131 u132) ?_
  rintro _ w133 ⟨F137, H134, rfl, n138, h136, T135⟩
  refine ⟨_, rfl, ?_⟩
  obtain ⟨S139, K140⟩ := St.call (Fa := [F51]) (Fr := [F106, F70, F39]) S130 T135
  replace h105 := h105.move (K140.at 0 rfl)
  replace h69 := h69.move (K140.at 1 rfl)
  replace h38 := h38.move (K140.at 2 rfl)
  have E141 := T135.ext
  replace h105 := h105.ext E141
  replace h69 := h69.ext E141
  replace h38 := h38.ext E141
  refine lv (d := 7) rfl rfl (by kernel_rfl) (e_assign (v := .int .i64 t131.1) (by kernel_rfl)) ?_
  refine wpList_nil ?_
  refine then_n ?_
  refine wp_seq ?_
  refine wp_seq ?_
  refine wp_region_lit ?_
  refine lv (d := 35) rfl rfl (by kernel_rfl) (e_move (v := .int .i64 t131.1) (by kernel_rfl)) ?_
  refine lv (d := 36) rfl rfl (by kernel_rfl) (e_lss (k := .i64) (a := t131.1) (b := 0) (by kernel_rfl) rfl) ?_
  refine lv (d := 37) rfl rfl (by kernel_rfl) (e_move (v := .bool (decide (t131.1 < 0))) (by kernel_rfl)) ?_
  by_cases q142 : t131.1 < 0
  · replace M := ifp q142 M
    refine lskip (t := 37) (c := true) rfl (by kernel_rfl) rfl (bt q142 (by kernel_rfl)) rfl rfl ?_
    refine lskip (t := 37) (c := true) rfl (by kernel_rfl) rfl (bt q142 (by kernel_rfl)) rfl rfl ?_
    refine lskip (t := 37) (c := true) rfl (by kernel_rfl) rfl (bt q142 (by kernel_rfl)) rfl rfl ?_
    refine lskip (t := 37) (c := true) rfl (by kernel_rfl) rfl (bt q142 (by kernel_rfl)) rfl rfl ?_
    refine lv (d := 42) rfl rfl (by kernel_rfl) (e_pick_t (v := .bool true) (bt q142 (by kernel_rfl)) rfl) ?_
    refine wpList_nil ?_
    refine then_n ?_
    refine cond_t rfl (by kernel_rfl) ?_
    refine wp_seq ?_
    refine wp_region_lit ?_
    refine lv (d := 2) rfl rfl (by kernel_rfl) (e_assign (v := .bool false) rfl) ?_
    refine wpList_nil ?_
    refine then_n ?_
    refine wp_ret ?_
    refine then_r ?_
    obtain rfl := Option.some.inj M
    exact ret1 rfl rfl  (show _ = .bool false from (by kernel_rfl)) ⟨rfl, S139.chg⟩
  replace M := ifn q142 M
  refine lvg (d := 38) (t := 37) rfl (by kernel_rfl) rfl (bf q142 (by kernel_rfl)) rfl (by kernel_rfl) (e_move (v := .slice A67 t62.length c68) (by kernel_rfl)) ?_
  refine lvg (d := 39) (t := 37) rfl (by kernel_rfl) rfl (bf q142 (by kernel_rfl)) rfl (by kernel_rfl) (e_move (v := .slice A36 t31.length c37) (by kernel_rfl)) ?_
  obtain ⟨t143, u144, M⟩ := bnd M
  refine lcallg (d := 40) (t := 37) rfl (by kernel_rfl) rfl (bf q142 (by kernel_rfl)) rfl (by kernel_rfl) (e_call (l := [.tmp 38, .tmp 39]) (vs := [.slice A67 t62.length c68, .slice A36 t31.length c37]) Try.func18 (by kernel_rfl) rfl (by kernel_rfl) rfl) (by have l145 := h69.le; have S146 := S139.pull (F := F70) (Fr := [F137, F106, F39]) 2 rfl rfl; obtain ⟨H147, S148, E149, h150, z151⟩ := S146.frzRow h69; replace h136 := h136.ext E149; replace h105 := h105.ext E149; replace h38 := h38.ext E149; have l152 := h38.le; have S153 := S148.pull (F := F39) (Fr := [F137, F106]) 2 rfl rfl; obtain ⟨H154, S155, E156, h157, z158⟩ := S153.frzRow h38; replace h136 := h136.ext E156; replace h105 := h105.ext E156; exact (laws_eqCellS.calls k w133 H154 t62 A67 c68 t31 A36 c37 (h150.ext E156) l145 h157 l152 S155.own0 t143 u144)) ?_
  rintro _ w159 ⟨rfl, C160⟩
  refine ⟨_, rfl, ?_⟩
  obtain ⟨S161, K162⟩ := S139.still C160
  replace h136 := h136.move (K162.at 0 rfl)
  replace h105 := h105.move (K162.at 1 rfl)
  replace h69 := h69.move (K162.at 2 rfl)
  replace h38 := h38.move (K162.at 3 rfl)
  refine lvg (d := 41) (t := 37) rfl (by kernel_rfl) rfl (bf q142 (by kernel_rfl)) rfl (by kernel_rfl) (e_notv (c := t143) (by kernel_rfl)) ?_
  refine lv (d := 42) rfl rfl (by kernel_rfl) (e_pick_f (v := .bool (decide (¬ (t143 = true)))) (bf q142 (by kernel_rfl)) (by kernel_rfl)) ?_
  refine wpList_nil ?_
  refine then_n ?_
  by_cases q163 : ¬ (t143 = true)
  · replace M := ifp q163 M
    refine cond_t rfl (bt q163 (by kernel_rfl)) ?_
    refine wp_seq ?_
    refine wp_region_lit ?_
    refine lv (d := 2) rfl rfl (by kernel_rfl) (e_assign (v := .bool false) rfl) ?_
    refine wpList_nil ?_
    refine then_n ?_
    refine wp_ret ?_
    refine then_r ?_
    obtain rfl := Option.some.inj M
    exact ret1 rfl rfl  (show _ = .bool false from (by kernel_rfl)) ⟨rfl, S161.chg⟩
  replace M := ifn q163 M
  refine cond_f rfl (bf q163 (by kernel_rfl)) ?_
  refine wp_skip ?_
  refine then_n ?_
  refine wp_seq ?_
  refine wp_region_lit ?_
  refine lv (d := 8) rfl rfl (by kernel_rfl) (e_assign (v := .int .i64 1) rfl) ?_
  refine wpList_nil ?_
  refine then_n ?_
  refine wp_seq ?_
  refine wp_region_lit ?_
  refine lv (d := 43) rfl rfl (by kernel_rfl) (e_move (v := .slice A67 t62.length c68) (by kernel_rfl)) ?_
  refine lv (d := 44) rfl rfl (by kernel_rfl) (e_move (v := .int .i64 1) (by kernel_rfl)) ?_
  have S164 := S161.pull (F := F70) (Fr := [F137, F106, F39]) 2 rfl rfl
  obtain ⟨t165, u166, M⟩ := bnd M
  refine lcall (d := 45) rfl rfl (by kernel_rfl) (e_call (l := [.tmp 43, .tmp 44]) (vs := [.slice A67 t62.length c68, .int .i64 1]) Try.func24 (by kernel_rfl) rfl (by kernel_rfl) rfl) (laws_markCellS_2.calls k w159 H134 t62 A67 c68 F70 1 h69 (St.own' (Fa := [F70]) (Fr := [F137, F106, F39]) S164) t165 u166) ?_
  rintro _ w167 ⟨F171, H168, rfl, n172, h170, T169⟩
  refine ⟨_, rfl, ?_⟩
  obtain ⟨S173, K174⟩ := St.call (Fa := [F70]) (Fr := [F137, F106, F39]) S164 T169
  replace h136 := h136.move (K174.at 0 rfl)
  replace h105 := h105.move (K174.at 1 rfl)
  replace h38 := h38.move (K174.at 2 rfl)
  have E175 := T169.ext
  replace h136 := h136.ext E175
  replace h105 := h105.ext E175
  replace h38 := h38.ext E175
  refine lv (d := 8) rfl rfl (by kernel_rfl) (e_assign (v := .int .i64 t165.1) (by kernel_rfl)) ?_
  refine wpList_nil ?_
  refine then_n ?_
  refine wp_seq ?_
  refine wp_region_lit ?_
  refine lv (d := 9) rfl rfl (by kernel_rfl) (e_assign (v := .int .i64 1) rfl) ?_
  refine wpList_nil ?_
  refine then_n ?_
  refine wp_seq ?_
  refine wp_region_lit ?_
  refine lv (d := 46) rfl rfl (by kernel_rfl) (e_move (v := .slice A67 t62.length c68) (by kernel_rfl)) ?_
  refine lv (d := 47) rfl rfl (by kernel_rfl) (e_move (v := .int .i64 1) (by kernel_rfl)) ?_
  obtain ⟨t176, u177, M⟩ := bnd M
  refine lcall (d := 48) rfl rfl (by kernel_rfl) (e_call (l := [.tmp 46, .tmp 47]) (vs := [.slice A67 t62.length c68, .int .i64 1]) Try.func29 (by kernel_rfl) rfl (by kernel_rfl) rfl) (by have l178 := h170.le; obtain ⟨H179, S180, E181, h182, z183⟩ := S173.frzRow h170; replace h136 := h136.ext E181; replace h105 := h105.ext E181; replace h38 := h38.ext E181; exact (by have q_ := (laws_heldCellS.calls k w167 H179 t165.2 A67 c68 1 h182 l178 S180.own0 t176 u177); rw [(show t165.2.length = t62.length from n172)] at q_; exact q_)) ?_
  rintro _ w184 ⟨rfl, C185⟩
  refine ⟨_, rfl, ?_⟩
  obtain ⟨S186, K187⟩ := S173.still C185
  replace h170 := h170.move (K187.at 0 rfl)
  replace h136 := h136.move (K187.at 1 rfl)
  replace h105 := h105.move (K187.at 2 rfl)
  replace h38 := h38.move (K187.at 3 rfl)
  refine lv (d := 9) rfl rfl (by kernel_rfl) (e_assign (v := .int .i64 t176) (by kernel_rfl)) ?_
  refine wpList_nil ?_
  refine then_n ?_
  refine wp_seq ?_
  refine wp_seq ?_
  refine wp_region_lit ?_
  refine lv (d := 49) rfl rfl (by kernel_rfl) (e_move (v := .int .i64 t176) (by kernel_rfl)) ?_
  refine lv (d := 50) rfl rfl (by kernel_rfl) (e_lss (k := .i64) (a := t176) (b := 0) (by kernel_rfl) rfl) ?_
  refine wpList_nil ?_
  refine then_n ?_
  by_cases q188 : t176 < 0
  · replace M := ifp q188 M
    refine cond_t rfl (bt q188 (by kernel_rfl)) ?_
    refine wp_seq ?_
    refine wp_region_lit ?_
    refine lv (d := 2) rfl rfl (by kernel_rfl) (e_assign (v := .bool false) rfl) ?_
    refine wpList_nil ?_
    refine then_n ?_
    refine wp_ret ?_
    refine then_r ?_
    obtain rfl := Option.some.inj M
    exact ret1 rfl rfl  (show _ = .bool false from (by kernel_rfl)) ⟨rfl, S186.chg⟩
  replace M := ifn q188 M
  refine cond_f rfl (bf q188 (by kernel_rfl)) ?_
  refine wp_skip ?_
  refine then_n ?_
  refine wp_seq ?_
  refine wp_seq ?_
  refine wp_region_lit ?_
  refine lv (d := 51) rfl rfl (by kernel_rfl) (e_move (v := .int .i64 t176) (by kernel_rfl)) ?_
  refine lv (d := 52) rfl rfl (by kernel_rfl) (e_move (v := .int .i64 t165.1) (by kernel_rfl)) ?_
  refine lv (d := 53) rfl rfl (by kernel_rfl) (e_neq (k := .i64) (a := t176) (b := t165.1) (by kernel_rfl) (by kernel_rfl)) ?_
  refine wpList_nil ?_
  refine then_n ?_
  by_cases q189 : t176 ≠ t165.1
  · replace M := ifp q189 M
    refine cond_t rfl (bt q189 (by kernel_rfl)) ?_
    refine wp_seq ?_
    refine wp_region_lit ?_
    refine lv (d := 2) rfl rfl (by kernel_rfl) (e_assign (v := .bool false) rfl) ?_
    refine wpList_nil ?_
    refine then_n ?_
    refine wp_ret ?_
    refine then_r ?_
    obtain rfl := Option.some.inj M
    exact ret1 rfl rfl  (show _ = .bool false from (by kernel_rfl)) ⟨rfl, S186.chg⟩
  replace M := ifn q189 M
  refine cond_f rfl (bf q189 (by kernel_rfl)) ?_
  refine wp_skip ?_
  refine then_n ?_
  refine wp_seq ?_
  refine wp_region_lit ?_
  refine lv (d := 54) rfl rfl (by kernel_rfl) (e_move (v := .slice A2 x1.length c3) (by kernel_rfl)) ?_
  obtain ⟨t190, u191, M⟩ := bnd M
  refine lcall (d := 55) rfl rfl (by kernel_rfl) (e_call (l := [.tmp 54]) (vs := [.slice A2 x1.length c3]) Try.func16 (by kernel_rfl) rfl (by kernel_rfl) rfl) (laws_toCellS.calls k w184 H168 x1 A2 c3 (h4.ext (((((((E24.trans E28).trans E42).trans E54).trans E75).trans E109).trans E141).trans E175)) l5 (St.own' (Fa := []) (Fr := [F171, F137, F106, F39]) S186) t190 u191) ?_
  rintro _ w192 ⟨A195, c196, F198, H193, rfl, h197, T194⟩
  refine ⟨_, rfl, ?_⟩
  obtain ⟨S199, K200⟩ := St.call (Fa := []) (Fr := [F171, F137, F106, F39]) S186 T194
  replace h170 := h170.move (K200.at 0 rfl)
  replace h136 := h136.move (K200.at 1 rfl)
  replace h105 := h105.move (K200.at 2 rfl)
  replace h38 := h38.move (K200.at 3 rfl)
  have E201 := T194.ext
  replace h170 := h170.ext E201
  replace h136 := h136.ext E201
  replace h105 := h105.ext E201
  replace h38 := h38.ext E201
  have l202 := h197.le
  obtain ⟨H203, S204, E205, h206, z207⟩ := S199.frzRow h197
  replace h170 := h170.ext E205
  replace h136 := h136.ext E205
  replace h105 := h105.ext E205
  replace h38 := h38.ext E205
  obtain ⟨t208, u209, M⟩ := bnd M
  refine lcall (d := 56) rfl rfl (by kernel_rfl) (e_call (l := [.tmp 55]) (vs := [.slice A195 t190.length c196]) Try.func28 (by kernel_rfl) rfl (by kernel_rfl) rfl) (impl_Renumber.calls k w192 H203 t190 A195 c196 h206 l202 (St.own' (Fa := []) (Fr := [F171, F137, F106, F39]) S204) t208 u209) ?_
  rintro _ w210 ⟨A213, c214, F216, H211, rfl, h215, T212⟩
  refine ⟨_, rfl, ?_⟩
  obtain ⟨S217, K218⟩ := St.call (Fa := []) (Fr := [F171, F137, F106, F39]) S204 T212
  replace h170 := h170.move (K218.at 0 rfl)
  replace h136 := h136.move (K218.at 1 rfl)
  replace h105 := h105.move (K218.at 2 rfl)
  replace h38 := h38.move (K218.at 3 rfl)
  have E219 := T212.ext
  replace h170 := h170.ext E219
  replace h136 := h136.ext E219
  replace h105 := h105.ext E219
  replace h38 := h38.ext E219
  refine lv (d := 10) rfl rfl (by kernel_rfl) (e_assign (v := .slice A213 t208.length c214) (by kernel_rfl)) ?_
  refine wpList_nil ?_
  refine then_n ?_
  refine wp_seq ?_
  refine wp_seq ?_
  refine wp_region_lit ?_
  refine lv (d := 57) rfl rfl (by kernel_rfl) (e_move (v := .slice A213 t208.length c214) (by kernel_rfl)) ?_
  refine lv (d := 58) rfl rfl (by kernel_rfl) (e_move (v := .slice A36 t31.length c37) (by kernel_rfl)) ?_
  obtain ⟨t220, u221, M⟩ := bnd M
  refine lcall (d := 59) rfl rfl (by kernel_rfl) (e_call (l := [.tmp 57, .tmp 58]) (vs := [.slice A213 t208.length c214, .slice A36 t31.length c37]) Try.func18 (by kernel_rfl) rfl (by kernel_rfl) rfl) (by have l222 := h215.le; obtain ⟨H223, S224, E225, h226, z227⟩ := S217.frzRow h215; replace h170 := h170.ext E225; replace h136 := h136.ext E225; replace h105 := h105.ext E225; replace h38 := h38.ext E225; have l228 := h38.le; have S229 := S224.pull (F := F39) (Fr := [F171, F137, F106]) 3 rfl rfl; obtain ⟨H230, S231, E232, h233, z234⟩ := S229.frzRow h38; replace h170 := h170.ext E232; replace h136 := h136.ext E232; replace h105 := h105.ext E232; exact (laws_eqCellS.calls k w210 H230 t208 A213 c214 t31 A36 c37 (h226.ext E232) l222 h233 l228 S231.own0 t220 u221)) ?_
  rintro _ w235 ⟨rfl, C236⟩
  refine ⟨_, rfl, ?_⟩
  obtain ⟨S237, K238⟩ := S217.still C236
  replace h215 := h215.move (K238.at 0 rfl)
  replace h170 := h170.move (K238.at 1 rfl)
  replace h136 := h136.move (K238.at 2 rfl)
  replace h105 := h105.move (K238.at 3 rfl)
  replace h38 := h38.move (K238.at 4 rfl)
  refine lv (d := 60) rfl rfl (by kernel_rfl) (e_notv (c := t220) (by kernel_rfl)) ?_
  refine wpList_nil ?_
  refine then_n ?_
  by_cases q239 : ¬ (t220 = true)
  · replace M := ifp q239 M
    refine cond_t rfl (bt q239 (by kernel_rfl)) ?_
    refine wp_seq ?_
    refine wp_region_lit ?_
    refine lv (d := 2) rfl rfl (by kernel_rfl) (e_assign (v := .bool false) rfl) ?_
    refine wpList_nil ?_
    refine then_n ?_
    refine wp_ret ?_
    refine then_r ?_
    obtain rfl := Option.some.inj M
    exact ret1 rfl rfl  (show _ = .bool false from (by kernel_rfl)) ⟨rfl, S237.chg⟩
  replace M := ifn q239 M
  refine cond_f rfl (bf q239 (by kernel_rfl)) ?_
  refine wp_skip ?_
  refine then_n ?_
  refine wp_seq ?_
  refine wp_region_lit ?_
  refine lv (d := 9) rfl rfl (by kernel_rfl) (e_assign (v := .int .i64 1) rfl) ?_
  refine wpList_nil ?_
  refine then_n ?_
  refine wp_seq ?_
  refine wp_region_lit ?_
  refine lv (d := 61) rfl rfl (by kernel_rfl) (e_move (v := .slice A67 t62.length c68) (by kernel_rfl)) ?_
  refine lv (d := 62) rfl rfl (by kernel_rfl) (e_move (v := .int .i64 1) (by kernel_rfl)) ?_
  obtain ⟨t240, u241, M⟩ := bnd M
  refine lcall (d := 63) rfl rfl (by kernel_rfl) (e_call (l := [.tmp 61, .tmp 62]) (vs := [.slice A67 t62.length c68, .int .i64 1]) Try.func29 (by kernel_rfl) rfl (by kernel_rfl) rfl) (by have l242 := h170.le; have S243 := S237.pull (F := F171) (Fr := [F216, F137, F106, F39]) 1 rfl rfl; obtain ⟨H244, S245, E246, h247, z248⟩ := S243.frzRow h170; replace h215 := h215.ext E246; replace h136 := h136.ext E246; replace h105 := h105.ext E246; replace h38 := h38.ext E246; exact (by have q_ := (laws_heldCellS.calls k w235 H244 t165.2 A67 c68 1 h247 l242 S245.own0 t240 u241); rw [(show t165.2.length = t62.length from n172)] at q_; exact q_)) ?_
  rintro _ w249 ⟨rfl, C250⟩
  refine ⟨_, rfl, ?_⟩
  obtain ⟨S251, K252⟩ := S237.still C250
  replace h215 := h215.move (K252.at 0 rfl)
  replace h170 := h170.move (K252.at 1 rfl)
  replace h136 := h136.move (K252.at 2 rfl)
  replace h105 := h105.move (K252.at 3 rfl)
  replace h38 := h38.move (K252.at 4 rfl)
  refine lv (d := 9) rfl rfl (by kernel_rfl) (e_assign (v := .int .i64 t240) (by kernel_rfl)) ?_
  refine wpList_nil ?_
  refine then_n ?_
  refine wp_seq ?_
  refine wp_seq ?_
  refine wp_region_lit ?_
  refine lv (d := 64) rfl rfl (by kernel_rfl) (e_move (v := .int .i64 t240) (by kernel_rfl)) ?_
  refine lv (d := 65) rfl rfl (by kernel_rfl) (e_lss (k := .i64) (a := t240) (b := 0) (by kernel_rfl) rfl) ?_
  refine wpList_nil ?_
  refine then_n ?_
  by_cases q253 : t240 < 0
  · replace M := ifp q253 M
    refine cond_t rfl (bt q253 (by kernel_rfl)) ?_
    refine wp_seq ?_
    refine wp_region_lit ?_
    refine lv (d := 2) rfl rfl (by kernel_rfl) (e_assign (v := .bool false) rfl) ?_
    refine wpList_nil ?_
    refine then_n ?_
    refine wp_ret ?_
    refine then_r ?_
    obtain rfl := Option.some.inj M
    exact ret1 rfl rfl  (show _ = .bool false from (by kernel_rfl)) ⟨rfl, S251.chg⟩
  replace M := ifn q253 M
  refine cond_f rfl (bf q253 (by kernel_rfl)) ?_
  refine wp_skip ?_
  refine then_n ?_
  refine wp_seq ?_
  refine wp_seq ?_
  refine wp_region_lit ?_
  refine lv (d := 66) rfl rfl (by kernel_rfl) (e_move (v := .int .i64 t240) (by kernel_rfl)) ?_
  refine lv (d := 67) rfl rfl (by kernel_rfl) (e_move (v := .int .i64 t165.1) (by kernel_rfl)) ?_
  refine lv (d := 68) rfl rfl (by kernel_rfl) (e_neq (k := .i64) (a := t240) (b := t165.1) (by kernel_rfl) (by kernel_rfl)) ?_
  refine wpList_nil ?_
  refine then_n ?_
  by_cases q254 : t240 ≠ t165.1
  · replace M := ifp q254 M
    refine cond_t rfl (bt q254 (by kernel_rfl)) ?_
    refine wp_seq ?_
    refine wp_region_lit ?_
    refine lv (d := 2) rfl rfl (by kernel_rfl) (e_assign (v := .bool false) rfl) ?_
    refine wpList_nil ?_
    refine then_n ?_
    refine wp_ret ?_
    refine then_r ?_
    obtain rfl := Option.some.inj M
    exact ret1 rfl rfl  (show _ = .bool false from (by kernel_rfl)) ⟨rfl, S251.chg⟩
  replace M := ifn q254 M
  refine cond_f rfl (bf q254 (by kernel_rfl)) ?_
  refine wp_skip ?_
  refine then_n ?_
  refine wp_seq ?_
  refine wp_region_lit ?_
  refine lv (d := 2) rfl rfl (by kernel_rfl) (e_assign (v := .bool true) rfl) ?_
  refine wpList_nil ?_
  refine then_n ?_
  refine wp_ret ?_
  obtain rfl := Option.some.inj M
  exact ret1 rfl rfl  (show _ = .bool true from (by kernel_rfl)) ⟨rfl, S251.chg⟩
end Go.Proofs.Ytognefkopbbdnaa
