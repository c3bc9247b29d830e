import Derived.Test.YtnigifmkjmbfiaaWkUw2
namespace Go.Proofs.Ytnigifmkjmbfiaa
open Go.Sx Go.Sy
attribute [local irreducible] Go.wpList Go.wpStill Go.wpQuiet Go.Code.wp
set_option maxRecDepth 100000
set_option maxHeartbeats 1000000
set_option linter.unusedVariables false
set_option linter.unusedSimpArgs false

/-! impl_Store_ok -/
mutual
def impl_Store_ok.l3 : Nat → Store → Int → (List UInt8) → Option Bool
  | 0, _, _, _ => none
  | k146 + 1, x1, x132, x134 => (if x132 < (x1.cells.length : Int) then (if 0 ≤ x132 then (if ((x1.cells.getD ((x132).toNat) z36).kind) = 3 then (impl_Store_ok.l3 k146 x1 (IntKind.i64.wrap (x132 + 1)) x134) else (if x132 < (((x1.cells.length : Int)).toNat : Int) then (if ((x134.getD ((x132).toNat) (0 : UInt8)).toNat : Int) ≠ 0 then (impl_Store_ok.l3 k146 x1 (IntKind.i64.wrap (x132 + 1)) x134) else (impl_Store_ok.l4 k146 x1 x132 [(⟨x132, 0⟩ : GStep)] (x134.set ((x132).toNat) (1 : UInt8)))) else none)) else none) else some true)
def impl_Store_ok.l4 : Nat → Store → Int → (List GStep) → (List UInt8) → Option Bool
  | 0, _, _, _, _ => none
  | k226 + 1, x1, x132, x202, x208 => (if (x202.length : Int) > 0 then (if 0 ≤ (IntKind.i64.wrap ((x202.length : Int) - 1)) then (if (IntKind.i64.wrap ((x202.length : Int) - 1)) < (x202.length : Int) then ((impl_Store_ok_c1.f ((x202.getD (((IntKind.i64.wrap ((x202.length : Int) - 1))).toNat) z86).at_) ((x202.getD (((IntKind.i64.wrap ((x202.length : Int) - 1))).toNat) z86).next_) x1).bind fun t261 => (if ¬ (t261.2 = true) then (if 0 ≤ ((x202.getD (((IntKind.i64.wrap ((x202.length : Int) - 1))).toNat) z86).at_) then (if ((x202.getD (((IntKind.i64.wrap ((x202.length : Int) - 1))).toNat) z86).at_) < (((x1.cells.length : Int)).toNat : Int) then (if (IntKind.i64.wrap ((x202.length : Int) - 1)) ≤ (x202.length : Int) then (impl_Store_ok.l4 k226 x1 x132 (x202.take (((IntKind.i64.wrap ((x202.length : Int) - 1)) : Int).toNat)) (x208.set (((x202.getD (((IntKind.i64.wrap ((x202.length : Int) - 1))).toNat) z86).at_).toNat) (2 : UInt8))) else none) else none) else none) else (if 0 ≤ t261.1 then (if t261.1 < (((x1.cells.length : Int)).toNat : Int) then (if ((x208.getD ((t261.1).toNat) (0 : UInt8)).toNat : Int) = 0 then (if x202.length + 1 ≤ 8796093022208 then (impl_Store_ok.l4 k226 x1 x132 ((x202.set (((IntKind.i64.wrap ((x202.length : Int) - 1))).toNat) ({(x202.getD (((IntKind.i64.wrap ((x202.length : Int) - 1))).toNat) z86) with next_ := (IntKind.i64.wrap (((x202.getD (((IntKind.i64.wrap ((x202.length : Int) - 1))).toNat) z86).next_) + 1))})) ++ [(⟨t261.1, 0⟩ : GStep)]) (x208.set ((t261.1).toNat) (1 : UInt8))) else none) else (if ((x208.getD ((t261.1).toNat) (0 : UInt8)).toNat : Int) = 1 then some false else (impl_Store_ok.l4 k226 x1 x132 (x202.set (((IntKind.i64.wrap ((x202.length : Int) - 1))).toNat) ({(x202.getD (((IntKind.i64.wrap ((x202.length : Int) - 1))).toNat) z86) with next_ := (IntKind.i64.wrap (((x202.getD (((IntKind.i64.wrap ((x202.length : Int) - 1))).toNat) z86).next_) + 1))})) x208))) else none) else none))) else none) else none) else (impl_Store_ok.l3 k226 x1 (IntKind.i64.wrap (x132 + 1)) x208))
end
def impl_Store_ok.l2 : Nat → Store → Int → Option Bool
  | 0, _, _ => none
  | k97 + 1, x1, x87 => (if x87 < (x1.trail.length : Int) then (if 0 ≤ x87 then (if (x1.trail.getD ((x87).toNat) (0 : Int)) < 0 then some false else (if (x1.trail.getD ((x87).toNat) (0 : Int)) ≥ (x1.cells.length : Int) then some false else (if 0 ≤ (x1.trail.getD ((x87).toNat) (0 : Int)) then (if (x1.trail.getD ((x87).toNat) (0 : Int)) < (x1.cells.length : Int) then (if ((x1.cells.getD (((x1.trail.getD ((x87).toNat) (0 : Int))).toNat) z36).kind) = 3 then some false else (impl_Store_ok.l2 k97 x1 (IntKind.i64.wrap (x87 + 1)))) else none) else none))) else none) else (if 0 ≤ (x1.cells.length : Int) then (if ((x1.cells.length : Int)).toNat ≤ 281474976710656 then (impl_Store_ok.l3 k97 x1 0 (List.replicate ((x1.cells.length : Int)).toNat (0 : UInt8))) else none) else none))
mutual
def impl_Store_ok.l0 : Nat → Store → Int → Int → Option Bool
  | 0, _, _, _ => none
  | k31 + 1, x1, x19, x20 => (if x20 < (x1.cells.length : Int) then (if 0 ≤ x20 then (if ((x1.cells.getD ((x20).toNat) z36).kind) = 3 then (if x19 > 0 then some false else (if ((x1.cells.getD ((x20).toNat) z36).n) < 1 then some false else (if ((x1.cells.getD ((x20).toNat) z36).n) > 20 then some false else (if (((x1.cells.getD ((x20).toNat) z36).text).length : Int) > 100 then some false else (impl_Store_ok.l1 k31 x1 x20 ((x1.cells.getD ((x20).toNat) z36).n)))))) else ((impl_Store_points.f x1 (x1.cells.getD ((x20).toNat) z36)).bind fun t74 => (if ¬ (t74 = true) then some false else (impl_Store_ok.l1 k31 x1 x20 (if (IntKind.i64.wrap (x19 - 1)) > 0 then (IntKind.i64.wrap (x19 - 1)) else 0))))) else none) else (if x19 > 0 then some false else (impl_Store_ok.l2 k31 x1 0)))
def impl_Store_ok.l1 : Nat → Store → Int → Int → Option Bool
  | 0, _, _, _ => none
  | k45 + 1, x1, x20, x35 => (impl_Store_ok.l0 k45 x1 x35 (IntKind.i64.wrap (x20 + 1)))
end
def impl_Store_ok.f (k : Nat) (x1 : Store) : Option Bool := (if (x1.cells.length : Int) > 20000 then some false else (if (x1.trail.length : Int) > 20000 then some false else (impl_Store_ok.l0 k x1 0 0)))
theorem impl_Store_ok.calls (k : Nat) (w : World) (H : Hp) (x1 : Store) (A2 : Option Addr) (c3 : Nat) (A6 : Option Addr) (c7 : Nat) (h4 : Rd st36 H A2 x1.cells) (l5 : x1.cells.length ≤ c3) (h8 : Rd tInt H A6 x1.trail) (l9 : x1.trail.length ≤ c7) (S : Own [] H w) (r : Bool) (M : impl_Store_ok.f k x1 = some r) :
    Calls Try.prog 42 #[.agg #[.slice A2 x1.cells.length c3, .slice A6 x1.trail.length c7]] w (fun e e_w => e = .returned (.bool r) ∧ Chg no w e_w) := by
  rw [impl_Store_ok.f] at M
  refine enter (l := [.agg #[.slice A2 x1.cells.length c3, .slice A6 x1.trail.length c7]]) 179 Try.func42 rfl rfl rfl ?_
  have S0_ := S.st
  refine wp_seq ?_
  refine wp_region_lit ?_
  refine lve (d := 1) rfl rfl (by kernel_rfl) (new_blk (v := fun g_ => .pointer (some ⟨g_, 0, none⟩)) (cs := #[.slice A2 x1.cells.length c3, .slice A6 x1.trail.length c7]) (t := 34) S0_ (by kernel_rfl)) ?_
  rintro _ w10 ⟨g11, rfl, b12, S13, K14⟩
  refine lv (d := 2) rfl rfl (by kernel_rfl) (e_assign (v := .bool false) rfl) ?_
  refine wpList_nil ?_
  refine then_n ?_
  refine wp_seq ?_
  refine wp_seq ?_
  refine wp_region_lit ?_
  refine lv (d := 16) rfl rfl (by kernel_rfl) (e_fieldAddr (b := g11) (off := 0) (o := 0) Try.underlying34 rfl rfl (sz := 1) (by kernel_rfl) (by decide) (by kernel_rfl)) ?_
  refine lv (d := 17) rfl rfl (by kernel_rfl) (e_load1 (ad := ⟨g11, 0 + 0, none⟩) (v := .slice A2 x1.cells.length c3) Try.underlying32 rfl (by kernel_rfl) (blk_cell b12 rfl)) ?_
  refine lv (d := 18) rfl rfl (by kernel_rfl) (e_len (A := A2) (n := x1.cells.length) (c := c3) Try.underlying32 (by kernel_rfl)) ?_
  refine lv (d := 19) rfl rfl (by kernel_rfl) (e_gtr (k := .i64) (a := (x1.cells.length : Int)) (b := 20000) (by kernel_rfl) rfl) ?_
  refine lv (d := 20) rfl rfl (by kernel_rfl) (e_move (v := .bool (decide ((x1.cells.length : Int) > 20000))) (by kernel_rfl)) ?_
  by_cases q15 : (x1.cells.length : Int) > 20000
  · replace M := ifp q15 M
    refine lskip (t := 20) (c := true) rfl (by kernel_rfl) rfl (bt q15 (by kernel_rfl)) rfl rfl ?_
    refine lskip (t := 20) (c := true) rfl (by kernel_rfl) rfl (bt q15 (by kernel_rfl)) rfl rfl ?_
    refine lskip (t := 20) (c := true) rfl (by kernel_rfl) rfl (bt q15 (by kernel_rfl)) rfl rfl ?_
    refine lskip (t := 20) (c := true) rfl (by kernel_rfl) rfl (bt q15 (by kernel_rfl)) rfl rfl ?_
    refine lv (d := 25) rfl rfl (by kernel_rfl) (e_pick_t (v := .bool true) (bt q15 (by kernel_rfl)) rfl) ?_
    refine wpList_nil ?_
    refine then_n ?_
    refine cond_t rfl (by kernel_rfl) ?_
    refine wp_seq ?_
    refine wp_region_lit ?_
    refine lv (d := 2) rfl rfl (by kernel_rfl) (e_assign (v := .bool false) rfl) ?_
    refine wpList_nil ?_
    refine then_n ?_
    refine wp_ret ?_
    refine then_r ?_
    obtain rfl := Option.some.inj M
    exact ret1 rfl rfl  (show _ = .bool false from (by kernel_rfl)) ⟨rfl, S13.chg⟩
  replace M := ifn q15 M
  refine lvg (d := 21) (t := 20) rfl (by kernel_rfl) rfl (bf q15 (by kernel_rfl)) rfl (by kernel_rfl) (e_fieldAddr (b := g11) (off := 0) (o := 1) Try.underlying34 rfl rfl (sz := 1) (by kernel_rfl) (by decide) (by kernel_rfl)) ?_
  refine lvg (d := 22) (t := 20) rfl (by kernel_rfl) rfl (bf q15 (by kernel_rfl)) rfl (by kernel_rfl) (e_load1 (ad := ⟨g11, 0 + 1, none⟩) (v := .slice A6 x1.trail.length c7) Try.underlying23 rfl (by kernel_rfl) (blk_cell b12 rfl)) ?_
  refine lvg (d := 23) (t := 20) rfl (by kernel_rfl) rfl (bf q15 (by kernel_rfl)) rfl (by kernel_rfl) (e_len (A := A6) (n := x1.trail.length) (c := c7) Try.underlying23 (by kernel_rfl)) ?_
  refine lvg (d := 24) (t := 20) rfl (by kernel_rfl) rfl (bf q15 (by kernel_rfl)) rfl (by kernel_rfl) (e_gtr (k := .i64) (a := (x1.trail.length : Int)) (b := 20000) (by kernel_rfl) rfl) ?_
  refine lv (d := 25) rfl rfl (by kernel_rfl) (e_pick_f (v := .bool (decide ((x1.trail.length : Int) > 20000))) (bf q15 (by kernel_rfl)) (by kernel_rfl)) ?_
  refine wpList_nil ?_
  refine then_n ?_
  by_cases q16 : (x1.trail.length : Int) > 20000
  · replace M := ifp q16 M
    refine cond_t rfl (bt q16 (by kernel_rfl)) ?_
    refine wp_seq ?_
    refine wp_region_lit ?_
    refine lv (d := 2) rfl rfl (by kernel_rfl) (e_assign (v := .bool false) rfl) ?_
    refine wpList_nil ?_
    refine then_n ?_
    refine wp_ret ?_
    refine then_r ?_
    obtain rfl := Option.some.inj M
    exact ret1 rfl rfl  (show _ = .bool false from (by kernel_rfl)) ⟨rfl, S13.chg⟩
  replace M := ifn q16 M
  refine cond_f rfl (bf q16 (by kernel_rfl)) ?_
  refine wp_skip ?_
  refine then_n ?_
  refine wp_seq ?_
  refine wp_region_lit ?_
  refine lv (d := 3) rfl rfl (by kernel_rfl) (e_assign (v := .int .i64 0) rfl) ?_
  refine wpList_nil ?_
  refine then_n ?_
  refine wp_seq ?_
  refine wp_seq ?_
  refine wp_region_lit ?_
  refine lv (d := 26) rfl rfl (by kernel_rfl) (e_fieldAddr (b := g11) (off := 0) (o := 0) Try.underlying34 rfl rfl (sz := 1) (by kernel_rfl) (by decide) (by kernel_rfl)) ?_
  refine lv (d := 27) rfl rfl (by kernel_rfl) (e_load1 (ad := ⟨g11, 0 + 0, none⟩) (v := .slice A2 x1.cells.length c3) Try.underlying32 rfl (by kernel_rfl) (blk_cell b12 rfl)) ?_
  refine lv (d := 28) rfl rfl (by kernel_rfl) (e_len (A := A2) (n := x1.cells.length) (c := c3) Try.underlying32 (by kernel_rfl)) ?_
  refine lv (d := 29) rfl rfl (by kernel_rfl) (e_move (v := .int .i64 0) rfl) ?_
  refine wpList_nil ?_
  refine then_n ?_
  refine wp_block ?_
  refine wp_loop_g (fun k29 a30 w17 => ∃ (f18 : Nat → Value) (x19 : Int) (x20 : Int), a30 = mk 179 f18 ∧ f18 1 = .pointer (some ⟨g11, 0, none⟩) ∧ f18 3 = .int .i64 x19 ∧ f18 27 = .slice A2 x1.cells.length c3 ∧ f18 28 = .int .i64 (x1.cells.length : Int) ∧ f18 29 = .int .i64 x20 ∧ w17.heap[g11]? = some (.cells #[.slice A2 x1.cells.length c3, .slice A6 x1.trail.length c7] 34 (0, 0)) ∧ St (anyOf []) H w [(is g11)] H w17 ∧ impl_Store_ok.l0 k29 x1 x19 x20 = some r) k ⟨_, 0, 0, rfl, (by kernel_rfl), (by kernel_rfl), (by kernel_rfl), (by kernel_rfl), (by kernel_rfl), b12, S13, M⟩ ?_
  clear M
  rintro k29 a30 w17 ⟨f18, x19, x20, rfl, e21, e22, e23, e24, e25, b12, S26, M⟩
  rcases k29 with _ | k31
  · rw [impl_Store_ok.l0] at M
    cases M
  rw [impl_Store_ok.l0] at M
  refine wp_seq ?_
  refine wp_region_lit ?_
  refine lv (d := 30) rfl rfl (by kernel_rfl) (e_lss (k := .i64) (a := x20) (b := (x1.cells.length : Int)) (by exact e25) (by exact e24)) ?_
  refine wpList_nil ?_
  refine then_n ?_
  refine wp_seq ?_
  by_cases q32 : x20 < (x1.cells.length : Int)
  · replace M := ifp q32 M
    refine cond_t rfl (bt q32 (by kernel_rfl)) ?_
    refine wp_skip ?_
    refine then_n ?_
    refine wp_seq_cut (fun a44 w33 => ∃ (k46 : Nat), k46 ≤ k31 ∧ ∃ (f34 : Nat → Value) (x35 : Int), a44 = mk 179 f34 ∧ f34 1 = .pointer (some ⟨g11, 0, none⟩) ∧ f34 3 = .int .i64 x35 ∧ f34 27 = .slice A2 x1.cells.length c3 ∧ f34 28 = .int .i64 (x1.cells.length : Int) ∧ f34 29 = .int .i64 x20 ∧ w33.heap[g11]? = some (.cells #[.slice A2 x1.cells.length c3, .slice A6 x1.trail.length c7] 34 (0, 0)) ∧ St (anyOf []) H w [(is g11)] H w33 ∧ impl_Store_ok.l1 k46 x1 x20 x35 = some r) ?_ ?_
    · refine wp_block ?_
      refine wp_seq ?_
      refine wp_region_lit ?_
      obtain ⟨q47, M⟩ := chk M
      obtain ⟨b48, o49, e50⟩ := Rd.addr h4 (show (x20).toNat < x1.cells.length by omega)
      obtain ⟨y51, r52, k53⟩ := Rd.at h4 e50 (getD_some z36 (show (x20).toNat < x1.cells.length by omega))
      obtain ⟨A54, c55, rfl, l56, h57⟩ := st36_open r52
      refine lv (d := 31) rfl rfl (by kernel_rfl) (e_indexAddr (b := b48) (off := o49) (n := x1.cells.length) (c := c3) (sz := 3) (i := x20) (k := .i64) Try.underlying32 e50 (by kernel_rfl) (by exact e23) (by exact e25) q47 q32) ?_
      refine lv (d := 32) rfl rfl (by kernel_rfl) (e_loadS (b := b48) (off := o49 + (x20 : Int).toNat * 3) (cs := [.int .i64 ((x1.cells.getD ((x20).toNat) z36).kind), .int .i64 ((x1.cells.getD ((x20).toNat) z36).n), .slice A54 ((x1.cells.getD ((x20).toNat) z36).text).length c55]) Try.underlying36 rfl (by kernel_rfl) (by kernel_rfl) (fun j_ u_ e_ => (hpx (S26.inv.cell (k53 j_ u_ e_))))) ?_
      refine lve (d := 5) rfl rfl (by kernel_rfl) (new_blk (v := fun g_ => .pointer (some ⟨g_, 0, none⟩)) (cs := #[.int .i64 0, .int .i64 0, .slice none 0 0]) (t := 36) S26 (by kernel_rfl)) ?_
      rintro _ w58 ⟨g59, rfl, b60, S61, K62⟩
      replace b12 := K62.blk 0 rfl b12
      refine lse rfl rfl (by kernel_rfl) (e_store (g := g59) (o := 0) (v := .agg #[.int .i64 ((x1.cells.getD ((x20).toNat) z36).kind), .int .i64 ((x1.cells.getD ((x20).toNat) z36).n), .slice A54 ((x1.cells.getD ((x20).toNat) z36).text).length c55]) (cur' := #[.int .i64 ((x1.cells.getD ((x20).toNat) z36).kind), .int .i64 ((x1.cells.getD ((x20).toNat) z36).n), .slice A54 ((x1.cells.getD ((x20).toNat) z36).text).length c55]) (vs := [.int .i64 ((x1.cells.getD ((x20).toNat) z36).kind), .int .i64 ((x1.cells.getD ((x20).toNat) z36).n), .slice A54 ((x1.cells.getD ((x20).toNat) z36).text).length c55]) S61 (by kernel_rfl) (by kernel_rfl) rfl (by kernel_rfl) b60 (Nat.le_of_ble_eq_true rfl) (List.forall_mem_cons.2 ⟨rfl, (List.forall_mem_cons.2 ⟨rfl, (List.forall_mem_cons.2 ⟨rfl, (fun _ h_ => by cases h_)⟩)⟩)⟩) rfl) ?_
      rintro w63 ⟨b64, S65, K66⟩
      replace b12 := K66.blk 0 rfl b12
      clear b60
      refine wpList_nil ?_
      refine then_n ?_
      refine wp_seq ?_
      refine wp_seq ?_
      refine wp_region_lit ?_
      refine lv (d := 33) rfl rfl (by kernel_rfl) (e_fieldAddr (b := g59) (off := 0) (o := 0) Try.underlying36 rfl rfl (sz := 1) (by kernel_rfl) (by decide) (by kernel_rfl)) ?_
      refine lv (d := 34) rfl rfl (by kernel_rfl) (e_load1 (ad := ⟨g59, 0 + 0, none⟩) (v := .int .i64 ((x1.cells.getD ((x20).toNat) z36).kind)) Try.underlying3 rfl (by kernel_rfl) (blk_cell b64 rfl)) ?_
      refine lv (d := 35) rfl rfl (by kernel_rfl) (e_eql (k := .i64) (a := (x1.cells.getD ((x20).toNat) z36).kind) (b := 3) (by kernel_rfl) rfl) ?_
      refine wpList_nil ?_
      refine then_n ?_
      by_cases q67 : ((x1.cells.getD ((x20).toNat) z36).kind) = 3
      · replace M := ifp q67 M
        refine cond_t rfl (bt q67 (by kernel_rfl)) ?_
        refine wp_seq ?_
        refine wp_seq ?_
        refine wp_region_lit ?_
        refine lv (d := 36) rfl rfl (by kernel_rfl) (e_move (v := .int .i64 x19) (by exact e22)) ?_
        refine lv (d := 37) rfl rfl (by kernel_rfl) (e_gtr (k := .i64) (a := x19) (b := 0) (by kernel_rfl) rfl) ?_
        refine lv (d := 38) rfl rfl (by kernel_rfl) (e_move (v := .bool (decide (x19 > 0))) (by kernel_rfl)) ?_
        by_cases q68 : x19 > 0
        · replace M := ifp q68 M
          refine lskip (t := 38) (c := true) rfl (by kernel_rfl) rfl (bt q68 (by kernel_rfl)) rfl rfl ?_
          refine lskip (t := 38) (c := true) rfl (by kernel_rfl) rfl (bt q68 (by kernel_rfl)) rfl rfl ?_
          refine lskip (t := 38) (c := true) rfl (by kernel_rfl) rfl (bt q68 (by kernel_rfl)) rfl rfl ?_
          refine lv (d := 42) rfl rfl (by kernel_rfl) (e_pick_t (v := .bool true) (bt q68 (by kernel_rfl)) rfl) ?_
          refine lv (d := 43) rfl rfl (by kernel_rfl) (e_move (v := .bool true) (by kernel_rfl)) ?_
          refine lskip (t := 43) (c := true) rfl (by kernel_rfl) rfl (by kernel_rfl) rfl rfl ?_
          refine lskip (t := 43) (c := true) rfl (by kernel_rfl) rfl (by kernel_rfl) rfl rfl ?_
          refine lskip (t := 43) (c := true) rfl (by kernel_rfl) rfl (by kernel_rfl) rfl rfl ?_
          refine lv (d := 47) rfl rfl (by kernel_rfl) (e_pick_t (v := .bool true) (by kernel_rfl) rfl) ?_
          refine lv (d := 48) rfl rfl (by kernel_rfl) (e_move (v := .bool true) (by kernel_rfl)) ?_
          refine lskip (t := 48) (c := true) rfl (by kernel_rfl) rfl (by kernel_rfl) rfl rfl ?_
          refine lskip (t := 48) (c := true) rfl (by kernel_rfl) rfl (by kernel_rfl) rfl rfl ?_
          refine lskip (t := 48) (c := true) rfl (by kernel_rfl) rfl (by kernel_rfl) rfl rfl ?_
          refine lskip (t := 48) (c := true) rfl (by kernel_rfl) rfl (by kernel_rfl) rfl rfl ?_
          refine lv (d := 53) rfl rfl (by kernel_rfl) (e_pick_t (v := .bool true) (by kernel_rfl) rfl) ?_
          refine wpList_nil ?_
          refine then_n ?_
          refine cond_t rfl (by kernel_rfl) ?_
          refine wp_seq ?_
          refine wp_region_lit ?_
          refine lv (d := 2) rfl rfl (by kernel_rfl) (e_assign (v := .bool false) rfl) ?_
          refine wpList_nil ?_
          refine then_n ?_
          refine wp_ret ?_
          refine then_r ?_
          refine then_r ?_
          refine inb_r ?_
          refine then_r ?_
          refine then_r ?_
          refine inb_r ?_
          refine then_r ?_
          obtain rfl := Option.some.inj M
          exact ret1 rfl rfl  (show _ = .bool false from (by kernel_rfl)) ⟨rfl, S65.chg⟩
        replace M := ifn q68 M
        refine lvg (d := 39) (t := 38) rfl (by kernel_rfl) rfl (bf q68 (by kernel_rfl)) rfl (by kernel_rfl) (e_fieldAddr (b := g59) (off := 0) (o := 1) Try.underlying36 rfl rfl (sz := 1) (by kernel_rfl) (by decide) (by kernel_rfl)) ?_
        refine lvg (d := 40) (t := 38) rfl (by kernel_rfl) rfl (bf q68 (by kernel_rfl)) rfl (by kernel_rfl) (e_load1 (ad := ⟨g59, 0 + 1, none⟩) (v := .int .i64 ((x1.cells.getD ((x20).toNat) z36).n)) Try.underlying3 rfl (by kernel_rfl) (blk_cell b64 rfl)) ?_
        refine lvg (d := 41) (t := 38) rfl (by kernel_rfl) rfl (bf q68 (by kernel_rfl)) rfl (by kernel_rfl) (e_lss (k := .i64) (a := (x1.cells.getD ((x20).toNat) z36).n) (b := 1) (by kernel_rfl) rfl) ?_
        refine lv (d := 42) rfl rfl (by kernel_rfl) (e_pick_f (v := .bool (decide (((x1.cells.getD ((x20).toNat) z36).n) < 1))) (bf q68 (by kernel_rfl)) (by kernel_rfl)) ?_
        refine lv (d := 43) rfl rfl (by kernel_rfl) (e_move (v := .bool (decide (((x1.cells.getD ((x20).toNat) z36).n) < 1))) (by kernel_rfl)) ?_
        by_cases q69 : ((x1.cells.getD ((x20).toNat) z36).n) < 1
        · replace M := ifp q69 M
          refine lskip (t := 43) (c := true) rfl (by kernel_rfl) rfl (bt q69 (by kernel_rfl)) rfl rfl ?_
          refine lskip (t := 43) (c := true) rfl (by kernel_rfl) rfl (bt q69 (by kernel_rfl)) rfl rfl ?_
          refine lskip (t := 43) (c := true) rfl (by kernel_rfl) rfl (bt q69 (by kernel_rfl)) rfl rfl ?_
          refine lv (d := 47) rfl rfl (by kernel_rfl) (e_pick_t (v := .bool true) (bt q69 (by kernel_rfl)) rfl) ?_
          refine lv (d := 48) rfl rfl (by kernel_rfl) (e_move (v := .bool true) (by kernel_rfl)) ?_
          refine lskip (t := 48) (c := true) rfl (by kernel_rfl) rfl (by kernel_rfl) rfl rfl ?_
          refine lskip (t := 48) (c := true) rfl (by kernel_rfl) rfl (by kernel_rfl) rfl rfl ?_
          refine lskip (t := 48) (c := true) rfl (by kernel_rfl) rfl (by kernel_rfl) rfl rfl ?_
          refine lskip (t := 48) (c := true) rfl (by kernel_rfl) rfl (by kernel_rfl) rfl rfl ?_
          refine lv (d := 53) rfl rfl (by kernel_rfl) (e_pick_t (v := .bool true) (by kernel_rfl) rfl) ?_
          refine wpList_nil ?_
          refine then_n ?_
          refine cond_t rfl (by kernel_rfl) ?_
          refine wp_seq ?_
          refine wp_region_lit ?_
          refine lv (d := 2) rfl rfl (by kernel_rfl) (e_assign (v := .bool false) rfl) ?_
          refine wpList_nil ?_
          refine then_n ?_
          refine wp_ret ?_
          refine then_r ?_
          refine then_r ?_
          refine inb_r ?_
          refine then_r ?_
          refine then_r ?_
          refine inb_r ?_
          refine then_r ?_
          obtain rfl := Option.some.inj M
          exact ret1 rfl rfl  (show _ = .bool false from (by kernel_rfl)) ⟨rfl, S65.chg⟩
        replace M := ifn q69 M
        refine lvg (d := 44) (t := 43) rfl (by kernel_rfl) rfl (bf q69 (by kernel_rfl)) rfl (by kernel_rfl) (e_fieldAddr (b := g59) (off := 0) (o := 1) Try.underlying36 rfl rfl (sz := 1) (by kernel_rfl) (by decide) (by kernel_rfl)) ?_
        refine lvg (d := 45) (t := 43) rfl (by kernel_rfl) rfl (bf q69 (by kernel_rfl)) rfl (by kernel_rfl) (e_load1 (ad := ⟨g59, 0 + 1, none⟩) (v := .int .i64 ((x1.cells.getD ((x20).toNat) z36).n)) Try.underlying3 rfl (by kernel_rfl) (blk_cell b64 rfl)) ?_
        refine lvg (d := 46) (t := 43) rfl (by kernel_rfl) rfl (bf q69 (by kernel_rfl)) rfl (by kernel_rfl) (e_gtr (k := .i64) (a := (x1.cells.getD ((x20).toNat) z36).n) (b := 20) (by kernel_rfl) rfl) ?_
        refine lv (d := 47) rfl rfl (by kernel_rfl) (e_pick_f (v := .bool (decide (((x1.cells.getD ((x20).toNat) z36).n) > 20))) (bf q69 (by kernel_rfl)) (by kernel_rfl)) ?_
        refine lv (d := 48) rfl rfl (by kernel_rfl) (e_move (v := .bool (decide (((x1.cells.getD ((x20).toNat) z36).n) > 20))) (by kernel_rfl)) ?_
        by_cases q70 : ((x1.cells.getD ((x20).toNat) z36).n) > 20
        · replace M := ifp q70 M
          refine lskip (t := 48) (c := true) rfl (by kernel_rfl) rfl (bt q70 (by kernel_rfl)) rfl rfl ?_
          refine lskip (t := 48) (c := true) rfl (by kernel_rfl) rfl (bt q70 (by kernel_rfl)) rfl rfl ?_
          refine lskip (t := 48) (c := true) rfl (by kernel_rfl) rfl (bt q70 (by kernel_rfl)) rfl rfl ?_
          refine lskip (t := 48) (c := true) rfl (by kernel_rfl) rfl (bt q70 (by kernel_rfl)) rfl rfl ?_
          refine lv (d := 53) rfl rfl (by kernel_rfl) (e_pick_t (v := .bool true) (bt q70 (by kernel_rfl)) rfl) ?_
          refine wpList_nil ?_
          refine then_n ?_
          refine cond_t rfl (by kernel_rfl) ?_
          refine wp_seq ?_
          refine wp_region_lit ?_
          refine lv (d := 2) rfl rfl (by kernel_rfl) (e_assign (v := .bool false) rfl) ?_
          refine wpList_nil ?_
          refine then_n ?_
          refine wp_ret ?_
          refine then_r ?_
          refine then_r ?_
          refine inb_r ?_
          refine then_r ?_
          refine then_r ?_
          refine inb_r ?_
          refine then_r ?_
          obtain rfl := Option.some.inj M
          exact ret1 rfl rfl  (show _ = .bool false from (by kernel_rfl)) ⟨rfl, S65.chg⟩
        replace M := ifn q70 M
        refine lvg (d := 49) (t := 48) rfl (by kernel_rfl) rfl (bf q70 (by kernel_rfl)) rfl (by kernel_rfl) (e_fieldAddr (b := g59) (off := 0) (o := 2) Try.underlying36 rfl rfl (sz := 1) (by kernel_rfl) (by decide) (by kernel_rfl)) ?_
        refine lvg (d := 50) (t := 48) rfl (by kernel_rfl) rfl (bf q70 (by kernel_rfl)) rfl (by kernel_rfl) (e_load1 (ad := ⟨g59, 0 + 2, none⟩) (v := .slice A54 ((x1.cells.getD ((x20).toNat) z36).text).length c55) Try.underlying26 rfl (by kernel_rfl) (blk_cell b64 rfl)) ?_
        refine lvg (d := 51) (t := 48) rfl (by kernel_rfl) rfl (bf q70 (by kernel_rfl)) rfl (by kernel_rfl) (e_len (A := A54) (n := ((x1.cells.getD ((x20).toNat) z36).text).length) (c := c55) Try.underlying26 (by kernel_rfl)) ?_
        refine lvg (d := 52) (t := 48) rfl (by kernel_rfl) rfl (bf q70 (by kernel_rfl)) rfl (by kernel_rfl) (e_gtr (k := .i64) (a := (((x1.cells.getD ((x20).toNat) z36).text).length : Int)) (b := 100) (by kernel_rfl) rfl) ?_
        refine lv (d := 53) rfl rfl (by kernel_rfl) (e_pick_f (v := .bool (decide ((((x1.cells.getD ((x20).toNat) z36).text).length : Int) > 100))) (bf q70 (by kernel_rfl)) (by kernel_rfl)) ?_
        refine wpList_nil ?_
        refine then_n ?_
        by_cases q71 : (((x1.cells.getD ((x20).toNat) z36).text).length : Int) > 100
        · replace M := ifp q71 M
          refine cond_t rfl (bt q71 (by kernel_rfl)) ?_
          refine wp_seq ?_
          refine wp_region_lit ?_
          refine lv (d := 2) rfl rfl (by kernel_rfl) (e_assign (v := .bool false) rfl) ?_
          refine wpList_nil ?_
          refine then_n ?_
          refine wp_ret ?_
          refine then_r ?_
          refine then_r ?_
          refine inb_r ?_
          refine then_r ?_
          refine then_r ?_
          refine inb_r ?_
          refine then_r ?_
          obtain rfl := Option.some.inj M
          exact ret1 rfl rfl  (show _ = .bool false from (by kernel_rfl)) ⟨rfl, S65.chg⟩
        replace M := ifn q71 M
        refine cond_f rfl (bf q71 (by kernel_rfl)) ?_
        refine wp_skip ?_
        refine then_n ?_
        refine wp_seq ?_
        refine wp_region_lit ?_
        refine lv (d := 54) rfl rfl (by kernel_rfl) (e_fieldAddr (b := g59) (off := 0) (o := 1) Try.underlying36 rfl rfl (sz := 1) (by kernel_rfl) (by decide) (by kernel_rfl)) ?_
        refine lv (d := 55) rfl rfl (by kernel_rfl) (e_load1 (ad := ⟨g59, 0 + 1, none⟩) (v := .int .i64 ((x1.cells.getD ((x20).toNat) z36).n)) Try.underlying3 rfl (by kernel_rfl) (blk_cell b64 rfl)) ?_
        refine lv (d := 3) rfl rfl (by kernel_rfl) (e_assign (v := .int .i64 ((x1.cells.getD ((x20).toNat) z36).n)) (by kernel_rfl)) ?_
        refine wpList_nil ?_
        refine then_n ?_
        refine wp_exit ?_
        refine then_e ?_
        refine inb_hit ?_
        refine then_n ?_
        have S72 := S65.pull (F := (is g11)) (Fr := [(is g59)]) 1 rfl rfl
        have S73 := St.first (Fa := [(is g11)]) (Fr := [(is g59)]) S72
        exact ⟨k31, (by omega), _, ((x1.cells.getD ((x20).toNat) z36).n), rfl, (by exact e21), (by kernel_rfl), (by exact e23), (by exact e24), (by exact e25), b12, S73, M⟩
      replace M := ifn q67 M
      refine cond_f rfl (bf q67 (by kernel_rfl)) ?_
      refine wp_skip ?_
      refine then_n ?_
      refine wp_seq ?_
      refine wp_seq ?_
      refine wp_region_lit ?_
      refine lv (d := 56) rfl rfl (by kernel_rfl) (e_loadS (b := g11) (off := 0) (cs := [.slice A2 x1.cells.length c3, .slice A6 x1.trail.length c7]) Try.underlying34 rfl (by kernel_rfl) (by exact e21) (blk_cells b12 rfl)) ?_
      refine lv (d := 57) rfl rfl (by kernel_rfl) (e_loadS (b := g59) (off := 0) (cs := [.int .i64 ((x1.cells.getD ((x20).toNat) z36).kind), .int .i64 ((x1.cells.getD ((x20).toNat) z36).n), .slice A54 ((x1.cells.getD ((x20).toNat) z36).text).length c55]) Try.underlying36 rfl (by kernel_rfl) (by kernel_rfl) (blk_cells b64 rfl)) ?_
      obtain ⟨t74, u75, M⟩ := bnd M
      refine lcall (d := 58) rfl rfl (by kernel_rfl) (e_call (l := [.tmp 56, .tmp 57]) (vs := [.agg #[.slice A2 x1.cells.length c3, .slice A6 x1.trail.length c7], .agg #[.int .i64 ((x1.cells.getD ((x20).toNat) z36).kind), .int .i64 ((x1.cells.getD ((x20).toNat) z36).n), .slice A54 ((x1.cells.getD ((x20).toNat) z36).text).length c55]]) Try.func43 (by kernel_rfl) rfl (by kernel_rfl) rfl) (impl_Store_points.calls w63 H x1 A2 c3 A6 c7 (x1.cells.getD ((x20).toNat) z36) A54 c55 h4 l5 h8 l9 h57 l56 S65.own0 t74 u75) ?_
      rintro _ w76 ⟨rfl, C77⟩
      refine ⟨_, rfl, ?_⟩
      obtain ⟨S78, K79⟩ := S65.still C77
      replace b64 := K79.blk 0 rfl b64
      replace b12 := K79.blk 1 rfl b12
      refine lv (d := 59) rfl rfl (by kernel_rfl) (e_notv (c := t74) (by kernel_rfl)) ?_
      refine wpList_nil ?_
      refine then_n ?_
      by_cases q80 : ¬ (t74 = true)
      · replace M := ifp q80 M
        refine cond_t rfl (bt q80 (by kernel_rfl)) ?_
        refine wp_seq ?_
        refine wp_region_lit ?_
        refine lv (d := 2) rfl rfl (by kernel_rfl) (e_assign (v := .bool false) rfl) ?_
        refine wpList_nil ?_
        refine then_n ?_
        refine wp_ret ?_
        refine then_r ?_
        refine inb_r ?_
        refine then_r ?_
        refine then_r ?_
        refine inb_r ?_
        refine then_r ?_
        obtain rfl := Option.some.inj M
        exact ret1 rfl rfl  (show _ = .bool false from (by kernel_rfl)) ⟨rfl, S78.chg⟩
      replace M := ifn q80 M
      refine cond_f rfl (bf q80 (by kernel_rfl)) ?_
      refine wp_skip ?_
      refine then_n ?_
      refine wp_region_lit ?_
      refine lv (d := 60) rfl rfl (by kernel_rfl) (e_move (v := .int .i64 x19) (by exact e22)) ?_
      refine lv (d := 61) rfl rfl (by kernel_rfl) (e_sub (k := .i64) (a := x19) (b := 1) (by kernel_rfl) rfl) ?_
      refine lv (d := 62) rfl rfl (by kernel_rfl) (e_max (k := .i64) (a := 0) (b := (IntKind.i64.wrap (x19 - 1))) rfl (by kernel_rfl)) ?_
      refine lv (d := 3) rfl rfl (by kernel_rfl) (e_assign (v := .int .i64 (if (IntKind.i64.wrap (x19 - 1)) > 0 then (IntKind.i64.wrap (x19 - 1)) else 0)) (by kernel_rfl)) ?_
      refine wpList_nil ?_
      refine inb_n ?_
      refine then_n ?_
      have S81 := S78.pull (F := (is g11)) (Fr := [(is g59)]) 1 rfl rfl
      have S82 := St.first (Fa := [(is g11)]) (Fr := [(is g59)]) S81
      exact ⟨k31, (by omega), _, (if (IntKind.i64.wrap (x19 - 1)) > 0 then (IntKind.i64.wrap (x19 - 1)) else 0), rfl, (by exact e21), (by kernel_rfl), (by exact e23), (by exact e24), (by exact e25), b12, S82, M⟩
    clear M
    rintro a44 w33 ⟨k46, z83, f34, x35, rfl, e36, e37, e38, e39, e40, b12, S41, M⟩
    rcases k46 with _ | k45
    · rw [impl_Store_ok.l1] at M
      cases M
    rw [impl_Store_ok.l1] at M
    refine wp_region_lit ?_
    refine lv (d := 63) rfl rfl (by kernel_rfl) (e_add (k := .i64) (a := x20) (b := 1) (by exact e40) rfl) ?_
    refine lv (d := 29) rfl rfl (by kernel_rfl) (e_move (v := .int .i64 (IntKind.i64.wrap (x20 + 1))) (by kernel_rfl)) ?_
    refine wpList_nil ?_
    refine then_n ?_
    exact ⟨k45, (by omega), _, x35, (IntKind.i64.wrap (x20 + 1)), rfl, (by exact e36), (by exact e37), (by exact e38), (by exact e39), (by kernel_rfl), b12, S41, M⟩
  replace M := ifn q32 M
  refine cond_f rfl (bf q32 (by kernel_rfl)) ?_
  refine wp_exit ?_
  refine then_e ?_
  refine then_e ?_
  refine inb_hit ?_
  refine then_n ?_
  refine wp_seq ?_
  refine wp_seq ?_
  refine wp_region_lit ?_
  refine lv (d := 64) rfl rfl (by kernel_rfl) (e_move (v := .int .i64 x19) (by exact e22)) ?_
  refine lv (d := 65) rfl rfl (by kernel_rfl) (e_gtr (k := .i64) (a := x19) (b := 0) (by kernel_rfl) rfl) ?_
  refine wpList_nil ?_
  refine then_n ?_
  by_cases q84 : x19 > 0
  · replace M := ifp q84 M
    refine cond_t rfl (bt q84 (by kernel_rfl)) ?_
    refine wp_seq ?_
    refine wp_region_lit ?_
    refine lv (d := 2) rfl rfl (by kernel_rfl) (e_assign (v := .bool false) rfl) ?_
    refine wpList_nil ?_
    refine then_n ?_
    refine wp_ret ?_
    refine then_r ?_
    obtain rfl := Option.some.inj M
    exact ret1 rfl rfl  (show _ = .bool false from (by kernel_rfl)) ⟨rfl, S26.chg⟩
  replace M := ifn q84 M
  refine cond_f rfl (bf q84 (by kernel_rfl)) ?_
  refine wp_skip ?_
  refine then_n ?_
  refine wp_seq ?_
  refine wp_seq ?_
  refine wp_region_lit ?_
  refine lv (d := 66) rfl rfl (by kernel_rfl) (e_fieldAddr (b := g11) (off := 0) (o := 1) Try.underlying34 rfl rfl (sz := 1) (by kernel_rfl) (by decide) (by exact e21)) ?_
  refine lv (d := 67) rfl rfl (by kernel_rfl) (e_load1 (ad := ⟨g11, 0 + 1, none⟩) (v := .slice A6 x1.trail.length c7) Try.underlying23 rfl (by kernel_rfl) (blk_cell b12 rfl)) ?_
  refine lv (d := 68) rfl rfl (by kernel_rfl) (e_len (A := A6) (n := x1.trail.length) (c := c7) Try.underlying23 (by kernel_rfl)) ?_
  refine lv (d := 69) rfl rfl (by kernel_rfl) (e_move (v := .int .i64 0) rfl) ?_
  refine wpList_nil ?_
  refine then_n ?_
  refine wp_block ?_
  refine wp_loop_g (fun k95 a96 w85 => ∃ (f86 : Nat → Value) (x87 : Int), k95 ≤ k31 ∧ a96 = mk 179 f86 ∧ f86 1 = .pointer (some ⟨g11, 0, none⟩) ∧ f86 67 = .slice A6 x1.trail.length c7 ∧ f86 68 = .int .i64 (x1.trail.length : Int) ∧ f86 69 = .int .i64 x87 ∧ w85.heap[g11]? = some (.cells #[.slice A2 x1.cells.length c3, .slice A6 x1.trail.length c7] 34 (0, 0)) ∧ St (anyOf []) H w [(is g11)] H w85 ∧ impl_Store_ok.l2 k95 x1 x87 = some r) k31 ⟨_, 0, (by omega), rfl, (by exact e21), (by kernel_rfl), (by kernel_rfl), (by kernel_rfl), b12, S26, M⟩ ?_
  clear M
  rintro k95 a96 w85 ⟨f86, x87, z94, rfl, e88, e89, e90, e91, b12, S92, M⟩
  rcases k95 with _ | k97
  · rw [impl_Store_ok.l2] at M
    cases M
  rw [impl_Store_ok.l2] at M
  refine wp_seq ?_
  refine wp_region_lit ?_
  refine lv (d := 70) rfl rfl (by kernel_rfl) (e_lss (k := .i64) (a := x87) (b := (x1.trail.length : Int)) (by exact e91) (by exact e90)) ?_
  refine wpList_nil ?_
  refine then_n ?_
  refine wp_seq ?_
  by_cases q98 : x87 < (x1.trail.length : Int)
  · replace M := ifp q98 M
    refine cond_t rfl (bt q98 (by kernel_rfl)) ?_
    refine wp_skip ?_
    refine then_n ?_
    refine wp_seq ?_
    refine wp_block ?_
    refine wp_seq ?_
    refine wp_region_lit ?_
    obtain ⟨q99, M⟩ := chk M
    obtain ⟨b100, o101, e102⟩ := Rd.addr h8 (show (x87).toNat < x1.trail.length by omega)
    obtain ⟨y103, r104, k105⟩ := Rd.at h8 e102 (getD_some (0 : Int) (show (x87).toNat < x1.trail.length by omega))
    obtain rfl := r104
    refine lv (d := 71) rfl rfl (by kernel_rfl) (e_indexAddr (b := b100) (off := o101) (n := x1.trail.length) (c := c7) (sz := 1) (i := x87) (k := .i64) Try.underlying23 e102 (by kernel_rfl) (by exact e89) (by exact e91) q99 q98) ?_
    refine lv (d := 72) rfl rfl (by kernel_rfl) (e_load1 (ad := ⟨b100, o101 + (x87 : Int).toNat * 1, none⟩) (v := .int .i64 (x1.trail.getD ((x87).toNat) (0 : Int))) Try.underlying3 rfl (by kernel_rfl) (hpx (S92.inv.cell (k105 0 _ rfl)))) ?_
    refine lv (d := 7) rfl rfl (by kernel_rfl) (e_assign (v := .int .i64 (x1.trail.getD ((x87).toNat) (0 : Int))) (by kernel_rfl)) ?_
    refine wpList_nil ?_
    refine then_n ?_
    refine wp_seq ?_
    refine wp_region_lit ?_
    refine lv (d := 73) rfl rfl (by kernel_rfl) (e_move (v := .int .i64 (x1.trail.getD ((x87).toNat) (0 : Int))) (by kernel_rfl)) ?_
    refine lv (d := 74) rfl rfl (by kernel_rfl) (e_lss (k := .i64) (a := (x1.trail.getD ((x87).toNat) (0 : Int))) (b := 0) (by kernel_rfl) rfl) ?_
    refine lv (d := 75) rfl rfl (by kernel_rfl) (e_move (v := .bool (decide ((x1.trail.getD ((x87).toNat) (0 : Int)) < 0))) (by kernel_rfl)) ?_
    by_cases q106 : (x1.trail.getD ((x87).toNat) (0 : Int)) < 0
    · replace M := ifp q106 M
      refine lskip (t := 75) (c := true) rfl (by kernel_rfl) rfl (bt q106 (by kernel_rfl)) rfl rfl ?_
      refine lskip (t := 75) (c := true) rfl (by kernel_rfl) rfl (bt q106 (by kernel_rfl)) rfl rfl ?_
      refine lskip (t := 75) (c := true) rfl (by kernel_rfl) rfl (bt q106 (by kernel_rfl)) rfl rfl ?_
      refine lskip (t := 75) (c := true) rfl (by kernel_rfl) rfl (bt q106 (by kernel_rfl)) rfl rfl ?_
      refine lskip (t := 75) (c := true) rfl (by kernel_rfl) rfl (bt q106 (by kernel_rfl)) rfl rfl ?_
      refine lv (d := 81) rfl rfl (by kernel_rfl) (e_pick_t (v := .bool true) (bt q106 (by kernel_rfl)) rfl) ?_
      refine lv (d := 82) rfl rfl (by kernel_rfl) (e_move (v := .bool true) (by kernel_rfl)) ?_
      refine lskip (t := 82) (c := true) rfl (by kernel_rfl) rfl (by kernel_rfl) rfl rfl ?_
      refine lskip (t := 82) (c := true) rfl (by kernel_rfl) rfl (by kernel_rfl) rfl rfl ?_
      refine lskip (t := 82) (c := true) rfl (by kernel_rfl) rfl (by kernel_rfl) rfl rfl ?_
      refine lskip (t := 82) (c := true) rfl (by kernel_rfl) rfl (by kernel_rfl) rfl rfl ?_
      refine lskip (t := 82) (c := true) rfl (by kernel_rfl) rfl (by kernel_rfl) rfl rfl ?_
      refine lskip (t := 82) (c := true) rfl (by kernel_rfl) rfl (by kernel_rfl) rfl rfl ?_
      refine lskip (t := 82) (c := true) rfl (by kernel_rfl) rfl (by kernel_rfl) rfl rfl ?_
      refine lv (d := 90) rfl rfl (by kernel_rfl) (e_pick_t (v := .bool true) (by kernel_rfl) rfl) ?_
      refine wpList_nil ?_
      refine then_n ?_
      refine cond_t rfl (by kernel_rfl) ?_
      refine wp_seq ?_
      refine wp_region_lit ?_
      refine lv (d := 2) rfl rfl (by kernel_rfl) (e_assign (v := .bool false) rfl) ?_
      refine wpList_nil ?_
      refine then_n ?_
      refine wp_ret ?_
      refine inb_r ?_
      refine then_r ?_
      refine then_r ?_
      refine inb_r ?_
      refine then_r ?_
      obtain rfl := Option.some.inj M
      exact ret1 rfl rfl  (show _ = .bool false from (by kernel_rfl)) ⟨rfl, S92.chg⟩
    replace M := ifn q106 M
    refine lvg (d := 76) (t := 75) rfl (by kernel_rfl) rfl (bf q106 (by kernel_rfl)) rfl (by kernel_rfl) (e_move (v := .int .i64 (x1.trail.getD ((x87).toNat) (0 : Int))) (by kernel_rfl)) ?_
    refine lvg (d := 77) (t := 75) rfl (by kernel_rfl) rfl (bf q106 (by kernel_rfl)) rfl (by kernel_rfl) (e_fieldAddr (b := g11) (off := 0) (o := 0) Try.underlying34 rfl rfl (sz := 1) (by kernel_rfl) (by decide) (by exact e88)) ?_
    refine lvg (d := 78) (t := 75) rfl (by kernel_rfl) rfl (bf q106 (by kernel_rfl)) rfl (by kernel_rfl) (e_load1 (ad := ⟨g11, 0 + 0, none⟩) (v := .slice A2 x1.cells.length c3) Try.underlying32 rfl (by kernel_rfl) (blk_cell b12 rfl)) ?_
    refine lvg (d := 79) (t := 75) rfl (by kernel_rfl) rfl (bf q106 (by kernel_rfl)) rfl (by kernel_rfl) (e_len (A := A2) (n := x1.cells.length) (c := c3) Try.underlying32 (by kernel_rfl)) ?_
    refine lvg (d := 80) (t := 75) rfl (by kernel_rfl) rfl (bf q106 (by kernel_rfl)) rfl (by kernel_rfl) (e_geq (k := .i64) (a := (x1.trail.getD ((x87).toNat) (0 : Int))) (b := (x1.cells.length : Int)) (by kernel_rfl) (by kernel_rfl)) ?_
    refine lv (d := 81) rfl rfl (by kernel_rfl) (e_pick_f (v := .bool (decide ((x1.trail.getD ((x87).toNat) (0 : Int)) ≥ (x1.cells.length : Int)))) (bf q106 (by kernel_rfl)) (by kernel_rfl)) ?_
    refine lv (d := 82) rfl rfl (by kernel_rfl) (e_move (v := .bool (decide ((x1.trail.getD ((x87).toNat) (0 : Int)) ≥ (x1.cells.length : Int)))) (by kernel_rfl)) ?_
    by_cases q107 : (x1.trail.getD ((x87).toNat) (0 : Int)) ≥ (x1.cells.length : Int)
    · replace M := ifp q107 M
      refine lskip (t := 82) (c := true) rfl (by kernel_rfl) rfl (bt q107 (by kernel_rfl)) rfl rfl ?_
      refine lskip (t := 82) (c := true) rfl (by kernel_rfl) rfl (bt q107 (by kernel_rfl)) rfl rfl ?_
      refine lskip (t := 82) (c := true) rfl (by kernel_rfl) rfl (bt q107 (by kernel_rfl)) rfl rfl ?_
      refine lskip (t := 82) (c := true) rfl (by kernel_rfl) rfl (bt q107 (by kernel_rfl)) rfl rfl ?_
      refine lskip (t := 82) (c := true) rfl (by kernel_rfl) rfl (bt q107 (by kernel_rfl)) rfl rfl ?_
      refine lskip (t := 82) (c := true) rfl (by kernel_rfl) rfl (bt q107 (by kernel_rfl)) rfl rfl ?_
      refine lskip (t := 82) (c := true) rfl (by kernel_rfl) rfl (bt q107 (by kernel_rfl)) rfl rfl ?_
      refine lv (d := 90) rfl rfl (by kernel_rfl) (e_pick_t (v := .bool true) (bt q107 (by kernel_rfl)) rfl) ?_
      refine wpList_nil ?_
      refine then_n ?_
      refine cond_t rfl (by kernel_rfl) ?_
      refine wp_seq ?_
      refine wp_region_lit ?_
      refine lv (d := 2) rfl rfl (by kernel_rfl) (e_assign (v := .bool false) rfl) ?_
      refine wpList_nil ?_
      refine then_n ?_
      refine wp_ret ?_
      refine inb_r ?_
      refine then_r ?_
      refine then_r ?_
      refine inb_r ?_
      refine then_r ?_
      obtain rfl := Option.some.inj M
      exact ret1 rfl rfl  (show _ = .bool false from (by kernel_rfl)) ⟨rfl, S92.chg⟩
    replace M := ifn q107 M
    refine lvg (d := 83) (t := 82) rfl (by kernel_rfl) rfl (bf q107 (by kernel_rfl)) rfl (by kernel_rfl) (e_fieldAddr (b := g11) (off := 0) (o := 0) Try.underlying34 rfl rfl (sz := 1) (by kernel_rfl) (by decide) (by exact e88)) ?_
    refine lvg (d := 84) (t := 82) rfl (by kernel_rfl) rfl (bf q107 (by kernel_rfl)) rfl (by kernel_rfl) (e_load1 (ad := ⟨g11, 0 + 0, none⟩) (v := .slice A2 x1.cells.length c3) Try.underlying32 rfl (by kernel_rfl) (blk_cell b12 rfl)) ?_
    refine lvg (d := 85) (t := 82) rfl (by kernel_rfl) rfl (bf q107 (by kernel_rfl)) rfl (by kernel_rfl) (e_move (v := .int .i64 (x1.trail.getD ((x87).toNat) (0 : Int))) (by kernel_rfl)) ?_
    obtain ⟨q108, M⟩ := chk M
    obtain ⟨q109, M⟩ := chk M
    obtain ⟨b110, o111, e112⟩ := Rd.addr h4 (show ((x1.trail.getD ((x87).toNat) (0 : Int))).toNat < x1.cells.length by omega)
    obtain ⟨y113, r114, k115⟩ := Rd.at h4 e112 (getD_some z36 (show ((x1.trail.getD ((x87).toNat) (0 : Int))).toNat < x1.cells.length by omega))
    obtain ⟨A116, c117, rfl, l118, h119⟩ := st36_open r114
    refine lvg (d := 86) (t := 82) rfl (by kernel_rfl) rfl (bf q107 (by kernel_rfl)) rfl (by kernel_rfl) (e_indexAddr (b := b110) (off := o111) (n := x1.cells.length) (c := c3) (sz := 3) (i := (x1.trail.getD ((x87).toNat) (0 : Int))) (k := .i64) Try.underlying32 e112 (by kernel_rfl) (by kernel_rfl) (by kernel_rfl) q108 q109) ?_
    refine lvg (d := 87) (t := 82) rfl (by kernel_rfl) rfl (bf q107 (by kernel_rfl)) rfl (by kernel_rfl) (e_fieldAddr (b := b110) (off := o111 + ((x1.trail.getD ((x87).toNat) (0 : Int)) : Int).toNat * 3) (o := 0) Try.underlying36 rfl rfl (sz := 1) (by kernel_rfl) (by decide) (by kernel_rfl)) ?_
    refine lvg (d := 88) (t := 82) rfl (by kernel_rfl) rfl (bf q107 (by kernel_rfl)) rfl (by kernel_rfl) (e_load1 (ad := ⟨b110, o111 + ((x1.trail.getD ((x87).toNat) (0 : Int)) : Int).toNat * 3 + 0, none⟩) (v := .int .i64 ((x1.cells.getD (((x1.trail.getD ((x87).toNat) (0 : Int))).toNat) z36).kind)) Try.underlying3 rfl (by kernel_rfl) (hpx (S92.inv.cell (k115 0 _ rfl)))) ?_
    refine lvg (d := 89) (t := 82) rfl (by kernel_rfl) rfl (bf q107 (by kernel_rfl)) rfl (by kernel_rfl) (e_eql (k := .i64) (a := (x1.cells.getD (((x1.trail.getD ((x87).toNat) (0 : Int))).toNat) z36).kind) (b := 3) (by kernel_rfl) rfl) ?_
    refine lv (d := 90) rfl rfl (by kernel_rfl) (e_pick_f (v := .bool (decide (((x1.cells.getD (((x1.trail.getD ((x87).toNat) (0 : Int))).toNat) z36).kind) = 3))) (bf q107 (by kernel_rfl)) (by kernel_rfl)) ?_
    refine wpList_nil ?_
    refine then_n ?_
    by_cases q120 : ((x1.cells.getD (((x1.trail.getD ((x87).toNat) (0 : Int))).toNat) z36).kind) = 3
    · replace M := ifp q120 M
      refine cond_t rfl (bt q120 (by kernel_rfl)) ?_
      refine wp_seq ?_
      refine wp_region_lit ?_
      refine lv (d := 2) rfl rfl (by kernel_rfl) (e_assign (v := .bool false) rfl) ?_
      refine wpList_nil ?_
      refine then_n ?_
      refine wp_ret ?_
      refine inb_r ?_
      refine then_r ?_
      refine then_r ?_
      refine inb_r ?_
      refine then_r ?_
      obtain rfl := Option.some.inj M
      exact ret1 rfl rfl  (show _ = .bool false from (by kernel_rfl)) ⟨rfl, S92.chg⟩
    replace M := ifn q120 M
    refine cond_f rfl (bf q120 (by kernel_rfl)) ?_
    refine wp_skip ?_
    refine inb_n ?_
    refine then_n ?_
    refine wp_region_lit ?_
    refine lv (d := 91) rfl rfl (by kernel_rfl) (e_add (k := .i64) (a := x87) (b := 1) (by exact e91) rfl) ?_
    refine lv (d := 69) rfl rfl (by kernel_rfl) (e_move (v := .int .i64 (IntKind.i64.wrap (x87 + 1))) (by kernel_rfl)) ?_
    refine wpList_nil ?_
    refine then_n ?_
    exact ⟨k97, (by omega), _, (IntKind.i64.wrap (x87 + 1)), (by omega), rfl, (by exact e88), (by exact e89), (by exact e90), (by kernel_rfl), b12, S92, M⟩
  replace M := ifn q98 M
  refine cond_f rfl (bf q98 (by kernel_rfl)) ?_
  refine wp_exit ?_
  refine then_e ?_
  refine then_e ?_
  refine inb_hit ?_
  refine then_n ?_
  refine wp_seq ?_
  refine wp_region_lit ?_
  refine lv (d := 92) rfl rfl (by kernel_rfl) (e_fieldAddr (b := g11) (off := 0) (o := 0) Try.underlying34 rfl rfl (sz := 1) (by kernel_rfl) (by decide) (by exact e88)) ?_
  refine lv (d := 93) rfl rfl (by kernel_rfl) (e_load1 (ad := ⟨g11, 0 + 0, none⟩) (v := .slice A2 x1.cells.length c3) Try.underlying32 rfl (by kernel_rfl) (blk_cell b12 rfl)) ?_
  refine lv (d := 94) rfl rfl (by kernel_rfl) (e_len (A := A2) (n := x1.cells.length) (c := c3) Try.underlying32 (by kernel_rfl)) ?_
  obtain ⟨q121, M⟩ := chk M
  obtain ⟨q122, M⟩ := chk M
  refine lve (d := 95) rfl rfl (by kernel_rfl) (e_make (d := tByte) (k := .i64) (k2 := .i64) (n := (x1.cells.length : Int)) (z := .int .u8 0) (zx := (0 : UInt8)) (bytes := 1) S92 Try.underlying26 (by kernel_rfl) rfl (by decide) (fun _ => rfl) (by kernel_rfl) (by kernel_rfl) q121 (by omega) (by omega)) ?_
  rintro _ w123 ⟨A124, c125, F126, rfl, h127, S128, K129⟩
  replace b12 := K129.blk 0 rfl b12
  refine lv (d := 8) rfl rfl (by kernel_rfl) (e_assign (v := .slice A124 (((x1.cells.length : Int)).toNat) c125) (by kernel_rfl)) ?_
  refine wpList_nil ?_
  refine then_n ?_
  refine wp_seq ?_
  refine wp_region_lit ?_
  refine lv (d := 96) rfl rfl (by kernel_rfl) (e_makeFunc (cs := [.tmp 1]) (vs := [.pointer (some ⟨g11, 0, none⟩)]) (map_c (by exact e88) rfl)) ?_
  refine lv (d := 9) rfl rfl (by kernel_rfl) (e_assign (v := .func (.func 66) #[] #[.pointer (some ⟨g11, 0, none⟩)]) (by kernel_rfl)) ?_
  refine wpList_nil ?_
  refine then_n ?_
  refine wp_seq ?_
  refine wp_seq ?_
  refine wp_region_lit ?_
  refine lv (d := 97) rfl rfl (by kernel_rfl) (e_fieldAddr (b := g11) (off := 0) (o := 0) Try.underlying34 rfl rfl (sz := 1) (by kernel_rfl) (by decide) (by exact e88)) ?_
  refine lv (d := 98) rfl rfl (by kernel_rfl) (e_load1 (ad := ⟨g11, 0 + 0, none⟩) (v := .slice A2 x1.cells.length c3) Try.underlying32 rfl (by kernel_rfl) (blk_cell b12 rfl)) ?_
  refine lv (d := 99) rfl rfl (by kernel_rfl) (e_len (A := A2) (n := x1.cells.length) (c := c3) Try.underlying32 (by kernel_rfl)) ?_
  refine lv (d := 100) rfl rfl (by kernel_rfl) (e_move (v := .int .i64 0) rfl) ?_
  refine wpList_nil ?_
  refine then_n ?_
  refine wp_block ?_
  refine wp_loop_g (fun k144 a145 w130 => ∃ (f131 : Nat → Value) (x132 : Int) (F133 : Foot) (x134 : List UInt8), k144 ≤ k97 ∧ a145 = mk 179 f131 ∧ f131 8 = .slice A124 (((x1.cells.length : Int)).toNat) c125 ∧ f131 9 = .func (.func 66) #[] #[.pointer (some ⟨g11, 0, none⟩)] ∧ f131 98 = .slice A2 x1.cells.length c3 ∧ f131 99 = .int .i64 (x1.cells.length : Int) ∧ f131 100 = .int .i64 x132 ∧ Row tByte 5 H (hp w130) F133 A124 c125 x134 ∧ w130.heap[g11]? = some (.cells #[.slice A2 x1.cells.length c3, .slice A6 x1.trail.length c7] 34 (0, 0)) ∧ x134.length = ((x1.cells.length : Int)).toNat ∧ St (anyOf []) H w [F133, (is g11)] H w130 ∧ impl_Store_ok.l3 k144 x1 x132 x134 = some r) k97 ⟨_, 0, F126, (List.replicate ((x1.cells.length : Int)).toNat (0 : UInt8)), (by omega), rfl, (by kernel_rfl), (by kernel_rfl), (by kernel_rfl), (by kernel_rfl), (by kernel_rfl), h127, b12, List.length_replicate, S128, M⟩ ?_
  clear M
  rintro k144 a145 w130 ⟨f131, x132, F133, x134, z143, rfl, e136, e137, e138, e139, e140, h127, b12, n135, S141, M⟩
  rcases k144 with _ | k146
  · rw [impl_Store_ok.l3] at M
    cases M
  rw [impl_Store_ok.l3] at M
  refine wp_seq ?_
  refine wp_region_lit ?_
  refine lv (d := 101) rfl rfl (by kernel_rfl) (e_lss (k := .i64) (a := x132) (b := (x1.cells.length : Int)) (by exact e140) (by exact e139)) ?_
  refine wpList_nil ?_
  refine then_n ?_
  refine wp_seq ?_
  by_cases q147 : x132 < (x1.cells.length : Int)
  · replace M := ifp q147 M
    refine cond_t rfl (bt q147 (by kernel_rfl)) ?_
    refine wp_skip ?_
    refine then_n ?_
    refine wp_seq ?_
    refine wp_block ?_
    refine wp_seq ?_
    refine wp_region_lit ?_
    refine lv (d := 102) rfl rfl (by kernel_rfl) (e_move (v := .int .i64 x132) (by exact e140)) ?_
    obtain ⟨q148, M⟩ := chk M
    obtain ⟨b149, o150, e151⟩ := Rd.addr h4 (show (x132).toNat < x1.cells.length by omega)
    obtain ⟨y152, r153, k154⟩ := Rd.at h4 e151 (getD_some z36 (show (x132).toNat < x1.cells.length by omega))
    obtain ⟨A155, c156, rfl, l157, h158⟩ := st36_open r153
    refine lv (d := 103) rfl rfl (by kernel_rfl) (e_indexAddr (b := b149) (off := o150) (n := x1.cells.length) (c := c3) (sz := 3) (i := x132) (k := .i64) Try.underlying32 e151 (by kernel_rfl) (by exact e138) (by exact e140) q148 q147) ?_
    refine lv (d := 104) rfl rfl (by kernel_rfl) (e_loadS (b := b149) (off := o150 + (x132 : Int).toNat * 3) (cs := [.int .i64 ((x1.cells.getD ((x132).toNat) z36).kind), .int .i64 ((x1.cells.getD ((x132).toNat) z36).n), .slice A155 ((x1.cells.getD ((x132).toNat) z36).text).length c156]) Try.underlying36 rfl (by kernel_rfl) (by kernel_rfl) (fun j_ u_ e_ => (hpx (S141.inv.cell (k154 j_ u_ e_))))) ?_
    refine lve (d := 11) rfl rfl (by kernel_rfl) (new_blk (v := fun g_ => .pointer (some ⟨g_, 0, none⟩)) (cs := #[.int .i64 0, .int .i64 0, .slice none 0 0]) (t := 36) S141 (by kernel_rfl)) ?_
    rintro _ w159 ⟨g160, rfl, b161, S162, K163⟩
    replace h127 := h127.move (K163.at 0 rfl)
    replace b12 := K163.blk 1 rfl b12
    refine lv (d := 10) rfl rfl (by kernel_rfl) (e_assign (v := .int .i64 x132) (by kernel_rfl)) ?_
    refine lse rfl rfl (by kernel_rfl) (e_store (g := g160) (o := 0) (v := .agg #[.int .i64 ((x1.cells.getD ((x132).toNat) z36).kind), .int .i64 ((x1.cells.getD ((x132).toNat) z36).n), .slice A155 ((x1.cells.getD ((x132).toNat) z36).text).length c156]) (cur' := #[.int .i64 ((x1.cells.getD ((x132).toNat) z36).kind), .int .i64 ((x1.cells.getD ((x132).toNat) z36).n), .slice A155 ((x1.cells.getD ((x132).toNat) z36).text).length c156]) (vs := [.int .i64 ((x1.cells.getD ((x132).toNat) z36).kind), .int .i64 ((x1.cells.getD ((x132).toNat) z36).n), .slice A155 ((x1.cells.getD ((x132).toNat) z36).text).length c156]) S162 (by kernel_rfl) (by kernel_rfl) rfl (by kernel_rfl) b161 (Nat.le_of_ble_eq_true rfl) (List.forall_mem_cons.2 ⟨rfl, (List.forall_mem_cons.2 ⟨rfl, (List.forall_mem_cons.2 ⟨rfl, (fun _ h_ => by cases h_)⟩)⟩)⟩) rfl) ?_
    rintro w164 ⟨b165, S166, K167⟩
    replace h127 := h127.move (K167.at 0 rfl)
    replace b12 := K167.blk 1 rfl b12
    clear b161
    refine wpList_nil ?_
    refine then_n ?_
    refine wp_seq ?_
    refine wp_seq ?_
    refine wp_region_lit ?_
    refine lv (d := 105) rfl rfl (by kernel_rfl) (e_fieldAddr (b := g160) (off := 0) (o := 0) Try.underlying36 rfl rfl (sz := 1) (by kernel_rfl) (by decide) (by kernel_rfl)) ?_
    refine lv (d := 106) rfl rfl (by kernel_rfl) (e_load1 (ad := ⟨g160, 0 + 0, none⟩) (v := .int .i64 ((x1.cells.getD ((x132).toNat) z36).kind)) Try.underlying3 rfl (by kernel_rfl) (blk_cell b165 rfl)) ?_
    refine lv (d := 107) rfl rfl (by kernel_rfl) (e_eql (k := .i64) (a := (x1.cells.getD ((x132).toNat) z36).kind) (b := 3) (by kernel_rfl) rfl) ?_
    refine lv (d := 108) rfl rfl (by kernel_rfl) (e_move (v := .bool (decide (((x1.cells.getD ((x132).toNat) z36).kind) = 3))) (by kernel_rfl)) ?_
    by_cases q168 : ((x1.cells.getD ((x132).toNat) z36).kind) = 3
    · replace M := ifp q168 M
      refine lskip (t := 108) (c := true) rfl (by kernel_rfl) rfl (bt q168 (by kernel_rfl)) rfl rfl ?_
      refine lskip (t := 108) (c := true) rfl (by kernel_rfl) rfl (bt q168 (by kernel_rfl)) rfl rfl ?_
      refine lskip (t := 108) (c := true) rfl (by kernel_rfl) rfl (bt q168 (by kernel_rfl)) rfl rfl ?_
      refine lskip (t := 108) (c := true) rfl (by kernel_rfl) rfl (bt q168 (by kernel_rfl)) rfl rfl ?_
      refine lskip (t := 108) (c := true) rfl (by kernel_rfl) rfl (bt q168 (by kernel_rfl)) rfl rfl ?_
      refine lv (d := 114) rfl rfl (by kernel_rfl) (e_pick_t (v := .bool true) (bt q168 (by kernel_rfl)) rfl) ?_
      refine wpList_nil ?_
      refine then_n ?_
      refine cond_t rfl (by kernel_rfl) ?_
      refine wp_exit ?_
      refine then_e ?_
      refine inb_hit ?_
      refine then_n ?_
      refine wp_region_lit ?_
      refine lv (d := 178) rfl rfl (by kernel_rfl) (e_add (k := .i64) (a := x132) (b := 1) (by exact e140) rfl) ?_
      refine lv (d := 100) rfl rfl (by kernel_rfl) (e_move (v := .int .i64 (IntKind.i64.wrap (x132 + 1))) (by kernel_rfl)) ?_
      refine wpList_nil ?_
      refine then_n ?_
      have S169 := S166.pull (F := (is g11)) (Fr := [(is g160), F133]) 2 rfl rfl
      have S170 := S169.pull (F := F133) (Fr := [(is g11), (is g160)]) 2 rfl rfl
      have S171 := St.first (Fa := [F133, (is g11)]) (Fr := [(is g160)]) S170
      exact ⟨k146, (by omega), _, (IntKind.i64.wrap (x132 + 1)), F133, x134, (by omega), rfl, (by exact e136), (by exact e137), (by exact e138), (by exact e139), (by kernel_rfl), h127, b12, n135, S171, M⟩
    replace M := ifn q168 M
    refine lvg (d := 109) (t := 108) rfl (by kernel_rfl) rfl (bf q168 (by kernel_rfl)) rfl (by kernel_rfl) (e_move (v := .slice A124 (((x1.cells.length : Int)).toNat) c125) (by exact e136)) ?_
    refine lvg (d := 110) (t := 108) rfl (by kernel_rfl) rfl (bf q168 (by kernel_rfl)) rfl (by kernel_rfl) (e_move (v := .int .i64 x132) (by kernel_rfl)) ?_
    obtain ⟨q172, M⟩ := chk M
    obtain ⟨b173, e175⟩ := Row.addr h127 (show (x132).toNat < x134.length by have : x134.length = ((x1.cells.length : Int)).toNat := n135; omega)
    refine lvg (d := 111) (t := 108) rfl (by kernel_rfl) rfl (bf q168 (by kernel_rfl)) rfl (by kernel_rfl) (e_indexAddr (b := b173) (off := 0) (n := ((x1.cells.length : Int)).toNat) (c := c125) (sz := 1) (i := x132) (k := .i64) Try.underlying26 e175 (by kernel_rfl) (by kernel_rfl) (by kernel_rfl) q148 q172) ?_
    refine lvg (d := 112) (t := 108) rfl (by kernel_rfl) rfl (bf q168 (by kernel_rfl)) rfl (by kernel_rfl) (e_load1 (ad := ⟨b173, 0 + (x132 : Int).toNat * 1, none⟩) (v := .int .u8 ((x134.getD ((x132).toNat) (0 : UInt8)).toNat : Int)) Try.underlying5 rfl (by kernel_rfl) (hpx (Row.pick (j := 0) (u := .int .u8 ((x134.getD ((x132).toNat) (0 : UInt8)).toNat : Int)) h127 e175 (getD_some (0 : UInt8) (show (x132).toNat < x134.length by have : x134.length = ((x1.cells.length : Int)).toNat := n135; omega)) (fun _ _ o_ => by rw [show _ = _ from o_]; rfl)))) ?_
    refine lvg (d := 113) (t := 108) rfl (by kernel_rfl) rfl (bf q168 (by kernel_rfl)) rfl (by kernel_rfl) (e_neq (k := .u8) (a := ((x134.getD ((x132).toNat) (0 : UInt8)).toNat : Int)) (b := 0) (by kernel_rfl) rfl) ?_
    refine lv (d := 114) rfl rfl (by kernel_rfl) (e_pick_f (v := .bool (decide (((x134.getD ((x132).toNat) (0 : UInt8)).toNat : Int) ≠ 0))) (bf q168 (by kernel_rfl)) (by kernel_rfl)) ?_
    refine wpList_nil ?_
    refine then_n ?_
    by_cases q176 : ((x134.getD ((x132).toNat) (0 : UInt8)).toNat : Int) ≠ 0
    · replace M := ifp q176 M
      refine cond_t rfl (bt q176 (by kernel_rfl)) ?_
      refine wp_exit ?_
      refine then_e ?_
      refine inb_hit ?_
      refine then_n ?_
      refine wp_region_lit ?_
      refine lv (d := 178) rfl rfl (by kernel_rfl) (e_add (k := .i64) (a := x132) (b := 1) (by exact e140) rfl) ?_
      refine lv (d := 100) rfl rfl (by kernel_rfl) (e_move (v := .int .i64 (IntKind.i64.wrap (x132 + 1))) (by kernel_rfl)) ?_
      refine wpList_nil ?_
      refine then_n ?_
      have S177 := S166.pull (F := (is g11)) (Fr := [(is g160), F133]) 2 rfl rfl
      have S178 := S177.pull (F := F133) (Fr := [(is g11), (is g160)]) 2 rfl rfl
      have S179 := St.first (Fa := [F133, (is g11)]) (Fr := [(is g160)]) S178
      exact ⟨k146, (by omega), _, (IntKind.i64.wrap (x132 + 1)), F133, x134, (by omega), rfl, (by exact e136), (by exact e137), (by exact e138), (by exact e139), (by kernel_rfl), h127, b12, n135, S179, M⟩
    replace M := ifn q176 M
    refine cond_f rfl (bf q176 (by kernel_rfl)) ?_
    refine wp_skip ?_
    refine then_n ?_
    refine wp_seq ?_
    refine wp_region_lit ?_
    refine lv (d := 115) rfl rfl (by kernel_rfl) (e_move (v := .int .i64 x132) (by kernel_rfl)) ?_
    refine lv (d := 116) rfl rfl (by kernel_rfl) (show _ = Result.ok (Next.value (.agg #[.int .i64 x132, .int .i64 0])) w164 from by kernel_rfl) ?_
    refine lve (d := 117) rfl rfl (by kernel_rfl) (new_blk (v := fun g_ => .slice (some ⟨g_, 0, none⟩) 1 1) (cs := #[.int .i64 x132, .int .i64 0]) (t := 86) S166 (by kernel_rfl)) ?_
    rintro _ w180 ⟨g181, rfl, b182, S183, K184⟩
    replace b165 := K184.blk 0 rfl b165
    replace h127 := h127.move (K184.at 1 rfl)
    replace b12 := K184.blk 2 rfl b12
    have S185 := S183.unit
    have S186 := S185.pull (F := (is g181)) (Fr := [no, (is g160), F133, (is g11)]) 1 rfl rfl
    obtain ⟨h187, S188⟩ := row_lit (d := st86) (xs := [(⟨x132, 0⟩ : GStep)]) S186 b182 rfl (elsO_one1 (st86_mkO (x := (⟨x132, 0⟩ : GStep)))) (Nat.le_of_ble_eq_true rfl)
    refine lv (d := 12) rfl rfl (by kernel_rfl) (e_assign (v := .slice (some ⟨g181, 0, none⟩) 1 1) (by kernel_rfl)) ?_
    refine wpList_nil ?_
    refine then_n ?_
    refine wp_seq ?_
    refine wp_region_lit ?_
    refine lv (d := 118) rfl rfl (by kernel_rfl) (e_move (v := .slice A124 (((x1.cells.length : Int)).toNat) c125) (by exact e136)) ?_
    refine lv (d := 119) rfl rfl (by kernel_rfl) (e_move (v := .int .i64 x132) (by kernel_rfl)) ?_
    obtain ⟨b189, e191⟩ := Row.addr h127 (show (x132).toNat < x134.length by have : x134.length = ((x1.cells.length : Int)).toNat := n135; omega)
    refine lv (d := 120) rfl rfl (by kernel_rfl) (e_indexAddr (b := b189) (off := 0) (n := ((x1.cells.length : Int)).toNat) (c := c125) (sz := 1) (i := x132) (k := .i64) Try.underlying26 e191 (by kernel_rfl) (by kernel_rfl) (by kernel_rfl) q148 q172) ?_
    have S192 := S188.pull (F := F133) (Fr := [(or2 (is g181) no), (is g160), (is g11)]) 2 rfl rfl
    have S193 := S192.unit
    have S194 := S193.pull (F := F133) (Fr := [no, (or2 (is g181) no), (is g160), (is g11)]) 1 rfl rfl
    refine lse rfl rfl (by kernel_rfl) (e_setel (d := tByte) (b := b189) (i := (x132).toNat) (v := .int .u8 1) (vs := [.int .u8 1]) (yv := (1 : UInt8)) S194 (by kernel_rfl) e191 rfl rfl (by kernel_rfl) h127 (show (x132).toNat < x134.length by have : x134.length = ((x1.cells.length : Int)).toNat := n135; omega) rfl) ?_
    rintro w195 ⟨F197, h196, S198, K199⟩
    replace h187 := h187.move (K199.at 0 rfl)
    replace b165 := K199.blk 1 rfl b165
    replace b12 := K199.blk 2 rfl b12
    clear h127
    refine wpList_nil ?_
    refine then_n ?_
    refine wp_block ?_
    have S227 := S198.pull (F := (or2 (is g181) no)) (Fr := [F197, (is g160), (is g11)]) 1 rfl rfl
    have S228 := S227.pull (F := (is g11)) (Fr := [(or2 (is g181) no), F197, (is g160)]) 3 rfl rfl
    have S229 := S228.pull (F := F197) (Fr := [(is g11), (or2 (is g181) no), (is g160)]) 2 rfl rfl
    have S230 := St.first (Fa := [F197, (is g11), (or2 (is g181) no)]) (Fr := [(is g160)]) S229
    refine wp_loop_g (fun k224 a225 w200 => ∃ (f201 : Nat → Value) (x202 : List GStep) (A203 : Option Addr) (c204 : Nat) (F205 : Foot) (F207 : Foot) (x208 : List UInt8), k224 ≤ k146 ∧ a225 = mk 179 f201 ∧ f201 8 = .slice A124 (((x1.cells.length : Int)).toNat) c125 ∧ f201 9 = .func (.func 66) #[] #[.pointer (some ⟨g11, 0, none⟩)] ∧ f201 12 = .slice A203 x202.length c204 ∧ f201 98 = .slice A2 x1.cells.length c3 ∧ f201 99 = .int .i64 (x1.cells.length : Int) ∧ f201 100 = .int .i64 x132 ∧ f201 109 = .slice A124 (((x1.cells.length : Int)).toNat) c125 ∧ f201 110 = .int .i64 x132 ∧ f201 111 = .pointer (some ⟨b173, 0 + (x132 : Int).toNat * 1, none⟩) ∧ f201 112 = .int .u8 ((x134.getD ((x132).toNat) (0 : UInt8)).toNat : Int) ∧ f201 113 = .bool (decide (((x134.getD ((x132).toNat) (0 : UInt8)).toNat : Int) ≠ 0)) ∧ Row tByte 5 H (hp w200) F207 A124 c125 x208 ∧ w200.heap[g11]? = some (.cells #[.slice A2 x1.cells.length c3, .slice A6 x1.trail.length c7] 34 (0, 0)) ∧ Row st86 86 H (hp w200) F205 A203 c204 x202 ∧ x208.length = ((x1.cells.length : Int)).toNat ∧ St (anyOf []) H w [F207, (is g11), F205] H w200 ∧ impl_Store_ok.l4 k224 x1 x132 x202 x208 = some r) k146 ⟨_, [(⟨x132, 0⟩ : GStep)], (some ⟨g181, 0, none⟩), 1, (or2 (is g181) no), F197, (x134.set ((x132).toNat) (1 : UInt8)), (by omega), rfl, (by exact e136), (by exact e137), (by kernel_rfl), (by exact e138), (by exact e139), (by exact e140), (by kernel_rfl), (by kernel_rfl), (by kernel_rfl), (by kernel_rfl), (by kernel_rfl), h196, b12, h187, (List.length_set.trans n135), S230, M⟩ ?_
    clear M
    rintro k224 a225 w200 ⟨f201, x202, A203, c204, F205, F207, x208, z223, rfl, e210, e211, e212, e213, e214, e215, e216, e217, e218, e219, e220, h196, b12, h206, n209, S221, M⟩
    rcases k224 with _ | k226
    · rw [impl_Store_ok.l4] at M
      cases M
    rw [impl_Store_ok.l4] at M
    refine wp_seq ?_
    refine wp_seq ?_
    refine wp_region_lit ?_
    refine lv (d := 121) rfl rfl (by kernel_rfl) (e_move (v := .slice A203 x202.length c204) (by exact e212)) ?_
    refine lv (d := 122) rfl rfl (by kernel_rfl) (e_len (A := A203) (n := x202.length) (c := c204) Try.underlying87 (by kernel_rfl)) ?_
    refine lv (d := 123) rfl rfl (by kernel_rfl) (e_gtr (k := .i64) (a := (x202.length : Int)) (b := 0) (by kernel_rfl) rfl) ?_
    refine wpList_nil ?_
    refine then_n ?_
    by_cases q231 : (x202.length : Int) > 0
    · replace M := ifp q231 M
      refine cond_t rfl (bt q231 (by kernel_rfl)) ?_
      refine wp_skip ?_
      refine then_n ?_
      refine wp_block ?_
      refine wp_seq ?_
      refine wp_region_lit ?_
      refine lv (d := 124) rfl rfl (by kernel_rfl) (e_move (v := .slice A203 x202.length c204) (by exact e212)) ?_
      refine lv (d := 125) rfl rfl (by kernel_rfl) (e_move (v := .slice A203 x202.length c204) (by exact e212)) ?_
      refine lv (d := 126) rfl rfl (by kernel_rfl) (e_len (A := A203) (n := x202.length) (c := c204) Try.underlying87 (by kernel_rfl)) ?_
      refine lv (d := 127) rfl rfl (by kernel_rfl) (e_sub (k := .i64) (a := (x202.length : Int)) (b := 1) (by kernel_rfl) rfl) ?_
      obtain ⟨q232, M⟩ := chk M
      obtain ⟨q233, M⟩ := chk M
      obtain ⟨b234, e236⟩ := Row.addr h206 (show ((IntKind.i64.wrap ((x202.length : Int) - 1))).toNat < x202.length by omega)
      refine lv (d := 128) rfl rfl (by kernel_rfl) (e_indexAddr (b := b234) (off := 0) (n := x202.length) (c := c204) (sz := 2) (i := (IntKind.i64.wrap ((x202.length : Int) - 1))) (k := .i64) Try.underlying87 e236 (by kernel_rfl) (by kernel_rfl) (by kernel_rfl) q232 q233) ?_
      refine lv (d := 13) rfl rfl (by kernel_rfl) (e_assign (v := .pointer (some ⟨b234, 0 + ((IntKind.i64.wrap ((x202.length : Int) - 1)) : Int).toNat * 2, none⟩)) (by kernel_rfl)) ?_
      refine wpList_nil ?_
      refine then_n ?_
      refine wp_seq ?_
      refine region_mix (S := (fun (L_ : Array Bool) (w_ : World) => Ext H (hp w_) ∧ (∀ b_, F205 b_ → hp w_ b_ = hp w200 b_))) (by kernel_rfl) S221 ?_
      intro w237 S238 K239 hc240
      have o241 := h206
      have hs242 : (fun (L_ : Array Bool) (w_ : World) => Ext H (hp w_) ∧ (∀ b_, F205 b_ → hp w_ b_ = hp w200 b_)) (Array.replicate 15 false) w237 := ⟨S238.inv, (fun b_ h_ => K239.at 2 rfl b_ h_)⟩
      replace h196 := h196.move (K239.at 0 rfl)
      replace b12 := K239.blk 1 rfl b12
      replace h206 := h206.move (K239.at 2 rfl)
      refine xv (i := 0) (d := 130) rfl rfl rfl (by kernel_rfl) (by kernel_rfl) (fun _ _ => Iff.rfl) hc240 hs242 (fun L_ w_ hc_ hu_ hs_ => e_move (v := .func (.func 66) #[] #[.pointer (some ⟨g11, 0, none⟩)]) (by exact e211)) ?_; intro hc243 hs244
      refine xv (i := 1) (d := 131) rfl rfl rfl (by kernel_rfl) (by kernel_rfl) (fun _ _ => Iff.rfl) hc243 hs244 (fun L_ w_ hc_ hu_ hs_ => e_move (v := .pointer (some ⟨b234, 0 + ((IntKind.i64.wrap ((x202.length : Int) - 1)) : Int).toNat * 2, none⟩)) (by kernel_rfl)) ?_; intro hc245 hs246
      refine xv (i := 2) (d := 132) rfl rfl rfl (by kernel_rfl) (by kernel_rfl) (fun _ _ => Iff.rfl) hc245 hs246 (fun L_ w_ hc_ hu_ hs_ => e_nilCheck (ad := ⟨b234, 0 + ((IntKind.i64.wrap ((x202.length : Int) - 1)) : Int).toNat * 2, none⟩) (by kernel_rfl)) ?_; intro hc247 hs248
      refine xv (i := 3) (d := 133) rfl rfl rfl (by kernel_rfl) (by kernel_rfl) (fun _ _ => Iff.rfl) hc247 hs248 (fun L_ w_ hc_ hu_ hs_ => e_fieldAddr (b := b234) (off := 0 + ((IntKind.i64.wrap ((x202.length : Int) - 1)) : Int).toNat * 2) (o := 0) Try.underlying86 rfl rfl (sz := 1) (by kernel_rfl) (by decide) (by kernel_rfl)) ?_; intro hc249 hs250
      refine xv (i := 4) (d := 134) rfl rfl rfl (by kernel_rfl) (by kernel_rfl) (fun _ _ => Iff.rfl) hc249 hs250 (fun L_ w_ hc_ hu_ hs_ => e_load1 (ad := ⟨b234, 0 + ((IntKind.i64.wrap ((x202.length : Int) - 1)) : Int).toNat * 2 + 0, none⟩) (v := .int .i64 ((x202.getD (((IntKind.i64.wrap ((x202.length : Int) - 1))).toNat) z86).at_)) Try.underlying3 rfl (by kernel_rfl) (hpx (Row.pick (j := 0) (u := .int .i64 ((x202.getD (((IntKind.i64.wrap ((x202.length : Int) - 1))).toNat) z86).at_)) (o241.move hs_.2) e236 (getD_some z86 (show ((IntKind.i64.wrap ((x202.length : Int) - 1))).toNat < x202.length by omega)) (fun _ _ o_ => st86_c0 o_)))) ?_; intro hc251 hs252
      refine xone (i := 5) (by kernel_rfl) hc251 ?_
      refine yo (i := 5) (d := 135) rfl rfl (wanted_none rfl _) (by kernel_rfl) (by kernel_rfl) (fun _ _ => Iff.rfl) hs252 (e_move (v := .pointer (some ⟨b234, 0 + ((IntKind.i64.wrap ((x202.length : Int) - 1)) : Int).toNat * 2, none⟩)) (by kernel_rfl)) ?_; intro hc253 hs254
      refine xone (i := 6) (by kernel_rfl) hc253 ?_
      refine yo (i := 6) (d := 136) rfl rfl (wanted_none rfl _) (by kernel_rfl) (by kernel_rfl) (fun _ _ => Iff.rfl) hs254 (e_nilCheck (ad := ⟨b234, 0 + ((IntKind.i64.wrap ((x202.length : Int) - 1)) : Int).toNat * 2, none⟩) (by kernel_rfl)) ?_; intro hc255 hs256
      refine xone (i := 7) (by kernel_rfl) hc255 ?_
      refine yo (i := 7) (d := 137) rfl rfl (wanted_none rfl _) (by kernel_rfl) (by kernel_rfl) (fun _ _ => Iff.rfl) hs256 (e_fieldAddr (b := b234) (off := 0 + ((IntKind.i64.wrap ((x202.length : Int) - 1)) : Int).toNat * 2) (o := 1) Try.underlying86 rfl rfl (sz := 1) (by kernel_rfl) (by decide) (by kernel_rfl)) ?_; intro hc257 hs258
      refine xone (i := 8) (by kernel_rfl) hc257 ?_
      refine yo (i := 8) (d := 138) rfl rfl (wanted_none rfl _) (by kernel_rfl) (by kernel_rfl) (fun _ _ => Iff.rfl) hs258 (e_load1 (ad := ⟨b234, 0 + ((IntKind.i64.wrap ((x202.length : Int) - 1)) : Int).toNat * 2 + 1, none⟩) (v := .int .i64 ((x202.getD (((IntKind.i64.wrap ((x202.length : Int) - 1))).toNat) z86).next_)) Try.underlying3 rfl (by kernel_rfl) (hpx (Row.pick (j := 1) (u := .int .i64 ((x202.getD (((IntKind.i64.wrap ((x202.length : Int) - 1))).toNat) z86).next_)) h206 e236 (getD_some z86 (show ((IntKind.i64.wrap ((x202.length : Int) - 1))).toNat < x202.length by omega)) (fun _ _ o_ => st86_c1 o_)))) ?_; intro hc259 hs260
      obtain ⟨t261, u262, M⟩ := bnd M
      refine xone (i := 9) (by kernel_rfl) hc259 ?_
      refine yc (i := 9) rfl (wanted_none rfl _) (by kernel_rfl) (by kernel_rfl) (e_callv (l := [.tmp 134, .tmp 138]) (vs := [.int .i64 ((x202.getD (((IntKind.i64.wrap ((x202.length : Int) - 1))).toNat) z86).at_), .int .i64 ((x202.getD (((IntKind.i64.wrap ((x202.length : Int) - 1))).toNat) z86).next_)]) (cs := [.pointer (some ⟨g11, 0, none⟩)]) Try.func66 (by kernel_rfl) rfl (by kernel_rfl) (by kernel_rfl)) (by have S263 := S238.pull (F := (is g11)) (Fr := [F207, F205]) 1 rfl rfl; obtain ⟨H264, S265, E266, h267, z268⟩ := S263.frzBlk b12; replace h196 := h196.ext E266; replace h206 := h206.ext E266; exact (impl_Store_ok_c1.calls w237 H264 ((x202.getD (((IntKind.i64.wrap ((x202.length : Int) - 1))).toNat) z86).at_) ((x202.getD (((IntKind.i64.wrap ((x202.length : Int) - 1))).toNat) z86).next_) x1 g11 A2 c3 A6 c7 (h4.ext E266) l5 (h8.ext E266) l9 h267 S265.own0 t261 u262)) ?_
      rintro hc271 _ w269 ⟨rfl, C270⟩
      refine ⟨_, rfl, ?_⟩
      obtain ⟨S272, K273⟩ := S238.still C270
      replace h196 := h196.move (K273.at 0 rfl)
      replace b12 := K273.blk 1 rfl b12
      replace h206 := h206.move (K273.at 2 rfl)
      refine ⟨⟨S272.inv, (fun b_ h_ => (K273.at 2 rfl b_ h_).trans (hs260.2 b_ h_))⟩, fun hs274 => ?_⟩
      refine xone (i := 10) (by kernel_rfl) hc271 ?_
      refine yo (i := 10) (d := 129) rfl rfl (wanted_none rfl _) (by kernel_rfl) (by kernel_rfl) (fun _ _ => Iff.rfl) hs274 (e_move (v := .tuple #[.int .i64 t261.1, .bool t261.2]) (by kernel_rfl)) ?_; intro hc275 hs276
      refine xv (i := 11) (d := 140) rfl rfl rfl (by kernel_rfl) (by kernel_rfl) (fun _ _ => Iff.rfl) hc275 hs276 (fun L_ w_ hc_ hu_ hs_ => e_extract (vs := #[.int .i64 t261.1, .bool t261.2]) (v := .int .i64 t261.1) (by kernel_rfl) rfl) ?_; intro hc277 hs278
      refine xv (i := 12) (d := 141) rfl rfl rfl (by kernel_rfl) (by kernel_rfl) (fun _ _ => Iff.rfl) hc277 hs278 (fun L_ w_ hc_ hu_ hs_ => e_extract (vs := #[.int .i64 t261.1, .bool t261.2]) (v := .bool t261.2) (by kernel_rfl) rfl) ?_; intro hc279 hs280
      refine xone (i := 13) (by kernel_rfl) hc279 ?_
      refine yo (i := 13) (d := 14) rfl rfl (wanted_none rfl _) (by kernel_rfl) (by kernel_rfl) (fun _ _ => Iff.rfl) hs280 (e_assign (v := .int .i64 t261.1) (by kernel_rfl)) ?_; intro hc281 hs282
      refine xone (i := 14) (by kernel_rfl) hc281 ?_
      refine yo (i := 14) (d := 15) rfl rfl (wanted_none rfl _) (by kernel_rfl) (by kernel_rfl) (fun _ _ => Iff.rfl) hs282 (e_assign (v := .bool t261.2) (by kernel_rfl)) ?_; intro hc283 hs284
      refine xn (by kernel_rfl) ?_ _
      refine then_n ?_
      refine wp_seq ?_
      refine wp_seq ?_
      refine wp_region_lit ?_
      refine lv (d := 142) rfl rfl (by kernel_rfl) (e_move (v := .bool t261.2) (by kernel_rfl)) ?_
      refine lv (d := 143) rfl rfl (by kernel_rfl) (e_notv (c := t261.2) (by kernel_rfl)) ?_
      refine wpList_nil ?_
      refine then_n ?_
      by_cases q285 : ¬ (t261.2 = true)
      · replace M := ifp q285 M
        refine cond_t rfl (bt q285 (by kernel_rfl)) ?_
        refine wp_seq ?_
        refine wp_region_lit ?_
        refine lv (d := 144) rfl rfl (by kernel_rfl) (e_move (v := .slice A124 (((x1.cells.length : Int)).toNat) c125) (by exact e210)) ?_
        refine lv (d := 145) rfl rfl (by kernel_rfl) (e_move (v := .pointer (some ⟨b234, 0 + ((IntKind.i64.wrap ((x202.length : Int) - 1)) : Int).toNat * 2, none⟩)) (by kernel_rfl)) ?_
        refine lv (d := 146) rfl rfl (by kernel_rfl) (e_nilCheck (ad := ⟨b234, 0 + ((IntKind.i64.wrap ((x202.length : Int) - 1)) : Int).toNat * 2, none⟩) (by kernel_rfl)) ?_
        refine lv (d := 147) rfl rfl (by kernel_rfl) (e_fieldAddr (b := b234) (off := 0 + ((IntKind.i64.wrap ((x202.length : Int) - 1)) : Int).toNat * 2) (o := 0) Try.underlying86 rfl rfl (sz := 1) (by kernel_rfl) (by decide) (by kernel_rfl)) ?_
        refine lv (d := 148) rfl rfl (by kernel_rfl) (e_load1 (ad := ⟨b234, 0 + ((IntKind.i64.wrap ((x202.length : Int) - 1)) : Int).toNat * 2 + 0, none⟩) (v := .int .i64 ((x202.getD (((IntKind.i64.wrap ((x202.length : Int) - 1))).toNat) z86).at_)) Try.underlying3 rfl (by kernel_rfl) (hpx (Row.pick (j := 0) (u := .int .i64 ((x202.getD (((IntKind.i64.wrap ((x202.length : Int) - 1))).toNat) z86).at_)) h206 e236 (getD_some z86 (show ((IntKind.i64.wrap ((x202.length : Int) - 1))).toNat < x202.length by omega)) (fun _ _ o_ => st86_c0 o_)))) ?_
        obtain ⟨q286, M⟩ := chk M
        obtain ⟨q287, M⟩ := chk M
        obtain ⟨b288, e290⟩ := Row.addr h196 (show ((x202.getD (((IntKind.i64.wrap ((x202.length : Int) - 1))).toNat) z86).at_).toNat < x208.length by have : x208.length = ((x1.cells.length : Int)).toNat := n209; omega)
        refine lv (d := 149) rfl rfl (by kernel_rfl) (e_indexAddr (b := b288) (off := 0) (n := ((x1.cells.length : Int)).toNat) (c := c125) (sz := 1) (i := (x202.getD (((IntKind.i64.wrap ((x202.length : Int) - 1))).toNat) z86).at_) (k := .i64) Try.underlying26 e290 (by kernel_rfl) (by kernel_rfl) (by kernel_rfl) q286 q287) ?_
        have S291 := S272.unit
        have S292 := S291.pull (F := F207) (Fr := [no, (is g11), F205]) 1 rfl rfl
        refine lse rfl rfl (by kernel_rfl) (e_setel (d := tByte) (b := b288) (i := ((x202.getD (((IntKind.i64.wrap ((x202.length : Int) - 1))).toNat) z86).at_).toNat) (v := .int .u8 2) (vs := [.int .u8 2]) (yv := (2 : UInt8)) S292 (by kernel_rfl) e290 rfl rfl (by kernel_rfl) h196 (show ((x202.getD (((IntKind.i64.wrap ((x202.length : Int) - 1))).toNat) z86).at_).toNat < x208.length by have : x208.length = ((x1.cells.length : Int)).toNat := n209; omega) rfl) ?_
        rintro w293 ⟨F295, h294, S296, K297⟩
        replace b12 := K297.blk 0 rfl b12
        replace h206 := h206.move (K297.at 1 rfl)
        clear h196
        refine wpList_nil ?_
        refine then_n ?_
        refine wp_seq ?_
        refine wp_region_lit ?_
        refine lv (d := 150) rfl rfl (by kernel_rfl) (e_move (v := .slice A203 x202.length c204) (by exact e212)) ?_
        refine lv (d := 151) rfl rfl (by kernel_rfl) (e_move (v := .slice A203 x202.length c204) (by exact e212)) ?_
        refine lv (d := 152) rfl rfl (by kernel_rfl) (e_len (A := A203) (n := x202.length) (c := c204) Try.underlying87 (by kernel_rfl)) ?_
        refine lv (d := 153) rfl rfl (by kernel_rfl) (e_sub (k := .i64) (a := (x202.length : Int)) (b := 1) (by kernel_rfl) rfl) ?_
        obtain ⟨q298, M⟩ := chk M
        refine lv (d := 154) rfl rfl (by kernel_rfl) (e_slice_h (xs := x202) (n := x202.length) (m := 2) (cap := c204) (A := A203) (b := (IntKind.i64.wrap ((x202.length : Int) - 1))) (k2 := .i64) Try.underlying87 (by kernel_rfl) (by kernel_rfl) (by kernel_rfl) q232 q298 (by have := h206.le; have := (rfl : x202.length = x202.length); omega) (take_len q232 q298 rfl)) ?_
        have h299 := h206.cut (n := ((IntKind.i64.wrap ((x202.length : Int) - 1)) : Int).toNat) (by have := (rfl : x202.length = x202.length); omega)
        clear h206
        refine lv (d := 12) rfl rfl (by kernel_rfl) (e_assign (v := .slice A203 ((x202.take (((IntKind.i64.wrap ((x202.length : Int) - 1)) : Int).toNat)).length) c204) (by kernel_rfl)) ?_
        refine wpList_nil ?_
        refine then_n ?_
        refine wp_exit ?_
        refine then_e ?_
        refine inb_hit ?_
        refine then_n ?_
        exact ⟨k226, (by omega), _, (x202.take (((IntKind.i64.wrap ((x202.length : Int) - 1)) : Int).toNat)), A203, c204, F205, F295, (x208.set (((x202.getD (((IntKind.i64.wrap ((x202.length : Int) - 1))).toNat) z86).at_).toNat) (2 : UInt8)), (by omega), rfl, (by exact e210), (by exact e211), (by kernel_rfl), (by exact e213), (by exact e214), (by exact e215), (by exact e216), (by exact e217), (by exact e218), (by exact e219), (by exact e220), h294, b12, h299, (List.length_set.trans n209), S296, M⟩
      replace M := ifn q285 M
      refine cond_f rfl (bf q285 (by kernel_rfl)) ?_
      refine wp_skip ?_
      refine then_n ?_
      refine wp_seq ?_
      refine wp_region_lit ?_
      refine lv (d := 155) rfl rfl (by kernel_rfl) (e_move (v := .pointer (some ⟨b234, 0 + ((IntKind.i64.wrap ((x202.length : Int) - 1)) : Int).toNat * 2, none⟩)) (by kernel_rfl)) ?_
      refine lv (d := 156) rfl rfl (by kernel_rfl) (e_nilCheck (ad := ⟨b234, 0 + ((IntKind.i64.wrap ((x202.length : Int) - 1)) : Int).toNat * 2, none⟩) (by kernel_rfl)) ?_
      refine lv (d := 157) rfl rfl (by kernel_rfl) (e_fieldAddr (b := b234) (off := 0 + ((IntKind.i64.wrap ((x202.length : Int) - 1)) : Int).toNat * 2) (o := 1) Try.underlying86 rfl rfl (sz := 1) (by kernel_rfl) (by decide) (by kernel_rfl)) ?_
      refine lv (d := 158) rfl rfl (by kernel_rfl) (e_load1 (ad := ⟨b234, 0 + ((IntKind.i64.wrap ((x202.length : Int) - 1)) : Int).toNat * 2 + 1, none⟩) (v := .int .i64 ((x202.getD (((IntKind.i64.wrap ((x202.length : Int) - 1))).toNat) z86).next_)) Try.underlying3 rfl (by kernel_rfl) (hpx (Row.pick (j := 1) (u := .int .i64 ((x202.getD (((IntKind.i64.wrap ((x202.length : Int) - 1))).toNat) z86).next_)) h206 e236 (getD_some z86 (show ((IntKind.i64.wrap ((x202.length : Int) - 1))).toNat < x202.length by omega)) (fun _ _ o_ => st86_c1 o_)))) ?_
      refine lv (d := 159) rfl rfl (by kernel_rfl) (e_add (k := .i64) (a := (x202.getD (((IntKind.i64.wrap ((x202.length : Int) - 1))).toNat) z86).next_) (b := 1) (by kernel_rfl) rfl) ?_
      refine lv (d := 160) rfl rfl (by kernel_rfl) (e_nilCheck (ad := ⟨b234, 0 + ((IntKind.i64.wrap ((x202.length : Int) - 1)) : Int).toNat * 2, none⟩) (by kernel_rfl)) ?_
      refine lv (d := 161) rfl rfl (by kernel_rfl) (e_fieldAddr (b := b234) (off := 0 + ((IntKind.i64.wrap ((x202.length : Int) - 1)) : Int).toNat * 2) (o := 1) Try.underlying86 rfl rfl (sz := 1) (by kernel_rfl) (by decide) (by kernel_rfl)) ?_
      have S300 := S272.pull (F := F205) (Fr := [F207, (is g11)]) 2 rfl rfl
      have S301 := S300.unit
      have S302 := S301.pull (F := F205) (Fr := [no, F207, (is g11)]) 1 rfl rfl
      refine lse rfl rfl (by kernel_rfl) (e_setpart (d := st86) (b := b234) (i := ((IntKind.i64.wrap ((x202.length : Int) - 1))).toNat) (j := 1) (v := .int .i64 (IntKind.i64.wrap (((x202.getD (((IntKind.i64.wrap ((x202.length : Int) - 1))).toNat) z86).next_) + 1))) (vs := [.int .i64 (IntKind.i64.wrap (((x202.getD (((IntKind.i64.wrap ((x202.length : Int) - 1))).toNat) z86).next_) + 1))]) (yv := {(x202.getD (((IntKind.i64.wrap ((x202.length : Int) - 1))).toNat) z86) with next_ := (IntKind.i64.wrap (((x202.getD (((IntKind.i64.wrap ((x202.length : Int) - 1))).toNat) z86).next_) + 1))}) S302 (by kernel_rfl) e236 (by kernel_rfl) rfl (by kernel_rfl) h206 (getD_some z86 (show ((IntKind.i64.wrap ((x202.length : Int) - 1))).toNat < x202.length by omega)) (Nat.le_of_ble_eq_true rfl) (List.forall_mem_cons.2 ⟨rfl, (fun _ h_ => by cases h_)⟩) (fun _ _ _ o_ => st86_u1 (IntKind.i64.wrap (((x202.getD (((IntKind.i64.wrap ((x202.length : Int) - 1))).toNat) z86).next_) + 1)) o_)) ?_
      rintro w303 ⟨F305, h304, S306, K307⟩
      replace h196 := h196.move (K307.at 0 rfl)
      replace b12 := K307.blk 1 rfl b12
      clear h206
      refine wpList_nil ?_
      refine then_n ?_
      refine wp_seq ?_
      refine wp_region_lit ?_
      refine lv (d := 162) rfl rfl (by kernel_rfl) (e_move (v := .slice A124 (((x1.cells.length : Int)).toNat) c125) (by exact e210)) ?_
      refine lv (d := 163) rfl rfl (by kernel_rfl) (e_move (v := .int .i64 t261.1) (by kernel_rfl)) ?_
      obtain ⟨q308, M⟩ := chk M
      obtain ⟨q309, M⟩ := chk M
      obtain ⟨b310, e312⟩ := Row.addr h196 (show (t261.1).toNat < x208.length by have : x208.length = ((x1.cells.length : Int)).toNat := n209; omega)
      refine lv (d := 164) rfl rfl (by kernel_rfl) (e_indexAddr (b := b310) (off := 0) (n := ((x1.cells.length : Int)).toNat) (c := c125) (sz := 1) (i := t261.1) (k := .i64) Try.underlying26 e312 (by kernel_rfl) (by kernel_rfl) (by kernel_rfl) q308 q309) ?_
      refine lv (d := 165) rfl rfl (by kernel_rfl) (e_load1 (ad := ⟨b310, 0 + (t261.1 : Int).toNat * 1, none⟩) (v := .int .u8 ((x208.getD ((t261.1).toNat) (0 : UInt8)).toNat : Int)) Try.underlying5 rfl (by kernel_rfl) (hpx (Row.pick (j := 0) (u := .int .u8 ((x208.getD ((t261.1).toNat) (0 : UInt8)).toNat : Int)) h196 e312 (getD_some (0 : UInt8) (show (t261.1).toNat < x208.length by have : x208.length = ((x1.cells.length : Int)).toNat := n209; omega)) (fun _ _ o_ => by rw [show _ = _ from o_]; rfl)))) ?_
      refine wpList_nil ?_
      refine then_n ?_
      refine wp_block ?_
      refine wp_seq ?_
      refine wp_region_lit ?_
      refine lv (d := 167) rfl rfl (by kernel_rfl) (e_eql (k := .u8) (a := ((x208.getD ((t261.1).toNat) (0 : UInt8)).toNat : Int)) (b := 0) (by kernel_rfl) rfl) ?_
      refine lv (d := 166) rfl rfl (by kernel_rfl) (e_assign (v := .bool (decide (((x208.getD ((t261.1).toNat) (0 : UInt8)).toNat : Int) = 0))) (by kernel_rfl)) ?_
      refine wpList_nil ?_
      refine then_n ?_
      by_cases q313 : ((x208.getD ((t261.1).toNat) (0 : UInt8)).toNat : Int) = 0
      · replace M := ifp q313 M
        refine cond_t rfl (bt q313 (by kernel_rfl)) ?_
        refine wp_seq ?_
        refine wp_region_lit ?_
        refine lv (d := 168) rfl rfl (by kernel_rfl) (e_move (v := .slice A124 (((x1.cells.length : Int)).toNat) c125) (by exact e210)) ?_
        refine lv (d := 169) rfl rfl (by kernel_rfl) (e_move (v := .int .i64 t261.1) (by kernel_rfl)) ?_
        obtain ⟨b314, e316⟩ := Row.addr h196 (show (t261.1).toNat < x208.length by have : x208.length = ((x1.cells.length : Int)).toNat := n209; omega)
        refine lv (d := 170) rfl rfl (by kernel_rfl) (e_indexAddr (b := b314) (off := 0) (n := ((x1.cells.length : Int)).toNat) (c := c125) (sz := 1) (i := t261.1) (k := .i64) Try.underlying26 e316 (by kernel_rfl) (by kernel_rfl) (by kernel_rfl) q308 q309) ?_
        have S317 := S306.pull (F := F207) (Fr := [F305, (is g11)]) 1 rfl rfl
        have S318 := S317.unit
        have S319 := S318.pull (F := F207) (Fr := [no, F305, (is g11)]) 1 rfl rfl
        refine lse rfl rfl (by kernel_rfl) (e_setel (d := tByte) (b := b314) (i := (t261.1).toNat) (v := .int .u8 1) (vs := [.int .u8 1]) (yv := (1 : UInt8)) S319 (by kernel_rfl) e316 rfl rfl (by kernel_rfl) h196 (show (t261.1).toNat < x208.length by have : x208.length = ((x1.cells.length : Int)).toNat := n209; omega) rfl) ?_
        rintro w320 ⟨F322, h321, S323, K324⟩
        replace h304 := h304.move (K324.at 0 rfl)
        replace b12 := K324.blk 1 rfl b12
        clear h196
        refine wpList_nil ?_
        refine then_n ?_
        refine wp_region_lit ?_
        refine lv (d := 171) rfl rfl (by kernel_rfl) (e_move (v := .slice A203 x202.length c204) (by exact e212)) ?_
        refine lv (d := 172) rfl rfl (by kernel_rfl) (e_move (v := .int .i64 t261.1) (by kernel_rfl)) ?_
        refine lv (d := 173) rfl rfl (by kernel_rfl) (show _ = Result.ok (Next.value (.agg #[.int .i64 t261.1, .int .i64 0])) w320 from by kernel_rfl) ?_
        refine lve (d := 174) rfl rfl (by kernel_rfl) (new_blk (v := fun g_ => .slice (some ⟨g_, 0, none⟩) 1 1) (cs := #[.int .i64 t261.1, .int .i64 0]) (t := 86) S323 (by kernel_rfl)) ?_
        rintro _ w325 ⟨g326, rfl, b327, S328, K329⟩
        replace h321 := h321.move (K329.at 0 rfl)
        replace h304 := h304.move (K329.at 1 rfl)
        replace b12 := K329.blk 2 rfl b12
        obtain ⟨q330, M⟩ := chk M
        have S331 := S328.pull (F := F305) (Fr := [(is g326), F322, (is g11)]) 2 rfl rfl
        have S332 := S331.unit
        have S333 := S332.pull (F := F305) (Fr := [no, (is g326), F322, (is g11)]) 1 rfl rfl
        refine lve (d := 175) rfl rfl (by kernel_rfl) (e_append (d := st86) (n := x202.length) (xs := (x202.set (((IntKind.i64.wrap ((x202.length : Int) - 1))).toNat) ({(x202.getD (((IntKind.i64.wrap ((x202.length : Int) - 1))).toNat) z86) with next_ := (IntKind.i64.wrap (((x202.getD (((IntKind.i64.wrap ((x202.length : Int) - 1))).toNat) z86).next_) + 1))}))) (cap := c204) (A := A203) (ys := [(⟨t261.1, 0⟩ : GStep)]) (A2 := (some ⟨g326, 0, none⟩)) (c2 := 1) (z := .agg #[.int .i64 0, .int .i64 0]) (bytes := 16) S333 Try.underlying87 (by kernel_rfl) rfl (by decide) (by kernel_rfl) (List.length_set.trans rfl) (by kernel_rfl) h304 (elsO_one1 (st86_mkO (x := (⟨t261.1, 0⟩ : GStep)))) (.inr (blk_news b327 rfl)) (show (x202.length + [(⟨t261.1, 0⟩ : GStep)].length) * 16 ≤ _ by first | omega | (simp only [List.length_cons, List.length_nil]; omega)) (by decide)) ?_
        rintro _ w334 ⟨A335, c336, F337, rfl, h338, S339, K340⟩
        replace b327 := K340.blk 0 rfl b327
        replace h321 := h321.move (K340.at 1 rfl)
        replace b12 := K340.blk 2 rfl b12
        refine lv (d := 12) rfl rfl (by kernel_rfl) (e_assign (v := .slice A335 (((x202.set (((IntKind.i64.wrap ((x202.length : Int) - 1))).toNat) ({(x202.getD (((IntKind.i64.wrap ((x202.length : Int) - 1))).toNat) z86) with next_ := (IntKind.i64.wrap (((x202.getD (((IntKind.i64.wrap ((x202.length : Int) - 1))).toNat) z86).next_) + 1))})) ++ [(⟨t261.1, 0⟩ : GStep)]).length) c336) (by kernel_rfl)) ?_
        refine wpList_nil ?_
        refine inb_n ?_
        refine inb_n ?_
        refine then_n ?_
        have S341 := S339.pull (F := (is g11)) (Fr := [F337, (is g326), F322]) 3 rfl rfl
        have S342 := S341.pull (F := F322) (Fr := [(is g11), F337, (is g326)]) 3 rfl rfl
        have S343 := St.first (Fa := [F322, (is g11), F337]) (Fr := [(is g326)]) S342
        exact ⟨k226, (by omega), _, ((x202.set (((IntKind.i64.wrap ((x202.length : Int) - 1))).toNat) ({(x202.getD (((IntKind.i64.wrap ((x202.length : Int) - 1))).toNat) z86) with next_ := (IntKind.i64.wrap (((x202.getD (((IntKind.i64.wrap ((x202.length : Int) - 1))).toNat) z86).next_) + 1))})) ++ [(⟨t261.1, 0⟩ : GStep)]), A335, c336, F337, F322, (x208.set ((t261.1).toNat) (1 : UInt8)), (by omega), rfl, (by exact e210), (by exact e211), (by kernel_rfl), (by exact e213), (by exact e214), (by exact e215), (by exact e216), (by exact e217), (by exact e218), (by exact e219), (by exact e220), h321, b12, h338, (List.length_set.trans n209), S343, M⟩
      replace M := ifn q313 M
      refine cond_f rfl (bf q313 (by kernel_rfl)) ?_
      refine wp_seq ?_
      refine wp_region_lit ?_
      refine lv (d := 177) rfl rfl (by kernel_rfl) (e_eql (k := .u8) (a := ((x208.getD ((t261.1).toNat) (0 : UInt8)).toNat : Int)) (b := 1) (by kernel_rfl) rfl) ?_
      refine lv (d := 176) rfl rfl (by kernel_rfl) (e_assign (v := .bool (decide (((x208.getD ((t261.1).toNat) (0 : UInt8)).toNat : Int) = 1))) (by kernel_rfl)) ?_
      refine wpList_nil ?_
      refine then_n ?_
      by_cases q344 : ((x208.getD ((t261.1).toNat) (0 : UInt8)).toNat : Int) = 1
      · replace M := ifp q344 M
        refine cond_t rfl (bt q344 (by kernel_rfl)) ?_
        refine wp_seq ?_
        refine wp_region_lit ?_
        refine lv (d := 2) rfl rfl (by kernel_rfl) (e_assign (v := .bool false) rfl) ?_
        refine wpList_nil ?_
        refine then_n ?_
        refine wp_ret ?_
        refine inb_r ?_
        refine inb_r ?_
        refine then_r ?_
        refine inb_r ?_
        refine inb_r ?_
        refine then_r ?_
        refine then_r ?_
        refine inb_r ?_
        refine then_r ?_
        obtain rfl := Option.some.inj M
        exact ret1 rfl rfl  (show _ = .bool false from (by kernel_rfl)) ⟨rfl, S306.chg⟩
      replace M := ifn q344 M
      refine cond_f rfl (bf q344 (by kernel_rfl)) ?_
      refine wp_skip ?_
      refine inb_n ?_
      refine inb_n ?_
      refine then_n ?_
      have S345 := S306.pull (F := (is g11)) (Fr := [F305, F207]) 2 rfl rfl
      have S346 := S345.pull (F := F207) (Fr := [(is g11), F305]) 2 rfl rfl
      exact ⟨k226, (by omega), _, (x202.set (((IntKind.i64.wrap ((x202.length : Int) - 1))).toNat) ({(x202.getD (((IntKind.i64.wrap ((x202.length : Int) - 1))).toNat) z86) with next_ := (IntKind.i64.wrap (((x202.getD (((IntKind.i64.wrap ((x202.length : Int) - 1))).toNat) z86).next_) + 1))})), A203, c204, F305, F207, x208, (by omega), rfl, (by exact e210), (by exact e211), (by rw [(show (x202.set (((IntKind.i64.wrap ((x202.length : Int) - 1))).toNat) ({(x202.getD (((IntKind.i64.wrap ((x202.length : Int) - 1))).toNat) z86) with next_ := (IntKind.i64.wrap (((x202.getD (((IntKind.i64.wrap ((x202.length : Int) - 1))).toNat) z86).next_) + 1))})).length = x202.length from (List.length_set.trans rfl))]; exact (by exact e212)), (by exact e213), (by exact e214), (by exact e215), (by exact e216), (by exact e217), (by exact e218), (by exact e219), (by exact e220), h196, b12, h304, n209, S346, M⟩
    replace M := ifn q231 M
    refine cond_f rfl (bf q231 (by kernel_rfl)) ?_
    refine wp_exit ?_
    refine then_e ?_
    refine then_e ?_
    refine inb_hit ?_
    refine inb_n ?_
    refine then_n ?_
    refine wp_region_lit ?_
    refine lv (d := 178) rfl rfl (by kernel_rfl) (e_add (k := .i64) (a := x132) (b := 1) (by exact e215) rfl) ?_
    refine lv (d := 100) rfl rfl (by kernel_rfl) (e_move (v := .int .i64 (IntKind.i64.wrap (x132 + 1))) (by kernel_rfl)) ?_
    refine wpList_nil ?_
    refine then_n ?_
    have S347 := S221.pull (F := (is g11)) (Fr := [F207, F205]) 1 rfl rfl
    have S348 := S347.pull (F := F207) (Fr := [(is g11), F205]) 1 rfl rfl
    have S349 := St.first (Fa := [F207, (is g11)]) (Fr := [F205]) S348
    exact ⟨k226, (by omega), _, (IntKind.i64.wrap (x132 + 1)), F207, x208, (by omega), rfl, (by exact e210), (by exact e211), (by exact e213), (by exact e214), (by kernel_rfl), h196, b12, n209, S349, M⟩
  replace M := ifn q147 M
  refine cond_f rfl (bf q147 (by kernel_rfl)) ?_
  refine wp_exit ?_
  refine then_e ?_
  refine then_e ?_
  refine inb_hit ?_
  refine then_n ?_
  refine wp_seq ?_
  refine wp_region_lit ?_
  refine lv (d := 2) rfl rfl (by kernel_rfl) (e_assign (v := .bool true) rfl) ?_
  refine wpList_nil ?_
  refine then_n ?_
  refine wp_ret ?_
  obtain rfl := Option.some.inj M
  exact ret1 rfl rfl  (show _ = .bool true from (by kernel_rfl)) ⟨rfl, S141.chg⟩

/-! impl_copyCell -/
def impl_copyCell.f (x1 : Cell) : Option Cell := (if 0 + x1.text.length ≤ 140737488355328 then some (⟨x1.kind, x1.n, (([] : List UInt8) ++ x1.text)⟩ : Cell) else none)
theorem impl_copyCell.calls (w : World) (H : Hp) (x1 : Cell) (A2 : Option Addr) (c3 : Nat) (h4 : Rd tByte H A2 x1.text) (l5 : x1.text.length ≤ c3) (S : Own [] H w) (r : Cell) (M : impl_copyCell.f x1 = some r) :
    Calls Try.prog 49 #[.agg #[.int .i64 x1.kind, .int .i64 x1.n, .slice A2 x1.text.length c3]] w (fun e e_w => ∃ (A_1 : Option Addr) (c_1 : Nat) (F_1 : Foot) (H_ : Hp), e = .returned (.agg #[.int .i64 r.kind, .int .i64 r.n, .slice A_1 r.text.length c_1]) ∧ Row tByte 5 H_ (hp e_w) F_1 A_1 c_1 r.text ∧ St (anyOf []) H w [F_1] H_ e_w) := by
  rw [impl_copyCell.f] at M
  refine enter (l := [.agg #[.int .i64 x1.kind, .int .i64 x1.n, .slice A2 x1.text.length c3]]) 9 Try.func49 rfl rfl rfl ?_
  have S0_ := S.st
  refine wp_seq ?_
  refine wp_region_lit ?_
  refine lve (d := 1) rfl rfl (by kernel_rfl) (new_blk (v := fun g_ => .pointer (some ⟨g_, 0, none⟩)) (cs := #[.int .i64 x1.kind, .int .i64 x1.n, .slice A2 x1.text.length c3]) (t := 36) S0_ (by kernel_rfl)) ?_
  rintro _ w6 ⟨g7, rfl, b8, S9, K10⟩
  refine lve (d := 2) rfl rfl (by kernel_rfl) (new_blk (v := fun g_ => .pointer (some ⟨g_, 0, none⟩)) (cs := #[.int .i64 0, .int .i64 0, .slice none 0 0]) (t := 36) S9 (by kernel_rfl)) ?_
  rintro _ w11 ⟨g12, rfl, b13, S14, K15⟩
  replace b8 := K15.blk 0 rfl b8
  refine wpList_nil ?_
  refine then_n ?_
  refine wp_seq ?_
  refine wp_region_lit ?_
  refine lve (d := 3) rfl rfl (by kernel_rfl) (new_blk (v := fun g_ => .slice (some ⟨g_, 0, none⟩) 0 0) (cs := #[]) (t := 5) S14 (by kernel_rfl)) ?_
  rintro _ w16 ⟨g17, rfl, b18, S19, K20⟩
  replace b13 := K20.blk 0 rfl b13
  replace b8 := K20.blk 1 rfl b8
  have S21 := S19.unit
  have S22 := S21.pull (F := (is g17)) (Fr := [no, (is g12), (is g7)]) 1 rfl rfl
  obtain ⟨h23, S24⟩ := row_lit (d := tByte) (xs := ([] : List UInt8)) S22 b18 rfl (elsO_nil _ _ _ no) (Nat.le_of_ble_eq_true rfl)
  refine lv (d := 4) rfl rfl (by kernel_rfl) (e_fieldAddr (b := g7) (off := 0) (o := 2) Try.underlying36 rfl rfl (sz := 1) (by kernel_rfl) (by decide) (by kernel_rfl)) ?_
  refine lv (d := 5) rfl rfl (by kernel_rfl) (e_load1 (ad := ⟨g7, 0 + 2, none⟩) (v := .slice A2 x1.text.length c3) Try.underlying26 rfl (by kernel_rfl) (blk_cell b8 rfl)) ?_
  obtain ⟨y25, h26, h27⟩ := Rd.news (d := tByte) (ro_scal _ _) S24 h4
  obtain ⟨q28, M⟩ := chk M
  have S29 := S24.unit
  have S30 := S29.pull (F := (or2 (is g17) no)) (Fr := [no, (is g12), (is g7)]) 1 rfl rfl
  refine lve (d := 6) rfl rfl (by kernel_rfl) (e_append (d := tByte) (n := 0) (xs := ([] : List UInt8)) (cap := 0) (A := (some ⟨g17, 0, none⟩)) (ys := x1.text) (A2 := A2) (c2 := c3) (z := .int .u8 0) (bytes := 1) S30 Try.underlying26 (by kernel_rfl) rfl (by decide) (by kernel_rfl) rfl (by kernel_rfl) h23 h26 h27 (show (0 + x1.text.length) * 1 ≤ _ by first | omega | (simp only [List.length_cons, List.length_nil]; omega)) (by decide)) ?_
  rintro _ w31 ⟨A32, c33, F34, rfl, h35, S36, K37⟩
  replace b13 := K37.blk 0 rfl b13
  replace b8 := K37.blk 1 rfl b8
  refine lv (d := 7) rfl rfl (by kernel_rfl) (e_fieldAddr (b := g7) (off := 0) (o := 2) Try.underlying36 rfl rfl (sz := 1) (by kernel_rfl) (by decide) (by kernel_rfl)) ?_
  have S38 := S36.pull (F := (is g7)) (Fr := [F34, (is g12)]) 2 rfl rfl
  refine lse rfl rfl (by kernel_rfl) (e_store (g := g7) (o := 0 + 2) (v := .slice A32 ((([] : List UInt8) ++ x1.text).length) c33) (cur' := #[.int .i64 x1.kind, .int .i64 x1.n, .slice A32 ((([] : List UInt8) ++ x1.text).length) c33]) (vs := [.slice A32 ((([] : List UInt8) ++ x1.text).length) c33]) S38 (by kernel_rfl) (by kernel_rfl) rfl (by kernel_rfl) b8 (Nat.le_of_ble_eq_true rfl) (List.forall_mem_cons.2 ⟨rfl, (fun _ h_ => by cases h_)⟩) rfl) ?_
  rintro w39 ⟨b40, S41, K42⟩
  replace h35 := h35.move (K42.at 0 rfl)
  replace b13 := K42.blk 1 rfl b13
  clear b8
  refine wpList_nil ?_
  refine then_n ?_
  refine wp_seq ?_
  refine wp_region_lit ?_
  refine lv (d := 8) rfl rfl (by kernel_rfl) (e_loadS (b := g7) (off := 0) (cs := [.int .i64 x1.kind, .int .i64 x1.n, .slice A32 ((([] : List UInt8) ++ x1.text).length) c33]) Try.underlying36 rfl (by kernel_rfl) (by kernel_rfl) (blk_cells b40 rfl)) ?_
  have S43 := S41.pull (F := (is g12)) (Fr := [(is g7), F34]) 2 rfl rfl
  refine lse rfl rfl (by kernel_rfl) (e_store (g := g12) (o := 0) (v := .agg #[.int .i64 x1.kind, .int .i64 x1.n, .slice A32 ((([] : List UInt8) ++ x1.text).length) c33]) (cur' := #[.int .i64 x1.kind, .int .i64 x1.n, .slice A32 ((([] : List UInt8) ++ x1.text).length) c33]) (vs := [.int .i64 x1.kind, .int .i64 x1.n, .slice A32 ((([] : List UInt8) ++ x1.text).length) c33]) S43 (by kernel_rfl) (by kernel_rfl) rfl (by kernel_rfl) b13 (Nat.le_of_ble_eq_true rfl) (List.forall_mem_cons.2 ⟨rfl, (List.forall_mem_cons.2 ⟨rfl, (List.forall_mem_cons.2 ⟨rfl, (fun _ h_ => by cases h_)⟩)⟩)⟩) rfl) ?_
  rintro w44 ⟨b45, S46, K47⟩
  replace b40 := K47.blk 0 rfl b40
  replace h35 := h35.move (K47.at 1 rfl)
  clear b13
  refine wpList_nil ?_
  refine then_n ?_
  refine wp_ret ?_
  obtain rfl := Option.some.inj M
  have S48 := S46.pull (F := F34) (Fr := [(is g12), (is g7)]) 2 rfl rfl
  have S49 := St.first (Fa := [F34]) (Fr := [(is g12), (is g7)]) S48
  exact retS (ty := 36) (cur := #[.int .i64 x1.kind, .int .i64 x1.n, .slice A32 ((([] : List UInt8) ++ x1.text).length) c33]) rfl rfl (by kernel_rfl) b45 Try.underlying36 rfl (by kernel_rfl) ⟨A32, c33, F34, H, rfl, h35, S49⟩

/-! impl_copyStore -/
def impl_copyStore.l0 : Nat → Store → Int → (List Cell) → Option Store
  | 0, _, _, _ => none
  | k71 + 1, x1, x55, x56 => (if x55 < (x1.cells.length : Int) then (if 0 ≤ x55 then ((impl_copyCell.f (x1.cells.getD ((x55).toNat) z36)).bind fun t110 => (if x56.length + 1 ≤ 3518437208883 then (impl_copyStore.l0 k71 x1 (IntKind.i64.wrap (x55 + 1)) (x56 ++ [t110])) else none)) else none) else some (⟨x56, (([] : List Int) ++ x1.trail)⟩ : Store))
def impl_copyStore.f (k : Nat) (x1 : Store) : Option Store := (if 0 + x1.trail.length ≤ 17592186044416 then (impl_copyStore.l0 k x1 0 []) else none)
theorem impl_copyStore.calls (k : Nat) (w : World) (H : Hp) (x1 : Store) (A2 : Option Addr) (c3 : Nat) (A6 : Option Addr) (c7 : Nat) (h4 : Rd st36 H A2 x1.cells) (l5 : x1.cells.length ≤ c3) (h8 : Rd tInt H A6 x1.trail) (l9 : x1.trail.length ≤ c7) (S : Own [] H w) (r : Store) (M : impl_copyStore.f k x1 = some r) :
    Calls Try.prog 58 #[.agg #[.slice A2 x1.cells.length c3, .slice A6 x1.trail.length c7]] w (fun e e_w => ∃ (A_1 : Option Addr) (c_1 : Nat) (F_1 : Foot) (A_2 : Option Addr) (c_2 : Nat) (F_2 : Foot) (H_ : Hp), e = .returned (.agg #[.slice A_1 r.cells.length c_1, .slice A_2 r.trail.length c_2]) ∧ Row st36 36 H_ (hp e_w) F_1 A_1 c_1 r.cells ∧ Row tInt 3 H_ (hp e_w) F_2 A_2 c_2 r.trail ∧ St (anyOf []) H w [F_1, F_2] H_ e_w) := by
  rw [impl_copyStore.f] at M
  refine enter (l := [.agg #[.slice A2 x1.cells.length c3, .slice A6 x1.trail.length c7]]) 27 Try.func58 rfl rfl rfl ?_
  have S0_ := S.st
  refine wp_seq ?_
  refine wp_region_lit ?_
  refine lve (d := 1) rfl rfl (by kernel_rfl) (new_blk (v := fun g_ => .pointer (some ⟨g_, 0, none⟩)) (cs := #[.slice A2 x1.cells.length c3, .slice A6 x1.trail.length c7]) (t := 34) S0_ (by kernel_rfl)) ?_
  rintro _ w10 ⟨g11, rfl, b12, S13, K14⟩
  refine lve (d := 2) rfl rfl (by kernel_rfl) (new_blk (v := fun g_ => .pointer (some ⟨g_, 0, none⟩)) (cs := #[.slice none 0 0, .slice none 0 0]) (t := 34) S13 (by kernel_rfl)) ?_
  rintro _ w15 ⟨g16, rfl, b17, S18, K19⟩
  replace b12 := K19.blk 0 rfl b12
  refine wpList_nil ?_
  refine then_n ?_
  refine wp_seq ?_
  refine wp_region_lit ?_
  refine lve (d := 6) rfl rfl (by kernel_rfl) (new_blk (v := fun g_ => .slice (some ⟨g_, 0, none⟩) 0 0) (cs := #[]) (t := 3) S18 (by kernel_rfl)) ?_
  rintro _ w20 ⟨g21, rfl, b22, S23, K24⟩
  replace b17 := K24.blk 0 rfl b17
  replace b12 := K24.blk 1 rfl b12
  have S25 := S23.unit
  have S26 := S25.pull (F := (is g21)) (Fr := [no, (is g16), (is g11)]) 1 rfl rfl
  obtain ⟨h27, S28⟩ := row_lit (d := tInt) (xs := ([] : List Int)) S26 b22 rfl (elsO_nil _ _ _ no) (Nat.le_of_ble_eq_true rfl)
  refine lv (d := 7) rfl rfl (by kernel_rfl) (e_fieldAddr (b := g11) (off := 0) (o := 1) Try.underlying34 rfl rfl (sz := 1) (by kernel_rfl) (by decide) (by kernel_rfl)) ?_
  refine lv (d := 8) rfl rfl (by kernel_rfl) (e_load1 (ad := ⟨g11, 0 + 1, none⟩) (v := .slice A6 x1.trail.length c7) Try.underlying23 rfl (by kernel_rfl) (blk_cell b12 rfl)) ?_
  obtain ⟨y29, h30, h31⟩ := Rd.news (d := tInt) (ro_scal _ _) S28 h8
  obtain ⟨q32, M⟩ := chk M
  have S33 := S28.unit
  have S34 := S33.pull (F := (or2 (is g21) no)) (Fr := [no, (is g16), (is g11)]) 1 rfl rfl
  refine lve (d := 9) rfl rfl (by kernel_rfl) (e_append (d := tInt) (n := 0) (xs := ([] : List Int)) (cap := 0) (A := (some ⟨g21, 0, none⟩)) (ys := x1.trail) (A2 := A6) (c2 := c7) (z := .int .i64 0) (bytes := 8) S34 Try.underlying23 (by kernel_rfl) rfl (by decide) (by kernel_rfl) rfl (by kernel_rfl) h27 h30 h31 (show (0 + x1.trail.length) * 8 ≤ _ by first | omega | (simp only [List.length_cons, List.length_nil]; omega)) (by decide)) ?_
  rintro _ w35 ⟨A36, c37, F38, rfl, h39, S40, K41⟩
  replace b17 := K41.blk 0 rfl b17
  replace b12 := K41.blk 1 rfl b12
  refine lv (d := 10) rfl rfl (by kernel_rfl) (show _ = Result.ok (Next.value (.agg #[.slice none 0 0, .slice A36 ((([] : List Int) ++ x1.trail).length) c37])) w35 from by kernel_rfl) ?_
  refine lve (d := 3) rfl rfl (by kernel_rfl) (new_blk (v := fun g_ => .pointer (some ⟨g_, 0, none⟩)) (cs := #[.slice none 0 0, .slice none 0 0]) (t := 34) S40 (by kernel_rfl)) ?_
  rintro _ w42 ⟨g43, rfl, b44, S45, K46⟩
  replace h39 := h39.move (K46.at 0 rfl)
  replace b17 := K46.blk 1 rfl b17
  replace b12 := K46.blk 2 rfl b12
  refine lse rfl rfl (by kernel_rfl) (e_store (g := g43) (o := 0) (v := .agg #[.slice none 0 0, .slice A36 ((([] : List Int) ++ x1.trail).length) c37]) (cur' := #[.slice none 0 0, .slice A36 ((([] : List Int) ++ x1.trail).length) c37]) (vs := [.slice none 0 0, .slice A36 ((([] : List Int) ++ x1.trail).length) c37]) S45 (by kernel_rfl) (by kernel_rfl) rfl (by kernel_rfl) b44 (Nat.le_of_ble_eq_true rfl) (List.forall_mem_cons.2 ⟨rfl, (List.forall_mem_cons.2 ⟨rfl, (fun _ h_ => by cases h_)⟩)⟩) rfl) ?_
  rintro w47 ⟨b48, S49, K50⟩
  replace h39 := h39.move (K50.at 0 rfl)
  replace b17 := K50.blk 1 rfl b17
  replace b12 := K50.blk 2 rfl b12
  clear b44
  refine wpList_nil ?_
  refine then_n ?_
  refine wp_seq ?_
  refine wp_seq ?_
  refine wp_region_lit ?_
  refine lv (d := 11) rfl rfl (by kernel_rfl) (e_fieldAddr (b := g11) (off := 0) (o := 0) Try.underlying34 rfl rfl (sz := 1) (by kernel_rfl) (by decide) (by kernel_rfl)) ?_
  refine lv (d := 12) rfl rfl (by kernel_rfl) (e_load1 (ad := ⟨g11, 0 + 0, none⟩) (v := .slice A2 x1.cells.length c3) Try.underlying32 rfl (by kernel_rfl) (blk_cell b12 rfl)) ?_
  refine lv (d := 13) rfl rfl (by kernel_rfl) (e_len (A := A2) (n := x1.cells.length) (c := c3) Try.underlying32 (by kernel_rfl)) ?_
  refine lv (d := 14) rfl rfl (by kernel_rfl) (e_move (v := .int .i64 0) rfl) ?_
  refine wpList_nil ?_
  refine then_n ?_
  refine wp_block ?_
  have S72 := S49.unit
  have S73 := S72.pull (F := (is g16)) (Fr := [no, (is g43), F38, (is g11)]) 3 rfl rfl
  have S74 := S73.pull (F := F38) (Fr := [(is g16), no, (is g43), (is g11)]) 3 rfl rfl
  have S75 := S74.pull (F := (is g43)) (Fr := [F38, (is g16), no, (is g11)]) 3 rfl rfl
  have S76 := St.first (Fa := [(is g43), F38, (is g16), no]) (Fr := [(is g11)]) S75
  refine wp_loop_g (fun k69 a70 w51 => ∃ (f52 : Nat → Value) (H53 : Hp) (x55 : Int) (x56 : List Cell) (A57 : Option Addr) (c58 : Nat) (F59 : Foot), a70 = mk 27 f52 ∧ f52 2 = .pointer (some ⟨g16, 0, none⟩) ∧ f52 3 = .pointer (some ⟨g43, 0, none⟩) ∧ f52 12 = .slice A2 x1.cells.length c3 ∧ f52 13 = .int .i64 (x1.cells.length : Int) ∧ f52 14 = .int .i64 x55 ∧ w51.heap[g43]? = some (.cells #[.slice A57 x56.length c58, .slice A36 ((([] : List Int) ++ x1.trail).length) c37] 34 (0, 0)) ∧ Row tInt 3 H53 (hp w51) F38 A36 c37 (([] : List Int) ++ x1.trail) ∧ w51.heap[g16]? = some (.cells #[.slice none 0 0, .slice none 0 0] 34 (0, 0)) ∧ Row st36 36 H53 (hp w51) F59 A57 c58 x56 ∧ Ext H H53 ∧ St (anyOf []) H w [(is g43), F38, (is g16), F59] H53 w51 ∧ impl_copyStore.l0 k69 x1 x55 x56 = some r) k ⟨_, H, 0, [], none, 0, no, rfl, (by kernel_rfl), (by kernel_rfl), (by kernel_rfl), (by kernel_rfl), (by kernel_rfl), b48, h39, b17, (Row.nil _ _ _ _ _), (Ext.refl _), S76, M⟩ ?_
  clear M
  rintro k69 a70 w51 ⟨f52, H53, x55, x56, A57, c58, F59, rfl, e61, e62, e63, e64, e65, b48, h39, b17, h60, Y54, S66, M⟩
  rcases k69 with _ | k71
  · rw [impl_copyStore.l0] at M
    cases M
  rw [impl_copyStore.l0] at M
  refine wp_seq ?_
  refine wp_region_lit ?_
  refine lv (d := 15) rfl rfl (by kernel_rfl) (e_lss (k := .i64) (a := x55) (b := (x1.cells.length : Int)) (by exact e65) (by exact e64)) ?_
  refine wpList_nil ?_
  refine then_n ?_
  refine wp_seq ?_
  by_cases q77 : x55 < (x1.cells.length : Int)
  · replace M := ifp q77 M
    refine cond_t rfl (bt q77 (by kernel_rfl)) ?_
    refine wp_skip ?_
    refine then_n ?_
    refine wp_seq ?_
    refine wp_block ?_
    refine wp_seq ?_
    refine wp_region_lit ?_
    obtain ⟨q78, M⟩ := chk M
    obtain ⟨b79, o80, e81⟩ := Rd.addr h4 (show (x55).toNat < x1.cells.length by omega)
    obtain ⟨y82, r83, k84⟩ := Rd.at h4 e81 (getD_some z36 (show (x55).toNat < x1.cells.length by omega))
    obtain ⟨A85, c86, rfl, l87, h88⟩ := st36_open r83
    refine lv (d := 16) rfl rfl (by kernel_rfl) (e_indexAddr (b := b79) (off := o80) (n := x1.cells.length) (c := c3) (sz := 3) (i := x55) (k := .i64) Try.underlying32 e81 (by kernel_rfl) (by exact e63) (by exact e65) q78 q77) ?_
    refine lv (d := 17) rfl rfl (by kernel_rfl) (e_loadS (b := b79) (off := o80 + (x55 : Int).toNat * 3) (cs := [.int .i64 ((x1.cells.getD ((x55).toNat) z36).kind), .int .i64 ((x1.cells.getD ((x55).toNat) z36).n), .slice A85 ((x1.cells.getD ((x55).toNat) z36).text).length c86]) Try.underlying36 rfl (by kernel_rfl) (by kernel_rfl) (fun j_ u_ e_ => (hpx (S66.inv.cell (Y54.cell (k84 j_ u_ e_)))))) ?_
    refine lve (d := 5) rfl rfl (by kernel_rfl) (new_blk (v := fun g_ => .pointer (some ⟨g_, 0, none⟩)) (cs := #[.int .i64 0, .int .i64 0, .slice none 0 0]) (t := 36) S66 (by kernel_rfl)) ?_
    rintro _ w89 ⟨g90, rfl, b91, S92, K93⟩
    replace b48 := K93.blk 0 rfl b48
    replace h39 := h39.move (K93.at 1 rfl)
    replace b17 := K93.blk 2 rfl b17
    replace h60 := h60.move (K93.at 3 rfl)
    refine lse rfl rfl (by kernel_rfl) (e_store (g := g90) (o := 0) (v := .agg #[.int .i64 ((x1.cells.getD ((x55).toNat) z36).kind), .int .i64 ((x1.cells.getD ((x55).toNat) z36).n), .slice A85 ((x1.cells.getD ((x55).toNat) z36).text).length c86]) (cur' := #[.int .i64 ((x1.cells.getD ((x55).toNat) z36).kind), .int .i64 ((x1.cells.getD ((x55).toNat) z36).n), .slice A85 ((x1.cells.getD ((x55).toNat) z36).text).length c86]) (vs := [.int .i64 ((x1.cells.getD ((x55).toNat) z36).kind), .int .i64 ((x1.cells.getD ((x55).toNat) z36).n), .slice A85 ((x1.cells.getD ((x55).toNat) z36).text).length c86]) S92 (by kernel_rfl) (by kernel_rfl) rfl (by kernel_rfl) b91 (Nat.le_of_ble_eq_true rfl) (List.forall_mem_cons.2 ⟨rfl, (List.forall_mem_cons.2 ⟨rfl, (List.forall_mem_cons.2 ⟨rfl, (fun _ h_ => by cases h_)⟩)⟩)⟩) rfl) ?_
    rintro w94 ⟨b95, S96, K97⟩
    replace b48 := K97.blk 0 rfl b48
    replace h39 := h39.move (K97.at 1 rfl)
    replace b17 := K97.blk 2 rfl b17
    replace h60 := h60.move (K97.at 3 rfl)
    clear b91
    refine wpList_nil ?_
    refine then_n ?_
    refine region_mix (S := (fun (L_ : Array Bool) (w_ : World) => Ext H53 (hp w_) ∧ (L_.getD 7 true = false → (∀ b_, (is g43) b_ → hp w_ b_ = hp w94 b_)))) (by kernel_rfl) S96 ?_
    intro w98 S99 K100 hc101
    have o102 := b48
    have hs103 : (fun (L_ : Array Bool) (w_ : World) => Ext H53 (hp w_) ∧ (L_.getD 7 true = false → (∀ b_, (is g43) b_ → hp w_ b_ = hp w94 b_))) (Array.replicate 8 false) w98 := ⟨S99.inv, (fun _ => (fun b_ h_ => K100.at 1 rfl b_ h_))⟩
    replace b95 := K100.blk 0 rfl b95
    replace b48 := K100.blk 1 rfl b48
    replace h39 := h39.move (K100.at 2 rfl)
    replace b17 := K100.blk 3 rfl b17
    replace h60 := h60.move (K100.at 4 rfl)
    refine xv (i := 0) (d := 18) rfl rfl rfl (by kernel_rfl) (by kernel_rfl) (fun L_ w_ => by simp only [getD_set_ne true (show (0 : Nat) ≠ 7 by decide)]) hc101 hs103 (fun L_ w_ hc_ hu_ hs_ => e_fieldAddr (b := g43) (off := 0) (o := 0) Try.underlying34 rfl rfl (sz := 1) (by kernel_rfl) (by decide) (by exact e62)) ?_; intro hc104 hs105
    refine xv (i := 1) (d := 19) rfl rfl rfl (by kernel_rfl) (by kernel_rfl) (fun L_ w_ => by simp only [getD_set_ne true (show (1 : Nat) ≠ 7 by decide)]) hc104 hs105 (fun L_ w_ hc_ hu_ hs_ => e_load1 (ad := ⟨g43, 0 + 0, none⟩) (v := .slice A57 x56.length c58) Try.underlying32 rfl (by kernel_rfl) (blk_cell (((hs_.2 (unl 9 7 1 hc_ hu_ (by kernel_rfl))) _ rfl).trans o102) rfl)) ?_; intro hc106 hs107
    refine xone (i := 2) (by kernel_rfl) hc106 ?_
    refine yo (i := 2) (d := 20) rfl rfl (wanted_none rfl _) (by kernel_rfl) (by kernel_rfl) (fun L_ w_ => by simp only [getD_set_ne true (show (2 : Nat) ≠ 7 by decide)]) hs107 (e_loadS (b := g90) (off := 0) (cs := [.int .i64 ((x1.cells.getD ((x55).toNat) z36).kind), .int .i64 ((x1.cells.getD ((x55).toNat) z36).n), .slice A85 ((x1.cells.getD ((x55).toNat) z36).text).length c86]) Try.underlying36 rfl (by kernel_rfl) (by kernel_rfl) (blk_cells b95 rfl)) ?_; intro hc108 hs109
    obtain ⟨t110, u111, M⟩ := bnd M
    refine xone (i := 3) (by kernel_rfl) hc108 ?_
    refine yc (i := 3) rfl (wanted_none rfl _) (by kernel_rfl) (by kernel_rfl) (e_call (l := [.tmp 20]) (vs := [.agg #[.int .i64 ((x1.cells.getD ((x55).toNat) z36).kind), .int .i64 ((x1.cells.getD ((x55).toNat) z36).n), .slice A85 ((x1.cells.getD ((x55).toNat) z36).text).length c86]]) Try.func49 (by kernel_rfl) rfl (by kernel_rfl) rfl) (impl_copyCell.calls w98 H53 (x1.cells.getD ((x55).toNat) z36) A85 c86 (h88.ext Y54) l87 (St.own' (Fa := []) (Fr := [(is g90), (is g43), F38, (is g16), F59]) S99) t110 u111) ?_
    rintro hc119 _ w112 ⟨A115, c116, F118, H113, rfl, h117, T114⟩
    refine ⟨_, rfl, ?_⟩
    obtain ⟨S120, K121⟩ := St.call (Fa := []) (Fr := [(is g90), (is g43), F38, (is g16), F59]) S99 T114
    replace b95 := K121.blk 0 rfl b95
    replace b48 := K121.blk 1 rfl b48
    replace h39 := h39.move (K121.at 2 rfl)
    replace b17 := K121.blk 3 rfl b17
    replace h60 := h60.move (K121.at 4 rfl)
    have E122 := T114.ext
    replace h39 := h39.ext E122
    replace h60 := h60.ext E122
    refine ⟨⟨(Ext.trans E122 S120.inv), (fun q_ => (fun b_ h_ => (K121.at 1 rfl b_ h_).trans ((hs109.2 (by decide +kernel)) b_ h_)))⟩, fun hs123 => ?_⟩
    refine xone (i := 4) (by kernel_rfl) hc119 ?_
    refine ye (i := 4) (d := 22) rfl rfl (wanted_none rfl _) (by kernel_rfl) (by kernel_rfl) (new_blk (v := fun g_ => .slice (some ⟨g_, 0, none⟩) 1 1) (cs := #[.int .i64 t110.kind, .int .i64 t110.n, .slice A115 t110.text.length c116]) (t := 36) S120 (by kernel_rfl)) ?_
    rintro hc129 _ w124 ⟨g125, rfl, b126, S127, K128⟩
    replace h117 := h117.move (K128.at 0 rfl)
    replace b95 := K128.blk 1 rfl b95
    replace b48 := K128.blk 2 rfl b48
    replace h39 := h39.move (K128.at 3 rfl)
    replace b17 := K128.blk 4 rfl b17
    replace h60 := h60.move (K128.at 5 rfl)
    refine ⟨⟨(Ext.trans E122 S127.inv), (fun q_ => (fun b_ h_ => (K128.at 2 rfl b_ h_).trans ((hs123.2 (by decide +kernel)) b_ h_)))⟩, fun hs130 => ?_⟩
    obtain ⟨q131, M⟩ := chk M
    have S132 := S127.pull (F := F118) (Fr := [(is g125), (is g90), (is g43), F38, (is g16), F59]) 1 rfl rfl
    have S133 := S132.pull (F := F59) (Fr := [F118, (is g125), (is g90), (is g43), F38, (is g16)]) 6 rfl rfl
    refine xone (i := 5) (by kernel_rfl) hc129 ?_
    refine ye (i := 5) (d := 23) rfl rfl (wanted_none rfl _) (by kernel_rfl) (by kernel_rfl) (e_append (d := st36) (n := x56.length) (xs := x56) (cap := c58) (A := A57) (ys := [t110]) (A2 := (some ⟨g125, 0, none⟩)) (c2 := 1) (z := .agg #[.int .i64 0, .int .i64 0, .slice none 0 0]) (bytes := 40) S133 Try.underlying32 (by kernel_rfl) rfl (by decide) (by kernel_rfl) rfl (by kernel_rfl) h60 (elsO_one1 (st36_mkO (x := t110) h117)) (.inr (blk_news b126 rfl)) (show (x56.length + [t110].length) * 40 ≤ _ by first | omega | (simp only [List.length_cons, List.length_nil]; omega)) (by decide)) ?_
    rintro hc141 _ w134 ⟨A135, c136, F137, rfl, h138, S139, K140⟩
    replace b126 := K140.blk 0 rfl b126
    replace b95 := K140.blk 1 rfl b95
    replace b48 := K140.blk 2 rfl b48
    replace h39 := h39.move (K140.at 3 rfl)
    replace b17 := K140.blk 4 rfl b17
    refine ⟨⟨(Ext.trans E122 S139.inv), (fun q_ => (fun b_ h_ => (K140.at 2 rfl b_ h_).trans ((hs130.2 (by decide +kernel)) b_ h_)))⟩, fun hs142 => ?_⟩
    refine xone (i := 6) (by kernel_rfl) hc141 ?_
    refine yo (i := 6) (d := 24) rfl rfl (wanted_none rfl _) (by kernel_rfl) (by kernel_rfl) (fun L_ w_ => by simp only [getD_set_ne true (show (6 : Nat) ≠ 7 by decide)]) hs142 (e_fieldAddr (b := g43) (off := 0) (o := 0) Try.underlying34 rfl rfl (sz := 1) (by kernel_rfl) (by decide) (by exact e62)) ?_; intro hc143 hs144
    have S145 := S139.pull (F := (is g43)) (Fr := [F137, (is g125), (is g90), F38, (is g16)]) 3 rfl rfl
    refine xone (i := 7) (by kernel_rfl) hc143 ?_
    refine ys (i := 7) rfl rfl (wanted_none rfl _) (by kernel_rfl) (by kernel_rfl) (e_store (g := g43) (o := 0 + 0) (v := .slice A135 ((x56 ++ [t110]).length) c136) (cur' := #[.slice A135 ((x56 ++ [t110]).length) c136, .slice A36 ((([] : List Int) ++ x1.trail).length) c37]) (vs := [.slice A135 ((x56 ++ [t110]).length) c136]) S145 (by kernel_rfl) (by kernel_rfl) rfl (by kernel_rfl) b48 (Nat.le_of_ble_eq_true rfl) (List.forall_mem_cons.2 ⟨rfl, (fun _ h_ => by cases h_)⟩) rfl) ?_
    rintro hc150 w146 ⟨b147, S148, K149⟩
    replace h138 := h138.move (K149.at 0 rfl)
    replace b126 := K149.blk 1 rfl b126
    replace b95 := K149.blk 2 rfl b95
    replace h39 := h39.move (K149.at 3 rfl)
    replace b17 := K149.blk 4 rfl b17
    refine ⟨⟨(Ext.trans E122 S148.inv), (fun q_ => absurd q_ (by decide +kernel))⟩, fun hs151 => ?_⟩
    clear b48
    refine xn (by kernel_rfl) ?_ _
    refine inb_n ?_
    refine then_n ?_
    refine wp_region_lit ?_
    refine lv (d := 25) rfl rfl (by kernel_rfl) (e_add (k := .i64) (a := x55) (b := 1) (by exact e65) rfl) ?_
    refine lv (d := 14) rfl rfl (by kernel_rfl) (e_move (v := .int .i64 (IntKind.i64.wrap (x55 + 1))) (by kernel_rfl)) ?_
    refine wpList_nil ?_
    refine then_n ?_
    have S152 := S148.pull (F := F137) (Fr := [(is g43), (is g125), (is g90), F38, (is g16)]) 1 rfl rfl
    have S153 := S152.pull (F := (is g16)) (Fr := [F137, (is g43), (is g125), (is g90), F38]) 5 rfl rfl
    have S154 := S153.pull (F := F38) (Fr := [(is g16), F137, (is g43), (is g125), (is g90)]) 5 rfl rfl
    have S155 := S154.pull (F := (is g43)) (Fr := [F38, (is g16), F137, (is g125), (is g90)]) 3 rfl rfl
    have S156 := St.first (Fa := [(is g43), F38, (is g16), F137]) (Fr := [(is g125), (is g90)]) S155
    exact ⟨k71, (by omega), _, H113, (IntKind.i64.wrap (x55 + 1)), (x56 ++ [t110]), A135, c136, F137, rfl, (by exact e61), (by exact e62), (by exact e63), (by exact e64), (by kernel_rfl), b147, h39, b17, h138, (Y54.trans E122), S156, M⟩
  replace M := ifn q77 M
  refine cond_f rfl (bf q77 (by kernel_rfl)) ?_
  refine wp_exit ?_
  refine then_e ?_
  refine then_e ?_
  refine inb_hit ?_
  refine then_n ?_
  refine wp_seq ?_
  refine wp_region_lit ?_
  refine lv (d := 26) rfl rfl (by kernel_rfl) (e_loadS (b := g43) (off := 0) (cs := [.slice A57 x56.length c58, .slice A36 ((([] : List Int) ++ x1.trail).length) c37]) Try.underlying34 rfl (by kernel_rfl) (by exact e62) (blk_cells b48 rfl)) ?_
  have S157 := S66.pull (F := (is g16)) (Fr := [(is g43), F38, F59]) 2 rfl rfl
  refine lse rfl rfl (by kernel_rfl) (e_store (g := g16) (o := 0) (v := .agg #[.slice A57 x56.length c58, .slice A36 ((([] : List Int) ++ x1.trail).length) c37]) (cur' := #[.slice A57 x56.length c58, .slice A36 ((([] : List Int) ++ x1.trail).length) c37]) (vs := [.slice A57 x56.length c58, .slice A36 ((([] : List Int) ++ x1.trail).length) c37]) S157 (by exact e61) (by kernel_rfl) rfl (by kernel_rfl) b17 (Nat.le_of_ble_eq_true rfl) (List.forall_mem_cons.2 ⟨rfl, (List.forall_mem_cons.2 ⟨rfl, (fun _ h_ => by cases h_)⟩)⟩) rfl) ?_
  rintro w158 ⟨b159, S160, K161⟩
  replace b48 := K161.blk 0 rfl b48
  replace h39 := h39.move (K161.at 1 rfl)
  replace h60 := h60.move (K161.at 2 rfl)
  clear b17
  refine wpList_nil ?_
  refine then_n ?_
  refine wp_ret ?_
  obtain rfl := Option.some.inj M
  have S162 := S160.pull (F := F38) (Fr := [(is g16), (is g43), F59]) 2 rfl rfl
  have S163 := S162.pull (F := F59) (Fr := [F38, (is g16), (is g43)]) 3 rfl rfl
  have S164 := St.first (Fa := [F59, F38]) (Fr := [(is g16), (is g43)]) S163
  exact retS (ty := 34) (cur := #[.slice A57 x56.length c58, .slice A36 ((([] : List Int) ++ x1.trail).length) c37]) rfl rfl (by exact e61) b159 Try.underlying34 rfl (by kernel_rfl) ⟨A57, c58, F59, A36, c37, F38, H53, rfl, h60, h39, S164⟩

/-! impl_ref -/
def impl_ref.f (x1 : Int) : Option Cell := some (⟨0, x1, []⟩ : Cell)
theorem impl_ref.calls (w : World) (H : Hp) (x1 : Int) (S : Own [] H w) (r : Cell) (M : impl_ref.f x1 = some r) :
    Calls Try.prog 69 #[.int .i64 x1] w (fun e e_w => ∃ (A_1 : Option Addr) (c_1 : Nat) (F_1 : Foot) (H_ : Hp), e = .returned (.agg #[.int .i64 r.kind, .int .i64 r.n, .slice A_1 r.text.length c_1]) ∧ Row tByte 5 H_ (hp e_w) F_1 A_1 c_1 r.text ∧ St (anyOf []) H w [F_1] H_ e_w) := by
  rw [impl_ref.f] at M
  refine enter (l := [.int .i64 x1]) 5 Try.func69 rfl rfl rfl ?_
  have S0_ := S.st
  refine wp_seq ?_
  refine wp_region_lit ?_
  refine lve (d := 2) rfl rfl (by kernel_rfl) (new_blk (v := fun g_ => .pointer (some ⟨g_, 0, none⟩)) (cs := #[.int .i64 0, .int .i64 0, .slice none 0 0]) (t := 36) S0_ (by kernel_rfl)) ?_
  rintro _ w2 ⟨g3, rfl, b4, S5, K6⟩
  refine wpList_nil ?_
  refine then_n ?_
  refine wp_seq ?_
  refine wp_region_lit ?_
  refine lv (d := 3) rfl rfl (by kernel_rfl) (e_move (v := .int .i64 x1) (by kernel_rfl)) ?_
  refine lv (d := 4) rfl rfl (by kernel_rfl) (show _ = Result.ok (Next.value (.agg #[.int .i64 0, .int .i64 x1, .slice none 0 0])) w2 from by kernel_rfl) ?_
  refine lse rfl rfl (by kernel_rfl) (e_store (g := g3) (o := 0) (v := .agg #[.int .i64 0, .int .i64 x1, .slice none 0 0]) (cur' := #[.int .i64 0, .int .i64 x1, .slice none 0 0]) (vs := [.int .i64 0, .int .i64 x1, .slice none 0 0]) S5 (by kernel_rfl) (by kernel_rfl) rfl (by kernel_rfl) b4 (Nat.le_of_ble_eq_true rfl) (List.forall_mem_cons.2 ⟨rfl, (List.forall_mem_cons.2 ⟨rfl, (List.forall_mem_cons.2 ⟨rfl, (fun _ h_ => by cases h_)⟩)⟩)⟩) rfl) ?_
  rintro w7 ⟨b8, S9, K10⟩
  clear b4
  refine wpList_nil ?_
  refine then_n ?_
  refine wp_ret ?_
  obtain rfl := Option.some.inj M
  have S11 := S9.unit
  have S12 := St.first (Fa := [no]) (Fr := [(is g3)]) S11
  exact retS (ty := 36) (cur := #[.int .i64 0, .int .i64 x1, .slice none 0 0]) rfl rfl (by kernel_rfl) b8 Try.underlying36 rfl (by kernel_rfl) ⟨none, 0, no, H, rfl, (Row.nil _ _ _ _ no), S12⟩

/-! impl_Store_unwind -/
def impl_Store_unwind.l0 : Nat → Store → Int → Int → Int → (List Cell) → Option Store
  | 0, _, _, _, _, _ => none
  | k31 + 1, x1, x12, x13, x18, x20 => (if x18 ≥ x12 then (if 0 ≤ x18 then (if x18 < (x1.trail.length : Int) then ((impl_ref.f (x1.trail.getD ((x18).toNat) (0 : Int))).bind fun t84 => (if 0 ≤ (x1.trail.getD ((x18).toNat) (0 : Int)) then (if (x1.trail.getD ((x18).toNat) (0 : Int)) < (x1.cells.length : Int) then (impl_Store_unwind.l0 k31 x1 x12 x13 (IntKind.i64.wrap (x18 - 1)) (x20.set (((x1.trail.getD ((x18).toNat) (0 : Int))).toNat) t84)) else none) else none)) else none) else none) else (if 0 ≤ x12 then (if x12 ≤ (x1.trail.length : Int) then (if 0 ≤ x13 then (if x13 ≤ (x1.cells.length : Int) then some (⟨(x20.take ((x13 : Int).toNat)), (x1.trail.take ((x12 : Int).toNat))⟩ : Store) else none) else none) else none) else none))
def impl_Store_unwind.f (k : Nat) (x1 : Store) (x12 : Int) (x13 : Int) : Option Store := (impl_Store_unwind.l0 k x1 x12 x13 (IntKind.i64.wrap ((x1.trail.length : Int) - 1)) x1.cells)
theorem impl_Store_unwind.calls (k : Nat) (w : World) (H : Hp) (x1 : Store) (g2 : Nat) (A4 : Option Addr) (c5 : Nat) (F7 : Foot) (A8 : Option Addr) (c9 : Nat) (F11 : Foot) (x12 : Int) (x13 : Int) (h6 : Row st36 36 H (hp w) F7 A4 c5 x1.cells) (h10 : Row tInt 3 H (hp w) F11 A8 c9 x1.trail) (b3 : w.heap[g2]? = some (.cells #[.slice A4 x1.cells.length c5, .slice A8 x1.trail.length c9] 34 (0, 0))) (S : Own [F7, F11, (is g2)] H w) (r : Store) (M : impl_Store_unwind.f k x1 x12 x13 = some r) :
    Calls Try.prog 59 #[.pointer (some ⟨g2, 0, none⟩), .int .i64 x12, .int .i64 x13] w (fun e e_w => ∃ (A_1 : Option Addr) (c_1 : Nat) (F_1 : Foot) (A_2 : Option Addr) (c_2 : Nat) (F_2 : Foot) (H_ : Hp), e = .returned (.tuple #[]) ∧ Row st36 36 H_ (hp e_w) F_1 A_1 c_1 r.cells ∧ Row tInt 3 H_ (hp e_w) F_2 A_2 c_2 r.trail ∧ e_w.heap[g2]? = some (.cells #[.slice A_1 r.cells.length c_1, .slice A_2 r.trail.length c_2] 34 (0, 0)) ∧ St (anyOf [F7, F11, (is g2)]) H w [(is g2), F_1, F_2] H_ e_w) := by
  rw [impl_Store_unwind.f] at M
  refine enter (l := [.pointer (some ⟨g2, 0, none⟩), .int .i64 x12, .int .i64 x13]) 56 Try.func59 rfl rfl rfl ?_
  have S0_ := S.st
  refine wp_seq ?_
  refine wp_seq ?_
  refine wp_region_lit ?_
  refine lv (d := 7) rfl rfl (by kernel_rfl) (e_move (v := .pointer (some ⟨g2, 0, none⟩)) (by kernel_rfl)) ?_
  refine lv (d := 8) rfl rfl (by kernel_rfl) (e_nilCheck (ad := ⟨g2, 0, none⟩) (by kernel_rfl)) ?_
  refine lv (d := 9) rfl rfl (by kernel_rfl) (e_fieldAddr (b := g2) (off := 0) (o := 1) Try.underlying34 rfl rfl (sz := 1) (by kernel_rfl) (by decide) (by kernel_rfl)) ?_
  refine lv (d := 10) rfl rfl (by kernel_rfl) (e_load1 (ad := ⟨g2, 0 + 1, none⟩) (v := .slice A8 x1.trail.length c9) Try.underlying23 rfl (by kernel_rfl) (blk_cell b3 rfl)) ?_
  refine lv (d := 11) rfl rfl (by kernel_rfl) (e_len (A := A8) (n := x1.trail.length) (c := c9) Try.underlying23 (by kernel_rfl)) ?_
  refine lv (d := 12) rfl rfl (by kernel_rfl) (e_sub (k := .i64) (a := (x1.trail.length : Int)) (b := 1) (by kernel_rfl) rfl) ?_
  refine lv (d := 6) rfl rfl (by kernel_rfl) (e_assign (v := .int .i64 (IntKind.i64.wrap ((x1.trail.length : Int) - 1))) (by kernel_rfl)) ?_
  refine wpList_nil ?_
  refine then_n ?_
  refine wp_block ?_
  refine wp_loop_g (fun k29 a30 w14 => ∃ (f15 : Nat → Value) (H16 : Hp) (x18 : Int) (F19 : Foot) (x20 : List Cell), a30 = mk 56 f15 ∧ f15 0 = .pointer (some ⟨g2, 0, none⟩) ∧ f15 1 = .int .i64 x12 ∧ f15 2 = .int .i64 x13 ∧ f15 6 = .int .i64 x18 ∧ Row st36 36 H16 (hp w14) F19 A4 c5 x20 ∧ Row tInt 3 H16 (hp w14) F11 A8 c9 x1.trail ∧ w14.heap[g2]? = some (.cells #[.slice A4 x1.cells.length c5, .slice A8 x1.trail.length c9] 34 (0, 0)) ∧ x20.length = x1.cells.length ∧ Ext H H16 ∧ St (anyOf [F7, F11, (is g2)]) H w [F19, F11, (is g2)] H16 w14 ∧ impl_Store_unwind.l0 k29 x1 x12 x13 x18 x20 = some r) k ⟨_, H, (IntKind.i64.wrap ((x1.trail.length : Int) - 1)), F7, x1.cells, rfl, (by kernel_rfl), (by kernel_rfl), (by kernel_rfl), (by kernel_rfl), h6, h10, b3, rfl, (Ext.refl _), S0_, M⟩ ?_
  clear M
  rintro k29 a30 w14 ⟨f15, H16, x18, F19, x20, rfl, e22, e23, e24, e25, h6, h10, b3, n21, Y17, S26, M⟩
  rcases k29 with _ | k31
  · rw [impl_Store_unwind.l0] at M
    cases M
  rw [impl_Store_unwind.l0] at M
  refine wp_seq ?_
  refine wp_seq ?_
  refine wp_region_lit ?_
  refine lv (d := 13) rfl rfl (by kernel_rfl) (e_move (v := .int .i64 x18) (by exact e25)) ?_
  refine lv (d := 14) rfl rfl (by kernel_rfl) (e_move (v := .int .i64 x12) (by exact e23)) ?_
  refine lv (d := 15) rfl rfl (by kernel_rfl) (e_geq (k := .i64) (a := x18) (b := x12) (by kernel_rfl) (by kernel_rfl)) ?_
  refine wpList_nil ?_
  refine then_n ?_
  by_cases q32 : x18 ≥ x12
  · replace M := ifp q32 M
    refine cond_t rfl (bt q32 (by kernel_rfl)) ?_
    refine wp_skip ?_
    refine then_n ?_
    refine wp_seq ?_
    refine wp_block ?_
    refine region_mix (S := (fun (L_ : Array Bool) (w_ : World) => Ext H16 (hp w_) ∧ (∀ b_, F11 b_ → hp w_ b_ = hp w14 b_) ∧ (∀ b_, (is g2) b_ → hp w_ b_ = hp w14 b_))) (by kernel_rfl) S26 ?_
    intro w33 S34 K35 hc36
    have o37 := h10
    have o38 := b3
    have hs39 : (fun (L_ : Array Bool) (w_ : World) => Ext H16 (hp w_) ∧ (∀ b_, F11 b_ → hp w_ b_ = hp w14 b_) ∧ (∀ b_, (is g2) b_ → hp w_ b_ = hp w14 b_)) (Array.replicate 21 false) w33 := ⟨S34.inv, (fun b_ h_ => K35.at 1 rfl b_ h_), (fun b_ h_ => K35.at 2 rfl b_ h_)⟩
    replace h6 := h6.move (K35.at 0 rfl)
    replace h10 := h10.move (K35.at 1 rfl)
    replace b3 := K35.blk 2 rfl b3
    refine xv (i := 0) (d := 18) rfl rfl rfl (by kernel_rfl) (by kernel_rfl) (fun _ _ => Iff.rfl) hc36 hs39 (fun L_ w_ hc_ hu_ hs_ => e_move (v := .pointer (some ⟨g2, 0, none⟩)) (by exact e22)) ?_; intro hc40 hs41
    refine xv (i := 1) (d := 19) rfl rfl rfl (by kernel_rfl) (by kernel_rfl) (fun _ _ => Iff.rfl) hc40 hs41 (fun L_ w_ hc_ hu_ hs_ => e_nilCheck (ad := ⟨g2, 0, none⟩) (by kernel_rfl)) ?_; intro hc42 hs43
    refine xv (i := 2) (d := 20) rfl rfl rfl (by kernel_rfl) (by kernel_rfl) (fun _ _ => Iff.rfl) hc42 hs43 (fun L_ w_ hc_ hu_ hs_ => e_fieldAddr (b := g2) (off := 0) (o := 0) Try.underlying34 rfl rfl (sz := 1) (by kernel_rfl) (by decide) (by kernel_rfl)) ?_; intro hc44 hs45
    refine xv (i := 3) (d := 21) rfl rfl rfl (by kernel_rfl) (by kernel_rfl) (fun _ _ => Iff.rfl) hc44 hs45 (fun L_ w_ hc_ hu_ hs_ => e_load1 (ad := ⟨g2, 0 + 0, none⟩) (v := .slice A4 x1.cells.length c5) Try.underlying32 rfl (by kernel_rfl) (blk_cell ((hs_.2.2 _ rfl).trans o38) rfl)) ?_; intro hc46 hs47
    refine xv (i := 4) (d := 22) rfl rfl rfl (by kernel_rfl) (by kernel_rfl) (fun _ _ => Iff.rfl) hc46 hs47 (fun L_ w_ hc_ hu_ hs_ => e_move (v := .pointer (some ⟨g2, 0, none⟩)) (by exact e22)) ?_; intro hc48 hs49
    refine xv (i := 5) (d := 23) rfl rfl rfl (by kernel_rfl) (by kernel_rfl) (fun _ _ => Iff.rfl) hc48 hs49 (fun L_ w_ hc_ hu_ hs_ => e_nilCheck (ad := ⟨g2, 0, none⟩) (by kernel_rfl)) ?_; intro hc50 hs51
    refine xv (i := 6) (d := 24) rfl rfl rfl (by kernel_rfl) (by kernel_rfl) (fun _ _ => Iff.rfl) hc50 hs51 (fun L_ w_ hc_ hu_ hs_ => e_fieldAddr (b := g2) (off := 0) (o := 1) Try.underlying34 rfl rfl (sz := 1) (by kernel_rfl) (by decide) (by kernel_rfl)) ?_; intro hc52 hs53
    refine xv (i := 7) (d := 25) rfl rfl rfl (by kernel_rfl) (by kernel_rfl) (fun _ _ => Iff.rfl) hc52 hs53 (fun L_ w_ hc_ hu_ hs_ => e_load1 (ad := ⟨g2, 0 + 1, none⟩) (v := .slice A8 x1.trail.length c9) Try.underlying23 rfl (by kernel_rfl) (blk_cell ((hs_.2.2 _ rfl).trans o38) rfl)) ?_; intro hc54 hs55
    refine xv (i := 8) (d := 26) rfl rfl rfl (by kernel_rfl) (by kernel_rfl) (fun _ _ => Iff.rfl) hc54 hs55 (fun L_ w_ hc_ hu_ hs_ => e_move (v := .int .i64 x18) (by exact e25)) ?_; intro hc56 hs57
    obtain ⟨q58, M⟩ := chk M
    obtain ⟨q59, M⟩ := chk M
    obtain ⟨b60, e62⟩ := Row.addr h10 (show (x18).toNat < x1.trail.length by omega)
    refine xv (i := 9) (d := 27) rfl rfl rfl (by kernel_rfl) (by kernel_rfl) (fun _ _ => Iff.rfl) hc56 hs57 (fun L_ w_ hc_ hu_ hs_ => e_indexAddr (b := b60) (off := 0) (n := x1.trail.length) (c := c9) (sz := 1) (i := x18) (k := .i64) Try.underlying23 e62 (by kernel_rfl) (by kernel_rfl) (by kernel_rfl) q58 q59) ?_; intro hc63 hs64
    refine xv (i := 10) (d := 28) rfl rfl rfl (by kernel_rfl) (by kernel_rfl) (fun _ _ => Iff.rfl) hc63 hs64 (fun L_ w_ hc_ hu_ hs_ => e_load1 (ad := ⟨b60, 0 + (x18 : Int).toNat * 1, none⟩) (v := .int .i64 (x1.trail.getD ((x18).toNat) (0 : Int))) Try.underlying3 rfl (by kernel_rfl) (hpx (Row.pick (j := 0) (u := .int .i64 (x1.trail.getD ((x18).toNat) (0 : Int))) (o37.move hs_.2.1) e62 (getD_some (0 : Int) (show (x18).toNat < x1.trail.length by omega)) (fun _ _ o_ => by rw [show _ = _ from o_]; rfl)))) ?_; intro hc65 hs66
    refine xv (i := 11) (d := 29) rfl rfl rfl (by kernel_rfl) (by kernel_rfl) (fun _ _ => Iff.rfl) hc65 hs66 (fun L_ w_ hc_ hu_ hs_ => e_move (v := .pointer (some ⟨g2, 0, none⟩)) (by exact e22)) ?_; intro hc67 hs68
    refine xv (i := 12) (d := 30) rfl rfl rfl (by kernel_rfl) (by kernel_rfl) (fun _ _ => Iff.rfl) hc67 hs68 (fun L_ w_ hc_ hu_ hs_ => e_nilCheck (ad := ⟨g2, 0, none⟩) (by kernel_rfl)) ?_; intro hc69 hs70
    refine xv (i := 13) (d := 31) rfl rfl rfl (by kernel_rfl) (by kernel_rfl) (fun _ _ => Iff.rfl) hc69 hs70 (fun L_ w_ hc_ hu_ hs_ => e_fieldAddr (b := g2) (off := 0) (o := 1) Try.underlying34 rfl rfl (sz := 1) (by kernel_rfl) (by decide) (by kernel_rfl)) ?_; intro hc71 hs72
    refine xv (i := 14) (d := 32) rfl rfl rfl (by kernel_rfl) (by kernel_rfl) (fun _ _ => Iff.rfl) hc71 hs72 (fun L_ w_ hc_ hu_ hs_ => e_load1 (ad := ⟨g2, 0 + 1, none⟩) (v := .slice A8 x1.trail.length c9) Try.underlying23 rfl (by kernel_rfl) (blk_cell ((hs_.2.2 _ rfl).trans o38) rfl)) ?_; intro hc73 hs74
    refine xone (i := 15) (by kernel_rfl) hc73 ?_
    refine yo (i := 15) (d := 33) rfl rfl (wanted_none rfl _) (by kernel_rfl) (by kernel_rfl) (fun _ _ => Iff.rfl) hs74 (e_move (v := .int .i64 x18) (by exact e25)) ?_; intro hc75 hs76
    obtain ⟨b77, e79⟩ := Row.addr h10 (show (x18).toNat < x1.trail.length by omega)
    refine xone (i := 16) (by kernel_rfl) hc75 ?_
    refine yo (i := 16) (d := 34) rfl rfl (wanted_none rfl _) (by kernel_rfl) (by kernel_rfl) (fun _ _ => Iff.rfl) hs76 (e_indexAddr (b := b77) (off := 0) (n := x1.trail.length) (c := c9) (sz := 1) (i := x18) (k := .i64) Try.underlying23 e79 (by kernel_rfl) (by kernel_rfl) (by kernel_rfl) q58 q59) ?_; intro hc80 hs81
    refine xone (i := 17) (by kernel_rfl) hc80 ?_
    refine yo (i := 17) (d := 35) rfl rfl (wanted_none rfl _) (by kernel_rfl) (by kernel_rfl) (fun _ _ => Iff.rfl) hs81 (e_load1 (ad := ⟨b77, 0 + (x18 : Int).toNat * 1, none⟩) (v := .int .i64 (x1.trail.getD ((x18).toNat) (0 : Int))) Try.underlying3 rfl (by kernel_rfl) (hpx (Row.pick (j := 0) (u := .int .i64 (x1.trail.getD ((x18).toNat) (0 : Int))) h10 e79 (getD_some (0 : Int) (show (x18).toNat < x1.trail.length by omega)) (fun _ _ o_ => by rw [show _ = _ from o_]; rfl)))) ?_; intro hc82 hs83
    obtain ⟨t84, u85, M⟩ := bnd M
    refine xone (i := 18) (by kernel_rfl) hc82 ?_
    refine yc (i := 18) rfl (wanted_none rfl _) (by kernel_rfl) (by kernel_rfl) (e_call (l := [.tmp 35]) (vs := [.int .i64 (x1.trail.getD ((x18).toNat) (0 : Int))]) Try.func69 (by kernel_rfl) rfl (by kernel_rfl) rfl) (impl_ref.calls w33 H16 (x1.trail.getD ((x18).toNat) (0 : Int))  (St.own' (Fa := []) (Fr := [F19, F11, (is g2)]) S34) t84 u85) ?_
    rintro hc93 _ w86 ⟨A89, c90, F92, H87, rfl, h91, T88⟩
    refine ⟨_, rfl, ?_⟩
    obtain ⟨S94, K95⟩ := St.call (Fa := []) (Fr := [F19, F11, (is g2)]) S34 T88
    replace h6 := h6.move (K95.at 0 rfl)
    replace h10 := h10.move (K95.at 1 rfl)
    replace b3 := K95.blk 2 rfl b3
    have E96 := T88.ext
    replace h6 := h6.ext E96
    replace h10 := h10.ext E96
    refine ⟨⟨(Ext.trans E96 S94.inv), (fun b_ h_ => (K95.at 1 rfl b_ h_).trans (hs83.2.1 b_ h_)), (fun b_ h_ => (K95.at 2 rfl b_ h_).trans (hs83.2.2 b_ h_))⟩, fun hs97 => ?_⟩
    obtain ⟨q98, M⟩ := chk M
    obtain ⟨q99, M⟩ := chk M
    obtain ⟨b100, e102⟩ := Row.addr h6 (show ((x1.trail.getD ((x18).toNat) (0 : Int))).toNat < x20.length by have : x20.length = x1.cells.length := n21; omega)
    refine xone (i := 19) (by kernel_rfl) hc93 ?_
    refine yo (i := 19) (d := 37) rfl rfl (wanted_none rfl _) (by kernel_rfl) (by kernel_rfl) (fun _ _ => Iff.rfl) hs97 (e_indexAddr (b := b100) (off := 0) (n := x1.cells.length) (c := c5) (sz := 3) (i := (x1.trail.getD ((x18).toNat) (0 : Int))) (k := .i64) Try.underlying32 e102 (by kernel_rfl) (by kernel_rfl) (by kernel_rfl) q98 q99) ?_; intro hc103 hs104
    have S105 := S94.pull (F := F19) (Fr := [F92, F11, (is g2)]) 1 rfl rfl
    refine xone (i := 20) (by kernel_rfl) hc103 ?_
    refine ys (i := 20) rfl rfl (wanted_none rfl _) (by kernel_rfl) (by kernel_rfl) (e_setel (d := st36) (b := b100) (i := ((x1.trail.getD ((x18).toNat) (0 : Int))).toNat) (v := .agg #[.int .i64 t84.kind, .int .i64 t84.n, .slice A89 t84.text.length c90]) (vs := [.int .i64 t84.kind, .int .i64 t84.n, .slice A89 t84.text.length c90]) (yv := t84) S105 (by kernel_rfl) e102 (by kernel_rfl) rfl (by kernel_rfl) h6 (show ((x1.trail.getD ((x18).toNat) (0 : Int))).toNat < x20.length by have : x20.length = x1.cells.length := n21; omega) (st36_mkO (x := t84) h91)) ?_
    rintro hc111 w106 ⟨F108, h107, S109, K110⟩
    replace h10 := h10.move (K110.at 0 rfl)
    replace b3 := K110.blk 1 rfl b3
    refine ⟨⟨(Ext.trans E96 S109.inv), (fun b_ h_ => (K110.at 0 rfl b_ h_).trans (hs104.2.1 b_ h_)), (fun b_ h_ => (K110.at 1 rfl b_ h_).trans (hs104.2.2 b_ h_))⟩, fun hs112 => ?_⟩
    clear h6
    refine xn (by kernel_rfl) ?_ _
    refine inb_n ?_
    refine then_n ?_
    refine wp_region_lit ?_
    refine lv (d := 16) rfl rfl (by kernel_rfl) (e_move (v := .int .i64 x18) (by exact e25)) ?_
    refine lv (d := 17) rfl rfl (by kernel_rfl) (e_sub (k := .i64) (a := x18) (b := 1) (by kernel_rfl) rfl) ?_
    refine lv (d := 6) rfl rfl (by kernel_rfl) (e_assign (v := .int .i64 (IntKind.i64.wrap (x18 - 1))) (by kernel_rfl)) ?_
    refine wpList_nil ?_
    refine then_n ?_
    exact ⟨k31, (by omega), _, H87, (IntKind.i64.wrap (x18 - 1)), F108, (x20.set (((x1.trail.getD ((x18).toNat) (0 : Int))).toNat) t84), rfl, (by exact e22), (by exact e23), (by exact e24), (by kernel_rfl), h107, h10, b3, (List.length_set.trans n21), (Y17.trans E96), S109, M⟩
  replace M := ifn q32 M
  refine cond_f rfl (bf q32 (by kernel_rfl)) ?_
  refine wp_exit ?_
  refine then_e ?_
  refine then_e ?_
  refine inb_hit ?_
  refine then_n ?_
  refine wp_seq ?_
  refine wp_region_lit ?_
  refine lv (d := 38) rfl rfl (by kernel_rfl) (e_move (v := .pointer (some ⟨g2, 0, none⟩)) (by exact e22)) ?_
  refine lv (d := 39) rfl rfl (by kernel_rfl) (e_move (v := .pointer (some ⟨g2, 0, none⟩)) (by exact e22)) ?_
  refine lv (d := 40) rfl rfl (by kernel_rfl) (e_nilCheck (ad := ⟨g2, 0, none⟩) (by kernel_rfl)) ?_
  refine lv (d := 41) rfl rfl (by kernel_rfl) (e_fieldAddr (b := g2) (off := 0) (o := 1) Try.underlying34 rfl rfl (sz := 1) (by kernel_rfl) (by decide) (by kernel_rfl)) ?_
  refine lv (d := 42) rfl rfl (by kernel_rfl) (e_load1 (ad := ⟨g2, 0 + 1, none⟩) (v := .slice A8 x1.trail.length c9) Try.underlying23 rfl (by kernel_rfl) (blk_cell b3 rfl)) ?_
  refine lv (d := 43) rfl rfl (by kernel_rfl) (e_move (v := .int .i64 x12) (by exact e23)) ?_
  obtain ⟨q113, M⟩ := chk M
  obtain ⟨q114, M⟩ := chk M
  refine lv (d := 44) rfl rfl (by kernel_rfl) (e_slice_h (xs := x1.trail) (n := x1.trail.length) (m := 1) (cap := c9) (A := A8) (b := x12) (k2 := .i64) Try.underlying23 (by kernel_rfl) (by kernel_rfl) (by kernel_rfl) q113 q114 (by have := h10.le; have := (rfl : x1.trail.length = x1.trail.length); omega) (take_len q113 q114 rfl)) ?_
  have h115 := h10.cut (n := (x12 : Int).toNat) (by have := (rfl : x1.trail.length = x1.trail.length); omega)
  clear h10
  refine lv (d := 45) rfl rfl (by kernel_rfl) (e_nilCheck (ad := ⟨g2, 0, none⟩) (by kernel_rfl)) ?_
  refine lv (d := 46) rfl rfl (by kernel_rfl) (e_fieldAddr (b := g2) (off := 0) (o := 1) Try.underlying34 rfl rfl (sz := 1) (by kernel_rfl) (by decide) (by kernel_rfl)) ?_
  have S116 := S26.pull (F := (is g2)) (Fr := [F19, F11]) 2 rfl rfl
  refine lse rfl rfl (by kernel_rfl) (e_store (g := g2) (o := 0 + 1) (v := .slice A8 ((x1.trail.take ((x12 : Int).toNat)).length) c9) (cur' := #[.slice A4 x1.cells.length c5, .slice A8 ((x1.trail.take ((x12 : Int).toNat)).length) c9]) (vs := [.slice A8 ((x1.trail.take ((x12 : Int).toNat)).length) c9]) S116 (by kernel_rfl) (by kernel_rfl) rfl (by kernel_rfl) b3 (Nat.le_of_ble_eq_true rfl) (List.forall_mem_cons.2 ⟨rfl, (fun _ h_ => by cases h_)⟩) rfl) ?_
  rintro w117 ⟨b118, S119, K120⟩
  replace h6 := h6.move (K120.at 0 rfl)
  replace h115 := h115.move (K120.at 1 rfl)
  clear b3
  refine wpList_nil ?_
  refine then_n ?_
  refine wp_region_lit ?_
  refine lv (d := 47) rfl rfl (by kernel_rfl) (e_move (v := .pointer (some ⟨g2, 0, none⟩)) (by exact e22)) ?_
  refine lv (d := 48) rfl rfl (by kernel_rfl) (e_move (v := .pointer (some ⟨g2, 0, none⟩)) (by exact e22)) ?_
  refine lv (d := 49) rfl rfl (by kernel_rfl) (e_nilCheck (ad := ⟨g2, 0, none⟩) (by kernel_rfl)) ?_
  refine lv (d := 50) rfl rfl (by kernel_rfl) (e_fieldAddr (b := g2) (off := 0) (o := 0) Try.underlying34 rfl rfl (sz := 1) (by kernel_rfl) (by decide) (by kernel_rfl)) ?_
  refine lv (d := 51) rfl rfl (by kernel_rfl) (e_load1 (ad := ⟨g2, 0 + 0, none⟩) (v := .slice A4 x1.cells.length c5) Try.underlying32 rfl (by kernel_rfl) (blk_cell b118 rfl)) ?_
  refine lv (d := 52) rfl rfl (by kernel_rfl) (e_move (v := .int .i64 x13) (by exact e24)) ?_
  obtain ⟨q121, M⟩ := chk M
  obtain ⟨q122, M⟩ := chk M
  refine lv (d := 53) rfl rfl (by kernel_rfl) (e_slice_h (xs := x20) (n := x1.cells.length) (m := 3) (cap := c5) (A := A4) (b := x13) (k2 := .i64) Try.underlying32 (by kernel_rfl) (by kernel_rfl) (by kernel_rfl) q121 q122 (by have := h6.le; have := (n21 : x20.length = x1.cells.length); omega) (take_len q121 q122 n21)) ?_
  have h123 := h6.cut (n := (x13 : Int).toNat) (by have := (n21 : x20.length = x1.cells.length); omega)
  clear h6
  refine lv (d := 54) rfl rfl (by kernel_rfl) (e_nilCheck (ad := ⟨g2, 0, none⟩) (by kernel_rfl)) ?_
  refine lv (d := 55) rfl rfl (by kernel_rfl) (e_fieldAddr (b := g2) (off := 0) (o := 0) Try.underlying34 rfl rfl (sz := 1) (by kernel_rfl) (by decide) (by kernel_rfl)) ?_
  refine lse rfl rfl (by kernel_rfl) (e_store (g := g2) (o := 0 + 0) (v := .slice A4 ((x20.take ((x13 : Int).toNat)).length) c5) (cur' := #[.slice A4 ((x20.take ((x13 : Int).toNat)).length) c5, .slice A8 ((x1.trail.take ((x12 : Int).toNat)).length) c9]) (vs := [.slice A4 ((x20.take ((x13 : Int).toNat)).length) c5]) S119 (by kernel_rfl) (by kernel_rfl) rfl (by kernel_rfl) b118 (Nat.le_of_ble_eq_true rfl) (List.forall_mem_cons.2 ⟨rfl, (fun _ h_ => by cases h_)⟩) rfl) ?_
  rintro w124 ⟨b125, S126, K127⟩
  replace h123 := h123.move (K127.at 0 rfl)
  replace h115 := h115.move (K127.at 1 rfl)
  clear b118
  refine wpList_nil ?_
  obtain rfl := Option.some.inj M
  exact end0 rfl ⟨A4, c5, F19, A8, c9, F11, H16, rfl, h123, h115, b125, S126⟩

/-! impl_Unwind -/
def impl_Unwind.l0 : Nat → Store → Int → Int → Int → Option (Store × Int)
  | 0, _, _, _, _ => none
  | k86 + 1, x1, x10, x11, x75 => (if x75 < x11 then (if 0 ≤ x75 then (if x75 < (x1.cells.length : Int) then (if ((x1.cells.getD ((x75).toNat) z36).kind) = 3 then (if (IntKind.i64.wrap (x75 + ((x1.cells.getD ((x75).toNat) z36).n))) ≥ x11 then some ((⟨[], []⟩ : Store), 1) else (impl_Unwind.l0 k86 x1 x10 x11 (IntKind.i64.wrap (x75 + 1)))) else (impl_Unwind.l0 k86 x1 x10 x11 (IntKind.i64.wrap (x75 + 1)))) else none) else none) else ((impl_copyStore.f k86 x1).bind fun t120 => ((impl_Store_unwind.f k86 t120 x10 x11).bind fun t147 => ((impl_Store_ok.f k86 t147).bind fun t164 => (if ¬ (t164 = true) then some ((⟨[], []⟩ : Store), 4) else some (t147, 0))))))
def impl_Unwind.f (k : Nat) (x1 : Store) (x10 : Int) (x11 : Int) : Option (Store × Int) := ((impl_Store_ok.f k x1).bind fun t22 => (if ¬ (t22 = true) then some ((⟨[], []⟩ : Store), 1) else (if x10 < 0 then some ((⟨[], []⟩ : Store), 1) else (if x10 > (x1.trail.length : Int) then some ((⟨[], []⟩ : Store), 1) else (if x11 < 0 then some ((⟨[], []⟩ : Store), 1) else (if x11 > (x1.cells.length : Int) then some ((⟨[], []⟩ : Store), 1) else (impl_Unwind.l0 k x1 x10 x11 0)))))))
theorem impl_Unwind.calls (k : Nat) (w : World) (H : Hp) (x1 : Store) (A2 : Option Addr) (c3 : Nat) (A6 : Option Addr) (c7 : Nat) (x10 : Int) (x11 : Int) (h4 : Rd st36 H A2 x1.cells) (l5 : x1.cells.length ≤ c3) (h8 : Rd tInt H A6 x1.trail) (l9 : x1.trail.length ≤ c7) (S : Own [] H w) (r : Store × Int) (M : impl_Unwind.f k x1 x10 x11 = some r) :
    Calls Try.prog 28 #[.agg #[.slice A2 x1.cells.length c3, .slice A6 x1.trail.length c7], .int .i64 x10, .int .i64 x11] w (fun e e_w => ∃ (A_1 : Option Addr) (c_1 : Nat) (F_1 : Foot) (A_2 : Option Addr) (c_2 : Nat) (F_2 : Foot) (H_ : Hp), e = .returned (.tuple #[.agg #[.slice A_1 r.1.cells.length c_1, .slice A_2 r.1.trail.length c_2], .int .i64 r.2]) ∧ Row st36 36 H_ (hp e_w) F_1 A_1 c_1 r.1.cells ∧ Row tInt 3 H_ (hp e_w) F_2 A_2 c_2 r.1.trail ∧ St (anyOf []) H w [F_1, F_2] H_ e_w) := by
  rw [impl_Unwind.f] at M
  refine enter (l := [.agg #[.slice A2 x1.cells.length c3, .slice A6 x1.trail.length c7], .int .i64 x10, .int .i64 x11]) 71 Try.func28 rfl rfl rfl ?_
  have S0_ := S.st
  refine wp_seq ?_
  refine wp_region_lit ?_
  refine lve (d := 3) rfl rfl (by kernel_rfl) (new_blk (v := fun g_ => .pointer (some ⟨g_, 0, none⟩)) (cs := #[.slice A2 x1.cells.length c3, .slice A6 x1.trail.length c7]) (t := 34) S0_ (by kernel_rfl)) ?_
  rintro _ w12 ⟨g13, rfl, b14, S15, K16⟩
  refine lve (d := 6) rfl rfl (by kernel_rfl) (new_blk (v := fun g_ => .pointer (some ⟨g_, 0, none⟩)) (cs := #[.slice none 0 0, .slice none 0 0]) (t := 34) S15 (by kernel_rfl)) ?_
  rintro _ w17 ⟨g18, rfl, b19, S20, K21⟩
  replace b14 := K21.blk 0 rfl b14
  refine lv (d := 7) rfl rfl (by kernel_rfl) (e_assign (v := .int .i64 0) rfl) ?_
  refine wpList_nil ?_
  refine then_n ?_
  refine wp_seq ?_
  refine wp_seq ?_
  refine wp_region_lit ?_
  refine lv (d := 10) rfl rfl (by kernel_rfl) (e_loadS (b := g13) (off := 0) (cs := [.slice A2 x1.cells.length c3, .slice A6 x1.trail.length c7]) Try.underlying34 rfl (by kernel_rfl) (by kernel_rfl) (blk_cells b14 rfl)) ?_
  obtain ⟨t22, u23, M⟩ := bnd M
  refine lcall (d := 11) rfl rfl (by kernel_rfl) (e_call (l := [.tmp 10]) (vs := [.agg #[.slice A2 x1.cells.length c3, .slice A6 x1.trail.length c7]]) Try.func42 (by kernel_rfl) rfl (by kernel_rfl) rfl) (impl_Store_ok.calls k w17 H x1 A2 c3 A6 c7 h4 l5 h8 l9 S20.own0 t22 u23) ?_
  rintro _ w24 ⟨rfl, C25⟩
  refine ⟨_, rfl, ?_⟩
  obtain ⟨S26, K27⟩ := S20.still C25
  replace b19 := K27.blk 0 rfl b19
  replace b14 := K27.blk 1 rfl b14
  refine lv (d := 12) rfl rfl (by kernel_rfl) (e_notv (c := t22) (by kernel_rfl)) ?_
  refine lv (d := 13) rfl rfl (by kernel_rfl) (e_move (v := .bool (decide (¬ (t22 = true)))) (by kernel_rfl)) ?_
  by_cases q28 : ¬ (t22 = true)
  · replace M := ifp q28 M
    refine lskip (t := 13) (c := true) rfl (by kernel_rfl) rfl (bt q28 (by kernel_rfl)) rfl rfl ?_
    refine lskip (t := 13) (c := true) rfl (by kernel_rfl) rfl (bt q28 (by kernel_rfl)) rfl rfl ?_
    refine lv (d := 16) rfl rfl (by kernel_rfl) (e_pick_t (v := .bool true) (bt q28 (by kernel_rfl)) rfl) ?_
    refine lv (d := 17) rfl rfl (by kernel_rfl) (e_move (v := .bool true) (by kernel_rfl)) ?_
    refine lskip (t := 17) (c := true) rfl (by kernel_rfl) rfl (by kernel_rfl) rfl rfl ?_
    refine lskip (t := 17) (c := true) rfl (by kernel_rfl) rfl (by kernel_rfl) rfl rfl ?_
    refine lskip (t := 17) (c := true) rfl (by kernel_rfl) rfl (by kernel_rfl) rfl rfl ?_
    refine lskip (t := 17) (c := true) rfl (by kernel_rfl) rfl (by kernel_rfl) rfl rfl ?_
    refine lskip (t := 17) (c := true) rfl (by kernel_rfl) rfl (by kernel_rfl) rfl rfl ?_
    refine lv (d := 23) rfl rfl (by kernel_rfl) (e_pick_t (v := .bool true) (by kernel_rfl) rfl) ?_
    refine lv (d := 24) rfl rfl (by kernel_rfl) (e_move (v := .bool true) (by kernel_rfl)) ?_
    refine lskip (t := 24) (c := true) rfl (by kernel_rfl) rfl (by kernel_rfl) rfl rfl ?_
    refine lskip (t := 24) (c := true) rfl (by kernel_rfl) rfl (by kernel_rfl) rfl rfl ?_
    refine lv (d := 27) rfl rfl (by kernel_rfl) (e_pick_t (v := .bool true) (by kernel_rfl) rfl) ?_
    refine lv (d := 28) rfl rfl (by kernel_rfl) (e_move (v := .bool true) (by kernel_rfl)) ?_
    refine lskip (t := 28) (c := true) rfl (by kernel_rfl) rfl (by kernel_rfl) rfl rfl ?_
    refine lskip (t := 28) (c := true) rfl (by kernel_rfl) rfl (by kernel_rfl) rfl rfl ?_
    refine lskip (t := 28) (c := true) rfl (by kernel_rfl) rfl (by kernel_rfl) rfl rfl ?_
    refine lskip (t := 28) (c := true) rfl (by kernel_rfl) rfl (by kernel_rfl) rfl rfl ?_
    refine lskip (t := 28) (c := true) rfl (by kernel_rfl) rfl (by kernel_rfl) rfl rfl ?_
    refine lv (d := 34) rfl rfl (by kernel_rfl) (e_pick_t (v := .bool true) (by kernel_rfl) rfl) ?_
    refine wpList_nil ?_
    refine then_n ?_
    refine cond_t rfl (by kernel_rfl) ?_
    refine wp_seq ?_
    refine wp_region_lit ?_
    refine lv (d := 35) rfl rfl (by kernel_rfl) (show _ = Result.ok (Next.value (.agg #[.slice none 0 0, .slice none 0 0])) w24 from by kernel_rfl) ?_
    refine lse rfl rfl (by kernel_rfl) (e_store (g := g18) (o := 0) (v := .agg #[.slice none 0 0, .slice none 0 0]) (cur' := #[.slice none 0 0, .slice none 0 0]) (vs := [.slice none 0 0, .slice none 0 0]) S26 (by kernel_rfl) (by kernel_rfl) rfl (by kernel_rfl) b19 (Nat.le_of_ble_eq_true rfl) (List.forall_mem_cons.2 ⟨rfl, (List.forall_mem_cons.2 ⟨rfl, (fun _ h_ => by cases h_)⟩)⟩) rfl) ?_
    rintro w29 ⟨b30, S31, K32⟩
    replace b14 := K32.blk 0 rfl b14
    clear b19
    refine lv (d := 7) rfl rfl (by kernel_rfl) (e_assign (v := .int .i64 1) rfl) ?_
    refine wpList_nil ?_
    refine then_n ?_
    refine wp_ret ?_
    refine then_r ?_
    obtain rfl := Option.some.inj M
    have S33 := S31.unit
    have S34 := S33.unit
    have S35 := S34.pull (F := no) (Fr := [no, (is g18), (is g13)]) 1 rfl rfl
    have S36 := St.first (Fa := [no, no]) (Fr := [(is g18), (is g13)]) S35
    exact retST (ty := 34) (cur := #[.slice none 0 0, .slice none 0 0]) rfl rfl rfl (by kernel_rfl) b30 Try.underlying34 rfl (by kernel_rfl) (show _ = .int .i64 1 from (by kernel_rfl)) ⟨none, 0, no, none, 0, no, H, rfl, (Row.nil _ _ _ _ no), (Row.nil _ _ _ _ no), S36⟩
  replace M := ifn q28 M
  refine lvg (d := 14) (t := 13) rfl (by kernel_rfl) rfl (bf q28 (by kernel_rfl)) rfl (by kernel_rfl) (e_move (v := .int .i64 x10) (by kernel_rfl)) ?_
  refine lvg (d := 15) (t := 13) rfl (by kernel_rfl) rfl (bf q28 (by kernel_rfl)) rfl (by kernel_rfl) (e_lss (k := .i64) (a := x10) (b := 0) (by kernel_rfl) rfl) ?_
  refine lv (d := 16) rfl rfl (by kernel_rfl) (e_pick_f (v := .bool (decide (x10 < 0))) (bf q28 (by kernel_rfl)) (by kernel_rfl)) ?_
  refine lv (d := 17) rfl rfl (by kernel_rfl) (e_move (v := .bool (decide (x10 < 0))) (by kernel_rfl)) ?_
  by_cases q37 : x10 < 0
  · replace M := ifp q37 M
    refine lskip (t := 17) (c := true) rfl (by kernel_rfl) rfl (bt q37 (by kernel_rfl)) rfl rfl ?_
    refine lskip (t := 17) (c := true) rfl (by kernel_rfl) rfl (bt q37 (by kernel_rfl)) rfl rfl ?_
    refine lskip (t := 17) (c := true) rfl (by kernel_rfl) rfl (bt q37 (by kernel_rfl)) rfl rfl ?_
    refine lskip (t := 17) (c := true) rfl (by kernel_rfl) rfl (bt q37 (by kernel_rfl)) rfl rfl ?_
    refine lskip (t := 17) (c := true) rfl (by kernel_rfl) rfl (bt q37 (by kernel_rfl)) rfl rfl ?_
    refine lv (d := 23) rfl rfl (by kernel_rfl) (e_pick_t (v := .bool true) (bt q37 (by kernel_rfl)) rfl) ?_
    refine lv (d := 24) rfl rfl (by kernel_rfl) (e_move (v := .bool true) (by kernel_rfl)) ?_
    refine lskip (t := 24) (c := true) rfl (by kernel_rfl) rfl (by kernel_rfl) rfl rfl ?_
    refine lskip (t := 24) (c := true) rfl (by kernel_rfl) rfl (by kernel_rfl) rfl rfl ?_
    refine lv (d := 27) rfl rfl (by kernel_rfl) (e_pick_t (v := .bool true) (by kernel_rfl) rfl) ?_
    refine lv (d := 28) rfl rfl (by kernel_rfl) (e_move (v := .bool true) (by kernel_rfl)) ?_
    refine lskip (t := 28) (c := true) rfl (by kernel_rfl) rfl (by kernel_rfl) rfl rfl ?_
    refine lskip (t := 28) (c := true) rfl (by kernel_rfl) rfl (by kernel_rfl) rfl rfl ?_
    refine lskip (t := 28) (c := true) rfl (by kernel_rfl) rfl (by kernel_rfl) rfl rfl ?_
    refine lskip (t := 28) (c := true) rfl (by kernel_rfl) rfl (by kernel_rfl) rfl rfl ?_
    refine lskip (t := 28) (c := true) rfl (by kernel_rfl) rfl (by kernel_rfl) rfl rfl ?_
    refine lv (d := 34) rfl rfl (by kernel_rfl) (e_pick_t (v := .bool true) (by kernel_rfl) rfl) ?_
    refine wpList_nil ?_
    refine then_n ?_
    refine cond_t rfl (by kernel_rfl) ?_
    refine wp_seq ?_
    refine wp_region_lit ?_
    refine lv (d := 35) rfl rfl (by kernel_rfl) (show _ = Result.ok (Next.value (.agg #[.slice none 0 0, .slice none 0 0])) w24 from by kernel_rfl) ?_
    refine lse rfl rfl (by kernel_rfl) (e_store (g := g18) (o := 0) (v := .agg #[.slice none 0 0, .slice none 0 0]) (cur' := #[.slice none 0 0, .slice none 0 0]) (vs := [.slice none 0 0, .slice none 0 0]) S26 (by kernel_rfl) (by kernel_rfl) rfl (by kernel_rfl) b19 (Nat.le_of_ble_eq_true rfl) (List.forall_mem_cons.2 ⟨rfl, (List.forall_mem_cons.2 ⟨rfl, (fun _ h_ => by cases h_)⟩)⟩) rfl) ?_
    rintro w38 ⟨b39, S40, K41⟩
    replace b14 := K41.blk 0 rfl b14
    clear b19
    refine lv (d := 7) rfl rfl (by kernel_rfl) (e_assign (v := .int .i64 1) rfl) ?_
    refine wpList_nil ?_
    refine then_n ?_
    refine wp_ret ?_
    refine then_r ?_
    obtain rfl := Option.some.inj M
    have S42 := S40.unit
    have S43 := S42.unit
    have S44 := S43.pull (F := no) (Fr := [no, (is g18), (is g13)]) 1 rfl rfl
    have S45 := St.first (Fa := [no, no]) (Fr := [(is g18), (is g13)]) S44
    exact retST (ty := 34) (cur := #[.slice none 0 0, .slice none 0 0]) rfl rfl rfl (by kernel_rfl) b39 Try.underlying34 rfl (by kernel_rfl) (show _ = .int .i64 1 from (by kernel_rfl)) ⟨none, 0, no, none, 0, no, H, rfl, (Row.nil _ _ _ _ no), (Row.nil _ _ _ _ no), S45⟩
  replace M := ifn q37 M
  refine lvg (d := 18) (t := 17) rfl (by kernel_rfl) rfl (bf q37 (by kernel_rfl)) rfl (by kernel_rfl) (e_move (v := .int .i64 x10) (by kernel_rfl)) ?_
  refine lvg (d := 19) (t := 17) rfl (by kernel_rfl) rfl (bf q37 (by kernel_rfl)) rfl (by kernel_rfl) (e_fieldAddr (b := g13) (off := 0) (o := 1) Try.underlying34 rfl rfl (sz := 1) (by kernel_rfl) (by decide) (by kernel_rfl)) ?_
  refine lvg (d := 20) (t := 17) rfl (by kernel_rfl) rfl (bf q37 (by kernel_rfl)) rfl (by kernel_rfl) (e_load1 (ad := ⟨g13, 0 + 1, none⟩) (v := .slice A6 x1.trail.length c7) Try.underlying23 rfl (by kernel_rfl) (blk_cell b14 rfl)) ?_
  refine lvg (d := 21) (t := 17) rfl (by kernel_rfl) rfl (bf q37 (by kernel_rfl)) rfl (by kernel_rfl) (e_len (A := A6) (n := x1.trail.length) (c := c7) Try.underlying23 (by kernel_rfl)) ?_
  refine lvg (d := 22) (t := 17) rfl (by kernel_rfl) rfl (bf q37 (by kernel_rfl)) rfl (by kernel_rfl) (e_gtr (k := .i64) (a := x10) (b := (x1.trail.length : Int)) (by kernel_rfl) (by kernel_rfl)) ?_
  refine lv (d := 23) rfl rfl (by kernel_rfl) (e_pick_f (v := .bool (decide (x10 > (x1.trail.length : Int)))) (bf q37 (by kernel_rfl)) (by kernel_rfl)) ?_
  refine lv (d := 24) rfl rfl (by kernel_rfl) (e_move (v := .bool (decide (x10 > (x1.trail.length : Int)))) (by kernel_rfl)) ?_
  by_cases q46 : x10 > (x1.trail.length : Int)
  · replace M := ifp q46 M
    refine lskip (t := 24) (c := true) rfl (by kernel_rfl) rfl (bt q46 (by kernel_rfl)) rfl rfl ?_
    refine lskip (t := 24) (c := true) rfl (by kernel_rfl) rfl (bt q46 (by kernel_rfl)) rfl rfl ?_
    refine lv (d := 27) rfl rfl (by kernel_rfl) (e_pick_t (v := .bool true) (bt q46 (by kernel_rfl)) rfl) ?_
    refine lv (d := 28) rfl rfl (by kernel_rfl) (e_move (v := .bool true) (by kernel_rfl)) ?_
    refine lskip (t := 28) (c := true) rfl (by kernel_rfl) rfl (by kernel_rfl) rfl rfl ?_
    refine lskip (t := 28) (c := true) rfl (by kernel_rfl) rfl (by kernel_rfl) rfl rfl ?_
    refine lskip (t := 28) (c := true) rfl (by kernel_rfl) rfl (by kernel_rfl) rfl rfl ?_
    refine lskip (t := 28) (c := true) rfl (by kernel_rfl) rfl (by kernel_rfl) rfl rfl ?_
    refine lskip (t := 28) (c := true) rfl (by kernel_rfl) rfl (by kernel_rfl) rfl rfl ?_
    refine lv (d := 34) rfl rfl (by kernel_rfl) (e_pick_t (v := .bool true) (by kernel_rfl) rfl) ?_
    refine wpList_nil ?_
    refine then_n ?_
    refine cond_t rfl (by kernel_rfl) ?_
    refine wp_seq ?_
    refine wp_region_lit ?_
    refine lv (d := 35) rfl rfl (by kernel_rfl) (show _ = Result.ok (Next.value (.agg #[.slice none 0 0, .slice none 0 0])) w24 from by kernel_rfl) ?_
    refine lse rfl rfl (by kernel_rfl) (e_store (g := g18) (o := 0) (v := .agg #[.slice none 0 0, .slice none 0 0]) (cur' := #[.slice none 0 0, .slice none 0 0]) (vs := [.slice none 0 0, .slice none 0 0]) S26 (by kernel_rfl) (by kernel_rfl) rfl (by kernel_rfl) b19 (Nat.le_of_ble_eq_true rfl) (List.forall_mem_cons.2 ⟨rfl, (List.forall_mem_cons.2 ⟨rfl, (fun _ h_ => by cases h_)⟩)⟩) rfl) ?_
    rintro w47 ⟨b48, S49, K50⟩
    replace b14 := K50.blk 0 rfl b14
    clear b19
    refine lv (d := 7) rfl rfl (by kernel_rfl) (e_assign (v := .int .i64 1) rfl) ?_
    refine wpList_nil ?_
    refine then_n ?_
    refine wp_ret ?_
    refine then_r ?_
    obtain rfl := Option.some.inj M
    have S51 := S49.unit
    have S52 := S51.unit
    have S53 := S52.pull (F := no) (Fr := [no, (is g18), (is g13)]) 1 rfl rfl
    have S54 := St.first (Fa := [no, no]) (Fr := [(is g18), (is g13)]) S53
    exact retST (ty := 34) (cur := #[.slice none 0 0, .slice none 0 0]) rfl rfl rfl (by kernel_rfl) b48 Try.underlying34 rfl (by kernel_rfl) (show _ = .int .i64 1 from (by kernel_rfl)) ⟨none, 0, no, none, 0, no, H, rfl, (Row.nil _ _ _ _ no), (Row.nil _ _ _ _ no), S54⟩
  replace M := ifn q46 M
  refine lvg (d := 25) (t := 24) rfl (by kernel_rfl) rfl (bf q46 (by kernel_rfl)) rfl (by kernel_rfl) (e_move (v := .int .i64 x11) (by kernel_rfl)) ?_
  refine lvg (d := 26) (t := 24) rfl (by kernel_rfl) rfl (bf q46 (by kernel_rfl)) rfl (by kernel_rfl) (e_lss (k := .i64) (a := x11) (b := 0) (by kernel_rfl) rfl) ?_
  refine lv (d := 27) rfl rfl (by kernel_rfl) (e_pick_f (v := .bool (decide (x11 < 0))) (bf q46 (by kernel_rfl)) (by kernel_rfl)) ?_
  refine lv (d := 28) rfl rfl (by kernel_rfl) (e_move (v := .bool (decide (x11 < 0))) (by kernel_rfl)) ?_
  by_cases q55 : x11 < 0
  · replace M := ifp q55 M
    refine lskip (t := 28) (c := true) rfl (by kernel_rfl) rfl (bt q55 (by kernel_rfl)) rfl rfl ?_
    refine lskip (t := 28) (c := true) rfl (by kernel_rfl) rfl (bt q55 (by kernel_rfl)) rfl rfl ?_
    refine lskip (t := 28) (c := true) rfl (by kernel_rfl) rfl (bt q55 (by kernel_rfl)) rfl rfl ?_
    refine lskip (t := 28) (c := true) rfl (by kernel_rfl) rfl (bt q55 (by kernel_rfl)) rfl rfl ?_
    refine lskip (t := 28) (c := true) rfl (by kernel_rfl) rfl (bt q55 (by kernel_rfl)) rfl rfl ?_
    refine lv (d := 34) rfl rfl (by kernel_rfl) (e_pick_t (v := .bool true) (bt q55 (by kernel_rfl)) rfl) ?_
    refine wpList_nil ?_
    refine then_n ?_
    refine cond_t rfl (by kernel_rfl) ?_
    refine wp_seq ?_
    refine wp_region_lit ?_
    refine lv (d := 35) rfl rfl (by kernel_rfl) (show _ = Result.ok (Next.value (.agg #[.slice none 0 0, .slice none 0 0])) w24 from by kernel_rfl) ?_
    refine lse rfl rfl (by kernel_rfl) (e_store (g := g18) (o := 0) (v := .agg #[.slice none 0 0, .slice none 0 0]) (cur' := #[.slice none 0 0, .slice none 0 0]) (vs := [.slice none 0 0, .slice none 0 0]) S26 (by kernel_rfl) (by kernel_rfl) rfl (by kernel_rfl) b19 (Nat.le_of_ble_eq_true rfl) (List.forall_mem_cons.2 ⟨rfl, (List.forall_mem_cons.2 ⟨rfl, (fun _ h_ => by cases h_)⟩)⟩) rfl) ?_
    rintro w56 ⟨b57, S58, K59⟩
    replace b14 := K59.blk 0 rfl b14
    clear b19
    refine lv (d := 7) rfl rfl (by kernel_rfl) (e_assign (v := .int .i64 1) rfl) ?_
    refine wpList_nil ?_
    refine then_n ?_
    refine wp_ret ?_
    refine then_r ?_
    obtain rfl := Option.some.inj M
    have S60 := S58.unit
    have S61 := S60.unit
    have S62 := S61.pull (F := no) (Fr := [no, (is g18), (is g13)]) 1 rfl rfl
    have S63 := St.first (Fa := [no, no]) (Fr := [(is g18), (is g13)]) S62
    exact retST (ty := 34) (cur := #[.slice none 0 0, .slice none 0 0]) rfl rfl rfl (by kernel_rfl) b57 Try.underlying34 rfl (by kernel_rfl) (show _ = .int .i64 1 from (by kernel_rfl)) ⟨none, 0, no, none, 0, no, H, rfl, (Row.nil _ _ _ _ no), (Row.nil _ _ _ _ no), S63⟩
  replace M := ifn q55 M
  refine lvg (d := 29) (t := 28) rfl (by kernel_rfl) rfl (bf q55 (by kernel_rfl)) rfl (by kernel_rfl) (e_move (v := .int .i64 x11) (by kernel_rfl)) ?_
  refine lvg (d := 30) (t := 28) rfl (by kernel_rfl) rfl (bf q55 (by kernel_rfl)) rfl (by kernel_rfl) (e_fieldAddr (b := g13) (off := 0) (o := 0) Try.underlying34 rfl rfl (sz := 1) (by kernel_rfl) (by decide) (by kernel_rfl)) ?_
  refine lvg (d := 31) (t := 28) rfl (by kernel_rfl) rfl (bf q55 (by kernel_rfl)) rfl (by kernel_rfl) (e_load1 (ad := ⟨g13, 0 + 0, none⟩) (v := .slice A2 x1.cells.length c3) Try.underlying32 rfl (by kernel_rfl) (blk_cell b14 rfl)) ?_
  refine lvg (d := 32) (t := 28) rfl (by kernel_rfl) rfl (bf q55 (by kernel_rfl)) rfl (by kernel_rfl) (e_len (A := A2) (n := x1.cells.length) (c := c3) Try.underlying32 (by kernel_rfl)) ?_
  refine lvg (d := 33) (t := 28) rfl (by kernel_rfl) rfl (bf q55 (by kernel_rfl)) rfl (by kernel_rfl) (e_gtr (k := .i64) (a := x11) (b := (x1.cells.length : Int)) (by kernel_rfl) (by kernel_rfl)) ?_
  refine lv (d := 34) rfl rfl (by kernel_rfl) (e_pick_f (v := .bool (decide (x11 > (x1.cells.length : Int)))) (bf q55 (by kernel_rfl)) (by kernel_rfl)) ?_
  refine wpList_nil ?_
  refine then_n ?_
  by_cases q64 : x11 > (x1.cells.length : Int)
  · replace M := ifp q64 M
    refine cond_t rfl (bt q64 (by kernel_rfl)) ?_
    refine wp_seq ?_
    refine wp_region_lit ?_
    refine lv (d := 35) rfl rfl (by kernel_rfl) (show _ = Result.ok (Next.value (.agg #[.slice none 0 0, .slice none 0 0])) w24 from by kernel_rfl) ?_
    refine lse rfl rfl (by kernel_rfl) (e_store (g := g18) (o := 0) (v := .agg #[.slice none 0 0, .slice none 0 0]) (cur' := #[.slice none 0 0, .slice none 0 0]) (vs := [.slice none 0 0, .slice none 0 0]) S26 (by kernel_rfl) (by kernel_rfl) rfl (by kernel_rfl) b19 (Nat.le_of_ble_eq_true rfl) (List.forall_mem_cons.2 ⟨rfl, (List.forall_mem_cons.2 ⟨rfl, (fun _ h_ => by cases h_)⟩)⟩) rfl) ?_
    rintro w65 ⟨b66, S67, K68⟩
    replace b14 := K68.blk 0 rfl b14
    clear b19
    refine lv (d := 7) rfl rfl (by kernel_rfl) (e_assign (v := .int .i64 1) rfl) ?_
    refine wpList_nil ?_
    refine then_n ?_
    refine wp_ret ?_
    refine then_r ?_
    obtain rfl := Option.some.inj M
    have S69 := S67.unit
    have S70 := S69.unit
    have S71 := S70.pull (F := no) (Fr := [no, (is g18), (is g13)]) 1 rfl rfl
    have S72 := St.first (Fa := [no, no]) (Fr := [(is g18), (is g13)]) S71
    exact retST (ty := 34) (cur := #[.slice none 0 0, .slice none 0 0]) rfl rfl rfl (by kernel_rfl) b66 Try.underlying34 rfl (by kernel_rfl) (show _ = .int .i64 1 from (by kernel_rfl)) ⟨none, 0, no, none, 0, no, H, rfl, (Row.nil _ _ _ _ no), (Row.nil _ _ _ _ no), S72⟩
  replace M := ifn q64 M
  refine cond_f rfl (bf q64 (by kernel_rfl)) ?_
  refine wp_skip ?_
  refine then_n ?_
  refine wp_seq ?_
  refine wp_seq ?_
  refine wp_region_lit ?_
  refine lv (d := 8) rfl rfl (by kernel_rfl) (e_assign (v := .int .i64 0) rfl) ?_
  refine wpList_nil ?_
  refine then_n ?_
  refine wp_block ?_
  refine wp_loop_g (fun k84 a85 w73 => ∃ (f74 : Nat → Value) (x75 : Int), a85 = mk 71 f74 ∧ f74 1 = .int .i64 x10 ∧ f74 2 = .int .i64 x11 ∧ f74 3 = .pointer (some ⟨g13, 0, none⟩) ∧ f74 6 = .pointer (some ⟨g18, 0, none⟩) ∧ f74 8 = .int .i64 x75 ∧ w73.heap[g18]? = some (.cells #[.slice none 0 0, .slice none 0 0] 34 (0, 0)) ∧ w73.heap[g13]? = some (.cells #[.slice A2 x1.cells.length c3, .slice A6 x1.trail.length c7] 34 (0, 0)) ∧ St (anyOf []) H w [(is g18), (is g13)] H w73 ∧ impl_Unwind.l0 k84 x1 x10 x11 x75 = some r) k ⟨_, 0, rfl, (by kernel_rfl), (by kernel_rfl), (by kernel_rfl), (by kernel_rfl), (by kernel_rfl), b19, b14, S26, M⟩ ?_
  clear M
  rintro k84 a85 w73 ⟨f74, x75, rfl, e76, e77, e78, e79, e80, b19, b14, S81, M⟩
  rcases k84 with _ | k86
  · rw [impl_Unwind.l0] at M
    cases M
  rw [impl_Unwind.l0] at M
  refine wp_seq ?_
  refine wp_seq ?_
  refine wp_region_lit ?_
  refine lv (d := 36) rfl rfl (by kernel_rfl) (e_move (v := .int .i64 x75) (by exact e80)) ?_
  refine lv (d := 37) rfl rfl (by kernel_rfl) (e_move (v := .int .i64 x11) (by exact e77)) ?_
  refine lv (d := 38) rfl rfl (by kernel_rfl) (e_lss (k := .i64) (a := x75) (b := x11) (by kernel_rfl) (by kernel_rfl)) ?_
  refine wpList_nil ?_
  refine then_n ?_
  by_cases q87 : x75 < x11
  · replace M := ifp q87 M
    refine cond_t rfl (bt q87 (by kernel_rfl)) ?_
    refine wp_skip ?_
    refine then_n ?_
    refine wp_seq ?_
    refine wp_block ?_
    refine wp_seq ?_
    refine wp_region_lit ?_
    refine lv (d := 41) rfl rfl (by kernel_rfl) (e_fieldAddr (b := g13) (off := 0) (o := 0) Try.underlying34 rfl rfl (sz := 1) (by kernel_rfl) (by decide) (by exact e78)) ?_
    refine lv (d := 42) rfl rfl (by kernel_rfl) (e_load1 (ad := ⟨g13, 0 + 0, none⟩) (v := .slice A2 x1.cells.length c3) Try.underlying32 rfl (by kernel_rfl) (blk_cell b14 rfl)) ?_
    refine lv (d := 43) rfl rfl (by kernel_rfl) (e_move (v := .int .i64 x75) (by exact e80)) ?_
    obtain ⟨q88, M⟩ := chk M
    obtain ⟨q89, M⟩ := chk M
    obtain ⟨b90, o91, e92⟩ := Rd.addr h4 (show (x75).toNat < x1.cells.length by omega)
    obtain ⟨y93, r94, k95⟩ := Rd.at h4 e92 (getD_some z36 (show (x75).toNat < x1.cells.length by omega))
    obtain ⟨A96, c97, rfl, l98, h99⟩ := st36_open r94
    refine lv (d := 44) rfl rfl (by kernel_rfl) (e_indexAddr (b := b90) (off := o91) (n := x1.cells.length) (c := c3) (sz := 3) (i := x75) (k := .i64) Try.underlying32 e92 (by kernel_rfl) (by kernel_rfl) (by kernel_rfl) q88 q89) ?_
    refine lv (d := 45) rfl rfl (by kernel_rfl) (e_fieldAddr (b := b90) (off := o91 + (x75 : Int).toNat * 3) (o := 0) Try.underlying36 rfl rfl (sz := 1) (by kernel_rfl) (by decide) (by kernel_rfl)) ?_
    refine lv (d := 46) rfl rfl (by kernel_rfl) (e_load1 (ad := ⟨b90, o91 + (x75 : Int).toNat * 3 + 0, none⟩) (v := .int .i64 ((x1.cells.getD ((x75).toNat) z36).kind)) Try.underlying3 rfl (by kernel_rfl) (hpx (S81.inv.cell (k95 0 _ rfl)))) ?_
    refine lv (d := 47) rfl rfl (by kernel_rfl) (e_eql (k := .i64) (a := (x1.cells.getD ((x75).toNat) z36).kind) (b := 3) (by kernel_rfl) rfl) ?_
    refine lv (d := 48) rfl rfl (by kernel_rfl) (e_move (v := .bool (decide (((x1.cells.getD ((x75).toNat) z36).kind) = 3))) (by kernel_rfl)) ?_
    by_cases q100 : ((x1.cells.getD ((x75).toNat) z36).kind) = 3
    · replace M := ifp q100 M
      refine lvg (d := 49) (t := 48) rfl (by kernel_rfl) rfl (bt q100 (by kernel_rfl)) rfl (by kernel_rfl) (e_move (v := .int .i64 x75) (by exact e80)) ?_
      refine lvg (d := 50) (t := 48) rfl (by kernel_rfl) rfl (bt q100 (by kernel_rfl)) rfl (by kernel_rfl) (e_fieldAddr (b := g13) (off := 0) (o := 0) Try.underlying34 rfl rfl (sz := 1) (by kernel_rfl) (by decide) (by exact e78)) ?_
      refine lvg (d := 51) (t := 48) rfl (by kernel_rfl) rfl (bt q100 (by kernel_rfl)) rfl (by kernel_rfl) (e_load1 (ad := ⟨g13, 0 + 0, none⟩) (v := .slice A2 x1.cells.length c3) Try.underlying32 rfl (by kernel_rfl) (blk_cell b14 rfl)) ?_
      refine lvg (d := 52) (t := 48) rfl (by kernel_rfl) rfl (bt q100 (by kernel_rfl)) rfl (by kernel_rfl) (e_move (v := .int .i64 x75) (by exact e80)) ?_
      obtain ⟨b101, o102, e103⟩ := Rd.addr h4 (show (x75).toNat < x1.cells.length by omega)
      obtain ⟨y104, r105, k106⟩ := Rd.at h4 e103 (getD_some z36 (show (x75).toNat < x1.cells.length by omega))
      obtain ⟨A107, c108, rfl, l109, h110⟩ := st36_open r105
      refine lvg (d := 53) (t := 48) rfl (by kernel_rfl) rfl (bt q100 (by kernel_rfl)) rfl (by kernel_rfl) (e_indexAddr (b := b101) (off := o102) (n := x1.cells.length) (c := c3) (sz := 3) (i := x75) (k := .i64) Try.underlying32 e103 (by kernel_rfl) (by kernel_rfl) (by kernel_rfl) q88 q89) ?_
      refine lvg (d := 54) (t := 48) rfl (by kernel_rfl) rfl (bt q100 (by kernel_rfl)) rfl (by kernel_rfl) (e_fieldAddr (b := b101) (off := o102 + (x75 : Int).toNat * 3) (o := 1) Try.underlying36 rfl rfl (sz := 1) (by kernel_rfl) (by decide) (by kernel_rfl)) ?_
      refine lvg (d := 55) (t := 48) rfl (by kernel_rfl) rfl (bt q100 (by kernel_rfl)) rfl (by kernel_rfl) (e_load1 (ad := ⟨b101, o102 + (x75 : Int).toNat * 3 + 1, none⟩) (v := .int .i64 ((x1.cells.getD ((x75).toNat) z36).n)) Try.underlying3 rfl (by kernel_rfl) (hpx (S81.inv.cell (k106 1 _ rfl)))) ?_
      refine lvg (d := 56) (t := 48) rfl (by kernel_rfl) rfl (bt q100 (by kernel_rfl)) rfl (by kernel_rfl) (e_add (k := .i64) (a := x75) (b := (x1.cells.getD ((x75).toNat) z36).n) (by kernel_rfl) (by kernel_rfl)) ?_
      refine lvg (d := 57) (t := 48) rfl (by kernel_rfl) rfl (bt q100 (by kernel_rfl)) rfl (by kernel_rfl) (e_move (v := .int .i64 x11) (by exact e77)) ?_
      refine lvg (d := 58) (t := 48) rfl (by kernel_rfl) rfl (bt q100 (by kernel_rfl)) rfl (by kernel_rfl) (e_geq (k := .i64) (a := (IntKind.i64.wrap (x75 + ((x1.cells.getD ((x75).toNat) z36).n)))) (b := x11) (by kernel_rfl) (by kernel_rfl)) ?_
      refine lv (d := 59) rfl rfl (by kernel_rfl) (e_pick_t (v := .bool (decide ((IntKind.i64.wrap (x75 + ((x1.cells.getD ((x75).toNat) z36).n))) ≥ x11))) (bt q100 (by kernel_rfl)) (by kernel_rfl)) ?_
      refine wpList_nil ?_
      refine then_n ?_
      by_cases q111 : (IntKind.i64.wrap (x75 + ((x1.cells.getD ((x75).toNat) z36).n))) ≥ x11
      · replace M := ifp q111 M
        refine cond_t rfl (bt q111 (by kernel_rfl)) ?_
        refine wp_seq ?_
        refine wp_region_lit ?_
        refine lv (d := 60) rfl rfl (by kernel_rfl) (show _ = Result.ok (Next.value (.agg #[.slice none 0 0, .slice none 0 0])) w73 from by kernel_rfl) ?_
        refine lse rfl rfl (by kernel_rfl) (e_store (g := g18) (o := 0) (v := .agg #[.slice none 0 0, .slice none 0 0]) (cur' := #[.slice none 0 0, .slice none 0 0]) (vs := [.slice none 0 0, .slice none 0 0]) S81 (by exact e79) (by kernel_rfl) rfl (by kernel_rfl) b19 (Nat.le_of_ble_eq_true rfl) (List.forall_mem_cons.2 ⟨rfl, (List.forall_mem_cons.2 ⟨rfl, (fun _ h_ => by cases h_)⟩)⟩) rfl) ?_
        rintro w112 ⟨b113, S114, K115⟩
        replace b14 := K115.blk 0 rfl b14
        clear b19
        refine lv (d := 7) rfl rfl (by kernel_rfl) (e_assign (v := .int .i64 1) rfl) ?_
        refine wpList_nil ?_
        refine then_n ?_
        refine wp_ret ?_
        refine inb_r ?_
        refine then_r ?_
        refine then_r ?_
        refine inb_r ?_
        refine then_r ?_
        obtain rfl := Option.some.inj M
        have S116 := S114.unit
        have S117 := S116.unit
        have S118 := S117.pull (F := no) (Fr := [no, (is g18), (is g13)]) 1 rfl rfl
        have S119 := St.first (Fa := [no, no]) (Fr := [(is g18), (is g13)]) S118
        exact retST (ty := 34) (cur := #[.slice none 0 0, .slice none 0 0]) rfl rfl rfl (by exact e79) b113 Try.underlying34 rfl (by kernel_rfl) (show _ = .int .i64 1 from (by kernel_rfl)) ⟨none, 0, no, none, 0, no, H, rfl, (Row.nil _ _ _ _ no), (Row.nil _ _ _ _ no), S119⟩
      replace M := ifn q111 M
      refine cond_f rfl (bf q111 (by kernel_rfl)) ?_
      refine wp_skip ?_
      refine inb_n ?_
      refine then_n ?_
      refine wp_region_lit ?_
      refine lv (d := 39) rfl rfl (by kernel_rfl) (e_move (v := .int .i64 x75) (by exact e80)) ?_
      refine lv (d := 40) rfl rfl (by kernel_rfl) (e_add (k := .i64) (a := x75) (b := 1) (by kernel_rfl) rfl) ?_
      refine lv (d := 8) rfl rfl (by kernel_rfl) (e_assign (v := .int .i64 (IntKind.i64.wrap (x75 + 1))) (by kernel_rfl)) ?_
      refine wpList_nil ?_
      refine then_n ?_
      exact ⟨k86, (by omega), _, (IntKind.i64.wrap (x75 + 1)), rfl, (by exact e76), (by exact e77), (by exact e78), (by exact e79), (by kernel_rfl), b19, b14, S81, M⟩
    replace M := ifn q100 M
    refine lskip (t := 48) (c := false) rfl (by kernel_rfl) rfl (bf q100 (by kernel_rfl)) rfl rfl ?_
    refine lskip (t := 48) (c := false) rfl (by kernel_rfl) rfl (bf q100 (by kernel_rfl)) rfl rfl ?_
    refine lskip (t := 48) (c := false) rfl (by kernel_rfl) rfl (bf q100 (by kernel_rfl)) rfl rfl ?_
    refine lskip (t := 48) (c := false) rfl (by kernel_rfl) rfl (bf q100 (by kernel_rfl)) rfl rfl ?_
    refine lskip (t := 48) (c := false) rfl (by kernel_rfl) rfl (bf q100 (by kernel_rfl)) rfl rfl ?_
    refine lskip (t := 48) (c := false) rfl (by kernel_rfl) rfl (bf q100 (by kernel_rfl)) rfl rfl ?_
    refine lskip (t := 48) (c := false) rfl (by kernel_rfl) rfl (bf q100 (by kernel_rfl)) rfl rfl ?_
    refine lskip (t := 48) (c := false) rfl (by kernel_rfl) rfl (bf q100 (by kernel_rfl)) rfl rfl ?_
    refine lskip (t := 48) (c := false) rfl (by kernel_rfl) rfl (bf q100 (by kernel_rfl)) rfl rfl ?_
    refine lskip (t := 48) (c := false) rfl (by kernel_rfl) rfl (bf q100 (by kernel_rfl)) rfl rfl ?_
    refine lv (d := 59) rfl rfl (by kernel_rfl) (e_pick_f (v := .bool false) (bf q100 (by kernel_rfl)) rfl) ?_
    refine wpList_nil ?_
    refine then_n ?_
    refine cond_f rfl (by kernel_rfl) ?_
    refine wp_skip ?_
    refine inb_n ?_
    refine then_n ?_
    refine wp_region_lit ?_
    refine lv (d := 39) rfl rfl (by kernel_rfl) (e_move (v := .int .i64 x75) (by exact e80)) ?_
    refine lv (d := 40) rfl rfl (by kernel_rfl) (e_add (k := .i64) (a := x75) (b := 1) (by kernel_rfl) rfl) ?_
    refine lv (d := 8) rfl rfl (by kernel_rfl) (e_assign (v := .int .i64 (IntKind.i64.wrap (x75 + 1))) (by kernel_rfl)) ?_
    refine wpList_nil ?_
    refine then_n ?_
    exact ⟨k86, (by omega), _, (IntKind.i64.wrap (x75 + 1)), rfl, (by exact e76), (by exact e77), (by exact e78), (by exact e79), (by kernel_rfl), b19, b14, S81, M⟩
  replace M := ifn q87 M
  refine cond_f rfl (bf q87 (by kernel_rfl)) ?_
  refine wp_exit ?_
  refine then_e ?_
  refine then_e ?_
  refine inb_hit ?_
  refine then_n ?_
  refine wp_seq ?_
  refine wp_region_lit ?_
  refine lv (d := 61) rfl rfl (by kernel_rfl) (e_loadS (b := g13) (off := 0) (cs := [.slice A2 x1.cells.length c3, .slice A6 x1.trail.length c7]) Try.underlying34 rfl (by kernel_rfl) (by exact e78) (blk_cells b14 rfl)) ?_
  obtain ⟨t120, u121, M⟩ := bnd M
  refine lcall (d := 62) rfl rfl (by kernel_rfl) (e_call (l := [.tmp 61]) (vs := [.agg #[.slice A2 x1.cells.length c3, .slice A6 x1.trail.length c7]]) Try.func58 (by kernel_rfl) rfl (by kernel_rfl) rfl) (impl_copyStore.calls k86 w73 H x1 A2 c3 A6 c7 h4 l5 h8 l9 (St.own' (Fa := []) (Fr := [(is g18), (is g13)]) S81) t120 u121) ?_
  rintro _ w122 ⟨A125, c126, F128, A129, c130, F132, H123, rfl, h127, h131, T124⟩
  refine ⟨_, rfl, ?_⟩
  obtain ⟨S133, K134⟩ := St.call (Fa := []) (Fr := [(is g18), (is g13)]) S81 T124
  replace b19 := K134.blk 0 rfl b19
  replace b14 := K134.blk 1 rfl b14
  have E135 := T124.ext
  refine lve (d := 9) rfl rfl (by kernel_rfl) (new_blk (v := fun g_ => .pointer (some ⟨g_, 0, none⟩)) (cs := #[.slice none 0 0, .slice none 0 0]) (t := 34) S133 (by kernel_rfl)) ?_
  rintro _ w136 ⟨g137, rfl, b138, S139, K140⟩
  replace h127 := h127.move (K140.at 0 rfl)
  replace h131 := h131.move (K140.at 1 rfl)
  replace b19 := K140.blk 2 rfl b19
  replace b14 := K140.blk 3 rfl b14
  refine lse rfl rfl (by kernel_rfl) (e_store (g := g137) (o := 0) (v := .agg #[.slice A125 t120.cells.length c126, .slice A129 t120.trail.length c130]) (cur' := #[.slice A125 t120.cells.length c126, .slice A129 t120.trail.length c130]) (vs := [.slice A125 t120.cells.length c126, .slice A129 t120.trail.length c130]) S139 (by kernel_rfl) (by kernel_rfl) rfl (by kernel_rfl) b138 (Nat.le_of_ble_eq_true rfl) (List.forall_mem_cons.2 ⟨rfl, (List.forall_mem_cons.2 ⟨rfl, (fun _ h_ => by cases h_)⟩)⟩) rfl) ?_
  rintro w141 ⟨b142, S143, K144⟩
  replace h127 := h127.move (K144.at 0 rfl)
  replace h131 := h131.move (K144.at 1 rfl)
  replace b19 := K144.blk 2 rfl b19
  replace b14 := K144.blk 3 rfl b14
  clear b138
  refine wpList_nil ?_
  refine then_n ?_
  refine wp_seq ?_
  refine wp_region_lit ?_
  refine lv (d := 63) rfl rfl (by kernel_rfl) (e_move (v := .int .i64 x10) (by exact e76)) ?_
  refine lv (d := 64) rfl rfl (by kernel_rfl) (e_move (v := .int .i64 x11) (by exact e77)) ?_
  have S145 := S143.pull (F := F132) (Fr := [(is g137), F128, (is g18), (is g13)]) 2 rfl rfl
  have S146 := S145.pull (F := F128) (Fr := [F132, (is g137), (is g18), (is g13)]) 2 rfl rfl
  obtain ⟨t147, u148, M⟩ := bnd M
  refine lcall (d := 65) rfl rfl (by kernel_rfl) (e_call (l := [.tmp 9, .tmp 63, .tmp 64]) (vs := [.pointer (some ⟨g137, 0, none⟩), .int .i64 x10, .int .i64 x11]) Try.func59 (by kernel_rfl) rfl (by kernel_rfl) rfl) (impl_Store_unwind.calls k86 w141 H123 t120 g137 A125 c126 F128 A129 c130 F132 x10 x11 h127 h131 b142 (St.own' (Fa := [F128, F132, (is g137)]) (Fr := [(is g18), (is g13)]) S146) t147 u148) ?_
  rintro _ w149 ⟨A152, c153, F155, A156, c157, F159, H150, rfl, h154, h158, b160, T151⟩
  refine ⟨_, rfl, ?_⟩
  obtain ⟨S161, K162⟩ := St.call (Fa := [F128, F132, (is g137)]) (Fr := [(is g18), (is g13)]) S146 T151
  replace b19 := K162.blk 0 rfl b19
  replace b14 := K162.blk 1 rfl b14
  have E163 := T151.ext
  refine wpList_nil ?_
  refine then_n ?_
  refine wp_seq ?_
  refine wp_seq ?_
  refine wp_region_lit ?_
  refine lv (d := 66) rfl rfl (by kernel_rfl) (e_loadS (b := g137) (off := 0) (cs := [.slice A152 t147.cells.length c153, .slice A156 t147.trail.length c157]) Try.underlying34 rfl (by kernel_rfl) (by kernel_rfl) (blk_cells b160 rfl)) ?_
  obtain ⟨t164, u165, M⟩ := bnd M
  refine lcall (d := 67) rfl rfl (by kernel_rfl) (e_call (l := [.tmp 66]) (vs := [.agg #[.slice A152 t147.cells.length c153, .slice A156 t147.trail.length c157]]) Try.func42 (by kernel_rfl) rfl (by kernel_rfl) rfl) (by have l166 := h154.le; have S167 := S161.pull (F := F155) (Fr := [(is g137), F159, (is g18), (is g13)]) 1 rfl rfl; obtain ⟨H168, S169, E170, h171, z172⟩ := S167.frzRow h154; replace h158 := h158.ext E170; have l173 := h158.le; have S174 := S169.pull (F := F159) (Fr := [(is g137), (is g18), (is g13)]) 1 rfl rfl; obtain ⟨H175, S176, E177, h178, z179⟩ := S174.frzRow h158; exact (impl_Store_ok.calls k86 w149 H175 t147 A152 c153 A156 c157 (h171.ext E177) l166 h178 l173 S176.own0 t164 u165)) ?_
  rintro _ w180 ⟨rfl, C181⟩
  refine ⟨_, rfl, ?_⟩
  obtain ⟨S182, K183⟩ := S161.still C181
  replace b160 := K183.blk 0 rfl b160
  replace h154 := h154.move (K183.at 1 rfl)
  replace h158 := h158.move (K183.at 2 rfl)
  replace b19 := K183.blk 3 rfl b19
  replace b14 := K183.blk 4 rfl b14
  refine lv (d := 68) rfl rfl (by kernel_rfl) (e_notv (c := t164) (by kernel_rfl)) ?_
  refine wpList_nil ?_
  refine then_n ?_
  by_cases q184 : ¬ (t164 = true)
  · replace M := ifp q184 M
    refine cond_t rfl (bt q184 (by kernel_rfl)) ?_
    refine wp_seq ?_
    refine wp_region_lit ?_
    refine lv (d := 69) rfl rfl (by kernel_rfl) (show _ = Result.ok (Next.value (.agg #[.slice none 0 0, .slice none 0 0])) w180 from by kernel_rfl) ?_
    have S185 := S182.pull (F := (is g18)) (Fr := [(is g137), F155, F159, (is g13)]) 3 rfl rfl
    refine lse rfl rfl (by kernel_rfl) (e_store (g := g18) (o := 0) (v := .agg #[.slice none 0 0, .slice none 0 0]) (cur' := #[.slice none 0 0, .slice none 0 0]) (vs := [.slice none 0 0, .slice none 0 0]) S185 (by exact e79) (by kernel_rfl) rfl (by kernel_rfl) b19 (Nat.le_of_ble_eq_true rfl) (List.forall_mem_cons.2 ⟨rfl, (List.forall_mem_cons.2 ⟨rfl, (fun _ h_ => by cases h_)⟩)⟩) rfl) ?_
    rintro w186 ⟨b187, S188, K189⟩
    replace b160 := K189.blk 0 rfl b160
    replace h154 := h154.move (K189.at 1 rfl)
    replace h158 := h158.move (K189.at 2 rfl)
    replace b14 := K189.blk 3 rfl b14
    clear b19
    refine lv (d := 7) rfl rfl (by kernel_rfl) (e_assign (v := .int .i64 4) rfl) ?_
    refine wpList_nil ?_
    refine then_n ?_
    refine wp_ret ?_
    refine then_r ?_
    obtain rfl := Option.some.inj M
    have S190 := S188.unit
    have S191 := S190.unit
    have S192 := S191.pull (F := no) (Fr := [no, (is g18), (is g137), F155, F159, (is g13)]) 1 rfl rfl
    have S193 := St.first (Fa := [no, no]) (Fr := [(is g18), (is g137), F155, F159, (is g13)]) S192
    exact retST (ty := 34) (cur := #[.slice none 0 0, .slice none 0 0]) rfl rfl rfl (by exact e79) b187 Try.underlying34 rfl (by kernel_rfl) (show _ = .int .i64 4 from (by kernel_rfl)) ⟨none, 0, no, none, 0, no, H150, rfl, (Row.nil _ _ _ _ no), (Row.nil _ _ _ _ no), S193⟩
  replace M := ifn q184 M
  refine cond_f rfl (bf q184 (by kernel_rfl)) ?_
  refine wp_skip ?_
  refine then_n ?_
  refine wp_seq ?_
  refine wp_region_lit ?_
  refine lv (d := 70) rfl rfl (by kernel_rfl) (e_loadS (b := g137) (off := 0) (cs := [.slice A152 t147.cells.length c153, .slice A156 t147.trail.length c157]) Try.underlying34 rfl (by kernel_rfl) (by kernel_rfl) (blk_cells b160 rfl)) ?_
  have S194 := S182.pull (F := (is g18)) (Fr := [(is g137), F155, F159, (is g13)]) 3 rfl rfl
  refine lse rfl rfl (by kernel_rfl) (e_store (g := g18) (o := 0) (v := .agg #[.slice A152 t147.cells.length c153, .slice A156 t147.trail.length c157]) (cur' := #[.slice A152 t147.cells.length c153, .slice A156 t147.trail.length c157]) (vs := [.slice A152 t147.cells.length c153, .slice A156 t147.trail.length c157]) S194 (by exact e79) (by kernel_rfl) rfl (by kernel_rfl) b19 (Nat.le_of_ble_eq_true rfl) (List.forall_mem_cons.2 ⟨rfl, (List.forall_mem_cons.2 ⟨rfl, (fun _ h_ => by cases h_)⟩)⟩) rfl) ?_
  rintro w195 ⟨b196, S197, K198⟩
  replace b160 := K198.blk 0 rfl b160
  replace h154 := h154.move (K198.at 1 rfl)
  replace h158 := h158.move (K198.at 2 rfl)
  replace b14 := K198.blk 3 rfl b14
  clear b19
  refine lv (d := 7) rfl rfl (by kernel_rfl) (e_assign (v := .int .i64 0) rfl) ?_
  refine wpList_nil ?_
  refine then_n ?_
  refine wp_ret ?_
  obtain rfl := Option.some.inj M
  have S199 := S197.pull (F := F159) (Fr := [(is g18), (is g137), F155, (is g13)]) 3 rfl rfl
  have S200 := S199.pull (F := F155) (Fr := [F159, (is g18), (is g137), (is g13)]) 3 rfl rfl
  have S201 := St.first (Fa := [F155, F159]) (Fr := [(is g18), (is g137), (is g13)]) S200
  exact retST (ty := 34) (cur := #[.slice A152 t147.cells.length c153, .slice A156 t147.trail.length c157]) rfl rfl rfl (by exact e79) b196 Try.underlying34 rfl (by kernel_rfl) (show _ = .int .i64 0 from (by kernel_rfl)) ⟨A152, c153, F155, A156, c157, F159, H150, rfl, h154, h158, S201⟩

/-! laws_eqByteS -/
def laws_eqByteS.l0 : Nat → (List UInt8) → (List UInt8) → Int → Option Bool
  | 0, _, _, _ => none
  | k23 + 1, x1, x6, x14 => (if x14 < (x1.length : Int) then (if 0 ≤ x14 then (if x14 < (x6.length : Int) then (if ((x1.getD ((x14).toNat) (0 : UInt8)).toNat : Int) ≠ ((x6.getD ((x14).toNat) (0 : UInt8)).toNat : Int) then some false else (laws_eqByteS.l0 k23 x1 x6 (IntKind.i64.wrap (x14 + 1)))) else none) else none) else some true)
def laws_eqByteS.f (k : Nat) (x1 : List UInt8) (x6 : List UInt8) : Option Bool := (if (x1.length : Int) ≠ (x6.length : Int) then some false else (laws_eqByteS.l0 k x1 x6 0))
theorem laws_eqByteS.calls (k : Nat) (w : World) (H : Hp) (x1 : List UInt8) (A2 : Option Addr) (c3 : Nat) (x6 : List UInt8) (A7 : Option Addr) (c8 : Nat) (h4 : Rd tByte H A2 x1) (l5 : x1.length ≤ c3) (h9 : Rd tByte H A7 x6) (l10 : x6.length ≤ c8) (S : Own [] H w) (r : Bool) (M : laws_eqByteS.f k x1 x6 = some r) :
    Calls Try.prog 45 #[.slice A2 x1.length c3, .slice A7 x6.length c8] w (fun e e_w => e = .returned (.bool r) ∧ Chg no w e_w) := by
  rw [laws_eqByteS.f] at M
  refine enter (l := [.slice A2 x1.length c3, .slice A7 x6.length c8]) 26 Try.func45 rfl rfl rfl ?_
  have S0_ := S.st
  refine wp_seq ?_
  refine wp_region_lit ?_
  refine lv (d := 4) rfl rfl (by kernel_rfl) (e_assign (v := .bool false) rfl) ?_
  refine wpList_nil ?_
  refine then_n ?_
  refine wp_seq ?_
  refine wp_seq ?_
  refine wp_region_lit ?_
  refine lv (d := 6) rfl rfl (by kernel_rfl) (e_move (v := .slice A2 x1.length c3) (by kernel_rfl)) ?_
  refine lv (d := 7) rfl rfl (by kernel_rfl) (e_len (A := A2) (n := x1.length) (c := c3) Try.underlying26 (by kernel_rfl)) ?_
  refine lv (d := 8) rfl rfl (by kernel_rfl) (e_move (v := .slice A7 x6.length c8) (by kernel_rfl)) ?_
  refine lv (d := 9) rfl rfl (by kernel_rfl) (e_len (A := A7) (n := x6.length) (c := c8) Try.underlying26 (by kernel_rfl)) ?_
  refine lv (d := 10) rfl rfl (by kernel_rfl) (e_neq (k := .i64) (a := (x1.length : Int)) (b := (x6.length : Int)) (by kernel_rfl) (by kernel_rfl)) ?_
  refine wpList_nil ?_
  refine then_n ?_
  by_cases q11 : (x1.length : Int) ≠ (x6.length : Int)
  · replace M := ifp q11 M
    refine cond_t rfl (bt q11 (by kernel_rfl)) ?_
    refine wp_seq ?_
    refine wp_region_lit ?_
    refine lv (d := 4) rfl rfl (by kernel_rfl) (e_assign (v := .bool false) rfl) ?_
    refine wpList_nil ?_
    refine then_n ?_
    refine wp_ret ?_
    refine then_r ?_
    obtain rfl := Option.some.inj M
    exact ret1 rfl rfl  (show _ = .bool false from (by kernel_rfl)) ⟨rfl, S0_.chg⟩
  replace M := ifn q11 M
  refine cond_f rfl (bf q11 (by kernel_rfl)) ?_
  refine wp_skip ?_
  refine then_n ?_
  refine wp_seq ?_
  refine wp_seq ?_
  refine wp_region_lit ?_
  refine lv (d := 5) rfl rfl (by kernel_rfl) (e_assign (v := .int .i64 0) rfl) ?_
  refine wpList_nil ?_
  refine then_n ?_
  refine wp_block ?_
  refine wp_loop_g (fun k21 a22 w12 => ∃ (f13 : Nat → Value) (x14 : Int), a22 = mk 26 f13 ∧ f13 0 = .slice A2 x1.length c3 ∧ f13 1 = .slice A7 x6.length c8 ∧ f13 5 = .int .i64 x14 ∧ St (anyOf []) H w [] H w12 ∧ laws_eqByteS.l0 k21 x1 x6 x14 = some r) k ⟨_, 0, rfl, (by kernel_rfl), (by kernel_rfl), (by kernel_rfl), S0_, M⟩ ?_
  clear M
  rintro k21 a22 w12 ⟨f13, x14, rfl, e15, e16, e17, S18, M⟩
  rcases k21 with _ | k23
  · rw [laws_eqByteS.l0] at M
    cases M
  rw [laws_eqByteS.l0] at M
  refine wp_seq ?_
  refine wp_seq ?_
  refine wp_region_lit ?_
  refine lv (d := 11) rfl rfl (by kernel_rfl) (e_move (v := .int .i64 x14) (by exact e17)) ?_
  refine lv (d := 12) rfl rfl (by kernel_rfl) (e_move (v := .slice A2 x1.length c3) (by exact e15)) ?_
  refine lv (d := 13) rfl rfl (by kernel_rfl) (e_len (A := A2) (n := x1.length) (c := c3) Try.underlying26 (by kernel_rfl)) ?_
  refine lv (d := 14) rfl rfl (by kernel_rfl) (e_lss (k := .i64) (a := x14) (b := (x1.length : Int)) (by kernel_rfl) (by kernel_rfl)) ?_
  refine wpList_nil ?_
  refine then_n ?_
  by_cases q24 : x14 < (x1.length : Int)
  · replace M := ifp q24 M
    refine cond_t rfl (bt q24 (by kernel_rfl)) ?_
    refine wp_skip ?_
    refine then_n ?_
    refine wp_seq ?_
    refine wp_block ?_
    refine wp_seq ?_
    refine region_still (by kernel_rfl) (by kernel_rfl) S18 ?_
    intro w25 S26 K27
    refine sv (d := 17) rfl rfl (by kernel_rfl) (e_move (v := .slice A2 x1.length c3) (by exact e15)) ?_
    refine sv (d := 18) rfl rfl (by kernel_rfl) (e_move (v := .int .i64 x14) (by exact e17)) ?_
    obtain ⟨q28, M⟩ := chk M
    obtain ⟨b29, o30, e31⟩ := Rd.addr h4 (show (x14).toNat < x1.length by omega)
    obtain ⟨y32, r33, k34⟩ := Rd.at h4 e31 (getD_some (0 : UInt8) (show (x14).toNat < x1.length by omega))
    obtain rfl := r33
    refine sv (d := 19) rfl rfl (by kernel_rfl) (e_indexAddr (b := b29) (off := o30) (n := x1.length) (c := c3) (sz := 1) (i := x14) (k := .i64) Try.underlying26 e31 (by kernel_rfl) (by kernel_rfl) (by kernel_rfl) q28 q24) ?_
    refine sv (d := 20) rfl rfl (by kernel_rfl) (e_load1 (ad := ⟨b29, o30 + (x14 : Int).toNat * 1, none⟩) (v := .int .u8 ((x1.getD ((x14).toNat) (0 : UInt8)).toNat : Int)) Try.underlying5 rfl (by kernel_rfl) (hpx (S26.inv.cell (k34 0 _ rfl)))) ?_
    refine sv (d := 21) rfl rfl (by kernel_rfl) (e_move (v := .slice A7 x6.length c8) (by exact e16)) ?_
    refine sv (d := 22) rfl rfl (by kernel_rfl) (e_move (v := .int .i64 x14) (by exact e17)) ?_
    obtain ⟨q35, M⟩ := chk M
    obtain ⟨b36, o37, e38⟩ := Rd.addr h9 (show (x14).toNat < x6.length by omega)
    obtain ⟨y39, r40, k41⟩ := Rd.at h9 e38 (getD_some (0 : UInt8) (show (x14).toNat < x6.length by omega))
    obtain rfl := r40
    refine sv (d := 23) rfl rfl (by kernel_rfl) (e_indexAddr (b := b36) (off := o37) (n := x6.length) (c := c8) (sz := 1) (i := x14) (k := .i64) Try.underlying26 e38 (by kernel_rfl) (by kernel_rfl) (by kernel_rfl) q28 q35) ?_
    refine sv (d := 24) rfl rfl (by kernel_rfl) (e_load1 (ad := ⟨b36, o37 + (x14 : Int).toNat * 1, none⟩) (v := .int .u8 ((x6.getD ((x14).toNat) (0 : UInt8)).toNat : Int)) Try.underlying5 rfl (by kernel_rfl) (hpx (S26.inv.cell (k41 0 _ rfl)))) ?_
    refine sv (d := 25) rfl rfl (by kernel_rfl) (e_neq (k := .u8) (a := ((x1.getD ((x14).toNat) (0 : UInt8)).toNat : Int)) (b := ((x6.getD ((x14).toNat) (0 : UInt8)).toNat : Int)) (by kernel_rfl) (by kernel_rfl)) ?_
    refine wpStill_nil ?_
    refine then_n ?_
    by_cases q42 : ((x1.getD ((x14).toNat) (0 : UInt8)).toNat : Int) ≠ ((x6.getD ((x14).toNat) (0 : UInt8)).toNat : Int)
    · replace M := ifp q42 M
      refine cond_t rfl (bt q42 (by kernel_rfl)) ?_
      refine wp_seq ?_
      refine wp_region_lit ?_
      refine lv (d := 4) rfl rfl (by kernel_rfl) (e_assign (v := .bool false) rfl) ?_
      refine wpList_nil ?_
      refine then_n ?_
      refine wp_ret ?_
      refine inb_r ?_
      refine then_r ?_
      refine then_r ?_
      refine inb_r ?_
      refine then_r ?_
      obtain rfl := Option.some.inj M
      exact ret1 rfl rfl  (show _ = .bool false from (by kernel_rfl)) ⟨rfl, S26.chg⟩
    replace M := ifn q42 M
    refine cond_f rfl (bf q42 (by kernel_rfl)) ?_
    refine wp_skip ?_
    refine inb_n ?_
    refine then_n ?_
    refine wp_region_lit ?_
    refine lv (d := 15) rfl rfl (by kernel_rfl) (e_move (v := .int .i64 x14) (by exact e17)) ?_
    refine lv (d := 16) rfl rfl (by kernel_rfl) (e_add (k := .i64) (a := x14) (b := 1) (by kernel_rfl) rfl) ?_
    refine lv (d := 5) rfl rfl (by kernel_rfl) (e_assign (v := .int .i64 (IntKind.i64.wrap (x14 + 1))) (by kernel_rfl)) ?_
    refine wpList_nil ?_
    refine then_n ?_
    exact ⟨k23, (by omega), _, (IntKind.i64.wrap (x14 + 1)), rfl, (by exact e15), (by exact e16), (by kernel_rfl), S26, M⟩
  replace M := ifn q24 M
  refine cond_f rfl (bf q24 (by kernel_rfl)) ?_
  refine wp_exit ?_
  refine then_e ?_
  refine then_e ?_
  refine inb_hit ?_
  refine then_n ?_
  refine wp_seq ?_
  refine wp_region_lit ?_
  refine lv (d := 4) rfl rfl (by kernel_rfl) (e_assign (v := .bool true) rfl) ?_
  refine wpList_nil ?_
  refine then_n ?_
  refine wp_ret ?_
  obtain rfl := Option.some.inj M
  exact ret1 rfl rfl  (show _ = .bool true from (by kernel_rfl)) ⟨rfl, S18.chg⟩

/-! laws_eqCell -/
def laws_eqCell.f (k : Nat) (x1 : Cell) (x6 : Cell) : Option Bool := (if x1.kind ≠ x6.kind then some false else (if x1.n ≠ x6.n then some false else ((laws_eqByteS.f k x1.text x6.text).bind fun t23 => (if ¬ (t23 = true) then some false else some true))))
theorem laws_eqCell.calls (k : Nat) (w : World) (H : Hp) (x1 : Cell) (A2 : Option Addr) (c3 : Nat) (x6 : Cell) (A7 : Option Addr) (c8 : Nat) (h4 : Rd tByte H A2 x1.text) (l5 : x1.text.length ≤ c3) (h9 : Rd tByte H A7 x6.text) (l10 : x6.text.length ≤ c8) (S : Own [] H w) (r : Bool) (M : laws_eqCell.f k x1 x6 = some r) :
    Calls Try.prog 16 #[.agg #[.int .i64 x1.kind, .int .i64 x1.n, .slice A2 x1.text.length c3], .agg #[.int .i64 x6.kind, .int .i64 x6.n, .slice A7 x6.text.length c8]] w (fun e e_w => e = .returned (.bool r) ∧ Chg no w e_w) := by
  rw [laws_eqCell.f] at M
  refine enter (l := [.agg #[.int .i64 x1.kind, .int .i64 x1.n, .slice A2 x1.text.length c3], .agg #[.int .i64 x6.kind, .int .i64 x6.n, .slice A7 x6.text.length c8]]) 21 Try.func16 rfl rfl rfl ?_
  have S0_ := S.st
  refine wp_seq ?_
  refine wp_region_lit ?_
  refine lve (d := 2) rfl rfl (by kernel_rfl) (new_blk (v := fun g_ => .pointer (some ⟨g_, 0, none⟩)) (cs := #[.int .i64 x1.kind, .int .i64 x1.n, .slice A2 x1.text.length c3]) (t := 36) S0_ (by kernel_rfl)) ?_
  rintro _ w11 ⟨g12, rfl, b13, S14, K15⟩
  refine lve (d := 3) rfl rfl (by kernel_rfl) (new_blk (v := fun g_ => .pointer (some ⟨g_, 0, none⟩)) (cs := #[.int .i64 x6.kind, .int .i64 x6.n, .slice A7 x6.text.length c8]) (t := 36) S14 (by kernel_rfl)) ?_
  rintro _ w16 ⟨g17, rfl, b18, S19, K20⟩
  replace b13 := K20.blk 0 rfl b13
  refine lv (d := 4) rfl rfl (by kernel_rfl) (e_assign (v := .bool false) rfl) ?_
  refine wpList_nil ?_
  refine then_n ?_
  refine wp_seq ?_
  refine wp_seq ?_
  refine wp_region_lit ?_
  refine lv (d := 5) rfl rfl (by kernel_rfl) (e_fieldAddr (b := g12) (off := 0) (o := 0) Try.underlying36 rfl rfl (sz := 1) (by kernel_rfl) (by decide) (by kernel_rfl)) ?_
  refine lv (d := 6) rfl rfl (by kernel_rfl) (e_load1 (ad := ⟨g12, 0 + 0, none⟩) (v := .int .i64 x1.kind) Try.underlying3 rfl (by kernel_rfl) (blk_cell b13 rfl)) ?_
  refine lv (d := 7) rfl rfl (by kernel_rfl) (e_fieldAddr (b := g17) (off := 0) (o := 0) Try.underlying36 rfl rfl (sz := 1) (by kernel_rfl) (by decide) (by kernel_rfl)) ?_
  refine lv (d := 8) rfl rfl (by kernel_rfl) (e_load1 (ad := ⟨g17, 0 + 0, none⟩) (v := .int .i64 x6.kind) Try.underlying3 rfl (by kernel_rfl) (blk_cell b18 rfl)) ?_
  refine lv (d := 9) rfl rfl (by kernel_rfl) (e_neq (k := .i64) (a := x1.kind) (b := x6.kind) (by kernel_rfl) (by kernel_rfl)) ?_
  refine wpList_nil ?_
  refine then_n ?_
  by_cases q21 : x1.kind ≠ x6.kind
  · replace M := ifp q21 M
    refine cond_t rfl (bt q21 (by kernel_rfl)) ?_
    refine wp_seq ?_
    refine wp_region_lit ?_
    refine lv (d := 4) rfl rfl (by kernel_rfl) (e_assign (v := .bool false) rfl) ?_
    refine wpList_nil ?_
    refine then_n ?_
    refine wp_ret ?_
    refine then_r ?_
    obtain rfl := Option.some.inj M
    exact ret1 rfl rfl  (show _ = .bool false from (by kernel_rfl)) ⟨rfl, S19.chg⟩
  replace M := ifn q21 M
  refine cond_f rfl (bf q21 (by kernel_rfl)) ?_
  refine wp_skip ?_
  refine then_n ?_
  refine wp_seq ?_
  refine wp_seq ?_
  refine wp_region_lit ?_
  refine lv (d := 10) rfl rfl (by kernel_rfl) (e_fieldAddr (b := g12) (off := 0) (o := 1) Try.underlying36 rfl rfl (sz := 1) (by kernel_rfl) (by decide) (by kernel_rfl)) ?_
  refine lv (d := 11) rfl rfl (by kernel_rfl) (e_load1 (ad := ⟨g12, 0 + 1, none⟩) (v := .int .i64 x1.n) Try.underlying3 rfl (by kernel_rfl) (blk_cell b13 rfl)) ?_
  refine lv (d := 12) rfl rfl (by kernel_rfl) (e_fieldAddr (b := g17) (off := 0) (o := 1) Try.underlying36 rfl rfl (sz := 1) (by kernel_rfl) (by decide) (by kernel_rfl)) ?_
  refine lv (d := 13) rfl rfl (by kernel_rfl) (e_load1 (ad := ⟨g17, 0 + 1, none⟩) (v := .int .i64 x6.n) Try.underlying3 rfl (by kernel_rfl) (blk_cell b18 rfl)) ?_
  refine lv (d := 14) rfl rfl (by kernel_rfl) (e_neq (k := .i64) (a := x1.n) (b := x6.n) (by kernel_rfl) (by kernel_rfl)) ?_
  refine wpList_nil ?_
  refine then_n ?_
  by_cases q22 : x1.n ≠ x6.n
  · replace M := ifp q22 M
    refine cond_t rfl (bt q22 (by kernel_rfl)) ?_
    refine wp_seq ?_
    refine wp_region_lit ?_
    refine lv (d := 4) rfl rfl (by kernel_rfl) (e_assign (v := .bool false) rfl) ?_
    refine wpList_nil ?_
    refine then_n ?_
    refine wp_ret ?_
    refine then_r ?_
    obtain rfl := Option.some.inj M
    exact ret1 rfl rfl  (show _ = .bool false from (by kernel_rfl)) ⟨rfl, S19.chg⟩
  replace M := ifn q22 M
  refine cond_f rfl (bf q22 (by kernel_rfl)) ?_
  refine wp_skip ?_
  refine then_n ?_
  refine wp_seq ?_
  refine wp_seq ?_
  refine wp_region_lit ?_
  refine lv (d := 15) rfl rfl (by kernel_rfl) (e_fieldAddr (b := g12) (off := 0) (o := 2) Try.underlying36 rfl rfl (sz := 1) (by kernel_rfl) (by decide) (by kernel_rfl)) ?_
  refine lv (d := 16) rfl rfl (by kernel_rfl) (e_load1 (ad := ⟨g12, 0 + 2, none⟩) (v := .slice A2 x1.text.length c3) Try.underlying26 rfl (by kernel_rfl) (blk_cell b13 rfl)) ?_
  refine lv (d := 17) rfl rfl (by kernel_rfl) (e_fieldAddr (b := g17) (off := 0) (o := 2) Try.underlying36 rfl rfl (sz := 1) (by kernel_rfl) (by decide) (by kernel_rfl)) ?_
  refine lv (d := 18) rfl rfl (by kernel_rfl) (e_load1 (ad := ⟨g17, 0 + 2, none⟩) (v := .slice A7 x6.text.length c8) Try.underlying26 rfl (by kernel_rfl) (blk_cell b18 rfl)) ?_
  obtain ⟨t23, u24, M⟩ := bnd M
  refine lcall (d := 19) rfl rfl (by kernel_rfl) (e_call (l := [.tmp 16, .tmp 18]) (vs := [.slice A2 x1.text.length c3, .slice A7 x6.text.length c8]) Try.func45 (by kernel_rfl) rfl (by kernel_rfl) rfl) (laws_eqByteS.calls k w16 H x1.text A2 c3 x6.text A7 c8 h4 l5 h9 l10 S19.own0 t23 u24) ?_
  rintro _ w25 ⟨rfl, C26⟩
  refine ⟨_, rfl, ?_⟩
  obtain ⟨S27, K28⟩ := S19.still C26
  replace b18 := K28.blk 0 rfl b18
  replace b13 := K28.blk 1 rfl b13
  refine lv (d := 20) rfl rfl (by kernel_rfl) (e_notv (c := t23) (by kernel_rfl)) ?_
  refine wpList_nil ?_
  refine then_n ?_
  by_cases q29 : ¬ (t23 = true)
  · replace M := ifp q29 M
    refine cond_t rfl (bt q29 (by kernel_rfl)) ?_
    refine wp_seq ?_
    refine wp_region_lit ?_
    refine lv (d := 4) rfl rfl (by kernel_rfl) (e_assign (v := .bool false) rfl) ?_
    refine wpList_nil ?_
    refine then_n ?_
    refine wp_ret ?_
    refine then_r ?_
    obtain rfl := Option.some.inj M
    exact ret1 rfl rfl  (show _ = .bool false from (by kernel_rfl)) ⟨rfl, S27.chg⟩
  replace M := ifn q29 M
  refine cond_f rfl (bf q29 (by kernel_rfl)) ?_
  refine wp_skip ?_
  refine then_n ?_
  refine wp_seq ?_
  refine wp_region_lit ?_
  refine lv (d := 4) rfl rfl (by kernel_rfl) (e_assign (v := .bool true) rfl) ?_
  refine wpList_nil ?_
  refine then_n ?_
  refine wp_ret ?_
  obtain rfl := Option.some.inj M
  exact ret1 rfl rfl  (show _ = .bool true from (by kernel_rfl)) ⟨rfl, S27.chg⟩

/-! laws_eqCellS -/
def laws_eqCellS.l0 : Nat → (List Cell) → (List Cell) → Int → Option Bool
  | 0, _, _, _ => none
  | k23 + 1, x1, x6, x14 => (if x14 < (x1.length : Int) then (if 0 ≤ x14 then (if x14 < (x6.length : Int) then ((laws_eqCell.f k23 (x1.getD ((x14).toNat) z36) (x6.getD ((x14).toNat) z36)).bind fun t47 => (if ¬ (t47 = true) then some false else (laws_eqCellS.l0 k23 x1 x6 (IntKind.i64.wrap (x14 + 1))))) else none) else none) else some true)
def laws_eqCellS.f (k : Nat) (x1 : List Cell) (x6 : List Cell) : Option Bool := (if (x1.length : Int) ≠ (x6.length : Int) then some false else (laws_eqCellS.l0 k x1 x6 0))
theorem laws_eqCellS.calls (k : Nat) (w : World) (H : Hp) (x1 : List Cell) (A2 : Option Addr) (c3 : Nat) (x6 : List Cell) (A7 : Option Addr) (c8 : Nat) (h4 : Rd st36 H A2 x1) (l5 : x1.length ≤ c3) (h9 : Rd st36 H A7 x6) (l10 : x6.length ≤ c8) (S : Own [] H w) (r : Bool) (M : laws_eqCellS.f k x1 x6 = some r) :
    Calls Try.prog 24 #[.slice A2 x1.length c3, .slice A7 x6.length c8] w (fun e e_w => e = .returned (.bool r) ∧ Chg no w e_w) := by
  rw [laws_eqCellS.f] at M
  refine enter (l := [.slice A2 x1.length c3, .slice A7 x6.length c8]) 27 Try.func24 rfl rfl rfl ?_
  have S0_ := S.st
  refine wp_seq ?_
  refine wp_region_lit ?_
  refine lv (d := 4) rfl rfl (by kernel_rfl) (e_assign (v := .bool false) rfl) ?_
  refine wpList_nil ?_
  refine then_n ?_
  refine wp_seq ?_
  refine wp_seq ?_
  refine wp_region_lit ?_
  refine lv (d := 6) rfl rfl (by kernel_rfl) (e_move (v := .slice A2 x1.length c3) (by kernel_rfl)) ?_
  refine lv (d := 7) rfl rfl (by kernel_rfl) (e_len (A := A2) (n := x1.length) (c := c3) Try.underlying32 (by kernel_rfl)) ?_
  refine lv (d := 8) rfl rfl (by kernel_rfl) (e_move (v := .slice A7 x6.length c8) (by kernel_rfl)) ?_
  refine lv (d := 9) rfl rfl (by kernel_rfl) (e_len (A := A7) (n := x6.length) (c := c8) Try.underlying32 (by kernel_rfl)) ?_
  refine lv (d := 10) rfl rfl (by kernel_rfl) (e_neq (k := .i64) (a := (x1.length : Int)) (b := (x6.length : Int)) (by kernel_rfl) (by kernel_rfl)) ?_
  refine wpList_nil ?_
  refine then_n ?_
  by_cases q11 : (x1.length : Int) ≠ (x6.length : Int)
  · replace M := ifp q11 M
    refine cond_t rfl (bt q11 (by kernel_rfl)) ?_
    refine wp_seq ?_
    refine wp_region_lit ?_
    refine lv (d := 4) rfl rfl (by kernel_rfl) (e_assign (v := .bool false) rfl) ?_
    refine wpList_nil ?_
    refine then_n ?_
    refine wp_ret ?_
    refine then_r ?_
    obtain rfl := Option.some.inj M
    exact ret1 rfl rfl  (show _ = .bool false from (by kernel_rfl)) ⟨rfl, S0_.chg⟩
  replace M := ifn q11 M
  refine cond_f rfl (bf q11 (by kernel_rfl)) ?_
  refine wp_skip ?_
  refine then_n ?_
  refine wp_seq ?_
  refine wp_seq ?_
  refine wp_region_lit ?_
  refine lv (d := 5) rfl rfl (by kernel_rfl) (e_assign (v := .int .i64 0) rfl) ?_
  refine wpList_nil ?_
  refine then_n ?_
  refine wp_block ?_
  refine wp_loop_g (fun k21 a22 w12 => ∃ (f13 : Nat → Value) (x14 : Int), a22 = mk 27 f13 ∧ f13 0 = .slice A2 x1.length c3 ∧ f13 1 = .slice A7 x6.length c8 ∧ f13 5 = .int .i64 x14 ∧ St (anyOf []) H w [] H w12 ∧ laws_eqCellS.l0 k21 x1 x6 x14 = some r) k ⟨_, 0, rfl, (by kernel_rfl), (by kernel_rfl), (by kernel_rfl), S0_, M⟩ ?_
  clear M
  rintro k21 a22 w12 ⟨f13, x14, rfl, e15, e16, e17, S18, M⟩
  rcases k21 with _ | k23
  · rw [laws_eqCellS.l0] at M
    cases M
  rw [laws_eqCellS.l0] at M
  refine wp_seq ?_
  refine wp_seq ?_
  refine wp_region_lit ?_
  refine lv (d := 11) rfl rfl (by kernel_rfl) (e_move (v := .int .i64 x14) (by exact e17)) ?_
  refine lv (d := 12) rfl rfl (by kernel_rfl) (e_move (v := .slice A2 x1.length c3) (by exact e15)) ?_
  refine lv (d := 13) rfl rfl (by kernel_rfl) (e_len (A := A2) (n := x1.length) (c := c3) Try.underlying32 (by kernel_rfl)) ?_
  refine lv (d := 14) rfl rfl (by kernel_rfl) (e_lss (k := .i64) (a := x14) (b := (x1.length : Int)) (by kernel_rfl) (by kernel_rfl)) ?_
  refine wpList_nil ?_
  refine then_n ?_
  by_cases q24 : x14 < (x1.length : Int)
  · replace M := ifp q24 M
    refine cond_t rfl (bt q24 (by kernel_rfl)) ?_
    refine wp_skip ?_
    refine then_n ?_
    refine wp_seq ?_
    refine wp_block ?_
    refine wp_seq ?_
    refine region_quiet (by kernel_rfl) (by kernel_rfl) ?_
    refine qv (d := 17) rfl rfl (by kernel_rfl) (fun wq_ hq_ => e_move (v := .slice A2 x1.length c3) (by exact e15)) ?_
    refine qv (d := 18) rfl rfl (by kernel_rfl) (fun wq_ hq_ => e_move (v := .int .i64 x14) (by exact e17)) ?_
    obtain ⟨q25, M⟩ := chk M
    obtain ⟨b26, o27, e28⟩ := Rd.addr h4 (show (x14).toNat < x1.length by omega)
    obtain ⟨y29, r30, k31⟩ := Rd.at h4 e28 (getD_some z36 (show (x14).toNat < x1.length by omega))
    obtain ⟨A32, c33, rfl, l34, h35⟩ := st36_open r30
    refine qv (d := 19) rfl rfl (by kernel_rfl) (fun wq_ hq_ => e_indexAddr (b := b26) (off := o27) (n := x1.length) (c := c3) (sz := 3) (i := x14) (k := .i64) Try.underlying32 e28 (by kernel_rfl) (by kernel_rfl) (by kernel_rfl) q25 q24) ?_
    refine qv (d := 20) rfl rfl (by kernel_rfl) (fun wq_ hq_ => e_loadS (b := b26) (off := o27 + (x14 : Int).toNat * 3) (cs := [.int .i64 ((x1.getD ((x14).toNat) z36).kind), .int .i64 ((x1.getD ((x14).toNat) z36).n), .slice A32 ((x1.getD ((x14).toNat) z36).text).length c33]) Try.underlying36 rfl (by kernel_rfl) (by kernel_rfl) (fun j_ u_ e_ => (hpx ((S18.still hq_).1.inv.cell (k31 j_ u_ e_))))) ?_
    refine qv (d := 21) rfl rfl (by kernel_rfl) (fun wq_ hq_ => e_move (v := .slice A7 x6.length c8) (by exact e16)) ?_
    refine qv (d := 22) rfl rfl (by kernel_rfl) (fun wq_ hq_ => e_move (v := .int .i64 x14) (by exact e17)) ?_
    obtain ⟨q36, M⟩ := chk M
    obtain ⟨b37, o38, e39⟩ := Rd.addr h9 (show (x14).toNat < x6.length by omega)
    obtain ⟨y40, r41, k42⟩ := Rd.at h9 e39 (getD_some z36 (show (x14).toNat < x6.length by omega))
    obtain ⟨A43, c44, rfl, l45, h46⟩ := st36_open r41
    refine qv (d := 23) rfl rfl (by kernel_rfl) (fun wq_ hq_ => e_indexAddr (b := b37) (off := o38) (n := x6.length) (c := c8) (sz := 3) (i := x14) (k := .i64) Try.underlying32 e39 (by kernel_rfl) (by kernel_rfl) (by kernel_rfl) q25 q36) ?_
    refine qv (d := 24) rfl rfl (by kernel_rfl) (fun wq_ hq_ => e_loadS (b := b37) (off := o38 + (x14 : Int).toNat * 3) (cs := [.int .i64 ((x6.getD ((x14).toNat) z36).kind), .int .i64 ((x6.getD ((x14).toNat) z36).n), .slice A43 ((x6.getD ((x14).toNat) z36).text).length c44]) Try.underlying36 rfl (by kernel_rfl) (by kernel_rfl) (fun j_ u_ e_ => (hpx ((S18.still hq_).1.inv.cell (k42 j_ u_ e_))))) ?_
    obtain ⟨t47, u48, M⟩ := bnd M
    refine qcall (v := .bool t47) (d := 25) rfl rfl (by kernel_rfl) (fun w_ => e_call (l := [.tmp 20, .tmp 24]) (vs := [.agg #[.int .i64 ((x1.getD ((x14).toNat) z36).kind), .int .i64 ((x1.getD ((x14).toNat) z36).n), .slice A32 ((x1.getD ((x14).toNat) z36).text).length c33], .agg #[.int .i64 ((x6.getD ((x14).toNat) z36).kind), .int .i64 ((x6.getD ((x14).toNat) z36).n), .slice A43 ((x6.getD ((x14).toNat) z36).text).length c44]]) Try.func16 (by kernel_rfl) rfl (by kernel_rfl) rfl) (fun wq_ hq_ => (by obtain ⟨S_, K_⟩ := S18.still hq_; exact (laws_eqCell.calls k23 wq_ H (x1.getD ((x14).toNat) z36) A32 c33 (x6.getD ((x14).toNat) z36) A43 c44 h35 l34 h46 l45 S_.own0 t47 u48))) ?_
    refine qv (d := 26) rfl rfl (by kernel_rfl) (fun wq_ hq_ => e_notv (c := t47) (by kernel_rfl)) ?_
    refine wpQuiet_nil ?_
    intro w49 C52
    obtain ⟨S50, K51⟩ := S18.still C52
    refine then_n ?_
    by_cases q53 : ¬ (t47 = true)
    · replace M := ifp q53 M
      refine cond_t rfl (bt q53 (by kernel_rfl)) ?_
      refine wp_seq ?_
      refine wp_region_lit ?_
      refine lv (d := 4) rfl rfl (by kernel_rfl) (e_assign (v := .bool false) rfl) ?_
      refine wpList_nil ?_
      refine then_n ?_
      refine wp_ret ?_
      refine inb_r ?_
      refine then_r ?_
      refine then_r ?_
      refine inb_r ?_
      refine then_r ?_
      obtain rfl := Option.some.inj M
      exact ret1 rfl rfl  (show _ = .bool false from (by kernel_rfl)) ⟨rfl, S50.chg⟩
    replace M := ifn q53 M
    refine cond_f rfl (bf q53 (by kernel_rfl)) ?_
    refine wp_skip ?_
    refine inb_n ?_
    refine then_n ?_
    refine wp_region_lit ?_
    refine lv (d := 15) rfl rfl (by kernel_rfl) (e_move (v := .int .i64 x14) (by exact e17)) ?_
    refine lv (d := 16) rfl rfl (by kernel_rfl) (e_add (k := .i64) (a := x14) (b := 1) (by kernel_rfl) rfl) ?_
    refine lv (d := 5) rfl rfl (by kernel_rfl) (e_assign (v := .int .i64 (IntKind.i64.wrap (x14 + 1))) (by kernel_rfl)) ?_
    refine wpList_nil ?_
    refine then_n ?_
    exact ⟨k23, (by omega), _, (IntKind.i64.wrap (x14 + 1)), rfl, (by exact e15), (by exact e16), (by kernel_rfl), S50, M⟩
  replace M := ifn q24 M
  refine cond_f rfl (bf q24 (by kernel_rfl)) ?_
  refine wp_exit ?_
  refine then_e ?_
  refine then_e ?_
  refine inb_hit ?_
  refine then_n ?_
  refine wp_seq ?_
  refine wp_region_lit ?_
  refine lv (d := 4) rfl rfl (by kernel_rfl) (e_assign (v := .bool true) rfl) ?_
  refine wpList_nil ?_
  refine then_n ?_
  refine wp_ret ?_
  obtain rfl := Option.some.inj M
  exact ret1 rfl rfl  (show _ = .bool true from (by kernel_rfl)) ⟨rfl, S18.chg⟩

/-! laws_eqIntS -/
def laws_eqIntS.l0 : Nat → (List Int) → (List Int) → Int → Option Bool
  | 0, _, _, _ => none
  | k23 + 1, x1, x6, x14 => (if x14 < (x1.length : Int) then (if 0 ≤ x14 then (if x14 < (x6.length : Int) then (if (x1.getD ((x14).toNat) (0 : Int)) ≠ (x6.getD ((x14).toNat) (0 : Int)) then some false else (laws_eqIntS.l0 k23 x1 x6 (IntKind.i64.wrap (x14 + 1)))) else none) else none) else some true)
def laws_eqIntS.f (k : Nat) (x1 : List Int) (x6 : List Int) : Option Bool := (if (x1.length : Int) ≠ (x6.length : Int) then some false else (laws_eqIntS.l0 k x1 x6 0))
theorem laws_eqIntS.calls (k : Nat) (w : World) (H : Hp) (x1 : List Int) (A2 : Option Addr) (c3 : Nat) (x6 : List Int) (A7 : Option Addr) (c8 : Nat) (h4 : Rd tInt H A2 x1) (l5 : x1.length ≤ c3) (h9 : Rd tInt H A7 x6) (l10 : x6.length ≤ c8) (S : Own [] H w) (r : Bool) (M : laws_eqIntS.f k x1 x6 = some r) :
    Calls Try.prog 44 #[.slice A2 x1.length c3, .slice A7 x6.length c8] w (fun e e_w => e = .returned (.bool r) ∧ Chg no w e_w) := by
  rw [laws_eqIntS.f] at M
  refine enter (l := [.slice A2 x1.length c3, .slice A7 x6.length c8]) 26 Try.func44 rfl rfl rfl ?_
  have S0_ := S.st
  refine wp_seq ?_
  refine wp_region_lit ?_
  refine lv (d := 4) rfl rfl (by kernel_rfl) (e_assign (v := .bool false) rfl) ?_
  refine wpList_nil ?_
  refine then_n ?_
  refine wp_seq ?_
  refine wp_seq ?_
  refine wp_region_lit ?_
  refine lv (d := 6) rfl rfl (by kernel_rfl) (e_move (v := .slice A2 x1.length c3) (by kernel_rfl)) ?_
  refine lv (d := 7) rfl rfl (by kernel_rfl) (e_len (A := A2) (n := x1.length) (c := c3) Try.underlying23 (by kernel_rfl)) ?_
  refine lv (d := 8) rfl rfl (by kernel_rfl) (e_move (v := .slice A7 x6.length c8) (by kernel_rfl)) ?_
  refine lv (d := 9) rfl rfl (by kernel_rfl) (e_len (A := A7) (n := x6.length) (c := c8) Try.underlying23 (by kernel_rfl)) ?_
  refine lv (d := 10) rfl rfl (by kernel_rfl) (e_neq (k := .i64) (a := (x1.length : Int)) (b := (x6.length : Int)) (by kernel_rfl) (by kernel_rfl)) ?_
  refine wpList_nil ?_
  refine then_n ?_
  by_cases q11 : (x1.length : Int) ≠ (x6.length : Int)
  · replace M := ifp q11 M
    refine cond_t rfl (bt q11 (by kernel_rfl)) ?_
    refine wp_seq ?_
    refine wp_region_lit ?_
    refine lv (d := 4) rfl rfl (by kernel_rfl) (e_assign (v := .bool false) rfl) ?_
    refine wpList_nil ?_
    refine then_n ?_
    refine wp_ret ?_
    refine then_r ?_
    obtain rfl := Option.some.inj M
    exact ret1 rfl rfl  (show _ = .bool false from (by kernel_rfl)) ⟨rfl, S0_.chg⟩
  replace M := ifn q11 M
  refine cond_f rfl (bf q11 (by kernel_rfl)) ?_
  refine wp_skip ?_
  refine then_n ?_
  refine wp_seq ?_
  refine wp_seq ?_
  refine wp_region_lit ?_
  refine lv (d := 5) rfl rfl (by kernel_rfl) (e_assign (v := .int .i64 0) rfl) ?_
  refine wpList_nil ?_
  refine then_n ?_
  refine wp_block ?_
  refine wp_loop_g (fun k21 a22 w12 => ∃ (f13 : Nat → Value) (x14 : Int), a22 = mk 26 f13 ∧ f13 0 = .slice A2 x1.length c3 ∧ f13 1 = .slice A7 x6.length c8 ∧ f13 5 = .int .i64 x14 ∧ St (anyOf []) H w [] H w12 ∧ laws_eqIntS.l0 k21 x1 x6 x14 = some r) k ⟨_, 0, rfl, (by kernel_rfl), (by kernel_rfl), (by kernel_rfl), S0_, M⟩ ?_
  clear M
  rintro k21 a22 w12 ⟨f13, x14, rfl, e15, e16, e17, S18, M⟩
  rcases k21 with _ | k23
  · rw [laws_eqIntS.l0] at M
    cases M
  rw [laws_eqIntS.l0] at M
  refine wp_seq ?_
  refine wp_seq ?_
  refine wp_region_lit ?_
  refine lv (d := 11) rfl rfl (by kernel_rfl) (e_move (v := .int .i64 x14) (by exact e17)) ?_
  refine lv (d := 12) rfl rfl (by kernel_rfl) (e_move (v := .slice A2 x1.length c3) (by exact e15)) ?_
  refine lv (d := 13) rfl rfl (by kernel_rfl) (e_len (A := A2) (n := x1.length) (c := c3) Try.underlying23 (by kernel_rfl)) ?_
  refine lv (d := 14) rfl rfl (by kernel_rfl) (e_lss (k := .i64) (a := x14) (b := (x1.length : Int)) (by kernel_rfl) (by kernel_rfl)) ?_
  refine wpList_nil ?_
  refine then_n ?_
  by_cases q24 : x14 < (x1.length : Int)
  · replace M := ifp q24 M
    refine cond_t rfl (bt q24 (by kernel_rfl)) ?_
    refine wp_skip ?_
    refine then_n ?_
    refine wp_seq ?_
    refine wp_block ?_
    refine wp_seq ?_
    refine region_still (by kernel_rfl) (by kernel_rfl) S18 ?_
    intro w25 S26 K27
    refine sv (d := 17) rfl rfl (by kernel_rfl) (e_move (v := .slice A2 x1.length c3) (by exact e15)) ?_
    refine sv (d := 18) rfl rfl (by kernel_rfl) (e_move (v := .int .i64 x14) (by exact e17)) ?_
    obtain ⟨q28, M⟩ := chk M
    obtain ⟨b29, o30, e31⟩ := Rd.addr h4 (show (x14).toNat < x1.length by omega)
    obtain ⟨y32, r33, k34⟩ := Rd.at h4 e31 (getD_some (0 : Int) (show (x14).toNat < x1.length by omega))
    obtain rfl := r33
    refine sv (d := 19) rfl rfl (by kernel_rfl) (e_indexAddr (b := b29) (off := o30) (n := x1.length) (c := c3) (sz := 1) (i := x14) (k := .i64) Try.underlying23 e31 (by kernel_rfl) (by kernel_rfl) (by kernel_rfl) q28 q24) ?_
    refine sv (d := 20) rfl rfl (by kernel_rfl) (e_load1 (ad := ⟨b29, o30 + (x14 : Int).toNat * 1, none⟩) (v := .int .i64 (x1.getD ((x14).toNat) (0 : Int))) Try.underlying3 rfl (by kernel_rfl) (hpx (S26.inv.cell (k34 0 _ rfl)))) ?_
    refine sv (d := 21) rfl rfl (by kernel_rfl) (e_move (v := .slice A7 x6.length c8) (by exact e16)) ?_
    refine sv (d := 22) rfl rfl (by kernel_rfl) (e_move (v := .int .i64 x14) (by exact e17)) ?_
    obtain ⟨q35, M⟩ := chk M
    obtain ⟨b36, o37, e38⟩ := Rd.addr h9 (show (x14).toNat < x6.length by omega)
    obtain ⟨y39, r40, k41⟩ := Rd.at h9 e38 (getD_some (0 : Int) (show (x14).toNat < x6.length by omega))
    obtain rfl := r40
    refine sv (d := 23) rfl rfl (by kernel_rfl) (e_indexAddr (b := b36) (off := o37) (n := x6.length) (c := c8) (sz := 1) (i := x14) (k := .i64) Try.underlying23 e38 (by kernel_rfl) (by kernel_rfl) (by kernel_rfl) q28 q35) ?_
    refine sv (d := 24) rfl rfl (by kernel_rfl) (e_load1 (ad := ⟨b36, o37 + (x14 : Int).toNat * 1, none⟩) (v := .int .i64 (x6.getD ((x14).toNat) (0 : Int))) Try.underlying3 rfl (by kernel_rfl) (hpx (S26.inv.cell (k41 0 _ rfl)))) ?_
    refine sv (d := 25) rfl rfl (by kernel_rfl) (e_neq (k := .i64) (a := (x1.getD ((x14).toNat) (0 : Int))) (b := (x6.getD ((x14).toNat) (0 : Int))) (by kernel_rfl) (by kernel_rfl)) ?_
    refine wpStill_nil ?_
    refine then_n ?_
    by_cases q42 : (x1.getD ((x14).toNat) (0 : Int)) ≠ (x6.getD ((x14).toNat) (0 : Int))
    · replace M := ifp q42 M
      refine cond_t rfl (bt q42 (by kernel_rfl)) ?_
      refine wp_seq ?_
      refine wp_region_lit ?_
      refine lv (d := 4) rfl rfl (by kernel_rfl) (e_assign (v := .bool false) rfl) ?_
      refine wpList_nil ?_
      refine then_n ?_
      refine wp_ret ?_
      refine inb_r ?_
      refine then_r ?_
      refine then_r ?_
      refine inb_r ?_
      refine then_r ?_
      obtain rfl := Option.some.inj M
      exact ret1 rfl rfl  (show _ = .bool false from (by kernel_rfl)) ⟨rfl, S26.chg⟩
    replace M := ifn q42 M
    refine cond_f rfl (bf q42 (by kernel_rfl)) ?_
    refine wp_skip ?_
    refine inb_n ?_
    refine then_n ?_
    refine wp_region_lit ?_
    refine lv (d := 15) rfl rfl (by kernel_rfl) (e_move (v := .int .i64 x14) (by exact e17)) ?_
    refine lv (d := 16) rfl rfl (by kernel_rfl) (e_add (k := .i64) (a := x14) (b := 1) (by kernel_rfl) rfl) ?_
    refine lv (d := 5) rfl rfl (by kernel_rfl) (e_assign (v := .int .i64 (IntKind.i64.wrap (x14 + 1))) (by kernel_rfl)) ?_
    refine wpList_nil ?_
    refine then_n ?_
    exact ⟨k23, (by omega), _, (IntKind.i64.wrap (x14 + 1)), rfl, (by exact e15), (by exact e16), (by kernel_rfl), S26, M⟩
  replace M := ifn q24 M
  refine cond_f rfl (bf q24 (by kernel_rfl)) ?_
  refine wp_exit ?_
  refine then_e ?_
  refine then_e ?_
  refine inb_hit ?_
  refine then_n ?_
  refine wp_seq ?_
  refine wp_region_lit ?_
  refine lv (d := 4) rfl rfl (by kernel_rfl) (e_assign (v := .bool true) rfl) ?_
  refine wpList_nil ?_
  refine then_n ?_
  refine wp_ret ?_
  obtain rfl := Option.some.inj M
  exact ret1 rfl rfl  (show _ = .bool true from (by kernel_rfl)) ⟨rfl, S18.chg⟩

/-! laws_eqStore -/
def laws_eqStore.f (k : Nat) (x1 : Store) (x10 : Store) : Option Bool := ((laws_eqCellS.f k x1.cells x10.cells).bind fun t29 => (if ¬ (t29 = true) then some false else ((laws_eqIntS.f k x1.trail x10.trail).bind fun t36 => (if ¬ (t36 = true) then some false else some true))))
theorem laws_eqStore.calls (k : Nat) (w : World) (H : Hp) (x1 : Store) (A2 : Option Addr) (c3 : Nat) (A6 : Option Addr) (c7 : Nat) (x10 : Store) (A11 : Option Addr) (c12 : Nat) (A15 : Option Addr) (c16 : Nat) (h4 : Rd st36 H A2 x1.cells) (l5 : x1.cells.length ≤ c3) (h8 : Rd tInt H A6 x1.trail) (l9 : x1.trail.length ≤ c7) (h13 : Rd st36 H A11 x10.cells) (l14 : x10.cells.length ≤ c12) (h17 : Rd tInt H A15 x10.trail) (l18 : x10.trail.length ≤ c16) (S : Own [] H w) (r : Bool) (M : laws_eqStore.f k x1 x10 = some r) :
    Calls Try.prog 15 #[.agg #[.slice A2 x1.cells.length c3, .slice A6 x1.trail.length c7], .agg #[.slice A11 x10.cells.length c12, .slice A15 x10.trail.length c16]] w (fun e e_w => e = .returned (.bool r) ∧ Chg no w e_w) := by
  rw [laws_eqStore.f] at M
  refine enter (l := [.agg #[.slice A2 x1.cells.length c3, .slice A6 x1.trail.length c7], .agg #[.slice A11 x10.cells.length c12, .slice A15 x10.trail.length c16]]) 17 Try.func15 rfl rfl rfl ?_
  have S0_ := S.st
  refine wp_seq ?_
  refine wp_region_lit ?_
  refine lve (d := 2) rfl rfl (by kernel_rfl) (new_blk (v := fun g_ => .pointer (some ⟨g_, 0, none⟩)) (cs := #[.slice A2 x1.cells.length c3, .slice A6 x1.trail.length c7]) (t := 34) S0_ (by kernel_rfl)) ?_
  rintro _ w19 ⟨g20, rfl, b21, S22, K23⟩
  refine lve (d := 3) rfl rfl (by kernel_rfl) (new_blk (v := fun g_ => .pointer (some ⟨g_, 0, none⟩)) (cs := #[.slice A11 x10.cells.length c12, .slice A15 x10.trail.length c16]) (t := 34) S22 (by kernel_rfl)) ?_
  rintro _ w24 ⟨g25, rfl, b26, S27, K28⟩
  replace b21 := K28.blk 0 rfl b21
  refine lv (d := 4) rfl rfl (by kernel_rfl) (e_assign (v := .bool false) rfl) ?_
  refine wpList_nil ?_
  refine then_n ?_
  refine wp_seq ?_
  refine wp_seq ?_
  refine wp_region_lit ?_
  refine lv (d := 5) rfl rfl (by kernel_rfl) (e_fieldAddr (b := g20) (off := 0) (o := 0) Try.underlying34 rfl rfl (sz := 1) (by kernel_rfl) (by decide) (by kernel_rfl)) ?_
  refine lv (d := 6) rfl rfl (by kernel_rfl) (e_load1 (ad := ⟨g20, 0 + 0, none⟩) (v := .slice A2 x1.cells.length c3) Try.underlying32 rfl (by kernel_rfl) (blk_cell b21 rfl)) ?_
  refine lv (d := 7) rfl rfl (by kernel_rfl) (e_fieldAddr (b := g25) (off := 0) (o := 0) Try.underlying34 rfl rfl (sz := 1) (by kernel_rfl) (by decide) (by kernel_rfl)) ?_
  refine lv (d := 8) rfl rfl (by kernel_rfl) (e_load1 (ad := ⟨g25, 0 + 0, none⟩) (v := .slice A11 x10.cells.length c12) Try.underlying32 rfl (by kernel_rfl) (blk_cell b26 rfl)) ?_
  obtain ⟨t29, u30, M⟩ := bnd M
  refine lcall (d := 9) rfl rfl (by kernel_rfl) (e_call (l := [.tmp 6, .tmp 8]) (vs := [.slice A2 x1.cells.length c3, .slice A11 x10.cells.length c12]) Try.func24 (by kernel_rfl) rfl (by kernel_rfl) rfl) (laws_eqCellS.calls k w24 H x1.cells A2 c3 x10.cells A11 c12 h4 l5 h13 l14 S27.own0 t29 u30) ?_
  rintro _ w31 ⟨rfl, C32⟩
  refine ⟨_, rfl, ?_⟩
  obtain ⟨S33, K34⟩ := S27.still C32
  replace b26 := K34.blk 0 rfl b26
  replace b21 := K34.blk 1 rfl b21
  refine lv (d := 10) rfl rfl (by kernel_rfl) (e_notv (c := t29) (by kernel_rfl)) ?_
  refine wpList_nil ?_
  refine then_n ?_
  by_cases q35 : ¬ (t29 = true)
  · replace M := ifp q35 M
    refine cond_t rfl (bt q35 (by kernel_rfl)) ?_
    refine wp_seq ?_
    refine wp_region_lit ?_
    refine lv (d := 4) rfl rfl (by kernel_rfl) (e_assign (v := .bool false) rfl) ?_
    refine wpList_nil ?_
    refine then_n ?_
    refine wp_ret ?_
    refine then_r ?_
    obtain rfl := Option.some.inj M
    exact ret1 rfl rfl  (show _ = .bool false from (by kernel_rfl)) ⟨rfl, S33.chg⟩
  replace M := ifn q35 M
  refine cond_f rfl (bf q35 (by kernel_rfl)) ?_
  refine wp_skip ?_
  refine then_n ?_
  refine wp_seq ?_
  refine wp_seq ?_
  refine wp_region_lit ?_
  refine lv (d := 11) rfl rfl (by kernel_rfl) (e_fieldAddr (b := g20) (off := 0) (o := 1) Try.underlying34 rfl rfl (sz := 1) (by kernel_rfl) (by decide) (by kernel_rfl)) ?_
  refine lv (d := 12) rfl rfl (by kernel_rfl) (e_load1 (ad := ⟨g20, 0 + 1, none⟩) (v := .slice A6 x1.trail.length c7) Try.underlying23 rfl (by kernel_rfl) (blk_cell b21 rfl)) ?_
  refine lv (d := 13) rfl rfl (by kernel_rfl) (e_fieldAddr (b := g25) (off := 0) (o := 1) Try.underlying34 rfl rfl (sz := 1) (by kernel_rfl) (by decide) (by kernel_rfl)) ?_
  refine lv (d := 14) rfl rfl (by kernel_rfl) (e_load1 (ad := ⟨g25, 0 + 1, none⟩) (v := .slice A15 x10.trail.length c16) Try.underlying23 rfl (by kernel_rfl) (blk_cell b26 rfl)) ?_
  obtain ⟨t36, u37, M⟩ := bnd M
  refine lcall (d := 15) rfl rfl (by kernel_rfl) (e_call (l := [.tmp 12, .tmp 14]) (vs := [.slice A6 x1.trail.length c7, .slice A15 x10.trail.length c16]) Try.func44 (by kernel_rfl) rfl (by kernel_rfl) rfl) (laws_eqIntS.calls k w31 H x1.trail A6 c7 x10.trail A15 c16 h8 l9 h17 l18 S33.own0 t36 u37) ?_
  rintro _ w38 ⟨rfl, C39⟩
  refine ⟨_, rfl, ?_⟩
  obtain ⟨S40, K41⟩ := S33.still C39
  replace b26 := K41.blk 0 rfl b26
  replace b21 := K41.blk 1 rfl b21
  refine lv (d := 16) rfl rfl (by kernel_rfl) (e_notv (c := t36) (by kernel_rfl)) ?_
  refine wpList_nil ?_
  refine then_n ?_
  by_cases q42 : ¬ (t36 = true)
  · replace M := ifp q42 M
    refine cond_t rfl (bt q42 (by kernel_rfl)) ?_
    refine wp_seq ?_
    refine wp_region_lit ?_
    refine lv (d := 4) rfl rfl (by kernel_rfl) (e_assign (v := .bool false) rfl) ?_
    refine wpList_nil ?_
    refine then_n ?_
    refine wp_ret ?_
    refine then_r ?_
    obtain rfl := Option.some.inj M
    exact ret1 rfl rfl  (show _ = .bool false from (by kernel_rfl)) ⟨rfl, S40.chg⟩
  replace M := ifn q42 M
  refine cond_f rfl (bf q42 (by kernel_rfl)) ?_
  refine wp_skip ?_
  refine then_n ?_
  refine wp_seq ?_
  refine wp_region_lit ?_
  refine lv (d := 4) rfl rfl (by kernel_rfl) (e_assign (v := .bool true) rfl) ?_
  refine wpList_nil ?_
  refine then_n ?_
  refine wp_ret ?_
  obtain rfl := Option.some.inj M
  exact ret1 rfl rfl  (show _ = .bool true from (by kernel_rfl)) ⟨rfl, S40.chg⟩

/-! laws_markByteS -/
def laws_markByteS_2.l0 : Nat → (List UInt8) → Int → Int → (List UInt8) → Option (Int × (List UInt8))
  | 0, _, _, _, _ => none
  | k22 + 1, x1, x9, x10, x12 => (if x10 < (x1.length : Int) then (if 0 ≤ x10 then (laws_markByteS_2.l0 k22 x1 (IntKind.i64.wrap (x9 + 1)) (IntKind.i64.wrap (x10 + 1)) (x12.set ((x10).toNat) (b8 (x9)))) else none) else some (x9, x12))
def laws_markByteS_2.f (k : Nat) (x1 : List UInt8) (x6 : Int) : Option (Int × (List UInt8)) := (laws_markByteS_2.l0 k x1 x6 0 x1)
theorem laws_markByteS_2.calls (k : Nat) (w : World) (H : Hp) (x1 : List UInt8) (A2 : Option Addr) (c3 : Nat) (F5 : Foot) (x6 : Int) (h4 : Row tByte 5 H (hp w) F5 A2 c3 x1) (S : Own [F5] H w) (r : Int × (List UInt8)) (M : laws_markByteS_2.f k x1 x6 = some r) :
    Calls Try.prog 52 #[.slice A2 x1.length c3, .int .i64 x6] w (fun e e_w => ∃ (F_1 : Foot) (H_ : Hp), e = .returned (.int .i64 r.1) ∧ r.2.length = x1.length ∧ Row tByte 5 H_ (hp e_w) F_1 A2 c3 r.2 ∧ St (anyOf [F5]) H w [F_1] H_ e_w) := by
  rw [laws_markByteS_2.f] at M
  refine enter (l := [.slice A2 x1.length c3, .int .i64 x6]) 20 Try.func52 rfl rfl rfl ?_
  have S0_ := S.st
  refine wp_seq ?_
  refine wp_region_lit ?_
  refine lv (d := 4) rfl rfl (by kernel_rfl) (e_assign (v := .int .i64 0) rfl) ?_
  refine wpList_nil ?_
  refine then_n ?_
  refine wp_seq ?_
  refine wp_seq ?_
  refine wp_region_lit ?_
  refine lv (d := 5) rfl rfl (by kernel_rfl) (e_assign (v := .int .i64 0) rfl) ?_
  refine wpList_nil ?_
  refine then_n ?_
  refine wp_block ?_
  refine wp_loop_g (fun k20 a21 w7 => ∃ (f8 : Nat → Value) (x9 : Int) (x10 : Int) (F11 : Foot) (x12 : List UInt8), a21 = mk 20 f8 ∧ f8 0 = .slice A2 x1.length c3 ∧ f8 1 = .int .i64 x9 ∧ f8 5 = .int .i64 x10 ∧ Row tByte 5 H (hp w7) F11 A2 c3 x12 ∧ x12.length = x1.length ∧ St (anyOf [F5]) H w [F11] H w7 ∧ laws_markByteS_2.l0 k20 x1 x9 x10 x12 = some r) k ⟨_, x6, 0, F5, x1, rfl, (by kernel_rfl), (by kernel_rfl), (by kernel_rfl), h4, rfl, S0_, M⟩ ?_
  clear M
  rintro k20 a21 w7 ⟨f8, x9, x10, F11, x12, rfl, e14, e15, e16, h4, n13, S17, M⟩
  rcases k20 with _ | k22
  · rw [laws_markByteS_2.l0] at M
    cases M
  rw [laws_markByteS_2.l0] at M
  refine wp_seq ?_
  refine wp_seq ?_
  refine wp_region_lit ?_
  refine lv (d := 6) rfl rfl (by kernel_rfl) (e_move (v := .int .i64 x10) (by exact e16)) ?_
  refine lv (d := 7) rfl rfl (by kernel_rfl) (e_move (v := .slice A2 x1.length c3) (by exact e14)) ?_
  refine lv (d := 8) rfl rfl (by kernel_rfl) (e_len (A := A2) (n := x1.length) (c := c3) Try.underlying26 (by kernel_rfl)) ?_
  refine lv (d := 9) rfl rfl (by kernel_rfl) (e_lss (k := .i64) (a := x10) (b := (x1.length : Int)) (by kernel_rfl) (by kernel_rfl)) ?_
  refine wpList_nil ?_
  refine then_n ?_
  by_cases q23 : x10 < (x1.length : Int)
  · replace M := ifp q23 M
    refine cond_t rfl (bt q23 (by kernel_rfl)) ?_
    refine wp_skip ?_
    refine then_n ?_
    refine wp_seq ?_
    refine wp_block ?_
    refine wp_seq ?_
    refine wp_region_lit ?_
    refine lv (d := 12) rfl rfl (by kernel_rfl) (e_move (v := .slice A2 x1.length c3) (by exact e14)) ?_
    refine lv (d := 13) rfl rfl (by kernel_rfl) (e_move (v := .int .i64 x10) (by exact e16)) ?_
    refine lv (d := 14) rfl rfl (by kernel_rfl) (e_move (v := .int .i64 x9) (by exact e15)) ?_
    refine lv (d := 15) rfl rfl (by kernel_rfl) (e_conv_i8 (k := .i64) (a := x9) (by kernel_rfl) Try.underlying5 (by kernel_rfl)) ?_
    obtain ⟨q24, M⟩ := chk M
    obtain ⟨b25, e27⟩ := Row.addr h4 (show (x10).toNat < x12.length by have : x12.length = x1.length := n13; omega)
    refine lv (d := 16) rfl rfl (by kernel_rfl) (e_indexAddr (b := b25) (off := 0) (n := x1.length) (c := c3) (sz := 1) (i := x10) (k := .i64) Try.underlying26 e27 (by kernel_rfl) (by kernel_rfl) (by kernel_rfl) q24 q23) ?_
    have S28 := S17.unit
    have S29 := S28.pull (F := F11) (Fr := [no]) 1 rfl rfl
    refine lse rfl rfl (by kernel_rfl) (e_setel (d := tByte) (b := b25) (i := (x10).toNat) (v := .int .u8 ((b8 (x9)).toNat : Int)) (vs := [.int .u8 ((b8 (x9)).toNat : Int)]) (yv := (b8 (x9))) S29 (by kernel_rfl) e27 (by kernel_rfl) rfl (by kernel_rfl) h4 (show (x10).toNat < x12.length by have : x12.length = x1.length := n13; omega) rfl) ?_
    rintro w30 ⟨F32, h31, S33, K34⟩
    clear h4
    refine wpList_nil ?_
    refine then_n ?_
    refine wp_region_lit ?_
    refine lv (d := 17) rfl rfl (by kernel_rfl) (e_move (v := .int .i64 x9) (by exact e15)) ?_
    refine lv (d := 18) rfl rfl (by kernel_rfl) (e_add (k := .i64) (a := x9) (b := 1) (by kernel_rfl) rfl) ?_
    refine lv (d := 1) rfl rfl (by kernel_rfl) (e_assign (v := .int .i64 (IntKind.i64.wrap (x9 + 1))) (by kernel_rfl)) ?_
    refine wpList_nil ?_
    refine inb_n ?_
    refine then_n ?_
    refine wp_region_lit ?_
    refine lv (d := 10) rfl rfl (by kernel_rfl) (e_move (v := .int .i64 x10) (by exact e16)) ?_
    refine lv (d := 11) rfl rfl (by kernel_rfl) (e_add (k := .i64) (a := x10) (b := 1) (by kernel_rfl) rfl) ?_
    refine lv (d := 5) rfl rfl (by kernel_rfl) (e_assign (v := .int .i64 (IntKind.i64.wrap (x10 + 1))) (by kernel_rfl)) ?_
    refine wpList_nil ?_
    refine then_n ?_
    exact ⟨k22, (by omega), _, (IntKind.i64.wrap (x9 + 1)), (IntKind.i64.wrap (x10 + 1)), F32, (x12.set ((x10).toNat) (b8 (x9))), rfl, (by exact e14), (by kernel_rfl), (by kernel_rfl), h31, (List.length_set.trans n13), S33, M⟩
  replace M := ifn q23 M
  refine cond_f rfl (bf q23 (by kernel_rfl)) ?_
  refine wp_exit ?_
  refine then_e ?_
  refine then_e ?_
  refine inb_hit ?_
  refine then_n ?_
  refine wp_seq ?_
  refine wp_region_lit ?_
  refine lv (d := 19) rfl rfl (by kernel_rfl) (e_move (v := .int .i64 x9) (by exact e15)) ?_
  refine lv (d := 4) rfl rfl (by kernel_rfl) (e_assign (v := .int .i64 x9) (by kernel_rfl)) ?_
  refine wpList_nil ?_
  refine then_n ?_
  refine wp_ret ?_
  obtain rfl := Option.some.inj M
  exact ret1 rfl rfl  (show _ = .int .i64 x9 from (by kernel_rfl)) ⟨F11, H, rfl, n13, h4, S17⟩

/-! laws_markCellS -/
def laws_markCellS_2.l0 : Nat → (List Cell) → Int → Int → (List Cell) → Option (Int × (List Cell))
  | 0, _, _, _, _ => none
  | k24 + 1, x1, x11, x12, x14 => (if x12 < (x1.length : Int) then (if 0 ≤ x12 then ((laws_markByteS_2.f k24 ((((x14.set ((x12).toNat) ({(x14.getD ((x12).toNat) z36) with kind := x11})).set ((x12).toNat) ({((x14.set ((x12).toNat) ({(x14.getD ((x12).toNat) z36) with kind := x11})).getD ((x12).toNat) z36) with n := (IntKind.i64.wrap (x11 + 1))})).getD ((x12).toNat) z36).text) (IntKind.i64.wrap ((IntKind.i64.wrap (x11 + 1)) + 1))).bind fun t71 => (laws_markCellS_2.l0 k24 x1 t71.1 (IntKind.i64.wrap (x12 + 1)) (((x14.set ((x12).toNat) ({(x14.getD ((x12).toNat) z36) with kind := x11})).set ((x12).toNat) ({((x14.set ((x12).toNat) ({(x14.getD ((x12).toNat) z36) with kind := x11})).getD ((x12).toNat) z36) with n := (IntKind.i64.wrap (x11 + 1))})).set ((x12).toNat) ({(((x14.set ((x12).toNat) ({(x14.getD ((x12).toNat) z36) with kind := x11})).set ((x12).toNat) ({((x14.set ((x12).toNat) ({(x14.getD ((x12).toNat) z36) with kind := x11})).getD ((x12).toNat) z36) with n := (IntKind.i64.wrap (x11 + 1))})).getD ((x12).toNat) z36) with text := t71.2})))) else none) else some (x11, x14))
def laws_markCellS_2.f (k : Nat) (x1 : List Cell) (x6 : Int) : Option (Int × (List Cell)) := (laws_markCellS_2.l0 k x1 x6 0 x1)
theorem laws_markCellS_2.calls (k : Nat) (w : World) (H : Hp) (x1 : List Cell) (A2 : Option Addr) (c3 : Nat) (F5 : Foot) (x6 : Int) (h4 : Row st36 36 H (hp w) F5 A2 c3 x1) (S : Own [F5] H w) (r : Int × (List Cell)) (M : laws_markCellS_2.f k x1 x6 = some r) :
    Calls Try.prog 25 #[.slice A2 x1.length c3, .int .i64 x6] w (fun e e_w => ∃ (F_1 : Foot) (H_ : Hp), e = .returned (.int .i64 r.1) ∧ r.2.length = x1.length ∧ Row st36 36 H_ (hp e_w) F_1 A2 c3 r.2 ∧ St (anyOf [F5]) H w [F_1] H_ e_w) := by
  rw [laws_markCellS_2.f] at M
  refine enter (l := [.slice A2 x1.length c3, .int .i64 x6]) 34 Try.func25 rfl rfl rfl ?_
  have S0_ := S.st
  refine wp_seq ?_
  refine wp_region_lit ?_
  refine lv (d := 4) rfl rfl (by kernel_rfl) (e_assign (v := .int .i64 0) rfl) ?_
  refine wpList_nil ?_
  refine then_n ?_
  refine wp_seq ?_
  refine wp_seq ?_
  refine wp_region_lit ?_
  refine lv (d := 5) rfl rfl (by kernel_rfl) (e_assign (v := .int .i64 0) rfl) ?_
  refine wpList_nil ?_
  refine then_n ?_
  refine wp_block ?_
  refine wp_loop_g (fun k22 a23 w7 => ∃ (f8 : Nat → Value) (H9 : Hp) (x11 : Int) (x12 : Int) (F13 : Foot) (x14 : List Cell), a23 = mk 34 f8 ∧ f8 0 = .slice A2 x1.length c3 ∧ f8 1 = .int .i64 x11 ∧ f8 5 = .int .i64 x12 ∧ Row st36 36 H9 (hp w7) F13 A2 c3 x14 ∧ x14.length = x1.length ∧ Ext H H9 ∧ St (anyOf [F5]) H w [F13] H9 w7 ∧ laws_markCellS_2.l0 k22 x1 x11 x12 x14 = some r) k ⟨_, H, x6, 0, F5, x1, rfl, (by kernel_rfl), (by kernel_rfl), (by kernel_rfl), h4, rfl, (Ext.refl _), S0_, M⟩ ?_
  clear M
  rintro k22 a23 w7 ⟨f8, H9, x11, x12, F13, x14, rfl, e16, e17, e18, h4, n15, Y10, S19, M⟩
  rcases k22 with _ | k24
  · rw [laws_markCellS_2.l0] at M
    cases M
  rw [laws_markCellS_2.l0] at M
  refine wp_seq ?_
  refine wp_seq ?_
  refine wp_region_lit ?_
  refine lv (d := 6) rfl rfl (by kernel_rfl) (e_move (v := .int .i64 x12) (by exact e18)) ?_
  refine lv (d := 7) rfl rfl (by kernel_rfl) (e_move (v := .slice A2 x1.length c3) (by exact e16)) ?_
  refine lv (d := 8) rfl rfl (by kernel_rfl) (e_len (A := A2) (n := x1.length) (c := c3) Try.underlying32 (by kernel_rfl)) ?_
  refine lv (d := 9) rfl rfl (by kernel_rfl) (e_lss (k := .i64) (a := x12) (b := (x1.length : Int)) (by kernel_rfl) (by kernel_rfl)) ?_
  refine wpList_nil ?_
  refine then_n ?_
  by_cases q25 : x12 < (x1.length : Int)
  · replace M := ifp q25 M
    refine cond_t rfl (bt q25 (by kernel_rfl)) ?_
    refine wp_skip ?_
    refine then_n ?_
    refine wp_seq ?_
    refine wp_block ?_
    refine wp_seq ?_
    refine wp_region_lit ?_
    refine lv (d := 12) rfl rfl (by kernel_rfl) (e_move (v := .slice A2 x1.length c3) (by exact e16)) ?_
    refine lv (d := 13) rfl rfl (by kernel_rfl) (e_move (v := .int .i64 x12) (by exact e18)) ?_
    refine lv (d := 14) rfl rfl (by kernel_rfl) (e_move (v := .int .i64 x11) (by exact e17)) ?_
    obtain ⟨q26, M⟩ := chk M
    obtain ⟨b27, e29⟩ := Row.addr h4 (show (x12).toNat < x14.length by have : x14.length = x1.length := n15; omega)
    refine lv (d := 15) rfl rfl (by kernel_rfl) (e_indexAddr (b := b27) (off := 0) (n := x1.length) (c := c3) (sz := 3) (i := x12) (k := .i64) Try.underlying32 e29 (by kernel_rfl) (by kernel_rfl) (by kernel_rfl) q26 q25) ?_
    refine lv (d := 16) rfl rfl (by kernel_rfl) (e_fieldAddr (b := b27) (off := 0 + (x12 : Int).toNat * 3) (o := 0) Try.underlying36 rfl rfl (sz := 1) (by kernel_rfl) (by decide) (by kernel_rfl)) ?_
    have S30 := S19.unit
    have S31 := S30.pull (F := F13) (Fr := [no]) 1 rfl rfl
    refine lse rfl rfl (by kernel_rfl) (e_setpart (d := st36) (b := b27) (i := (x12).toNat) (j := 0) (v := .int .i64 x11) (vs := [.int .i64 x11]) (yv := {(x14.getD ((x12).toNat) z36) with kind := x11}) S31 (by kernel_rfl) e29 (by kernel_rfl) rfl (by kernel_rfl) h4 (getD_some z36 (show (x12).toNat < x14.length by have : x14.length = x1.length := n15; omega)) (Nat.le_of_ble_eq_true rfl) (List.forall_mem_cons.2 ⟨rfl, (fun _ h_ => by cases h_)⟩) (fun _ _ _ o_ => st36_u0 x11 o_)) ?_
    rintro w32 ⟨F34, h33, S35, K36⟩
    clear h4
    refine wpList_nil ?_
    refine then_n ?_
    refine wp_seq ?_
    refine wp_region_lit ?_
    refine lv (d := 17) rfl rfl (by kernel_rfl) (e_move (v := .int .i64 x11) (by exact e17)) ?_
    refine lv (d := 18) rfl rfl (by kernel_rfl) (e_add (k := .i64) (a := x11) (b := 1) (by kernel_rfl) rfl) ?_
    refine lv (d := 1) rfl rfl (by kernel_rfl) (e_assign (v := .int .i64 (IntKind.i64.wrap (x11 + 1))) (by kernel_rfl)) ?_
    refine wpList_nil ?_
    refine then_n ?_
    refine wp_seq ?_
    refine wp_region_lit ?_
    refine lv (d := 19) rfl rfl (by kernel_rfl) (e_move (v := .slice A2 x1.length c3) (by exact e16)) ?_
    refine lv (d := 20) rfl rfl (by kernel_rfl) (e_move (v := .int .i64 x12) (by exact e18)) ?_
    refine lv (d := 21) rfl rfl (by kernel_rfl) (e_move (v := .int .i64 (IntKind.i64.wrap (x11 + 1))) (by kernel_rfl)) ?_
    obtain ⟨b37, e39⟩ := Row.addr h33 (show (x12).toNat < (x14.set ((x12).toNat) ({(x14.getD ((x12).toNat) z36) with kind := x11})).length by have : (x14.set ((x12).toNat) ({(x14.getD ((x12).toNat) z36) with kind := x11})).length = x1.length := (List.length_set.trans n15); omega)
    refine lv (d := 22) rfl rfl (by kernel_rfl) (e_indexAddr (b := b37) (off := 0) (n := x1.length) (c := c3) (sz := 3) (i := x12) (k := .i64) Try.underlying32 e39 (by kernel_rfl) (by kernel_rfl) (by kernel_rfl) q26 q25) ?_
    refine lv (d := 23) rfl rfl (by kernel_rfl) (e_fieldAddr (b := b37) (off := 0 + (x12 : Int).toNat * 3) (o := 1) Try.underlying36 rfl rfl (sz := 1) (by kernel_rfl) (by decide) (by kernel_rfl)) ?_
    have S40 := S35.unit
    have S41 := S40.pull (F := F34) (Fr := [no]) 1 rfl rfl
    refine lse rfl rfl (by kernel_rfl) (e_setpart (d := st36) (b := b37) (i := (x12).toNat) (j := 1) (v := .int .i64 (IntKind.i64.wrap (x11 + 1))) (vs := [.int .i64 (IntKind.i64.wrap (x11 + 1))]) (yv := {((x14.set ((x12).toNat) ({(x14.getD ((x12).toNat) z36) with kind := x11})).getD ((x12).toNat) z36) with n := (IntKind.i64.wrap (x11 + 1))}) S41 (by kernel_rfl) e39 (by kernel_rfl) rfl (by kernel_rfl) h33 (getD_some z36 (show (x12).toNat < (x14.set ((x12).toNat) ({(x14.getD ((x12).toNat) z36) with kind := x11})).length by have : (x14.set ((x12).toNat) ({(x14.getD ((x12).toNat) z36) with kind := x11})).length = x1.length := (List.length_set.trans n15); omega)) (Nat.le_of_ble_eq_true rfl) (List.forall_mem_cons.2 ⟨rfl, (fun _ h_ => by cases h_)⟩) (fun _ _ _ o_ => st36_u1 (IntKind.i64.wrap (x11 + 1)) o_)) ?_
    rintro w42 ⟨F44, h43, S45, K46⟩
    clear h33
    refine wpList_nil ?_
    refine then_n ?_
    refine wp_seq ?_
    refine wp_region_lit ?_
    refine lv (d := 24) rfl rfl (by kernel_rfl) (e_move (v := .int .i64 (IntKind.i64.wrap (x11 + 1))) (by kernel_rfl)) ?_
    refine lv (d := 25) rfl rfl (by kernel_rfl) (e_add (k := .i64) (a := (IntKind.i64.wrap (x11 + 1))) (b := 1) (by kernel_rfl) rfl) ?_
    refine lv (d := 1) rfl rfl (by kernel_rfl) (e_assign (v := .int .i64 (IntKind.i64.wrap ((IntKind.i64.wrap (x11 + 1)) + 1))) (by kernel_rfl)) ?_
    refine wpList_nil ?_
    refine then_n ?_
    refine wp_region_lit ?_
    refine lv (d := 26) rfl rfl (by kernel_rfl) (e_move (v := .slice A2 x1.length c3) (by exact e16)) ?_
    refine lv (d := 27) rfl rfl (by kernel_rfl) (e_move (v := .int .i64 x12) (by exact e18)) ?_
    obtain ⟨b47, e49⟩ := Row.addr h43 (show (x12).toNat < ((x14.set ((x12).toNat) ({(x14.getD ((x12).toNat) z36) with kind := x11})).set ((x12).toNat) ({((x14.set ((x12).toNat) ({(x14.getD ((x12).toNat) z36) with kind := x11})).getD ((x12).toNat) z36) with n := (IntKind.i64.wrap (x11 + 1))})).length by have : ((x14.set ((x12).toNat) ({(x14.getD ((x12).toNat) z36) with kind := x11})).set ((x12).toNat) ({((x14.set ((x12).toNat) ({(x14.getD ((x12).toNat) z36) with kind := x11})).getD ((x12).toNat) z36) with n := (IntKind.i64.wrap (x11 + 1))})).length = x1.length := (List.length_set.trans (List.length_set.trans n15)); omega)
    refine lv (d := 28) rfl rfl (by kernel_rfl) (e_indexAddr (b := b47) (off := 0) (n := x1.length) (c := c3) (sz := 3) (i := x12) (k := .i64) Try.underlying32 e49 (by kernel_rfl) (by kernel_rfl) (by kernel_rfl) q26 q25) ?_
    refine lv (d := 29) rfl rfl (by kernel_rfl) (e_fieldAddr (b := b47) (off := 0 + (x12 : Int).toNat * 3) (o := 2) Try.underlying36 rfl rfl (sz := 1) (by kernel_rfl) (by decide) (by kernel_rfl)) ?_
    obtain ⟨y55, F56, G57, r58, d59, s60, k61, t62⟩ := Row.lend h43 e49 (getD_some z36 (show (x12).toNat < ((x14.set ((x12).toNat) ({(x14.getD ((x12).toNat) z36) with kind := x11})).set ((x12).toNat) ({((x14.set ((x12).toNat) ({(x14.getD ((x12).toNat) z36) with kind := x11})).getD ((x12).toNat) z36) with n := (IntKind.i64.wrap (x11 + 1))})).length by have : ((x14.set ((x12).toNat) ({(x14.getD ((x12).toNat) z36) with kind := x11})).set ((x12).toNat) ({((x14.set ((x12).toNat) ({(x14.getD ((x12).toNat) z36) with kind := x11})).getD ((x12).toNat) z36) with n := (IntKind.i64.wrap (x11 + 1))})).length = x1.length := (List.length_set.trans (List.length_set.trans n15)); omega))
    obtain ⟨A63, c64, F67, rfl, h65, s66⟩ := st36_openO r58
    refine lv (d := 30) rfl rfl (by kernel_rfl) (e_load1 (ad := ⟨b47, 0 + (x12 : Int).toNat * 3 + 2, none⟩) (v := .slice A63 ((((x14.set ((x12).toNat) ({(x14.getD ((x12).toNat) z36) with kind := x11})).set ((x12).toNat) ({((x14.set ((x12).toNat) ({(x14.getD ((x12).toNat) z36) with kind := x11})).getD ((x12).toNat) z36) with n := (IntKind.i64.wrap (x11 + 1))})).getD ((x12).toNat) z36).text).length c64) Try.underlying26 rfl (by kernel_rfl) (hpx (k61 2 _ rfl))) ?_
    refine lv (d := 31) rfl rfl (by kernel_rfl) (e_move (v := .int .i64 (IntKind.i64.wrap ((IntKind.i64.wrap (x11 + 1)) + 1))) (by kernel_rfl)) ?_
    have S68 := S45.part d59 s60
    have S69 := S68.sub s66
    have q70 : ∀ b_, G57 b_ → hp w42 b_ = hp w42 b_ := fun _ _ => rfl
    obtain ⟨t71, u72, M⟩ := bnd M
    refine lcall (d := 32) rfl rfl (by kernel_rfl) (e_call (l := [.tmp 30, .tmp 31]) (vs := [.slice A63 ((((x14.set ((x12).toNat) ({(x14.getD ((x12).toNat) z36) with kind := x11})).set ((x12).toNat) ({((x14.set ((x12).toNat) ({(x14.getD ((x12).toNat) z36) with kind := x11})).getD ((x12).toNat) z36) with n := (IntKind.i64.wrap (x11 + 1))})).getD ((x12).toNat) z36).text).length c64, .int .i64 (IntKind.i64.wrap ((IntKind.i64.wrap (x11 + 1)) + 1))]) Try.func52 (by kernel_rfl) rfl (by kernel_rfl) rfl) (laws_markByteS_2.calls k24 w42 H9 ((((x14.set ((x12).toNat) ({(x14.getD ((x12).toNat) z36) with kind := x11})).set ((x12).toNat) ({((x14.set ((x12).toNat) ({(x14.getD ((x12).toNat) z36) with kind := x11})).getD ((x12).toNat) z36) with n := (IntKind.i64.wrap (x11 + 1))})).getD ((x12).toNat) z36).text) A63 c64 F67 (IntKind.i64.wrap ((IntKind.i64.wrap (x11 + 1)) + 1)) h65 (St.own' (Fa := [F67]) (Fr := [G57]) S69) t71 u72) ?_
    rintro _ w73 ⟨F77, H74, rfl, n78, h76, T75⟩
    refine ⟨_, rfl, ?_⟩
    obtain ⟨S79, K80⟩ := St.call (Fa := [F67]) (Fr := [G57]) S69 T75
    replace q70 := fun b_ h_ => (K80.at 0 rfl b_ h_).trans (q70 b_ h_)
    have E81 := T75.ext
    have S82 := S79.pull (F := G57) (Fr := [F77]) 1 rfl rfl
    have S83 := S82.pull (F := F77) (Fr := [G57]) 1 rfl rfl
    have h84 := t62 H74 (hp w73) F77 ({(((x14.set ((x12).toNat) ({(x14.getD ((x12).toNat) z36) with kind := x11})).set ((x12).toNat) ({((x14.set ((x12).toNat) ({(x14.getD ((x12).toNat) z36) with kind := x11})).getD ((x12).toNat) z36) with n := (IntKind.i64.wrap (x11 + 1))})).getD ((x12).toNat) z36) with text := t71.2} : Cell) E81 q70 (by have q_ := st36_mkO (x := {(((x14.set ((x12).toNat) ({(x14.getD ((x12).toNat) z36) with kind := x11})).set ((x12).toNat) ({((x14.set ((x12).toNat) ({(x14.getD ((x12).toNat) z36) with kind := x11})).getD ((x12).toNat) z36) with n := (IntKind.i64.wrap (x11 + 1))})).getD ((x12).toNat) z36) with text := t71.2}) h76; rw [show t71.2.length = ((((x14.set ((x12).toNat) ({(x14.getD ((x12).toNat) z36) with kind := x11})).set ((x12).toNat) ({((x14.set ((x12).toNat) ({(x14.getD ((x12).toNat) z36) with kind := x11})).getD ((x12).toNat) z36) with n := (IntKind.i64.wrap (x11 + 1))})).getD ((x12).toNat) z36).text).length from n78] at q_; exact q_) S83.dj
    have S85 := S83.join
    refine lv (d := 1) rfl rfl (by kernel_rfl) (e_assign (v := .int .i64 t71.1) (by kernel_rfl)) ?_
    refine wpList_nil ?_
    refine inb_n ?_
    refine then_n ?_
    refine wp_region_lit ?_
    refine lv (d := 10) rfl rfl (by kernel_rfl) (e_move (v := .int .i64 x12) (by exact e18)) ?_
    refine lv (d := 11) rfl rfl (by kernel_rfl) (e_add (k := .i64) (a := x12) (b := 1) (by kernel_rfl) rfl) ?_
    refine lv (d := 5) rfl rfl (by kernel_rfl) (e_assign (v := .int .i64 (IntKind.i64.wrap (x12 + 1))) (by kernel_rfl)) ?_
    refine wpList_nil ?_
    refine then_n ?_
    exact ⟨k24, (by omega), _, H74, t71.1, (IntKind.i64.wrap (x12 + 1)), (or2 F77 G57), (((x14.set ((x12).toNat) ({(x14.getD ((x12).toNat) z36) with kind := x11})).set ((x12).toNat) ({((x14.set ((x12).toNat) ({(x14.getD ((x12).toNat) z36) with kind := x11})).getD ((x12).toNat) z36) with n := (IntKind.i64.wrap (x11 + 1))})).set ((x12).toNat) ({(((x14.set ((x12).toNat) ({(x14.getD ((x12).toNat) z36) with kind := x11})).set ((x12).toNat) ({((x14.set ((x12).toNat) ({(x14.getD ((x12).toNat) z36) with kind := x11})).getD ((x12).toNat) z36) with n := (IntKind.i64.wrap (x11 + 1))})).getD ((x12).toNat) z36) with text := t71.2})), rfl, (by exact e16), (by kernel_rfl), (by kernel_rfl), h84, (List.length_set.trans (List.length_set.trans (List.length_set.trans n15))), (Y10.trans E81), S85, M⟩
  replace M := ifn q25 M
  refine cond_f rfl (bf q25 (by kernel_rfl)) ?_
  refine wp_exit ?_
  refine then_e ?_
  refine then_e ?_
  refine inb_hit ?_
  refine then_n ?_
  refine wp_seq ?_
  refine wp_region_lit ?_
  refine lv (d := 33) rfl rfl (by kernel_rfl) (e_move (v := .int .i64 x11) (by exact e17)) ?_
  refine lv (d := 4) rfl rfl (by kernel_rfl) (e_assign (v := .int .i64 x11) (by kernel_rfl)) ?_
  refine wpList_nil ?_
  refine then_n ?_
  refine wp_ret ?_
  obtain rfl := Option.some.inj M
  exact ret1 rfl rfl  (show _ = .int .i64 x11 from (by kernel_rfl)) ⟨F13, H9, rfl, n15, h4, S19⟩

/-! laws_markIntS -/
def laws_markIntS_2.l0 : Nat → (List Int) → Int → Int → (List Int) → Option (Int × (List Int))
  | 0, _, _, _, _ => none
  | k22 + 1, x1, x9, x10, x12 => (if x10 < (x1.length : Int) then (if 0 ≤ x10 then (laws_markIntS_2.l0 k22 x1 (IntKind.i64.wrap (x9 + 1)) (IntKind.i64.wrap (x10 + 1)) (x12.set ((x10).toNat) x9)) else none) else some (x9, x12))
def laws_markIntS_2.f (k : Nat) (x1 : List Int) (x6 : Int) : Option (Int × (List Int)) := (laws_markIntS_2.l0 k x1 x6 0 x1)
theorem laws_markIntS_2.calls (k : Nat) (w : World) (H : Hp) (x1 : List Int) (A2 : Option Addr) (c3 : Nat) (F5 : Foot) (x6 : Int) (h4 : Row tInt 3 H (hp w) F5 A2 c3 x1) (S : Own [F5] H w) (r : Int × (List Int)) (M : laws_markIntS_2.f k x1 x6 = some r) :
    Calls Try.prog 51 #[.slice A2 x1.length c3, .int .i64 x6] w (fun e e_w => ∃ (F_1 : Foot) (H_ : Hp), e = .returned (.int .i64 r.1) ∧ r.2.length = x1.length ∧ Row tInt 3 H_ (hp e_w) F_1 A2 c3 r.2 ∧ St (anyOf [F5]) H w [F_1] H_ e_w) := by
  rw [laws_markIntS_2.f] at M
  refine enter (l := [.slice A2 x1.length c3, .int .i64 x6]) 19 Try.func51 rfl rfl rfl ?_
  have S0_ := S.st
  refine wp_seq ?_
  refine wp_region_lit ?_
  refine lv (d := 4) rfl rfl (by kernel_rfl) (e_assign (v := .int .i64 0) rfl) ?_
  refine wpList_nil ?_
  refine then_n ?_
  refine wp_seq ?_
  refine wp_seq ?_
  refine wp_region_lit ?_
  refine lv (d := 5) rfl rfl (by kernel_rfl) (e_assign (v := .int .i64 0) rfl) ?_
  refine wpList_nil ?_
  refine then_n ?_
  refine wp_block ?_
  refine wp_loop_g (fun k20 a21 w7 => ∃ (f8 : Nat → Value) (x9 : Int) (x10 : Int) (F11 : Foot) (x12 : List Int), a21 = mk 19 f8 ∧ f8 0 = .slice A2 x1.length c3 ∧ f8 1 = .int .i64 x9 ∧ f8 5 = .int .i64 x10 ∧ Row tInt 3 H (hp w7) F11 A2 c3 x12 ∧ x12.length = x1.length ∧ St (anyOf [F5]) H w [F11] H w7 ∧ laws_markIntS_2.l0 k20 x1 x9 x10 x12 = some r) k ⟨_, x6, 0, F5, x1, rfl, (by kernel_rfl), (by kernel_rfl), (by kernel_rfl), h4, rfl, S0_, M⟩ ?_
  clear M
  rintro k20 a21 w7 ⟨f8, x9, x10, F11, x12, rfl, e14, e15, e16, h4, n13, S17, M⟩
  rcases k20 with _ | k22
  · rw [laws_markIntS_2.l0] at M
    cases M
  rw [laws_markIntS_2.l0] at M
  refine wp_seq ?_
  refine wp_seq ?_
  refine wp_region_lit ?_
  refine lv (d := 6) rfl rfl (by kernel_rfl) (e_move (v := .int .i64 x10) (by exact e16)) ?_
  refine lv (d := 7) rfl rfl (by kernel_rfl) (e_move (v := .slice A2 x1.length c3) (by exact e14)) ?_
  refine lv (d := 8) rfl rfl (by kernel_rfl) (e_len (A := A2) (n := x1.length) (c := c3) Try.underlying23 (by kernel_rfl)) ?_
  refine lv (d := 9) rfl rfl (by kernel_rfl) (e_lss (k := .i64) (a := x10) (b := (x1.length : Int)) (by kernel_rfl) (by kernel_rfl)) ?_
  refine wpList_nil ?_
  refine then_n ?_
  by_cases q23 : x10 < (x1.length : Int)
  · replace M := ifp q23 M
    refine cond_t rfl (bt q23 (by kernel_rfl)) ?_
    refine wp_skip ?_
    refine then_n ?_
    refine wp_seq ?_
    refine wp_block ?_
    refine wp_seq ?_
    refine wp_region_lit ?_
    refine lv (d := 12) rfl rfl (by kernel_rfl) (e_move (v := .slice A2 x1.length c3) (by exact e14)) ?_
    refine lv (d := 13) rfl rfl (by kernel_rfl) (e_move (v := .int .i64 x10) (by exact e16)) ?_
    refine lv (d := 14) rfl rfl (by kernel_rfl) (e_move (v := .int .i64 x9) (by exact e15)) ?_
    obtain ⟨q24, M⟩ := chk M
    obtain ⟨b25, e27⟩ := Row.addr h4 (show (x10).toNat < x12.length by have : x12.length = x1.length := n13; omega)
    refine lv (d := 15) rfl rfl (by kernel_rfl) (e_indexAddr (b := b25) (off := 0) (n := x1.length) (c := c3) (sz := 1) (i := x10) (k := .i64) Try.underlying23 e27 (by kernel_rfl) (by kernel_rfl) (by kernel_rfl) q24 q23) ?_
    have S28 := S17.unit
    have S29 := S28.pull (F := F11) (Fr := [no]) 1 rfl rfl
    refine lse rfl rfl (by kernel_rfl) (e_setel (d := tInt) (b := b25) (i := (x10).toNat) (v := .int .i64 x9) (vs := [.int .i64 x9]) (yv := x9) S29 (by kernel_rfl) e27 (by kernel_rfl) rfl (by kernel_rfl) h4 (show (x10).toNat < x12.length by have : x12.length = x1.length := n13; omega) rfl) ?_
    rintro w30 ⟨F32, h31, S33, K34⟩
    clear h4
    refine wpList_nil ?_
    refine then_n ?_
    refine wp_region_lit ?_
    refine lv (d := 16) rfl rfl (by kernel_rfl) (e_move (v := .int .i64 x9) (by exact e15)) ?_
    refine lv (d := 17) rfl rfl (by kernel_rfl) (e_add (k := .i64) (a := x9) (b := 1) (by kernel_rfl) rfl) ?_
    refine lv (d := 1) rfl rfl (by kernel_rfl) (e_assign (v := .int .i64 (IntKind.i64.wrap (x9 + 1))) (by kernel_rfl)) ?_
    refine wpList_nil ?_
    refine inb_n ?_
    refine then_n ?_
    refine wp_region_lit ?_
    refine lv (d := 10) rfl rfl (by kernel_rfl) (e_move (v := .int .i64 x10) (by exact e16)) ?_
    refine lv (d := 11) rfl rfl (by kernel_rfl) (e_add (k := .i64) (a := x10) (b := 1) (by kernel_rfl) rfl) ?_
    refine lv (d := 5) rfl rfl (by kernel_rfl) (e_assign (v := .int .i64 (IntKind.i64.wrap (x10 + 1))) (by kernel_rfl)) ?_
    refine wpList_nil ?_
    refine then_n ?_
    exact ⟨k22, (by omega), _, (IntKind.i64.wrap (x9 + 1)), (IntKind.i64.wrap (x10 + 1)), F32, (x12.set ((x10).toNat) x9), rfl, (by exact e14), (by kernel_rfl), (by kernel_rfl), h31, (List.length_set.trans n13), S33, M⟩
  replace M := ifn q23 M
  refine cond_f rfl (bf q23 (by kernel_rfl)) ?_
  refine wp_exit ?_
  refine then_e ?_
  refine then_e ?_
  refine inb_hit ?_
  refine then_n ?_
  refine wp_seq ?_
  refine wp_region_lit ?_
  refine lv (d := 18) rfl rfl (by kernel_rfl) (e_move (v := .int .i64 x9) (by exact e15)) ?_
  refine lv (d := 4) rfl rfl (by kernel_rfl) (e_assign (v := .int .i64 x9) (by kernel_rfl)) ?_
  refine wpList_nil ?_
  refine then_n ?_
  refine wp_ret ?_
  obtain rfl := Option.some.inj M
  exact ret1 rfl rfl  (show _ = .int .i64 x9 from (by kernel_rfl)) ⟨F11, H, rfl, n13, h4, S17⟩

/-! laws_markStore -/
def laws_markStore_2.f (k : Nat) (x1 : Store) (x10 : Int) : Option (Int × (List Cell) × (List Int)) := ((laws_markCellS_2.f k x1.cells x10).bind fun t17 => ((laws_markIntS_2.f k x1.trail t17.1).bind fun t29 => some (t29.1, t17.2, t29.2)))
theorem laws_markStore_2.calls (k : Nat) (w : World) (H : Hp) (x1 : Store) (A2 : Option Addr) (c3 : Nat) (F5 : Foot) (A6 : Option Addr) (c7 : Nat) (F9 : Foot) (x10 : Int) (h4 : Row st36 36 H (hp w) F5 A2 c3 x1.cells) (h8 : Row tInt 3 H (hp w) F9 A6 c7 x1.trail) (S : Own [F5, F9] H w) (r : Int × (List Cell) × (List Int)) (M : laws_markStore_2.f k x1 x10 = some r) :
    Calls Try.prog 19 #[.agg #[.slice A2 x1.cells.length c3, .slice A6 x1.trail.length c7], .int .i64 x10] w (fun e e_w => ∃ (F_1 : Foot) (F_2 : Foot) (H_ : Hp), e = .returned (.int .i64 r.1) ∧ r.2.1.length = x1.cells.length ∧ Row st36 36 H_ (hp e_w) F_1 A2 c3 r.2.1 ∧ r.2.2.length = x1.trail.length ∧ Row tInt 3 H_ (hp e_w) F_2 A6 c7 r.2.2 ∧ St (anyOf [F5, F9]) H w [F_1, F_2] H_ e_w) := by
  rw [laws_markStore_2.f] at M
  refine enter (l := [.agg #[.slice A2 x1.cells.length c3, .slice A6 x1.trail.length c7], .int .i64 x10]) 14 Try.func19 rfl rfl rfl ?_
  have S0_ := S.st
  refine wp_seq ?_
  refine wp_region_lit ?_
  refine lve (d := 2) rfl rfl (by kernel_rfl) (new_blk (v := fun g_ => .pointer (some ⟨g_, 0, none⟩)) (cs := #[.slice A2 x1.cells.length c3, .slice A6 x1.trail.length c7]) (t := 34) S0_ (by kernel_rfl)) ?_
  rintro _ w11 ⟨g12, rfl, b13, S14, K15⟩
  replace h4 := h4.move (K15.at 0 rfl)
  replace h8 := h8.move (K15.at 1 rfl)
  refine lv (d := 4) rfl rfl (by kernel_rfl) (e_assign (v := .int .i64 0) rfl) ?_
  refine wpList_nil ?_
  refine then_n ?_
  refine wp_seq ?_
  refine wp_region_lit ?_
  refine lv (d := 5) rfl rfl (by kernel_rfl) (e_fieldAddr (b := g12) (off := 0) (o := 0) Try.underlying34 rfl rfl (sz := 1) (by kernel_rfl) (by decide) (by kernel_rfl)) ?_
  refine lv (d := 6) rfl rfl (by kernel_rfl) (e_load1 (ad := ⟨g12, 0 + 0, none⟩) (v := .slice A2 x1.cells.length c3) Try.underlying32 rfl (by kernel_rfl) (blk_cell b13 rfl)) ?_
  refine lv (d := 7) rfl rfl (by kernel_rfl) (e_move (v := .int .i64 x10) (by kernel_rfl)) ?_
  have S16 := S14.pull (F := F5) (Fr := [(is g12), F9]) 1 rfl rfl
  obtain ⟨t17, u18, M⟩ := bnd M
  refine lcall (d := 8) rfl rfl (by kernel_rfl) (e_call (l := [.tmp 6, .tmp 7]) (vs := [.slice A2 x1.cells.length c3, .int .i64 x10]) Try.func25 (by kernel_rfl) rfl (by kernel_rfl) rfl) (laws_markCellS_2.calls k w11 H x1.cells A2 c3 F5 x10 h4 (St.own' (Fa := [F5]) (Fr := [(is g12), F9]) S16) t17 u18) ?_
  rintro _ w19 ⟨F23, H20, rfl, n24, h22, T21⟩
  refine ⟨_, rfl, ?_⟩
  obtain ⟨S25, K26⟩ := St.call (Fa := [F5]) (Fr := [(is g12), F9]) S16 T21
  replace b13 := K26.blk 0 rfl b13
  replace h8 := h8.move (K26.at 1 rfl)
  have E27 := T21.ext
  replace h8 := h8.ext E27
  refine lv (d := 1) rfl rfl (by kernel_rfl) (e_assign (v := .int .i64 t17.1) (by kernel_rfl)) ?_
  refine wpList_nil ?_
  refine then_n ?_
  refine wp_seq ?_
  refine wp_region_lit ?_
  refine lv (d := 9) rfl rfl (by kernel_rfl) (e_fieldAddr (b := g12) (off := 0) (o := 1) Try.underlying34 rfl rfl (sz := 1) (by kernel_rfl) (by decide) (by kernel_rfl)) ?_
  refine lv (d := 10) rfl rfl (by kernel_rfl) (e_load1 (ad := ⟨g12, 0 + 1, none⟩) (v := .slice A6 x1.trail.length c7) Try.underlying23 rfl (by kernel_rfl) (blk_cell b13 rfl)) ?_
  refine lv (d := 11) rfl rfl (by kernel_rfl) (e_move (v := .int .i64 t17.1) (by kernel_rfl)) ?_
  have S28 := S25.pull (F := F9) (Fr := [F23, (is g12)]) 2 rfl rfl
  obtain ⟨t29, u30, M⟩ := bnd M
  refine lcall (d := 12) rfl rfl (by kernel_rfl) (e_call (l := [.tmp 10, .tmp 11]) (vs := [.slice A6 x1.trail.length c7, .int .i64 t17.1]) Try.func51 (by kernel_rfl) rfl (by kernel_rfl) rfl) (laws_markIntS_2.calls k w19 H20 x1.trail A6 c7 F9 t17.1 h8 (St.own' (Fa := [F9]) (Fr := [F23, (is g12)]) S28) t29 u30) ?_
  rintro _ w31 ⟨F35, H32, rfl, n36, h34, T33⟩
  refine ⟨_, rfl, ?_⟩
  obtain ⟨S37, K38⟩ := St.call (Fa := [F9]) (Fr := [F23, (is g12)]) S28 T33
  replace h22 := h22.move (K38.at 0 rfl)
  replace b13 := K38.blk 1 rfl b13
  have E39 := T33.ext
  replace h22 := h22.ext E39
  refine lv (d := 1) rfl rfl (by kernel_rfl) (e_assign (v := .int .i64 t29.1) (by kernel_rfl)) ?_
  refine wpList_nil ?_
  refine then_n ?_
  refine wp_seq ?_
  refine wp_region_lit ?_
  refine lv (d := 13) rfl rfl (by kernel_rfl) (e_move (v := .int .i64 t29.1) (by kernel_rfl)) ?_
  refine lv (d := 4) rfl rfl (by kernel_rfl) (e_assign (v := .int .i64 t29.1) (by kernel_rfl)) ?_
  refine wpList_nil ?_
  refine then_n ?_
  refine wp_ret ?_
  obtain rfl := Option.some.inj M
  have S40 := S37.pull (F := F23) (Fr := [F35, (is g12)]) 1 rfl rfl
  have S41 := St.first (Fa := [F23, F35]) (Fr := [(is g12)]) S40
  exact ret1 rfl rfl  (show _ = .int .i64 t29.1 from (by kernel_rfl)) ⟨F23, F35, H32, rfl, n24, h22, n36, h34, S41⟩

/-! laws_heldByteS -/
def laws_heldByteS.l0 : Nat → (List UInt8) → Int → Int → Option Int
  | 0, _, _, _ => none
  | k19 + 1, x1, x9, x10 => (if x10 < (x1.length : Int) then (if 0 ≤ x10 then (if ((x1.getD ((x10).toNat) (0 : UInt8)).toNat : Int) ≠ ((b8 (x9)).toNat : Int) then some (-1) else (laws_heldByteS.l0 k19 x1 (IntKind.i64.wrap (x9 + 1)) (IntKind.i64.wrap (x10 + 1)))) else none) else some x9)
def laws_heldByteS.f (k : Nat) (x1 : List UInt8) (x6 : Int) : Option Int := (laws_heldByteS.l0 k x1 x6 0)
theorem laws_heldByteS.calls (k : Nat) (w : World) (H : Hp) (x1 : List UInt8) (A2 : Option Addr) (c3 : Nat) (x6 : Int) (h4 : Rd tByte H A2 x1) (l5 : x1.length ≤ c3) (S : Own [] H w) (r : Int) (M : laws_heldByteS.f k x1 x6 = some r) :
    Calls Try.prog 53 #[.slice A2 x1.length c3, .int .i64 x6] w (fun e e_w => e = .returned (.int .i64 r) ∧ Chg no w e_w) := by
  rw [laws_heldByteS.f] at M
  refine enter (l := [.slice A2 x1.length c3, .int .i64 x6]) 22 Try.func53 rfl rfl rfl ?_
  have S0_ := S.st
  refine wp_seq ?_
  refine wp_region_lit ?_
  refine lv (d := 4) rfl rfl (by kernel_rfl) (e_assign (v := .int .i64 0) rfl) ?_
  refine wpList_nil ?_
  refine then_n ?_
  refine wp_seq ?_
  refine wp_seq ?_
  refine wp_region_lit ?_
  refine lv (d := 5) rfl rfl (by kernel_rfl) (e_assign (v := .int .i64 0) rfl) ?_
  refine wpList_nil ?_
  refine then_n ?_
  refine wp_block ?_
  refine wp_loop_g (fun k17 a18 w7 => ∃ (f8 : Nat → Value) (x9 : Int) (x10 : Int), a18 = mk 22 f8 ∧ f8 0 = .slice A2 x1.length c3 ∧ f8 1 = .int .i64 x9 ∧ f8 5 = .int .i64 x10 ∧ St (anyOf []) H w [] H w7 ∧ laws_heldByteS.l0 k17 x1 x9 x10 = some r) k ⟨_, x6, 0, rfl, (by kernel_rfl), (by kernel_rfl), (by kernel_rfl), S0_, M⟩ ?_
  clear M
  rintro k17 a18 w7 ⟨f8, x9, x10, rfl, e11, e12, e13, S14, M⟩
  rcases k17 with _ | k19
  · rw [laws_heldByteS.l0] at M
    cases M
  rw [laws_heldByteS.l0] at M
  refine wp_seq ?_
  refine wp_seq ?_
  refine wp_region_lit ?_
  refine lv (d := 6) rfl rfl (by kernel_rfl) (e_move (v := .int .i64 x10) (by exact e13)) ?_
  refine lv (d := 7) rfl rfl (by kernel_rfl) (e_move (v := .slice A2 x1.length c3) (by exact e11)) ?_
  refine lv (d := 8) rfl rfl (by kernel_rfl) (e_len (A := A2) (n := x1.length) (c := c3) Try.underlying26 (by kernel_rfl)) ?_
  refine lv (d := 9) rfl rfl (by kernel_rfl) (e_lss (k := .i64) (a := x10) (b := (x1.length : Int)) (by kernel_rfl) (by kernel_rfl)) ?_
  refine wpList_nil ?_
  refine then_n ?_
  by_cases q20 : x10 < (x1.length : Int)
  · replace M := ifp q20 M
    refine cond_t rfl (bt q20 (by kernel_rfl)) ?_
    refine wp_skip ?_
    refine then_n ?_
    refine wp_seq ?_
    refine wp_block ?_
    refine wp_seq ?_
    refine wp_seq ?_
    refine wp_region_lit ?_
    refine lv (d := 12) rfl rfl (by kernel_rfl) (e_move (v := .slice A2 x1.length c3) (by exact e11)) ?_
    refine lv (d := 13) rfl rfl (by kernel_rfl) (e_move (v := .int .i64 x10) (by exact e13)) ?_
    obtain ⟨q21, M⟩ := chk M
    obtain ⟨b22, o23, e24⟩ := Rd.addr h4 (show (x10).toNat < x1.length by omega)
    obtain ⟨y25, r26, k27⟩ := Rd.at h4 e24 (getD_some (0 : UInt8) (show (x10).toNat < x1.length by omega))
    obtain rfl := r26
    refine lv (d := 14) rfl rfl (by kernel_rfl) (e_indexAddr (b := b22) (off := o23) (n := x1.length) (c := c3) (sz := 1) (i := x10) (k := .i64) Try.underlying26 e24 (by kernel_rfl) (by kernel_rfl) (by kernel_rfl) q21 q20) ?_
    refine lv (d := 15) rfl rfl (by kernel_rfl) (e_load1 (ad := ⟨b22, o23 + (x10 : Int).toNat * 1, none⟩) (v := .int .u8 ((x1.getD ((x10).toNat) (0 : UInt8)).toNat : Int)) Try.underlying5 rfl (by kernel_rfl) (hpx (S14.inv.cell (k27 0 _ rfl)))) ?_
    refine lv (d := 16) rfl rfl (by kernel_rfl) (e_move (v := .int .i64 x9) (by exact e12)) ?_
    refine lv (d := 17) rfl rfl (by kernel_rfl) (e_conv_i8 (k := .i64) (a := x9) (by kernel_rfl) Try.underlying5 (by kernel_rfl)) ?_
    refine lv (d := 18) rfl rfl (by kernel_rfl) (e_neq (k := .u8) (a := ((x1.getD ((x10).toNat) (0 : UInt8)).toNat : Int)) (b := ((b8 (x9)).toNat : Int)) (by kernel_rfl) (by kernel_rfl)) ?_
    refine wpList_nil ?_
    refine then_n ?_
    by_cases q28 : ((x1.getD ((x10).toNat) (0 : UInt8)).toNat : Int) ≠ ((b8 (x9)).toNat : Int)
    · replace M := ifp q28 M
      refine cond_t rfl (bt q28 (by kernel_rfl)) ?_
      refine wp_seq ?_
      refine wp_region_lit ?_
      refine lv (d := 4) rfl rfl (by kernel_rfl) (e_assign (v := .int .i64 (-1)) rfl) ?_
      refine wpList_nil ?_
      refine then_n ?_
      refine wp_ret ?_
      refine then_r ?_
      refine inb_r ?_
      refine then_r ?_
      refine then_r ?_
      refine inb_r ?_
      refine then_r ?_
      obtain rfl := Option.some.inj M
      exact ret1 rfl rfl  (show _ = .int .i64 (-1) from (by kernel_rfl)) ⟨rfl, S14.chg⟩
    replace M := ifn q28 M
    refine cond_f rfl (bf q28 (by kernel_rfl)) ?_
    refine wp_skip ?_
    refine then_n ?_
    refine wp_region_lit ?_
    refine lv (d := 19) rfl rfl (by kernel_rfl) (e_move (v := .int .i64 x9) (by exact e12)) ?_
    refine lv (d := 20) rfl rfl (by kernel_rfl) (e_add (k := .i64) (a := x9) (b := 1) (by kernel_rfl) rfl) ?_
    refine lv (d := 1) rfl rfl (by kernel_rfl) (e_assign (v := .int .i64 (IntKind.i64.wrap (x9 + 1))) (by kernel_rfl)) ?_
    refine wpList_nil ?_
    refine inb_n ?_
    refine then_n ?_
    refine wp_region_lit ?_
    refine lv (d := 10) rfl rfl (by kernel_rfl) (e_move (v := .int .i64 x10) (by exact e13)) ?_
    refine lv (d := 11) rfl rfl (by kernel_rfl) (e_add (k := .i64) (a := x10) (b := 1) (by kernel_rfl) rfl) ?_
    refine lv (d := 5) rfl rfl (by kernel_rfl) (e_assign (v := .int .i64 (IntKind.i64.wrap (x10 + 1))) (by kernel_rfl)) ?_
    refine wpList_nil ?_
    refine then_n ?_
    exact ⟨k19, (by omega), _, (IntKind.i64.wrap (x9 + 1)), (IntKind.i64.wrap (x10 + 1)), rfl, (by exact e11), (by kernel_rfl), (by kernel_rfl), S14, M⟩
  replace M := ifn q20 M
  refine cond_f rfl (bf q20 (by kernel_rfl)) ?_
  refine wp_exit ?_
  refine then_e ?_
  refine then_e ?_
  refine inb_hit ?_
  refine then_n ?_
  refine wp_seq ?_
  refine wp_region_lit ?_
  refine lv (d := 21) rfl rfl (by kernel_rfl) (e_move (v := .int .i64 x9) (by exact e12)) ?_
  refine lv (d := 4) rfl rfl (by kernel_rfl) (e_assign (v := .int .i64 x9) (by kernel_rfl)) ?_
  refine wpList_nil ?_
  refine then_n ?_
  refine wp_ret ?_
  obtain rfl := Option.some.inj M
  exact ret1 rfl rfl  (show _ = .int .i64 x9 from (by kernel_rfl)) ⟨rfl, S14.chg⟩

/-! laws_heldCellS -/
def laws_heldCellS.l0 : Nat → (List Cell) → Int → Int → Option Int
  | 0, _, _, _ => none
  | k19 + 1, x1, x9, x10 => (if x10 < (x1.length : Int) then (if 0 ≤ x10 then (if ((x1.getD ((x10).toNat) z36).kind) ≠ x9 then some (-1) else (if ((x1.getD ((x10).toNat) z36).n) ≠ (IntKind.i64.wrap (x9 + 1)) then some (-1) else ((laws_heldByteS.f k19 ((x1.getD ((x10).toNat) z36).text) (IntKind.i64.wrap ((IntKind.i64.wrap (x9 + 1)) + 1))).bind fun t54 => (if t54 < 0 then some (-1) else (laws_heldCellS.l0 k19 x1 t54 (IntKind.i64.wrap (x10 + 1))))))) else none) else some x9)
def laws_heldCellS.f (k : Nat) (x1 : List Cell) (x6 : Int) : Option Int := (laws_heldCellS.l0 k x1 x6 0)
theorem laws_heldCellS.calls (k : Nat) (w : World) (H : Hp) (x1 : List Cell) (A2 : Option Addr) (c3 : Nat) (x6 : Int) (h4 : Rd st36 H A2 x1) (l5 : x1.length ≤ c3) (S : Own [] H w) (r : Int) (M : laws_heldCellS.f k x1 x6 = some r) :
    Calls Try.prog 26 #[.slice A2 x1.length c3, .int .i64 x6] w (fun e e_w => e = .returned (.int .i64 r) ∧ Chg no w e_w) := by
  rw [laws_heldCellS.f] at M
  refine enter (l := [.slice A2 x1.length c3, .int .i64 x6]) 40 Try.func26 rfl rfl rfl ?_
  have S0_ := S.st
  refine wp_seq ?_
  refine wp_region_lit ?_
  refine lv (d := 4) rfl rfl (by kernel_rfl) (e_assign (v := .int .i64 0) rfl) ?_
  refine wpList_nil ?_
  refine then_n ?_
  refine wp_seq ?_
  refine wp_seq ?_
  refine wp_region_lit ?_
  refine lv (d := 5) rfl rfl (by kernel_rfl) (e_assign (v := .int .i64 0) rfl) ?_
  refine wpList_nil ?_
  refine then_n ?_
  refine wp_block ?_
  refine wp_loop_g (fun k17 a18 w7 => ∃ (f8 : Nat → Value) (x9 : Int) (x10 : Int), a18 = mk 40 f8 ∧ f8 0 = .slice A2 x1.length c3 ∧ f8 1 = .int .i64 x9 ∧ f8 5 = .int .i64 x10 ∧ St (anyOf []) H w [] H w7 ∧ laws_heldCellS.l0 k17 x1 x9 x10 = some r) k ⟨_, x6, 0, rfl, (by kernel_rfl), (by kernel_rfl), (by kernel_rfl), S0_, M⟩ ?_
  clear M
  rintro k17 a18 w7 ⟨f8, x9, x10, rfl, e11, e12, e13, S14, M⟩
  rcases k17 with _ | k19
  · rw [laws_heldCellS.l0] at M
    cases M
  rw [laws_heldCellS.l0] at M
  refine wp_seq ?_
  refine wp_seq ?_
  refine wp_region_lit ?_
  refine lv (d := 6) rfl rfl (by kernel_rfl) (e_move (v := .int .i64 x10) (by exact e13)) ?_
  refine lv (d := 7) rfl rfl (by kernel_rfl) (e_move (v := .slice A2 x1.length c3) (by exact e11)) ?_
  refine lv (d := 8) rfl rfl (by kernel_rfl) (e_len (A := A2) (n := x1.length) (c := c3) Try.underlying32 (by kernel_rfl)) ?_
  refine lv (d := 9) rfl rfl (by kernel_rfl) (e_lss (k := .i64) (a := x10) (b := (x1.length : Int)) (by kernel_rfl) (by kernel_rfl)) ?_
  refine wpList_nil ?_
  refine then_n ?_
  by_cases q20 : x10 < (x1.length : Int)
  · replace M := ifp q20 M
    refine cond_t rfl (bt q20 (by kernel_rfl)) ?_
    refine wp_skip ?_
    refine then_n ?_
    refine wp_seq ?_
    refine wp_block ?_
    refine wp_seq ?_
    refine wp_seq ?_
    refine wp_region_lit ?_
    refine lv (d := 12) rfl rfl (by kernel_rfl) (e_move (v := .slice A2 x1.length c3) (by exact e11)) ?_
    refine lv (d := 13) rfl rfl (by kernel_rfl) (e_move (v := .int .i64 x10) (by exact e13)) ?_
    obtain ⟨q21, M⟩ := chk M
    obtain ⟨b22, o23, e24⟩ := Rd.addr h4 (show (x10).toNat < x1.length by omega)
    obtain ⟨y25, r26, k27⟩ := Rd.at h4 e24 (getD_some z36 (show (x10).toNat < x1.length by omega))
    obtain ⟨A28, c29, rfl, l30, h31⟩ := st36_open r26
    refine lv (d := 14) rfl rfl (by kernel_rfl) (e_indexAddr (b := b22) (off := o23) (n := x1.length) (c := c3) (sz := 3) (i := x10) (k := .i64) Try.underlying32 e24 (by kernel_rfl) (by kernel_rfl) (by kernel_rfl) q21 q20) ?_
    refine lv (d := 15) rfl rfl (by kernel_rfl) (e_fieldAddr (b := b22) (off := o23 + (x10 : Int).toNat * 3) (o := 0) Try.underlying36 rfl rfl (sz := 1) (by kernel_rfl) (by decide) (by kernel_rfl)) ?_
    refine lv (d := 16) rfl rfl (by kernel_rfl) (e_load1 (ad := ⟨b22, o23 + (x10 : Int).toNat * 3 + 0, none⟩) (v := .int .i64 ((x1.getD ((x10).toNat) z36).kind)) Try.underlying3 rfl (by kernel_rfl) (hpx (S14.inv.cell (k27 0 _ rfl)))) ?_
    refine lv (d := 17) rfl rfl (by kernel_rfl) (e_move (v := .int .i64 x9) (by exact e12)) ?_
    refine lv (d := 18) rfl rfl (by kernel_rfl) (e_neq (k := .i64) (a := (x1.getD ((x10).toNat) z36).kind) (b := x9) (by kernel_rfl) (by kernel_rfl)) ?_
    refine wpList_nil ?_
    refine then_n ?_
    by_cases q32 : ((x1.getD ((x10).toNat) z36).kind) ≠ x9
    · replace M := ifp q32 M
      refine cond_t rfl (bt q32 (by kernel_rfl)) ?_
      refine wp_seq ?_
      refine wp_region_lit ?_
      refine lv (d := 4) rfl rfl (by kernel_rfl) (e_assign (v := .int .i64 (-1)) rfl) ?_
      refine wpList_nil ?_
      refine then_n ?_
      refine wp_ret ?_
      refine then_r ?_
      refine inb_r ?_
      refine then_r ?_
      refine then_r ?_
      refine inb_r ?_
      refine then_r ?_
      obtain rfl := Option.some.inj M
      exact ret1 rfl rfl  (show _ = .int .i64 (-1) from (by kernel_rfl)) ⟨rfl, S14.chg⟩
    replace M := ifn q32 M
    refine cond_f rfl (bf q32 (by kernel_rfl)) ?_
    refine wp_skip ?_
    refine then_n ?_
    refine wp_seq ?_
    refine wp_region_lit ?_
    refine lv (d := 19) rfl rfl (by kernel_rfl) (e_move (v := .int .i64 x9) (by exact e12)) ?_
    refine lv (d := 20) rfl rfl (by kernel_rfl) (e_add (k := .i64) (a := x9) (b := 1) (by kernel_rfl) rfl) ?_
    refine lv (d := 1) rfl rfl (by kernel_rfl) (e_assign (v := .int .i64 (IntKind.i64.wrap (x9 + 1))) (by kernel_rfl)) ?_
    refine wpList_nil ?_
    refine then_n ?_
    refine wp_seq ?_
    refine wp_seq ?_
    refine wp_region_lit ?_
    refine lv (d := 21) rfl rfl (by kernel_rfl) (e_move (v := .slice A2 x1.length c3) (by exact e11)) ?_
    refine lv (d := 22) rfl rfl (by kernel_rfl) (e_move (v := .int .i64 x10) (by exact e13)) ?_
    obtain ⟨b33, o34, e35⟩ := Rd.addr h4 (show (x10).toNat < x1.length by omega)
    obtain ⟨y36, r37, k38⟩ := Rd.at h4 e35 (getD_some z36 (show (x10).toNat < x1.length by omega))
    obtain ⟨A39, c40, rfl, l41, h42⟩ := st36_open r37
    refine lv (d := 23) rfl rfl (by kernel_rfl) (e_indexAddr (b := b33) (off := o34) (n := x1.length) (c := c3) (sz := 3) (i := x10) (k := .i64) Try.underlying32 e35 (by kernel_rfl) (by kernel_rfl) (by kernel_rfl) q21 q20) ?_
    refine lv (d := 24) rfl rfl (by kernel_rfl) (e_fieldAddr (b := b33) (off := o34 + (x10 : Int).toNat * 3) (o := 1) Try.underlying36 rfl rfl (sz := 1) (by kernel_rfl) (by decide) (by kernel_rfl)) ?_
    refine lv (d := 25) rfl rfl (by kernel_rfl) (e_load1 (ad := ⟨b33, o34 + (x10 : Int).toNat * 3 + 1, none⟩) (v := .int .i64 ((x1.getD ((x10).toNat) z36).n)) Try.underlying3 rfl (by kernel_rfl) (hpx (S14.inv.cell (k38 1 _ rfl)))) ?_
    refine lv (d := 26) rfl rfl (by kernel_rfl) (e_move (v := .int .i64 (IntKind.i64.wrap (x9 + 1))) (by kernel_rfl)) ?_
    refine lv (d := 27) rfl rfl (by kernel_rfl) (e_neq (k := .i64) (a := (x1.getD ((x10).toNat) z36).n) (b := (IntKind.i64.wrap (x9 + 1))) (by kernel_rfl) (by kernel_rfl)) ?_
    refine wpList_nil ?_
    refine then_n ?_
    by_cases q43 : ((x1.getD ((x10).toNat) z36).n) ≠ (IntKind.i64.wrap (x9 + 1))
    · replace M := ifp q43 M
      refine cond_t rfl (bt q43 (by kernel_rfl)) ?_
      refine wp_seq ?_
      refine wp_region_lit ?_
      refine lv (d := 4) rfl rfl (by kernel_rfl) (e_assign (v := .int .i64 (-1)) rfl) ?_
      refine wpList_nil ?_
      refine then_n ?_
      refine wp_ret ?_
      refine then_r ?_
      refine inb_r ?_
      refine then_r ?_
      refine then_r ?_
      refine inb_r ?_
      refine then_r ?_
      obtain rfl := Option.some.inj M
      exact ret1 rfl rfl  (show _ = .int .i64 (-1) from (by kernel_rfl)) ⟨rfl, S14.chg⟩
    replace M := ifn q43 M
    refine cond_f rfl (bf q43 (by kernel_rfl)) ?_
    refine wp_skip ?_
    refine then_n ?_
    refine wp_seq ?_
    refine wp_region_lit ?_
    refine lv (d := 28) rfl rfl (by kernel_rfl) (e_move (v := .int .i64 (IntKind.i64.wrap (x9 + 1))) (by kernel_rfl)) ?_
    refine lv (d := 29) rfl rfl (by kernel_rfl) (e_add (k := .i64) (a := (IntKind.i64.wrap (x9 + 1))) (b := 1) (by kernel_rfl) rfl) ?_
    refine lv (d := 1) rfl rfl (by kernel_rfl) (e_assign (v := .int .i64 (IntKind.i64.wrap ((IntKind.i64.wrap (x9 + 1)) + 1))) (by kernel_rfl)) ?_
    refine wpList_nil ?_
    refine then_n ?_
    refine wp_seq ?_
    refine wp_region_lit ?_
    refine lv (d := 30) rfl rfl (by kernel_rfl) (e_move (v := .slice A2 x1.length c3) (by exact e11)) ?_
    refine lv (d := 31) rfl rfl (by kernel_rfl) (e_move (v := .int .i64 x10) (by exact e13)) ?_
    obtain ⟨b44, o45, e46⟩ := Rd.addr h4 (show (x10).toNat < x1.length by omega)
    obtain ⟨y47, r48, k49⟩ := Rd.at h4 e46 (getD_some z36 (show (x10).toNat < x1.length by omega))
    obtain ⟨A50, c51, rfl, l52, h53⟩ := st36_open r48
    refine lv (d := 32) rfl rfl (by kernel_rfl) (e_indexAddr (b := b44) (off := o45) (n := x1.length) (c := c3) (sz := 3) (i := x10) (k := .i64) Try.underlying32 e46 (by kernel_rfl) (by kernel_rfl) (by kernel_rfl) q21 q20) ?_
    refine lv (d := 33) rfl rfl (by kernel_rfl) (e_fieldAddr (b := b44) (off := o45 + (x10 : Int).toNat * 3) (o := 2) Try.underlying36 rfl rfl (sz := 1) (by kernel_rfl) (by decide) (by kernel_rfl)) ?_
    refine lv (d := 34) rfl rfl (by kernel_rfl) (e_load1 (ad := ⟨b44, o45 + (x10 : Int).toNat * 3 + 2, none⟩) (v := .slice A50 ((x1.getD ((x10).toNat) z36).text).length c51) Try.underlying26 rfl (by kernel_rfl) (hpx (S14.inv.cell (k49 2 _ rfl)))) ?_
    refine lv (d := 35) rfl rfl (by kernel_rfl) (e_move (v := .int .i64 (IntKind.i64.wrap ((IntKind.i64.wrap (x9 + 1)) + 1))) (by kernel_rfl)) ?_
    obtain ⟨t54, u55, M⟩ := bnd M
    refine lcall (d := 36) rfl rfl (by kernel_rfl) (e_call (l := [.tmp 34, .tmp 35]) (vs := [.slice A50 ((x1.getD ((x10).toNat) z36).text).length c51, .int .i64 (IntKind.i64.wrap ((IntKind.i64.wrap (x9 + 1)) + 1))]) Try.func53 (by kernel_rfl) rfl (by kernel_rfl) rfl) (laws_heldByteS.calls k19 w7 H ((x1.getD ((x10).toNat) z36).text) A50 c51 (IntKind.i64.wrap ((IntKind.i64.wrap (x9 + 1)) + 1)) h53 l52 S14.own0 t54 u55) ?_
    rintro _ w56 ⟨rfl, C57⟩
    refine ⟨_, rfl, ?_⟩
    obtain ⟨S58, K59⟩ := S14.still C57
    refine lv (d := 1) rfl rfl (by kernel_rfl) (e_assign (v := .int .i64 t54) (by kernel_rfl)) ?_
    refine wpList_nil ?_
    refine then_n ?_
    refine wp_seq ?_
    refine wp_region_lit ?_
    refine lv (d := 37) rfl rfl (by kernel_rfl) (e_move (v := .int .i64 t54) (by kernel_rfl)) ?_
    refine lv (d := 38) rfl rfl (by kernel_rfl) (e_lss (k := .i64) (a := t54) (b := 0) (by kernel_rfl) rfl) ?_
    refine wpList_nil ?_
    refine then_n ?_
    by_cases q60 : t54 < 0
    · replace M := ifp q60 M
      refine cond_t rfl (bt q60 (by kernel_rfl)) ?_
      refine wp_seq ?_
      refine wp_region_lit ?_
      refine lv (d := 4) rfl rfl (by kernel_rfl) (e_assign (v := .int .i64 (-1)) rfl) ?_
      refine wpList_nil ?_
      refine then_n ?_
      refine wp_ret ?_
      refine inb_r ?_
      refine then_r ?_
      refine then_r ?_
      refine inb_r ?_
      refine then_r ?_
      obtain rfl := Option.some.inj M
      exact ret1 rfl rfl  (show _ = .int .i64 (-1) from (by kernel_rfl)) ⟨rfl, S58.chg⟩
    replace M := ifn q60 M
    refine cond_f rfl (bf q60 (by kernel_rfl)) ?_
    refine wp_skip ?_
    refine inb_n ?_
    refine then_n ?_
    refine wp_region_lit ?_
    refine lv (d := 10) rfl rfl (by kernel_rfl) (e_move (v := .int .i64 x10) (by exact e13)) ?_
    refine lv (d := 11) rfl rfl (by kernel_rfl) (e_add (k := .i64) (a := x10) (b := 1) (by kernel_rfl) rfl) ?_
    refine lv (d := 5) rfl rfl (by kernel_rfl) (e_assign (v := .int .i64 (IntKind.i64.wrap (x10 + 1))) (by kernel_rfl)) ?_
    refine wpList_nil ?_
    refine then_n ?_
    exact ⟨k19, (by omega), _, t54, (IntKind.i64.wrap (x10 + 1)), rfl, (by exact e11), (by kernel_rfl), (by kernel_rfl), S58, M⟩
  replace M := ifn q20 M
  refine cond_f rfl (bf q20 (by kernel_rfl)) ?_
  refine wp_exit ?_
  refine then_e ?_
  refine then_e ?_
  refine inb_hit ?_
  refine then_n ?_
  refine wp_seq ?_
  refine wp_region_lit ?_
  refine lv (d := 39) rfl rfl (by kernel_rfl) (e_move (v := .int .i64 x9) (by exact e12)) ?_
  refine lv (d := 4) rfl rfl (by kernel_rfl) (e_assign (v := .int .i64 x9) (by kernel_rfl)) ?_
  refine wpList_nil ?_
  refine then_n ?_
  refine wp_ret ?_
  obtain rfl := Option.some.inj M
  exact ret1 rfl rfl  (show _ = .int .i64 x9 from (by kernel_rfl)) ⟨rfl, S14.chg⟩
end Go.Proofs.Ytnigifmkjmbfiaa
