import Derived.Test.YtnigifmkjmbfiaaWkGt2
namespace Go.Proofs.Ytnigifmkjmbfiaa
open Go.Sx Go.Sy
attribute [local irreducible] Go.wpList Go.wpStill Go.wpQuiet Go.Code.wp
set_option maxRecDepth 100000
set_option maxHeartbeats 1000000
set_option linter.unusedVariables false
set_option linter.unusedSimpArgs false

/-! impl_ValidStore -/
def impl_ValidStore.f (k : Nat) (x1 : Store) (x10 : Cell) : Option Bool := ((impl_Store_ok.f k x1).bind fun t25 => (if t25 = true then ((impl_Store_points.f x1 x10).bind fun t32 => some t32) else some false))
theorem impl_ValidStore.calls (k : Nat) (w : World) (H : Hp) (x1 : Store) (A2 : Option Addr) (c3 : Nat) (A6 : Option Addr) (c7 : Nat) (x10 : Cell) (A11 : Option Addr) (c12 : Nat) (h4 : Rd st36 H A2 x1.cells) (l5 : x1.cells.length ≤ c3) (h8 : Rd tInt H A6 x1.trail) (l9 : x1.trail.length ≤ c7) (h13 : Rd tByte H A11 x10.text) (l14 : x10.text.length ≤ c12) (S : Own [] H w) (r : Bool) (M : impl_ValidStore.f k x1 x10 = some r) :
    Calls Try.prog 14 #[.agg #[.slice A2 x1.cells.length c3, .slice A6 x1.trail.length c7], .agg #[.int .i64 x10.kind, .int .i64 x10.n, .slice A11 x10.text.length c12]] w (fun e e_w => e = .returned (.bool r) ∧ Chg no w e_w) := by
  rw [impl_ValidStore.f] at M
  refine enter (l := [.agg #[.slice A2 x1.cells.length c3, .slice A6 x1.trail.length c7], .agg #[.int .i64 x10.kind, .int .i64 x10.n, .slice A11 x10.text.length c12]]) 12 Try.func14 rfl rfl rfl ?_
  have S0_ := S.st
  refine wp_seq ?_
  refine wp_region_lit ?_
  refine lve (d := 2) rfl rfl (by kernel_rfl) (new_blk (v := fun g_ => .pointer (some ⟨g_, 0, none⟩)) (cs := #[.slice A2 x1.cells.length c3, .slice A6 x1.trail.length c7]) (t := 34) S0_ (by kernel_rfl)) ?_
  rintro _ w15 ⟨g16, rfl, b17, S18, K19⟩
  refine lve (d := 3) rfl rfl (by kernel_rfl) (new_blk (v := fun g_ => .pointer (some ⟨g_, 0, none⟩)) (cs := #[.int .i64 x10.kind, .int .i64 x10.n, .slice A11 x10.text.length c12]) (t := 36) S18 (by kernel_rfl)) ?_
  rintro _ w20 ⟨g21, rfl, b22, S23, K24⟩
  replace b17 := K24.blk 0 rfl b17
  refine lv (d := 4) rfl rfl (by kernel_rfl) (e_assign (v := .bool false) rfl) ?_
  refine wpList_nil ?_
  refine then_n ?_
  refine wp_seq ?_
  refine wp_region_lit ?_
  refine lv (d := 5) rfl rfl (by kernel_rfl) (e_loadS (b := g16) (off := 0) (cs := [.slice A2 x1.cells.length c3, .slice A6 x1.trail.length c7]) Try.underlying34 rfl (by kernel_rfl) (by kernel_rfl) (blk_cells b17 rfl)) ?_
  obtain ⟨t25, u26, M⟩ := bnd M
  refine lcall (d := 6) rfl rfl (by kernel_rfl) (e_call (l := [.tmp 5]) (vs := [.agg #[.slice A2 x1.cells.length c3, .slice A6 x1.trail.length c7]]) Try.func42 (by kernel_rfl) rfl (by kernel_rfl) rfl) (impl_Store_ok.calls k w20 H x1 A2 c3 A6 c7 h4 l5 h8 l9 S23.own0 t25 u26) ?_
  rintro _ w27 ⟨rfl, C28⟩
  refine ⟨_, rfl, ?_⟩
  obtain ⟨S29, K30⟩ := S23.still C28
  replace b22 := K30.blk 0 rfl b22
  replace b17 := K30.blk 1 rfl b17
  refine lv (d := 7) rfl rfl (by kernel_rfl) (e_move (v := .bool t25) (by kernel_rfl)) ?_
  by_cases q31 : t25 = true
  · replace M := ifp q31 M
    refine lvg (d := 8) (t := 7) rfl (by kernel_rfl) rfl (bvt q31 (by kernel_rfl)) rfl (by kernel_rfl) (e_loadS (b := g16) (off := 0) (cs := [.slice A2 x1.cells.length c3, .slice A6 x1.trail.length c7]) Try.underlying34 rfl (by kernel_rfl) (by kernel_rfl) (blk_cells b17 rfl)) ?_
    refine lvg (d := 9) (t := 7) rfl (by kernel_rfl) rfl (bvt q31 (by kernel_rfl)) rfl (by kernel_rfl) (e_loadS (b := g21) (off := 0) (cs := [.int .i64 x10.kind, .int .i64 x10.n, .slice A11 x10.text.length c12]) Try.underlying36 rfl (by kernel_rfl) (by kernel_rfl) (blk_cells b22 rfl)) ?_
    obtain ⟨t32, u33, M⟩ := bnd M
    refine lcallg (d := 10) (t := 7) rfl (by kernel_rfl) rfl (bvt q31 (by kernel_rfl)) rfl (by kernel_rfl) (e_call (l := [.tmp 8, .tmp 9]) (vs := [.agg #[.slice A2 x1.cells.length c3, .slice A6 x1.trail.length c7], .agg #[.int .i64 x10.kind, .int .i64 x10.n, .slice A11 x10.text.length c12]]) Try.func43 (by kernel_rfl) rfl (by kernel_rfl) rfl) (impl_Store_points.calls w27 H x1 A2 c3 A6 c7 x10 A11 c12 h4 l5 h8 l9 h13 l14 S29.own0 t32 u33) ?_
    rintro _ w34 ⟨rfl, C35⟩
    refine ⟨_, rfl, ?_⟩
    obtain ⟨S36, K37⟩ := S29.still C35
    replace b22 := K37.blk 0 rfl b22
    replace b17 := K37.blk 1 rfl b17
    refine lv (d := 11) rfl rfl (by kernel_rfl) (e_pick_t (v := .bool t32) (bvt q31 (by kernel_rfl)) (by kernel_rfl)) ?_
    refine lv (d := 4) rfl rfl (by kernel_rfl) (e_assign (v := .bool t32) (by kernel_rfl)) ?_
    refine wpList_nil ?_
    refine then_n ?_
    refine wp_ret ?_
    obtain rfl := Option.some.inj M
    exact ret1 rfl rfl  (show _ = .bool t32 from (by kernel_rfl)) ⟨rfl, S36.chg⟩
  replace M := ifn q31 M
  refine lskip (t := 7) (c := false) rfl (by kernel_rfl) rfl (bvf q31 (by kernel_rfl)) rfl rfl ?_
  refine lskip (t := 7) (c := false) rfl (by kernel_rfl) rfl (bvf q31 (by kernel_rfl)) rfl rfl ?_
  refine lskip (t := 7) (c := false) rfl (by kernel_rfl) rfl (bvf q31 (by kernel_rfl)) rfl rfl ?_
  refine lv (d := 11) rfl rfl (by kernel_rfl) (e_pick_f (v := .bool false) (bvf q31 (by kernel_rfl)) rfl) ?_
  refine lv (d := 4) rfl rfl (by kernel_rfl) (e_assign (v := .bool false) (by kernel_rfl)) ?_
  refine wpList_nil ?_
  refine then_n ?_
  refine wp_ret ?_
  obtain rfl := Option.some.inj M
  exact ret1 rfl rfl  (show _ = .bool false from (by kernel_rfl)) ⟨rfl, S29.chg⟩

/-! impl_Store_deref -/
def impl_Store_deref.l0 : Nat → Store → Int → Int → (List UInt8) → Option Cell
  | 0, _, _, _, _ => none
  | k44 + 1, x1, x29, x30, x31 => (if x29 = 0 then (if 0 ≤ x30 then (if x30 < (x1.cells.length : Int) then (if ((x1.cells.getD ((x30).toNat) z36).kind) = 0 then (if ¬ (((x1.cells.getD ((x30).toNat) z36).n) = x30) then (impl_Store_deref.l0 k44 x1 ((x1.cells.getD ((x30).toNat) z36).kind) ((x1.cells.getD ((x30).toNat) z36).n) ((x1.cells.getD ((x30).toNat) z36).text)) else some (⟨x29, x30, x31⟩ : Cell)) else (impl_Store_deref.l0 k44 x1 ((x1.cells.getD ((x30).toNat) z36).kind) ((x1.cells.getD ((x30).toNat) z36).n) ((x1.cells.getD ((x30).toNat) z36).text))) else none) else none) else some (⟨x29, x30, x31⟩ : Cell))
def impl_Store_deref.f (k : Nat) (x1 : Store) (x12 : Cell) : Option Cell := (impl_Store_deref.l0 k x1 x12.kind x12.n x12.text)
theorem impl_Store_deref.calls (k : Nat) (w : World) (H : Hp) (x1 : Store) (g2 : Nat) (A4 : Option Addr) (c5 : Nat) (A8 : Option Addr) (c9 : Nat) (x12 : Cell) (A13 : Option Addr) (c14 : Nat) (h6 : Rd st36 H A4 x1.cells) (l7 : x1.cells.length ≤ c5) (h10 : Rd tInt H A8 x1.trail) (l11 : x1.trail.length ≤ c9) (b3 : w.heap[g2]? = some (.cells #[.slice A4 x1.cells.length c5, .slice A8 x1.trail.length c9] 34 (0, 0))) (h15 : Rd tByte H A13 x12.text) (l16 : x12.text.length ≤ c14) (S : Own [(is g2)] H w) (r : Cell) (M : impl_Store_deref.f k x1 x12 = some r) :
    Calls Try.prog 50 #[.pointer (some ⟨g2, 0, none⟩), .agg #[.int .i64 x12.kind, .int .i64 x12.n, .slice A13 x12.text.length c14]] w (fun e e_w => ∃ (A_1 : Option Addr) (c_1 : Nat) (H_ : Hp), e = .returned (.agg #[.int .i64 r.kind, .int .i64 r.n, .slice A_1 r.text.length c_1]) ∧ e_w.heap[g2]? = some (.cells #[.slice A4 x1.cells.length c5, .slice A8 x1.trail.length c9] 34 (0, 0)) ∧ Rd tByte H_ A_1 r.text ∧ r.text.length ≤ c_1 ∧ St (anyOf [(is g2)]) H w [(is g2)] H_ e_w) := by
  rw [impl_Store_deref.f] at M
  refine enter (l := [.pointer (some ⟨g2, 0, none⟩), .agg #[.int .i64 x12.kind, .int .i64 x12.n, .slice A13 x12.text.length c14]]) 44 Try.func50 rfl rfl rfl ?_
  have S0_ := S.st
  refine wp_seq ?_
  refine wp_region_lit ?_
  refine lve (d := 3) rfl rfl (by kernel_rfl) (new_blk (v := fun g_ => .pointer (some ⟨g_, 0, none⟩)) (cs := #[.int .i64 x12.kind, .int .i64 x12.n, .slice A13 x12.text.length c14]) (t := 36) S0_ (by kernel_rfl)) ?_
  rintro _ w17 ⟨g18, rfl, b19, S20, K21⟩
  replace b3 := K21.blk 0 rfl b3
  refine lve (d := 4) rfl rfl (by kernel_rfl) (new_blk (v := fun g_ => .pointer (some ⟨g_, 0, none⟩)) (cs := #[.int .i64 0, .int .i64 0, .slice none 0 0]) (t := 36) S20 (by kernel_rfl)) ?_
  rintro _ w22 ⟨g23, rfl, b24, S25, K26⟩
  replace b19 := K26.blk 0 rfl b19
  replace b3 := K26.blk 1 rfl b3
  refine wpList_nil ?_
  refine then_n ?_
  refine wp_seq ?_
  refine wp_block ?_
  refine wp_loop_g (fun k42 a43 w27 => ∃ (f28 : Nat → Value) (x29 : Int) (x30 : Int) (x31 : List UInt8) (A32 : Option Addr) (c33 : Nat), a43 = mk 44 f28 ∧ f28 0 = .pointer (some ⟨g2, 0, none⟩) ∧ f28 3 = .pointer (some ⟨g18, 0, none⟩) ∧ f28 4 = .pointer (some ⟨g23, 0, none⟩) ∧ w27.heap[g23]? = some (.cells #[.int .i64 0, .int .i64 0, .slice none 0 0] 36 (0, 0)) ∧ w27.heap[g18]? = some (.cells #[.int .i64 x29, .int .i64 x30, .slice A32 x31.length c33] 36 (0, 0)) ∧ w27.heap[g2]? = some (.cells #[.slice A4 x1.cells.length c5, .slice A8 x1.trail.length c9] 34 (0, 0)) ∧ Rd tByte H A32 x31 ∧ x31.length ≤ c33 ∧ St (anyOf [(is g2)]) H w [(is g23), (is g18), (is g2)] H w27 ∧ impl_Store_deref.l0 k42 x1 x29 x30 x31 = some r) k ⟨_, x12.kind, x12.n, x12.text, A13, c14, rfl, (by kernel_rfl), (by kernel_rfl), (by kernel_rfl), b24, b19, b3, h15, l16, S25, M⟩ ?_
  clear M
  rintro k42 a43 w27 ⟨f28, x29, x30, x31, A32, c33, rfl, e36, e37, e38, b24, b19, b3, h34, l35, S39, M⟩
  rcases k42 with _ | k44
  · rw [impl_Store_deref.l0] at M
    cases M
  rw [impl_Store_deref.l0] at M
  refine wp_seq ?_
  refine wp_seq ?_
  refine region_still (by kernel_rfl) (by kernel_rfl) S39 ?_
  intro w45 S46 K47
  replace b24 := K47.blk 0 rfl b24
  replace b19 := K47.blk 1 rfl b19
  replace b3 := K47.blk 2 rfl b3
  refine sv (d := 5) rfl rfl (by kernel_rfl) (e_fieldAddr (b := g18) (off := 0) (o := 0) Try.underlying36 rfl rfl (sz := 1) (by kernel_rfl) (by decide) (by exact e37)) ?_
  refine sv (d := 6) rfl rfl (by kernel_rfl) (e_load1 (ad := ⟨g18, 0 + 0, none⟩) (v := .int .i64 x29) Try.underlying3 rfl (by kernel_rfl) (blk_cell b19 rfl)) ?_
  refine sv (d := 7) rfl rfl (by kernel_rfl) (e_eql (k := .i64) (a := x29) (b := 0) (by kernel_rfl) rfl) ?_
  refine sv (d := 8) rfl rfl (by kernel_rfl) (e_move (v := .bool (decide (x29 = 0))) (by kernel_rfl)) ?_
  by_cases q48 : x29 = 0
  · replace M := ifp q48 M
    refine svg (d := 9) (t := 8) rfl (by kernel_rfl) rfl (bt q48 (by kernel_rfl)) rfl (by kernel_rfl) (e_move (v := .pointer (some ⟨g2, 0, none⟩)) (by exact e36)) ?_
    refine svg (d := 10) (t := 8) rfl (by kernel_rfl) rfl (bt q48 (by kernel_rfl)) rfl (by kernel_rfl) (e_nilCheck (ad := ⟨g2, 0, none⟩) (by kernel_rfl)) ?_
    refine svg (d := 11) (t := 8) rfl (by kernel_rfl) rfl (bt q48 (by kernel_rfl)) rfl (by kernel_rfl) (e_fieldAddr (b := g2) (off := 0) (o := 0) Try.underlying34 rfl rfl (sz := 1) (by kernel_rfl) (by decide) (by kernel_rfl)) ?_
    refine svg (d := 12) (t := 8) rfl (by kernel_rfl) rfl (bt q48 (by kernel_rfl)) rfl (by kernel_rfl) (e_load1 (ad := ⟨g2, 0 + 0, none⟩) (v := .slice A4 x1.cells.length c5) Try.underlying32 rfl (by kernel_rfl) (blk_cell b3 rfl)) ?_
    refine svg (d := 13) (t := 8) rfl (by kernel_rfl) rfl (bt q48 (by kernel_rfl)) rfl (by kernel_rfl) (e_fieldAddr (b := g18) (off := 0) (o := 1) Try.underlying36 rfl rfl (sz := 1) (by kernel_rfl) (by decide) (by exact e37)) ?_
    refine svg (d := 14) (t := 8) rfl (by kernel_rfl) rfl (bt q48 (by kernel_rfl)) rfl (by kernel_rfl) (e_load1 (ad := ⟨g18, 0 + 1, none⟩) (v := .int .i64 x30) Try.underlying3 rfl (by kernel_rfl) (blk_cell b19 rfl)) ?_
    obtain ⟨q49, M⟩ := chk M
    obtain ⟨q50, M⟩ := chk M
    obtain ⟨b51, o52, e53⟩ := Rd.addr h6 (show (x30).toNat < x1.cells.length by omega)
    obtain ⟨y54, r55, k56⟩ := Rd.at h6 e53 (getD_some z36 (show (x30).toNat < x1.cells.length by omega))
    obtain ⟨A57, c58, rfl, l59, h60⟩ := st36_open r55
    refine svg (d := 15) (t := 8) rfl (by kernel_rfl) rfl (bt q48 (by kernel_rfl)) rfl (by kernel_rfl) (e_indexAddr (b := b51) (off := o52) (n := x1.cells.length) (c := c5) (sz := 3) (i := x30) (k := .i64) Try.underlying32 e53 (by kernel_rfl) (by kernel_rfl) (by kernel_rfl) q49 q50) ?_
    refine svg (d := 16) (t := 8) rfl (by kernel_rfl) rfl (bt q48 (by kernel_rfl)) rfl (by kernel_rfl) (e_fieldAddr (b := b51) (off := o52 + (x30 : Int).toNat * 3) (o := 0) Try.underlying36 rfl rfl (sz := 1) (by kernel_rfl) (by decide) (by kernel_rfl)) ?_
    refine svg (d := 17) (t := 8) rfl (by kernel_rfl) rfl (bt q48 (by kernel_rfl)) rfl (by kernel_rfl) (e_load1 (ad := ⟨b51, o52 + (x30 : Int).toNat * 3 + 0, none⟩) (v := .int .i64 ((x1.cells.getD ((x30).toNat) z36).kind)) Try.underlying3 rfl (by kernel_rfl) (hpx (S46.inv.cell (k56 0 _ rfl)))) ?_
    refine svg (d := 18) (t := 8) rfl (by kernel_rfl) rfl (bt q48 (by kernel_rfl)) rfl (by kernel_rfl) (e_eql (k := .i64) (a := (x1.cells.getD ((x30).toNat) z36).kind) (b := 0) (by kernel_rfl) rfl) ?_
    refine svg (d := 19) (t := 8) rfl (by kernel_rfl) rfl (bt q48 (by kernel_rfl)) rfl (by kernel_rfl) (e_move (v := .bool (decide (((x1.cells.getD ((x30).toNat) z36).kind) = 0))) (by kernel_rfl)) ?_
    by_cases q61 : ((x1.cells.getD ((x30).toNat) z36).kind) = 0
    · replace M := ifp q61 M
      refine svg (d := 20) (t := 19) rfl (by kernel_rfl) rfl (bt q61 (by kernel_rfl)) rfl (by kernel_rfl) (e_move (v := .pointer (some ⟨g2, 0, none⟩)) (by exact e36)) ?_
      refine svg (d := 21) (t := 19) rfl (by kernel_rfl) rfl (bt q61 (by kernel_rfl)) rfl (by kernel_rfl) (e_nilCheck (ad := ⟨g2, 0, none⟩) (by kernel_rfl)) ?_
      refine svg (d := 22) (t := 19) rfl (by kernel_rfl) rfl (bt q61 (by kernel_rfl)) rfl (by kernel_rfl) (e_fieldAddr (b := g2) (off := 0) (o := 0) Try.underlying34 rfl rfl (sz := 1) (by kernel_rfl) (by decide) (by kernel_rfl)) ?_
      refine svg (d := 23) (t := 19) rfl (by kernel_rfl) rfl (bt q61 (by kernel_rfl)) rfl (by kernel_rfl) (e_load1 (ad := ⟨g2, 0 + 0, none⟩) (v := .slice A4 x1.cells.length c5) Try.underlying32 rfl (by kernel_rfl) (blk_cell b3 rfl)) ?_
      refine svg (d := 24) (t := 19) rfl (by kernel_rfl) rfl (bt q61 (by kernel_rfl)) rfl (by kernel_rfl) (e_fieldAddr (b := g18) (off := 0) (o := 1) Try.underlying36 rfl rfl (sz := 1) (by kernel_rfl) (by decide) (by exact e37)) ?_
      refine svg (d := 25) (t := 19) rfl (by kernel_rfl) rfl (bt q61 (by kernel_rfl)) rfl (by kernel_rfl) (e_load1 (ad := ⟨g18, 0 + 1, none⟩) (v := .int .i64 x30) Try.underlying3 rfl (by kernel_rfl) (blk_cell b19 rfl)) ?_
      obtain ⟨b62, o63, e64⟩ := Rd.addr h6 (show (x30).toNat < x1.cells.length by omega)
      obtain ⟨y65, r66, k67⟩ := Rd.at h6 e64 (getD_some z36 (show (x30).toNat < x1.cells.length by omega))
      obtain ⟨A68, c69, rfl, l70, h71⟩ := st36_open r66
      refine svg (d := 26) (t := 19) rfl (by kernel_rfl) rfl (bt q61 (by kernel_rfl)) rfl (by kernel_rfl) (e_indexAddr (b := b62) (off := o63) (n := x1.cells.length) (c := c5) (sz := 3) (i := x30) (k := .i64) Try.underlying32 e64 (by kernel_rfl) (by kernel_rfl) (by kernel_rfl) q49 q50) ?_
      refine svg (d := 27) (t := 19) rfl (by kernel_rfl) rfl (bt q61 (by kernel_rfl)) rfl (by kernel_rfl) (e_fieldAddr (b := b62) (off := o63 + (x30 : Int).toNat * 3) (o := 1) Try.underlying36 rfl rfl (sz := 1) (by kernel_rfl) (by decide) (by kernel_rfl)) ?_
      refine svg (d := 28) (t := 19) rfl (by kernel_rfl) rfl (bt q61 (by kernel_rfl)) rfl (by kernel_rfl) (e_load1 (ad := ⟨b62, o63 + (x30 : Int).toNat * 3 + 1, none⟩) (v := .int .i64 ((x1.cells.getD ((x30).toNat) z36).n)) Try.underlying3 rfl (by kernel_rfl) (hpx (S46.inv.cell (k67 1 _ rfl)))) ?_
      refine svg (d := 29) (t := 19) rfl (by kernel_rfl) rfl (bt q61 (by kernel_rfl)) rfl (by kernel_rfl) (e_fieldAddr (b := g18) (off := 0) (o := 1) Try.underlying36 rfl rfl (sz := 1) (by kernel_rfl) (by decide) (by exact e37)) ?_
      refine svg (d := 30) (t := 19) rfl (by kernel_rfl) rfl (bt q61 (by kernel_rfl)) rfl (by kernel_rfl) (e_load1 (ad := ⟨g18, 0 + 1, none⟩) (v := .int .i64 x30) Try.underlying3 rfl (by kernel_rfl) (blk_cell b19 rfl)) ?_
      refine svg (d := 31) (t := 19) rfl (by kernel_rfl) rfl (bt q61 (by kernel_rfl)) rfl (by kernel_rfl) (e_eql (k := .i64) (a := (x1.cells.getD ((x30).toNat) z36).n) (b := x30) (by kernel_rfl) (by kernel_rfl)) ?_
      refine svg (d := 32) (t := 8) rfl (by kernel_rfl) rfl (bt q48 (by kernel_rfl)) rfl (by kernel_rfl) (e_pick_t (v := .bool (decide (((x1.cells.getD ((x30).toNat) z36).n) = x30))) (bt q61 (by kernel_rfl)) (by kernel_rfl)) ?_
      refine svg (d := 33) (t := 8) rfl (by kernel_rfl) rfl (bt q48 (by kernel_rfl)) rfl (by kernel_rfl) (e_notd (c := ((x1.cells.getD ((x30).toNat) z36).n) = x30) (by kernel_rfl)) ?_
      refine sv (d := 34) rfl rfl (by kernel_rfl) (e_pick_t (v := .bool (decide (¬ (((x1.cells.getD ((x30).toNat) z36).n) = x30)))) (bt q48 (by kernel_rfl)) (by kernel_rfl)) ?_
      refine wpStill_nil ?_
      refine then_n ?_
      by_cases q72 : ¬ (((x1.cells.getD ((x30).toNat) z36).n) = x30)
      · replace M := ifp q72 M
        refine cond_t rfl (bt q72 (by kernel_rfl)) ?_
        refine wp_skip ?_
        refine then_n ?_
        refine wp_block ?_
        refine region_mix (S := (fun (L_ : Array Bool) (w_ : World) => Ext H (hp w_) ∧ (∀ b_, (is g2) b_ → hp w_ b_ = hp w45 b_))) (by kernel_rfl) S46 ?_
        intro w73 S74 K75 hc76
        have o77 := b3
        have hs78 : (fun (L_ : Array Bool) (w_ : World) => Ext H (hp w_) ∧ (∀ b_, (is g2) b_ → hp w_ b_ = hp w45 b_)) (Array.replicate 9 false) w73 := ⟨S74.inv, (fun b_ h_ => K75.at 2 rfl b_ h_)⟩
        replace b24 := K75.blk 0 rfl b24
        replace b19 := K75.blk 1 rfl b19
        replace b3 := K75.blk 2 rfl b3
        refine xv (i := 0) (d := 35) rfl rfl rfl (by kernel_rfl) (by kernel_rfl) (fun _ _ => Iff.rfl) hc76 hs78 (fun L_ w_ hc_ hu_ hs_ => e_move (v := .pointer (some ⟨g2, 0, none⟩)) (by exact e36)) ?_; intro hc79 hs80
        refine xv (i := 1) (d := 36) rfl rfl rfl (by kernel_rfl) (by kernel_rfl) (fun _ _ => Iff.rfl) hc79 hs80 (fun L_ w_ hc_ hu_ hs_ => e_nilCheck (ad := ⟨g2, 0, none⟩) (by kernel_rfl)) ?_; intro hc81 hs82
        refine xv (i := 2) (d := 37) rfl rfl rfl (by kernel_rfl) (by kernel_rfl) (fun _ _ => Iff.rfl) hc81 hs82 (fun L_ w_ hc_ hu_ hs_ => e_fieldAddr (b := g2) (off := 0) (o := 0) Try.underlying34 rfl rfl (sz := 1) (by kernel_rfl) (by decide) (by kernel_rfl)) ?_; intro hc83 hs84
        refine xv (i := 3) (d := 38) rfl rfl rfl (by kernel_rfl) (by kernel_rfl) (fun _ _ => Iff.rfl) hc83 hs84 (fun L_ w_ hc_ hu_ hs_ => e_load1 (ad := ⟨g2, 0 + 0, none⟩) (v := .slice A4 x1.cells.length c5) Try.underlying32 rfl (by kernel_rfl) (blk_cell ((hs_.2 _ rfl).trans o77) rfl)) ?_; intro hc85 hs86
        refine xone (i := 4) (by kernel_rfl) hc85 ?_
        refine yo (i := 4) (d := 39) rfl rfl (wanted_none rfl _) (by kernel_rfl) (by kernel_rfl) (fun _ _ => Iff.rfl) hs86 (e_fieldAddr (b := g18) (off := 0) (o := 1) Try.underlying36 rfl rfl (sz := 1) (by kernel_rfl) (by decide) (by exact e37)) ?_; intro hc87 hs88
        refine xone (i := 5) (by kernel_rfl) hc87 ?_
        refine yo (i := 5) (d := 40) rfl rfl (wanted_none rfl _) (by kernel_rfl) (by kernel_rfl) (fun _ _ => Iff.rfl) hs88 (e_load1 (ad := ⟨g18, 0 + 1, none⟩) (v := .int .i64 x30) Try.underlying3 rfl (by kernel_rfl) (blk_cell b19 rfl)) ?_; intro hc89 hs90
        obtain ⟨b91, o92, e93⟩ := Rd.addr h6 (show (x30).toNat < x1.cells.length by omega)
        obtain ⟨y94, r95, k96⟩ := Rd.at h6 e93 (getD_some z36 (show (x30).toNat < x1.cells.length by omega))
        obtain ⟨A97, c98, rfl, l99, h100⟩ := st36_open r95
        refine xone (i := 6) (by kernel_rfl) hc89 ?_
        refine yo (i := 6) (d := 41) rfl rfl (wanted_none rfl _) (by kernel_rfl) (by kernel_rfl) (fun _ _ => Iff.rfl) hs90 (e_indexAddr (b := b91) (off := o92) (n := x1.cells.length) (c := c5) (sz := 3) (i := x30) (k := .i64) Try.underlying32 e93 (by kernel_rfl) (by kernel_rfl) (by kernel_rfl) q49 q50) ?_; intro hc101 hs102
        refine xone (i := 7) (by kernel_rfl) hc101 ?_
        refine yo (i := 7) (d := 42) rfl rfl (wanted_none rfl _) (by kernel_rfl) (by kernel_rfl) (fun _ _ => Iff.rfl) hs102 (e_loadS (b := b91) (off := o92 + (x30 : Int).toNat * 3) (cs := [.int .i64 ((x1.cells.getD ((x30).toNat) z36).kind), .int .i64 ((x1.cells.getD ((x30).toNat) z36).n), .slice A97 ((x1.cells.getD ((x30).toNat) z36).text).length c98]) Try.underlying36 rfl (by kernel_rfl) (by kernel_rfl) (fun j_ u_ e_ => (hpx (S74.inv.cell (k96 j_ u_ e_))))) ?_; intro hc103 hs104
        have S105 := S74.pull (F := (is g18)) (Fr := [(is g23), (is g2)]) 1 rfl rfl
        refine xone (i := 8) (by kernel_rfl) hc103 ?_
        refine ys (i := 8) rfl rfl (wanted_none rfl _) (by kernel_rfl) (by kernel_rfl) (e_store (g := g18) (o := 0) (v := .agg #[.int .i64 ((x1.cells.getD ((x30).toNat) z36).kind), .int .i64 ((x1.cells.getD ((x30).toNat) z36).n), .slice A97 ((x1.cells.getD ((x30).toNat) z36).text).length c98]) (cur' := #[.int .i64 ((x1.cells.getD ((x30).toNat) z36).kind), .int .i64 ((x1.cells.getD ((x30).toNat) z36).n), .slice A97 ((x1.cells.getD ((x30).toNat) z36).text).length c98]) (vs := [.int .i64 ((x1.cells.getD ((x30).toNat) z36).kind), .int .i64 ((x1.cells.getD ((x30).toNat) z36).n), .slice A97 ((x1.cells.getD ((x30).toNat) z36).text).length c98]) S105 (by exact e37) (by kernel_rfl) rfl (by kernel_rfl) b19 (Nat.le_of_ble_eq_true rfl) (List.forall_mem_cons.2 ⟨rfl, (List.forall_mem_cons.2 ⟨rfl, (List.forall_mem_cons.2 ⟨rfl, (fun _ h_ => by cases h_)⟩)⟩)⟩) rfl) ?_
        rintro hc110 w106 ⟨b107, S108, K109⟩
        replace b24 := K109.blk 0 rfl b24
        replace b3 := K109.blk 1 rfl b3
        refine ⟨⟨S108.inv, (fun b_ h_ => (K109.at 1 rfl b_ h_).trans (hs104.2 b_ h_))⟩, fun hs111 => ?_⟩
        clear b19
        refine xn (by kernel_rfl) ?_ _
        refine inb_n ?_
        refine then_n ?_
        have S112 := S108.pull (F := (is g2)) (Fr := [(is g18), (is g23)]) 2 rfl rfl
        have S113 := S112.pull (F := (is g18)) (Fr := [(is g2), (is g23)]) 1 rfl rfl
        have S114 := S113.pull (F := (is g23)) (Fr := [(is g18), (is g2)]) 2 rfl rfl
        exact ⟨k44, (by omega), _, ((x1.cells.getD ((x30).toNat) z36).kind), ((x1.cells.getD ((x30).toNat) z36).n), ((x1.cells.getD ((x30).toNat) z36).text), A97, c98, rfl, (by exact e36), (by exact e37), (by exact e38), b24, b107, b3, h100, l99, S114, M⟩
      replace M := ifn q72 M
      refine cond_f rfl (bf q72 (by kernel_rfl)) ?_
      refine wp_exit ?_
      refine then_e ?_
      refine then_e ?_
      refine inb_hit ?_
      refine then_n ?_
      refine wp_seq ?_
      refine wp_region_lit ?_
      refine lv (d := 43) rfl rfl (by kernel_rfl) (e_loadS (b := g18) (off := 0) (cs := [.int .i64 x29, .int .i64 x30, .slice A32 x31.length c33]) Try.underlying36 rfl (by kernel_rfl) (by exact e37) (blk_cells b19 rfl)) ?_
      refine lse rfl rfl (by kernel_rfl) (e_store (g := g23) (o := 0) (v := .agg #[.int .i64 x29, .int .i64 x30, .slice A32 x31.length c33]) (cur' := #[.int .i64 x29, .int .i64 x30, .slice A32 x31.length c33]) (vs := [.int .i64 x29, .int .i64 x30, .slice A32 x31.length c33]) S46 (by exact e38) (by kernel_rfl) rfl (by kernel_rfl) b24 (Nat.le_of_ble_eq_true rfl) (List.forall_mem_cons.2 ⟨rfl, (List.forall_mem_cons.2 ⟨rfl, (List.forall_mem_cons.2 ⟨rfl, (fun _ h_ => by cases h_)⟩)⟩)⟩) rfl) ?_
      rintro w115 ⟨b116, S117, K118⟩
      replace b19 := K118.blk 0 rfl b19
      replace b3 := K118.blk 1 rfl b3
      clear b24
      refine wpList_nil ?_
      refine then_n ?_
      refine wp_ret ?_
      obtain rfl := Option.some.inj M
      have S119 := S117.pull (F := (is g2)) (Fr := [(is g23), (is g18)]) 2 rfl rfl
      have S120 := St.first (Fa := [(is g2)]) (Fr := [(is g23), (is g18)]) S119
      exact retS (ty := 36) (cur := #[.int .i64 x29, .int .i64 x30, .slice A32 x31.length c33]) rfl rfl (by exact e38) b116 Try.underlying36 rfl (by kernel_rfl) ⟨A32, c33, H, rfl, b3, h34, l35, S120⟩
    replace M := ifn q61 M
    refine sskip (t := 19) (c := false) rfl (by kernel_rfl) rfl (bf q61 (by kernel_rfl)) rfl rfl ?_
    refine sskip (t := 19) (c := false) rfl (by kernel_rfl) rfl (bf q61 (by kernel_rfl)) rfl rfl ?_
    refine sskip (t := 19) (c := false) rfl (by kernel_rfl) rfl (bf q61 (by kernel_rfl)) rfl rfl ?_
    refine sskip (t := 19) (c := false) rfl (by kernel_rfl) rfl (bf q61 (by kernel_rfl)) rfl rfl ?_
    refine sskip (t := 19) (c := false) rfl (by kernel_rfl) rfl (bf q61 (by kernel_rfl)) rfl rfl ?_
    refine sskip (t := 19) (c := false) rfl (by kernel_rfl) rfl (bf q61 (by kernel_rfl)) rfl rfl ?_
    refine sskip (t := 19) (c := false) rfl (by kernel_rfl) rfl (bf q61 (by kernel_rfl)) rfl rfl ?_
    refine sskip (t := 19) (c := false) rfl (by kernel_rfl) rfl (bf q61 (by kernel_rfl)) rfl rfl ?_
    refine sskip (t := 19) (c := false) rfl (by kernel_rfl) rfl (bf q61 (by kernel_rfl)) rfl rfl ?_
    refine sskip (t := 19) (c := false) rfl (by kernel_rfl) rfl (bf q61 (by kernel_rfl)) rfl rfl ?_
    refine sskip (t := 19) (c := false) rfl (by kernel_rfl) rfl (bf q61 (by kernel_rfl)) rfl rfl ?_
    refine sskip (t := 19) (c := false) rfl (by kernel_rfl) rfl (bf q61 (by kernel_rfl)) rfl rfl ?_
    refine svg (d := 32) (t := 8) rfl (by kernel_rfl) rfl (bt q48 (by kernel_rfl)) rfl (by kernel_rfl) (e_pick_f (v := .bool false) (bf q61 (by kernel_rfl)) rfl) ?_
    refine svg (d := 33) (t := 8) rfl (by kernel_rfl) rfl (bt q48 (by kernel_rfl)) rfl (by kernel_rfl) (e_not (c := false) (by kernel_rfl)) ?_
    refine sv (d := 34) rfl rfl (by kernel_rfl) (e_pick_t (v := .bool true) (bt q48 (by kernel_rfl)) (by kernel_rfl)) ?_
    refine wpStill_nil ?_
    refine then_n ?_
    refine cond_t rfl (by kernel_rfl) ?_
    refine wp_skip ?_
    refine then_n ?_
    refine wp_block ?_
    refine region_mix (S := (fun (L_ : Array Bool) (w_ : World) => Ext H (hp w_) ∧ (∀ b_, (is g2) b_ → hp w_ b_ = hp w45 b_))) (by kernel_rfl) S46 ?_
    intro w121 S122 K123 hc124
    have o125 := b3
    have hs126 : (fun (L_ : Array Bool) (w_ : World) => Ext H (hp w_) ∧ (∀ b_, (is g2) b_ → hp w_ b_ = hp w45 b_)) (Array.replicate 9 false) w121 := ⟨S122.inv, (fun b_ h_ => K123.at 2 rfl b_ h_)⟩
    replace b24 := K123.blk 0 rfl b24
    replace b19 := K123.blk 1 rfl b19
    replace b3 := K123.blk 2 rfl b3
    refine xv (i := 0) (d := 35) rfl rfl rfl (by kernel_rfl) (by kernel_rfl) (fun _ _ => Iff.rfl) hc124 hs126 (fun L_ w_ hc_ hu_ hs_ => e_move (v := .pointer (some ⟨g2, 0, none⟩)) (by exact e36)) ?_; intro hc127 hs128
    refine xv (i := 1) (d := 36) rfl rfl rfl (by kernel_rfl) (by kernel_rfl) (fun _ _ => Iff.rfl) hc127 hs128 (fun L_ w_ hc_ hu_ hs_ => e_nilCheck (ad := ⟨g2, 0, none⟩) (by kernel_rfl)) ?_; intro hc129 hs130
    refine xv (i := 2) (d := 37) rfl rfl rfl (by kernel_rfl) (by kernel_rfl) (fun _ _ => Iff.rfl) hc129 hs130 (fun L_ w_ hc_ hu_ hs_ => e_fieldAddr (b := g2) (off := 0) (o := 0) Try.underlying34 rfl rfl (sz := 1) (by kernel_rfl) (by decide) (by kernel_rfl)) ?_; intro hc131 hs132
    refine xv (i := 3) (d := 38) rfl rfl rfl (by kernel_rfl) (by kernel_rfl) (fun _ _ => Iff.rfl) hc131 hs132 (fun L_ w_ hc_ hu_ hs_ => e_load1 (ad := ⟨g2, 0 + 0, none⟩) (v := .slice A4 x1.cells.length c5) Try.underlying32 rfl (by kernel_rfl) (blk_cell ((hs_.2 _ rfl).trans o125) rfl)) ?_; intro hc133 hs134
    refine xone (i := 4) (by kernel_rfl) hc133 ?_
    refine yo (i := 4) (d := 39) rfl rfl (wanted_none rfl _) (by kernel_rfl) (by kernel_rfl) (fun _ _ => Iff.rfl) hs134 (e_fieldAddr (b := g18) (off := 0) (o := 1) Try.underlying36 rfl rfl (sz := 1) (by kernel_rfl) (by decide) (by exact e37)) ?_; intro hc135 hs136
    refine xone (i := 5) (by kernel_rfl) hc135 ?_
    refine yo (i := 5) (d := 40) rfl rfl (wanted_none rfl _) (by kernel_rfl) (by kernel_rfl) (fun _ _ => Iff.rfl) hs136 (e_load1 (ad := ⟨g18, 0 + 1, none⟩) (v := .int .i64 x30) Try.underlying3 rfl (by kernel_rfl) (blk_cell b19 rfl)) ?_; intro hc137 hs138
    obtain ⟨b139, o140, e141⟩ := Rd.addr h6 (show (x30).toNat < x1.cells.length by omega)
    obtain ⟨y142, r143, k144⟩ := Rd.at h6 e141 (getD_some z36 (show (x30).toNat < x1.cells.length by omega))
    obtain ⟨A145, c146, rfl, l147, h148⟩ := st36_open r143
    refine xone (i := 6) (by kernel_rfl) hc137 ?_
    refine yo (i := 6) (d := 41) rfl rfl (wanted_none rfl _) (by kernel_rfl) (by kernel_rfl) (fun _ _ => Iff.rfl) hs138 (e_indexAddr (b := b139) (off := o140) (n := x1.cells.length) (c := c5) (sz := 3) (i := x30) (k := .i64) Try.underlying32 e141 (by kernel_rfl) (by kernel_rfl) (by kernel_rfl) q49 q50) ?_; intro hc149 hs150
    refine xone (i := 7) (by kernel_rfl) hc149 ?_
    refine yo (i := 7) (d := 42) rfl rfl (wanted_none rfl _) (by kernel_rfl) (by kernel_rfl) (fun _ _ => Iff.rfl) hs150 (e_loadS (b := b139) (off := o140 + (x30 : Int).toNat * 3) (cs := [.int .i64 ((x1.cells.getD ((x30).toNat) z36).kind), .int .i64 ((x1.cells.getD ((x30).toNat) z36).n), .slice A145 ((x1.cells.getD ((x30).toNat) z36).text).length c146]) Try.underlying36 rfl (by kernel_rfl) (by kernel_rfl) (fun j_ u_ e_ => (hpx (S122.inv.cell (k144 j_ u_ e_))))) ?_; intro hc151 hs152
    have S153 := S122.pull (F := (is g18)) (Fr := [(is g23), (is g2)]) 1 rfl rfl
    refine xone (i := 8) (by kernel_rfl) hc151 ?_
    refine ys (i := 8) rfl rfl (wanted_none rfl _) (by kernel_rfl) (by kernel_rfl) (e_store (g := g18) (o := 0) (v := .agg #[.int .i64 ((x1.cells.getD ((x30).toNat) z36).kind), .int .i64 ((x1.cells.getD ((x30).toNat) z36).n), .slice A145 ((x1.cells.getD ((x30).toNat) z36).text).length c146]) (cur' := #[.int .i64 ((x1.cells.getD ((x30).toNat) z36).kind), .int .i64 ((x1.cells.getD ((x30).toNat) z36).n), .slice A145 ((x1.cells.getD ((x30).toNat) z36).text).length c146]) (vs := [.int .i64 ((x1.cells.getD ((x30).toNat) z36).kind), .int .i64 ((x1.cells.getD ((x30).toNat) z36).n), .slice A145 ((x1.cells.getD ((x30).toNat) z36).text).length c146]) S153 (by exact e37) (by kernel_rfl) rfl (by kernel_rfl) b19 (Nat.le_of_ble_eq_true rfl) (List.forall_mem_cons.2 ⟨rfl, (List.forall_mem_cons.2 ⟨rfl, (List.forall_mem_cons.2 ⟨rfl, (fun _ h_ => by cases h_)⟩)⟩)⟩) rfl) ?_
    rintro hc158 w154 ⟨b155, S156, K157⟩
    replace b24 := K157.blk 0 rfl b24
    replace b3 := K157.blk 1 rfl b3
    refine ⟨⟨S156.inv, (fun b_ h_ => (K157.at 1 rfl b_ h_).trans (hs152.2 b_ h_))⟩, fun hs159 => ?_⟩
    clear b19
    refine xn (by kernel_rfl) ?_ _
    refine inb_n ?_
    refine then_n ?_
    have S160 := S156.pull (F := (is g2)) (Fr := [(is g18), (is g23)]) 2 rfl rfl
    have S161 := S160.pull (F := (is g18)) (Fr := [(is g2), (is g23)]) 1 rfl rfl
    have S162 := S161.pull (F := (is g23)) (Fr := [(is g18), (is g2)]) 2 rfl rfl
    exact ⟨k44, (by omega), _, ((x1.cells.getD ((x30).toNat) z36).kind), ((x1.cells.getD ((x30).toNat) z36).n), ((x1.cells.getD ((x30).toNat) z36).text), A145, c146, rfl, (by exact e36), (by exact e37), (by exact e38), b24, b155, b3, h148, l147, S162, M⟩
  replace M := ifn q48 M
  refine sskip (t := 8) (c := false) rfl (by kernel_rfl) rfl (bf q48 (by kernel_rfl)) rfl rfl ?_
  refine sskip (t := 8) (c := false) rfl (by kernel_rfl) rfl (bf q48 (by kernel_rfl)) rfl rfl ?_
  refine sskip (t := 8) (c := false) rfl (by kernel_rfl) rfl (bf q48 (by kernel_rfl)) rfl rfl ?_
  refine sskip (t := 8) (c := false) rfl (by kernel_rfl) rfl (bf q48 (by kernel_rfl)) rfl rfl ?_
  refine sskip (t := 8) (c := false) rfl (by kernel_rfl) rfl (bf q48 (by kernel_rfl)) rfl rfl ?_
  refine sskip (t := 8) (c := false) rfl (by kernel_rfl) rfl (bf q48 (by kernel_rfl)) rfl rfl ?_
  refine sskip (t := 8) (c := false) rfl (by kernel_rfl) rfl (bf q48 (by kernel_rfl)) rfl rfl ?_
  refine sskip (t := 8) (c := false) rfl (by kernel_rfl) rfl (bf q48 (by kernel_rfl)) rfl rfl ?_
  refine sskip (t := 8) (c := false) rfl (by kernel_rfl) rfl (bf q48 (by kernel_rfl)) rfl rfl ?_
  refine sskip (t := 8) (c := false) rfl (by kernel_rfl) rfl (bf q48 (by kernel_rfl)) rfl rfl ?_
  refine sskip (t := 8) (c := false) rfl (by kernel_rfl) rfl (bf q48 (by kernel_rfl)) rfl rfl ?_
  refine sskipu (t := 19) rfl (by kernel_rfl) rfl (by kernel_rfl) rfl ?_
  refine sskipu (t := 19) rfl (by kernel_rfl) rfl (by kernel_rfl) rfl ?_
  refine sskipu (t := 19) rfl (by kernel_rfl) rfl (by kernel_rfl) rfl ?_
  refine sskipu (t := 19) rfl (by kernel_rfl) rfl (by kernel_rfl) rfl ?_
  refine sskipu (t := 19) rfl (by kernel_rfl) rfl (by kernel_rfl) rfl ?_
  refine sskipu (t := 19) rfl (by kernel_rfl) rfl (by kernel_rfl) rfl ?_
  refine sskipu (t := 19) rfl (by kernel_rfl) rfl (by kernel_rfl) rfl ?_
  refine sskipu (t := 19) rfl (by kernel_rfl) rfl (by kernel_rfl) rfl ?_
  refine sskipu (t := 19) rfl (by kernel_rfl) rfl (by kernel_rfl) rfl ?_
  refine sskipu (t := 19) rfl (by kernel_rfl) rfl (by kernel_rfl) rfl ?_
  refine sskipu (t := 19) rfl (by kernel_rfl) rfl (by kernel_rfl) rfl ?_
  refine sskipu (t := 19) rfl (by kernel_rfl) rfl (by kernel_rfl) rfl ?_
  refine sskip (t := 8) (c := false) rfl (by kernel_rfl) rfl (bf q48 (by kernel_rfl)) rfl rfl ?_
  refine sskip (t := 8) (c := false) rfl (by kernel_rfl) rfl (bf q48 (by kernel_rfl)) rfl rfl ?_
  refine sv (d := 34) rfl rfl (by kernel_rfl) (e_pick_f (v := .bool false) (bf q48 (by kernel_rfl)) rfl) ?_
  refine wpStill_nil ?_
  refine then_n ?_
  refine cond_f rfl (by kernel_rfl) ?_
  refine wp_exit ?_
  refine then_e ?_
  refine then_e ?_
  refine inb_hit ?_
  refine then_n ?_
  refine wp_seq ?_
  refine wp_region_lit ?_
  refine lv (d := 43) rfl rfl (by kernel_rfl) (e_loadS (b := g18) (off := 0) (cs := [.int .i64 x29, .int .i64 x30, .slice A32 x31.length c33]) Try.underlying36 rfl (by kernel_rfl) (by exact e37) (blk_cells b19 rfl)) ?_
  refine lse rfl rfl (by kernel_rfl) (e_store (g := g23) (o := 0) (v := .agg #[.int .i64 x29, .int .i64 x30, .slice A32 x31.length c33]) (cur' := #[.int .i64 x29, .int .i64 x30, .slice A32 x31.length c33]) (vs := [.int .i64 x29, .int .i64 x30, .slice A32 x31.length c33]) S46 (by exact e38) (by kernel_rfl) rfl (by kernel_rfl) b24 (Nat.le_of_ble_eq_true rfl) (List.forall_mem_cons.2 ⟨rfl, (List.forall_mem_cons.2 ⟨rfl, (List.forall_mem_cons.2 ⟨rfl, (fun _ h_ => by cases h_)⟩)⟩)⟩) rfl) ?_
  rintro w163 ⟨b164, S165, K166⟩
  replace b19 := K166.blk 0 rfl b19
  replace b3 := K166.blk 1 rfl b3
  clear b24
  refine wpList_nil ?_
  refine then_n ?_
  refine wp_ret ?_
  obtain rfl := Option.some.inj M
  have S167 := S165.pull (F := (is g2)) (Fr := [(is g23), (is g18)]) 2 rfl rfl
  have S168 := St.first (Fa := [(is g2)]) (Fr := [(is g23), (is g18)]) S167
  exact retS (ty := 36) (cur := #[.int .i64 x29, .int .i64 x30, .slice A32 x31.length c33]) rfl rfl (by exact e38) b164 Try.underlying36 rfl (by kernel_rfl) ⟨A32, c33, H, rfl, b3, h34, l35, S168⟩

/-! impl_Store_term -/
mutual
def impl_Store_term_2.l0 : Nat → Store → Int → Cell → (List Cell) → Int → Option ((List Cell) × Bool)
  | 0, _, _, _, _, _ => none
  | k263 + 1, x1, x22, t29, x246, x251 => (if x251 ≤ ((x1.cells.getD ((t29.n).toNat) z36).n) then (if 0 ≤ (IntKind.i64.wrap (t29.n + x251)) then (if (IntKind.i64.wrap (t29.n + x251)) < (x1.cells.length : Int) then ((impl_Store_term_2.f k263 x1 (x1.cells.getD (((IntKind.i64.wrap (t29.n + x251))).toNat) z36) x246 x22).bind fun t316 => (if ¬ (t316.2 = true) then some ([], false) else (impl_Store_term_2.l0 k263 x1 x22 t29 t316.1 (IntKind.i64.wrap (x251 + 1))))) else none) else none) else some (x246, true))
def impl_Store_term_2.f : Nat → Store → Cell → (List Cell) → Int → Option ((List Cell) × Bool)
  | 0, _, _, _, _ => none
  | k1_ + 1, x1, x12, x17, x22 => ((impl_Store_deref.f k1_ x1 x12).bind fun t29 => (if (x17.length : Int) ≥ x22 then some ([], false) else (if t29.kind = 0 then (if x17.length + 1 ≤ 3518437208883 then some ((x17 ++ [(⟨0, t29.n, []⟩ : Cell)]), true) else none) else (if t29.kind = 1 then (if x17.length + 1 ≤ 3518437208883 then some ((x17 ++ [(⟨1, t29.n, []⟩ : Cell)]), true) else none) else (if t29.kind = 2 then (if 0 + t29.text.length ≤ 140737488355328 then (if x17.length + 1 ≤ 3518437208883 then some ((x17 ++ [(⟨2, 0, (([] : List UInt8) ++ t29.text)⟩ : Cell)]), true) else none) else none) else (if 0 ≤ t29.n then (if t29.n < (x1.cells.length : Int) then (if 0 + ((x1.cells.getD ((t29.n).toNat) z36).text).length ≤ 140737488355328 then (if x17.length + 1 ≤ 3518437208883 then (impl_Store_term_2.l0 k1_ x1 x22 t29 (x17 ++ [(⟨3, (x1.cells.getD ((t29.n).toNat) z36).n, (([] : List UInt8) ++ ((x1.cells.getD ((t29.n).toNat) z36).text))⟩ : Cell)]) 1) else none) else none) else none) else none))))))
end
theorem impl_Store_term_2.all : ∀ (K : Nat), (∀ (k : Nat), k < K → ∀ (w : World) (H : Hp) (x1 : Store) (g2 : Nat) (A4 : Option Addr) (c5 : Nat) (A8 : Option Addr) (c9 : Nat) (x12 : Cell) (A13 : Option Addr) (c14 : Nat) (x17 : List Cell) (A18 : Option Addr) (c19 : Nat) (F21 : Foot) (x22 : Int) (h6 : Rd st36 H A4 x1.cells) (l7 : x1.cells.length ≤ c5) (h10 : Rd tInt H A8 x1.trail) (l11 : x1.trail.length ≤ c9) (b3 : w.heap[g2]? = some (.cells #[.slice A4 x1.cells.length c5, .slice A8 x1.trail.length c9] 34 (0, 0))) (h15 : Rd tByte H A13 x12.text) (l16 : x12.text.length ≤ c14) (h20 : Row st36 36 H (hp w) F21 A18 c19 x17) (S : Own [(is g2), F21] H w) (r : (List Cell) × Bool) (M : impl_Store_term_2.f k x1 x12 x17 x22 = some r), Calls Try.prog 55 #[.pointer (some ⟨g2, 0, none⟩), .agg #[.int .i64 x12.kind, .int .i64 x12.n, .slice A13 x12.text.length c14], .slice A18 x17.length c19, .int .i64 x22] w (fun e e_w => ∃ (A_1 : Option Addr) (c_1 : Nat) (F_1 : Foot) (H_ : Hp), e = .returned (.tuple #[.slice A_1 r.1.length c_1, .bool r.2]) ∧ e_w.heap[g2]? = some (.cells #[.slice A4 x1.cells.length c5, .slice A8 x1.trail.length c9] 34 (0, 0)) ∧ Row st36 36 H_ (hp e_w) F_1 A_1 c_1 r.1 ∧ St (anyOf [(is g2), F21]) H w [(is g2), F_1] H_ e_w)) := by
  intro K
  induction K with
  | zero => intro k hk; omega
  | succ K ih =>
    intro k hk w H x1 g2 A4 c5 A8 c9 x12 A13 c14 x17 A18 c19 F21 x22 h6 l7 h10 l11 b3 h15 l16 h20 S r M
    rcases k with _ | k1_
    · rw [impl_Store_term_2.f] at M
      cases M
    rw [impl_Store_term_2.f] at M
    refine enter (l := [.pointer (some ⟨g2, 0, none⟩), .agg #[.int .i64 x12.kind, .int .i64 x12.n, .slice A13 x12.text.length c14], .slice A18 x17.length c19, .int .i64 x22]) 92 Try.func55 rfl rfl rfl ?_
    have S0_ := S.st
    refine wp_seq ?_
    refine wp_region_lit ?_
    refine lve (d := 5) rfl rfl (by kernel_rfl) (new_blk (v := fun g_ => .pointer (some ⟨g_, 0, none⟩)) (cs := #[.int .i64 x12.kind, .int .i64 x12.n, .slice A13 x12.text.length c14]) (t := 36) S0_ (by kernel_rfl)) ?_
    rintro _ w23 ⟨g24, rfl, b25, S26, K27⟩
    replace b3 := K27.blk 0 rfl b3
    replace h20 := h20.move (K27.at 1 rfl)
    refine lv (d := 8) rfl rfl (by kernel_rfl) (e_assign (v := .slice none 0 0) rfl) ?_
    refine lv (d := 9) rfl rfl (by kernel_rfl) (e_assign (v := .bool false) rfl) ?_
    refine wpList_nil ?_
    refine then_n ?_
    refine wp_seq ?_
    refine wp_region_lit ?_
    refine lv (d := 13) rfl rfl (by kernel_rfl) (e_move (v := .pointer (some ⟨g2, 0, none⟩)) (by kernel_rfl)) ?_
    refine lv (d := 14) rfl rfl (by kernel_rfl) (e_loadS (b := g24) (off := 0) (cs := [.int .i64 x12.kind, .int .i64 x12.n, .slice A13 x12.text.length c14]) Try.underlying36 rfl (by kernel_rfl) (by kernel_rfl) (blk_cells b25 rfl)) ?_
    have S28 := S26.pull (F := (is g2)) (Fr := [(is g24), F21]) 1 rfl rfl
    obtain ⟨t29, u30, M⟩ := bnd M
    refine lcall (d := 15) rfl rfl (by kernel_rfl) (e_call (l := [.tmp 13, .tmp 14]) (vs := [.pointer (some ⟨g2, 0, none⟩), .agg #[.int .i64 x12.kind, .int .i64 x12.n, .slice A13 x12.text.length c14]]) Try.func50 (by kernel_rfl) rfl (by kernel_rfl) rfl) (impl_Store_deref.calls k1_ w23 H x1 g2 A4 c5 A8 c9 x12 A13 c14 h6 l7 h10 l11 b3 h15 l16 (St.own' (Fa := [(is g2)]) (Fr := [(is g24), F21]) S28) t29 u30) ?_
    rintro _ w31 ⟨A35, c36, H32, rfl, b34, h37, l38, T33⟩
    refine ⟨_, rfl, ?_⟩
    obtain ⟨S39, K40⟩ := St.call (Fa := [(is g2)]) (Fr := [(is g24), F21]) S28 T33
    replace b25 := K40.blk 0 rfl b25
    replace h20 := h20.move (K40.at 1 rfl)
    have E41 := T33.ext
    replace h20 := h20.ext E41
    have S42 := S39.pull (F := (is g24)) (Fr := [(is g2), F21]) 1 rfl rfl
    refine lse rfl rfl (by kernel_rfl) (e_store (g := g24) (o := 0) (v := .agg #[.int .i64 t29.kind, .int .i64 t29.n, .slice A35 t29.text.length c36]) (cur' := #[.int .i64 t29.kind, .int .i64 t29.n, .slice A35 t29.text.length c36]) (vs := [.int .i64 t29.kind, .int .i64 t29.n, .slice A35 t29.text.length c36]) S42 (by kernel_rfl) (by kernel_rfl) rfl (by kernel_rfl) b25 (Nat.le_of_ble_eq_true rfl) (List.forall_mem_cons.2 ⟨rfl, (List.forall_mem_cons.2 ⟨rfl, (List.forall_mem_cons.2 ⟨rfl, (fun _ h_ => by cases h_)⟩)⟩)⟩) rfl) ?_
    rintro w43 ⟨b44, S45, K46⟩
    replace b34 := K46.blk 0 rfl b34
    replace h20 := h20.move (K46.at 1 rfl)
    clear b25
    refine wpList_nil ?_
    refine then_n ?_
    refine wp_seq ?_
    refine wp_seq ?_
    refine wp_region_lit ?_
    refine lv (d := 16) rfl rfl (by kernel_rfl) (e_move (v := .slice A18 x17.length c19) (by kernel_rfl)) ?_
    refine lv (d := 17) rfl rfl (by kernel_rfl) (e_len (A := A18) (n := x17.length) (c := c19) Try.underlying32 (by kernel_rfl)) ?_
    refine lv (d := 18) rfl rfl (by kernel_rfl) (e_move (v := .int .i64 x22) (by kernel_rfl)) ?_
    refine lv (d := 19) rfl rfl (by kernel_rfl) (e_geq (k := .i64) (a := (x17.length : Int)) (b := x22) (by kernel_rfl) (by kernel_rfl)) ?_
    refine wpList_nil ?_
    refine then_n ?_
    by_cases q47 : (x17.length : Int) ≥ x22
    · replace M := ifp q47 M
      refine cond_t rfl (bt q47 (by kernel_rfl)) ?_
      refine wp_seq ?_
      refine wp_region_lit ?_
      refine lv (d := 8) rfl rfl (by kernel_rfl) (e_assign (v := .slice none 0 0) rfl) ?_
      refine lv (d := 9) rfl rfl (by kernel_rfl) (e_assign (v := .bool false) rfl) ?_
      refine wpList_nil ?_
      refine then_n ?_
      refine wp_ret ?_
      refine then_r ?_
      obtain rfl := Option.some.inj M
      have S48 := S45.unit
      have S49 := S48.pull (F := (is g2)) (Fr := [no, (is g24), F21]) 2 rfl rfl
      have S50 := St.first (Fa := [(is g2), no]) (Fr := [(is g24), F21]) S49
      exact ret2 rfl rfl rfl (show _ = .slice none 0 0 from (by kernel_rfl)) (show _ = .bool false from (by kernel_rfl)) ⟨none, 0, no, H32, rfl, b34, (Row.nil _ _ _ _ no), S50⟩
    replace M := ifn q47 M
    refine cond_f rfl (bf q47 (by kernel_rfl)) ?_
    refine wp_skip ?_
    refine then_n ?_
    refine wp_seq ?_
    refine wp_seq ?_
    refine wp_region_lit ?_
    refine lv (d := 20) rfl rfl (by kernel_rfl) (e_fieldAddr (b := g24) (off := 0) (o := 0) Try.underlying36 rfl rfl (sz := 1) (by kernel_rfl) (by decide) (by kernel_rfl)) ?_
    refine lv (d := 21) rfl rfl (by kernel_rfl) (e_load1 (ad := ⟨g24, 0 + 0, none⟩) (v := .int .i64 t29.kind) Try.underlying3 rfl (by kernel_rfl) (blk_cell b44 rfl)) ?_
    refine wpList_nil ?_
    refine then_n ?_
    refine wp_block ?_
    refine wp_seq ?_
    refine wp_region_lit ?_
    refine lv (d := 23) rfl rfl (by kernel_rfl) (e_eql (k := .i64) (a := t29.kind) (b := 0) (by kernel_rfl) rfl) ?_
    refine lv (d := 22) rfl rfl (by kernel_rfl) (e_assign (v := .bool (decide (t29.kind = 0))) (by kernel_rfl)) ?_
    refine wpList_nil ?_
    refine then_n ?_
    by_cases q51 : t29.kind = 0
    · replace M := ifp q51 M
      refine cond_t rfl (bt q51 (by kernel_rfl)) ?_
      refine wp_seq ?_
      refine wp_region_lit ?_
      refine lv (d := 24) rfl rfl (by kernel_rfl) (e_move (v := .slice A18 x17.length c19) (by kernel_rfl)) ?_
      refine lv (d := 25) rfl rfl (by kernel_rfl) (e_fieldAddr (b := g24) (off := 0) (o := 1) Try.underlying36 rfl rfl (sz := 1) (by kernel_rfl) (by decide) (by kernel_rfl)) ?_
      refine lv (d := 26) rfl rfl (by kernel_rfl) (e_load1 (ad := ⟨g24, 0 + 1, none⟩) (v := .int .i64 t29.n) Try.underlying3 rfl (by kernel_rfl) (blk_cell b44 rfl)) ?_
      refine lv (d := 27) rfl rfl (by kernel_rfl) (show _ = Result.ok (Next.value (.agg #[.int .i64 0, .int .i64 t29.n, .slice none 0 0])) w43 from by kernel_rfl) ?_
      refine lve (d := 28) rfl rfl (by kernel_rfl) (new_blk (v := fun g_ => .slice (some ⟨g_, 0, none⟩) 1 1) (cs := #[.int .i64 0, .int .i64 t29.n, .slice none 0 0]) (t := 36) S45 (by kernel_rfl)) ?_
      rintro _ w52 ⟨g53, rfl, b54, S55, K56⟩
      replace b44 := K56.blk 0 rfl b44
      replace b34 := K56.blk 1 rfl b34
      replace h20 := h20.move (K56.at 2 rfl)
      obtain ⟨q57, M⟩ := chk M
      have S58 := S55.pull (F := F21) (Fr := [(is g53), (is g24), (is g2)]) 3 rfl rfl
      have S59 := S58.unit
      have S60 := S59.pull (F := F21) (Fr := [no, (is g53), (is g24), (is g2)]) 1 rfl rfl
      refine lve (d := 29) rfl rfl (by kernel_rfl) (e_append (d := st36) (n := x17.length) (xs := x17) (cap := c19) (A := A18) (ys := [(⟨0, t29.n, []⟩ : Cell)]) (A2 := (some ⟨g53, 0, none⟩)) (c2 := 1) (z := .agg #[.int .i64 0, .int .i64 0, .slice none 0 0]) (bytes := 40) S60 Try.underlying32 (by kernel_rfl) rfl (by decide) (by kernel_rfl) rfl (by kernel_rfl) h20 (elsO_one1 (st36_mkO (x := (⟨0, t29.n, []⟩ : Cell)) (Row.nil _ _ _ _ no))) (.inr (blk_news b54 rfl)) (show (x17.length + [(⟨0, t29.n, []⟩ : Cell)].length) * 40 ≤ _ by first | omega | (simp only [List.length_cons, List.length_nil]; omega)) (by decide)) ?_
      rintro _ w61 ⟨A62, c63, F64, rfl, h65, S66, K67⟩
      replace b54 := K67.blk 0 rfl b54
      replace b44 := K67.blk 1 rfl b44
      replace b34 := K67.blk 2 rfl b34
      refine lv (d := 8) rfl rfl (by kernel_rfl) (e_assign (v := .slice A62 ((x17 ++ [(⟨0, t29.n, []⟩ : Cell)]).length) c63) (by kernel_rfl)) ?_
      refine lv (d := 9) rfl rfl (by kernel_rfl) (e_assign (v := .bool true) rfl) ?_
      refine wpList_nil ?_
      refine then_n ?_
      refine wp_ret ?_
      refine inb_r ?_
      refine then_r ?_
      obtain rfl := Option.some.inj M
      have S68 := S66.pull (F := (is g2)) (Fr := [F64, (is g53), (is g24)]) 3 rfl rfl
      have S69 := St.first (Fa := [(is g2), F64]) (Fr := [(is g53), (is g24)]) S68
      exact ret2 rfl rfl rfl (show _ = .slice A62 ((x17 ++ [(⟨0, t29.n, []⟩ : Cell)]).length) c63 from (by kernel_rfl)) (show _ = .bool true from (by kernel_rfl)) ⟨A62, c63, F64, H32, rfl, b34, h65, S69⟩
    replace M := ifn q51 M
    refine cond_f rfl (bf q51 (by kernel_rfl)) ?_
    refine wp_seq ?_
    refine wp_region_lit ?_
    refine lv (d := 31) rfl rfl (by kernel_rfl) (e_eql (k := .i64) (a := t29.kind) (b := 1) (by kernel_rfl) rfl) ?_
    refine lv (d := 30) rfl rfl (by kernel_rfl) (e_assign (v := .bool (decide (t29.kind = 1))) (by kernel_rfl)) ?_
    refine wpList_nil ?_
    refine then_n ?_
    by_cases q70 : t29.kind = 1
    · replace M := ifp q70 M
      refine cond_t rfl (bt q70 (by kernel_rfl)) ?_
      refine wp_seq ?_
      refine wp_region_lit ?_
      refine lv (d := 32) rfl rfl (by kernel_rfl) (e_move (v := .slice A18 x17.length c19) (by kernel_rfl)) ?_
      refine lv (d := 33) rfl rfl (by kernel_rfl) (e_fieldAddr (b := g24) (off := 0) (o := 1) Try.underlying36 rfl rfl (sz := 1) (by kernel_rfl) (by decide) (by kernel_rfl)) ?_
      refine lv (d := 34) rfl rfl (by kernel_rfl) (e_load1 (ad := ⟨g24, 0 + 1, none⟩) (v := .int .i64 t29.n) Try.underlying3 rfl (by kernel_rfl) (blk_cell b44 rfl)) ?_
      refine lv (d := 35) rfl rfl (by kernel_rfl) (show _ = Result.ok (Next.value (.agg #[.int .i64 1, .int .i64 t29.n, .slice none 0 0])) w43 from by kernel_rfl) ?_
      refine lve (d := 36) rfl rfl (by kernel_rfl) (new_blk (v := fun g_ => .slice (some ⟨g_, 0, none⟩) 1 1) (cs := #[.int .i64 1, .int .i64 t29.n, .slice none 0 0]) (t := 36) S45 (by kernel_rfl)) ?_
      rintro _ w71 ⟨g72, rfl, b73, S74, K75⟩
      replace b44 := K75.blk 0 rfl b44
      replace b34 := K75.blk 1 rfl b34
      replace h20 := h20.move (K75.at 2 rfl)
      obtain ⟨q76, M⟩ := chk M
      have S77 := S74.pull (F := F21) (Fr := [(is g72), (is g24), (is g2)]) 3 rfl rfl
      have S78 := S77.unit
      have S79 := S78.pull (F := F21) (Fr := [no, (is g72), (is g24), (is g2)]) 1 rfl rfl
      refine lve (d := 37) rfl rfl (by kernel_rfl) (e_append (d := st36) (n := x17.length) (xs := x17) (cap := c19) (A := A18) (ys := [(⟨1, t29.n, []⟩ : Cell)]) (A2 := (some ⟨g72, 0, none⟩)) (c2 := 1) (z := .agg #[.int .i64 0, .int .i64 0, .slice none 0 0]) (bytes := 40) S79 Try.underlying32 (by kernel_rfl) rfl (by decide) (by kernel_rfl) rfl (by kernel_rfl) h20 (elsO_one1 (st36_mkO (x := (⟨1, t29.n, []⟩ : Cell)) (Row.nil _ _ _ _ no))) (.inr (blk_news b73 rfl)) (show (x17.length + [(⟨1, t29.n, []⟩ : Cell)].length) * 40 ≤ _ by first | omega | (simp only [List.length_cons, List.length_nil]; omega)) (by decide)) ?_
      rintro _ w80 ⟨A81, c82, F83, rfl, h84, S85, K86⟩
      replace b73 := K86.blk 0 rfl b73
      replace b44 := K86.blk 1 rfl b44
      replace b34 := K86.blk 2 rfl b34
      refine lv (d := 8) rfl rfl (by kernel_rfl) (e_assign (v := .slice A81 ((x17 ++ [(⟨1, t29.n, []⟩ : Cell)]).length) c82) (by kernel_rfl)) ?_
      refine lv (d := 9) rfl rfl (by kernel_rfl) (e_assign (v := .bool true) rfl) ?_
      refine wpList_nil ?_
      refine then_n ?_
      refine wp_ret ?_
      refine inb_r ?_
      refine then_r ?_
      obtain rfl := Option.some.inj M
      have S87 := S85.pull (F := (is g2)) (Fr := [F83, (is g72), (is g24)]) 3 rfl rfl
      have S88 := St.first (Fa := [(is g2), F83]) (Fr := [(is g72), (is g24)]) S87
      exact ret2 rfl rfl rfl (show _ = .slice A81 ((x17 ++ [(⟨1, t29.n, []⟩ : Cell)]).length) c82 from (by kernel_rfl)) (show _ = .bool true from (by kernel_rfl)) ⟨A81, c82, F83, H32, rfl, b34, h84, S88⟩
    replace M := ifn q70 M
    refine cond_f rfl (bf q70 (by kernel_rfl)) ?_
    refine wp_seq ?_
    refine wp_region_lit ?_
    refine lv (d := 39) rfl rfl (by kernel_rfl) (e_eql (k := .i64) (a := t29.kind) (b := 2) (by kernel_rfl) rfl) ?_
    refine lv (d := 38) rfl rfl (by kernel_rfl) (e_assign (v := .bool (decide (t29.kind = 2))) (by kernel_rfl)) ?_
    refine wpList_nil ?_
    refine then_n ?_
    by_cases q89 : t29.kind = 2
    · replace M := ifp q89 M
      refine cond_t rfl (bt q89 (by kernel_rfl)) ?_
      refine wp_seq ?_
      refine wp_region_lit ?_
      refine lv (d := 40) rfl rfl (by kernel_rfl) (e_move (v := .slice A18 x17.length c19) (by kernel_rfl)) ?_
      refine lve (d := 41) rfl rfl (by kernel_rfl) (new_blk (v := fun g_ => .slice (some ⟨g_, 0, none⟩) 0 0) (cs := #[]) (t := 5) S45 (by kernel_rfl)) ?_
      rintro _ w90 ⟨g91, rfl, b92, S93, K94⟩
      replace b44 := K94.blk 0 rfl b44
      replace b34 := K94.blk 1 rfl b34
      replace h20 := h20.move (K94.at 2 rfl)
      have S95 := S93.unit
      have S96 := S95.pull (F := (is g91)) (Fr := [no, (is g24), (is g2), F21]) 1 rfl rfl
      obtain ⟨h97, S98⟩ := row_lit (d := tByte) (xs := ([] : List UInt8)) S96 b92 rfl (elsO_nil _ _ _ no) (Nat.le_of_ble_eq_true rfl)
      refine lv (d := 42) rfl rfl (by kernel_rfl) (e_fieldAddr (b := g24) (off := 0) (o := 2) Try.underlying36 rfl rfl (sz := 1) (by kernel_rfl) (by decide) (by kernel_rfl)) ?_
      refine lv (d := 43) rfl rfl (by kernel_rfl) (e_load1 (ad := ⟨g24, 0 + 2, none⟩) (v := .slice A35 t29.text.length c36) Try.underlying26 rfl (by kernel_rfl) (blk_cell b44 rfl)) ?_
      obtain ⟨y99, h100, h101⟩ := Rd.news (d := tByte) (ro_scal _ _) S98 h37
      obtain ⟨q102, M⟩ := chk M
      have S103 := S98.unit
      have S104 := S103.pull (F := (or2 (is g91) no)) (Fr := [no, (is g24), (is g2), F21]) 1 rfl rfl
      refine lve (d := 44) rfl rfl (by kernel_rfl) (e_append (d := tByte) (n := 0) (xs := ([] : List UInt8)) (cap := 0) (A := (some ⟨g91, 0, none⟩)) (ys := t29.text) (A2 := A35) (c2 := c36) (z := .int .u8 0) (bytes := 1) S104 Try.underlying26 (by kernel_rfl) rfl (by decide) (by kernel_rfl) rfl (by kernel_rfl) h97 h100 h101 (show (0 + t29.text.length) * 1 ≤ _ by first | omega | (simp only [List.length_cons, List.length_nil]; omega)) (by decide)) ?_
      rintro _ w105 ⟨A106, c107, F108, rfl, h109, S110, K111⟩
      replace b44 := K111.blk 0 rfl b44
      replace b34 := K111.blk 1 rfl b34
      replace h20 := h20.move (K111.at 2 rfl)
      refine lv (d := 45) rfl rfl (by kernel_rfl) (show _ = Result.ok (Next.value (.agg #[.int .i64 2, .int .i64 0, .slice A106 ((([] : List UInt8) ++ t29.text).length) c107])) w105 from by kernel_rfl) ?_
      refine lve (d := 46) rfl rfl (by kernel_rfl) (new_blk (v := fun g_ => .slice (some ⟨g_, 0, none⟩) 1 1) (cs := #[.int .i64 2, .int .i64 0, .slice A106 ((([] : List UInt8) ++ t29.text).length) c107]) (t := 36) S110 (by kernel_rfl)) ?_
      rintro _ w112 ⟨g113, rfl, b114, S115, K116⟩
      replace h109 := h109.move (K116.at 0 rfl)
      replace b44 := K116.blk 1 rfl b44
      replace b34 := K116.blk 2 rfl b34
      replace h20 := h20.move (K116.at 3 rfl)
      obtain ⟨q117, M⟩ := chk M
      have S118 := S115.pull (F := F108) (Fr := [(is g113), (is g24), (is g2), F21]) 1 rfl rfl
      have S119 := S118.pull (F := F21) (Fr := [F108, (is g113), (is g24), (is g2)]) 4 rfl rfl
      refine lve (d := 47) rfl rfl (by kernel_rfl) (e_append (d := st36) (n := x17.length) (xs := x17) (cap := c19) (A := A18) (ys := [(⟨2, 0, (([] : List UInt8) ++ t29.text)⟩ : Cell)]) (A2 := (some ⟨g113, 0, none⟩)) (c2 := 1) (z := .agg #[.int .i64 0, .int .i64 0, .slice none 0 0]) (bytes := 40) S119 Try.underlying32 (by kernel_rfl) rfl (by decide) (by kernel_rfl) rfl (by kernel_rfl) h20 (elsO_one1 (st36_mkO (x := (⟨2, 0, (([] : List UInt8) ++ t29.text)⟩ : Cell)) h109)) (.inr (blk_news b114 rfl)) (show (x17.length + [(⟨2, 0, (([] : List UInt8) ++ t29.text)⟩ : Cell)].length) * 40 ≤ _ by first | omega | (simp only [List.length_cons, List.length_nil]; omega)) (by decide)) ?_
      rintro _ w120 ⟨A121, c122, F123, rfl, h124, S125, K126⟩
      replace b114 := K126.blk 0 rfl b114
      replace b44 := K126.blk 1 rfl b44
      replace b34 := K126.blk 2 rfl b34
      refine lv (d := 8) rfl rfl (by kernel_rfl) (e_assign (v := .slice A121 ((x17 ++ [(⟨2, 0, (([] : List UInt8) ++ t29.text)⟩ : Cell)]).length) c122) (by kernel_rfl)) ?_
      refine lv (d := 9) rfl rfl (by kernel_rfl) (e_assign (v := .bool true) rfl) ?_
      refine wpList_nil ?_
      refine then_n ?_
      refine wp_ret ?_
      refine inb_r ?_
      refine then_r ?_
      obtain rfl := Option.some.inj M
      have S127 := S125.pull (F := (is g2)) (Fr := [F123, (is g113), (is g24)]) 3 rfl rfl
      have S128 := St.first (Fa := [(is g2), F123]) (Fr := [(is g113), (is g24)]) S127
      exact ret2 rfl rfl rfl (show _ = .slice A121 ((x17 ++ [(⟨2, 0, (([] : List UInt8) ++ t29.text)⟩ : Cell)]).length) c122 from (by kernel_rfl)) (show _ = .bool true from (by kernel_rfl)) ⟨A121, c122, F123, H32, rfl, b34, h124, S128⟩
    replace M := ifn q89 M
    refine cond_f rfl (bf q89 (by kernel_rfl)) ?_
    refine wp_skip ?_
    refine inb_n ?_
    refine then_n ?_
    refine wp_seq ?_
    refine region_mix (S := (fun (L_ : Array Bool) (w_ : World) => Ext H32 (hp w_) ∧ (∀ b_, (is g24) b_ → hp w_ b_ = hp w43 b_) ∧ (∀ b_, (is g2) b_ → hp w_ b_ = hp w43 b_))) (by kernel_rfl) S45 ?_
    intro w129 S130 K131 hc132
    have o133 := b44
    have o134 := b34
    have hs135 : (fun (L_ : Array Bool) (w_ : World) => Ext H32 (hp w_) ∧ (∀ b_, (is g24) b_ → hp w_ b_ = hp w43 b_) ∧ (∀ b_, (is g2) b_ → hp w_ b_ = hp w43 b_)) (Array.replicate 10 false) w129 := ⟨S130.inv, (fun b_ h_ => K131.at 0 rfl b_ h_), (fun b_ h_ => K131.at 1 rfl b_ h_)⟩
    replace b44 := K131.blk 0 rfl b44
    replace b34 := K131.blk 1 rfl b34
    replace h20 := h20.move (K131.at 2 rfl)
    refine xv (i := 0) (d := 48) rfl rfl rfl (by kernel_rfl) (by kernel_rfl) (fun _ _ => Iff.rfl) hc132 hs135 (fun L_ w_ hc_ hu_ hs_ => e_move (v := .pointer (some ⟨g2, 0, none⟩)) (by kernel_rfl)) ?_; intro hc136 hs137
    refine xv (i := 1) (d := 49) rfl rfl rfl (by kernel_rfl) (by kernel_rfl) (fun _ _ => Iff.rfl) hc136 hs137 (fun L_ w_ hc_ hu_ hs_ => e_nilCheck (ad := ⟨g2, 0, none⟩) (by kernel_rfl)) ?_; intro hc138 hs139
    refine xv (i := 2) (d := 50) rfl rfl rfl (by kernel_rfl) (by kernel_rfl) (fun _ _ => Iff.rfl) hc138 hs139 (fun L_ w_ hc_ hu_ hs_ => e_fieldAddr (b := g2) (off := 0) (o := 0) Try.underlying34 rfl rfl (sz := 1) (by kernel_rfl) (by decide) (by kernel_rfl)) ?_; intro hc140 hs141
    refine xv (i := 3) (d := 51) rfl rfl rfl (by kernel_rfl) (by kernel_rfl) (fun _ _ => Iff.rfl) hc140 hs141 (fun L_ w_ hc_ hu_ hs_ => e_load1 (ad := ⟨g2, 0 + 0, none⟩) (v := .slice A4 x1.cells.length c5) Try.underlying32 rfl (by kernel_rfl) (blk_cell ((hs_.2.2 _ rfl).trans o134) rfl)) ?_; intro hc142 hs143
    refine xv (i := 4) (d := 52) rfl rfl rfl (by kernel_rfl) (by kernel_rfl) (fun _ _ => Iff.rfl) hc142 hs143 (fun L_ w_ hc_ hu_ hs_ => e_fieldAddr (b := g24) (off := 0) (o := 1) Try.underlying36 rfl rfl (sz := 1) (by kernel_rfl) (by decide) (by kernel_rfl)) ?_; intro hc144 hs145
    refine xv (i := 5) (d := 53) rfl rfl rfl (by kernel_rfl) (by kernel_rfl) (fun _ _ => Iff.rfl) hc144 hs145 (fun L_ w_ hc_ hu_ hs_ => e_load1 (ad := ⟨g24, 0 + 1, none⟩) (v := .int .i64 t29.n) Try.underlying3 rfl (by kernel_rfl) (blk_cell ((hs_.2.1 _ rfl).trans o133) rfl)) ?_; intro hc146 hs147
    obtain ⟨q148, M⟩ := chk M
    obtain ⟨q149, M⟩ := chk M
    obtain ⟨b150, o151, e152⟩ := Rd.addr h6 (show (t29.n).toNat < x1.cells.length by omega)
    obtain ⟨y153, r154, k155⟩ := Rd.at h6 e152 (getD_some z36 (show (t29.n).toNat < x1.cells.length by omega))
    obtain ⟨A156, c157, rfl, l158, h159⟩ := st36_open r154
    refine xv (i := 6) (d := 54) rfl rfl rfl (by kernel_rfl) (by kernel_rfl) (fun _ _ => Iff.rfl) hc146 hs147 (fun L_ w_ hc_ hu_ hs_ => e_indexAddr (b := b150) (off := o151) (n := x1.cells.length) (c := c5) (sz := 3) (i := t29.n) (k := .i64) Try.underlying32 e152 (by kernel_rfl) (by kernel_rfl) (by kernel_rfl) q148 q149) ?_; intro hc160 hs161
    refine xv (i := 7) (d := 55) rfl rfl rfl (by kernel_rfl) (by kernel_rfl) (fun _ _ => Iff.rfl) hc160 hs161 (fun L_ w_ hc_ hu_ hs_ => e_loadS (b := b150) (off := o151 + (t29.n : Int).toNat * 3) (cs := [.int .i64 ((x1.cells.getD ((t29.n).toNat) z36).kind), .int .i64 ((x1.cells.getD ((t29.n).toNat) z36).n), .slice A156 ((x1.cells.getD ((t29.n).toNat) z36).text).length c157]) Try.underlying36 rfl (by kernel_rfl) (by kernel_rfl) (fun j_ u_ e_ => (hpx (hs_.1.cell (E41.cell (k155 j_ u_ e_)))))) ?_; intro hc162 hs163
    refine xone (i := 8) (by kernel_rfl) hc162 ?_
    refine ye (i := 8) (d := 10) rfl rfl (wanted_none rfl _) (by kernel_rfl) (by kernel_rfl) (new_blk (v := fun g_ => .pointer (some ⟨g_, 0, none⟩)) (cs := #[.int .i64 0, .int .i64 0, .slice none 0 0]) (t := 36) S130 (by kernel_rfl)) ?_
    rintro hc169 _ w164 ⟨g165, rfl, b166, S167, K168⟩
    replace b44 := K168.blk 0 rfl b44
    replace b34 := K168.blk 1 rfl b34
    replace h20 := h20.move (K168.at 2 rfl)
    refine ⟨⟨S167.inv, (fun b_ h_ => (K168.at 0 rfl b_ h_).trans (hs163.2.1 b_ h_)), (fun b_ h_ => (K168.at 1 rfl b_ h_).trans (hs163.2.2 b_ h_))⟩, fun hs170 => ?_⟩
    refine xone (i := 9) (by kernel_rfl) hc169 ?_
    refine ys (i := 9) rfl rfl (wanted_none rfl _) (by kernel_rfl) (by kernel_rfl) (e_store (g := g165) (o := 0) (v := .agg #[.int .i64 ((x1.cells.getD ((t29.n).toNat) z36).kind), .int .i64 ((x1.cells.getD ((t29.n).toNat) z36).n), .slice A156 ((x1.cells.getD ((t29.n).toNat) z36).text).length c157]) (cur' := #[.int .i64 ((x1.cells.getD ((t29.n).toNat) z36).kind), .int .i64 ((x1.cells.getD ((t29.n).toNat) z36).n), .slice A156 ((x1.cells.getD ((t29.n).toNat) z36).text).length c157]) (vs := [.int .i64 ((x1.cells.getD ((t29.n).toNat) z36).kind), .int .i64 ((x1.cells.getD ((t29.n).toNat) z36).n), .slice A156 ((x1.cells.getD ((t29.n).toNat) z36).text).length c157]) S167 (by kernel_rfl) (by kernel_rfl) rfl (by kernel_rfl) b166 (Nat.le_of_ble_eq_true rfl) (List.forall_mem_cons.2 ⟨rfl, (List.forall_mem_cons.2 ⟨rfl, (List.forall_mem_cons.2 ⟨rfl, (fun _ h_ => by cases h_)⟩)⟩)⟩) rfl) ?_
    rintro hc175 w171 ⟨b172, S173, K174⟩
    replace b44 := K174.blk 0 rfl b44
    replace b34 := K174.blk 1 rfl b34
    replace h20 := h20.move (K174.at 2 rfl)
    refine ⟨⟨S173.inv, (fun b_ h_ => (K174.at 0 rfl b_ h_).trans (hs170.2.1 b_ h_)), (fun b_ h_ => (K174.at 1 rfl b_ h_).trans (hs170.2.2 b_ h_))⟩, fun hs176 => ?_⟩
    clear b166
    refine xn (by kernel_rfl) ?_ _
    refine then_n ?_
    refine wp_seq ?_
    refine region_mix (S := (fun (L_ : Array Bool) (w_ : World) => Ext H32 (hp w_) ∧ (∀ b_, (is g165) b_ → hp w_ b_ = hp w171 b_))) (by kernel_rfl) S173 ?_
    intro w177 S178 K179 hc180
    have o181 := b172
    have hs182 : (fun (L_ : Array Bool) (w_ : World) => Ext H32 (hp w_) ∧ (∀ b_, (is g165) b_ → hp w_ b_ = hp w171 b_)) (Array.replicate 11 false) w177 := ⟨S178.inv, (fun b_ h_ => K179.at 0 rfl b_ h_)⟩
    replace b172 := K179.blk 0 rfl b172
    replace b44 := K179.blk 1 rfl b44
    replace b34 := K179.blk 2 rfl b34
    replace h20 := h20.move (K179.at 3 rfl)
    refine xv (i := 0) (d := 56) rfl rfl rfl (by kernel_rfl) (by kernel_rfl) (fun _ _ => Iff.rfl) hc180 hs182 (fun L_ w_ hc_ hu_ hs_ => e_move (v := .slice A18 x17.length c19) (by kernel_rfl)) ?_; intro hc183 hs184
    refine xv (i := 1) (d := 57) rfl rfl rfl (by kernel_rfl) (by kernel_rfl) (fun _ _ => Iff.rfl) hc183 hs184 (fun L_ w_ hc_ hu_ hs_ => e_fieldAddr (b := g165) (off := 0) (o := 1) Try.underlying36 rfl rfl (sz := 1) (by kernel_rfl) (by decide) (by kernel_rfl)) ?_; intro hc185 hs186
    refine xv (i := 2) (d := 58) rfl rfl rfl (by kernel_rfl) (by kernel_rfl) (fun _ _ => Iff.rfl) hc185 hs186 (fun L_ w_ hc_ hu_ hs_ => e_load1 (ad := ⟨g165, 0 + 1, none⟩) (v := .int .i64 ((x1.cells.getD ((t29.n).toNat) z36).n)) Try.underlying3 rfl (by kernel_rfl) (blk_cell ((hs_.2 _ rfl).trans o181) rfl)) ?_; intro hc187 hs188
    refine xv (i := 4) (d := 60) rfl rfl rfl (by kernel_rfl) (by kernel_rfl) (fun _ _ => Iff.rfl) hc187 hs188 (fun L_ w_ hc_ hu_ hs_ => e_fieldAddr (b := g165) (off := 0) (o := 2) Try.underlying36 rfl rfl (sz := 1) (by kernel_rfl) (by decide) (by kernel_rfl)) ?_; intro hc189 hs190
    refine xv (i := 5) (d := 61) rfl rfl rfl (by kernel_rfl) (by kernel_rfl) (fun _ _ => Iff.rfl) hc189 hs190 (fun L_ w_ hc_ hu_ hs_ => e_load1 (ad := ⟨g165, 0 + 2, none⟩) (v := .slice A156 ((x1.cells.getD ((t29.n).toNat) z36).text).length c157) Try.underlying26 rfl (by kernel_rfl) (blk_cell ((hs_.2 _ rfl).trans o181) rfl)) ?_; intro hc191 hs192
    refine xone (i := 3) (by kernel_rfl) hc191 ?_
    refine ye (i := 3) (d := 59) rfl rfl (wanted_none rfl _) (by kernel_rfl) (by kernel_rfl) (new_blk (v := fun g_ => .slice (some ⟨g_, 0, none⟩) 0 0) (cs := #[]) (t := 5) S178 (by kernel_rfl)) ?_
    rintro hc198 _ w193 ⟨g194, rfl, b195, S196, K197⟩
    replace b172 := K197.blk 0 rfl b172
    replace b44 := K197.blk 1 rfl b44
    replace b34 := K197.blk 2 rfl b34
    replace h20 := h20.move (K197.at 3 rfl)
    refine ⟨⟨S196.inv, (fun b_ h_ => (K197.at 0 rfl b_ h_).trans (hs192.2 b_ h_))⟩, fun hs199 => ?_⟩
    have S200 := S196.unit
    have S201 := S200.pull (F := (is g194)) (Fr := [no, (is g165), (is g24), (is g2), F21]) 1 rfl rfl
    obtain ⟨h202, S203⟩ := row_lit (d := tByte) (xs := ([] : List UInt8)) S201 b195 rfl (elsO_nil _ _ _ no) (Nat.le_of_ble_eq_true rfl)
    obtain ⟨y204, h205, h206⟩ := Rd.news (d := tByte) (ro_scal _ _) S203 (h159.ext E41)
    obtain ⟨q207, M⟩ := chk M
    have S208 := S203.unit
    have S209 := S208.pull (F := (or2 (is g194) no)) (Fr := [no, (is g165), (is g24), (is g2), F21]) 1 rfl rfl
    refine xone (i := 6) (by kernel_rfl) hc198 ?_
    refine ye (i := 6) (d := 62) rfl rfl (wanted_none rfl _) (by kernel_rfl) (by kernel_rfl) (e_append (d := tByte) (n := 0) (xs := ([] : List UInt8)) (cap := 0) (A := (some ⟨g194, 0, none⟩)) (ys := (x1.cells.getD ((t29.n).toNat) z36).text) (A2 := A156) (c2 := c157) (z := .int .u8 0) (bytes := 1) S209 Try.underlying26 (by kernel_rfl) rfl (by decide) (by kernel_rfl) rfl (by kernel_rfl) h202 h205 h206 (show (0 + ((x1.cells.getD ((t29.n).toNat) z36).text).length) * 1 ≤ _ by first | omega | (simp only [List.length_cons, List.length_nil]; omega)) (by decide)) ?_
    rintro hc217 _ w210 ⟨A211, c212, F213, rfl, h214, S215, K216⟩
    replace b172 := K216.blk 0 rfl b172
    replace b44 := K216.blk 1 rfl b44
    replace b34 := K216.blk 2 rfl b34
    replace h20 := h20.move (K216.at 3 rfl)
    refine ⟨⟨S215.inv, (fun b_ h_ => (K216.at 0 rfl b_ h_).trans (hs199.2 b_ h_))⟩, fun hs218 => ?_⟩
    refine xone (i := 7) (by kernel_rfl) hc217 ?_
    refine yo (i := 7) (d := 63) rfl rfl (wanted_none rfl _) (by kernel_rfl) (by kernel_rfl) (fun _ _ => Iff.rfl) hs218 (show _ = Result.ok (Next.value (.agg #[.int .i64 3, .int .i64 ((x1.cells.getD ((t29.n).toNat) z36).n), .slice A211 ((([] : List UInt8) ++ ((x1.cells.getD ((t29.n).toNat) z36).text)).length) c212])) w210 from by kernel_rfl) ?_; intro hc219 hs220
    refine xone (i := 8) (by kernel_rfl) hc219 ?_
    refine ye (i := 8) (d := 64) rfl rfl (wanted_none rfl _) (by kernel_rfl) (by kernel_rfl) (new_blk (v := fun g_ => .slice (some ⟨g_, 0, none⟩) 1 1) (cs := #[.int .i64 3, .int .i64 ((x1.cells.getD ((t29.n).toNat) z36).n), .slice A211 ((([] : List UInt8) ++ ((x1.cells.getD ((t29.n).toNat) z36).text)).length) c212]) (t := 36) S215 (by kernel_rfl)) ?_
    rintro hc226 _ w221 ⟨g222, rfl, b223, S224, K225⟩
    replace h214 := h214.move (K225.at 0 rfl)
    replace b172 := K225.blk 1 rfl b172
    replace b44 := K225.blk 2 rfl b44
    replace b34 := K225.blk 3 rfl b34
    replace h20 := h20.move (K225.at 4 rfl)
    refine ⟨⟨S224.inv, (fun b_ h_ => (K225.at 1 rfl b_ h_).trans (hs220.2 b_ h_))⟩, fun hs227 => ?_⟩
    obtain ⟨q228, M⟩ := chk M
    have S229 := S224.pull (F := F213) (Fr := [(is g222), (is g165), (is g24), (is g2), F21]) 1 rfl rfl
    have S230 := S229.pull (F := F21) (Fr := [F213, (is g222), (is g165), (is g24), (is g2)]) 5 rfl rfl
    refine xone (i := 9) (by kernel_rfl) hc226 ?_
    refine ye (i := 9) (d := 65) rfl rfl (wanted_none rfl _) (by kernel_rfl) (by kernel_rfl) (e_append (d := st36) (n := x17.length) (xs := x17) (cap := c19) (A := A18) (ys := [(⟨3, (x1.cells.getD ((t29.n).toNat) z36).n, (([] : List UInt8) ++ ((x1.cells.getD ((t29.n).toNat) z36).text))⟩ : Cell)]) (A2 := (some ⟨g222, 0, none⟩)) (c2 := 1) (z := .agg #[.int .i64 0, .int .i64 0, .slice none 0 0]) (bytes := 40) S230 Try.underlying32 (by kernel_rfl) rfl (by decide) (by kernel_rfl) rfl (by kernel_rfl) h20 (elsO_one1 (st36_mkO (x := (⟨3, (x1.cells.getD ((t29.n).toNat) z36).n, (([] : List UInt8) ++ ((x1.cells.getD ((t29.n).toNat) z36).text))⟩ : Cell)) h214)) (.inr (blk_news b223 rfl)) (show (x17.length + [(⟨3, (x1.cells.getD ((t29.n).toNat) z36).n, (([] : List UInt8) ++ ((x1.cells.getD ((t29.n).toNat) z36).text))⟩ : Cell)].length) * 40 ≤ _ by first | omega | (simp only [List.length_cons, List.length_nil]; omega)) (by decide)) ?_
    rintro hc238 _ w231 ⟨A232, c233, F234, rfl, h235, S236, K237⟩
    replace b223 := K237.blk 0 rfl b223
    replace b172 := K237.blk 1 rfl b172
    replace b44 := K237.blk 2 rfl b44
    replace b34 := K237.blk 3 rfl b34
    refine ⟨⟨S236.inv, (fun b_ h_ => (K237.at 1 rfl b_ h_).trans (hs227.2 b_ h_))⟩, fun hs239 => ?_⟩
    refine xone (i := 10) (by kernel_rfl) hc238 ?_
    refine yo (i := 10) (d := 2) rfl rfl (wanted_none rfl _) (by kernel_rfl) (by kernel_rfl) (fun _ _ => Iff.rfl) hs239 (e_assign (v := .slice A232 ((x17 ++ [(⟨3, (x1.cells.getD ((t29.n).toNat) z36).n, (([] : List UInt8) ++ ((x1.cells.getD ((t29.n).toNat) z36).text))⟩ : Cell)]).length) c233) (by kernel_rfl)) ?_; intro hc240 hs241
    refine xn (by kernel_rfl) ?_ _
    refine then_n ?_
    refine wp_seq ?_
    refine wp_seq ?_
    refine wp_region_lit ?_
    refine lv (d := 11) rfl rfl (by kernel_rfl) (e_assign (v := .int .i64 1) rfl) ?_
    refine wpList_nil ?_
    refine then_n ?_
    refine wp_block ?_
    have S264 := S236.pull (F := (is g2)) (Fr := [F234, (is g222), (is g165), (is g24)]) 4 rfl rfl
    have S265 := S264.pull (F := (is g24)) (Fr := [(is g2), F234, (is g222), (is g165)]) 4 rfl rfl
    have S266 := S265.pull (F := (is g165)) (Fr := [(is g24), (is g2), F234, (is g222)]) 4 rfl rfl
    have S267 := St.first (Fa := [(is g165), (is g24), (is g2), F234]) (Fr := [(is g222)]) S266
    refine wp_loop_g (fun k261 a262 w242 => ∃ (f243 : Nat → Value) (H244 : Hp) (x246 : List Cell) (A247 : Option Addr) (c248 : Nat) (F249 : Foot) (x251 : Int), k261 < K ∧ a262 = mk 92 f243 ∧ f243 0 = .pointer (some ⟨g2, 0, none⟩) ∧ f243 2 = .slice A247 x246.length c248 ∧ f243 3 = .int .i64 x22 ∧ f243 5 = .pointer (some ⟨g24, 0, none⟩) ∧ f243 10 = .pointer (some ⟨g165, 0, none⟩) ∧ f243 11 = .int .i64 x251 ∧ w242.heap[g165]? = some (.cells #[.int .i64 ((x1.cells.getD ((t29.n).toNat) z36).kind), .int .i64 ((x1.cells.getD ((t29.n).toNat) z36).n), .slice A156 ((x1.cells.getD ((t29.n).toNat) z36).text).length c157] 36 (0, 0)) ∧ w242.heap[g24]? = some (.cells #[.int .i64 t29.kind, .int .i64 t29.n, .slice A35 t29.text.length c36] 36 (0, 0)) ∧ w242.heap[g2]? = some (.cells #[.slice A4 x1.cells.length c5, .slice A8 x1.trail.length c9] 34 (0, 0)) ∧ Row st36 36 H244 (hp w242) F249 A247 c248 x246 ∧ Ext H32 H244 ∧ St (anyOf [(is g2), F21]) H w [(is g165), (is g24), (is g2), F249] H244 w242 ∧ impl_Store_term_2.l0 k261 x1 x22 t29 x246 x251 = some r) k1_ ⟨_, H32, (x17 ++ [(⟨3, (x1.cells.getD ((t29.n).toNat) z36).n, (([] : List UInt8) ++ ((x1.cells.getD ((t29.n).toNat) z36).text))⟩ : Cell)]), A232, c233, F234, 1, (by omega), rfl, (by kernel_rfl), (by kernel_rfl), (by kernel_rfl), (by kernel_rfl), (by kernel_rfl), (by kernel_rfl), b172, b44, b34, h235, (Ext.refl _), S267, M⟩ ?_
    clear M
    rintro k261 a262 w242 ⟨f243, H244, x246, A247, c248, F249, x251, z259, rfl, e252, e253, e254, e255, e256, e257, b172, b44, b34, h250, Y245, S258, M⟩
    rcases k261 with _ | k263
    · rw [impl_Store_term_2.l0] at M
      cases M
    rw [impl_Store_term_2.l0] at M
    refine wp_seq ?_
    refine wp_seq ?_
    refine wp_region_lit ?_
    refine lv (d := 66) rfl rfl (by kernel_rfl) (e_move (v := .int .i64 x251) (by exact e257)) ?_
    refine lv (d := 67) rfl rfl (by kernel_rfl) (e_fieldAddr (b := g165) (off := 0) (o := 1) Try.underlying36 rfl rfl (sz := 1) (by kernel_rfl) (by decide) (by exact e256)) ?_
    refine lv (d := 68) rfl rfl (by kernel_rfl) (e_load1 (ad := ⟨g165, 0 + 1, none⟩) (v := .int .i64 ((x1.cells.getD ((t29.n).toNat) z36).n)) Try.underlying3 rfl (by kernel_rfl) (blk_cell b172 rfl)) ?_
    refine lv (d := 69) rfl rfl (by kernel_rfl) (e_leq (k := .i64) (a := x251) (b := (x1.cells.getD ((t29.n).toNat) z36).n) (by kernel_rfl) (by kernel_rfl)) ?_
    refine wpList_nil ?_
    refine then_n ?_
    by_cases q268 : x251 ≤ ((x1.cells.getD ((t29.n).toNat) z36).n)
    · replace M := ifp q268 M
      refine cond_t rfl (bt q268 (by kernel_rfl)) ?_
      refine wp_skip ?_
      refine then_n ?_
      refine wp_seq ?_
      refine wp_block ?_
      refine wp_seq ?_
      refine wp_region_lit ?_
      refine lv (d := 12) rfl rfl (by kernel_rfl) (e_assign (v := .bool false) rfl) ?_
      refine wpList_nil ?_
      refine then_n ?_
      refine wp_seq ?_
      refine region_mix (S := (fun (L_ : Array Bool) (w_ : World) => Ext H244 (hp w_) ∧ (∀ b_, (is g24) b_ → hp w_ b_ = hp w242 b_) ∧ (L_.getD 13 true = false → (∀ b_, (is g2) b_ → hp w_ b_ = hp w242 b_)))) (by kernel_rfl) S258 ?_
      intro w269 S270 K271 hc272
      have o273 := b44
      have o274 := b34
      have hs275 : (fun (L_ : Array Bool) (w_ : World) => Ext H244 (hp w_) ∧ (∀ b_, (is g24) b_ → hp w_ b_ = hp w242 b_) ∧ (L_.getD 13 true = false → (∀ b_, (is g2) b_ → hp w_ b_ = hp w242 b_))) (Array.replicate 19 false) w269 := ⟨S270.inv, (fun b_ h_ => K271.at 1 rfl b_ h_), (fun _ => (fun b_ h_ => K271.at 2 rfl b_ h_))⟩
      replace b172 := K271.blk 0 rfl b172
      replace b44 := K271.blk 1 rfl b44
      replace b34 := K271.blk 2 rfl b34
      replace h250 := h250.move (K271.at 3 rfl)
      refine xv (i := 0) (d := 73) rfl rfl rfl (by kernel_rfl) (by kernel_rfl) (fun L_ w_ => by simp only [getD_set_ne true (show (0 : Nat) ≠ 13 by decide)]) hc272 hs275 (fun L_ w_ hc_ hu_ hs_ => e_move (v := .pointer (some ⟨g2, 0, none⟩)) (by exact e252)) ?_; intro hc276 hs277
      refine xv (i := 1) (d := 74) rfl rfl rfl (by kernel_rfl) (by kernel_rfl) (fun L_ w_ => by simp only [getD_set_ne true (show (1 : Nat) ≠ 13 by decide)]) hc276 hs277 (fun L_ w_ hc_ hu_ hs_ => e_move (v := .pointer (some ⟨g2, 0, none⟩)) (by exact e252)) ?_; intro hc278 hs279
      refine xv (i := 2) (d := 75) rfl rfl rfl (by kernel_rfl) (by kernel_rfl) (fun L_ w_ => by simp only [getD_set_ne true (show (2 : Nat) ≠ 13 by decide)]) hc278 hs279 (fun L_ w_ hc_ hu_ hs_ => e_nilCheck (ad := ⟨g2, 0, none⟩) (by kernel_rfl)) ?_; intro hc280 hs281
      refine xv (i := 3) (d := 76) rfl rfl rfl (by kernel_rfl) (by kernel_rfl) (fun L_ w_ => by simp only [getD_set_ne true (show (3 : Nat) ≠ 13 by decide)]) hc280 hs281 (fun L_ w_ hc_ hu_ hs_ => e_fieldAddr (b := g2) (off := 0) (o := 0) Try.underlying34 rfl rfl (sz := 1) (by kernel_rfl) (by decide) (by kernel_rfl)) ?_; intro hc282 hs283
      refine xv (i := 4) (d := 77) rfl rfl rfl (by kernel_rfl) (by kernel_rfl) (fun L_ w_ => by simp only [getD_set_ne true (show (4 : Nat) ≠ 13 by decide)]) hc282 hs283 (fun L_ w_ hc_ hu_ hs_ => e_load1 (ad := ⟨g2, 0 + 0, none⟩) (v := .slice A4 x1.cells.length c5) Try.underlying32 rfl (by kernel_rfl) (blk_cell (((hs_.2.2 (unl 9 13 4 hc_ hu_ (by kernel_rfl))) _ rfl).trans o274) rfl)) ?_; intro hc284 hs285
      refine xv (i := 5) (d := 78) rfl rfl rfl (by kernel_rfl) (by kernel_rfl) (fun L_ w_ => by simp only [getD_set_ne true (show (5 : Nat) ≠ 13 by decide)]) hc284 hs285 (fun L_ w_ hc_ hu_ hs_ => e_fieldAddr (b := g24) (off := 0) (o := 1) Try.underlying36 rfl rfl (sz := 1) (by kernel_rfl) (by decide) (by exact e255)) ?_; intro hc286 hs287
      refine xv (i := 6) (d := 79) rfl rfl rfl (by kernel_rfl) (by kernel_rfl) (fun L_ w_ => by simp only [getD_set_ne true (show (6 : Nat) ≠ 13 by decide)]) hc286 hs287 (fun L_ w_ hc_ hu_ hs_ => e_load1 (ad := ⟨g24, 0 + 1, none⟩) (v := .int .i64 t29.n) Try.underlying3 rfl (by kernel_rfl) (blk_cell ((hs_.2.1 _ rfl).trans o273) rfl)) ?_; intro hc288 hs289
      refine xv (i := 7) (d := 80) rfl rfl rfl (by kernel_rfl) (by kernel_rfl) (fun L_ w_ => by simp only [getD_set_ne true (show (7 : Nat) ≠ 13 by decide)]) hc288 hs289 (fun L_ w_ hc_ hu_ hs_ => e_move (v := .int .i64 x251) (by exact e257)) ?_; intro hc290 hs291
      refine xv (i := 8) (d := 81) rfl rfl rfl (by kernel_rfl) (by kernel_rfl) (fun L_ w_ => by simp only [getD_set_ne true (show (8 : Nat) ≠ 13 by decide)]) hc290 hs291 (fun L_ w_ hc_ hu_ hs_ => e_add (k := .i64) (a := t29.n) (b := x251) (by kernel_rfl) (by kernel_rfl)) ?_; intro hc292 hs293
      obtain ⟨q294, M⟩ := chk M
      obtain ⟨q295, M⟩ := chk M
      obtain ⟨b296, o297, e298⟩ := Rd.addr h6 (show ((IntKind.i64.wrap (t29.n + x251))).toNat < x1.cells.length by omega)
      obtain ⟨y299, r300, k301⟩ := Rd.at h6 e298 (getD_some z36 (show ((IntKind.i64.wrap (t29.n + x251))).toNat < x1.cells.length by omega))
      obtain ⟨A302, c303, rfl, l304, h305⟩ := st36_open r300
      refine xv (i := 9) (d := 82) rfl rfl rfl (by kernel_rfl) (by kernel_rfl) (fun L_ w_ => by simp only [getD_set_ne true (show (9 : Nat) ≠ 13 by decide)]) hc292 hs293 (fun L_ w_ hc_ hu_ hs_ => e_indexAddr (b := b296) (off := o297) (n := x1.cells.length) (c := c5) (sz := 3) (i := (IntKind.i64.wrap (t29.n + x251))) (k := .i64) Try.underlying32 e298 (by kernel_rfl) (by kernel_rfl) (by kernel_rfl) q294 q295) ?_; intro hc306 hs307
      refine xv (i := 10) (d := 83) rfl rfl rfl (by kernel_rfl) (by kernel_rfl) (fun L_ w_ => by simp only [getD_set_ne true (show (10 : Nat) ≠ 13 by decide)]) hc306 hs307 (fun L_ w_ hc_ hu_ hs_ => e_loadS (b := b296) (off := o297 + ((IntKind.i64.wrap (t29.n + x251)) : Int).toNat * 3) (cs := [.int .i64 ((x1.cells.getD (((IntKind.i64.wrap (t29.n + x251))).toNat) z36).kind), .int .i64 ((x1.cells.getD (((IntKind.i64.wrap (t29.n + x251))).toNat) z36).n), .slice A302 ((x1.cells.getD (((IntKind.i64.wrap (t29.n + x251))).toNat) z36).text).length c303]) Try.underlying36 rfl (by kernel_rfl) (by kernel_rfl) (fun j_ u_ e_ => (hpx (hs_.1.cell ((E41.trans Y245).cell (k301 j_ u_ e_)))))) ?_; intro hc308 hs309
      refine xv (i := 11) (d := 84) rfl rfl rfl (by kernel_rfl) (by kernel_rfl) (fun L_ w_ => by simp only [getD_set_ne true (show (11 : Nat) ≠ 13 by decide)]) hc308 hs309 (fun L_ w_ hc_ hu_ hs_ => e_move (v := .slice A247 x246.length c248) (by exact e253)) ?_; intro hc310 hs311
      refine xone (i := 12) (by kernel_rfl) hc310 ?_
      refine yo (i := 12) (d := 85) rfl rfl (wanted_none rfl _) (by kernel_rfl) (by kernel_rfl) (fun L_ w_ => by simp only [getD_set_ne true (show (12 : Nat) ≠ 13 by decide)]) hs311 (e_move (v := .int .i64 x22) (by exact e254)) ?_; intro hc312 hs313
      have S314 := S270.pull (F := F249) (Fr := [(is g165), (is g24), (is g2)]) 3 rfl rfl
      have S315 := S314.pull (F := (is g2)) (Fr := [F249, (is g165), (is g24)]) 3 rfl rfl
      obtain ⟨t316, u317, M⟩ := bnd M
      refine xone (i := 13) (by kernel_rfl) hc312 ?_
      refine yc (i := 13) rfl (wanted_none rfl _) (by kernel_rfl) (by kernel_rfl) (e_call (l := [.tmp 73, .tmp 83, .tmp 84, .tmp 85]) (vs := [.pointer (some ⟨g2, 0, none⟩), .agg #[.int .i64 ((x1.cells.getD (((IntKind.i64.wrap (t29.n + x251))).toNat) z36).kind), .int .i64 ((x1.cells.getD (((IntKind.i64.wrap (t29.n + x251))).toNat) z36).n), .slice A302 ((x1.cells.getD (((IntKind.i64.wrap (t29.n + x251))).toNat) z36).text).length c303], .slice A247 x246.length c248, .int .i64 x22]) Try.func55 (by kernel_rfl) rfl (by kernel_rfl) rfl) (ih k263 (by omega) w269 H244 x1 g2 A4 c5 A8 c9 (x1.cells.getD (((IntKind.i64.wrap (t29.n + x251))).toNat) z36) A302 c303 x246 A247 c248 F249 x22 (h6.ext (E41.trans Y245)) l7 (h10.ext (E41.trans Y245)) l11 b34 (h305.ext (E41.trans Y245)) l304 h250 (St.own' (Fa := [(is g2), F249]) (Fr := [(is g165), (is g24)]) S315) t316 u317) ?_
      rintro hc326 _ w318 ⟨A322, c323, F325, H319, rfl, b321, h324, T320⟩
      refine ⟨_, rfl, ?_⟩
      obtain ⟨S327, K328⟩ := St.call (Fa := [(is g2), F249]) (Fr := [(is g165), (is g24)]) S315 T320
      replace b172 := K328.blk 0 rfl b172
      replace b44 := K328.blk 1 rfl b44
      have E329 := T320.ext
      refine ⟨⟨(Ext.trans E329 S327.inv), (fun b_ h_ => (K328.at 1 rfl b_ h_).trans (hs313.2.1 b_ h_)), (fun q_ => absurd q_ (by decide +kernel))⟩, fun hs330 => ?_⟩
      refine xone (i := 14) (by kernel_rfl) hc326 ?_
      refine yo (i := 14) (d := 72) rfl rfl (wanted_none rfl _) (by kernel_rfl) (by kernel_rfl) (fun L_ w_ => by simp only [getD_set_ne true (show (14 : Nat) ≠ 13 by decide)]) hs330 (e_move (v := .tuple #[.slice A322 t316.1.length c323, .bool t316.2]) (by kernel_rfl)) ?_; intro hc331 hs332
      refine xv (i := 15) (d := 87) rfl rfl rfl (by kernel_rfl) (by kernel_rfl) (fun L_ w_ => by simp only [getD_set_ne true (show (15 : Nat) ≠ 13 by decide)]) hc331 hs332 (fun L_ w_ hc_ hu_ hs_ => e_extract (vs := #[.slice A322 t316.1.length c323, .bool t316.2]) (v := .slice A322 t316.1.length c323) (by kernel_rfl) rfl) ?_; intro hc333 hs334
      refine xv (i := 16) (d := 88) rfl rfl rfl (by kernel_rfl) (by kernel_rfl) (fun L_ w_ => by simp only [getD_set_ne true (show (16 : Nat) ≠ 13 by decide)]) hc333 hs334 (fun L_ w_ hc_ hu_ hs_ => e_extract (vs := #[.slice A322 t316.1.length c323, .bool t316.2]) (v := .bool t316.2) (by kernel_rfl) rfl) ?_; intro hc335 hs336
      refine xone (i := 17) (by kernel_rfl) hc335 ?_
      refine yo (i := 17) (d := 2) rfl rfl (wanted_none rfl _) (by kernel_rfl) (by kernel_rfl) (fun L_ w_ => by simp only [getD_set_ne true (show (17 : Nat) ≠ 13 by decide)]) hs336 (e_assign (v := .slice A322 t316.1.length c323) (by kernel_rfl)) ?_; intro hc337 hs338
      refine xone (i := 18) (by kernel_rfl) hc337 ?_
      refine yo (i := 18) (d := 12) rfl rfl (wanted_none rfl _) (by kernel_rfl) (by kernel_rfl) (fun L_ w_ => by simp only [getD_set_ne true (show (18 : Nat) ≠ 13 by decide)]) hs338 (e_assign (v := .bool t316.2) (by kernel_rfl)) ?_; intro hc339 hs340
      refine xn (by kernel_rfl) ?_ _
      refine then_n ?_
      refine wp_seq ?_
      refine wp_region_lit ?_
      refine lv (d := 89) rfl rfl (by kernel_rfl) (e_move (v := .bool t316.2) (by kernel_rfl)) ?_
      refine lv (d := 90) rfl rfl (by kernel_rfl) (e_notv (c := t316.2) (by kernel_rfl)) ?_
      refine wpList_nil ?_
      refine then_n ?_
      by_cases q341 : ¬ (t316.2 = true)
      · replace M := ifp q341 M
        refine cond_t rfl (bt q341 (by kernel_rfl)) ?_
        refine wp_seq ?_
        refine wp_region_lit ?_
        refine lv (d := 8) rfl rfl (by kernel_rfl) (e_assign (v := .slice none 0 0) rfl) ?_
        refine lv (d := 9) rfl rfl (by kernel_rfl) (e_assign (v := .bool false) rfl) ?_
        refine wpList_nil ?_
        refine then_n ?_
        refine wp_ret ?_
        refine inb_r ?_
        refine then_r ?_
        refine then_r ?_
        refine inb_r ?_
        refine then_r ?_
        obtain rfl := Option.some.inj M
        have S342 := S327.unit
        have S343 := S342.pull (F := (is g2)) (Fr := [no, F325, (is g165), (is g24)]) 1 rfl rfl
        have S344 := St.first (Fa := [(is g2), no]) (Fr := [F325, (is g165), (is g24)]) S343
        exact ret2 rfl rfl rfl (show _ = .slice none 0 0 from (by kernel_rfl)) (show _ = .bool false from (by kernel_rfl)) ⟨none, 0, no, H319, rfl, b321, (Row.nil _ _ _ _ no), S344⟩
      replace M := ifn q341 M
      refine cond_f rfl (bf q341 (by kernel_rfl)) ?_
      refine wp_skip ?_
      refine inb_n ?_
      refine then_n ?_
      refine wp_region_lit ?_
      refine lv (d := 70) rfl rfl (by kernel_rfl) (e_move (v := .int .i64 x251) (by exact e257)) ?_
      refine lv (d := 71) rfl rfl (by kernel_rfl) (e_add (k := .i64) (a := x251) (b := 1) (by kernel_rfl) rfl) ?_
      refine lv (d := 11) rfl rfl (by kernel_rfl) (e_assign (v := .int .i64 (IntKind.i64.wrap (x251 + 1))) (by kernel_rfl)) ?_
      refine wpList_nil ?_
      refine then_n ?_
      have S345 := S327.pull (F := F325) (Fr := [(is g2), (is g165), (is g24)]) 1 rfl rfl
      have S346 := S345.pull (F := (is g2)) (Fr := [F325, (is g165), (is g24)]) 1 rfl rfl
      have S347 := S346.pull (F := (is g24)) (Fr := [(is g2), F325, (is g165)]) 3 rfl rfl
      have S348 := S347.pull (F := (is g165)) (Fr := [(is g24), (is g2), F325]) 3 rfl rfl
      exact ⟨k263, (by omega), _, H319, t316.1, A322, c323, F325, (IntKind.i64.wrap (x251 + 1)), (by omega), rfl, (by exact e252), (by kernel_rfl), (by exact e254), (by exact e255), (by exact e256), (by kernel_rfl), b172, b44, b321, h324, (Y245.trans E329), S348, M⟩
    replace M := ifn q268 M
    refine cond_f rfl (bf q268 (by kernel_rfl)) ?_
    refine wp_exit ?_
    refine then_e ?_
    refine then_e ?_
    refine inb_hit ?_
    refine then_n ?_
    refine wp_seq ?_
    refine wp_region_lit ?_
    refine lv (d := 91) rfl rfl (by kernel_rfl) (e_move (v := .slice A247 x246.length c248) (by exact e253)) ?_
    refine lv (d := 8) rfl rfl (by kernel_rfl) (e_assign (v := .slice A247 x246.length c248) (by kernel_rfl)) ?_
    refine lv (d := 9) rfl rfl (by kernel_rfl) (e_assign (v := .bool true) rfl) ?_
    refine wpList_nil ?_
    refine then_n ?_
    refine wp_ret ?_
    obtain rfl := Option.some.inj M
    have S349 := S258.pull (F := F249) (Fr := [(is g165), (is g24), (is g2)]) 3 rfl rfl
    have S350 := S349.pull (F := (is g2)) (Fr := [F249, (is g165), (is g24)]) 3 rfl rfl
    have S351 := St.first (Fa := [(is g2), F249]) (Fr := [(is g165), (is g24)]) S350
    exact ret2 rfl rfl rfl (show _ = .slice A247 x246.length c248 from (by kernel_rfl)) (show _ = .bool true from (by kernel_rfl)) ⟨A247, c248, F249, H244, rfl, b34, h250, S351⟩
theorem impl_Store_term_2.calls (k : Nat) (w : World) (H : Hp) (x1 : Store) (g2 : Nat) (A4 : Option Addr) (c5 : Nat) (A8 : Option Addr) (c9 : Nat) (x12 : Cell) (A13 : Option Addr) (c14 : Nat) (x17 : List Cell) (A18 : Option Addr) (c19 : Nat) (F21 : Foot) (x22 : Int) (h6 : Rd st36 H A4 x1.cells) (l7 : x1.cells.length ≤ c5) (h10 : Rd tInt H A8 x1.trail) (l11 : x1.trail.length ≤ c9) (b3 : w.heap[g2]? = some (.cells #[.slice A4 x1.cells.length c5, .slice A8 x1.trail.length c9] 34 (0, 0))) (h15 : Rd tByte H A13 x12.text) (l16 : x12.text.length ≤ c14) (h20 : Row st36 36 H (hp w) F21 A18 c19 x17) (S : Own [(is g2), F21] H w) (r : (List Cell) × Bool) (M : impl_Store_term_2.f k x1 x12 x17 x22 = some r) :
    Calls Try.prog 55 #[.pointer (some ⟨g2, 0, none⟩), .agg #[.int .i64 x12.kind, .int .i64 x12.n, .slice A13 x12.text.length c14], .slice A18 x17.length c19, .int .i64 x22] w (fun e e_w => ∃ (A_1 : Option Addr) (c_1 : Nat) (F_1 : Foot) (H_ : Hp), e = .returned (.tuple #[.slice A_1 r.1.length c_1, .bool r.2]) ∧ e_w.heap[g2]? = some (.cells #[.slice A4 x1.cells.length c5, .slice A8 x1.trail.length c9] 34 (0, 0)) ∧ Row st36 36 H_ (hp e_w) F_1 A_1 c_1 r.1 ∧ St (anyOf [(is g2), F21]) H w [(is g2), F_1] H_ e_w) := (impl_Store_term_2.all (k + 1)) k (Nat.lt_succ_self k) w H x1 g2 A4 c5 A8 c9 x12 A13 c14 x17 A18 c19 F21 x22 h6 l7 h10 l11 b3 h15 l16 h20 S r M

/-! impl_GetTerm -/
def impl_GetTerm.f (k : Nat) (x1 : Store) (x10 : Cell) : Option ((List Cell) × Int) := ((impl_ValidStore.f k x1 x10).bind fun t25 => (if ¬ (t25 = true) then some ([], 1) else ((impl_Store_term_2.f k x1 x10 [] 2000).bind fun t36 => (if ¬ (t36.2 = true) then some ([], 3) else some (t36.1, 0)))))
theorem impl_GetTerm.calls (k : Nat) (w : World) (H : Hp) (x1 : Store) (A2 : Option Addr) (c3 : Nat) (A6 : Option Addr) (c7 : Nat) (x10 : Cell) (A11 : Option Addr) (c12 : Nat) (h4 : Rd st36 H A2 x1.cells) (l5 : x1.cells.length ≤ c3) (h8 : Rd tInt H A6 x1.trail) (l9 : x1.trail.length ≤ c7) (h13 : Rd tByte H A11 x10.text) (l14 : x10.text.length ≤ c12) (S : Own [] H w) (r : (List Cell) × Int) (M : impl_GetTerm.f k x1 x10 = some r) :
    Calls Try.prog 23 #[.agg #[.slice A2 x1.cells.length c3, .slice A6 x1.trail.length c7], .agg #[.int .i64 x10.kind, .int .i64 x10.n, .slice A11 x10.text.length c12]] w (fun e e_w => ∃ (A_1 : Option Addr) (c_1 : Nat) (F_1 : Foot) (H_ : Hp), e = .returned (.tuple #[.slice A_1 r.1.length c_1, .int .i64 r.2]) ∧ Row st36 36 H_ (hp e_w) F_1 A_1 c_1 r.1 ∧ St (anyOf []) H w [F_1] H_ e_w) := by
  rw [impl_GetTerm.f] at M
  refine enter (l := [.agg #[.slice A2 x1.cells.length c3, .slice A6 x1.trail.length c7], .agg #[.int .i64 x10.kind, .int .i64 x10.n, .slice A11 x10.text.length c12]]) 20 Try.func23 rfl rfl rfl ?_
  have S0_ := S.st
  refine wp_seq ?_
  refine wp_region_lit ?_
  refine lve (d := 2) rfl rfl (by kernel_rfl) (new_blk (v := fun g_ => .pointer (some ⟨g_, 0, none⟩)) (cs := #[.slice A2 x1.cells.length c3, .slice A6 x1.trail.length c7]) (t := 34) S0_ (by kernel_rfl)) ?_
  rintro _ w15 ⟨g16, rfl, b17, S18, K19⟩
  refine lve (d := 3) rfl rfl (by kernel_rfl) (new_blk (v := fun g_ => .pointer (some ⟨g_, 0, none⟩)) (cs := #[.int .i64 x10.kind, .int .i64 x10.n, .slice A11 x10.text.length c12]) (t := 36) S18 (by kernel_rfl)) ?_
  rintro _ w20 ⟨g21, rfl, b22, S23, K24⟩
  replace b17 := K24.blk 0 rfl b17
  refine lv (d := 4) rfl rfl (by kernel_rfl) (e_assign (v := .slice none 0 0) rfl) ?_
  refine lv (d := 5) rfl rfl (by kernel_rfl) (e_assign (v := .int .i64 0) rfl) ?_
  refine wpList_nil ?_
  refine then_n ?_
  refine wp_seq ?_
  refine wp_seq ?_
  refine wp_region_lit ?_
  refine lv (d := 8) rfl rfl (by kernel_rfl) (e_loadS (b := g16) (off := 0) (cs := [.slice A2 x1.cells.length c3, .slice A6 x1.trail.length c7]) Try.underlying34 rfl (by kernel_rfl) (by kernel_rfl) (blk_cells b17 rfl)) ?_
  refine lv (d := 9) rfl rfl (by kernel_rfl) (e_loadS (b := g21) (off := 0) (cs := [.int .i64 x10.kind, .int .i64 x10.n, .slice A11 x10.text.length c12]) Try.underlying36 rfl (by kernel_rfl) (by kernel_rfl) (blk_cells b22 rfl)) ?_
  obtain ⟨t25, u26, M⟩ := bnd M
  refine lcall (d := 10) rfl rfl (by kernel_rfl) (e_call (l := [.tmp 8, .tmp 9]) (vs := [.agg #[.slice A2 x1.cells.length c3, .slice A6 x1.trail.length c7], .agg #[.int .i64 x10.kind, .int .i64 x10.n, .slice A11 x10.text.length c12]]) Try.func14 (by kernel_rfl) rfl (by kernel_rfl) rfl) (impl_ValidStore.calls k w20 H x1 A2 c3 A6 c7 x10 A11 c12 h4 l5 h8 l9 h13 l14 S23.own0 t25 u26) ?_
  rintro _ w27 ⟨rfl, C28⟩
  refine ⟨_, rfl, ?_⟩
  obtain ⟨S29, K30⟩ := S23.still C28
  replace b22 := K30.blk 0 rfl b22
  replace b17 := K30.blk 1 rfl b17
  refine lv (d := 11) rfl rfl (by kernel_rfl) (e_notv (c := t25) (by kernel_rfl)) ?_
  refine wpList_nil ?_
  refine then_n ?_
  by_cases q31 : ¬ (t25 = true)
  · replace M := ifp q31 M
    refine cond_t rfl (bt q31 (by kernel_rfl)) ?_
    refine wp_seq ?_
    refine wp_region_lit ?_
    refine lv (d := 4) rfl rfl (by kernel_rfl) (e_assign (v := .slice none 0 0) rfl) ?_
    refine lv (d := 5) rfl rfl (by kernel_rfl) (e_assign (v := .int .i64 1) rfl) ?_
    refine wpList_nil ?_
    refine then_n ?_
    refine wp_ret ?_
    refine then_r ?_
    obtain rfl := Option.some.inj M
    have S32 := S29.unit
    have S33 := St.first (Fa := [no]) (Fr := [(is g21), (is g16)]) S32
    exact ret2 rfl rfl rfl (show _ = .slice none 0 0 from (by kernel_rfl)) (show _ = .int .i64 1 from (by kernel_rfl)) ⟨none, 0, no, H, rfl, (Row.nil _ _ _ _ no), S33⟩
  replace M := ifn q31 M
  refine cond_f rfl (bf q31 (by kernel_rfl)) ?_
  refine wp_skip ?_
  refine then_n ?_
  refine wp_seq ?_
  refine wp_region_lit ?_
  refine lv (d := 13) rfl rfl (by kernel_rfl) (e_loadS (b := g21) (off := 0) (cs := [.int .i64 x10.kind, .int .i64 x10.n, .slice A11 x10.text.length c12]) Try.underlying36 rfl (by kernel_rfl) (by kernel_rfl) (blk_cells b22 rfl)) ?_
  have S34 := S29.unit
  have S35 := S34.pull (F := (is g16)) (Fr := [no, (is g21)]) 2 rfl rfl
  obtain ⟨t36, u37, M⟩ := bnd M
  refine lcall (d := 14) rfl rfl (by kernel_rfl) (e_call (l := [.tmp 2, .tmp 13, .const (.slice none 0 0), .const (.int .i64 2000)]) (vs := [.pointer (some ⟨g16, 0, none⟩), .agg #[.int .i64 x10.kind, .int .i64 x10.n, .slice A11 x10.text.length c12], .slice none 0 0, .int .i64 2000]) Try.func55 (by kernel_rfl) rfl (by kernel_rfl) rfl) (impl_Store_term_2.calls k w27 H x1 g16 A2 c3 A6 c7 x10 A11 c12 [] none 0 no 2000 h4 l5 h8 l9 b17 h13 l14 (Row.nil _ _ _ _ no) (St.own' (Fa := [(is g16), no]) (Fr := [(is g21)]) S35) t36 u37) ?_
  rintro _ w38 ⟨A42, c43, F45, H39, rfl, b41, h44, T40⟩
  refine ⟨_, rfl, ?_⟩
  obtain ⟨S46, K47⟩ := St.call (Fa := [(is g16), no]) (Fr := [(is g21)]) S35 T40
  replace b22 := K47.blk 0 rfl b22
  have E48 := T40.ext
  refine lv (d := 12) rfl rfl (by kernel_rfl) (e_move (v := .tuple #[.slice A42 t36.1.length c43, .bool t36.2]) (by kernel_rfl)) ?_
  refine lv (d := 15) rfl rfl (by kernel_rfl) (e_extract (vs := #[.slice A42 t36.1.length c43, .bool t36.2]) (v := .slice A42 t36.1.length c43) (by kernel_rfl) rfl) ?_
  refine lv (d := 16) rfl rfl (by kernel_rfl) (e_extract (vs := #[.slice A42 t36.1.length c43, .bool t36.2]) (v := .bool t36.2) (by kernel_rfl) rfl) ?_
  refine lv (d := 6) rfl rfl (by kernel_rfl) (e_assign (v := .slice A42 t36.1.length c43) (by kernel_rfl)) ?_
  refine lv (d := 7) rfl rfl (by kernel_rfl) (e_assign (v := .bool t36.2) (by kernel_rfl)) ?_
  refine wpList_nil ?_
  refine then_n ?_
  refine wp_seq ?_
  refine wp_seq ?_
  refine wp_region_lit ?_
  refine lv (d := 17) rfl rfl (by kernel_rfl) (e_move (v := .bool t36.2) (by kernel_rfl)) ?_
  refine lv (d := 18) rfl rfl (by kernel_rfl) (e_notv (c := t36.2) (by kernel_rfl)) ?_
  refine wpList_nil ?_
  refine then_n ?_
  by_cases q49 : ¬ (t36.2 = true)
  · replace M := ifp q49 M
    refine cond_t rfl (bt q49 (by kernel_rfl)) ?_
    refine wp_seq ?_
    refine wp_region_lit ?_
    refine lv (d := 4) rfl rfl (by kernel_rfl) (e_assign (v := .slice none 0 0) rfl) ?_
    refine lv (d := 5) rfl rfl (by kernel_rfl) (e_assign (v := .int .i64 3) rfl) ?_
    refine wpList_nil ?_
    refine then_n ?_
    refine wp_ret ?_
    refine then_r ?_
    obtain rfl := Option.some.inj M
    have S50 := S46.unit
    have S51 := St.first (Fa := [no]) (Fr := [(is g16), F45, (is g21)]) S50
    exact ret2 rfl rfl rfl (show _ = .slice none 0 0 from (by kernel_rfl)) (show _ = .int .i64 3 from (by kernel_rfl)) ⟨none, 0, no, H39, rfl, (Row.nil _ _ _ _ no), S51⟩
  replace M := ifn q49 M
  refine cond_f rfl (bf q49 (by kernel_rfl)) ?_
  refine wp_skip ?_
  refine then_n ?_
  refine wp_seq ?_
  refine wp_region_lit ?_
  refine lv (d := 19) rfl rfl (by kernel_rfl) (e_move (v := .slice A42 t36.1.length c43) (by kernel_rfl)) ?_
  refine lv (d := 4) rfl rfl (by kernel_rfl) (e_assign (v := .slice A42 t36.1.length c43) (by kernel_rfl)) ?_
  refine lv (d := 5) rfl rfl (by kernel_rfl) (e_assign (v := .int .i64 0) rfl) ?_
  refine wpList_nil ?_
  refine then_n ?_
  refine wp_ret ?_
  obtain rfl := Option.some.inj M
  have S52 := S46.pull (F := F45) (Fr := [(is g16), (is g21)]) 1 rfl rfl
  have S53 := St.first (Fa := [F45]) (Fr := [(is g16), (is g21)]) S52
  exact ret2 rfl rfl rfl (show _ = .slice A42 t36.1.length c43 from (by kernel_rfl)) (show _ = .int .i64 0 from (by kernel_rfl)) ⟨A42, c43, F45, H39, rfl, h44, S53⟩

/-! laws_eqByteS -/
def laws_eqByteS.l0 : Nat → (List UInt8) → (List UInt8) → Int → Option Bool
  | 0, _, _, _ => none
  | k23 + 1, x1, x6, x14 => (if x14 < (x1.length : Int) then (if 0 ≤ x14 then (if x14 < (x6.length : Int) then (if ((x1.getD ((x14).toNat) (0 : UInt8)).toNat : Int) ≠ ((x6.getD ((x14).toNat) (0 : UInt8)).toNat : Int) then some false else (laws_eqByteS.l0 k23 x1 x6 (IntKind.i64.wrap (x14 + 1)))) else none) else none) else some true)
def laws_eqByteS.f (k : Nat) (x1 : List UInt8) (x6 : List UInt8) : Option Bool := (if (x1.length : Int) ≠ (x6.length : Int) then some false else (laws_eqByteS.l0 k x1 x6 0))
theorem laws_eqByteS.calls (k : Nat) (w : World) (H : Hp) (x1 : List UInt8) (A2 : Option Addr) (c3 : Nat) (x6 : List UInt8) (A7 : Option Addr) (c8 : Nat) (h4 : Rd tByte H A2 x1) (l5 : x1.length ≤ c3) (h9 : Rd tByte H A7 x6) (l10 : x6.length ≤ c8) (S : Own [] H w) (r : Bool) (M : laws_eqByteS.f k x1 x6 = some r) :
    Calls Try.prog 45 #[.slice A2 x1.length c3, .slice A7 x6.length c8] w (fun e e_w => e = .returned (.bool r) ∧ Chg no w e_w) := by
  rw [laws_eqByteS.f] at M
  refine enter (l := [.slice A2 x1.length c3, .slice A7 x6.length c8]) 26 Try.func45 rfl rfl rfl ?_
  have S0_ := S.st
  refine wp_seq ?_
  refine wp_region_lit ?_
  refine lv (d := 4) rfl rfl (by kernel_rfl) (e_assign (v := .bool false) rfl) ?_
  refine wpList_nil ?_
  refine then_n ?_
  refine wp_seq ?_
  refine wp_seq ?_
  refine wp_region_lit ?_
  refine lv (d := 6) rfl rfl (by kernel_rfl) (e_move (v := .slice A2 x1.length c3) (by kernel_rfl)) ?_
  refine lv (d := 7) rfl rfl (by kernel_rfl) (e_len (A := A2) (n := x1.length) (c := c3) Try.underlying26 (by kernel_rfl)) ?_
  refine lv (d := 8) rfl rfl (by kernel_rfl) (e_move (v := .slice A7 x6.length c8) (by kernel_rfl)) ?_
  refine lv (d := 9) rfl rfl (by kernel_rfl) (e_len (A := A7) (n := x6.length) (c := c8) Try.underlying26 (by kernel_rfl)) ?_
  refine lv (d := 10) rfl rfl (by kernel_rfl) (e_neq (k := .i64) (a := (x1.length : Int)) (b := (x6.length : Int)) (by kernel_rfl) (by kernel_rfl)) ?_
  refine wpList_nil ?_
  refine then_n ?_
  by_cases q11 : (x1.length : Int) ≠ (x6.length : Int)
  · replace M := ifp q11 M
    refine cond_t rfl (bt q11 (by kernel_rfl)) ?_
    refine wp_seq ?_
    refine wp_region_lit ?_
    refine lv (d := 4) rfl rfl (by kernel_rfl) (e_assign (v := .bool false) rfl) ?_
    refine wpList_nil ?_
    refine then_n ?_
    refine wp_ret ?_
    refine then_r ?_
    obtain rfl := Option.some.inj M
    exact ret1 rfl rfl  (show _ = .bool false from (by kernel_rfl)) ⟨rfl, S0_.chg⟩
  replace M := ifn q11 M
  refine cond_f rfl (bf q11 (by kernel_rfl)) ?_
  refine wp_skip ?_
  refine then_n ?_
  refine wp_seq ?_
  refine wp_seq ?_
  refine wp_region_lit ?_
  refine lv (d := 5) rfl rfl (by kernel_rfl) (e_assign (v := .int .i64 0) rfl) ?_
  refine wpList_nil ?_
  refine then_n ?_
  refine wp_block ?_
  refine wp_loop_g (fun k21 a22 w12 => ∃ (f13 : Nat → Value) (x14 : Int), a22 = mk 26 f13 ∧ f13 0 = .slice A2 x1.length c3 ∧ f13 1 = .slice A7 x6.length c8 ∧ f13 5 = .int .i64 x14 ∧ St (anyOf []) H w [] H w12 ∧ laws_eqByteS.l0 k21 x1 x6 x14 = some r) k ⟨_, 0, rfl, (by kernel_rfl), (by kernel_rfl), (by kernel_rfl), S0_, M⟩ ?_
  clear M
  rintro k21 a22 w12 ⟨f13, x14, rfl, e15, e16, e17, S18, M⟩
  rcases k21 with _ | k23
  · rw [laws_eqByteS.l0] at M
    cases M
  rw [laws_eqByteS.l0] at M
  refine wp_seq ?_
  refine wp_seq ?_
  refine wp_region_lit ?_
  refine lv (d := 11) rfl rfl (by kernel_rfl) (e_move (v := .int .i64 x14) (by exact e17)) ?_
  refine lv (d := 12) rfl rfl (by kernel_rfl) (e_move (v := .slice A2 x1.length c3) (by exact e15)) ?_
  refine lv (d := 13) rfl rfl (by kernel_rfl) (e_len (A := A2) (n := x1.length) (c := c3) Try.underlying26 (by kernel_rfl)) ?_
  refine lv (d := 14) rfl rfl (by kernel_rfl) (e_lss (k := .i64) (a := x14) (b := (x1.length : Int)) (by kernel_rfl) (by kernel_rfl)) ?_
  refine wpList_nil ?_
  refine then_n ?_
  by_cases q24 : x14 < (x1.length : Int)
  · replace M := ifp q24 M
    refine cond_t rfl (bt q24 (by kernel_rfl)) ?_
    refine wp_skip ?_
    refine then_n ?_
    refine wp_seq ?_
    refine wp_block ?_
    refine wp_seq ?_
    refine region_still (by kernel_rfl) (by kernel_rfl) S18 ?_
    intro w25 S26 K27
    refine sv (d := 17) rfl rfl (by kernel_rfl) (e_move (v := .slice A2 x1.length c3) (by exact e15)) ?_
    refine sv (d := 18) rfl rfl (by kernel_rfl) (e_move (v := .int .i64 x14) (by exact e17)) ?_
    obtain ⟨q28, M⟩ := chk M
    obtain ⟨b29, o30, e31⟩ := Rd.addr h4 (show (x14).toNat < x1.length by omega)
    obtain ⟨y32, r33, k34⟩ := Rd.at h4 e31 (getD_some (0 : UInt8) (show (x14).toNat < x1.length by omega))
    obtain rfl := r33
    refine sv (d := 19) rfl rfl (by kernel_rfl) (e_indexAddr (b := b29) (off := o30) (n := x1.length) (c := c3) (sz := 1) (i := x14) (k := .i64) Try.underlying26 e31 (by kernel_rfl) (by kernel_rfl) (by kernel_rfl) q28 q24) ?_
    refine sv (d := 20) rfl rfl (by kernel_rfl) (e_load1 (ad := ⟨b29, o30 + (x14 : Int).toNat * 1, none⟩) (v := .int .u8 ((x1.getD ((x14).toNat) (0 : UInt8)).toNat : Int)) Try.underlying5 rfl (by kernel_rfl) (hpx (S26.inv.cell (k34 0 _ rfl)))) ?_
    refine sv (d := 21) rfl rfl (by kernel_rfl) (e_move (v := .slice A7 x6.length c8) (by exact e16)) ?_
    refine sv (d := 22) rfl rfl (by kernel_rfl) (e_move (v := .int .i64 x14) (by exact e17)) ?_
    obtain ⟨q35, M⟩ := chk M
    obtain ⟨b36, o37, e38⟩ := Rd.addr h9 (show (x14).toNat < x6.length by omega)
    obtain ⟨y39, r40, k41⟩ := Rd.at h9 e38 (getD_some (0 : UInt8) (show (x14).toNat < x6.length by omega))
    obtain rfl := r40
    refine sv (d := 23) rfl rfl (by kernel_rfl) (e_indexAddr (b := b36) (off := o37) (n := x6.length) (c := c8) (sz := 1) (i := x14) (k := .i64) Try.underlying26 e38 (by kernel_rfl) (by kernel_rfl) (by kernel_rfl) q28 q35) ?_
    refine sv (d := 24) rfl rfl (by kernel_rfl) (e_load1 (ad := ⟨b36, o37 + (x14 : Int).toNat * 1, none⟩) (v := .int .u8 ((x6.getD ((x14).toNat) (0 : UInt8)).toNat : Int)) Try.underlying5 rfl (by kernel_rfl) (hpx (S26.inv.cell (k41 0 _ rfl)))) ?_
    refine sv (d := 25) rfl rfl (by kernel_rfl) (e_neq (k := .u8) (a := ((x1.getD ((x14).toNat) (0 : UInt8)).toNat : Int)) (b := ((x6.getD ((x14).toNat) (0 : UInt8)).toNat : Int)) (by kernel_rfl) (by kernel_rfl)) ?_
    refine wpStill_nil ?_
    refine then_n ?_
    by_cases q42 : ((x1.getD ((x14).toNat) (0 : UInt8)).toNat : Int) ≠ ((x6.getD ((x14).toNat) (0 : UInt8)).toNat : Int)
    · replace M := ifp q42 M
      refine cond_t rfl (bt q42 (by kernel_rfl)) ?_
      refine wp_seq ?_
      refine wp_region_lit ?_
      refine lv (d := 4) rfl rfl (by kernel_rfl) (e_assign (v := .bool false) rfl) ?_
      refine wpList_nil ?_
      refine then_n ?_
      refine wp_ret ?_
      refine inb_r ?_
      refine then_r ?_
      refine then_r ?_
      refine inb_r ?_
      refine then_r ?_
      obtain rfl := Option.some.inj M
      exact ret1 rfl rfl  (show _ = .bool false from (by kernel_rfl)) ⟨rfl, S26.chg⟩
    replace M := ifn q42 M
    refine cond_f rfl (bf q42 (by kernel_rfl)) ?_
    refine wp_skip ?_
    refine inb_n ?_
    refine then_n ?_
    refine wp_region_lit ?_
    refine lv (d := 15) rfl rfl (by kernel_rfl) (e_move (v := .int .i64 x14) (by exact e17)) ?_
    refine lv (d := 16) rfl rfl (by kernel_rfl) (e_add (k := .i64) (a := x14) (b := 1) (by kernel_rfl) rfl) ?_
    refine lv (d := 5) rfl rfl (by kernel_rfl) (e_assign (v := .int .i64 (IntKind.i64.wrap (x14 + 1))) (by kernel_rfl)) ?_
    refine wpList_nil ?_
    refine then_n ?_
    exact ⟨k23, (by omega), _, (IntKind.i64.wrap (x14 + 1)), rfl, (by exact e15), (by exact e16), (by kernel_rfl), S26, M⟩
  replace M := ifn q24 M
  refine cond_f rfl (bf q24 (by kernel_rfl)) ?_
  refine wp_exit ?_
  refine then_e ?_
  refine then_e ?_
  refine inb_hit ?_
  refine then_n ?_
  refine wp_seq ?_
  refine wp_region_lit ?_
  refine lv (d := 4) rfl rfl (by kernel_rfl) (e_assign (v := .bool true) rfl) ?_
  refine wpList_nil ?_
  refine then_n ?_
  refine wp_ret ?_
  obtain rfl := Option.some.inj M
  exact ret1 rfl rfl  (show _ = .bool true from (by kernel_rfl)) ⟨rfl, S18.chg⟩

/-! laws_eqCell -/
def laws_eqCell.f (k : Nat) (x1 : Cell) (x6 : Cell) : Option Bool := (if x1.kind ≠ x6.kind then some false else (if x1.n ≠ x6.n then some false else ((laws_eqByteS.f k x1.text x6.text).bind fun t23 => (if ¬ (t23 = true) then some false else some true))))
theorem laws_eqCell.calls (k : Nat) (w : World) (H : Hp) (x1 : Cell) (A2 : Option Addr) (c3 : Nat) (x6 : Cell) (A7 : Option Addr) (c8 : Nat) (h4 : Rd tByte H A2 x1.text) (l5 : x1.text.length ≤ c3) (h9 : Rd tByte H A7 x6.text) (l10 : x6.text.length ≤ c8) (S : Own [] H w) (r : Bool) (M : laws_eqCell.f k x1 x6 = some r) :
    Calls Try.prog 16 #[.agg #[.int .i64 x1.kind, .int .i64 x1.n, .slice A2 x1.text.length c3], .agg #[.int .i64 x6.kind, .int .i64 x6.n, .slice A7 x6.text.length c8]] w (fun e e_w => e = .returned (.bool r) ∧ Chg no w e_w) := by
  rw [laws_eqCell.f] at M
  refine enter (l := [.agg #[.int .i64 x1.kind, .int .i64 x1.n, .slice A2 x1.text.length c3], .agg #[.int .i64 x6.kind, .int .i64 x6.n, .slice A7 x6.text.length c8]]) 21 Try.func16 rfl rfl rfl ?_
  have S0_ := S.st
  refine wp_seq ?_
  refine wp_region_lit ?_
  refine lve (d := 2) rfl rfl (by kernel_rfl) (new_blk (v := fun g_ => .pointer (some ⟨g_, 0, none⟩)) (cs := #[.int .i64 x1.kind, .int .i64 x1.n, .slice A2 x1.text.length c3]) (t := 36) S0_ (by kernel_rfl)) ?_
  rintro _ w11 ⟨g12, rfl, b13, S14, K15⟩
  refine lve (d := 3) rfl rfl (by kernel_rfl) (new_blk (v := fun g_ => .pointer (some ⟨g_, 0, none⟩)) (cs := #[.int .i64 x6.kind, .int .i64 x6.n, .slice A7 x6.text.length c8]) (t := 36) S14 (by kernel_rfl)) ?_
  rintro _ w16 ⟨g17, rfl, b18, S19, K20⟩
  replace b13 := K20.blk 0 rfl b13
  refine lv (d := 4) rfl rfl (by kernel_rfl) (e_assign (v := .bool false) rfl) ?_
  refine wpList_nil ?_
  refine then_n ?_
  refine wp_seq ?_
  refine wp_seq ?_
  refine wp_region_lit ?_
  refine lv (d := 5) rfl rfl (by kernel_rfl) (e_fieldAddr (b := g12) (off := 0) (o := 0) Try.underlying36 rfl rfl (sz := 1) (by kernel_rfl) (by decide) (by kernel_rfl)) ?_
  refine lv (d := 6) rfl rfl (by kernel_rfl) (e_load1 (ad := ⟨g12, 0 + 0, none⟩) (v := .int .i64 x1.kind) Try.underlying3 rfl (by kernel_rfl) (blk_cell b13 rfl)) ?_
  refine lv (d := 7) rfl rfl (by kernel_rfl) (e_fieldAddr (b := g17) (off := 0) (o := 0) Try.underlying36 rfl rfl (sz := 1) (by kernel_rfl) (by decide) (by kernel_rfl)) ?_
  refine lv (d := 8) rfl rfl (by kernel_rfl) (e_load1 (ad := ⟨g17, 0 + 0, none⟩) (v := .int .i64 x6.kind) Try.underlying3 rfl (by kernel_rfl) (blk_cell b18 rfl)) ?_
  refine lv (d := 9) rfl rfl (by kernel_rfl) (e_neq (k := .i64) (a := x1.kind) (b := x6.kind) (by kernel_rfl) (by kernel_rfl)) ?_
  refine wpList_nil ?_
  refine then_n ?_
  by_cases q21 : x1.kind ≠ x6.kind
  · replace M := ifp q21 M
    refine cond_t rfl (bt q21 (by kernel_rfl)) ?_
    refine wp_seq ?_
    refine wp_region_lit ?_
    refine lv (d := 4) rfl rfl (by kernel_rfl) (e_assign (v := .bool false) rfl) ?_
    refine wpList_nil ?_
    refine then_n ?_
    refine wp_ret ?_
    refine then_r ?_
    obtain rfl := Option.some.inj M
    exact ret1 rfl rfl  (show _ = .bool false from (by kernel_rfl)) ⟨rfl, S19.chg⟩
  replace M := ifn q21 M
  refine cond_f rfl (bf q21 (by kernel_rfl)) ?_
  refine wp_skip ?_
  refine then_n ?_
  refine wp_seq ?_
  refine wp_seq ?_
  refine wp_region_lit ?_
  refine lv (d := 10) rfl rfl (by kernel_rfl) (e_fieldAddr (b := g12) (off := 0) (o := 1) Try.underlying36 rfl rfl (sz := 1) (by kernel_rfl) (by decide) (by kernel_rfl)) ?_
  refine lv (d := 11) rfl rfl (by kernel_rfl) (e_load1 (ad := ⟨g12, 0 + 1, none⟩) (v := .int .i64 x1.n) Try.underlying3 rfl (by kernel_rfl) (blk_cell b13 rfl)) ?_
  refine lv (d := 12) rfl rfl (by kernel_rfl) (e_fieldAddr (b := g17) (off := 0) (o := 1) Try.underlying36 rfl rfl (sz := 1) (by kernel_rfl) (by decide) (by kernel_rfl)) ?_
  refine lv (d := 13) rfl rfl (by kernel_rfl) (e_load1 (ad := ⟨g17, 0 + 1, none⟩) (v := .int .i64 x6.n) Try.underlying3 rfl (by kernel_rfl) (blk_cell b18 rfl)) ?_
  refine lv (d := 14) rfl rfl (by kernel_rfl) (e_neq (k := .i64) (a := x1.n) (b := x6.n) (by kernel_rfl) (by kernel_rfl)) ?_
  refine wpList_nil ?_
  refine then_n ?_
  by_cases q22 : x1.n ≠ x6.n
  · replace M := ifp q22 M
    refine cond_t rfl (bt q22 (by kernel_rfl)) ?_
    refine wp_seq ?_
    refine wp_region_lit ?_
    refine lv (d := 4) rfl rfl (by kernel_rfl) (e_assign (v := .bool false) rfl) ?_
    refine wpList_nil ?_
    refine then_n ?_
    refine wp_ret ?_
    refine then_r ?_
    obtain rfl := Option.some.inj M
    exact ret1 rfl rfl  (show _ = .bool false from (by kernel_rfl)) ⟨rfl, S19.chg⟩
  replace M := ifn q22 M
  refine cond_f rfl (bf q22 (by kernel_rfl)) ?_
  refine wp_skip ?_
  refine then_n ?_
  refine wp_seq ?_
  refine wp_seq ?_
  refine wp_region_lit ?_
  refine lv (d := 15) rfl rfl (by kernel_rfl) (e_fieldAddr (b := g12) (off := 0) (o := 2) Try.underlying36 rfl rfl (sz := 1) (by kernel_rfl) (by decide) (by kernel_rfl)) ?_
  refine lv (d := 16) rfl rfl (by kernel_rfl) (e_load1 (ad := ⟨g12, 0 + 2, none⟩) (v := .slice A2 x1.text.length c3) Try.underlying26 rfl (by kernel_rfl) (blk_cell b13 rfl)) ?_
  refine lv (d := 17) rfl rfl (by kernel_rfl) (e_fieldAddr (b := g17) (off := 0) (o := 2) Try.underlying36 rfl rfl (sz := 1) (by kernel_rfl) (by decide) (by kernel_rfl)) ?_
  refine lv (d := 18) rfl rfl (by kernel_rfl) (e_load1 (ad := ⟨g17, 0 + 2, none⟩) (v := .slice A7 x6.text.length c8) Try.underlying26 rfl (by kernel_rfl) (blk_cell b18 rfl)) ?_
  obtain ⟨t23, u24, M⟩ := bnd M
  refine lcall (d := 19) rfl rfl (by kernel_rfl) (e_call (l := [.tmp 16, .tmp 18]) (vs := [.slice A2 x1.text.length c3, .slice A7 x6.text.length c8]) Try.func45 (by kernel_rfl) rfl (by kernel_rfl) rfl) (laws_eqByteS.calls k w16 H x1.text A2 c3 x6.text A7 c8 h4 l5 h9 l10 S19.own0 t23 u24) ?_
  rintro _ w25 ⟨rfl, C26⟩
  refine ⟨_, rfl, ?_⟩
  obtain ⟨S27, K28⟩ := S19.still C26
  replace b18 := K28.blk 0 rfl b18
  replace b13 := K28.blk 1 rfl b13
  refine lv (d := 20) rfl rfl (by kernel_rfl) (e_notv (c := t23) (by kernel_rfl)) ?_
  refine wpList_nil ?_
  refine then_n ?_
  by_cases q29 : ¬ (t23 = true)
  · replace M := ifp q29 M
    refine cond_t rfl (bt q29 (by kernel_rfl)) ?_
    refine wp_seq ?_
    refine wp_region_lit ?_
    refine lv (d := 4) rfl rfl (by kernel_rfl) (e_assign (v := .bool false) rfl) ?_
    refine wpList_nil ?_
    refine then_n ?_
    refine wp_ret ?_
    refine then_r ?_
    obtain rfl := Option.some.inj M
    exact ret1 rfl rfl  (show _ = .bool false from (by kernel_rfl)) ⟨rfl, S27.chg⟩
  replace M := ifn q29 M
  refine cond_f rfl (bf q29 (by kernel_rfl)) ?_
  refine wp_skip ?_
  refine then_n ?_
  refine wp_seq ?_
  refine wp_region_lit ?_
  refine lv (d := 4) rfl rfl (by kernel_rfl) (e_assign (v := .bool true) rfl) ?_
  refine wpList_nil ?_
  refine then_n ?_
  refine wp_ret ?_
  obtain rfl := Option.some.inj M
  exact ret1 rfl rfl  (show _ = .bool true from (by kernel_rfl)) ⟨rfl, S27.chg⟩

/-! laws_eqCellS -/
def laws_eqCellS.l0 : Nat → (List Cell) → (List Cell) → Int → Option Bool
  | 0, _, _, _ => none
  | k23 + 1, x1, x6, x14 => (if x14 < (x1.length : Int) then (if 0 ≤ x14 then (if x14 < (x6.length : Int) then ((laws_eqCell.f k23 (x1.getD ((x14).toNat) z36) (x6.getD ((x14).toNat) z36)).bind fun t47 => (if ¬ (t47 = true) then some false else (laws_eqCellS.l0 k23 x1 x6 (IntKind.i64.wrap (x14 + 1))))) else none) else none) else some true)
def laws_eqCellS.f (k : Nat) (x1 : List Cell) (x6 : List Cell) : Option Bool := (if (x1.length : Int) ≠ (x6.length : Int) then some false else (laws_eqCellS.l0 k x1 x6 0))
theorem laws_eqCellS.calls (k : Nat) (w : World) (H : Hp) (x1 : List Cell) (A2 : Option Addr) (c3 : Nat) (x6 : List Cell) (A7 : Option Addr) (c8 : Nat) (h4 : Rd st36 H A2 x1) (l5 : x1.length ≤ c3) (h9 : Rd st36 H A7 x6) (l10 : x6.length ≤ c8) (S : Own [] H w) (r : Bool) (M : laws_eqCellS.f k x1 x6 = some r) :
    Calls Try.prog 24 #[.slice A2 x1.length c3, .slice A7 x6.length c8] w (fun e e_w => e = .returned (.bool r) ∧ Chg no w e_w) := by
  rw [laws_eqCellS.f] at M
  refine enter (l := [.slice A2 x1.length c3, .slice A7 x6.length c8]) 27 Try.func24 rfl rfl rfl ?_
  have S0_ := S.st
  refine wp_seq ?_
  refine wp_region_lit ?_
  refine lv (d := 4) rfl rfl (by kernel_rfl) (e_assign (v := .bool false) rfl) ?_
  refine wpList_nil ?_
  refine then_n ?_
  refine wp_seq ?_
  refine wp_seq ?_
  refine wp_region_lit ?_
  refine lv (d := 6) rfl rfl (by kernel_rfl) (e_move (v := .slice A2 x1.length c3) (by kernel_rfl)) ?_
  refine lv (d := 7) rfl rfl (by kernel_rfl) (e_len (A := A2) (n := x1.length) (c := c3) Try.underlying32 (by kernel_rfl)) ?_
  refine lv (d := 8) rfl rfl (by kernel_rfl) (e_move (v := .slice A7 x6.length c8) (by kernel_rfl)) ?_
  refine lv (d := 9) rfl rfl (by kernel_rfl) (e_len (A := A7) (n := x6.length) (c := c8) Try.underlying32 (by kernel_rfl)) ?_
  refine lv (d := 10) rfl rfl (by kernel_rfl) (e_neq (k := .i64) (a := (x1.length : Int)) (b := (x6.length : Int)) (by kernel_rfl) (by kernel_rfl)) ?_
  refine wpList_nil ?_
  refine then_n ?_
  by_cases q11 : (x1.length : Int) ≠ (x6.length : Int)
  · replace M := ifp q11 M
    refine cond_t rfl (bt q11 (by kernel_rfl)) ?_
    refine wp_seq ?_
    refine wp_region_lit ?_
    refine lv (d := 4) rfl rfl (by kernel_rfl) (e_assign (v := .bool false) rfl) ?_
    refine wpList_nil ?_
    refine then_n ?_
    refine wp_ret ?_
    refine then_r ?_
    obtain rfl := Option.some.inj M
    exact ret1 rfl rfl  (show _ = .bool false from (by kernel_rfl)) ⟨rfl, S0_.chg⟩
  replace M := ifn q11 M
  refine cond_f rfl (bf q11 (by kernel_rfl)) ?_
  refine wp_skip ?_
  refine then_n ?_
  refine wp_seq ?_
  refine wp_seq ?_
  refine wp_region_lit ?_
  refine lv (d := 5) rfl rfl (by kernel_rfl) (e_assign (v := .int .i64 0) rfl) ?_
  refine wpList_nil ?_
  refine then_n ?_
  refine wp_block ?_
  refine wp_loop_g (fun k21 a22 w12 => ∃ (f13 : Nat → Value) (x14 : Int), a22 = mk 27 f13 ∧ f13 0 = .slice A2 x1.length c3 ∧ f13 1 = .slice A7 x6.length c8 ∧ f13 5 = .int .i64 x14 ∧ St (anyOf []) H w [] H w12 ∧ laws_eqCellS.l0 k21 x1 x6 x14 = some r) k ⟨_, 0, rfl, (by kernel_rfl), (by kernel_rfl), (by kernel_rfl), S0_, M⟩ ?_
  clear M
  rintro k21 a22 w12 ⟨f13, x14, rfl, e15, e16, e17, S18, M⟩
  rcases k21 with _ | k23
  · rw [laws_eqCellS.l0] at M
    cases M
  rw [laws_eqCellS.l0] at M
  refine wp_seq ?_
  refine wp_seq ?_
  refine wp_region_lit ?_
  refine lv (d := 11) rfl rfl (by kernel_rfl) (e_move (v := .int .i64 x14) (by exact e17)) ?_
  refine lv (d := 12) rfl rfl (by kernel_rfl) (e_move (v := .slice A2 x1.length c3) (by exact e15)) ?_
  refine lv (d := 13) rfl rfl (by kernel_rfl) (e_len (A := A2) (n := x1.length) (c := c3) Try.underlying32 (by kernel_rfl)) ?_
  refine lv (d := 14) rfl rfl (by kernel_rfl) (e_lss (k := .i64) (a := x14) (b := (x1.length : Int)) (by kernel_rfl) (by kernel_rfl)) ?_
  refine wpList_nil ?_
  refine then_n ?_
  by_cases q24 : x14 < (x1.length : Int)
  · replace M := ifp q24 M
    refine cond_t rfl (bt q24 (by kernel_rfl)) ?_
    refine wp_skip ?_
    refine then_n ?_
    refine wp_seq ?_
    refine wp_block ?_
    refine wp_seq ?_
    refine region_quiet (by kernel_rfl) (by kernel_rfl) ?_
    refine qv (d := 17) rfl rfl (by kernel_rfl) (fun wq_ hq_ => e_move (v := .slice A2 x1.length c3) (by exact e15)) ?_
    refine qv (d := 18) rfl rfl (by kernel_rfl) (fun wq_ hq_ => e_move (v := .int .i64 x14) (by exact e17)) ?_
    obtain ⟨q25, M⟩ := chk M
    obtain ⟨b26, o27, e28⟩ := Rd.addr h4 (show (x14).toNat < x1.length by omega)
    obtain ⟨y29, r30, k31⟩ := Rd.at h4 e28 (getD_some z36 (show (x14).toNat < x1.length by omega))
    obtain ⟨A32, c33, rfl, l34, h35⟩ := st36_open r30
    refine qv (d := 19) rfl rfl (by kernel_rfl) (fun wq_ hq_ => e_indexAddr (b := b26) (off := o27) (n := x1.length) (c := c3) (sz := 3) (i := x14) (k := .i64) Try.underlying32 e28 (by kernel_rfl) (by kernel_rfl) (by kernel_rfl) q25 q24) ?_
    refine qv (d := 20) rfl rfl (by kernel_rfl) (fun wq_ hq_ => e_loadS (b := b26) (off := o27 + (x14 : Int).toNat * 3) (cs := [.int .i64 ((x1.getD ((x14).toNat) z36).kind), .int .i64 ((x1.getD ((x14).toNat) z36).n), .slice A32 ((x1.getD ((x14).toNat) z36).text).length c33]) Try.underlying36 rfl (by kernel_rfl) (by kernel_rfl) (fun j_ u_ e_ => (hpx ((S18.still hq_).1.inv.cell (k31 j_ u_ e_))))) ?_
    refine qv (d := 21) rfl rfl (by kernel_rfl) (fun wq_ hq_ => e_move (v := .slice A7 x6.length c8) (by exact e16)) ?_
    refine qv (d := 22) rfl rfl (by kernel_rfl) (fun wq_ hq_ => e_move (v := .int .i64 x14) (by exact e17)) ?_
    obtain ⟨q36, M⟩ := chk M
    obtain ⟨b37, o38, e39⟩ := Rd.addr h9 (show (x14).toNat < x6.length by omega)
    obtain ⟨y40, r41, k42⟩ := Rd.at h9 e39 (getD_some z36 (show (x14).toNat < x6.length by omega))
    obtain ⟨A43, c44, rfl, l45, h46⟩ := st36_open r41
    refine qv (d := 23) rfl rfl (by kernel_rfl) (fun wq_ hq_ => e_indexAddr (b := b37) (off := o38) (n := x6.length) (c := c8) (sz := 3) (i := x14) (k := .i64) Try.underlying32 e39 (by kernel_rfl) (by kernel_rfl) (by kernel_rfl) q25 q36) ?_
    refine qv (d := 24) rfl rfl (by kernel_rfl) (fun wq_ hq_ => e_loadS (b := b37) (off := o38 + (x14 : Int).toNat * 3) (cs := [.int .i64 ((x6.getD ((x14).toNat) z36).kind), .int .i64 ((x6.getD ((x14).toNat) z36).n), .slice A43 ((x6.getD ((x14).toNat) z36).text).length c44]) Try.underlying36 rfl (by kernel_rfl) (by kernel_rfl) (fun j_ u_ e_ => (hpx ((S18.still hq_).1.inv.cell (k42 j_ u_ e_))))) ?_
    obtain ⟨t47, u48, M⟩ := bnd M
    refine qcall (v := .bool t47) (d := 25) rfl rfl (by kernel_rfl) (fun w_ => e_call (l := [.tmp 20, .tmp 24]) (vs := [.agg #[.int .i64 ((x1.getD ((x14).toNat) z36).kind), .int .i64 ((x1.getD ((x14).toNat) z36).n), .slice A32 ((x1.getD ((x14).toNat) z36).text).length c33], .agg #[.int .i64 ((x6.getD ((x14).toNat) z36).kind), .int .i64 ((x6.getD ((x14).toNat) z36).n), .slice A43 ((x6.getD ((x14).toNat) z36).text).length c44]]) Try.func16 (by kernel_rfl) rfl (by kernel_rfl) rfl) (fun wq_ hq_ => (by obtain ⟨S_, K_⟩ := S18.still hq_; exact (laws_eqCell.calls k23 wq_ H (x1.getD ((x14).toNat) z36) A32 c33 (x6.getD ((x14).toNat) z36) A43 c44 h35 l34 h46 l45 S_.own0 t47 u48))) ?_
    refine qv (d := 26) rfl rfl (by kernel_rfl) (fun wq_ hq_ => e_notv (c := t47) (by kernel_rfl)) ?_
    refine wpQuiet_nil ?_
    intro w49 C52
    obtain ⟨S50, K51⟩ := S18.still C52
    refine then_n ?_
    by_cases q53 : ¬ (t47 = true)
    · replace M := ifp q53 M
      refine cond_t rfl (bt q53 (by kernel_rfl)) ?_
      refine wp_seq ?_
      refine wp_region_lit ?_
      refine lv (d := 4) rfl rfl (by kernel_rfl) (e_assign (v := .bool false) rfl) ?_
      refine wpList_nil ?_
      refine then_n ?_
      refine wp_ret ?_
      refine inb_r ?_
      refine then_r ?_
      refine then_r ?_
      refine inb_r ?_
      refine then_r ?_
      obtain rfl := Option.some.inj M
      exact ret1 rfl rfl  (show _ = .bool false from (by kernel_rfl)) ⟨rfl, S50.chg⟩
    replace M := ifn q53 M
    refine cond_f rfl (bf q53 (by kernel_rfl)) ?_
    refine wp_skip ?_
    refine inb_n ?_
    refine then_n ?_
    refine wp_region_lit ?_
    refine lv (d := 15) rfl rfl (by kernel_rfl) (e_move (v := .int .i64 x14) (by exact e17)) ?_
    refine lv (d := 16) rfl rfl (by kernel_rfl) (e_add (k := .i64) (a := x14) (b := 1) (by kernel_rfl) rfl) ?_
    refine lv (d := 5) rfl rfl (by kernel_rfl) (e_assign (v := .int .i64 (IntKind.i64.wrap (x14 + 1))) (by kernel_rfl)) ?_
    refine wpList_nil ?_
    refine then_n ?_
    exact ⟨k23, (by omega), _, (IntKind.i64.wrap (x14 + 1)), rfl, (by exact e15), (by exact e16), (by kernel_rfl), S50, M⟩
  replace M := ifn q24 M
  refine cond_f rfl (bf q24 (by kernel_rfl)) ?_
  refine wp_exit ?_
  refine then_e ?_
  refine then_e ?_
  refine inb_hit ?_
  refine then_n ?_
  refine wp_seq ?_
  refine wp_region_lit ?_
  refine lv (d := 4) rfl rfl (by kernel_rfl) (e_assign (v := .bool true) rfl) ?_
  refine wpList_nil ?_
  refine then_n ?_
  refine wp_ret ?_
  obtain rfl := Option.some.inj M
  exact ret1 rfl rfl  (show _ = .bool true from (by kernel_rfl)) ⟨rfl, S18.chg⟩

/-! laws_eqIntS -/
def laws_eqIntS.l0 : Nat → (List Int) → (List Int) → Int → Option Bool
  | 0, _, _, _ => none
  | k23 + 1, x1, x6, x14 => (if x14 < (x1.length : Int) then (if 0 ≤ x14 then (if x14 < (x6.length : Int) then (if (x1.getD ((x14).toNat) (0 : Int)) ≠ (x6.getD ((x14).toNat) (0 : Int)) then some false else (laws_eqIntS.l0 k23 x1 x6 (IntKind.i64.wrap (x14 + 1)))) else none) else none) else some true)
def laws_eqIntS.f (k : Nat) (x1 : List Int) (x6 : List Int) : Option Bool := (if (x1.length : Int) ≠ (x6.length : Int) then some false else (laws_eqIntS.l0 k x1 x6 0))
theorem laws_eqIntS.calls (k : Nat) (w : World) (H : Hp) (x1 : List Int) (A2 : Option Addr) (c3 : Nat) (x6 : List Int) (A7 : Option Addr) (c8 : Nat) (h4 : Rd tInt H A2 x1) (l5 : x1.length ≤ c3) (h9 : Rd tInt H A7 x6) (l10 : x6.length ≤ c8) (S : Own [] H w) (r : Bool) (M : laws_eqIntS.f k x1 x6 = some r) :
    Calls Try.prog 44 #[.slice A2 x1.length c3, .slice A7 x6.length c8] w (fun e e_w => e = .returned (.bool r) ∧ Chg no w e_w) := by
  rw [laws_eqIntS.f] at M
  refine enter (l := [.slice A2 x1.length c3, .slice A7 x6.length c8]) 26 Try.func44 rfl rfl rfl ?_
  have S0_ := S.st
  refine wp_seq ?_
  refine wp_region_lit ?_
  refine lv (d := 4) rfl rfl (by kernel_rfl) (e_assign (v := .bool false) rfl) ?_
  refine wpList_nil ?_
  refine then_n ?_
  refine wp_seq ?_
  refine wp_seq ?_
  refine wp_region_lit ?_
  refine lv (d := 6) rfl rfl (by kernel_rfl) (e_move (v := .slice A2 x1.length c3) (by kernel_rfl)) ?_
  refine lv (d := 7) rfl rfl (by kernel_rfl) (e_len (A := A2) (n := x1.length) (c := c3) Try.underlying23 (by kernel_rfl)) ?_
  refine lv (d := 8) rfl rfl (by kernel_rfl) (e_move (v := .slice A7 x6.length c8) (by kernel_rfl)) ?_
  refine lv (d := 9) rfl rfl (by kernel_rfl) (e_len (A := A7) (n := x6.length) (c := c8) Try.underlying23 (by kernel_rfl)) ?_
  refine lv (d := 10) rfl rfl (by kernel_rfl) (e_neq (k := .i64) (a := (x1.length : Int)) (b := (x6.length : Int)) (by kernel_rfl) (by kernel_rfl)) ?_
  refine wpList_nil ?_
  refine then_n ?_
  by_cases q11 : (x1.length : Int) ≠ (x6.length : Int)
  · replace M := ifp q11 M
    refine cond_t rfl (bt q11 (by kernel_rfl)) ?_
    refine wp_seq ?_
    refine wp_region_lit ?_
    refine lv (d := 4) rfl rfl (by kernel_rfl) (e_assign (v := .bool false) rfl) ?_
    refine wpList_nil ?_
    refine then_n ?_
    refine wp_ret ?_
    refine then_r ?_
    obtain rfl := Option.some.inj M
    exact ret1 rfl rfl  (show _ = .bool false from (by kernel_rfl)) ⟨rfl, S0_.chg⟩
  replace M := ifn q11 M
  refine cond_f rfl (bf q11 (by kernel_rfl)) ?_
  refine wp_skip ?_
  refine then_n ?_
  refine wp_seq ?_
  refine wp_seq ?_
  refine wp_region_lit ?_
  refine lv (d := 5) rfl rfl (by kernel_rfl) (e_assign (v := .int .i64 0) rfl) ?_
  refine wpList_nil ?_
  refine then_n ?_
  refine wp_block ?_
  refine wp_loop_g (fun k21 a22 w12 => ∃ (f13 : Nat → Value) (x14 : Int), a22 = mk 26 f13 ∧ f13 0 = .slice A2 x1.length c3 ∧ f13 1 = .slice A7 x6.length c8 ∧ f13 5 = .int .i64 x14 ∧ St (anyOf []) H w [] H w12 ∧ laws_eqIntS.l0 k21 x1 x6 x14 = some r) k ⟨_, 0, rfl, (by kernel_rfl), (by kernel_rfl), (by kernel_rfl), S0_, M⟩ ?_
  clear M
  rintro k21 a22 w12 ⟨f13, x14, rfl, e15, e16, e17, S18, M⟩
  rcases k21 with _ | k23
  · rw [laws_eqIntS.l0] at M
    cases M
  rw [laws_eqIntS.l0] at M
  refine wp_seq ?_
  refine wp_seq ?_
  refine wp_region_lit ?_
  refine lv (d := 11) rfl rfl (by kernel_rfl) (e_move (v := .int .i64 x14) (by exact e17)) ?_
  refine lv (d := 12) rfl rfl (by kernel_rfl) (e_move (v := .slice A2 x1.length c3) (by exact e15)) ?_
  refine lv (d := 13) rfl rfl (by kernel_rfl) (e_len (A := A2) (n := x1.length) (c := c3) Try.underlying23 (by kernel_rfl)) ?_
  refine lv (d := 14) rfl rfl (by kernel_rfl) (e_lss (k := .i64) (a := x14) (b := (x1.length : Int)) (by kernel_rfl) (by kernel_rfl)) ?_
  refine wpList_nil ?_
  refine then_n ?_
  by_cases q24 : x14 < (x1.length : Int)
  · replace M := ifp q24 M
    refine cond_t rfl (bt q24 (by kernel_rfl)) ?_
    refine wp_skip ?_
    refine then_n ?_
    refine wp_seq ?_
    refine wp_block ?_
    refine wp_seq ?_
    refine region_still (by kernel_rfl) (by kernel_rfl) S18 ?_
    intro w25 S26 K27
    refine sv (d := 17) rfl rfl (by kernel_rfl) (e_move (v := .slice A2 x1.length c3) (by exact e15)) ?_
    refine sv (d := 18) rfl rfl (by kernel_rfl) (e_move (v := .int .i64 x14) (by exact e17)) ?_
    obtain ⟨q28, M⟩ := chk M
    obtain ⟨b29, o30, e31⟩ := Rd.addr h4 (show (x14).toNat < x1.length by omega)
    obtain ⟨y32, r33, k34⟩ := Rd.at h4 e31 (getD_some (0 : Int) (show (x14).toNat < x1.length by omega))
    obtain rfl := r33
    refine sv (d := 19) rfl rfl (by kernel_rfl) (e_indexAddr (b := b29) (off := o30) (n := x1.length) (c := c3) (sz := 1) (i := x14) (k := .i64) Try.underlying23 e31 (by kernel_rfl) (by kernel_rfl) (by kernel_rfl) q28 q24) ?_
    refine sv (d := 20) rfl rfl (by kernel_rfl) (e_load1 (ad := ⟨b29, o30 + (x14 : Int).toNat * 1, none⟩) (v := .int .i64 (x1.getD ((x14).toNat) (0 : Int))) Try.underlying3 rfl (by kernel_rfl) (hpx (S26.inv.cell (k34 0 _ rfl)))) ?_
    refine sv (d := 21) rfl rfl (by kernel_rfl) (e_move (v := .slice A7 x6.length c8) (by exact e16)) ?_
    refine sv (d := 22) rfl rfl (by kernel_rfl) (e_move (v := .int .i64 x14) (by exact e17)) ?_
    obtain ⟨q35, M⟩ := chk M
    obtain ⟨b36, o37, e38⟩ := Rd.addr h9 (show (x14).toNat < x6.length by omega)
    obtain ⟨y39, r40, k41⟩ := Rd.at h9 e38 (getD_some (0 : Int) (show (x14).toNat < x6.length by omega))
    obtain rfl := r40
    refine sv (d := 23) rfl rfl (by kernel_rfl) (e_indexAddr (b := b36) (off := o37) (n := x6.length) (c := c8) (sz := 1) (i := x14) (k := .i64) Try.underlying23 e38 (by kernel_rfl) (by kernel_rfl) (by kernel_rfl) q28 q35) ?_
    refine sv (d := 24) rfl rfl (by kernel_rfl) (e_load1 (ad := ⟨b36, o37 + (x14 : Int).toNat * 1, none⟩) (v := .int .i64 (x6.getD ((x14).toNat) (0 : Int))) Try.underlying3 rfl (by kernel_rfl) (hpx (S26.inv.cell (k41 0 _ rfl)))) ?_
    refine sv (d := 25) rfl rfl (by kernel_rfl) (e_neq (k := .i64) (a := (x1.getD ((x14).toNat) (0 : Int))) (b := (x6.getD ((x14).toNat) (0 : Int))) (by kernel_rfl) (by kernel_rfl)) ?_
    refine wpStill_nil ?_
    refine then_n ?_
    by_cases q42 : (x1.getD ((x14).toNat) (0 : Int)) ≠ (x6.getD ((x14).toNat) (0 : Int))
    · replace M := ifp q42 M
      refine cond_t rfl (bt q42 (by kernel_rfl)) ?_
      refine wp_seq ?_
      refine wp_region_lit ?_
      refine lv (d := 4) rfl rfl (by kernel_rfl) (e_assign (v := .bool false) rfl) ?_
      refine wpList_nil ?_
      refine then_n ?_
      refine wp_ret ?_
      refine inb_r ?_
      refine then_r ?_
      refine then_r ?_
      refine inb_r ?_
      refine then_r ?_
      obtain rfl := Option.some.inj M
      exact ret1 rfl rfl  (show _ = .bool false from (by kernel_rfl)) ⟨rfl, S26.chg⟩
    replace M := ifn q42 M
    refine cond_f rfl (bf q42 (by kernel_rfl)) ?_
    refine wp_skip ?_
    refine inb_n ?_
    refine then_n ?_
    refine wp_region_lit ?_
    refine lv (d := 15) rfl rfl (by kernel_rfl) (e_move (v := .int .i64 x14) (by exact e17)) ?_
    refine lv (d := 16) rfl rfl (by kernel_rfl) (e_add (k := .i64) (a := x14) (b := 1) (by kernel_rfl) rfl) ?_
    refine lv (d := 5) rfl rfl (by kernel_rfl) (e_assign (v := .int .i64 (IntKind.i64.wrap (x14 + 1))) (by kernel_rfl)) ?_
    refine wpList_nil ?_
    refine then_n ?_
    exact ⟨k23, (by omega), _, (IntKind.i64.wrap (x14 + 1)), rfl, (by exact e15), (by exact e16), (by kernel_rfl), S26, M⟩
  replace M := ifn q24 M
  refine cond_f rfl (bf q24 (by kernel_rfl)) ?_
  refine wp_exit ?_
  refine then_e ?_
  refine then_e ?_
  refine inb_hit ?_
  refine then_n ?_
  refine wp_seq ?_
  refine wp_region_lit ?_
  refine lv (d := 4) rfl rfl (by kernel_rfl) (e_assign (v := .bool true) rfl) ?_
  refine wpList_nil ?_
  refine then_n ?_
  refine wp_ret ?_
  obtain rfl := Option.some.inj M
  exact ret1 rfl rfl  (show _ = .bool true from (by kernel_rfl)) ⟨rfl, S18.chg⟩

/-! laws_eqStore -/
def laws_eqStore.f (k : Nat) (x1 : Store) (x10 : Store) : Option Bool := ((laws_eqCellS.f k x1.cells x10.cells).bind fun t29 => (if ¬ (t29 = true) then some false else ((laws_eqIntS.f k x1.trail x10.trail).bind fun t36 => (if ¬ (t36 = true) then some false else some true))))
theorem laws_eqStore.calls (k : Nat) (w : World) (H : Hp) (x1 : Store) (A2 : Option Addr) (c3 : Nat) (A6 : Option Addr) (c7 : Nat) (x10 : Store) (A11 : Option Addr) (c12 : Nat) (A15 : Option Addr) (c16 : Nat) (h4 : Rd st36 H A2 x1.cells) (l5 : x1.cells.length ≤ c3) (h8 : Rd tInt H A6 x1.trail) (l9 : x1.trail.length ≤ c7) (h13 : Rd st36 H A11 x10.cells) (l14 : x10.cells.length ≤ c12) (h17 : Rd tInt H A15 x10.trail) (l18 : x10.trail.length ≤ c16) (S : Own [] H w) (r : Bool) (M : laws_eqStore.f k x1 x10 = some r) :
    Calls Try.prog 15 #[.agg #[.slice A2 x1.cells.length c3, .slice A6 x1.trail.length c7], .agg #[.slice A11 x10.cells.length c12, .slice A15 x10.trail.length c16]] w (fun e e_w => e = .returned (.bool r) ∧ Chg no w e_w) := by
  rw [laws_eqStore.f] at M
  refine enter (l := [.agg #[.slice A2 x1.cells.length c3, .slice A6 x1.trail.length c7], .agg #[.slice A11 x10.cells.length c12, .slice A15 x10.trail.length c16]]) 17 Try.func15 rfl rfl rfl ?_
  have S0_ := S.st
  refine wp_seq ?_
  refine wp_region_lit ?_
  refine lve (d := 2) rfl rfl (by kernel_rfl) (new_blk (v := fun g_ => .pointer (some ⟨g_, 0, none⟩)) (cs := #[.slice A2 x1.cells.length c3, .slice A6 x1.trail.length c7]) (t := 34) S0_ (by kernel_rfl)) ?_
  rintro _ w19 ⟨g20, rfl, b21, S22, K23⟩
  refine lve (d := 3) rfl rfl (by kernel_rfl) (new_blk (v := fun g_ => .pointer (some ⟨g_, 0, none⟩)) (cs := #[.slice A11 x10.cells.length c12, .slice A15 x10.trail.length c16]) (t := 34) S22 (by kernel_rfl)) ?_
  rintro _ w24 ⟨g25, rfl, b26, S27, K28⟩
  replace b21 := K28.blk 0 rfl b21
  refine lv (d := 4) rfl rfl (by kernel_rfl) (e_assign (v := .bool false) rfl) ?_
  refine wpList_nil ?_
  refine then_n ?_
  refine wp_seq ?_
  refine wp_seq ?_
  refine wp_region_lit ?_
  refine lv (d := 5) rfl rfl (by kernel_rfl) (e_fieldAddr (b := g20) (off := 0) (o := 0) Try.underlying34 rfl rfl (sz := 1) (by kernel_rfl) (by decide) (by kernel_rfl)) ?_
  refine lv (d := 6) rfl rfl (by kernel_rfl) (e_load1 (ad := ⟨g20, 0 + 0, none⟩) (v := .slice A2 x1.cells.length c3) Try.underlying32 rfl (by kernel_rfl) (blk_cell b21 rfl)) ?_
  refine lv (d := 7) rfl rfl (by kernel_rfl) (e_fieldAddr (b := g25) (off := 0) (o := 0) Try.underlying34 rfl rfl (sz := 1) (by kernel_rfl) (by decide) (by kernel_rfl)) ?_
  refine lv (d := 8) rfl rfl (by kernel_rfl) (e_load1 (ad := ⟨g25, 0 + 0, none⟩) (v := .slice A11 x10.cells.length c12) Try.underlying32 rfl (by kernel_rfl) (blk_cell b26 rfl)) ?_
  obtain ⟨t29, u30, M⟩ := bnd M
  refine lcall (d := 9) rfl rfl (by kernel_rfl) (e_call (l := [.tmp 6, .tmp 8]) (vs := [.slice A2 x1.cells.length c3, .slice A11 x10.cells.length c12]) Try.func24 (by kernel_rfl) rfl (by kernel_rfl) rfl) (laws_eqCellS.calls k w24 H x1.cells A2 c3 x10.cells A11 c12 h4 l5 h13 l14 S27.own0 t29 u30) ?_
  rintro _ w31 ⟨rfl, C32⟩
  refine ⟨_, rfl, ?_⟩
  obtain ⟨S33, K34⟩ := S27.still C32
  replace b26 := K34.blk 0 rfl b26
  replace b21 := K34.blk 1 rfl b21
  refine lv (d := 10) rfl rfl (by kernel_rfl) (e_notv (c := t29) (by kernel_rfl)) ?_
  refine wpList_nil ?_
  refine then_n ?_
  by_cases q35 : ¬ (t29 = true)
  · replace M := ifp q35 M
    refine cond_t rfl (bt q35 (by kernel_rfl)) ?_
    refine wp_seq ?_
    refine wp_region_lit ?_
    refine lv (d := 4) rfl rfl (by kernel_rfl) (e_assign (v := .bool false) rfl) ?_
    refine wpList_nil ?_
    refine then_n ?_
    refine wp_ret ?_
    refine then_r ?_
    obtain rfl := Option.some.inj M
    exact ret1 rfl rfl  (show _ = .bool false from (by kernel_rfl)) ⟨rfl, S33.chg⟩
  replace M := ifn q35 M
  refine cond_f rfl (bf q35 (by kernel_rfl)) ?_
  refine wp_skip ?_
  refine then_n ?_
  refine wp_seq ?_
  refine wp_seq ?_
  refine wp_region_lit ?_
  refine lv (d := 11) rfl rfl (by kernel_rfl) (e_fieldAddr (b := g20) (off := 0) (o := 1) Try.underlying34 rfl rfl (sz := 1) (by kernel_rfl) (by decide) (by kernel_rfl)) ?_
  refine lv (d := 12) rfl rfl (by kernel_rfl) (e_load1 (ad := ⟨g20, 0 + 1, none⟩) (v := .slice A6 x1.trail.length c7) Try.underlying23 rfl (by kernel_rfl) (blk_cell b21 rfl)) ?_
  refine lv (d := 13) rfl rfl (by kernel_rfl) (e_fieldAddr (b := g25) (off := 0) (o := 1) Try.underlying34 rfl rfl (sz := 1) (by kernel_rfl) (by decide) (by kernel_rfl)) ?_
  refine lv (d := 14) rfl rfl (by kernel_rfl) (e_load1 (ad := ⟨g25, 0 + 1, none⟩) (v := .slice A15 x10.trail.length c16) Try.underlying23 rfl (by kernel_rfl) (blk_cell b26 rfl)) ?_
  obtain ⟨t36, u37, M⟩ := bnd M
  refine lcall (d := 15) rfl rfl (by kernel_rfl) (e_call (l := [.tmp 12, .tmp 14]) (vs := [.slice A6 x1.trail.length c7, .slice A15 x10.trail.length c16]) Try.func44 (by kernel_rfl) rfl (by kernel_rfl) rfl) (laws_eqIntS.calls k w31 H x1.trail A6 c7 x10.trail A15 c16 h8 l9 h17 l18 S33.own0 t36 u37) ?_
  rintro _ w38 ⟨rfl, C39⟩
  refine ⟨_, rfl, ?_⟩
  obtain ⟨S40, K41⟩ := S33.still C39
  replace b26 := K41.blk 0 rfl b26
  replace b21 := K41.blk 1 rfl b21
  refine lv (d := 16) rfl rfl (by kernel_rfl) (e_notv (c := t36) (by kernel_rfl)) ?_
  refine wpList_nil ?_
  refine then_n ?_
  by_cases q42 : ¬ (t36 = true)
  · replace M := ifp q42 M
    refine cond_t rfl (bt q42 (by kernel_rfl)) ?_
    refine wp_seq ?_
    refine wp_region_lit ?_
    refine lv (d := 4) rfl rfl (by kernel_rfl) (e_assign (v := .bool false) rfl) ?_
    refine wpList_nil ?_
    refine then_n ?_
    refine wp_ret ?_
    refine then_r ?_
    obtain rfl := Option.some.inj M
    exact ret1 rfl rfl  (show _ = .bool false from (by kernel_rfl)) ⟨rfl, S40.chg⟩
  replace M := ifn q42 M
  refine cond_f rfl (bf q42 (by kernel_rfl)) ?_
  refine wp_skip ?_
  refine then_n ?_
  refine wp_seq ?_
  refine wp_region_lit ?_
  refine lv (d := 4) rfl rfl (by kernel_rfl) (e_assign (v := .bool true) rfl) ?_
  refine wpList_nil ?_
  refine then_n ?_
  refine wp_ret ?_
  obtain rfl := Option.some.inj M
  exact ret1 rfl rfl  (show _ = .bool true from (by kernel_rfl)) ⟨rfl, S40.chg⟩

/-! laws_markByteS -/
def laws_markByteS_2.l0 : Nat → (List UInt8) → Int → Int → (List UInt8) → Option (Int × (List UInt8))
  | 0, _, _, _, _ => none
  | k22 + 1, x1, x9, x10, x12 => (if x10 < (x1.length : Int) then (if 0 ≤ x10 then (laws_markByteS_2.l0 k22 x1 (IntKind.i64.wrap (x9 + 1)) (IntKind.i64.wrap (x10 + 1)) (x12.set ((x10).toNat) (b8 (x9)))) else none) else some (x9, x12))
def laws_markByteS_2.f (k : Nat) (x1 : List UInt8) (x6 : Int) : Option (Int × (List UInt8)) := (laws_markByteS_2.l0 k x1 x6 0 x1)
theorem laws_markByteS_2.calls (k : Nat) (w : World) (H : Hp) (x1 : List UInt8) (A2 : Option Addr) (c3 : Nat) (F5 : Foot) (x6 : Int) (h4 : Row tByte 5 H (hp w) F5 A2 c3 x1) (S : Own [F5] H w) (r : Int × (List UInt8)) (M : laws_markByteS_2.f k x1 x6 = some r) :
    Calls Try.prog 52 #[.slice A2 x1.length c3, .int .i64 x6] w (fun e e_w => ∃ (F_1 : Foot) (H_ : Hp), e = .returned (.int .i64 r.1) ∧ r.2.length = x1.length ∧ Row tByte 5 H_ (hp e_w) F_1 A2 c3 r.2 ∧ St (anyOf [F5]) H w [F_1] H_ e_w) := by
  rw [laws_markByteS_2.f] at M
  refine enter (l := [.slice A2 x1.length c3, .int .i64 x6]) 20 Try.func52 rfl rfl rfl ?_
  have S0_ := S.st
  refine wp_seq ?_
  refine wp_region_lit ?_
  refine lv (d := 4) rfl rfl (by kernel_rfl) (e_assign (v := .int .i64 0) rfl) ?_
  refine wpList_nil ?_
  refine then_n ?_
  refine wp_seq ?_
  refine wp_seq ?_
  refine wp_region_lit ?_
  refine lv (d := 5) rfl rfl (by kernel_rfl) (e_assign (v := .int .i64 0) rfl) ?_
  refine wpList_nil ?_
  refine then_n ?_
  refine wp_block ?_
  refine wp_loop_g (fun k20 a21 w7 => ∃ (f8 : Nat → Value) (x9 : Int) (x10 : Int) (F11 : Foot) (x12 : List UInt8), a21 = mk 20 f8 ∧ f8 0 = .slice A2 x1.length c3 ∧ f8 1 = .int .i64 x9 ∧ f8 5 = .int .i64 x10 ∧ Row tByte 5 H (hp w7) F11 A2 c3 x12 ∧ x12.length = x1.length ∧ St (anyOf [F5]) H w [F11] H w7 ∧ laws_markByteS_2.l0 k20 x1 x9 x10 x12 = some r) k ⟨_, x6, 0, F5, x1, rfl, (by kernel_rfl), (by kernel_rfl), (by kernel_rfl), h4, rfl, S0_, M⟩ ?_
  clear M
  rintro k20 a21 w7 ⟨f8, x9, x10, F11, x12, rfl, e14, e15, e16, h4, n13, S17, M⟩
  rcases k20 with _ | k22
  · rw [laws_markByteS_2.l0] at M
    cases M
  rw [laws_markByteS_2.l0] at M
  refine wp_seq ?_
  refine wp_seq ?_
  refine wp_region_lit ?_
  refine lv (d := 6) rfl rfl (by kernel_rfl) (e_move (v := .int .i64 x10) (by exact e16)) ?_
  refine lv (d := 7) rfl rfl (by kernel_rfl) (e_move (v := .slice A2 x1.length c3) (by exact e14)) ?_
  refine lv (d := 8) rfl rfl (by kernel_rfl) (e_len (A := A2) (n := x1.length) (c := c3) Try.underlying26 (by kernel_rfl)) ?_
  refine lv (d := 9) rfl rfl (by kernel_rfl) (e_lss (k := .i64) (a := x10) (b := (x1.length : Int)) (by kernel_rfl) (by kernel_rfl)) ?_
  refine wpList_nil ?_
  refine then_n ?_
  by_cases q23 : x10 < (x1.length : Int)
  · replace M := ifp q23 M
    refine cond_t rfl (bt q23 (by kernel_rfl)) ?_
    refine wp_skip ?_
    refine then_n ?_
    refine wp_seq ?_
    refine wp_block ?_
    refine wp_seq ?_
    refine wp_region_lit ?_
    refine lv (d := 12) rfl rfl (by kernel_rfl) (e_move (v := .slice A2 x1.length c3) (by exact e14)) ?_
    refine lv (d := 13) rfl rfl (by kernel_rfl) (e_move (v := .int .i64 x10) (by exact e16)) ?_
    refine lv (d := 14) rfl rfl (by kernel_rfl) (e_move (v := .int .i64 x9) (by exact e15)) ?_
    refine lv (d := 15) rfl rfl (by kernel_rfl) (e_conv_i8 (k := .i64) (a := x9) (by kernel_rfl) Try.underlying5 (by kernel_rfl)) ?_
    obtain ⟨q24, M⟩ := chk M
    obtain ⟨b25, e27⟩ := Row.addr h4 (show (x10).toNat < x12.length by have : x12.length = x1.length := n13; omega)
    refine lv (d := 16) rfl rfl (by kernel_rfl) (e_indexAddr (b := b25) (off := 0) (n := x1.length) (c := c3) (sz := 1) (i := x10) (k := .i64) Try.underlying26 e27 (by kernel_rfl) (by kernel_rfl) (by kernel_rfl) q24 q23) ?_
    have S28 := S17.unit
    have S29 := S28.pull (F := F11) (Fr := [no]) 1 rfl rfl
    refine lse rfl rfl (by kernel_rfl) (e_setel (d := tByte) (b := b25) (i := (x10).toNat) (v := .int .u8 ((b8 (x9)).toNat : Int)) (vs := [.int .u8 ((b8 (x9)).toNat : Int)]) (yv := (b8 (x9))) S29 (by kernel_rfl) e27 (by kernel_rfl) rfl (by kernel_rfl) h4 (show (x10).toNat < x12.length by have : x12.length = x1.length := n13; omega) rfl) ?_
    rintro w30 ⟨F32, h31, S33, K34⟩
    clear h4
    refine wpList_nil ?_
    refine then_n ?_
    refine wp_region_lit ?_
    refine lv (d := 17) rfl rfl (by kernel_rfl) (e_move (v := .int .i64 x9) (by exact e15)) ?_
    refine lv (d := 18) rfl rfl (by kernel_rfl) (e_add (k := .i64) (a := x9) (b := 1) (by kernel_rfl) rfl) ?_
    refine lv (d := 1) rfl rfl (by kernel_rfl) (e_assign (v := .int .i64 (IntKind.i64.wrap (x9 + 1))) (by kernel_rfl)) ?_
    refine wpList_nil ?_
    refine inb_n ?_
    refine then_n ?_
    refine wp_region_lit ?_
    refine lv (d := 10) rfl rfl (by kernel_rfl) (e_move (v := .int .i64 x10) (by exact e16)) ?_
    refine lv (d := 11) rfl rfl (by kernel_rfl) (e_add (k := .i64) (a := x10) (b := 1) (by kernel_rfl) rfl) ?_
    refine lv (d := 5) rfl rfl (by kernel_rfl) (e_assign (v := .int .i64 (IntKind.i64.wrap (x10 + 1))) (by kernel_rfl)) ?_
    refine wpList_nil ?_
    refine then_n ?_
    exact ⟨k22, (by omega), _, (IntKind.i64.wrap (x9 + 1)), (IntKind.i64.wrap (x10 + 1)), F32, (x12.set ((x10).toNat) (b8 (x9))), rfl, (by exact e14), (by kernel_rfl), (by kernel_rfl), h31, (List.length_set.trans n13), S33, M⟩
  replace M := ifn q23 M
  refine cond_f rfl (bf q23 (by kernel_rfl)) ?_
  refine wp_exit ?_
  refine then_e ?_
  refine then_e ?_
  refine inb_hit ?_
  refine then_n ?_
  refine wp_seq ?_
  refine wp_region_lit ?_
  refine lv (d := 19) rfl rfl (by kernel_rfl) (e_move (v := .int .i64 x9) (by exact e15)) ?_
  refine lv (d := 4) rfl rfl (by kernel_rfl) (e_assign (v := .int .i64 x9) (by kernel_rfl)) ?_
  refine wpList_nil ?_
  refine then_n ?_
  refine wp_ret ?_
  obtain rfl := Option.some.inj M
  exact ret1 rfl rfl  (show _ = .int .i64 x9 from (by kernel_rfl)) ⟨F11, H, rfl, n13, h4, S17⟩

/-! laws_markCellS -/
def laws_markCellS_2.l0 : Nat → (List Cell) → Int → Int → (List Cell) → Option (Int × (List Cell))
  | 0, _, _, _, _ => none
  | k24 + 1, x1, x11, x12, x14 => (if x12 < (x1.length : Int) then (if 0 ≤ x12 then ((laws_markByteS_2.f k24 ((((x14.set ((x12).toNat) ({(x14.getD ((x12).toNat) z36) with kind := x11})).set ((x12).toNat) ({((x14.set ((x12).toNat) ({(x14.getD ((x12).toNat) z36) with kind := x11})).getD ((x12).toNat) z36) with n := (IntKind.i64.wrap (x11 + 1))})).getD ((x12).toNat) z36).text) (IntKind.i64.wrap ((IntKind.i64.wrap (x11 + 1)) + 1))).bind fun t71 => (laws_markCellS_2.l0 k24 x1 t71.1 (IntKind.i64.wrap (x12 + 1)) (((x14.set ((x12).toNat) ({(x14.getD ((x12).toNat) z36) with kind := x11})).set ((x12).toNat) ({((x14.set ((x12).toNat) ({(x14.getD ((x12).toNat) z36) with kind := x11})).getD ((x12).toNat) z36) with n := (IntKind.i64.wrap (x11 + 1))})).set ((x12).toNat) ({(((x14.set ((x12).toNat) ({(x14.getD ((x12).toNat) z36) with kind := x11})).set ((x12).toNat) ({((x14.set ((x12).toNat) ({(x14.getD ((x12).toNat) z36) with kind := x11})).getD ((x12).toNat) z36) with n := (IntKind.i64.wrap (x11 + 1))})).getD ((x12).toNat) z36) with text := t71.2})))) else none) else some (x11, x14))
def laws_markCellS_2.f (k : Nat) (x1 : List Cell) (x6 : Int) : Option (Int × (List Cell)) := (laws_markCellS_2.l0 k x1 x6 0 x1)
theorem laws_markCellS_2.calls (k : Nat) (w : World) (H : Hp) (x1 : List Cell) (A2 : Option Addr) (c3 : Nat) (F5 : Foot) (x6 : Int) (h4 : Row st36 36 H (hp w) F5 A2 c3 x1) (S : Own [F5] H w) (r : Int × (List Cell)) (M : laws_markCellS_2.f k x1 x6 = some r) :
    Calls Try.prog 25 #[.slice A2 x1.length c3, .int .i64 x6] w (fun e e_w => ∃ (F_1 : Foot) (H_ : Hp), e = .returned (.int .i64 r.1) ∧ r.2.length = x1.length ∧ Row st36 36 H_ (hp e_w) F_1 A2 c3 r.2 ∧ St (anyOf [F5]) H w [F_1] H_ e_w) := by
  rw [laws_markCellS_2.f] at M
  refine enter (l := [.slice A2 x1.length c3, .int .i64 x6]) 34 Try.func25 rfl rfl rfl ?_
  have S0_ := S.st
  refine wp_seq ?_
  refine wp_region_lit ?_
  refine lv (d := 4) rfl rfl (by kernel_rfl) (e_assign (v := .int .i64 0) rfl) ?_
  refine wpList_nil ?_
  refine then_n ?_
  refine wp_seq ?_
  refine wp_seq ?_
  refine wp_region_lit ?_
  refine lv (d := 5) rfl rfl (by kernel_rfl) (e_assign (v := .int .i64 0) rfl) ?_
  refine wpList_nil ?_
  refine then_n ?_
  refine wp_block ?_
  refine wp_loop_g (fun k22 a23 w7 => ∃ (f8 : Nat → Value) (H9 : Hp) (x11 : Int) (x12 : Int) (F13 : Foot) (x14 : List Cell), a23 = mk 34 f8 ∧ f8 0 = .slice A2 x1.length c3 ∧ f8 1 = .int .i64 x11 ∧ f8 5 = .int .i64 x12 ∧ Row st36 36 H9 (hp w7) F13 A2 c3 x14 ∧ x14.length = x1.length ∧ Ext H H9 ∧ St (anyOf [F5]) H w [F13] H9 w7 ∧ laws_markCellS_2.l0 k22 x1 x11 x12 x14 = some r) k ⟨_, H, x6, 0, F5, x1, rfl, (by kernel_rfl), (by kernel_rfl), (by kernel_rfl), h4, rfl, (Ext.refl _), S0_, M⟩ ?_
  clear M
  rintro k22 a23 w7 ⟨f8, H9, x11, x12, F13, x14, rfl, e16, e17, e18, h4, n15, Y10, S19, M⟩
  rcases k22 with _ | k24
  · rw [laws_markCellS_2.l0] at M
    cases M
  rw [laws_markCellS_2.l0] at M
  refine wp_seq ?_
  refine wp_seq ?_
  refine wp_region_lit ?_
  refine lv (d := 6) rfl rfl (by kernel_rfl) (e_move (v := .int .i64 x12) (by exact e18)) ?_
  refine lv (d := 7) rfl rfl (by kernel_rfl) (e_move (v := .slice A2 x1.length c3) (by exact e16)) ?_
  refine lv (d := 8) rfl rfl (by kernel_rfl) (e_len (A := A2) (n := x1.length) (c := c3) Try.underlying32 (by kernel_rfl)) ?_
  refine lv (d := 9) rfl rfl (by kernel_rfl) (e_lss (k := .i64) (a := x12) (b := (x1.length : Int)) (by kernel_rfl) (by kernel_rfl)) ?_
  refine wpList_nil ?_
  refine then_n ?_
  by_cases q25 : x12 < (x1.length : Int)
  · replace M := ifp q25 M
    refine cond_t rfl (bt q25 (by kernel_rfl)) ?_
    refine wp_skip ?_
    refine then_n ?_
    refine wp_seq ?_
    refine wp_block ?_
    refine wp_seq ?_
    refine wp_region_lit ?_
    refine lv (d := 12) rfl rfl (by kernel_rfl) (e_move (v := .slice A2 x1.length c3) (by exact e16)) ?_
    refine lv (d := 13) rfl rfl (by kernel_rfl) (e_move (v := .int .i64 x12) (by exact e18)) ?_
    refine lv (d := 14) rfl rfl (by kernel_rfl) (e_move (v := .int .i64 x11) (by exact e17)) ?_
    obtain ⟨q26, M⟩ := chk M
    obtain ⟨b27, e29⟩ := Row.addr h4 (show (x12).toNat < x14.length by have : x14.length = x1.length := n15; omega)
    refine lv (d := 15) rfl rfl (by kernel_rfl) (e_indexAddr (b := b27) (off := 0) (n := x1.length) (c := c3) (sz := 3) (i := x12) (k := .i64) Try.underlying32 e29 (by kernel_rfl) (by kernel_rfl) (by kernel_rfl) q26 q25) ?_
    refine lv (d := 16) rfl rfl (by kernel_rfl) (e_fieldAddr (b := b27) (off := 0 + (x12 : Int).toNat * 3) (o := 0) Try.underlying36 rfl rfl (sz := 1) (by kernel_rfl) (by decide) (by kernel_rfl)) ?_
    have S30 := S19.unit
    have S31 := S30.pull (F := F13) (Fr := [no]) 1 rfl rfl
    refine lse rfl rfl (by kernel_rfl) (e_setpart (d := st36) (b := b27) (i := (x12).toNat) (j := 0) (v := .int .i64 x11) (vs := [.int .i64 x11]) (yv := {(x14.getD ((x12).toNat) z36) with kind := x11}) S31 (by kernel_rfl) e29 (by kernel_rfl) rfl (by kernel_rfl) h4 (getD_some z36 (show (x12).toNat < x14.length by have : x14.length = x1.length := n15; omega)) (Nat.le_of_ble_eq_true rfl) (List.forall_mem_cons.2 ⟨rfl, (fun _ h_ => by cases h_)⟩) (fun _ _ _ o_ => st36_u0 x11 o_)) ?_
    rintro w32 ⟨F34, h33, S35, K36⟩
    clear h4
    refine wpList_nil ?_
    refine then_n ?_
    refine wp_seq ?_
    refine wp_region_lit ?_
    refine lv (d := 17) rfl rfl (by kernel_rfl) (e_move (v := .int .i64 x11) (by exact e17)) ?_
    refine lv (d := 18) rfl rfl (by kernel_rfl) (e_add (k := .i64) (a := x11) (b := 1) (by kernel_rfl) rfl) ?_
    refine lv (d := 1) rfl rfl (by kernel_rfl) (e_assign (v := .int .i64 (IntKind.i64.wrap (x11 + 1))) (by kernel_rfl)) ?_
    refine wpList_nil ?_
    refine then_n ?_
    refine wp_seq ?_
    refine wp_region_lit ?_
    refine lv (d := 19) rfl rfl (by kernel_rfl) (e_move (v := .slice A2 x1.length c3) (by exact e16)) ?_
    refine lv (d := 20) rfl rfl (by kernel_rfl) (e_move (v := .int .i64 x12) (by exact e18)) ?_
    refine lv (d := 21) rfl rfl (by kernel_rfl) (e_move (v := .int .i64 (IntKind.i64.wrap (x11 + 1))) (by kernel_rfl)) ?_
    obtain ⟨b37, e39⟩ := Row.addr h33 (show (x12).toNat < (x14.set ((x12).toNat) ({(x14.getD ((x12).toNat) z36) with kind := x11})).length by have : (x14.set ((x12).toNat) ({(x14.getD ((x12).toNat) z36) with kind := x11})).length = x1.length := (List.length_set.trans n15); omega)
    refine lv (d := 22) rfl rfl (by kernel_rfl) (e_indexAddr (b := b37) (off := 0) (n := x1.length) (c := c3) (sz := 3) (i := x12) (k := .i64) Try.underlying32 e39 (by kernel_rfl) (by kernel_rfl) (by kernel_rfl) q26 q25) ?_
    refine lv (d := 23) rfl rfl (by kernel_rfl) (e_fieldAddr (b := b37) (off := 0 + (x12 : Int).toNat * 3) (o := 1) Try.underlying36 rfl rfl (sz := 1) (by kernel_rfl) (by decide) (by kernel_rfl)) ?_
    have S40 := S35.unit
    have S41 := S40.pull (F := F34) (Fr := [no]) 1 rfl rfl
    refine lse rfl rfl (by kernel_rfl) (e_setpart (d := st36) (b := b37) (i := (x12).toNat) (j := 1) (v := .int .i64 (IntKind.i64.wrap (x11 + 1))) (vs := [.int .i64 (IntKind.i64.wrap (x11 + 1))]) (yv := {((x14.set ((x12).toNat) ({(x14.getD ((x12).toNat) z36) with kind := x11})).getD ((x12).toNat) z36) with n := (IntKind.i64.wrap (x11 + 1))}) S41 (by kernel_rfl) e39 (by kernel_rfl) rfl (by kernel_rfl) h33 (getD_some z36 (show (x12).toNat < (x14.set ((x12).toNat) ({(x14.getD ((x12).toNat) z36) with kind := x11})).length by have : (x14.set ((x12).toNat) ({(x14.getD ((x12).toNat) z36) with kind := x11})).length = x1.length := (List.length_set.trans n15); omega)) (Nat.le_of_ble_eq_true rfl) (List.forall_mem_cons.2 ⟨rfl, (fun _ h_ => by cases h_)⟩) (fun _ _ _ o_ => st36_u1 (IntKind.i64.wrap (x11 + 1)) o_)) ?_
    rintro w42 ⟨F44, h43, S45, K46⟩
    clear h33
    refine wpList_nil ?_
    refine then_n ?_
    refine wp_seq ?_
    refine wp_region_lit ?_
    refine lv (d := 24) rfl rfl (by kernel_rfl) (e_move (v := .int .i64 (IntKind.i64.wrap (x11 + 1))) (by kernel_rfl)) ?_
    refine lv (d := 25) rfl rfl (by kernel_rfl) (e_add (k := .i64) (a := (IntKind.i64.wrap (x11 + 1))) (b := 1) (by kernel_rfl) rfl) ?_
    refine lv (d := 1) rfl rfl (by kernel_rfl) (e_assign (v := .int .i64 (IntKind.i64.wrap ((IntKind.i64.wrap (x11 + 1)) + 1))) (by kernel_rfl)) ?_
    refine wpList_nil ?_
    refine then_n ?_
    refine wp_region_lit ?_
    refine lv (d := 26) rfl rfl (by kernel_rfl) (e_move (v := .slice A2 x1.length c3) (by exact e16)) ?_
    refine lv (d := 27) rfl rfl (by kernel_rfl) (e_move (v := .int .i64 x12) (by exact e18)) ?_
    obtain ⟨b47, e49⟩ := Row.addr h43 (show (x12).toNat < ((x14.set ((x12).toNat) ({(x14.getD ((x12).toNat) z36) with kind := x11})).set ((x12).toNat) ({((x14.set ((x12).toNat) ({(x14.getD ((x12).toNat) z36) with kind := x11})).getD ((x12).toNat) z36) with n := (IntKind.i64.wrap (x11 + 1))})).length by have : ((x14.set ((x12).toNat) ({(x14.getD ((x12).toNat) z36) with kind := x11})).set ((x12).toNat) ({((x14.set ((x12).toNat) ({(x14.getD ((x12).toNat) z36) with kind := x11})).getD ((x12).toNat) z36) with n := (IntKind.i64.wrap (x11 + 1))})).length = x1.length := (List.length_set.trans (List.length_set.trans n15)); omega)
    refine lv (d := 28) rfl rfl (by kernel_rfl) (e_indexAddr (b := b47) (off := 0) (n := x1.length) (c := c3) (sz := 3) (i := x12) (k := .i64) Try.underlying32 e49 (by kernel_rfl) (by kernel_rfl) (by kernel_rfl) q26 q25) ?_
    refine lv (d := 29) rfl rfl (by kernel_rfl) (e_fieldAddr (b := b47) (off := 0 + (x12 : Int).toNat * 3) (o := 2) Try.underlying36 rfl rfl (sz := 1) (by kernel_rfl) (by decide) (by kernel_rfl)) ?_
    obtain ⟨y55, F56, G57, r58, d59, s60, k61, t62⟩ := Row.lend h43 e49 (getD_some z36 (show (x12).toNat < ((x14.set ((x12).toNat) ({(x14.getD ((x12).toNat) z36) with kind := x11})).set ((x12).toNat) ({((x14.set ((x12).toNat) ({(x14.getD ((x12).toNat) z36) with kind := x11})).getD ((x12).toNat) z36) with n := (IntKind.i64.wrap (x11 + 1))})).length by have : ((x14.set ((x12).toNat) ({(x14.getD ((x12).toNat) z36) with kind := x11})).set ((x12).toNat) ({((x14.set ((x12).toNat) ({(x14.getD ((x12).toNat) z36) with kind := x11})).getD ((x12).toNat) z36) with n := (IntKind.i64.wrap (x11 + 1))})).length = x1.length := (List.length_set.trans (List.length_set.trans n15)); omega))
    obtain ⟨A63, c64, F67, rfl, h65, s66⟩ := st36_openO r58
    refine lv (d := 30) rfl rfl (by kernel_rfl) (e_load1 (ad := ⟨b47, 0 + (x12 : Int).toNat * 3 + 2, none⟩) (v := .slice A63 ((((x14.set ((x12).toNat) ({(x14.getD ((x12).toNat) z36) with kind := x11})).set ((x12).toNat) ({((x14.set ((x12).toNat) ({(x14.getD ((x12).toNat) z36) with kind := x11})).getD ((x12).toNat) z36) with n := (IntKind.i64.wrap (x11 + 1))})).getD ((x12).toNat) z36).text).length c64) Try.underlying26 rfl (by kernel_rfl) (hpx (k61 2 _ rfl))) ?_
    refine lv (d := 31) rfl rfl (by kernel_rfl) (e_move (v := .int .i64 (IntKind.i64.wrap ((IntKind.i64.wrap (x11 + 1)) + 1))) (by kernel_rfl)) ?_
    have S68 := S45.part d59 s60
    have S69 := S68.sub s66
    have q70 : ∀ b_, G57 b_ → hp w42 b_ = hp w42 b_ := fun _ _ => rfl
    obtain ⟨t71, u72, M⟩ := bnd M
    refine lcall (d := 32) rfl rfl (by kernel_rfl) (e_call (l := [.tmp 30, .tmp 31]) (vs := [.slice A63 ((((x14.set ((x12).toNat) ({(x14.getD ((x12).toNat) z36) with kind := x11})).set ((x12).toNat) ({((x14.set ((x12).toNat) ({(x14.getD ((x12).toNat) z36) with kind := x11})).getD ((x12).toNat) z36) with n := (IntKind.i64.wrap (x11 + 1))})).getD ((x12).toNat) z36).text).length c64, .int .i64 (IntKind.i64.wrap ((IntKind.i64.wrap (x11 + 1)) + 1))]) Try.func52 (by kernel_rfl) rfl (by kernel_rfl) rfl) (laws_markByteS_2.calls k24 w42 H9 ((((x14.set ((x12).toNat) ({(x14.getD ((x12).toNat) z36) with kind := x11})).set ((x12).toNat) ({((x14.set ((x12).toNat) ({(x14.getD ((x12).toNat) z36) with kind := x11})).getD ((x12).toNat) z36) with n := (IntKind.i64.wrap (x11 + 1))})).getD ((x12).toNat) z36).text) A63 c64 F67 (IntKind.i64.wrap ((IntKind.i64.wrap (x11 + 1)) + 1)) h65 (St.own' (Fa := [F67]) (Fr := [G57]) S69) t71 u72) ?_
    rintro _ w73 ⟨F77, H74, rfl, n78, h76, T75⟩
    refine ⟨_, rfl, ?_⟩
    obtain ⟨S79, K80⟩ := St.call (Fa := [F67]) (Fr := [G57]) S69 T75
    replace q70 := fun b_ h_ => (K80.at 0 rfl b_ h_).trans (q70 b_ h_)
    have E81 := T75.ext
    have S82 := S79.pull (F := G57) (Fr := [F77]) 1 rfl rfl
    have S83 := S82.pull (F := F77) (Fr := [G57]) 1 rfl rfl
    have h84 := t62 H74 (hp w73) F77 ({(((x14.set ((x12).toNat) ({(x14.getD ((x12).toNat) z36) with kind := x11})).set ((x12).toNat) ({((x14.set ((x12).toNat) ({(x14.getD ((x12).toNat) z36) with kind := x11})).getD ((x12).toNat) z36) with n := (IntKind.i64.wrap (x11 + 1))})).getD ((x12).toNat) z36) with text := t71.2} : Cell) E81 q70 (by have q_ := st36_mkO (x := {(((x14.set ((x12).toNat) ({(x14.getD ((x12).toNat) z36) with kind := x11})).set ((x12).toNat) ({((x14.set ((x12).toNat) ({(x14.getD ((x12).toNat) z36) with kind := x11})).getD ((x12).toNat) z36) with n := (IntKind.i64.wrap (x11 + 1))})).getD ((x12).toNat) z36) with text := t71.2}) h76; rw [show t71.2.length = ((((x14.set ((x12).toNat) ({(x14.getD ((x12).toNat) z36) with kind := x11})).set ((x12).toNat) ({((x14.set ((x12).toNat) ({(x14.getD ((x12).toNat) z36) with kind := x11})).getD ((x12).toNat) z36) with n := (IntKind.i64.wrap (x11 + 1))})).getD ((x12).toNat) z36).text).length from n78] at q_; exact q_) S83.dj
    have S85 := S83.join
    refine lv (d := 1) rfl rfl (by kernel_rfl) (e_assign (v := .int .i64 t71.1) (by kernel_rfl)) ?_
    refine wpList_nil ?_
    refine inb_n ?_
    refine then_n ?_
    refine wp_region_lit ?_
    refine lv (d := 10) rfl rfl (by kernel_rfl) (e_move (v := .int .i64 x12) (by exact e18)) ?_
    refine lv (d := 11) rfl rfl (by kernel_rfl) (e_add (k := .i64) (a := x12) (b := 1) (by kernel_rfl) rfl) ?_
    refine lv (d := 5) rfl rfl (by kernel_rfl) (e_assign (v := .int .i64 (IntKind.i64.wrap (x12 + 1))) (by kernel_rfl)) ?_
    refine wpList_nil ?_
    refine then_n ?_
    exact ⟨k24, (by omega), _, H74, t71.1, (IntKind.i64.wrap (x12 + 1)), (or2 F77 G57), (((x14.set ((x12).toNat) ({(x14.getD ((x12).toNat) z36) with kind := x11})).set ((x12).toNat) ({((x14.set ((x12).toNat) ({(x14.getD ((x12).toNat) z36) with kind := x11})).getD ((x12).toNat) z36) with n := (IntKind.i64.wrap (x11 + 1))})).set ((x12).toNat) ({(((x14.set ((x12).toNat) ({(x14.getD ((x12).toNat) z36) with kind := x11})).set ((x12).toNat) ({((x14.set ((x12).toNat) ({(x14.getD ((x12).toNat) z36) with kind := x11})).getD ((x12).toNat) z36) with n := (IntKind.i64.wrap (x11 + 1))})).getD ((x12).toNat) z36) with text := t71.2})), rfl, (by exact e16), (by kernel_rfl), (by kernel_rfl), h84, (List.length_set.trans (List.length_set.trans (List.length_set.trans n15))), (Y10.trans E81), S85, M⟩
  replace M := ifn q25 M
  refine cond_f rfl (bf q25 (by kernel_rfl)) ?_
  refine wp_exit ?_
  refine then_e ?_
  refine then_e ?_
  refine inb_hit ?_
  refine then_n ?_
  refine wp_seq ?_
  refine wp_region_lit ?_
  refine lv (d := 33) rfl rfl (by kernel_rfl) (e_move (v := .int .i64 x11) (by exact e17)) ?_
  refine lv (d := 4) rfl rfl (by kernel_rfl) (e_assign (v := .int .i64 x11) (by kernel_rfl)) ?_
  refine wpList_nil ?_
  refine then_n ?_
  refine wp_ret ?_
  obtain rfl := Option.some.inj M
  exact ret1 rfl rfl  (show _ = .int .i64 x11 from (by kernel_rfl)) ⟨F13, H9, rfl, n15, h4, S19⟩

/-! laws_markIntS -/
def laws_markIntS_2.l0 : Nat → (List Int) → Int → Int → (List Int) → Option (Int × (List Int))
  | 0, _, _, _, _ => none
  | k22 + 1, x1, x9, x10, x12 => (if x10 < (x1.length : Int) then (if 0 ≤ x10 then (laws_markIntS_2.l0 k22 x1 (IntKind.i64.wrap (x9 + 1)) (IntKind.i64.wrap (x10 + 1)) (x12.set ((x10).toNat) x9)) else none) else some (x9, x12))
def laws_markIntS_2.f (k : Nat) (x1 : List Int) (x6 : Int) : Option (Int × (List Int)) := (laws_markIntS_2.l0 k x1 x6 0 x1)
theorem laws_markIntS_2.calls (k : Nat) (w : World) (H : Hp) (x1 : List Int) (A2 : Option Addr) (c3 : Nat) (F5 : Foot) (x6 : Int) (h4 : Row tInt 3 H (hp w) F5 A2 c3 x1) (S : Own [F5] H w) (r : Int × (List Int)) (M : laws_markIntS_2.f k x1 x6 = some r) :
    Calls Try.prog 51 #[.slice A2 x1.length c3, .int .i64 x6] w (fun e e_w => ∃ (F_1 : Foot) (H_ : Hp), e = .returned (.int .i64 r.1) ∧ r.2.length = x1.length ∧ Row tInt 3 H_ (hp e_w) F_1 A2 c3 r.2 ∧ St (anyOf [F5]) H w [F_1] H_ e_w) := by
  rw [laws_markIntS_2.f] at M
  refine enter (l := [.slice A2 x1.length c3, .int .i64 x6]) 19 Try.func51 rfl rfl rfl ?_
  have S0_ := S.st
  refine wp_seq ?_
  refine wp_region_lit ?_
  refine lv (d := 4) rfl rfl (by kernel_rfl) (e_assign (v := .int .i64 0) rfl) ?_
  refine wpList_nil ?_
  refine then_n ?_
  refine wp_seq ?_
  refine wp_seq ?_
  refine wp_region_lit ?_
  refine lv (d := 5) rfl rfl (by kernel_rfl) (e_assign (v := .int .i64 0) rfl) ?_
  refine wpList_nil ?_
  refine then_n ?_
  refine wp_block ?_
  refine wp_loop_g (fun k20 a21 w7 => ∃ (f8 : Nat → Value) (x9 : Int) (x10 : Int) (F11 : Foot) (x12 : List Int), a21 = mk 19 f8 ∧ f8 0 = .slice A2 x1.length c3 ∧ f8 1 = .int .i64 x9 ∧ f8 5 = .int .i64 x10 ∧ Row tInt 3 H (hp w7) F11 A2 c3 x12 ∧ x12.length = x1.length ∧ St (anyOf [F5]) H w [F11] H w7 ∧ laws_markIntS_2.l0 k20 x1 x9 x10 x12 = some r) k ⟨_, x6, 0, F5, x1, rfl, (by kernel_rfl), (by kernel_rfl), (by kernel_rfl), h4, rfl, S0_, M⟩ ?_
  clear M
  rintro k20 a21 w7 ⟨f8, x9, x10, F11, x12, rfl, e14, e15, e16, h4, n13, S17, M⟩
  rcases k20 with _ | k22
  · rw [laws_markIntS_2.l0] at M
    cases M
  rw [laws_markIntS_2.l0] at M
  refine wp_seq ?_
  refine wp_seq ?_
  refine wp_region_lit ?_
  refine lv (d := 6) rfl rfl (by kernel_rfl) (e_move (v := .int .i64 x10) (by exact e16)) ?_
  refine lv (d := 7) rfl rfl (by kernel_rfl) (e_move (v := .slice A2 x1.length c3) (by exact e14)) ?_
  refine lv (d := 8) rfl rfl (by kernel_rfl) (e_len (A := A2) (n := x1.length) (c := c3) Try.underlying23 (by kernel_rfl)) ?_
  refine lv (d := 9) rfl rfl (by kernel_rfl) (e_lss (k := .i64) (a := x10) (b := (x1.length : Int)) (by kernel_rfl) (by kernel_rfl)) ?_
  refine wpList_nil ?_
  refine then_n ?_
  by_cases q23 : x10 < (x1.length : Int)
  · replace M := ifp q23 M
    refine cond_t rfl (bt q23 (by kernel_rfl)) ?_
    refine wp_skip ?_
    refine then_n ?_
    refine wp_seq ?_
    refine wp_block ?_
    refine wp_seq ?_
    refine wp_region_lit ?_
    refine lv (d := 12) rfl rfl (by kernel_rfl) (e_move (v := .slice A2 x1.length c3) (by exact e14)) ?_
    refine lv (d := 13) rfl rfl (by kernel_rfl) (e_move (v := .int .i64 x10) (by exact e16)) ?_
    refine lv (d := 14) rfl rfl (by kernel_rfl) (e_move (v := .int .i64 x9) (by exact e15)) ?_
    obtain ⟨q24, M⟩ := chk M
    obtain ⟨b25, e27⟩ := Row.addr h4 (show (x10).toNat < x12.length by have : x12.length = x1.length := n13; omega)
    refine lv (d := 15) rfl rfl (by kernel_rfl) (e_indexAddr (b := b25) (off := 0) (n := x1.length) (c := c3) (sz := 1) (i := x10) (k := .i64) Try.underlying23 e27 (by kernel_rfl) (by kernel_rfl) (by kernel_rfl) q24 q23) ?_
    have S28 := S17.unit
    have S29 := S28.pull (F := F11) (Fr := [no]) 1 rfl rfl
    refine lse rfl rfl (by kernel_rfl) (e_setel (d := tInt) (b := b25) (i := (x10).toNat) (v := .int .i64 x9) (vs := [.int .i64 x9]) (yv := x9) S29 (by kernel_rfl) e27 (by kernel_rfl) rfl (by kernel_rfl) h4 (show (x10).toNat < x12.length by have : x12.length = x1.length := n13; omega) rfl) ?_
    rintro w30 ⟨F32, h31, S33, K34⟩
    clear h4
    refine wpList_nil ?_
    refine then_n ?_
    refine wp_region_lit ?_
    refine lv (d := 16) rfl rfl (by kernel_rfl) (e_move (v := .int .i64 x9) (by exact e15)) ?_
    refine lv (d := 17) rfl rfl (by kernel_rfl) (e_add (k := .i64) (a := x9) (b := 1) (by kernel_rfl) rfl) ?_
    refine lv (d := 1) rfl rfl (by kernel_rfl) (e_assign (v := .int .i64 (IntKind.i64.wrap (x9 + 1))) (by kernel_rfl)) ?_
    refine wpList_nil ?_
    refine inb_n ?_
    refine then_n ?_
    refine wp_region_lit ?_
    refine lv (d := 10) rfl rfl (by kernel_rfl) (e_move (v := .int .i64 x10) (by exact e16)) ?_
    refine lv (d := 11) rfl rfl (by kernel_rfl) (e_add (k := .i64) (a := x10) (b := 1) (by kernel_rfl) rfl) ?_
    refine lv (d := 5) rfl rfl (by kernel_rfl) (e_assign (v := .int .i64 (IntKind.i64.wrap (x10 + 1))) (by kernel_rfl)) ?_
    refine wpList_nil ?_
    refine then_n ?_
    exact ⟨k22, (by omega), _, (IntKind.i64.wrap (x9 + 1)), (IntKind.i64.wrap (x10 + 1)), F32, (x12.set ((x10).toNat) x9), rfl, (by exact e14), (by kernel_rfl), (by kernel_rfl), h31, (List.length_set.trans n13), S33, M⟩
  replace M := ifn q23 M
  refine cond_f rfl (bf q23 (by kernel_rfl)) ?_
  refine wp_exit ?_
  refine then_e ?_
  refine then_e ?_
  refine inb_hit ?_
  refine then_n ?_
  refine wp_seq ?_
  refine wp_region_lit ?_
  refine lv (d := 18) rfl rfl (by kernel_rfl) (e_move (v := .int .i64 x9) (by exact e15)) ?_
  refine lv (d := 4) rfl rfl (by kernel_rfl) (e_assign (v := .int .i64 x9) (by kernel_rfl)) ?_
  refine wpList_nil ?_
  refine then_n ?_
  refine wp_ret ?_
  obtain rfl := Option.some.inj M
  exact ret1 rfl rfl  (show _ = .int .i64 x9 from (by kernel_rfl)) ⟨F11, H, rfl, n13, h4, S17⟩

/-! laws_markStore -/
def laws_markStore_2.f (k : Nat) (x1 : Store) (x10 : Int) : Option (Int × (List Cell) × (List Int)) := ((laws_markCellS_2.f k x1.cells x10).bind fun t17 => ((laws_markIntS_2.f k x1.trail t17.1).bind fun t29 => some (t29.1, t17.2, t29.2)))
theorem laws_markStore_2.calls (k : Nat) (w : World) (H : Hp) (x1 : Store) (A2 : Option Addr) (c3 : Nat) (F5 : Foot) (A6 : Option Addr) (c7 : Nat) (F9 : Foot) (x10 : Int) (h4 : Row st36 36 H (hp w) F5 A2 c3 x1.cells) (h8 : Row tInt 3 H (hp w) F9 A6 c7 x1.trail) (S : Own [F5, F9] H w) (r : Int × (List Cell) × (List Int)) (M : laws_markStore_2.f k x1 x10 = some r) :
    Calls Try.prog 19 #[.agg #[.slice A2 x1.cells.length c3, .slice A6 x1.trail.length c7], .int .i64 x10] w (fun e e_w => ∃ (F_1 : Foot) (F_2 : Foot) (H_ : Hp), e = .returned (.int .i64 r.1) ∧ r.2.1.length = x1.cells.length ∧ Row st36 36 H_ (hp e_w) F_1 A2 c3 r.2.1 ∧ r.2.2.length = x1.trail.length ∧ Row tInt 3 H_ (hp e_w) F_2 A6 c7 r.2.2 ∧ St (anyOf [F5, F9]) H w [F_1, F_2] H_ e_w) := by
  rw [laws_markStore_2.f] at M
  refine enter (l := [.agg #[.slice A2 x1.cells.length c3, .slice A6 x1.trail.length c7], .int .i64 x10]) 14 Try.func19 rfl rfl rfl ?_
  have S0_ := S.st
  refine wp_seq ?_
  refine wp_region_lit ?_
  refine lve (d := 2) rfl rfl (by kernel_rfl) (new_blk (v := fun g_ => .pointer (some ⟨g_, 0, none⟩)) (cs := #[.slice A2 x1.cells.length c3, .slice A6 x1.trail.length c7]) (t := 34) S0_ (by kernel_rfl)) ?_
  rintro _ w11 ⟨g12, rfl, b13, S14, K15⟩
  replace h4 := h4.move (K15.at 0 rfl)
  replace h8 := h8.move (K15.at 1 rfl)
  refine lv (d := 4) rfl rfl (by kernel_rfl) (e_assign (v := .int .i64 0) rfl) ?_
  refine wpList_nil ?_
  refine then_n ?_
  refine wp_seq ?_
  refine wp_region_lit ?_
  refine lv (d := 5) rfl rfl (by kernel_rfl) (e_fieldAddr (b := g12) (off := 0) (o := 0) Try.underlying34 rfl rfl (sz := 1) (by kernel_rfl) (by decide) (by kernel_rfl)) ?_
  refine lv (d := 6) rfl rfl (by kernel_rfl) (e_load1 (ad := ⟨g12, 0 + 0, none⟩) (v := .slice A2 x1.cells.length c3) Try.underlying32 rfl (by kernel_rfl) (blk_cell b13 rfl)) ?_
  refine lv (d := 7) rfl rfl (by kernel_rfl) (e_move (v := .int .i64 x10) (by kernel_rfl)) ?_
  have S16 := S14.pull (F := F5) (Fr := [(is g12), F9]) 1 rfl rfl
  obtain ⟨t17, u18, M⟩ := bnd M
  refine lcall (d := 8) rfl rfl (by kernel_rfl) (e_call (l := [.tmp 6, .tmp 7]) (vs := [.slice A2 x1.cells.length c3, .int .i64 x10]) Try.func25 (by kernel_rfl) rfl (by kernel_rfl) rfl) (laws_markCellS_2.calls k w11 H x1.cells A2 c3 F5 x10 h4 (St.own' (Fa := [F5]) (Fr := [(is g12), F9]) S16) t17 u18) ?_
  rintro _ w19 ⟨F23, H20, rfl, n24, h22, T21⟩
  refine ⟨_, rfl, ?_⟩
  obtain ⟨S25, K26⟩ := St.call (Fa := [F5]) (Fr := [(is g12), F9]) S16 T21
  replace b13 := K26.blk 0 rfl b13
  replace h8 := h8.move (K26.at 1 rfl)
  have E27 := T21.ext
  replace h8 := h8.ext E27
  refine lv (d := 1) rfl rfl (by kernel_rfl) (e_assign (v := .int .i64 t17.1) (by kernel_rfl)) ?_
  refine wpList_nil ?_
  refine then_n ?_
  refine wp_seq ?_
  refine wp_region_lit ?_
  refine lv (d := 9) rfl rfl (by kernel_rfl) (e_fieldAddr (b := g12) (off := 0) (o := 1) Try.underlying34 rfl rfl (sz := 1) (by kernel_rfl) (by decide) (by kernel_rfl)) ?_
  refine lv (d := 10) rfl rfl (by kernel_rfl) (e_load1 (ad := ⟨g12, 0 + 1, none⟩) (v := .slice A6 x1.trail.length c7) Try.underlying23 rfl (by kernel_rfl) (blk_cell b13 rfl)) ?_
  refine lv (d := 11) rfl rfl (by kernel_rfl) (e_move (v := .int .i64 t17.1) (by kernel_rfl)) ?_
  have S28 := S25.pull (F := F9) (Fr := [F23, (is g12)]) 2 rfl rfl
  obtain ⟨t29, u30, M⟩ := bnd M
  refine lcall (d := 12) rfl rfl (by kernel_rfl) (e_call (l := [.tmp 10, .tmp 11]) (vs := [.slice A6 x1.trail.length c7, .int .i64 t17.1]) Try.func51 (by kernel_rfl) rfl (by kernel_rfl) rfl) (laws_markIntS_2.calls k w19 H20 x1.trail A6 c7 F9 t17.1 h8 (St.own' (Fa := [F9]) (Fr := [F23, (is g12)]) S28) t29 u30) ?_
  rintro _ w31 ⟨F35, H32, rfl, n36, h34, T33⟩
  refine ⟨_, rfl, ?_⟩
  obtain ⟨S37, K38⟩ := St.call (Fa := [F9]) (Fr := [F23, (is g12)]) S28 T33
  replace h22 := h22.move (K38.at 0 rfl)
  replace b13 := K38.blk 1 rfl b13
  have E39 := T33.ext
  replace h22 := h22.ext E39
  refine lv (d := 1) rfl rfl (by kernel_rfl) (e_assign (v := .int .i64 t29.1) (by kernel_rfl)) ?_
  refine wpList_nil ?_
  refine then_n ?_
  refine wp_seq ?_
  refine wp_region_lit ?_
  refine lv (d := 13) rfl rfl (by kernel_rfl) (e_move (v := .int .i64 t29.1) (by kernel_rfl)) ?_
  refine lv (d := 4) rfl rfl (by kernel_rfl) (e_assign (v := .int .i64 t29.1) (by kernel_rfl)) ?_
  refine wpList_nil ?_
  refine then_n ?_
  refine wp_ret ?_
  obtain rfl := Option.some.inj M
  have S40 := S37.pull (F := F23) (Fr := [F35, (is g12)]) 1 rfl rfl
  have S41 := St.first (Fa := [F23, F35]) (Fr := [(is g12)]) S40
  exact ret1 rfl rfl  (show _ = .int .i64 t29.1 from (by kernel_rfl)) ⟨F23, F35, H32, rfl, n24, h22, n36, h34, S41⟩

/-! laws_markCell -/
def laws_markCell_2.f (k : Nat) (x1 : Cell) (x6 : Int) : Option (Int × (List UInt8)) := ((laws_markByteS_2.f k x1.text x6).bind fun t13 => some (t13.1, t13.2))
theorem laws_markCell_2.calls (k : Nat) (w : World) (H : Hp) (x1 : Cell) (A2 : Option Addr) (c3 : Nat) (F5 : Foot) (x6 : Int) (h4 : Row tByte 5 H (hp w) F5 A2 c3 x1.text) (S : Own [F5] H w) (r : Int × (List UInt8)) (M : laws_markCell_2.f k x1 x6 = some r) :
    Calls Try.prog 20 #[.agg #[.int .i64 x1.kind, .int .i64 x1.n, .slice A2 x1.text.length c3], .int .i64 x6] w (fun e e_w => ∃ (F_1 : Foot) (H_ : Hp), e = .returned (.int .i64 r.1) ∧ r.2.length = x1.text.length ∧ Row tByte 5 H_ (hp e_w) F_1 A2 c3 r.2 ∧ St (anyOf [F5]) H w [F_1] H_ e_w) := by
  rw [laws_markCell_2.f] at M
  refine enter (l := [.agg #[.int .i64 x1.kind, .int .i64 x1.n, .slice A2 x1.text.length c3], .int .i64 x6]) 10 Try.func20 rfl rfl rfl ?_
  have S0_ := S.st
  refine wp_seq ?_
  refine wp_region_lit ?_
  refine lve (d := 2) rfl rfl (by kernel_rfl) (new_blk (v := fun g_ => .pointer (some ⟨g_, 0, none⟩)) (cs := #[.int .i64 x1.kind, .int .i64 x1.n, .slice A2 x1.text.length c3]) (t := 36) S0_ (by kernel_rfl)) ?_
  rintro _ w7 ⟨g8, rfl, b9, S10, K11⟩
  replace h4 := h4.move (K11.at 0 rfl)
  refine lv (d := 4) rfl rfl (by kernel_rfl) (e_assign (v := .int .i64 0) rfl) ?_
  refine wpList_nil ?_
  refine then_n ?_
  refine wp_seq ?_
  refine wp_region_lit ?_
  refine lv (d := 5) rfl rfl (by kernel_rfl) (e_fieldAddr (b := g8) (off := 0) (o := 2) Try.underlying36 rfl rfl (sz := 1) (by kernel_rfl) (by decide) (by kernel_rfl)) ?_
  refine lv (d := 6) rfl rfl (by kernel_rfl) (e_load1 (ad := ⟨g8, 0 + 2, none⟩) (v := .slice A2 x1.text.length c3) Try.underlying26 rfl (by kernel_rfl) (blk_cell b9 rfl)) ?_
  refine lv (d := 7) rfl rfl (by kernel_rfl) (e_move (v := .int .i64 x6) (by kernel_rfl)) ?_
  have S12 := S10.pull (F := F5) (Fr := [(is g8)]) 1 rfl rfl
  obtain ⟨t13, u14, M⟩ := bnd M
  refine lcall (d := 8) rfl rfl (by kernel_rfl) (e_call (l := [.tmp 6, .tmp 7]) (vs := [.slice A2 x1.text.length c3, .int .i64 x6]) Try.func52 (by kernel_rfl) rfl (by kernel_rfl) rfl) (laws_markByteS_2.calls k w7 H x1.text A2 c3 F5 x6 h4 (St.own' (Fa := [F5]) (Fr := [(is g8)]) S12) t13 u14) ?_
  rintro _ w15 ⟨F19, H16, rfl, n20, h18, T17⟩
  refine ⟨_, rfl, ?_⟩
  obtain ⟨S21, K22⟩ := St.call (Fa := [F5]) (Fr := [(is g8)]) S12 T17
  replace b9 := K22.blk 0 rfl b9
  have E23 := T17.ext
  refine lv (d := 1) rfl rfl (by kernel_rfl) (e_assign (v := .int .i64 t13.1) (by kernel_rfl)) ?_
  refine wpList_nil ?_
  refine then_n ?_
  refine wp_seq ?_
  refine wp_region_lit ?_
  refine lv (d := 9) rfl rfl (by kernel_rfl) (e_move (v := .int .i64 t13.1) (by kernel_rfl)) ?_
  refine lv (d := 4) rfl rfl (by kernel_rfl) (e_assign (v := .int .i64 t13.1) (by kernel_rfl)) ?_
  refine wpList_nil ?_
  refine then_n ?_
  refine wp_ret ?_
  obtain rfl := Option.some.inj M
  have S24 := St.first (Fa := [F19]) (Fr := [(is g8)]) S21
  exact ret1 rfl rfl  (show _ = .int .i64 t13.1 from (by kernel_rfl)) ⟨F19, H16, rfl, n20, h18, S24⟩

/-! laws_heldByteS -/
def laws_heldByteS.l0 : Nat → (List UInt8) → Int → Int → Option Int
  | 0, _, _, _ => none
  | k19 + 1, x1, x9, x10 => (if x10 < (x1.length : Int) then (if 0 ≤ x10 then (if ((x1.getD ((x10).toNat) (0 : UInt8)).toNat : Int) ≠ ((b8 (x9)).toNat : Int) then some (-1) else (laws_heldByteS.l0 k19 x1 (IntKind.i64.wrap (x9 + 1)) (IntKind.i64.wrap (x10 + 1)))) else none) else some x9)
def laws_heldByteS.f (k : Nat) (x1 : List UInt8) (x6 : Int) : Option Int := (laws_heldByteS.l0 k x1 x6 0)
theorem laws_heldByteS.calls (k : Nat) (w : World) (H : Hp) (x1 : List UInt8) (A2 : Option Addr) (c3 : Nat) (x6 : Int) (h4 : Rd tByte H A2 x1) (l5 : x1.length ≤ c3) (S : Own [] H w) (r : Int) (M : laws_heldByteS.f k x1 x6 = some r) :
    Calls Try.prog 53 #[.slice A2 x1.length c3, .int .i64 x6] w (fun e e_w => e = .returned (.int .i64 r) ∧ Chg no w e_w) := by
  rw [laws_heldByteS.f] at M
  refine enter (l := [.slice A2 x1.length c3, .int .i64 x6]) 22 Try.func53 rfl rfl rfl ?_
  have S0_ := S.st
  refine wp_seq ?_
  refine wp_region_lit ?_
  refine lv (d := 4) rfl rfl (by kernel_rfl) (e_assign (v := .int .i64 0) rfl) ?_
  refine wpList_nil ?_
  refine then_n ?_
  refine wp_seq ?_
  refine wp_seq ?_
  refine wp_region_lit ?_
  refine lv (d := 5) rfl rfl (by kernel_rfl) (e_assign (v := .int .i64 0) rfl) ?_
  refine wpList_nil ?_
  refine then_n ?_
  refine wp_block ?_
  refine wp_loop_g (fun k17 a18 w7 => ∃ (f8 : Nat → Value) (x9 : Int) (x10 : Int), a18 = mk 22 f8 ∧ f8 0 = .slice A2 x1.length c3 ∧ f8 1 = .int .i64 x9 ∧ f8 5 = .int .i64 x10 ∧ St (anyOf []) H w [] H w7 ∧ laws_heldByteS.l0 k17 x1 x9 x10 = some r) k ⟨_, x6, 0, rfl, (by kernel_rfl), (by kernel_rfl), (by kernel_rfl), S0_, M⟩ ?_
  clear M
  rintro k17 a18 w7 ⟨f8, x9, x10, rfl, e11, e12, e13, S14, M⟩
  rcases k17 with _ | k19
  · rw [laws_heldByteS.l0] at M
    cases M
  rw [laws_heldByteS.l0] at M
  refine wp_seq ?_
  refine wp_seq ?_
  refine wp_region_lit ?_
  refine lv (d := 6) rfl rfl (by kernel_rfl) (e_move (v := .int .i64 x10) (by exact e13)) ?_
  refine lv (d := 7) rfl rfl (by kernel_rfl) (e_move (v := .slice A2 x1.length c3) (by exact e11)) ?_
  refine lv (d := 8) rfl rfl (by kernel_rfl) (e_len (A := A2) (n := x1.length) (c := c3) Try.underlying26 (by kernel_rfl)) ?_
  refine lv (d := 9) rfl rfl (by kernel_rfl) (e_lss (k := .i64) (a := x10) (b := (x1.length : Int)) (by kernel_rfl) (by kernel_rfl)) ?_
  refine wpList_nil ?_
  refine then_n ?_
  by_cases q20 : x10 < (x1.length : Int)
  · replace M := ifp q20 M
    refine cond_t rfl (bt q20 (by kernel_rfl)) ?_
    refine wp_skip ?_
    refine then_n ?_
    refine wp_seq ?_
    refine wp_block ?_
    refine wp_seq ?_
    refine wp_seq ?_
    refine wp_region_lit ?_
    refine lv (d := 12) rfl rfl (by kernel_rfl) (e_move (v := .slice A2 x1.length c3) (by exact e11)) ?_
    refine lv (d := 13) rfl rfl (by kernel_rfl) (e_move (v := .int .i64 x10) (by exact e13)) ?_
    obtain ⟨q21, M⟩ := chk M
    obtain ⟨b22, o23, e24⟩ := Rd.addr h4 (show (x10).toNat < x1.length by omega)
    obtain ⟨y25, r26, k27⟩ := Rd.at h4 e24 (getD_some (0 : UInt8) (show (x10).toNat < x1.length by omega))
    obtain rfl := r26
    refine lv (d := 14) rfl rfl (by kernel_rfl) (e_indexAddr (b := b22) (off := o23) (n := x1.length) (c := c3) (sz := 1) (i := x10) (k := .i64) Try.underlying26 e24 (by kernel_rfl) (by kernel_rfl) (by kernel_rfl) q21 q20) ?_
    refine lv (d := 15) rfl rfl (by kernel_rfl) (e_load1 (ad := ⟨b22, o23 + (x10 : Int).toNat * 1, none⟩) (v := .int .u8 ((x1.getD ((x10).toNat) (0 : UInt8)).toNat : Int)) Try.underlying5 rfl (by kernel_rfl) (hpx (S14.inv.cell (k27 0 _ rfl)))) ?_
    refine lv (d := 16) rfl rfl (by kernel_rfl) (e_move (v := .int .i64 x9) (by exact e12)) ?_
    refine lv (d := 17) rfl rfl (by kernel_rfl) (e_conv_i8 (k := .i64) (a := x9) (by kernel_rfl) Try.underlying5 (by kernel_rfl)) ?_
    refine lv (d := 18) rfl rfl (by kernel_rfl) (e_neq (k := .u8) (a := ((x1.getD ((x10).toNat) (0 : UInt8)).toNat : Int)) (b := ((b8 (x9)).toNat : Int)) (by kernel_rfl) (by kernel_rfl)) ?_
    refine wpList_nil ?_
    refine then_n ?_
    by_cases q28 : ((x1.getD ((x10).toNat) (0 : UInt8)).toNat : Int) ≠ ((b8 (x9)).toNat : Int)
    · replace M := ifp q28 M
      refine cond_t rfl (bt q28 (by kernel_rfl)) ?_
      refine wp_seq ?_
      refine wp_region_lit ?_
      refine lv (d := 4) rfl rfl (by kernel_rfl) (e_assign (v := .int .i64 (-1)) rfl) ?_
      refine wpList_nil ?_
      refine then_n ?_
      refine wp_ret ?_
      refine then_r ?_
      refine inb_r ?_
      refine then_r ?_
      refine then_r ?_
      refine inb_r ?_
      refine then_r ?_
      obtain rfl := Option.some.inj M
      exact ret1 rfl rfl  (show _ = .int .i64 (-1) from (by kernel_rfl)) ⟨rfl, S14.chg⟩
    replace M := ifn q28 M
    refine cond_f rfl (bf q28 (by kernel_rfl)) ?_
    refine wp_skip ?_
    refine then_n ?_
    refine wp_region_lit ?_
    refine lv (d := 19) rfl rfl (by kernel_rfl) (e_move (v := .int .i64 x9) (by exact e12)) ?_
    refine lv (d := 20) rfl rfl (by kernel_rfl) (e_add (k := .i64) (a := x9) (b := 1) (by kernel_rfl) rfl) ?_
    refine lv (d := 1) rfl rfl (by kernel_rfl) (e_assign (v := .int .i64 (IntKind.i64.wrap (x9 + 1))) (by kernel_rfl)) ?_
    refine wpList_nil ?_
    refine inb_n ?_
    refine then_n ?_
    refine wp_region_lit ?_
    refine lv (d := 10) rfl rfl (by kernel_rfl) (e_move (v := .int .i64 x10) (by exact e13)) ?_
    refine lv (d := 11) rfl rfl (by kernel_rfl) (e_add (k := .i64) (a := x10) (b := 1) (by kernel_rfl) rfl) ?_
    refine lv (d := 5) rfl rfl (by kernel_rfl) (e_assign (v := .int .i64 (IntKind.i64.wrap (x10 + 1))) (by kernel_rfl)) ?_
    refine wpList_nil ?_
    refine then_n ?_
    exact ⟨k19, (by omega), _, (IntKind.i64.wrap (x9 + 1)), (IntKind.i64.wrap (x10 + 1)), rfl, (by exact e11), (by kernel_rfl), (by kernel_rfl), S14, M⟩
  replace M := ifn q20 M
  refine cond_f rfl (bf q20 (by kernel_rfl)) ?_
  refine wp_exit ?_
  refine then_e ?_
  refine then_e ?_
  refine inb_hit ?_
  refine then_n ?_
  refine wp_seq ?_
  refine wp_region_lit ?_
  refine lv (d := 21) rfl rfl (by kernel_rfl) (e_move (v := .int .i64 x9) (by exact e12)) ?_
  refine lv (d := 4) rfl rfl (by kernel_rfl) (e_assign (v := .int .i64 x9) (by kernel_rfl)) ?_
  refine wpList_nil ?_
  refine then_n ?_
  refine wp_ret ?_
  obtain rfl := Option.some.inj M
  exact ret1 rfl rfl  (show _ = .int .i64 x9 from (by kernel_rfl)) ⟨rfl, S14.chg⟩

/-! laws_heldCellS -/
def laws_heldCellS.l0 : Nat → (List Cell) → Int → Int → Option Int
  | 0, _, _, _ => none
  | k19 + 1, x1, x9, x10 => (if x10 < (x1.length : Int) then (if 0 ≤ x10 then (if ((x1.getD ((x10).toNat) z36).kind) ≠ x9 then some (-1) else (if ((x1.getD ((x10).toNat) z36).n) ≠ (IntKind.i64.wrap (x9 + 1)) then some (-1) else ((laws_heldByteS.f k19 ((x1.getD ((x10).toNat) z36).text) (IntKind.i64.wrap ((IntKind.i64.wrap (x9 + 1)) + 1))).bind fun t54 => (if t54 < 0 then some (-1) else (laws_heldCellS.l0 k19 x1 t54 (IntKind.i64.wrap (x10 + 1))))))) else none) else some x9)
def laws_heldCellS.f (k : Nat) (x1 : List Cell) (x6 : Int) : Option Int := (laws_heldCellS.l0 k x1 x6 0)
theorem laws_heldCellS.calls (k : Nat) (w : World) (H : Hp) (x1 : List Cell) (A2 : Option Addr) (c3 : Nat) (x6 : Int) (h4 : Rd st36 H A2 x1) (l5 : x1.length ≤ c3) (S : Own [] H w) (r : Int) (M : laws_heldCellS.f k x1 x6 = some r) :
    Calls Try.prog 26 #[.slice A2 x1.length c3, .int .i64 x6] w (fun e e_w => e = .returned (.int .i64 r) ∧ Chg no w e_w) := by
  rw [laws_heldCellS.f] at M
  refine enter (l := [.slice A2 x1.length c3, .int .i64 x6]) 40 Try.func26 rfl rfl rfl ?_
  have S0_ := S.st
  refine wp_seq ?_
  refine wp_region_lit ?_
  refine lv (d := 4) rfl rfl (by kernel_rfl) (e_assign (v := .int .i64 0) rfl) ?_
  refine wpList_nil ?_
  refine then_n ?_
  refine wp_seq ?_
  refine wp_seq ?_
  refine wp_region_lit ?_
  refine lv (d := 5) rfl rfl (by kernel_rfl) (e_assign (v := .int .i64 0) rfl) ?_
  refine wpList_nil ?_
  refine then_n ?_
  refine wp_block ?_
  refine wp_loop_g (fun k17 a18 w7 => ∃ (f8 : Nat → Value) (x9 : Int) (x10 : Int), a18 = mk 40 f8 ∧ f8 0 = .slice A2 x1.length c3 ∧ f8 1 = .int .i64 x9 ∧ f8 5 = .int .i64 x10 ∧ St (anyOf []) H w [] H w7 ∧ laws_heldCellS.l0 k17 x1 x9 x10 = some r) k ⟨_, x6, 0, rfl, (by kernel_rfl), (by kernel_rfl), (by kernel_rfl), S0_, M⟩ ?_
  clear M
  rintro k17 a18 w7 ⟨f8, x9, x10, rfl, e11, e12, e13, S14, M⟩
  rcases k17 with _ | k19
  · rw [laws_heldCellS.l0] at M
    cases M
  rw [laws_heldCellS.l0] at M
  refine wp_seq ?_
  refine wp_seq ?_
  refine wp_region_lit ?_
  refine lv (d := 6) rfl rfl (by kernel_rfl) (e_move (v := .int .i64 x10) (by exact e13)) ?_
  refine lv (d := 7) rfl rfl (by kernel_rfl) (e_move (v := .slice A2 x1.length c3) (by exact e11)) ?_
  refine lv (d := 8) rfl rfl (by kernel_rfl) (e_len (A := A2) (n := x1.length) (c := c3) Try.underlying32 (by kernel_rfl)) ?_
  refine lv (d := 9) rfl rfl (by kernel_rfl) (e_lss (k := .i64) (a := x10) (b := (x1.length : Int)) (by kernel_rfl) (by kernel_rfl)) ?_
  refine wpList_nil ?_
  refine then_n ?_
  by_cases q20 : x10 < (x1.length : Int)
  · replace M := ifp q20 M
    refine cond_t rfl (bt q20 (by kernel_rfl)) ?_
    refine wp_skip ?_
    refine then_n ?_
    refine wp_seq ?_
    refine wp_block ?_
    refine wp_seq ?_
    refine wp_seq ?_
    refine wp_region_lit ?_
    refine lv (d := 12) rfl rfl (by kernel_rfl) (e_move (v := .slice A2 x1.length c3) (by exact e11)) ?_
    refine lv (d := 13) rfl rfl (by kernel_rfl) (e_move (v := .int .i64 x10) (by exact e13)) ?_
    obtain ⟨q21, M⟩ := chk M
    obtain ⟨b22, o23, e24⟩ := Rd.addr h4 (show (x10).toNat < x1.length by omega)
    obtain ⟨y25, r26, k27⟩ := Rd.at h4 e24 (getD_some z36 (show (x10).toNat < x1.length by omega))
    obtain ⟨A28, c29, rfl, l30, h31⟩ := st36_open r26
    refine lv (d := 14) rfl rfl (by kernel_rfl) (e_indexAddr (b := b22) (off := o23) (n := x1.length) (c := c3) (sz := 3) (i := x10) (k := .i64) Try.underlying32 e24 (by kernel_rfl) (by kernel_rfl) (by kernel_rfl) q21 q20) ?_
    refine lv (d := 15) rfl rfl (by kernel_rfl) (e_fieldAddr (b := b22) (off := o23 + (x10 : Int).toNat * 3) (o := 0) Try.underlying36 rfl rfl (sz := 1) (by kernel_rfl) (by decide) (by kernel_rfl)) ?_
    refine lv (d := 16) rfl rfl (by kernel_rfl) (e_load1 (ad := ⟨b22, o23 + (x10 : Int).toNat * 3 + 0, none⟩) (v := .int .i64 ((x1.getD ((x10).toNat) z36).kind)) Try.underlying3 rfl (by kernel_rfl) (hpx (S14.inv.cell (k27 0 _ rfl)))) ?_
    refine lv (d := 17) rfl rfl (by kernel_rfl) (e_move (v := .int .i64 x9) (by exact e12)) ?_
    refine lv (d := 18) rfl rfl (by kernel_rfl) (e_neq (k := .i64) (a := (x1.getD ((x10).toNat) z36).kind) (b := x9) (by kernel_rfl) (by kernel_rfl)) ?_
    refine wpList_nil ?_
    refine then_n ?_
    by_cases q32 : ((x1.getD ((x10).toNat) z36).kind) ≠ x9
    · replace M := ifp q32 M
      refine cond_t rfl (bt q32 (by kernel_rfl)) ?_
      refine wp_seq ?_
      refine wp_region_lit ?_
      refine lv (d := 4) rfl rfl (by kernel_rfl) (e_assign (v := .int .i64 (-1)) rfl) ?_
      refine wpList_nil ?_
      refine then_n ?_
      refine wp_ret ?_
      refine then_r ?_
      refine inb_r ?_
      refine then_r ?_
      refine then_r ?_
      refine inb_r ?_
      refine then_r ?_
      obtain rfl := Option.some.inj M
      exact ret1 rfl rfl  (show _ = .int .i64 (-1) from (by kernel_rfl)) ⟨rfl, S14.chg⟩
    replace M := ifn q32 M
    refine cond_f rfl (bf q32 (by kernel_rfl)) ?_
    refine wp_skip ?_
    refine then_n ?_
    refine wp_seq ?_
    refine wp_region_lit ?_
    refine lv (d := 19) rfl rfl (by kernel_rfl) (e_move (v := .int .i64 x9) (by exact e12)) ?_
    refine lv (d := 20) rfl rfl (by kernel_rfl) (e_add (k := .i64) (a := x9) (b := 1) (by kernel_rfl) rfl) ?_
    refine lv (d := 1) rfl rfl (by kernel_rfl) (e_assign (v := .int .i64 (IntKind.i64.wrap (x9 + 1))) (by kernel_rfl)) ?_
    refine wpList_nil ?_
    refine then_n ?_
    refine wp_seq ?_
    refine wp_seq ?_
    refine wp_region_lit ?_
    refine lv (d := 21) rfl rfl (by kernel_rfl) (e_move (v := .slice A2 x1.length c3) (by exact e11)) ?_
    refine lv (d := 22) rfl rfl (by kernel_rfl) (e_move (v := .int .i64 x10) (by exact e13)) ?_
    obtain ⟨b33, o34, e35⟩ := Rd.addr h4 (show (x10).toNat < x1.length by omega)
    obtain ⟨y36, r37, k38⟩ := Rd.at h4 e35 (getD_some z36 (show (x10).toNat < x1.length by omega))
    obtain ⟨A39, c40, rfl, l41, h42⟩ := st36_open r37
    refine lv (d := 23) rfl rfl (by kernel_rfl) (e_indexAddr (b := b33) (off := o34) (n := x1.length) (c := c3) (sz := 3) (i := x10) (k := .i64) Try.underlying32 e35 (by kernel_rfl) (by kernel_rfl) (by kernel_rfl) q21 q20) ?_
    refine lv (d := 24) rfl rfl (by kernel_rfl) (e_fieldAddr (b := b33) (off := o34 + (x10 : Int).toNat * 3) (o := 1) Try.underlying36 rfl rfl (sz := 1) (by kernel_rfl) (by decide) (by kernel_rfl)) ?_
    refine lv (d := 25) rfl rfl (by kernel_rfl) (e_load1 (ad := ⟨b33, o34 + (x10 : Int).toNat * 3 + 1, none⟩) (v := .int .i64 ((x1.getD ((x10).toNat) z36).n)) Try.underlying3 rfl (by kernel_rfl) (hpx (S14.inv.cell (k38 1 _ rfl)))) ?_
    refine lv (d := 26) rfl rfl (by kernel_rfl) (e_move (v := .int .i64 (IntKind.i64.wrap (x9 + 1))) (by kernel_rfl)) ?_
    refine lv (d := 27) rfl rfl (by kernel_rfl) (e_neq (k := .i64) (a := (x1.getD ((x10).toNat) z36).n) (b := (IntKind.i64.wrap (x9 + 1))) (by kernel_rfl) (by kernel_rfl)) ?_
    refine wpList_nil ?_
    refine then_n ?_
    by_cases q43 : ((x1.getD ((x10).toNat) z36).n) ≠ (IntKind.i64.wrap (x9 + 1))
    · replace M := ifp q43 M
      refine cond_t rfl (bt q43 (by kernel_rfl)) ?_
      refine wp_seq ?_
      refine wp_region_lit ?_
      refine lv (d := 4) rfl rfl (by kernel_rfl) (e_assign (v := .int .i64 (-1)) rfl) ?_
      refine wpList_nil ?_
      refine then_n ?_
      refine wp_ret ?_
      refine then_r ?_
      refine inb_r ?_
      refine then_r ?_
      refine then_r ?_
      refine inb_r ?_
      refine then_r ?_
      obtain rfl := Option.some.inj M
      exact ret1 rfl rfl  (show _ = .int .i64 (-1) from (by kernel_rfl)) ⟨rfl, S14.chg⟩
    replace M := ifn q43 M
    refine cond_f rfl (bf q43 (by kernel_rfl)) ?_
    refine wp_skip ?_
    refine then_n ?_
    refine wp_seq ?_
    refine wp_region_lit ?_
    refine lv (d := 28) rfl rfl (by kernel_rfl) (e_move (v := .int .i64 (IntKind.i64.wrap (x9 + 1))) (by kernel_rfl)) ?_
    refine lv (d := 29) rfl rfl (by kernel_rfl) (e_add (k := .i64) (a := (IntKind.i64.wrap (x9 + 1))) (b := 1) (by kernel_rfl) rfl) ?_
    refine lv (d := 1) rfl rfl (by kernel_rfl) (e_assign (v := .int .i64 (IntKind.i64.wrap ((IntKind.i64.wrap (x9 + 1)) + 1))) (by kernel_rfl)) ?_
    refine wpList_nil ?_
    refine then_n ?_
    refine wp_seq ?_
    refine wp_region_lit ?_
    refine lv (d := 30) rfl rfl (by kernel_rfl) (e_move (v := .slice A2 x1.length c3) (by exact e11)) ?_
    refine lv (d := 31) rfl rfl (by kernel_rfl) (e_move (v := .int .i64 x10) (by exact e13)) ?_
    obtain ⟨b44, o45, e46⟩ := Rd.addr h4 (show (x10).toNat < x1.length by omega)
    obtain ⟨y47, r48, k49⟩ := Rd.at h4 e46 (getD_some z36 (show (x10).toNat < x1.length by omega))
    obtain ⟨A50, c51, rfl, l52, h53⟩ := st36_open r48
    refine lv (d := 32) rfl rfl (by kernel_rfl) (e_indexAddr (b := b44) (off := o45) (n := x1.length) (c := c3) (sz := 3) (i := x10) (k := .i64) Try.underlying32 e46 (by kernel_rfl) (by kernel_rfl) (by kernel_rfl) q21 q20) ?_
    refine lv (d := 33) rfl rfl (by kernel_rfl) (e_fieldAddr (b := b44) (off := o45 + (x10 : Int).toNat * 3) (o := 2) Try.underlying36 rfl rfl (sz := 1) (by kernel_rfl) (by decide) (by kernel_rfl)) ?_
    refine lv (d := 34) rfl rfl (by kernel_rfl) (e_load1 (ad := ⟨b44, o45 + (x10 : Int).toNat * 3 + 2, none⟩) (v := .slice A50 ((x1.getD ((x10).toNat) z36).text).length c51) Try.underlying26 rfl (by kernel_rfl) (hpx (S14.inv.cell (k49 2 _ rfl)))) ?_
    refine lv (d := 35) rfl rfl (by kernel_rfl) (e_move (v := .int .i64 (IntKind.i64.wrap ((IntKind.i64.wrap (x9 + 1)) + 1))) (by kernel_rfl)) ?_
    obtain ⟨t54, u55, M⟩ := bnd M
    refine lcall (d := 36) rfl rfl (by kernel_rfl) (e_call (l := [.tmp 34, .tmp 35]) (vs := [.slice A50 ((x1.getD ((x10).toNat) z36).text).length c51, .int .i64 (IntKind.i64.wrap ((IntKind.i64.wrap (x9 + 1)) + 1))]) Try.func53 (by kernel_rfl) rfl (by kernel_rfl) rfl) (laws_heldByteS.calls k19 w7 H ((x1.getD ((x10).toNat) z36).text) A50 c51 (IntKind.i64.wrap ((IntKind.i64.wrap (x9 + 1)) + 1)) h53 l52 S14.own0 t54 u55) ?_
    rintro _ w56 ⟨rfl, C57⟩
    refine ⟨_, rfl, ?_⟩
    obtain ⟨S58, K59⟩ := S14.still C57
    refine lv (d := 1) rfl rfl (by kernel_rfl) (e_assign (v := .int .i64 t54) (by kernel_rfl)) ?_
    refine wpList_nil ?_
    refine then_n ?_
    refine wp_seq ?_
    refine wp_region_lit ?_
    refine lv (d := 37) rfl rfl (by kernel_rfl) (e_move (v := .int .i64 t54) (by kernel_rfl)) ?_
    refine lv (d := 38) rfl rfl (by kernel_rfl) (e_lss (k := .i64) (a := t54) (b := 0) (by kernel_rfl) rfl) ?_
    refine wpList_nil ?_
    refine then_n ?_
    by_cases q60 : t54 < 0
    · replace M := ifp q60 M
      refine cond_t rfl (bt q60 (by kernel_rfl)) ?_
      refine wp_seq ?_
      refine wp_region_lit ?_
      refine lv (d := 4) rfl rfl (by kernel_rfl) (e_assign (v := .int .i64 (-1)) rfl) ?_
      refine wpList_nil ?_
      refine then_n ?_
      refine wp_ret ?_
      refine inb_r ?_
      refine then_r ?_
      refine then_r ?_
      refine inb_r ?_
      refine then_r ?_
      obtain rfl := Option.some.inj M
      exact ret1 rfl rfl  (show _ = .int .i64 (-1) from (by kernel_rfl)) ⟨rfl, S58.chg⟩
    replace M := ifn q60 M
    refine cond_f rfl (bf q60 (by kernel_rfl)) ?_
    refine wp_skip ?_
    refine inb_n ?_
    refine then_n ?_
    refine wp_region_lit ?_
    refine lv (d := 10) rfl rfl (by kernel_rfl) (e_move (v := .int .i64 x10) (by exact e13)) ?_
    refine lv (d := 11) rfl rfl (by kernel_rfl) (e_add (k := .i64) (a := x10) (b := 1) (by kernel_rfl) rfl) ?_
    refine lv (d := 5) rfl rfl (by kernel_rfl) (e_assign (v := .int .i64 (IntKind.i64.wrap (x10 + 1))) (by kernel_rfl)) ?_
    refine wpList_nil ?_
    refine then_n ?_
    exact ⟨k19, (by omega), _, t54, (IntKind.i64.wrap (x10 + 1)), rfl, (by exact e11), (by kernel_rfl), (by kernel_rfl), S58, M⟩
  replace M := ifn q20 M
  refine cond_f rfl (bf q20 (by kernel_rfl)) ?_
  refine wp_exit ?_
  refine then_e ?_
  refine then_e ?_
  refine inb_hit ?_
  refine then_n ?_
  refine wp_seq ?_
  refine wp_region_lit ?_
  refine lv (d := 39) rfl rfl (by kernel_rfl) (e_move (v := .int .i64 x9) (by exact e12)) ?_
  refine lv (d := 4) rfl rfl (by kernel_rfl) (e_assign (v := .int .i64 x9) (by kernel_rfl)) ?_
  refine wpList_nil ?_
  refine then_n ?_
  refine wp_ret ?_
  obtain rfl := Option.some.inj M
  exact ret1 rfl rfl  (show _ = .int .i64 x9 from (by kernel_rfl)) ⟨rfl, S14.chg⟩

/-! laws_FnExactGetTerm -/
def laws_FnExactGetTerm.f (k : Nat) (x1 : Store) (x10 : Cell) : Option Bool := ((laws_szStore.f k x1 1048576).bind fun t25 => (if t25 < 0 then some true else ((laws_szCell.f x10 t25).bind fun t32 => (if t32 < 0 then some true else ((laws_toStore.f k x1).bind fun t50 => ((laws_toCell.f k x10).bind fun t68 => ((spec_GetTerm.f k t50 t68).bind fun t102 => ((laws_toStore.f k x1).bind fun t126 => ((laws_toCell.f k x10).bind fun t151 => ((impl_GetTerm.f k t126 t151).bind fun t199 => ((laws_eqCellS.f k t199.1 t102.1).bind fun t222 => (if ¬ (t222 = true) then some false else (if t199.2 ≠ t102.2 then some false else ((laws_toStore.f k x1).bind fun t254 => ((laws_eqStore.f k t126 t254).bind fun t272 => (if ¬ (t272 = true) then some false else ((laws_toCell.f k x10).bind fun t319 => ((laws_eqCell.f k t151 t319).bind fun t333 => (if ¬ (t333 = true) then some false else ((laws_markStore_2.f k t126 1).bind fun t359 => ((laws_markCell_2.f k t151 t359.1).bind fun t374 => (if t374.1 < 0 then some false else ((laws_eqCellS.f k t199.1 t102.1).bind fun t386 => (if ¬ (t386 = true) then some false else ((laws_markCellS_2.f k t199.1 1).bind fun t408 => ((laws_heldCellS.f k t408.2 1).bind fun t419 => (if t419 < 0 then some false else (if t419 ≠ t408.1 then some false else ((laws_toStore.f k x1).bind fun t444 => ((laws_toCell.f k x10).bind fun t462 => ((impl_GetTerm.f k t444 t462).bind fun t496 => ((laws_eqCellS.f k t496.1 t102.1).bind fun t520 => (if ¬ (t520 = true) then some false else (if t496.2 ≠ t102.2 then some false else ((laws_heldCellS.f k t408.2 1).bind fun t541 => (if t541 < 0 then some false else (if t541 ≠ t408.1 then some false else some true)))))))))))))))))))))))))))))))))))))
theorem laws_FnExactGetTerm.calls (k : Nat) (w : World) (H : Hp) (x1 : Store) (A2 : Option Addr) (c3 : Nat) (A6 : Option Addr) (c7 : Nat) (x10 : Cell) (A11 : Option Addr) (c12 : Nat) (h4 : Rd st28 H A2 x1.cells) (l5 : x1.cells.length ≤ c3) (h8 : Rd tInt H A6 x1.trail) (l9 : x1.trail.length ≤ c7) (h13 : Rd tByte H A11 x10.text) (l14 : x10.text.length ≤ c12) (S : Own [] H w) (r : Bool) (M : laws_FnExactGetTerm.f k x1 x10 = some r) :
    Calls Try.prog 5 #[.agg #[.slice A2 x1.cells.length c3, .slice A6 x1.trail.length c7], .agg #[.int .i64 x10.kind, .int .i64 x10.n, .slice A11 x10.text.length c12]] w (fun e e_w => e = .returned (.bool r) ∧ Chg no w e_w) := by
  rw [laws_FnExactGetTerm.f] at M
  refine enter (l := [.agg #[.slice A2 x1.cells.length c3, .slice A6 x1.trail.length c7], .agg #[.int .i64 x10.kind, .int .i64 x10.n, .slice A11 x10.text.length c12]]) 119 Try.func5 rfl rfl rfl ?_
  have S0_ := S.st
  refine wp_seq ?_
  refine wp_region_lit ?_
  refine lve (d := 2) rfl rfl (by kernel_rfl) (new_blk (v := fun g_ => .pointer (some ⟨g_, 0, none⟩)) (cs := #[.slice A2 x1.cells.length c3, .slice A6 x1.trail.length c7]) (t := 25) S0_ (by kernel_rfl)) ?_
  rintro _ w15 ⟨g16, rfl, b17, S18, K19⟩
  refine lve (d := 3) rfl rfl (by kernel_rfl) (new_blk (v := fun g_ => .pointer (some ⟨g_, 0, none⟩)) (cs := #[.int .i64 x10.kind, .int .i64 x10.n, .slice A11 x10.text.length c12]) (t := 28) S18 (by kernel_rfl)) ?_
  rintro _ w20 ⟨g21, rfl, b22, S23, K24⟩
  replace b17 := K24.blk 0 rfl b17
  refine lv (d := 4) rfl rfl (by kernel_rfl) (e_assign (v := .bool false) rfl) ?_
  refine wpList_nil ?_
  refine then_n ?_
  refine wp_seq ?_
  refine wp_region_lit ?_
  refine lv (d := 5) rfl rfl (by kernel_rfl) (e_assign (v := .int .i64 1048576) rfl) ?_
  refine wpList_nil ?_
  refine then_n ?_
  refine wp_seq ?_
  refine wp_region_lit ?_
  refine lv (d := 17) rfl rfl (by kernel_rfl) (e_loadS (b := g16) (off := 0) (cs := [.slice A2 x1.cells.length c3, .slice A6 x1.trail.length c7]) Try.underlying25 rfl (by kernel_rfl) (by kernel_rfl) (blk_cells b17 rfl)) ?_
  refine lv (d := 18) rfl rfl (by kernel_rfl) (e_move (v := .int .i64 1048576) (by kernel_rfl)) ?_
  obtain ⟨t25, u26, M⟩ := bnd M
  refine lcall (d := 19) rfl rfl (by kernel_rfl) (e_call (l := [.tmp 17, .tmp 18]) (vs := [.agg #[.slice A2 x1.cells.length c3, .slice A6 x1.trail.length c7], .int .i64 1048576]) Try.func9 (by kernel_rfl) rfl (by kernel_rfl) rfl) (laws_szStore.calls k w20 H x1 A2 c3 A6 c7 1048576 h4 l5 h8 l9 S23.own0 t25 u26) ?_
  rintro _ w27 ⟨rfl, C28⟩
  refine ⟨_, rfl, ?_⟩
  obtain ⟨S29, K30⟩ := S23.still C28
  replace b22 := K30.blk 0 rfl b22
  replace b17 := K30.blk 1 rfl b17
  refine lv (d := 5) rfl rfl (by kernel_rfl) (e_assign (v := .int .i64 t25) (by kernel_rfl)) ?_
  refine wpList_nil ?_
  refine then_n ?_
  refine wp_seq ?_
  refine wp_seq ?_
  refine wp_region_lit ?_
  refine lv (d := 20) rfl rfl (by kernel_rfl) (e_move (v := .int .i64 t25) (by kernel_rfl)) ?_
  refine lv (d := 21) rfl rfl (by kernel_rfl) (e_lss (k := .i64) (a := t25) (b := 0) (by kernel_rfl) rfl) ?_
  refine wpList_nil ?_
  refine then_n ?_
  by_cases q31 : t25 < 0
  · replace M := ifp q31 M
    refine cond_t rfl (bt q31 (by kernel_rfl)) ?_
    refine wp_seq ?_
    refine wp_region_lit ?_
    refine lv (d := 4) rfl rfl (by kernel_rfl) (e_assign (v := .bool true) rfl) ?_
    refine wpList_nil ?_
    refine then_n ?_
    refine wp_ret ?_
    refine then_r ?_
    obtain rfl := Option.some.inj M
    exact ret1 rfl rfl  (show _ = .bool true from (by kernel_rfl)) ⟨rfl, S29.chg⟩
  replace M := ifn q31 M
  refine cond_f rfl (bf q31 (by kernel_rfl)) ?_
  refine wp_skip ?_
  refine then_n ?_
  refine wp_seq ?_
  refine wp_region_lit ?_
  refine lv (d := 22) rfl rfl (by kernel_rfl) (e_loadS (b := g21) (off := 0) (cs := [.int .i64 x10.kind, .int .i64 x10.n, .slice A11 x10.text.length c12]) Try.underlying28 rfl (by kernel_rfl) (by kernel_rfl) (blk_cells b22 rfl)) ?_
  refine lv (d := 23) rfl rfl (by kernel_rfl) (e_move (v := .int .i64 t25) (by kernel_rfl)) ?_
  obtain ⟨t32, u33, M⟩ := bnd M
  refine lcall (d := 24) rfl rfl (by kernel_rfl) (e_call (l := [.tmp 22, .tmp 23]) (vs := [.agg #[.int .i64 x10.kind, .int .i64 x10.n, .slice A11 x10.text.length c12], .int .i64 t25]) Try.func10 (by kernel_rfl) rfl (by kernel_rfl) rfl) (laws_szCell.calls w27 H x10 A11 c12 t25 h13 l14 S29.own0 t32 u33) ?_
  rintro _ w34 ⟨rfl, C35⟩
  refine ⟨_, rfl, ?_⟩
  obtain ⟨S36, K37⟩ := S29.still C35
  replace b22 := K37.blk 0 rfl b22
  replace b17 := K37.blk 1 rfl b17
  refine lv (d := 5) rfl rfl (by kernel_rfl) (e_assign (v := .int .i64 t32) (by kernel_rfl)) ?_
  refine wpList_nil ?_
  refine then_n ?_
  refine wp_seq ?_
  refine wp_seq ?_
  refine wp_region_lit ?_
  refine lv (d := 25) rfl rfl (by kernel_rfl) (e_move (v := .int .i64 t32) (by kernel_rfl)) ?_
  refine lv (d := 26) rfl rfl (by kernel_rfl) (e_lss (k := .i64) (a := t32) (b := 0) (by kernel_rfl) rfl) ?_
  refine wpList_nil ?_
  refine then_n ?_
  by_cases q38 : t32 < 0
  · replace M := ifp q38 M
    refine cond_t rfl (bt q38 (by kernel_rfl)) ?_
    refine wp_seq ?_
    refine wp_region_lit ?_
    refine lv (d := 4) rfl rfl (by kernel_rfl) (e_assign (v := .bool true) rfl) ?_
    refine wpList_nil ?_
    refine then_n ?_
    refine wp_ret ?_
    refine then_r ?_
    obtain rfl := Option.some.inj M
    exact ret1 rfl rfl  (show _ = .bool true from (by kernel_rfl)) ⟨rfl, S36.chg⟩
  replace M := ifn q38 M
  refine cond_f rfl (bf q38 (by kernel_rfl)) ?_
  refine wp_skip ?_
  refine then_n ?_
  refine wp_seq ?_
  refine region_mix (S := (fun (L_ : Array Bool) (w_ : World) => Ext H (hp w_) ∧ (∀ b_, (is g21) b_ → hp w_ b_ = hp w34 b_) ∧ (∀ b_, (is g16) b_ → hp w_ b_ = hp w34 b_))) (by kernel_rfl) S36 ?_
  intro w39 S40 K41 hc42
  have o43 := b22
  have o44 := b17
  have hs45 : (fun (L_ : Array Bool) (w_ : World) => Ext H (hp w_) ∧ (∀ b_, (is g21) b_ → hp w_ b_ = hp w34 b_) ∧ (∀ b_, (is g16) b_ → hp w_ b_ = hp w34 b_)) (Array.replicate 10 false) w39 := ⟨S40.inv, (fun b_ h_ => K41.at 0 rfl b_ h_), (fun b_ h_ => K41.at 1 rfl b_ h_)⟩
  replace b22 := K41.blk 0 rfl b22
  replace b17 := K41.blk 1 rfl b17
  refine xv (i := 0) (d := 28) rfl rfl rfl (by kernel_rfl) (by kernel_rfl) (fun _ _ => Iff.rfl) hc42 hs45 (fun L_ w_ hc_ hu_ hs_ => e_loadS (b := g16) (off := 0) (cs := [.slice A2 x1.cells.length c3, .slice A6 x1.trail.length c7]) Try.underlying25 rfl (by kernel_rfl) (by kernel_rfl) (blk_cells ((hs_.2.2 _ rfl).trans o44) rfl)) ?_; intro hc46 hs47
  refine xv (i := 2) (d := 30) rfl rfl rfl (by kernel_rfl) (by kernel_rfl) (fun _ _ => Iff.rfl) hc46 hs47 (fun L_ w_ hc_ hu_ hs_ => e_loadS (b := g21) (off := 0) (cs := [.int .i64 x10.kind, .int .i64 x10.n, .slice A11 x10.text.length c12]) Try.underlying28 rfl (by kernel_rfl) (by kernel_rfl) (blk_cells ((hs_.2.1 _ rfl).trans o43) rfl)) ?_; intro hc48 hs49
  obtain ⟨t50, u51, M⟩ := bnd M
  refine xone (i := 1) (by kernel_rfl) hc48 ?_
  refine yc (i := 1) rfl (wanted_none rfl _) (by kernel_rfl) (by kernel_rfl) (e_call (l := [.tmp 28]) (vs := [.agg #[.slice A2 x1.cells.length c3, .slice A6 x1.trail.length c7]]) Try.func12 (by kernel_rfl) rfl (by kernel_rfl) rfl) (laws_toStore.calls k w39 H x1 A2 c3 A6 c7 h4 l5 h8 l9 (St.own' (Fa := []) (Fr := [(is g21), (is g16)]) S40) t50 u51) ?_
  rintro hc63 _ w52 ⟨A55, c56, F58, A59, c60, F62, H53, rfl, h57, h61, T54⟩
  refine ⟨_, rfl, ?_⟩
  obtain ⟨S64, K65⟩ := St.call (Fa := []) (Fr := [(is g21), (is g16)]) S40 T54
  replace b22 := K65.blk 0 rfl b22
  replace b17 := K65.blk 1 rfl b17
  have E66 := T54.ext
  refine ⟨⟨(Ext.trans E66 S64.inv), (fun b_ h_ => (K65.at 0 rfl b_ h_).trans (hs49.2.1 b_ h_)), (fun b_ h_ => (K65.at 1 rfl b_ h_).trans (hs49.2.2 b_ h_))⟩, fun hs67 => ?_⟩
  obtain ⟨t68, u69, M⟩ := bnd M
  refine xone (i := 3) (by kernel_rfl) hc63 ?_
  refine yc (i := 3) rfl (wanted_none rfl _) (by kernel_rfl) (by kernel_rfl) (e_call (l := [.tmp 30]) (vs := [.agg #[.int .i64 x10.kind, .int .i64 x10.n, .slice A11 x10.text.length c12]]) Try.func13 (by kernel_rfl) rfl (by kernel_rfl) rfl) (laws_toCell.calls k w52 H53 x10 A11 c12 (h13.ext E66) l14 (St.own' (Fa := []) (Fr := [F58, F62, (is g21), (is g16)]) S64) t68 u69) ?_
  rintro hc77 _ w70 ⟨A73, c74, F76, H71, rfl, h75, T72⟩
  refine ⟨_, rfl, ?_⟩
  obtain ⟨S78, K79⟩ := St.call (Fa := []) (Fr := [F58, F62, (is g21), (is g16)]) S64 T72
  replace h57 := h57.move (K79.at 0 rfl)
  replace h61 := h61.move (K79.at 1 rfl)
  replace b22 := K79.blk 2 rfl b22
  replace b17 := K79.blk 3 rfl b17
  have E80 := T72.ext
  replace h57 := h57.ext E80
  replace h61 := h61.ext E80
  refine ⟨⟨(Ext.trans (E66.trans E80) S78.inv), (fun b_ h_ => (K79.at 2 rfl b_ h_).trans (hs67.2.1 b_ h_)), (fun b_ h_ => (K79.at 3 rfl b_ h_).trans (hs67.2.2 b_ h_))⟩, fun hs81 => ?_⟩
  have l82 := h57.le
  have S83 := S78.pull (F := F58) (Fr := [F76, F62, (is g21), (is g16)]) 1 rfl rfl
  obtain ⟨H84, S85, E86, h87, z88⟩ := S83.frzRow h57
  replace h75 := h75.ext E86
  replace h61 := h61.ext E86
  have l89 := h61.le
  have S90 := S85.pull (F := F62) (Fr := [F76, (is g21), (is g16)]) 1 rfl rfl
  obtain ⟨H91, S92, E93, h94, z95⟩ := S90.frzRow h61
  replace h75 := h75.ext E93
  have l96 := h75.le
  obtain ⟨H97, S98, E99, h100, z101⟩ := S92.frzRow h75
  obtain ⟨t102, u103, M⟩ := bnd M
  refine xone (i := 4) (by kernel_rfl) hc77 ?_
  refine yc (i := 4) rfl (wanted_none rfl _) (by kernel_rfl) (by kernel_rfl) (e_call (l := [.tmp 29, .tmp 31]) (vs := [.agg #[.slice A55 t50.cells.length c56, .slice A59 t50.trail.length c60], .agg #[.int .i64 t68.kind, .int .i64 t68.n, .slice A73 t68.text.length c74]]) Try.func22 (by kernel_rfl) rfl (by kernel_rfl) rfl) (spec_GetTerm.calls k w70 H97 t50 A55 c56 A59 c60 t68 A73 c74 (h87.ext (E93.trans E99)) l82 (h94.ext E99) l89 h100 l96 (St.own' (Fa := []) (Fr := [(is g21), (is g16)]) S98) t102 u103) ?_
  rintro hc111 _ w104 ⟨A107, c108, F110, H105, rfl, h109, T106⟩
  refine ⟨_, rfl, ?_⟩
  obtain ⟨S112, K113⟩ := St.call (Fa := []) (Fr := [(is g21), (is g16)]) S98 T106
  replace b22 := K113.blk 0 rfl b22
  replace b17 := K113.blk 1 rfl b17
  have E114 := T106.ext
  refine ⟨⟨(Ext.trans (((((E66.trans E80).trans E86).trans E93).trans E99).trans E114) S112.inv), (fun b_ h_ => (K113.at 0 rfl b_ h_).trans (hs81.2.1 b_ h_)), (fun b_ h_ => (K113.at 1 rfl b_ h_).trans (hs81.2.2 b_ h_))⟩, fun hs115 => ?_⟩
  refine xone (i := 5) (by kernel_rfl) hc111 ?_
  refine yo (i := 5) (d := 27) rfl rfl (wanted_none rfl _) (by kernel_rfl) (by kernel_rfl) (fun _ _ => Iff.rfl) hs115 (e_move (v := .tuple #[.slice A107 t102.1.length c108, .int .i64 t102.2]) (by kernel_rfl)) ?_; intro hc116 hs117
  refine xv (i := 6) (d := 33) rfl rfl rfl (by kernel_rfl) (by kernel_rfl) (fun _ _ => Iff.rfl) hc116 hs117 (fun L_ w_ hc_ hu_ hs_ => e_extract (vs := #[.slice A107 t102.1.length c108, .int .i64 t102.2]) (v := .slice A107 t102.1.length c108) (by kernel_rfl) rfl) ?_; intro hc118 hs119
  refine xv (i := 7) (d := 34) rfl rfl rfl (by kernel_rfl) (by kernel_rfl) (fun _ _ => Iff.rfl) hc118 hs119 (fun L_ w_ hc_ hu_ hs_ => e_extract (vs := #[.slice A107 t102.1.length c108, .int .i64 t102.2]) (v := .int .i64 t102.2) (by kernel_rfl) rfl) ?_; intro hc120 hs121
  refine xone (i := 8) (by kernel_rfl) hc120 ?_
  refine yo (i := 8) (d := 6) rfl rfl (wanted_none rfl _) (by kernel_rfl) (by kernel_rfl) (fun _ _ => Iff.rfl) hs121 (e_assign (v := .slice A107 t102.1.length c108) (by kernel_rfl)) ?_; intro hc122 hs123
  refine xone (i := 9) (by kernel_rfl) hc122 ?_
  refine yo (i := 9) (d := 7) rfl rfl (wanted_none rfl _) (by kernel_rfl) (by kernel_rfl) (fun _ _ => Iff.rfl) hs123 (e_assign (v := .int .i64 t102.2) (by kernel_rfl)) ?_; intro hc124 hs125
  refine xn (by kernel_rfl) ?_ _
  refine then_n ?_
  refine wp_seq ?_
  refine wp_region_lit ?_
  refine lv (d := 35) rfl rfl (by kernel_rfl) (e_loadS (b := g16) (off := 0) (cs := [.slice A2 x1.cells.length c3, .slice A6 x1.trail.length c7]) Try.underlying25 rfl (by kernel_rfl) (by kernel_rfl) (blk_cells b17 rfl)) ?_
  obtain ⟨t126, u127, M⟩ := bnd M
  refine lcall (d := 36) rfl rfl (by kernel_rfl) (e_call (l := [.tmp 35]) (vs := [.agg #[.slice A2 x1.cells.length c3, .slice A6 x1.trail.length c7]]) Try.func12 (by kernel_rfl) rfl (by kernel_rfl) rfl) (laws_toStore.calls k w104 H105 x1 A2 c3 A6 c7 (h4.ext (((((E66.trans E80).trans E86).trans E93).trans E99).trans E114)) l5 (h8.ext (((((E66.trans E80).trans E86).trans E93).trans E99).trans E114)) l9 (St.own' (Fa := []) (Fr := [F110, (is g21), (is g16)]) S112) t126 u127) ?_
  rintro _ w128 ⟨A131, c132, F134, A135, c136, F138, H129, rfl, h133, h137, T130⟩
  refine ⟨_, rfl, ?_⟩
  obtain ⟨S139, K140⟩ := St.call (Fa := []) (Fr := [F110, (is g21), (is g16)]) S112 T130
  replace h109 := h109.move (K140.at 0 rfl)
  replace b22 := K140.blk 1 rfl b22
  replace b17 := K140.blk 2 rfl b17
  have E141 := T130.ext
  replace h109 := h109.ext E141
  refine lve (d := 8) rfl rfl (by kernel_rfl) (new_blk (v := fun g_ => .pointer (some ⟨g_, 0, none⟩)) (cs := #[.slice none 0 0, .slice none 0 0]) (t := 34) S139 (by kernel_rfl)) ?_
  rintro _ w142 ⟨g143, rfl, b144, S145, K146⟩
  replace h133 := h133.move (K146.at 0 rfl)
  replace h137 := h137.move (K146.at 1 rfl)
  replace h109 := h109.move (K146.at 2 rfl)
  replace b22 := K146.blk 3 rfl b22
  replace b17 := K146.blk 4 rfl b17
  refine lse rfl rfl (by kernel_rfl) (e_store (g := g143) (o := 0) (v := .agg #[.slice A131 t126.cells.length c132, .slice A135 t126.trail.length c136]) (cur' := #[.slice A131 t126.cells.length c132, .slice A135 t126.trail.length c136]) (vs := [.slice A131 t126.cells.length c132, .slice A135 t126.trail.length c136]) S145 (by kernel_rfl) (by kernel_rfl) rfl (by kernel_rfl) b144 (Nat.le_of_ble_eq_true rfl) (List.forall_mem_cons.2 ⟨rfl, (List.forall_mem_cons.2 ⟨rfl, (fun _ h_ => by cases h_)⟩)⟩) rfl) ?_
  rintro w147 ⟨b148, S149, K150⟩
  replace h133 := h133.move (K150.at 0 rfl)
  replace h137 := h137.move (K150.at 1 rfl)
  replace h109 := h109.move (K150.at 2 rfl)
  replace b22 := K150.blk 3 rfl b22
  replace b17 := K150.blk 4 rfl b17
  clear b144
  refine wpList_nil ?_
  refine then_n ?_
  refine wp_seq ?_
  refine wp_region_lit ?_
  refine lv (d := 37) rfl rfl (by kernel_rfl) (e_loadS (b := g21) (off := 0) (cs := [.int .i64 x10.kind, .int .i64 x10.n, .slice A11 x10.text.length c12]) Try.underlying28 rfl (by kernel_rfl) (by kernel_rfl) (blk_cells b22 rfl)) ?_
  obtain ⟨t151, u152, M⟩ := bnd M
  refine lcall (d := 38) rfl rfl (by kernel_rfl) (e_call (l := [.tmp 37]) (vs := [.agg #[.int .i64 x10.kind, .int .i64 x10.n, .slice A11 x10.text.length c12]]) Try.func13 (by kernel_rfl) rfl (by kernel_rfl) rfl) (laws_toCell.calls k w147 H129 x10 A11 c12 (h13.ext ((((((E66.trans E80).trans E86).trans E93).trans E99).trans E114).trans E141)) l14 (St.own' (Fa := []) (Fr := [(is g143), F134, F138, F110, (is g21), (is g16)]) S149) t151 u152) ?_
  rintro _ w153 ⟨A156, c157, F159, H154, rfl, h158, T155⟩
  refine ⟨_, rfl, ?_⟩
  obtain ⟨S160, K161⟩ := St.call (Fa := []) (Fr := [(is g143), F134, F138, F110, (is g21), (is g16)]) S149 T155
  replace b148 := K161.blk 0 rfl b148
  replace h133 := h133.move (K161.at 1 rfl)
  replace h137 := h137.move (K161.at 2 rfl)
  replace h109 := h109.move (K161.at 3 rfl)
  replace b22 := K161.blk 4 rfl b22
  replace b17 := K161.blk 5 rfl b17
  have E162 := T155.ext
  replace h133 := h133.ext E162
  replace h137 := h137.ext E162
  replace h109 := h109.ext E162
  refine lve (d := 9) rfl rfl (by kernel_rfl) (new_blk (v := fun g_ => .pointer (some ⟨g_, 0, none⟩)) (cs := #[.int .i64 0, .int .i64 0, .slice none 0 0]) (t := 36) S160 (by kernel_rfl)) ?_
  rintro _ w163 ⟨g164, rfl, b165, S166, K167⟩
  replace h158 := h158.move (K167.at 0 rfl)
  replace b148 := K167.blk 1 rfl b148
  replace h133 := h133.move (K167.at 2 rfl)
  replace h137 := h137.move (K167.at 3 rfl)
  replace h109 := h109.move (K167.at 4 rfl)
  replace b22 := K167.blk 5 rfl b22
  replace b17 := K167.blk 6 rfl b17
  refine lse rfl rfl (by kernel_rfl) (e_store (g := g164) (o := 0) (v := .agg #[.int .i64 t151.kind, .int .i64 t151.n, .slice A156 t151.text.length c157]) (cur' := #[.int .i64 t151.kind, .int .i64 t151.n, .slice A156 t151.text.length c157]) (vs := [.int .i64 t151.kind, .int .i64 t151.n, .slice A156 t151.text.length c157]) S166 (by kernel_rfl) (by kernel_rfl) rfl (by kernel_rfl) b165 (Nat.le_of_ble_eq_true rfl) (List.forall_mem_cons.2 ⟨rfl, (List.forall_mem_cons.2 ⟨rfl, (List.forall_mem_cons.2 ⟨rfl, (fun _ h_ => by cases h_)⟩)⟩)⟩) rfl) ?_
  rintro w168 ⟨b169, S170, K171⟩
  replace h158 := h158.move (K171.at 0 rfl)
  replace b148 := K171.blk 1 rfl b148
  replace h133 := h133.move (K171.at 2 rfl)
  replace h137 := h137.move (K171.at 3 rfl)
  replace h109 := h109.move (K171.at 4 rfl)
  replace b22 := K171.blk 5 rfl b22
  replace b17 := K171.blk 6 rfl b17
  clear b165
  refine wpList_nil ?_
  refine then_n ?_
  refine wp_seq ?_
  refine wp_region_lit ?_
  refine lv (d := 40) rfl rfl (by kernel_rfl) (e_loadS (b := g143) (off := 0) (cs := [.slice A131 t126.cells.length c132, .slice A135 t126.trail.length c136]) Try.underlying34 rfl (by kernel_rfl) (by kernel_rfl) (blk_cells b148 rfl)) ?_
  refine lv (d := 41) rfl rfl (by kernel_rfl) (e_loadS (b := g164) (off := 0) (cs := [.int .i64 t151.kind, .int .i64 t151.n, .slice A156 t151.text.length c157]) Try.underlying36 rfl (by kernel_rfl) (by kernel_rfl) (blk_cells b169 rfl)) ?_
  have S172 := S170.pull (F := F134) (Fr := [(is g164), F159, (is g143), F138, F110, (is g21), (is g16)]) 3 rfl rfl
  have l173 := h133.le
  obtain ⟨H174, S175, E176, h177, z178⟩ := S172.frzRow h133
  have h179 := h158.ext E176
  have h180 := h137.ext E176
  have h181 := h109.ext E176
  have S182 := S175.pull (F := F138) (Fr := [(is g164), F159, (is g143), F110, (is g21), (is g16)]) 3 rfl rfl
  have l183 := h180.le
  obtain ⟨H184, S185, E186, h187, z188⟩ := S182.frzRow h180
  have h189 := h179.ext E186
  have h190 := h181.ext E186
  have S191 := S185.pull (F := F159) (Fr := [(is g164), (is g143), F110, (is g21), (is g16)]) 1 rfl rfl
  have l192 := h189.le
  obtain ⟨H193, S194, E195, h196, z197⟩ := S191.frzRow h189
  have h198 := h190.ext E195
  obtain ⟨t199, u200, M⟩ := bnd M
  refine lcall (d := 42) rfl rfl (by kernel_rfl) (e_call (l := [.tmp 40, .tmp 41]) (vs := [.agg #[.slice A131 t126.cells.length c132, .slice A135 t126.trail.length c136], .agg #[.int .i64 t151.kind, .int .i64 t151.n, .slice A156 t151.text.length c157]]) Try.func23 (by kernel_rfl) rfl (by kernel_rfl) rfl) (impl_GetTerm.calls k w168 H193 t126 A131 c132 A135 c136 t151 A156 c157 (h177.ext (E186.trans E195)) l173 (h187.ext E195) l183 h196 l192 S194.own0 t199 u200) ?_
  rintro _ w201 ⟨A204, c205, F207, H202, rfl, h206, T203⟩
  refine ⟨_, rfl, ?_⟩
  obtain ⟨S208, K209⟩ := St.call (Fa := []) (Fr := [(is g164), (is g143), F110, (is g21), (is g16)]) S194 T203
  replace b169 := K209.blk 0 rfl b169
  replace b148 := K209.blk 1 rfl b148
  replace h109 := h109.move (K209.at 2 rfl)
  replace b22 := K209.blk 3 rfl b22
  replace b17 := K209.blk 4 rfl b17
  obtain ⟨H210, S211, E212, v213⟩ := St.thaw S191 z197 S208 T203.ext E195 T203.size
  replace h158 := h158.move v213
  obtain ⟨H214, S215, E216, v217⟩ := St.thaw S182 z188 S211 E212 E186 T203.size
  replace h137 := h137.move v217
  obtain ⟨H218, S219, E220, v221⟩ := St.thaw S172 z178 S215 E216 E176 T203.size
  replace h133 := h133.move v221
  replace h133 := h133.ext E220
  replace h137 := h137.ext E220
  replace h158 := h158.ext E220
  replace h109 := h109.ext E220
  replace h206 := Row.free (H' := H218) (free_iso (free_pair (free_scal _ _) (free_pair (free_scal _ _) (free_slice (free_scal _ _))))) h206
  refine lv (d := 39) rfl rfl (by kernel_rfl) (e_move (v := .tuple #[.slice A204 t199.1.length c205, .int .i64 t199.2]) (by kernel_rfl)) ?_
  refine lv (d := 43) rfl rfl (by kernel_rfl) (e_extract (vs := #[.slice A204 t199.1.length c205, .int .i64 t199.2]) (v := .slice A204 t199.1.length c205) (by kernel_rfl) rfl) ?_
  refine lv (d := 44) rfl rfl (by kernel_rfl) (e_extract (vs := #[.slice A204 t199.1.length c205, .int .i64 t199.2]) (v := .int .i64 t199.2) (by kernel_rfl) rfl) ?_
  refine lv (d := 10) rfl rfl (by kernel_rfl) (e_assign (v := .slice A204 t199.1.length c205) (by kernel_rfl)) ?_
  refine lv (d := 11) rfl rfl (by kernel_rfl) (e_assign (v := .int .i64 t199.2) (by kernel_rfl)) ?_
  refine wpList_nil ?_
  refine then_n ?_
  refine wp_seq ?_
  refine wp_seq ?_
  refine wp_region_lit ?_
  refine lv (d := 45) rfl rfl (by kernel_rfl) (e_move (v := .slice A204 t199.1.length c205) (by kernel_rfl)) ?_
  refine lv (d := 46) rfl rfl (by kernel_rfl) (e_move (v := .slice A107 t102.1.length c108) (by kernel_rfl)) ?_
  obtain ⟨t222, u223, M⟩ := bnd M
  refine lcall (d := 47) rfl rfl (by kernel_rfl) (e_call (l := [.tmp 45, .tmp 46]) (vs := [.slice A204 t199.1.length c205, .slice A107 t102.1.length c108]) Try.func24 (by kernel_rfl) rfl (by kernel_rfl) rfl) (by have l224 := h206.le; have S225 := S219.pull (F := F207) (Fr := [F134, F138, F159, (is g164), (is g143), F110, (is g21), (is g16)]) 3 rfl rfl; obtain ⟨H226, S227, E228, h229, z230⟩ := S225.frzRow h206; replace h133 := h133.ext E228; replace h137 := h137.ext E228; replace h158 := h158.ext E228; replace h109 := h109.ext E228; have l231 := h109.le; have S232 := S227.pull (F := F110) (Fr := [F134, F138, F159, (is g164), (is g143), (is g21), (is g16)]) 5 rfl rfl; obtain ⟨H233, S234, E235, h236, z237⟩ := S232.frzRow h109; replace h133 := h133.ext E235; replace h137 := h137.ext E235; replace h158 := h158.ext E235; exact (laws_eqCellS.calls k w201 H233 t199.1 A204 c205 t102.1 A107 c108 (h229.ext E235) l224 h236 l231 S234.own0 t222 u223)) ?_
  rintro _ w238 ⟨rfl, C239⟩
  refine ⟨_, rfl, ?_⟩
  obtain ⟨S240, K241⟩ := S219.still C239
  replace h133 := h133.move (K241.at 0 rfl)
  replace h137 := h137.move (K241.at 1 rfl)
  replace h158 := h158.move (K241.at 2 rfl)
  replace h206 := h206.move (K241.at 3 rfl)
  replace b169 := K241.blk 4 rfl b169
  replace b148 := K241.blk 5 rfl b148
  replace h109 := h109.move (K241.at 6 rfl)
  replace b22 := K241.blk 7 rfl b22
  replace b17 := K241.blk 8 rfl b17
  refine lv (d := 48) rfl rfl (by kernel_rfl) (e_notv (c := t222) (by kernel_rfl)) ?_
  refine lv (d := 49) rfl rfl (by kernel_rfl) (e_move (v := .bool (decide (¬ (t222 = true)))) (by kernel_rfl)) ?_
  by_cases q242 : ¬ (t222 = true)
  · replace M := ifp q242 M
    refine lskip (t := 49) (c := true) rfl (by kernel_rfl) rfl (bt q242 (by kernel_rfl)) rfl rfl ?_
    refine lskip (t := 49) (c := true) rfl (by kernel_rfl) rfl (bt q242 (by kernel_rfl)) rfl rfl ?_
    refine lskip (t := 49) (c := true) rfl (by kernel_rfl) rfl (bt q242 (by kernel_rfl)) rfl rfl ?_
    refine lv (d := 53) rfl rfl (by kernel_rfl) (e_pick_t (v := .bool true) (bt q242 (by kernel_rfl)) rfl) ?_
    refine wpList_nil ?_
    refine then_n ?_
    refine cond_t rfl (by kernel_rfl) ?_
    refine wp_seq ?_
    refine wp_region_lit ?_
    refine lv (d := 4) rfl rfl (by kernel_rfl) (e_assign (v := .bool false) rfl) ?_
    refine wpList_nil ?_
    refine then_n ?_
    refine wp_ret ?_
    refine then_r ?_
    obtain rfl := Option.some.inj M
    exact ret1 rfl rfl  (show _ = .bool false from (by kernel_rfl)) ⟨rfl, S240.chg⟩
  replace M := ifn q242 M
  refine lvg (d := 50) (t := 49) rfl (by kernel_rfl) rfl (bf q242 (by kernel_rfl)) rfl (by kernel_rfl) (e_move (v := .int .i64 t199.2) (by kernel_rfl)) ?_
  refine lvg (d := 51) (t := 49) rfl (by kernel_rfl) rfl (bf q242 (by kernel_rfl)) rfl (by kernel_rfl) (e_move (v := .int .i64 t102.2) (by kernel_rfl)) ?_
  refine lvg (d := 52) (t := 49) rfl (by kernel_rfl) rfl (bf q242 (by kernel_rfl)) rfl (by kernel_rfl) (e_neq (k := .i64) (a := t199.2) (b := t102.2) (by kernel_rfl) (by kernel_rfl)) ?_
  refine lv (d := 53) rfl rfl (by kernel_rfl) (e_pick_f (v := .bool (decide (t199.2 ≠ t102.2))) (bf q242 (by kernel_rfl)) (by kernel_rfl)) ?_
  refine wpList_nil ?_
  refine then_n ?_
  by_cases q243 : t199.2 ≠ t102.2
  · replace M := ifp q243 M
    refine cond_t rfl (bt q243 (by kernel_rfl)) ?_
    refine wp_seq ?_
    refine wp_region_lit ?_
    refine lv (d := 4) rfl rfl (by kernel_rfl) (e_assign (v := .bool false) rfl) ?_
    refine wpList_nil ?_
    refine then_n ?_
    refine wp_ret ?_
    refine then_r ?_
    obtain rfl := Option.some.inj M
    exact ret1 rfl rfl  (show _ = .bool false from (by kernel_rfl)) ⟨rfl, S240.chg⟩
  replace M := ifn q243 M
  refine cond_f rfl (bf q243 (by kernel_rfl)) ?_
  refine wp_skip ?_
  refine then_n ?_
  refine wp_seq ?_
  refine wp_seq ?_
  refine region_mix (S := (fun (L_ : Array Bool) (w_ : World) => Ext H218 (hp w_) ∧ (∀ b_, (is g143) b_ → hp w_ b_ = hp w238 b_))) (by kernel_rfl) S240 ?_
  intro w244 S245 K246 hc247
  have o248 := b148
  have hs249 : (fun (L_ : Array Bool) (w_ : World) => Ext H218 (hp w_) ∧ (∀ b_, (is g143) b_ → hp w_ b_ = hp w238 b_)) (Array.replicate 5 false) w244 := ⟨S245.inv, (fun b_ h_ => K246.at 5 rfl b_ h_)⟩
  replace h133 := h133.move (K246.at 0 rfl)
  replace h137 := h137.move (K246.at 1 rfl)
  replace h158 := h158.move (K246.at 2 rfl)
  replace h206 := h206.move (K246.at 3 rfl)
  replace b169 := K246.blk 4 rfl b169
  replace b148 := K246.blk 5 rfl b148
  replace h109 := h109.move (K246.at 6 rfl)
  replace b22 := K246.blk 7 rfl b22
  replace b17 := K246.blk 8 rfl b17
  refine xv (i := 0) (d := 54) rfl rfl rfl (by kernel_rfl) (by kernel_rfl) (fun _ _ => Iff.rfl) hc247 hs249 (fun L_ w_ hc_ hu_ hs_ => e_loadS (b := g143) (off := 0) (cs := [.slice A131 t126.cells.length c132, .slice A135 t126.trail.length c136]) Try.underlying34 rfl (by kernel_rfl) (by kernel_rfl) (blk_cells ((hs_.2 _ rfl).trans o248) rfl)) ?_; intro hc250 hs251
  refine xone (i := 1) (by kernel_rfl) hc250 ?_
  refine yo (i := 1) (d := 55) rfl rfl (wanted_none rfl _) (by kernel_rfl) (by kernel_rfl) (fun _ _ => Iff.rfl) hs251 (e_loadS (b := g16) (off := 0) (cs := [.slice A2 x1.cells.length c3, .slice A6 x1.trail.length c7]) Try.underlying25 rfl (by kernel_rfl) (by kernel_rfl) (blk_cells b17 rfl)) ?_; intro hc252 hs253
  obtain ⟨t254, u255, M⟩ := bnd M
  refine xone (i := 2) (by kernel_rfl) hc252 ?_
  refine yc (i := 2) rfl (wanted_none rfl _) (by kernel_rfl) (by kernel_rfl) (e_call (l := [.tmp 55]) (vs := [.agg #[.slice A2 x1.cells.length c3, .slice A6 x1.trail.length c7]]) Try.func12 (by kernel_rfl) rfl (by kernel_rfl) rfl) (laws_toStore.calls k w244 H218 x1 A2 c3 A6 c7 (h4.ext ((((((((E66.trans E80).trans E86).trans E93).trans E99).trans E114).trans E141).trans E162).trans E220)) l5 (h8.ext ((((((((E66.trans E80).trans E86).trans E93).trans E99).trans E114).trans E141).trans E162).trans E220)) l9 (St.own' (Fa := []) (Fr := [F134, F138, F159, F207, (is g164), (is g143), F110, (is g21), (is g16)]) S245) t254 u255) ?_
  rintro hc267 _ w256 ⟨A259, c260, F262, A263, c264, F266, H257, rfl, h261, h265, T258⟩
  refine ⟨_, rfl, ?_⟩
  obtain ⟨S268, K269⟩ := St.call (Fa := []) (Fr := [F134, F138, F159, F207, (is g164), (is g143), F110, (is g21), (is g16)]) S245 T258
  replace h133 := h133.move (K269.at 0 rfl)
  replace h137 := h137.move (K269.at 1 rfl)
  replace h158 := h158.move (K269.at 2 rfl)
  replace h206 := h206.move (K269.at 3 rfl)
  replace b169 := K269.blk 4 rfl b169
  replace b148 := K269.blk 5 rfl b148
  replace h109 := h109.move (K269.at 6 rfl)
  replace b22 := K269.blk 7 rfl b22
  replace b17 := K269.blk 8 rfl b17
  have E270 := T258.ext
  replace h133 := h133.ext E270
  replace h137 := h137.ext E270
  replace h158 := h158.ext E270
  replace h206 := h206.ext E270
  replace h109 := h109.ext E270
  refine ⟨⟨(Ext.trans E270 S268.inv), (fun b_ h_ => (K269.at 5 rfl b_ h_).trans (hs253.2 b_ h_))⟩, fun hs271 => ?_⟩
  obtain ⟨t272, u273, M⟩ := bnd M
  refine xone (i := 3) (by kernel_rfl) hc267 ?_
  refine yc (i := 3) rfl (wanted_none rfl _) (by kernel_rfl) (by kernel_rfl) (e_call (l := [.tmp 54, .tmp 56]) (vs := [.agg #[.slice A131 t126.cells.length c132, .slice A135 t126.trail.length c136], .agg #[.slice A259 t254.cells.length c260, .slice A263 t254.trail.length c264]]) Try.func15 (by kernel_rfl) rfl (by kernel_rfl) rfl) (by have l274 := h133.le; have S275 := S268.pull (F := F134) (Fr := [F262, F266, F138, F159, F207, (is g164), (is g143), F110, (is g21), (is g16)]) 2 rfl rfl; obtain ⟨H276, S277, E278, h279, z280⟩ := S275.frzRow h133; replace h261 := h261.ext E278; replace h265 := h265.ext E278; replace h137 := h137.ext E278; replace h158 := h158.ext E278; replace h206 := h206.ext E278; replace h109 := h109.ext E278; have l281 := h137.le; have S282 := S277.pull (F := F138) (Fr := [F262, F266, F159, F207, (is g164), (is g143), F110, (is g21), (is g16)]) 2 rfl rfl; obtain ⟨H283, S284, E285, h286, z287⟩ := S282.frzRow h137; replace h261 := h261.ext E285; replace h265 := h265.ext E285; replace h158 := h158.ext E285; replace h206 := h206.ext E285; replace h109 := h109.ext E285; have l288 := h261.le; obtain ⟨H289, S290, E291, h292, z293⟩ := S284.frzRow h261; replace h265 := h265.ext E291; replace h158 := h158.ext E291; replace h206 := h206.ext E291; replace h109 := h109.ext E291; have l294 := h265.le; obtain ⟨H295, S296, E297, h298, z299⟩ := S290.frzRow h265; replace h158 := h158.ext E297; replace h206 := h206.ext E297; replace h109 := h109.ext E297; exact (laws_eqStore.calls k w256 H295 t126 A131 c132 A135 c136 t254 A259 c260 A263 c264 (h279.ext ((E285.trans E291).trans E297)) l274 (h286.ext (E291.trans E297)) l281 (h292.ext E297) l288 h298 l294 S296.own0 t272 u273)) ?_
  rintro hc302 _ w300 ⟨rfl, C301⟩
  refine ⟨_, rfl, ?_⟩
  obtain ⟨S303, K304⟩ := S268.still C301
  replace h261 := h261.move (K304.at 0 rfl)
  replace h265 := h265.move (K304.at 1 rfl)
  replace h133 := h133.move (K304.at 2 rfl)
  replace h137 := h137.move (K304.at 3 rfl)
  replace h158 := h158.move (K304.at 4 rfl)
  replace h206 := h206.move (K304.at 5 rfl)
  replace b169 := K304.blk 6 rfl b169
  replace b148 := K304.blk 7 rfl b148
  replace h109 := h109.move (K304.at 8 rfl)
  replace b22 := K304.blk 9 rfl b22
  replace b17 := K304.blk 10 rfl b17
  refine ⟨⟨(Ext.trans E270 S303.inv), (fun b_ h_ => (K304.at 7 rfl b_ h_).trans (hs271.2 b_ h_))⟩, fun hs305 => ?_⟩
  refine xone (i := 4) (by kernel_rfl) hc302 ?_
  refine yo (i := 4) (d := 58) rfl rfl (wanted_none rfl _) (by kernel_rfl) (by kernel_rfl) (fun _ _ => Iff.rfl) hs305 (e_notv (c := t272) (by kernel_rfl)) ?_; intro hc306 hs307
  refine xn (by kernel_rfl) ?_ _
  refine then_n ?_
  by_cases q308 : ¬ (t272 = true)
  · replace M := ifp q308 M
    refine cond_t rfl (bt q308 (by kernel_rfl)) ?_
    refine wp_seq ?_
    refine wp_region_lit ?_
    refine lv (d := 4) rfl rfl (by kernel_rfl) (e_assign (v := .bool false) rfl) ?_
    refine wpList_nil ?_
    refine then_n ?_
    refine wp_ret ?_
    refine then_r ?_
    obtain rfl := Option.some.inj M
    exact ret1 rfl rfl  (show _ = .bool false from (by kernel_rfl)) ⟨rfl, S303.chg⟩
  replace M := ifn q308 M
  refine cond_f rfl (bf q308 (by kernel_rfl)) ?_
  refine wp_skip ?_
  refine then_n ?_
  refine wp_seq ?_
  refine wp_seq ?_
  refine region_mix (S := (fun (L_ : Array Bool) (w_ : World) => Ext H257 (hp w_) ∧ (∀ b_, (is g164) b_ → hp w_ b_ = hp w300 b_))) (by kernel_rfl) S303 ?_
  intro w309 S310 K311 hc312
  have o313 := b169
  have hs314 : (fun (L_ : Array Bool) (w_ : World) => Ext H257 (hp w_) ∧ (∀ b_, (is g164) b_ → hp w_ b_ = hp w300 b_)) (Array.replicate 5 false) w309 := ⟨S310.inv, (fun b_ h_ => K311.at 6 rfl b_ h_)⟩
  replace h261 := h261.move (K311.at 0 rfl)
  replace h265 := h265.move (K311.at 1 rfl)
  replace h133 := h133.move (K311.at 2 rfl)
  replace h137 := h137.move (K311.at 3 rfl)
  replace h158 := h158.move (K311.at 4 rfl)
  replace h206 := h206.move (K311.at 5 rfl)
  replace b169 := K311.blk 6 rfl b169
  replace b148 := K311.blk 7 rfl b148
  replace h109 := h109.move (K311.at 8 rfl)
  replace b22 := K311.blk 9 rfl b22
  replace b17 := K311.blk 10 rfl b17
  refine xv (i := 0) (d := 59) rfl rfl rfl (by kernel_rfl) (by kernel_rfl) (fun _ _ => Iff.rfl) hc312 hs314 (fun L_ w_ hc_ hu_ hs_ => e_loadS (b := g164) (off := 0) (cs := [.int .i64 t151.kind, .int .i64 t151.n, .slice A156 t151.text.length c157]) Try.underlying36 rfl (by kernel_rfl) (by kernel_rfl) (blk_cells ((hs_.2 _ rfl).trans o313) rfl)) ?_; intro hc315 hs316
  refine xone (i := 1) (by kernel_rfl) hc315 ?_
  refine yo (i := 1) (d := 60) rfl rfl (wanted_none rfl _) (by kernel_rfl) (by kernel_rfl) (fun _ _ => Iff.rfl) hs316 (e_loadS (b := g21) (off := 0) (cs := [.int .i64 x10.kind, .int .i64 x10.n, .slice A11 x10.text.length c12]) Try.underlying28 rfl (by kernel_rfl) (by kernel_rfl) (blk_cells b22 rfl)) ?_; intro hc317 hs318
  obtain ⟨t319, u320, M⟩ := bnd M
  refine xone (i := 2) (by kernel_rfl) hc317 ?_
  refine yc (i := 2) rfl (wanted_none rfl _) (by kernel_rfl) (by kernel_rfl) (e_call (l := [.tmp 60]) (vs := [.agg #[.int .i64 x10.kind, .int .i64 x10.n, .slice A11 x10.text.length c12]]) Try.func13 (by kernel_rfl) rfl (by kernel_rfl) rfl) (laws_toCell.calls k w309 H257 x10 A11 c12 (h13.ext (((((((((E66.trans E80).trans E86).trans E93).trans E99).trans E114).trans E141).trans E162).trans E220).trans E270)) l14 (St.own' (Fa := []) (Fr := [F262, F266, F134, F138, F159, F207, (is g164), (is g143), F110, (is g21), (is g16)]) S310) t319 u320) ?_
  rintro hc328 _ w321 ⟨A324, c325, F327, H322, rfl, h326, T323⟩
  refine ⟨_, rfl, ?_⟩
  obtain ⟨S329, K330⟩ := St.call (Fa := []) (Fr := [F262, F266, F134, F138, F159, F207, (is g164), (is g143), F110, (is g21), (is g16)]) S310 T323
  replace h261 := h261.move (K330.at 0 rfl)
  replace h265 := h265.move (K330.at 1 rfl)
  replace h133 := h133.move (K330.at 2 rfl)
  replace h137 := h137.move (K330.at 3 rfl)
  replace h158 := h158.move (K330.at 4 rfl)
  replace h206 := h206.move (K330.at 5 rfl)
  replace b169 := K330.blk 6 rfl b169
  replace b148 := K330.blk 7 rfl b148
  replace h109 := h109.move (K330.at 8 rfl)
  replace b22 := K330.blk 9 rfl b22
  replace b17 := K330.blk 10 rfl b17
  have E331 := T323.ext
  replace h261 := h261.ext E331
  replace h265 := h265.ext E331
  replace h133 := h133.ext E331
  replace h137 := h137.ext E331
  replace h158 := h158.ext E331
  replace h206 := h206.ext E331
  replace h109 := h109.ext E331
  refine ⟨⟨(Ext.trans E331 S329.inv), (fun b_ h_ => (K330.at 6 rfl b_ h_).trans (hs318.2 b_ h_))⟩, fun hs332 => ?_⟩
  obtain ⟨t333, u334, M⟩ := bnd M
  refine xone (i := 3) (by kernel_rfl) hc328 ?_
  refine yc (i := 3) rfl (wanted_none rfl _) (by kernel_rfl) (by kernel_rfl) (e_call (l := [.tmp 59, .tmp 61]) (vs := [.agg #[.int .i64 t151.kind, .int .i64 t151.n, .slice A156 t151.text.length c157], .agg #[.int .i64 t319.kind, .int .i64 t319.n, .slice A324 t319.text.length c325]]) Try.func16 (by kernel_rfl) rfl (by kernel_rfl) rfl) (by have l335 := h158.le; have S336 := S329.pull (F := F159) (Fr := [F327, F262, F266, F134, F138, F207, (is g164), (is g143), F110, (is g21), (is g16)]) 5 rfl rfl; obtain ⟨H337, S338, E339, h340, z341⟩ := S336.frzRow h158; replace h326 := h326.ext E339; replace h261 := h261.ext E339; replace h265 := h265.ext E339; replace h133 := h133.ext E339; replace h137 := h137.ext E339; replace h206 := h206.ext E339; replace h109 := h109.ext E339; have l342 := h326.le; obtain ⟨H343, S344, E345, h346, z347⟩ := S338.frzRow h326; replace h261 := h261.ext E345; replace h265 := h265.ext E345; replace h133 := h133.ext E345; replace h137 := h137.ext E345; replace h206 := h206.ext E345; replace h109 := h109.ext E345; exact (laws_eqCell.calls k w321 H343 t151 A156 c157 t319 A324 c325 (h340.ext E345) l335 h346 l342 S344.own0 t333 u334)) ?_
  rintro hc350 _ w348 ⟨rfl, C349⟩
  refine ⟨_, rfl, ?_⟩
  obtain ⟨S351, K352⟩ := S329.still C349
  replace h326 := h326.move (K352.at 0 rfl)
  replace h261 := h261.move (K352.at 1 rfl)
  replace h265 := h265.move (K352.at 2 rfl)
  replace h133 := h133.move (K352.at 3 rfl)
  replace h137 := h137.move (K352.at 4 rfl)
  replace h158 := h158.move (K352.at 5 rfl)
  replace h206 := h206.move (K352.at 6 rfl)
  replace b169 := K352.blk 7 rfl b169
  replace b148 := K352.blk 8 rfl b148
  replace h109 := h109.move (K352.at 9 rfl)
  replace b22 := K352.blk 10 rfl b22
  replace b17 := K352.blk 11 rfl b17
  refine ⟨⟨(Ext.trans E331 S351.inv), (fun b_ h_ => (K352.at 7 rfl b_ h_).trans (hs332.2 b_ h_))⟩, fun hs353 => ?_⟩
  refine xone (i := 4) (by kernel_rfl) hc350 ?_
  refine yo (i := 4) (d := 63) rfl rfl (wanted_none rfl _) (by kernel_rfl) (by kernel_rfl) (fun _ _ => Iff.rfl) hs353 (e_notv (c := t333) (by kernel_rfl)) ?_; intro hc354 hs355
  refine xn (by kernel_rfl) ?_ _
  refine then_n ?_
  by_cases q356 : ¬ (t333 = true)
  · replace M := ifp q356 M
    refine cond_t rfl (bt q356 (by kernel_rfl)) ?_
    refine wp_seq ?_
    refine wp_region_lit ?_
    refine lv (d := 4) rfl rfl (by kernel_rfl) (e_assign (v := .bool false) rfl) ?_
    refine wpList_nil ?_
    refine then_n ?_
    refine wp_ret ?_
    refine then_r ?_
    obtain rfl := Option.some.inj M
    exact ret1 rfl rfl  (show _ = .bool false from (by kernel_rfl)) ⟨rfl, S351.chg⟩
  replace M := ifn q356 M
  refine cond_f rfl (bf q356 (by kernel_rfl)) ?_
  refine wp_skip ?_
  refine then_n ?_
  refine wp_seq ?_
  refine wp_region_lit ?_
  refine lv (d := 12) rfl rfl (by kernel_rfl) (e_assign (v := .int .i64 1) rfl) ?_
  refine wpList_nil ?_
  refine then_n ?_
  refine wp_seq ?_
  refine wp_region_lit ?_
  refine lv (d := 64) rfl rfl (by kernel_rfl) (e_loadS (b := g143) (off := 0) (cs := [.slice A131 t126.cells.length c132, .slice A135 t126.trail.length c136]) Try.underlying34 rfl (by kernel_rfl) (by kernel_rfl) (blk_cells b148 rfl)) ?_
  refine lv (d := 65) rfl rfl (by kernel_rfl) (e_move (v := .int .i64 1) (by kernel_rfl)) ?_
  have S357 := S351.pull (F := F138) (Fr := [F327, F262, F266, F134, F159, F207, (is g164), (is g143), F110, (is g21), (is g16)]) 4 rfl rfl
  have S358 := S357.pull (F := F134) (Fr := [F138, F327, F262, F266, F159, F207, (is g164), (is g143), F110, (is g21), (is g16)]) 4 rfl rfl
  obtain ⟨t359, u360, M⟩ := bnd M
  refine lcall (d := 66) rfl rfl (by kernel_rfl) (e_call (l := [.tmp 64, .tmp 65]) (vs := [.agg #[.slice A131 t126.cells.length c132, .slice A135 t126.trail.length c136], .int .i64 1]) Try.func19 (by kernel_rfl) rfl (by kernel_rfl) rfl) (laws_markStore_2.calls k w348 H322 t126 A131 c132 F134 A135 c136 F138 1 h133 h137 (St.own' (Fa := [F134, F138]) (Fr := [F327, F262, F266, F159, F207, (is g164), (is g143), F110, (is g21), (is g16)]) S358) t359 u360) ?_
  rintro _ w361 ⟨F365, F368, H362, rfl, n366, h364, n369, h367, T363⟩
  refine ⟨_, rfl, ?_⟩
  obtain ⟨S370, K371⟩ := St.call (Fa := [F134, F138]) (Fr := [F327, F262, F266, F159, F207, (is g164), (is g143), F110, (is g21), (is g16)]) S358 T363
  replace h326 := h326.move (K371.at 0 rfl)
  replace h261 := h261.move (K371.at 1 rfl)
  replace h265 := h265.move (K371.at 2 rfl)
  replace h158 := h158.move (K371.at 3 rfl)
  replace h206 := h206.move (K371.at 4 rfl)
  replace b169 := K371.blk 5 rfl b169
  replace b148 := K371.blk 6 rfl b148
  replace h109 := h109.move (K371.at 7 rfl)
  replace b22 := K371.blk 8 rfl b22
  replace b17 := K371.blk 9 rfl b17
  have E372 := T363.ext
  replace h326 := h326.ext E372
  replace h261 := h261.ext E372
  replace h265 := h265.ext E372
  replace h158 := h158.ext E372
  replace h206 := h206.ext E372
  replace h109 := h109.ext E372
  refine lv (d := 12) rfl rfl (by kernel_rfl) (e_assign (v := .int .i64 t359.1) (by kernel_rfl)) ?_
  refine wpList_nil ?_
  refine then_n ?_
  refine wp_seq ?_
  refine wp_region_lit ?_
  refine lv (d := 67) rfl rfl (by kernel_rfl) (e_loadS (b := g164) (off := 0) (cs := [.int .i64 t151.kind, .int .i64 t151.n, .slice A156 t151.text.length c157]) Try.underlying36 rfl (by kernel_rfl) (by kernel_rfl) (blk_cells b169 rfl)) ?_
  refine lv (d := 68) rfl rfl (by kernel_rfl) (e_move (v := .int .i64 t359.1) (by kernel_rfl)) ?_
  have S373 := S370.pull (F := F159) (Fr := [F365, F368, F327, F262, F266, F207, (is g164), (is g143), F110, (is g21), (is g16)]) 5 rfl rfl
  obtain ⟨t374, u375, M⟩ := bnd M
  refine lcall (d := 69) rfl rfl (by kernel_rfl) (e_call (l := [.tmp 67, .tmp 68]) (vs := [.agg #[.int .i64 t151.kind, .int .i64 t151.n, .slice A156 t151.text.length c157], .int .i64 t359.1]) Try.func20 (by kernel_rfl) rfl (by kernel_rfl) rfl) (laws_markCell_2.calls k w361 H362 t151 A156 c157 F159 t359.1 h158 (St.own' (Fa := [F159]) (Fr := [F365, F368, F327, F262, F266, F207, (is g164), (is g143), F110, (is g21), (is g16)]) S373) t374 u375) ?_
  rintro _ w376 ⟨F380, H377, rfl, n381, h379, T378⟩
  refine ⟨_, rfl, ?_⟩
  obtain ⟨S382, K383⟩ := St.call (Fa := [F159]) (Fr := [F365, F368, F327, F262, F266, F207, (is g164), (is g143), F110, (is g21), (is g16)]) S373 T378
  replace h364 := h364.move (K383.at 0 rfl)
  replace h367 := h367.move (K383.at 1 rfl)
  replace h326 := h326.move (K383.at 2 rfl)
  replace h261 := h261.move (K383.at 3 rfl)
  replace h265 := h265.move (K383.at 4 rfl)
  replace h206 := h206.move (K383.at 5 rfl)
  replace b169 := K383.blk 6 rfl b169
  replace b148 := K383.blk 7 rfl b148
  replace h109 := h109.move (K383.at 8 rfl)
  replace b22 := K383.blk 9 rfl b22
  replace b17 := K383.blk 10 rfl b17
  have E384 := T378.ext
  replace h364 := h364.ext E384
  replace h367 := h367.ext E384
  replace h326 := h326.ext E384
  replace h261 := h261.ext E384
  replace h265 := h265.ext E384
  replace h206 := h206.ext E384
  replace h109 := h109.ext E384
  refine lv (d := 12) rfl rfl (by kernel_rfl) (e_assign (v := .int .i64 t374.1) (by kernel_rfl)) ?_
  refine wpList_nil ?_
  refine then_n ?_
  refine wp_seq ?_
  refine wp_seq ?_
  refine wp_region_lit ?_
  refine lv (d := 70) rfl rfl (by kernel_rfl) (e_move (v := .int .i64 t374.1) (by kernel_rfl)) ?_
  refine lv (d := 71) rfl rfl (by kernel_rfl) (e_lss (k := .i64) (a := t374.1) (b := 0) (by kernel_rfl) rfl) ?_
  refine lv (d := 72) rfl rfl (by kernel_rfl) (e_move (v := .bool (decide (t374.1 < 0))) (by kernel_rfl)) ?_
  by_cases q385 : t374.1 < 0
  · replace M := ifp q385 M
    refine lskip (t := 72) (c := true) rfl (by kernel_rfl) rfl (bt q385 (by kernel_rfl)) rfl rfl ?_
    refine lskip (t := 72) (c := true) rfl (by kernel_rfl) rfl (bt q385 (by kernel_rfl)) rfl rfl ?_
    refine lskip (t := 72) (c := true) rfl (by kernel_rfl) rfl (bt q385 (by kernel_rfl)) rfl rfl ?_
    refine lskip (t := 72) (c := true) rfl (by kernel_rfl) rfl (bt q385 (by kernel_rfl)) rfl rfl ?_
    refine lv (d := 77) rfl rfl (by kernel_rfl) (e_pick_t (v := .bool true) (bt q385 (by kernel_rfl)) rfl) ?_
    refine lv (d := 78) rfl rfl (by kernel_rfl) (e_move (v := .bool true) (by kernel_rfl)) ?_
    refine lskip (t := 78) (c := true) rfl (by kernel_rfl) rfl (by kernel_rfl) rfl rfl ?_
    refine lskip (t := 78) (c := true) rfl (by kernel_rfl) rfl (by kernel_rfl) rfl rfl ?_
    refine lskip (t := 78) (c := true) rfl (by kernel_rfl) rfl (by kernel_rfl) rfl rfl ?_
    refine lv (d := 82) rfl rfl (by kernel_rfl) (e_pick_t (v := .bool true) (by kernel_rfl) rfl) ?_
    refine wpList_nil ?_
    refine then_n ?_
    refine cond_t rfl (by kernel_rfl) ?_
    refine wp_seq ?_
    refine wp_region_lit ?_
    refine lv (d := 4) rfl rfl (by kernel_rfl) (e_assign (v := .bool false) rfl) ?_
    refine wpList_nil ?_
    refine then_n ?_
    refine wp_ret ?_
    refine then_r ?_
    obtain rfl := Option.some.inj M
    exact ret1 rfl rfl  (show _ = .bool false from (by kernel_rfl)) ⟨rfl, S382.chg⟩
  replace M := ifn q385 M
  refine lvg (d := 73) (t := 72) rfl (by kernel_rfl) rfl (bf q385 (by kernel_rfl)) rfl (by kernel_rfl) (e_move (v := .slice A204 t199.1.length c205) (by kernel_rfl)) ?_
  refine lvg (d := 74) (t := 72) rfl (by kernel_rfl) rfl (bf q385 (by kernel_rfl)) rfl (by kernel_rfl) (e_move (v := .slice A107 t102.1.length c108) (by kernel_rfl)) ?_
  obtain ⟨t386, u387, M⟩ := bnd M
  refine lcallg (d := 75) (t := 72) rfl (by kernel_rfl) rfl (bf q385 (by kernel_rfl)) rfl (by kernel_rfl) (e_call (l := [.tmp 73, .tmp 74]) (vs := [.slice A204 t199.1.length c205, .slice A107 t102.1.length c108]) Try.func24 (by kernel_rfl) rfl (by kernel_rfl) rfl) (by have l388 := h206.le; have S389 := S382.pull (F := F207) (Fr := [F380, F365, F368, F327, F262, F266, (is g164), (is g143), F110, (is g21), (is g16)]) 6 rfl rfl; obtain ⟨H390, S391, E392, h393, z394⟩ := S389.frzRow h206; replace h379 := h379.ext E392; replace h364 := h364.ext E392; replace h367 := h367.ext E392; replace h326 := h326.ext E392; replace h261 := h261.ext E392; replace h265 := h265.ext E392; replace h109 := h109.ext E392; have l395 := h109.le; have S396 := S391.pull (F := F110) (Fr := [F380, F365, F368, F327, F262, F266, (is g164), (is g143), (is g21), (is g16)]) 8 rfl rfl; obtain ⟨H397, S398, E399, h400, z401⟩ := S396.frzRow h109; replace h379 := h379.ext E399; replace h364 := h364.ext E399; replace h367 := h367.ext E399; replace h326 := h326.ext E399; replace h261 := h261.ext E399; replace h265 := h265.ext E399; exact (laws_eqCellS.calls k w376 H397 t199.1 A204 c205 t102.1 A107 c108 (h393.ext E399) l388 h400 l395 S398.own0 t386 u387)) ?_
  rintro _ w402 ⟨rfl, C403⟩
  refine ⟨_, rfl, ?_⟩
  obtain ⟨S404, K405⟩ := S382.still C403
  replace h379 := h379.move (K405.at 0 rfl)
  replace h364 := h364.move (K405.at 1 rfl)
  replace h367 := h367.move (K405.at 2 rfl)
  replace h326 := h326.move (K405.at 3 rfl)
  replace h261 := h261.move (K405.at 4 rfl)
  replace h265 := h265.move (K405.at 5 rfl)
  replace h206 := h206.move (K405.at 6 rfl)
  replace b169 := K405.blk 7 rfl b169
  replace b148 := K405.blk 8 rfl b148
  replace h109 := h109.move (K405.at 9 rfl)
  replace b22 := K405.blk 10 rfl b22
  replace b17 := K405.blk 11 rfl b17
  refine lvg (d := 76) (t := 72) rfl (by kernel_rfl) rfl (bf q385 (by kernel_rfl)) rfl (by kernel_rfl) (e_notv (c := t386) (by kernel_rfl)) ?_
  refine lv (d := 77) rfl rfl (by kernel_rfl) (e_pick_f (v := .bool (decide (¬ (t386 = true)))) (bf q385 (by kernel_rfl)) (by kernel_rfl)) ?_
  refine lv (d := 78) rfl rfl (by kernel_rfl) (e_move (v := .bool (decide (¬ (t386 = true)))) (by kernel_rfl)) ?_
  by_cases q406 : ¬ (t386 = true)
  · replace M := ifp q406 M
    refine lskip (t := 78) (c := true) rfl (by kernel_rfl) rfl (bt q406 (by kernel_rfl)) rfl rfl ?_
    refine lskip (t := 78) (c := true) rfl (by kernel_rfl) rfl (bt q406 (by kernel_rfl)) rfl rfl ?_
    refine lskip (t := 78) (c := true) rfl (by kernel_rfl) rfl (bt q406 (by kernel_rfl)) rfl rfl ?_
    refine lv (d := 82) rfl rfl (by kernel_rfl) (e_pick_t (v := .bool true) (bt q406 (by kernel_rfl)) rfl) ?_
    refine wpList_nil ?_
    refine then_n ?_
    refine cond_t rfl (by kernel_rfl) ?_
    refine wp_seq ?_
    refine wp_region_lit ?_
    refine lv (d := 4) rfl rfl (by kernel_rfl) (e_assign (v := .bool false) rfl) ?_
    refine wpList_nil ?_
    refine then_n ?_
    refine wp_ret ?_
    refine then_r ?_
    obtain rfl := Option.some.inj M
    exact ret1 rfl rfl  (show _ = .bool false from (by kernel_rfl)) ⟨rfl, S404.chg⟩
  replace M := ifn q406 M
  refine lvg (d := 79) (t := 78) rfl (by kernel_rfl) rfl (bf q406 (by kernel_rfl)) rfl (by kernel_rfl) (e_move (v := .int .i64 t199.2) (by kernel_rfl)) ?_
  refine lvg (d := 80) (t := 78) rfl (by kernel_rfl) rfl (bf q406 (by kernel_rfl)) rfl (by kernel_rfl) (e_move (v := .int .i64 t102.2) (by kernel_rfl)) ?_
  refine lvg (d := 81) (t := 78) rfl (by kernel_rfl) rfl (bf q406 (by kernel_rfl)) rfl (by kernel_rfl) (e_neq (k := .i64) (a := t199.2) (b := t102.2) (by kernel_rfl) (by kernel_rfl)) ?_
  refine lv (d := 82) rfl rfl (by kernel_rfl) (e_pick_f (v := .bool (decide (t199.2 ≠ t102.2))) (bf q406 (by kernel_rfl)) (by kernel_rfl)) ?_
  refine wpList_nil ?_
  refine then_n ?_
  refine cond_f rfl (bf q243 (by kernel_rfl)) ?_
  refine wp_skip ?_
  refine then_n ?_
  refine wp_seq ?_
  refine wp_region_lit ?_
  refine lv (d := 13) rfl rfl (by kernel_rfl) (e_assign (v := .int .i64 1) rfl) ?_
  refine wpList_nil ?_
  refine then_n ?_
  refine wp_seq ?_
  refine wp_region_lit ?_
  refine lv (d := 83) rfl rfl (by kernel_rfl) (e_move (v := .slice A204 t199.1.length c205) (by kernel_rfl)) ?_
  refine lv (d := 84) rfl rfl (by kernel_rfl) (e_move (v := .int .i64 1) (by kernel_rfl)) ?_
  have S407 := S404.pull (F := F207) (Fr := [F380, F365, F368, F327, F262, F266, (is g164), (is g143), F110, (is g21), (is g16)]) 6 rfl rfl
  obtain ⟨t408, u409, M⟩ := bnd M
  refine lcall (d := 85) rfl rfl (by kernel_rfl) (e_call (l := [.tmp 83, .tmp 84]) (vs := [.slice A204 t199.1.length c205, .int .i64 1]) Try.func25 (by kernel_rfl) rfl (by kernel_rfl) rfl) (laws_markCellS_2.calls k w402 H377 t199.1 A204 c205 F207 1 h206 (St.own' (Fa := [F207]) (Fr := [F380, F365, F368, F327, F262, F266, (is g164), (is g143), F110, (is g21), (is g16)]) S407) t408 u409) ?_
  rintro _ w410 ⟨F414, H411, rfl, n415, h413, T412⟩
  refine ⟨_, rfl, ?_⟩
  obtain ⟨S416, K417⟩ := St.call (Fa := [F207]) (Fr := [F380, F365, F368, F327, F262, F266, (is g164), (is g143), F110, (is g21), (is g16)]) S407 T412
  replace h379 := h379.move (K417.at 0 rfl)
  replace h364 := h364.move (K417.at 1 rfl)
  replace h367 := h367.move (K417.at 2 rfl)
  replace h326 := h326.move (K417.at 3 rfl)
  replace h261 := h261.move (K417.at 4 rfl)
  replace h265 := h265.move (K417.at 5 rfl)
  replace b169 := K417.blk 6 rfl b169
  replace b148 := K417.blk 7 rfl b148
  replace h109 := h109.move (K417.at 8 rfl)
  replace b22 := K417.blk 9 rfl b22
  replace b17 := K417.blk 10 rfl b17
  have E418 := T412.ext
  replace h379 := h379.ext E418
  replace h364 := h364.ext E418
  replace h367 := h367.ext E418
  replace h326 := h326.ext E418
  replace h261 := h261.ext E418
  replace h265 := h265.ext E418
  replace h109 := h109.ext E418
  refine lv (d := 13) rfl rfl (by kernel_rfl) (e_assign (v := .int .i64 t408.1) (by kernel_rfl)) ?_
  refine wpList_nil ?_
  refine then_n ?_
  refine wp_seq ?_
  refine wp_region_lit ?_
  refine lv (d := 14) rfl rfl (by kernel_rfl) (e_assign (v := .int .i64 1) rfl) ?_
  refine wpList_nil ?_
  refine then_n ?_
  refine wp_seq ?_
  refine wp_region_lit ?_
  refine lv (d := 86) rfl rfl (by kernel_rfl) (e_move (v := .slice A204 t199.1.length c205) (by kernel_rfl)) ?_
  refine lv (d := 87) rfl rfl (by kernel_rfl) (e_move (v := .int .i64 1) (by kernel_rfl)) ?_
  obtain ⟨t419, u420, M⟩ := bnd M
  refine lcall (d := 88) rfl rfl (by kernel_rfl) (e_call (l := [.tmp 86, .tmp 87]) (vs := [.slice A204 t199.1.length c205, .int .i64 1]) Try.func26 (by kernel_rfl) rfl (by kernel_rfl) rfl) (by have l421 := h413.le; obtain ⟨H422, S423, E424, h425, z426⟩ := S416.frzRow h413; replace h379 := h379.ext E424; replace h364 := h364.ext E424; replace h367 := h367.ext E424; replace h326 := h326.ext E424; replace h261 := h261.ext E424; replace h265 := h265.ext E424; replace h109 := h109.ext E424; exact (by have q_ := (laws_heldCellS.calls k w410 H422 t408.2 A204 c205 1 h425 l421 S423.own0 t419 u420); rw [(show t408.2.length = t199.1.length from n415)] at q_; exact q_)) ?_
  rintro _ w427 ⟨rfl, C428⟩
  refine ⟨_, rfl, ?_⟩
  obtain ⟨S429, K430⟩ := S416.still C428
  replace h413 := h413.move (K430.at 0 rfl)
  replace h379 := h379.move (K430.at 1 rfl)
  replace h364 := h364.move (K430.at 2 rfl)
  replace h367 := h367.move (K430.at 3 rfl)
  replace h326 := h326.move (K430.at 4 rfl)
  replace h261 := h261.move (K430.at 5 rfl)
  replace h265 := h265.move (K430.at 6 rfl)
  replace b169 := K430.blk 7 rfl b169
  replace b148 := K430.blk 8 rfl b148
  replace h109 := h109.move (K430.at 9 rfl)
  replace b22 := K430.blk 10 rfl b22
  replace b17 := K430.blk 11 rfl b17
  refine lv (d := 14) rfl rfl (by kernel_rfl) (e_assign (v := .int .i64 t419) (by kernel_rfl)) ?_
  refine wpList_nil ?_
  refine then_n ?_
  refine wp_seq ?_
  refine wp_seq ?_
  refine wp_region_lit ?_
  refine lv (d := 89) rfl rfl (by kernel_rfl) (e_move (v := .int .i64 t419) (by kernel_rfl)) ?_
  refine lv (d := 90) rfl rfl (by kernel_rfl) (e_lss (k := .i64) (a := t419) (b := 0) (by kernel_rfl) rfl) ?_
  refine wpList_nil ?_
  refine then_n ?_
  by_cases q431 : t419 < 0
  · replace M := ifp q431 M
    refine cond_t rfl (bt q431 (by kernel_rfl)) ?_
    refine wp_seq ?_
    refine wp_region_lit ?_
    refine lv (d := 4) rfl rfl (by kernel_rfl) (e_assign (v := .bool false) rfl) ?_
    refine wpList_nil ?_
    refine then_n ?_
    refine wp_ret ?_
    refine then_r ?_
    obtain rfl := Option.some.inj M
    exact ret1 rfl rfl  (show _ = .bool false from (by kernel_rfl)) ⟨rfl, S429.chg⟩
  replace M := ifn q431 M
  refine cond_f rfl (bf q431 (by kernel_rfl)) ?_
  refine wp_skip ?_
  refine then_n ?_
  refine wp_seq ?_
  refine wp_seq ?_
  refine wp_region_lit ?_
  refine lv (d := 91) rfl rfl (by kernel_rfl) (e_move (v := .int .i64 t419) (by kernel_rfl)) ?_
  refine lv (d := 92) rfl rfl (by kernel_rfl) (e_move (v := .int .i64 t408.1) (by kernel_rfl)) ?_
  refine lv (d := 93) rfl rfl (by kernel_rfl) (e_neq (k := .i64) (a := t419) (b := t408.1) (by kernel_rfl) (by kernel_rfl)) ?_
  refine wpList_nil ?_
  refine then_n ?_
  by_cases q432 : t419 ≠ t408.1
  · replace M := ifp q432 M
    refine cond_t rfl (bt q432 (by kernel_rfl)) ?_
    refine wp_seq ?_
    refine wp_region_lit ?_
    refine lv (d := 4) rfl rfl (by kernel_rfl) (e_assign (v := .bool false) rfl) ?_
    refine wpList_nil ?_
    refine then_n ?_
    refine wp_ret ?_
    refine then_r ?_
    obtain rfl := Option.some.inj M
    exact ret1 rfl rfl  (show _ = .bool false from (by kernel_rfl)) ⟨rfl, S429.chg⟩
  replace M := ifn q432 M
  refine cond_f rfl (bf q432 (by kernel_rfl)) ?_
  refine wp_skip ?_
  refine then_n ?_
  refine wp_seq ?_
  refine region_mix (S := (fun (L_ : Array Bool) (w_ : World) => Ext H411 (hp w_) ∧ (∀ b_, (is g21) b_ → hp w_ b_ = hp w427 b_) ∧ (∀ b_, (is g16) b_ → hp w_ b_ = hp w427 b_))) (by kernel_rfl) S429 ?_
  intro w433 S434 K435 hc436
  have o437 := b22
  have o438 := b17
  have hs439 : (fun (L_ : Array Bool) (w_ : World) => Ext H411 (hp w_) ∧ (∀ b_, (is g21) b_ → hp w_ b_ = hp w427 b_) ∧ (∀ b_, (is g16) b_ → hp w_ b_ = hp w427 b_)) (Array.replicate 10 false) w433 := ⟨S434.inv, (fun b_ h_ => K435.at 10 rfl b_ h_), (fun b_ h_ => K435.at 11 rfl b_ h_)⟩
  replace h413 := h413.move (K435.at 0 rfl)
  replace h379 := h379.move (K435.at 1 rfl)
  replace h364 := h364.move (K435.at 2 rfl)
  replace h367 := h367.move (K435.at 3 rfl)
  replace h326 := h326.move (K435.at 4 rfl)
  replace h261 := h261.move (K435.at 5 rfl)
  replace h265 := h265.move (K435.at 6 rfl)
  replace b169 := K435.blk 7 rfl b169
  replace b148 := K435.blk 8 rfl b148
  replace h109 := h109.move (K435.at 9 rfl)
  replace b22 := K435.blk 10 rfl b22
  replace b17 := K435.blk 11 rfl b17
  refine xv (i := 0) (d := 95) rfl rfl rfl (by kernel_rfl) (by kernel_rfl) (fun _ _ => Iff.rfl) hc436 hs439 (fun L_ w_ hc_ hu_ hs_ => e_loadS (b := g16) (off := 0) (cs := [.slice A2 x1.cells.length c3, .slice A6 x1.trail.length c7]) Try.underlying25 rfl (by kernel_rfl) (by kernel_rfl) (blk_cells ((hs_.2.2 _ rfl).trans o438) rfl)) ?_; intro hc440 hs441
  refine xv (i := 2) (d := 97) rfl rfl rfl (by kernel_rfl) (by kernel_rfl) (fun _ _ => Iff.rfl) hc440 hs441 (fun L_ w_ hc_ hu_ hs_ => e_loadS (b := g21) (off := 0) (cs := [.int .i64 x10.kind, .int .i64 x10.n, .slice A11 x10.text.length c12]) Try.underlying28 rfl (by kernel_rfl) (by kernel_rfl) (blk_cells ((hs_.2.1 _ rfl).trans o437) rfl)) ?_; intro hc442 hs443
  obtain ⟨t444, u445, M⟩ := bnd M
  refine xone (i := 1) (by kernel_rfl) hc442 ?_
  refine yc (i := 1) rfl (wanted_none rfl _) (by kernel_rfl) (by kernel_rfl) (e_call (l := [.tmp 95]) (vs := [.agg #[.slice A2 x1.cells.length c3, .slice A6 x1.trail.length c7]]) Try.func12 (by kernel_rfl) rfl (by kernel_rfl) rfl) (laws_toStore.calls k w433 H411 x1 A2 c3 A6 c7 (h4.ext (((((((((((((E66.trans E80).trans E86).trans E93).trans E99).trans E114).trans E141).trans E162).trans E220).trans E270).trans E331).trans E372).trans E384).trans E418)) l5 (h8.ext (((((((((((((E66.trans E80).trans E86).trans E93).trans E99).trans E114).trans E141).trans E162).trans E220).trans E270).trans E331).trans E372).trans E384).trans E418)) l9 (St.own' (Fa := []) (Fr := [F414, F380, F365, F368, F327, F262, F266, (is g164), (is g143), F110, (is g21), (is g16)]) S434) t444 u445) ?_
  rintro hc457 _ w446 ⟨A449, c450, F452, A453, c454, F456, H447, rfl, h451, h455, T448⟩
  refine ⟨_, rfl, ?_⟩
  obtain ⟨S458, K459⟩ := St.call (Fa := []) (Fr := [F414, F380, F365, F368, F327, F262, F266, (is g164), (is g143), F110, (is g21), (is g16)]) S434 T448
  replace h413 := h413.move (K459.at 0 rfl)
  replace h379 := h379.move (K459.at 1 rfl)
  replace h364 := h364.move (K459.at 2 rfl)
  replace h367 := h367.move (K459.at 3 rfl)
  replace h326 := h326.move (K459.at 4 rfl)
  replace h261 := h261.move (K459.at 5 rfl)
  replace h265 := h265.move (K459.at 6 rfl)
  replace b169 := K459.blk 7 rfl b169
  replace b148 := K459.blk 8 rfl b148
  replace h109 := h109.move (K459.at 9 rfl)
  replace b22 := K459.blk 10 rfl b22
  replace b17 := K459.blk 11 rfl b17
  have E460 := T448.ext
  replace h413 := h413.ext E460
  replace h379 := h379.ext E460
  replace h364 := h364.ext E460
  replace h367 := h367.ext E460
  replace h326 := h326.ext E460
  replace h261 := h261.ext E460
  replace h265 := h265.ext E460
  replace h109 := h109.ext E460
  refine ⟨⟨(Ext.trans E460 S458.inv), (fun b_ h_ => (K459.at 10 rfl b_ h_).trans (hs443.2.1 b_ h_)), (fun b_ h_ => (K459.at 11 rfl b_ h_).trans (hs443.2.2 b_ h_))⟩, fun hs461 => ?_⟩
  obtain ⟨t462, u463, M⟩ := bnd M
  refine xone (i := 3) (by kernel_rfl) hc457 ?_
  refine yc (i := 3) rfl (wanted_none rfl _) (by kernel_rfl) (by kernel_rfl) (e_call (l := [.tmp 97]) (vs := [.agg #[.int .i64 x10.kind, .int .i64 x10.n, .slice A11 x10.text.length c12]]) Try.func13 (by kernel_rfl) rfl (by kernel_rfl) rfl) (laws_toCell.calls k w446 H447 x10 A11 c12 (h13.ext ((((((((((((((E66.trans E80).trans E86).trans E93).trans E99).trans E114).trans E141).trans E162).trans E220).trans E270).trans E331).trans E372).trans E384).trans E418).trans E460)) l14 (St.own' (Fa := []) (Fr := [F452, F456, F414, F380, F365, F368, F327, F262, F266, (is g164), (is g143), F110, (is g21), (is g16)]) S458) t462 u463) ?_
  rintro hc471 _ w464 ⟨A467, c468, F470, H465, rfl, h469, T466⟩
  refine ⟨_, rfl, ?_⟩
  obtain ⟨S472, K473⟩ := St.call (Fa := []) (Fr := [F452, F456, F414, F380, F365, F368, F327, F262, F266, (is g164), (is g143), F110, (is g21), (is g16)]) S458 T466
  replace h451 := h451.move (K473.at 0 rfl)
  replace h455 := h455.move (K473.at 1 rfl)
  replace h413 := h413.move (K473.at 2 rfl)
  replace h379 := h379.move (K473.at 3 rfl)
  replace h364 := h364.move (K473.at 4 rfl)
  replace h367 := h367.move (K473.at 5 rfl)
  replace h326 := h326.move (K473.at 6 rfl)
  replace h261 := h261.move (K473.at 7 rfl)
  replace h265 := h265.move (K473.at 8 rfl)
  replace b169 := K473.blk 9 rfl b169
  replace b148 := K473.blk 10 rfl b148
  replace h109 := h109.move (K473.at 11 rfl)
  replace b22 := K473.blk 12 rfl b22
  replace b17 := K473.blk 13 rfl b17
  have E474 := T466.ext
  replace h451 := h451.ext E474
  replace h455 := h455.ext E474
  replace h413 := h413.ext E474
  replace h379 := h379.ext E474
  replace h364 := h364.ext E474
  replace h367 := h367.ext E474
  replace h326 := h326.ext E474
  replace h261 := h261.ext E474
  replace h265 := h265.ext E474
  replace h109 := h109.ext E474
  refine ⟨⟨(Ext.trans (E460.trans E474) S472.inv), (fun b_ h_ => (K473.at 12 rfl b_ h_).trans (hs461.2.1 b_ h_)), (fun b_ h_ => (K473.at 13 rfl b_ h_).trans (hs461.2.2 b_ h_))⟩, fun hs475 => ?_⟩
  have l476 := h451.le
  have S477 := S472.pull (F := F452) (Fr := [F470, F456, F414, F380, F365, F368, F327, F262, F266, (is g164), (is g143), F110, (is g21), (is g16)]) 1 rfl rfl
  obtain ⟨H478, S479, E480, h481, z482⟩ := S477.frzRow h451
  replace h469 := h469.ext E480
  replace h455 := h455.ext E480
  replace h413 := h413.ext E480
  replace h379 := h379.ext E480
  replace h364 := h364.ext E480
  replace h367 := h367.ext E480
  replace h326 := h326.ext E480
  replace h261 := h261.ext E480
  replace h265 := h265.ext E480
  replace h109 := h109.ext E480
  have l483 := h455.le
  have S484 := S479.pull (F := F456) (Fr := [F470, F414, F380, F365, F368, F327, F262, F266, (is g164), (is g143), F110, (is g21), (is g16)]) 1 rfl rfl
  obtain ⟨H485, S486, E487, h488, z489⟩ := S484.frzRow h455
  replace h469 := h469.ext E487
  replace h413 := h413.ext E487
  replace h379 := h379.ext E487
  replace h364 := h364.ext E487
  replace h367 := h367.ext E487
  replace h326 := h326.ext E487
  replace h261 := h261.ext E487
  replace h265 := h265.ext E487
  replace h109 := h109.ext E487
  have l490 := h469.le
  obtain ⟨H491, S492, E493, h494, z495⟩ := S486.frzRow h469
  replace h413 := h413.ext E493
  replace h379 := h379.ext E493
  replace h364 := h364.ext E493
  replace h367 := h367.ext E493
  replace h326 := h326.ext E493
  replace h261 := h261.ext E493
  replace h265 := h265.ext E493
  replace h109 := h109.ext E493
  obtain ⟨t496, u497, M⟩ := bnd M
  refine xone (i := 4) (by kernel_rfl) hc471 ?_
  refine yc (i := 4) rfl (wanted_none rfl _) (by kernel_rfl) (by kernel_rfl) (e_call (l := [.tmp 96, .tmp 98]) (vs := [.agg #[.slice A449 t444.cells.length c450, .slice A453 t444.trail.length c454], .agg #[.int .i64 t462.kind, .int .i64 t462.n, .slice A467 t462.text.length c468]]) Try.func23 (by kernel_rfl) rfl (by kernel_rfl) rfl) (impl_GetTerm.calls k w464 H491 t444 A449 c450 A453 c454 t462 A467 c468 (h481.ext (E487.trans E493)) l476 (h488.ext E493) l483 h494 l490 (St.own' (Fa := []) (Fr := [F414, F380, F365, F368, F327, F262, F266, (is g164), (is g143), F110, (is g21), (is g16)]) S492) t496 u497) ?_
  rintro hc505 _ w498 ⟨A501, c502, F504, H499, rfl, h503, T500⟩
  refine ⟨_, rfl, ?_⟩
  obtain ⟨S506, K507⟩ := St.call (Fa := []) (Fr := [F414, F380, F365, F368, F327, F262, F266, (is g164), (is g143), F110, (is g21), (is g16)]) S492 T500
  replace h413 := h413.move (K507.at 0 rfl)
  replace h379 := h379.move (K507.at 1 rfl)
  replace h364 := h364.move (K507.at 2 rfl)
  replace h367 := h367.move (K507.at 3 rfl)
  replace h326 := h326.move (K507.at 4 rfl)
  replace h261 := h261.move (K507.at 5 rfl)
  replace h265 := h265.move (K507.at 6 rfl)
  replace b169 := K507.blk 7 rfl b169
  replace b148 := K507.blk 8 rfl b148
  replace h109 := h109.move (K507.at 9 rfl)
  replace b22 := K507.blk 10 rfl b22
  replace b17 := K507.blk 11 rfl b17
  have E508 := T500.ext
  replace h413 := h413.ext E508
  replace h379 := h379.ext E508
  replace h364 := h364.ext E508
  replace h367 := h367.ext E508
  replace h326 := h326.ext E508
  replace h261 := h261.ext E508
  replace h265 := h265.ext E508
  replace h109 := h109.ext E508
  refine ⟨⟨(Ext.trans (((((E460.trans E474).trans E480).trans E487).trans E493).trans E508) S506.inv), (fun b_ h_ => (K507.at 10 rfl b_ h_).trans (hs475.2.1 b_ h_)), (fun b_ h_ => (K507.at 11 rfl b_ h_).trans (hs475.2.2 b_ h_))⟩, fun hs509 => ?_⟩
  refine xone (i := 5) (by kernel_rfl) hc505 ?_
  refine yo (i := 5) (d := 94) rfl rfl (wanted_none rfl _) (by kernel_rfl) (by kernel_rfl) (fun _ _ => Iff.rfl) hs509 (e_move (v := .tuple #[.slice A501 t496.1.length c502, .int .i64 t496.2]) (by kernel_rfl)) ?_; intro hc510 hs511
  refine xv (i := 6) (d := 100) rfl rfl rfl (by kernel_rfl) (by kernel_rfl) (fun _ _ => Iff.rfl) hc510 hs511 (fun L_ w_ hc_ hu_ hs_ => e_extract (vs := #[.slice A501 t496.1.length c502, .int .i64 t496.2]) (v := .slice A501 t496.1.length c502) (by kernel_rfl) rfl) ?_; intro hc512 hs513
  refine xv (i := 7) (d := 101) rfl rfl rfl (by kernel_rfl) (by kernel_rfl) (fun _ _ => Iff.rfl) hc512 hs513 (fun L_ w_ hc_ hu_ hs_ => e_extract (vs := #[.slice A501 t496.1.length c502, .int .i64 t496.2]) (v := .int .i64 t496.2) (by kernel_rfl) rfl) ?_; intro hc514 hs515
  refine xone (i := 8) (by kernel_rfl) hc514 ?_
  refine yo (i := 8) (d := 15) rfl rfl (wanted_none rfl _) (by kernel_rfl) (by kernel_rfl) (fun _ _ => Iff.rfl) hs515 (e_assign (v := .slice A501 t496.1.length c502) (by kernel_rfl)) ?_; intro hc516 hs517
  refine xone (i := 9) (by kernel_rfl) hc516 ?_
  refine yo (i := 9) (d := 16) rfl rfl (wanted_none rfl _) (by kernel_rfl) (by kernel_rfl) (fun _ _ => Iff.rfl) hs517 (e_assign (v := .int .i64 t496.2) (by kernel_rfl)) ?_; intro hc518 hs519
  refine xn (by kernel_rfl) ?_ _
  refine then_n ?_
  refine wp_seq ?_
  refine wp_seq ?_
  refine wp_region_lit ?_
  refine lv (d := 102) rfl rfl (by kernel_rfl) (e_move (v := .slice A501 t496.1.length c502) (by kernel_rfl)) ?_
  refine lv (d := 103) rfl rfl (by kernel_rfl) (e_move (v := .slice A107 t102.1.length c108) (by kernel_rfl)) ?_
  obtain ⟨t520, u521, M⟩ := bnd M
  refine lcall (d := 104) rfl rfl (by kernel_rfl) (e_call (l := [.tmp 102, .tmp 103]) (vs := [.slice A501 t496.1.length c502, .slice A107 t102.1.length c108]) Try.func24 (by kernel_rfl) rfl (by kernel_rfl) rfl) (by have l522 := h503.le; obtain ⟨H523, S524, E525, h526, z527⟩ := S506.frzRow h503; replace h413 := h413.ext E525; replace h379 := h379.ext E525; replace h364 := h364.ext E525; replace h367 := h367.ext E525; replace h326 := h326.ext E525; replace h261 := h261.ext E525; replace h265 := h265.ext E525; replace h109 := h109.ext E525; have l528 := h109.le; have S529 := S524.pull (F := F110) (Fr := [F414, F380, F365, F368, F327, F262, F266, (is g164), (is g143), (is g21), (is g16)]) 9 rfl rfl; obtain ⟨H530, S531, E532, h533, z534⟩ := S529.frzRow h109; replace h413 := h413.ext E532; replace h379 := h379.ext E532; replace h364 := h364.ext E532; replace h367 := h367.ext E532; replace h326 := h326.ext E532; replace h261 := h261.ext E532; replace h265 := h265.ext E532; exact (laws_eqCellS.calls k w498 H530 t496.1 A501 c502 t102.1 A107 c108 (h526.ext E532) l522 h533 l528 S531.own0 t520 u521)) ?_
  rintro _ w535 ⟨rfl, C536⟩
  refine ⟨_, rfl, ?_⟩
  obtain ⟨S537, K538⟩ := S506.still C536
  replace h503 := h503.move (K538.at 0 rfl)
  replace h413 := h413.move (K538.at 1 rfl)
  replace h379 := h379.move (K538.at 2 rfl)
  replace h364 := h364.move (K538.at 3 rfl)
  replace h367 := h367.move (K538.at 4 rfl)
  replace h326 := h326.move (K538.at 5 rfl)
  replace h261 := h261.move (K538.at 6 rfl)
  replace h265 := h265.move (K538.at 7 rfl)
  replace b169 := K538.blk 8 rfl b169
  replace b148 := K538.blk 9 rfl b148
  replace h109 := h109.move (K538.at 10 rfl)
  replace b22 := K538.blk 11 rfl b22
  replace b17 := K538.blk 12 rfl b17
  refine lv (d := 105) rfl rfl (by kernel_rfl) (e_notv (c := t520) (by kernel_rfl)) ?_
  refine lv (d := 106) rfl rfl (by kernel_rfl) (e_move (v := .bool (decide (¬ (t520 = true)))) (by kernel_rfl)) ?_
  by_cases q539 : ¬ (t520 = true)
  · replace M := ifp q539 M
    refine lskip (t := 106) (c := true) rfl (by kernel_rfl) rfl (bt q539 (by kernel_rfl)) rfl rfl ?_
    refine lskip (t := 106) (c := true) rfl (by kernel_rfl) rfl (bt q539 (by kernel_rfl)) rfl rfl ?_
    refine lskip (t := 106) (c := true) rfl (by kernel_rfl) rfl (bt q539 (by kernel_rfl)) rfl rfl ?_
    refine lv (d := 110) rfl rfl (by kernel_rfl) (e_pick_t (v := .bool true) (bt q539 (by kernel_rfl)) rfl) ?_
    refine wpList_nil ?_
    refine then_n ?_
    refine cond_t rfl (by kernel_rfl) ?_
    refine wp_seq ?_
    refine wp_region_lit ?_
    refine lv (d := 4) rfl rfl (by kernel_rfl) (e_assign (v := .bool false) rfl) ?_
    refine wpList_nil ?_
    refine then_n ?_
    refine wp_ret ?_
    refine then_r ?_
    obtain rfl := Option.some.inj M
    exact ret1 rfl rfl  (show _ = .bool false from (by kernel_rfl)) ⟨rfl, S537.chg⟩
  replace M := ifn q539 M
  refine lvg (d := 107) (t := 106) rfl (by kernel_rfl) rfl (bf q539 (by kernel_rfl)) rfl (by kernel_rfl) (e_move (v := .int .i64 t496.2) (by kernel_rfl)) ?_
  refine lvg (d := 108) (t := 106) rfl (by kernel_rfl) rfl (bf q539 (by kernel_rfl)) rfl (by kernel_rfl) (e_move (v := .int .i64 t102.2) (by kernel_rfl)) ?_
  refine lvg (d := 109) (t := 106) rfl (by kernel_rfl) rfl (bf q539 (by kernel_rfl)) rfl (by kernel_rfl) (e_neq (k := .i64) (a := t496.2) (b := t102.2) (by kernel_rfl) (by kernel_rfl)) ?_
  refine lv (d := 110) rfl rfl (by kernel_rfl) (e_pick_f (v := .bool (decide (t496.2 ≠ t102.2))) (bf q539 (by kernel_rfl)) (by kernel_rfl)) ?_
  refine wpList_nil ?_
  refine then_n ?_
  by_cases q540 : t496.2 ≠ t102.2
  · replace M := ifp q540 M
    refine cond_t rfl (bt q540 (by kernel_rfl)) ?_
    refine wp_seq ?_
    refine wp_region_lit ?_
    refine lv (d := 4) rfl rfl (by kernel_rfl) (e_assign (v := .bool false) rfl) ?_
    refine wpList_nil ?_
    refine then_n ?_
    refine wp_ret ?_
    refine then_r ?_
    obtain rfl := Option.some.inj M
    exact ret1 rfl rfl  (show _ = .bool false from (by kernel_rfl)) ⟨rfl, S537.chg⟩
  replace M := ifn q540 M
  refine cond_f rfl (bf q540 (by kernel_rfl)) ?_
  refine wp_skip ?_
  refine then_n ?_
  refine wp_seq ?_
  refine wp_region_lit ?_
  refine lv (d := 14) rfl rfl (by kernel_rfl) (e_assign (v := .int .i64 1) rfl) ?_
  refine wpList_nil ?_
  refine then_n ?_
  refine wp_seq ?_
  refine wp_region_lit ?_
  refine lv (d := 111) rfl rfl (by kernel_rfl) (e_move (v := .slice A204 t199.1.length c205) (by kernel_rfl)) ?_
  refine lv (d := 112) rfl rfl (by kernel_rfl) (e_move (v := .int .i64 1) (by kernel_rfl)) ?_
  obtain ⟨t541, u542, M⟩ := bnd M
  refine lcall (d := 113) rfl rfl (by kernel_rfl) (e_call (l := [.tmp 111, .tmp 112]) (vs := [.slice A204 t199.1.length c205, .int .i64 1]) Try.func26 (by kernel_rfl) rfl (by kernel_rfl) rfl) (by have l543 := h413.le; have S544 := S537.pull (F := F414) (Fr := [F504, F380, F365, F368, F327, F262, F266, (is g164), (is g143), F110, (is g21), (is g16)]) 1 rfl rfl; obtain ⟨H545, S546, E547, h548, z549⟩ := S544.frzRow h413; replace h503 := h503.ext E547; replace h379 := h379.ext E547; replace h364 := h364.ext E547; replace h367 := h367.ext E547; replace h326 := h326.ext E547; replace h261 := h261.ext E547; replace h265 := h265.ext E547; replace h109 := h109.ext E547; exact (by have q_ := (laws_heldCellS.calls k w535 H545 t408.2 A204 c205 1 h548 l543 S546.own0 t541 u542); rw [(show t408.2.length = t199.1.length from n415)] at q_; exact q_)) ?_
  rintro _ w550 ⟨rfl, C551⟩
  refine ⟨_, rfl, ?_⟩
  obtain ⟨S552, K553⟩ := S537.still C551
  replace h503 := h503.move (K553.at 0 rfl)
  replace h413 := h413.move (K553.at 1 rfl)
  replace h379 := h379.move (K553.at 2 rfl)
  replace h364 := h364.move (K553.at 3 rfl)
  replace h367 := h367.move (K553.at 4 rfl)
  replace h326 := h326.move (K553.at 5 rfl)
  replace h261 := h261.move (K553.at 6 rfl)
  replace h265 := h265.move (K553.at 7 rfl)
  replace b169 := K553.blk 8 rfl b169
  replace b148 := K553.blk 9 rfl b148
  replace h109 := h109.move (K553.at 10 rfl)
  replace b22 := K553.blk 11 rfl b22
  replace b17 := K553.blk 12 rfl b17
  refine lv (d := 14) rfl rfl (by kernel_rfl) (e_assign (v := .int .i64 t541) (by kernel_rfl)) ?_
  refine wpList_nil ?_
  refine then_n ?_
  refine wp_seq ?_
  refine wp_seq ?_
  refine wp_region_lit ?_
  refine lv (d := 114) rfl rfl (by kernel_rfl) (e_move (v := .int .i64 t541) (by kernel_rfl)) ?_
  refine lv (d := 115) rfl rfl (by kernel_rfl) (e_lss (k := .i64) (a := t541) (b := 0) (by kernel_rfl) rfl) ?_
  refine wpList_nil ?_
  refine then_n ?_
  by_cases q554 : t541 < 0
  · replace M := ifp q554 M
    refine cond_t rfl (bt q554 (by kernel_rfl)) ?_
    refine wp_seq ?_
    refine wp_region_lit ?_
    refine lv (d := 4) rfl rfl (by kernel_rfl) (e_assign (v := .bool false) rfl) ?_
    refine wpList_nil ?_
    refine then_n ?_
    refine wp_ret ?_
    refine then_r ?_
    obtain rfl := Option.some.inj M
    exact ret1 rfl rfl  (show _ = .bool false from (by kernel_rfl)) ⟨rfl, S552.chg⟩
  replace M := ifn q554 M
  refine cond_f rfl (bf q554 (by kernel_rfl)) ?_
  refine wp_skip ?_
  refine then_n ?_
  refine wp_seq ?_
  refine wp_seq ?_
  refine wp_region_lit ?_
  refine lv (d := 116) rfl rfl (by kernel_rfl) (e_move (v := .int .i64 t541) (by kernel_rfl)) ?_
  refine lv (d := 117) rfl rfl (by kernel_rfl) (e_move (v := .int .i64 t408.1) (by kernel_rfl)) ?_
  refine lv (d := 118) rfl rfl (by kernel_rfl) (e_neq (k := .i64) (a := t541) (b := t408.1) (by kernel_rfl) (by kernel_rfl)) ?_
  refine wpList_nil ?_
  refine then_n ?_
  by_cases q555 : t541 ≠ t408.1
  · replace M := ifp q555 M
    refine cond_t rfl (bt q555 (by kernel_rfl)) ?_
    refine wp_seq ?_
    refine wp_region_lit ?_
    refine lv (d := 4) rfl rfl (by kernel_rfl) (e_assign (v := .bool false) rfl) ?_
    refine wpList_nil ?_
    refine then_n ?_
    refine wp_ret ?_
    refine then_r ?_
    obtain rfl := Option.some.inj M
    exact ret1 rfl rfl  (show _ = .bool false from (by kernel_rfl)) ⟨rfl, S552.chg⟩
  replace M := ifn q555 M
  refine cond_f rfl (bf q555 (by kernel_rfl)) ?_
  refine wp_skip ?_
  refine then_n ?_
  refine wp_seq ?_
  refine wp_region_lit ?_
  refine lv (d := 4) rfl rfl (by kernel_rfl) (e_assign (v := .bool true) rfl) ?_
  refine wpList_nil ?_
  refine then_n ?_
  refine wp_ret ?_
  obtain rfl := Option.some.inj M
  exact ret1 rfl rfl  (show _ = .bool true from (by kernel_rfl)) ⟨rfl, S552.chg⟩
end Go.Proofs.Ytnigifmkjmbfiaa
