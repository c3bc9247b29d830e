import Derived.Test.YtnigifmkjmbfiaaWkBc3
namespace Go.Proofs.Ytnigifmkjmbfiaa
open Go.Sx Go.Sy
attribute [local irreducible] Go.wpList Go.wpStill Go.wpQuiet Go.Code.wp
set_option maxRecDepth 100000
set_option maxHeartbeats 1000000
set_option linter.unusedVariables false
set_option linter.unusedSimpArgs false

/-! impl_BindCell -/
def impl_BindCell.f (k : Nat) (x1 : Store) (x10 : Int) (x11 : Cell) : Option (Store × Int) := ((impl_ValidStore.f k x1 x11).bind fun t31 => (if ¬ (t31 = true) then some ((⟨[], []⟩ : Store), 1) else (if x10 < 0 then some ((⟨[], []⟩ : Store), 1) else (if x10 ≥ (x1.cells.length : Int) then some ((⟨[], []⟩ : Store), 1) else (if 0 ≤ x10 then (if x10 < (x1.cells.length : Int) then (if ((x1.cells.getD ((x10).toNat) z36).kind) ≠ 0 then some ((⟨[], []⟩ : Store), 1) else (if ((x1.cells.getD ((x10).toNat) z36).n) ≠ x10 then some ((⟨[], []⟩ : Store), 1) else ((impl_copyStore.f k x1).bind fun t104 => ((impl_copyCell.f x11).bind fun t129 => ((impl_Store_deref.f k t104 t129).bind fun t169 => (if t169.kind = 0 then (if t169.n = x10 then some ((⟨[], []⟩ : Store), 1) else ((impl_copyCell.f t169).bind fun t201 => ((impl_Store_bind_2.f k t104 x10 t201).bind fun t233 => (if t233.1 ≠ 0 then some ((⟨[], []⟩ : Store), t233.1) else some (t233.2, 0))))) else ((impl_copyCell.f t169).bind fun t268 => ((impl_Store_bind_2.f k t104 x10 t268).bind fun t300 => (if t300.1 ≠ 0 then some ((⟨[], []⟩ : Store), t300.1) else some (t300.2, 0)))))))))) else none) else none)))))
theorem impl_BindCell.calls (k : Nat) (w : World) (H : Hp) (x1 : Store) (A2 : Option Addr) (c3 : Nat) (A6 : Option Addr) (c7 : Nat) (x10 : Int) (x11 : Cell) (A12 : Option Addr) (c13 : Nat) (h4 : Rd st36 H A2 x1.cells) (l5 : x1.cells.length ≤ c3) (h8 : Rd tInt H A6 x1.trail) (l9 : x1.trail.length ≤ c7) (h14 : Rd tByte H A12 x11.text) (l15 : x11.text.length ≤ c13) (S : Own [] H w) (r : Store × Int) (M : impl_BindCell.f k x1 x10 x11 = some r) :
    Calls Try.prog 31 #[.agg #[.slice A2 x1.cells.length c3, .slice A6 x1.trail.length c7], .int .i64 x10, .agg #[.int .i64 x11.kind, .int .i64 x11.n, .slice A12 x11.text.length c13]] w (fun e e_w => ∃ (A_1 : Option Addr) (c_1 : Nat) (F_1 : Foot) (A_2 : Option Addr) (c_2 : Nat) (F_2 : Foot) (H_ : Hp), e = .returned (.tuple #[.agg #[.slice A_1 r.1.cells.length c_1, .slice A_2 r.1.trail.length c_2], .int .i64 r.2]) ∧ Row st36 36 H_ (hp e_w) F_1 A_1 c_1 r.1.cells ∧ Row tInt 3 H_ (hp e_w) F_2 A_2 c_2 r.1.trail ∧ St (anyOf []) H w [F_1, F_2] H_ e_w) := by
  rw [impl_BindCell.f] at M
  refine enter (l := [.agg #[.slice A2 x1.cells.length c3, .slice A6 x1.trail.length c7], .int .i64 x10, .agg #[.int .i64 x11.kind, .int .i64 x11.n, .slice A12 x11.text.length c13]]) 70 Try.func31 rfl rfl rfl ?_
  have S0_ := S.st
  refine wp_seq (wp_region_lit ?_)
  refine lve (d := 3) rfl rfl (by kernel_rfl) (new_blk (v := fun g_ => .pointer (some ⟨g_, 0, none⟩)) (cs := #[.slice A2 x1.cells.length c3, .slice A6 x1.trail.length c7]) (t := 34) S0_ (by kernel_rfl)) ?_
  rintro _ w16 ⟨g17, rfl, b18, S19, K20⟩
  refine lve (d := 5) rfl rfl (by kernel_rfl) (new_blk (v := fun g_ => .pointer (some ⟨g_, 0, none⟩)) (cs := #[.int .i64 x11.kind, .int .i64 x11.n, .slice A12 x11.text.length c13]) (t := 36) S19 (by kernel_rfl)) ?_
  rintro _ w21 ⟨g22, rfl, b23, S24, K25⟩
  replace b18 := K25.blk 0 rfl b18
  refine lve (d := 6) rfl rfl (by kernel_rfl) (new_blk (v := fun g_ => .pointer (some ⟨g_, 0, none⟩)) (cs := #[.slice none 0 0, .slice none 0 0]) (t := 34) S24 (by kernel_rfl)) ?_
  rintro _ w26 ⟨g27, rfl, b28, S29, K30⟩
  replace b23 := K30.blk 0 rfl b23
  replace b18 := K30.blk 1 rfl b18
  refine lv (d := 7) rfl rfl (by kernel_rfl) (e_assign (v := .int .i64 0) rfl) (wpList_nil (then_n (wp_seq (wp_seq (wp_region_lit (lv (d := 11) rfl rfl (by kernel_rfl) (e_loadS (b := g17) (off := 0) (cs := [.slice A2 x1.cells.length c3, .slice A6 x1.trail.length c7]) Try.underlying34 rfl (by kernel_rfl) (by kernel_rfl) (blk_cells b18 rfl)) (lv (d := 12) rfl rfl (by kernel_rfl) (e_loadS (b := g22) (off := 0) (cs := [.int .i64 x11.kind, .int .i64 x11.n, .slice A12 x11.text.length c13]) Try.underlying36 rfl (by kernel_rfl) (by kernel_rfl) (blk_cells b23 rfl)) ?_)))))))
  obtain ⟨t31, u32, M⟩ := bnd M
  refine lcall (d := 13) rfl rfl (by kernel_rfl) (e_call (l := [.tmp 11, .tmp 12]) (vs := [.agg #[.slice A2 x1.cells.length c3, .slice A6 x1.trail.length c7], .agg #[.int .i64 x11.kind, .int .i64 x11.n, .slice A12 x11.text.length c13]]) Try.func14 (by kernel_rfl) rfl (by kernel_rfl) rfl) (impl_ValidStore.calls k w26 H x1 A2 c3 A6 c7 x11 A12 c13 h4 l5 h8 l9 h14 l15 S29.own0 t31 u32) ?_
  rintro _ w33 ⟨rfl, C34⟩
  refine ⟨_, rfl, ?_⟩
  obtain ⟨S35, K36⟩ := S29.still C34
  replace b28 := K36.blk 0 rfl b28
  replace b23 := K36.blk 1 rfl b23
  replace b18 := K36.blk 2 rfl b18
  refine lv (d := 14) rfl rfl (by kernel_rfl) (e_notv (c := t31) (by kernel_rfl)) (lv (d := 15) rfl rfl (by kernel_rfl) (e_move (v := .bool (decide (¬ (t31 = true)))) (by kernel_rfl)) ?_)
  by_cases q37 : ¬ (t31 = true)
  · replace M := ifp q37 M
    refine lskip (t := 15) (c := true) rfl (by kernel_rfl) rfl (bt q37 (by kernel_rfl)) rfl rfl ?_
    refine lskip (t := 15) (c := true) rfl (by kernel_rfl) rfl (bt q37 (by kernel_rfl)) rfl rfl ?_
    refine lv (d := 18) rfl rfl (by kernel_rfl) (e_pick_t (v := .bool true) (bt q37 (by kernel_rfl)) rfl) (lv (d := 19) rfl rfl (by kernel_rfl) (e_move (v := .bool true) (by kernel_rfl)) ?_)
    refine lskip (t := 19) (c := true) rfl (by kernel_rfl) rfl (by kernel_rfl) rfl rfl ?_
    refine lskip (t := 19) (c := true) rfl (by kernel_rfl) rfl (by kernel_rfl) rfl rfl ?_
    refine lskip (t := 19) (c := true) rfl (by kernel_rfl) rfl (by kernel_rfl) rfl rfl ?_
    refine lskip (t := 19) (c := true) rfl (by kernel_rfl) rfl (by kernel_rfl) rfl rfl ?_
    refine lskip (t := 19) (c := true) rfl (by kernel_rfl) rfl (by kernel_rfl) rfl rfl ?_
    refine lv (d := 25) rfl rfl (by kernel_rfl) (e_pick_t (v := .bool true) (by kernel_rfl) rfl) (lv (d := 26) rfl rfl (by kernel_rfl) (e_move (v := .bool true) (by kernel_rfl)) ?_)
    refine lskip (t := 26) (c := true) rfl (by kernel_rfl) rfl (by kernel_rfl) rfl rfl ?_
    refine lskip (t := 26) (c := true) rfl (by kernel_rfl) rfl (by kernel_rfl) rfl rfl ?_
    refine lskip (t := 26) (c := true) rfl (by kernel_rfl) rfl (by kernel_rfl) rfl rfl ?_
    refine lskip (t := 26) (c := true) rfl (by kernel_rfl) rfl (by kernel_rfl) rfl rfl ?_
    refine lskip (t := 26) (c := true) rfl (by kernel_rfl) rfl (by kernel_rfl) rfl rfl ?_
    refine lskip (t := 26) (c := true) rfl (by kernel_rfl) rfl (by kernel_rfl) rfl rfl ?_
    refine lskip (t := 26) (c := true) rfl (by kernel_rfl) rfl (by kernel_rfl) rfl rfl ?_
    refine lv (d := 34) rfl rfl (by kernel_rfl) (e_pick_t (v := .bool true) (by kernel_rfl) rfl) (lv (d := 35) rfl rfl (by kernel_rfl) (e_move (v := .bool true) (by kernel_rfl)) ?_)
    refine lskip (t := 35) (c := true) rfl (by kernel_rfl) rfl (by kernel_rfl) rfl rfl ?_
    refine lskip (t := 35) (c := true) rfl (by kernel_rfl) rfl (by kernel_rfl) rfl rfl ?_
    refine lskip (t := 35) (c := true) rfl (by kernel_rfl) rfl (by kernel_rfl) rfl rfl ?_
    refine lskip (t := 35) (c := true) rfl (by kernel_rfl) rfl (by kernel_rfl) rfl rfl ?_
    refine lskip (t := 35) (c := true) rfl (by kernel_rfl) rfl (by kernel_rfl) rfl rfl ?_
    refine lskip (t := 35) (c := true) rfl (by kernel_rfl) rfl (by kernel_rfl) rfl rfl ?_
    refine lskip (t := 35) (c := true) rfl (by kernel_rfl) rfl (by kernel_rfl) rfl rfl ?_
    refine lskip (t := 35) (c := true) rfl (by kernel_rfl) rfl (by kernel_rfl) rfl rfl ?_
    refine lv (d := 44) rfl rfl (by kernel_rfl) (e_pick_t (v := .bool true) (by kernel_rfl) rfl) (wpList_nil (then_n (cond_t rfl (by kernel_rfl) (wp_seq (wp_region_lit (lv (d := 45) rfl rfl (by kernel_rfl) (show _ = Result.ok (Next.value (.agg #[.slice none 0 0, .slice none 0 0])) w33 from by kernel_rfl) ?_))))))
    refine lse rfl rfl (by kernel_rfl) (e_store (g := g27) (o := 0) (v := .agg #[.slice none 0 0, .slice none 0 0]) (cur' := #[.slice none 0 0, .slice none 0 0]) (vs := [.slice none 0 0, .slice none 0 0]) S35 (by kernel_rfl) (by kernel_rfl) rfl (by kernel_rfl) b28 (Nat.le_of_ble_eq_true rfl) (List.forall_mem_cons.2 ⟨rfl, (List.forall_mem_cons.2 ⟨rfl, (fun _ h_ => by cases h_)⟩)⟩) rfl) ?_
    rintro w38 ⟨b39, S40, K41⟩
    clear b28
    refine lv (d := 7) rfl rfl (by kernel_rfl) (e_assign (v := .int .i64 1) rfl) (wpList_nil (then_n (wp_ret (then_r ?_))))
    obtain rfl := Option.some.inj M
    have S42 := S40.unit
    have S43 := S42.unit
    have S44 := S43.pull (F := no) (Fr := [no, (is g27), (is g22), (is g17)]) 1 rfl rfl
    have S45 := St.first (Fa := [no, no]) (Fr := [(is g27), (is g22), (is g17)]) S44
    exact retST (ty := 34) (cur := #[.slice none 0 0, .slice none 0 0]) rfl rfl rfl (by kernel_rfl) b39 Try.underlying34 rfl (by kernel_rfl) (show _ = .int .i64 1 from (by kernel_rfl)) ⟨none, 0, no, none, 0, no, H, rfl, (Row.nil _ _ _ _ no), (Row.nil _ _ _ _ no), S45⟩
  replace M := ifn q37 M
  refine lvg (d := 16) (t := 15) rfl (by kernel_rfl) rfl (bf q37 (by kernel_rfl)) rfl (by kernel_rfl) (e_move (v := .int .i64 x10) (by kernel_rfl)) (lvg (d := 17) (t := 15) rfl (by kernel_rfl) rfl (bf q37 (by kernel_rfl)) rfl (by kernel_rfl) (e_lss (k := .i64) (a := x10) (b := 0) (by kernel_rfl) rfl) (lv (d := 18) rfl rfl (by kernel_rfl) (e_pick_f (v := .bool (decide (x10 < 0))) (bf q37 (by kernel_rfl)) (by kernel_rfl)) (lv (d := 19) rfl rfl (by kernel_rfl) (e_move (v := .bool (decide (x10 < 0))) (by kernel_rfl)) ?_)))
  by_cases q46 : x10 < 0
  · replace M := ifp q46 M
    refine lskip (t := 19) (c := true) rfl (by kernel_rfl) rfl (bt q46 (by kernel_rfl)) rfl rfl ?_
    refine lskip (t := 19) (c := true) rfl (by kernel_rfl) rfl (bt q46 (by kernel_rfl)) rfl rfl ?_
    refine lskip (t := 19) (c := true) rfl (by kernel_rfl) rfl (bt q46 (by kernel_rfl)) rfl rfl ?_
    refine lskip (t := 19) (c := true) rfl (by kernel_rfl) rfl (bt q46 (by kernel_rfl)) rfl rfl ?_
    refine lskip (t := 19) (c := true) rfl (by kernel_rfl) rfl (bt q46 (by kernel_rfl)) rfl rfl ?_
    refine lv (d := 25) rfl rfl (by kernel_rfl) (e_pick_t (v := .bool true) (bt q46 (by kernel_rfl)) rfl) (lv (d := 26) rfl rfl (by kernel_rfl) (e_move (v := .bool true) (by kernel_rfl)) ?_)
    refine lskip (t := 26) (c := true) rfl (by kernel_rfl) rfl (by kernel_rfl) rfl rfl ?_
    refine lskip (t := 26) (c := true) rfl (by kernel_rfl) rfl (by kernel_rfl) rfl rfl ?_
    refine lskip (t := 26) (c := true) rfl (by kernel_rfl) rfl (by kernel_rfl) rfl rfl ?_
    refine lskip (t := 26) (c := true) rfl (by kernel_rfl) rfl (by kernel_rfl) rfl rfl ?_
    refine lskip (t := 26) (c := true) rfl (by kernel_rfl) rfl (by kernel_rfl) rfl rfl ?_
    refine lskip (t := 26) (c := true) rfl (by kernel_rfl) rfl (by kernel_rfl) rfl rfl ?_
    refine lskip (t := 26) (c := true) rfl (by kernel_rfl) rfl (by kernel_rfl) rfl rfl ?_
    refine lv (d := 34) rfl rfl (by kernel_rfl) (e_pick_t (v := .bool true) (by kernel_rfl) rfl) (lv (d := 35) rfl rfl (by kernel_rfl) (e_move (v := .bool true) (by kernel_rfl)) ?_)
    refine lskip (t := 35) (c := true) rfl (by kernel_rfl) rfl (by kernel_rfl) rfl rfl ?_
    refine lskip (t := 35) (c := true) rfl (by kernel_rfl) rfl (by kernel_rfl) rfl rfl ?_
    refine lskip (t := 35) (c := true) rfl (by kernel_rfl) rfl (by kernel_rfl) rfl rfl ?_
    refine lskip (t := 35) (c := true) rfl (by kernel_rfl) rfl (by kernel_rfl) rfl rfl ?_
    refine lskip (t := 35) (c := true) rfl (by kernel_rfl) rfl (by kernel_rfl) rfl rfl ?_
    refine lskip (t := 35) (c := true) rfl (by kernel_rfl) rfl (by kernel_rfl) rfl rfl ?_
    refine lskip (t := 35) (c := true) rfl (by kernel_rfl) rfl (by kernel_rfl) rfl rfl ?_
    refine lskip (t := 35) (c := true) rfl (by kernel_rfl) rfl (by kernel_rfl) rfl rfl ?_
    refine lv (d := 44) rfl rfl (by kernel_rfl) (e_pick_t (v := .bool true) (by kernel_rfl) rfl) (wpList_nil (then_n (cond_t rfl (by kernel_rfl) (wp_seq (wp_region_lit (lv (d := 45) rfl rfl (by kernel_rfl) (show _ = Result.ok (Next.value (.agg #[.slice none 0 0, .slice none 0 0])) w33 from by kernel_rfl) ?_))))))
    refine lse rfl rfl (by kernel_rfl) (e_store (g := g27) (o := 0) (v := .agg #[.slice none 0 0, .slice none 0 0]) (cur' := #[.slice none 0 0, .slice none 0 0]) (vs := [.slice none 0 0, .slice none 0 0]) S35 (by kernel_rfl) (by kernel_rfl) rfl (by kernel_rfl) b28 (Nat.le_of_ble_eq_true rfl) (List.forall_mem_cons.2 ⟨rfl, (List.forall_mem_cons.2 ⟨rfl, (fun _ h_ => by cases h_)⟩)⟩) rfl) ?_
    rintro w47 ⟨b48, S49, K50⟩
    clear b28
    refine lv (d := 7) rfl rfl (by kernel_rfl) (e_assign (v := .int .i64 1) rfl) (wpList_nil (then_n (wp_ret (then_r ?_))))
    obtain rfl := Option.some.inj M
    have S51 := S49.unit
    have S52 := S51.unit
    have S53 := S52.pull (F := no) (Fr := [no, (is g27), (is g22), (is g17)]) 1 rfl rfl
    have S54 := St.first (Fa := [no, no]) (Fr := [(is g27), (is g22), (is g17)]) S53
    exact retST (ty := 34) (cur := #[.slice none 0 0, .slice none 0 0]) rfl rfl rfl (by kernel_rfl) b48 Try.underlying34 rfl (by kernel_rfl) (show _ = .int .i64 1 from (by kernel_rfl)) ⟨none, 0, no, none, 0, no, H, rfl, (Row.nil _ _ _ _ no), (Row.nil _ _ _ _ no), S54⟩
  replace M := ifn q46 M
  refine lvg (d := 20) (t := 19) rfl (by kernel_rfl) rfl (bf q46 (by kernel_rfl)) rfl (by kernel_rfl) (e_move (v := .int .i64 x10) (by kernel_rfl)) (lvg (d := 21) (t := 19) rfl (by kernel_rfl) rfl (bf q46 (by kernel_rfl)) rfl (by kernel_rfl) (e_fieldAddr (b := g17) (off := 0) (o := 0) Try.underlying34 rfl rfl (sz := 1) (by kernel_rfl) (by decide) (by kernel_rfl)) (lvg (d := 22) (t := 19) rfl (by kernel_rfl) rfl (bf q46 (by kernel_rfl)) rfl (by kernel_rfl) (e_load1 (ad := ⟨g17, 0 + 0, none⟩) (v := .slice A2 x1.cells.length c3) Try.underlying32 rfl (by kernel_rfl) (blk_cell b18 rfl)) (lvg (d := 23) (t := 19) rfl (by kernel_rfl) rfl (bf q46 (by kernel_rfl)) rfl (by kernel_rfl) (e_len (A := A2) (n := x1.cells.length) (c := c3) Try.underlying32 (by kernel_rfl)) (lvg (d := 24) (t := 19) rfl (by kernel_rfl) rfl (bf q46 (by kernel_rfl)) rfl (by kernel_rfl) (e_geq (k := .i64) (a := x10) (b := (x1.cells.length : Int)) (by kernel_rfl) (by kernel_rfl)) (lv (d := 25) rfl rfl (by kernel_rfl) (e_pick_f (v := .bool (decide (x10 ≥ (x1.cells.length : Int)))) (bf q46 (by kernel_rfl)) (by kernel_rfl)) (lv (d := 26) rfl rfl (by kernel_rfl) (e_move (v := .bool (decide (x10 ≥ (x1.cells.length : Int)))) (by kernel_rfl)) ?_))))))
  by_cases q55 : x10 ≥ (x1.cells.length : Int)
  · replace M := ifp q55 M
    refine lskip (t := 26) (c := true) rfl (by kernel_rfl) rfl (bt q55 (by kernel_rfl)) rfl rfl ?_
    refine lskip (t := 26) (c := true) rfl (by kernel_rfl) rfl (bt q55 (by kernel_rfl)) rfl rfl ?_
    refine lskip (t := 26) (c := true) rfl (by kernel_rfl) rfl (bt q55 (by kernel_rfl)) rfl rfl ?_
    refine lskip (t := 26) (c := true) rfl (by kernel_rfl) rfl (bt q55 (by kernel_rfl)) rfl rfl ?_
    refine lskip (t := 26) (c := true) rfl (by kernel_rfl) rfl (bt q55 (by kernel_rfl)) rfl rfl ?_
    refine lskip (t := 26) (c := true) rfl (by kernel_rfl) rfl (bt q55 (by kernel_rfl)) rfl rfl ?_
    refine lskip (t := 26) (c := true) rfl (by kernel_rfl) rfl (bt q55 (by kernel_rfl)) rfl rfl ?_
    refine lv (d := 34) rfl rfl (by kernel_rfl) (e_pick_t (v := .bool true) (bt q55 (by kernel_rfl)) rfl) (lv (d := 35) rfl rfl (by kernel_rfl) (e_move (v := .bool true) (by kernel_rfl)) ?_)
    refine lskip (t := 35) (c := true) rfl (by kernel_rfl) rfl (by kernel_rfl) rfl rfl ?_
    refine lskip (t := 35) (c := true) rfl (by kernel_rfl) rfl (by kernel_rfl) rfl rfl ?_
    refine lskip (t := 35) (c := true) rfl (by kernel_rfl) rfl (by kernel_rfl) rfl rfl ?_
    refine lskip (t := 35) (c := true) rfl (by kernel_rfl) rfl (by kernel_rfl) rfl rfl ?_
    refine lskip (t := 35) (c := true) rfl (by kernel_rfl) rfl (by kernel_rfl) rfl rfl ?_
    refine lskip (t := 35) (c := true) rfl (by kernel_rfl) rfl (by kernel_rfl) rfl rfl ?_
    refine lskip (t := 35) (c := true) rfl (by kernel_rfl) rfl (by kernel_rfl) rfl rfl ?_
    refine lskip (t := 35) (c := true) rfl (by kernel_rfl) rfl (by kernel_rfl) rfl rfl ?_
    refine lv (d := 44) rfl rfl (by kernel_rfl) (e_pick_t (v := .bool true) (by kernel_rfl) rfl) (wpList_nil (then_n (cond_t rfl (by kernel_rfl) (wp_seq (wp_region_lit (lv (d := 45) rfl rfl (by kernel_rfl) (show _ = Result.ok (Next.value (.agg #[.slice none 0 0, .slice none 0 0])) w33 from by kernel_rfl) ?_))))))
    refine lse rfl rfl (by kernel_rfl) (e_store (g := g27) (o := 0) (v := .agg #[.slice none 0 0, .slice none 0 0]) (cur' := #[.slice none 0 0, .slice none 0 0]) (vs := [.slice none 0 0, .slice none 0 0]) S35 (by kernel_rfl) (by kernel_rfl) rfl (by kernel_rfl) b28 (Nat.le_of_ble_eq_true rfl) (List.forall_mem_cons.2 ⟨rfl, (List.forall_mem_cons.2 ⟨rfl, (fun _ h_ => by cases h_)⟩)⟩) rfl) ?_
    rintro w56 ⟨b57, S58, K59⟩
    clear b28
    refine lv (d := 7) rfl rfl (by kernel_rfl) (e_assign (v := .int .i64 1) rfl) (wpList_nil (then_n (wp_ret (then_r ?_))))
    obtain rfl := Option.some.inj M
    have S60 := S58.unit
    have S61 := S60.unit
    have S62 := S61.pull (F := no) (Fr := [no, (is g27), (is g22), (is g17)]) 1 rfl rfl
    have S63 := St.first (Fa := [no, no]) (Fr := [(is g27), (is g22), (is g17)]) S62
    exact retST (ty := 34) (cur := #[.slice none 0 0, .slice none 0 0]) rfl rfl rfl (by kernel_rfl) b57 Try.underlying34 rfl (by kernel_rfl) (show _ = .int .i64 1 from (by kernel_rfl)) ⟨none, 0, no, none, 0, no, H, rfl, (Row.nil _ _ _ _ no), (Row.nil _ _ _ _ no), S63⟩
  replace M := ifn q55 M
  refine lvg (d := 27) (t := 26) rfl (by kernel_rfl) rfl (bf q55 (by kernel_rfl)) rfl (by kernel_rfl) (e_fieldAddr (b := g17) (off := 0) (o := 0) Try.underlying34 rfl rfl (sz := 1) (by kernel_rfl) (by decide) (by kernel_rfl)) (lvg (d := 28) (t := 26) rfl (by kernel_rfl) rfl (bf q55 (by kernel_rfl)) rfl (by kernel_rfl) (e_load1 (ad := ⟨g17, 0 + 0, none⟩) (v := .slice A2 x1.cells.length c3) Try.underlying32 rfl (by kernel_rfl) (blk_cell b18 rfl)) (lvg (d := 29) (t := 26) rfl (by kernel_rfl) rfl (bf q55 (by kernel_rfl)) rfl (by kernel_rfl) (e_move (v := .int .i64 x10) (by kernel_rfl)) ?_))
  obtain ⟨q64, M⟩ := chk M
  obtain ⟨q65, M⟩ := chk M
  obtain ⟨b66, o67, e68⟩ := Rd.addr h4 (show (x10).toNat < x1.cells.length by omega)
  obtain ⟨y69, r70, k71⟩ := Rd.at h4 e68 (getD_some z36 (show (x10).toNat < x1.cells.length by omega))
  obtain ⟨A72, c73, rfl, l74, h75⟩ := st36_open r70
  refine lvg (d := 30) (t := 26) rfl (by kernel_rfl) rfl (bf q55 (by kernel_rfl)) rfl (by kernel_rfl) (e_indexAddr (b := b66) (off := o67) (n := x1.cells.length) (c := c3) (sz := 3) (i := x10) (k := .i64) Try.underlying32 e68 (by kernel_rfl) (by kernel_rfl) (by kernel_rfl) q64 q65) (lvg (d := 31) (t := 26) rfl (by kernel_rfl) rfl (bf q55 (by kernel_rfl)) rfl (by kernel_rfl) (e_fieldAddr (b := b66) (off := o67 + (x10 : Int).toNat * 3) (o := 0) Try.underlying36 rfl rfl (sz := 1) (by kernel_rfl) (by decide) (by kernel_rfl)) (lvg (d := 32) (t := 26) rfl (by kernel_rfl) rfl (bf q55 (by kernel_rfl)) rfl (by kernel_rfl) (e_load1 (ad := ⟨b66, o67 + (x10 : Int).toNat * 3 + 0, none⟩) (v := .int .i64 ((x1.cells.getD ((x10).toNat) z36).kind)) Try.underlying3 rfl (by kernel_rfl) (hpx (S35.inv.cell (k71 0 _ rfl)))) (lvg (d := 33) (t := 26) rfl (by kernel_rfl) rfl (bf q55 (by kernel_rfl)) rfl (by kernel_rfl) (e_neq (k := .i64) (a := (x1.cells.getD ((x10).toNat) z36).kind) (b := 0) (by kernel_rfl) rfl) (lv (d := 34) rfl rfl (by kernel_rfl) (e_pick_f (v := .bool (decide (((x1.cells.getD ((x10).toNat) z36).kind) ≠ 0))) (bf q55 (by kernel_rfl)) (by kernel_rfl)) (lv (d := 35) rfl rfl (by kernel_rfl) (e_move (v := .bool (decide (((x1.cells.getD ((x10).toNat) z36).kind) ≠ 0))) (by kernel_rfl)) ?_)))))
  by_cases q76 : ((x1.cells.getD ((x10).toNat) z36).kind) ≠ 0
  · replace M := ifp q76 M
    refine lskip (t := 35) (c := true) rfl (by kernel_rfl) rfl (bt q76 (by kernel_rfl)) rfl rfl ?_
    refine lskip (t := 35) (c := true) rfl (by kernel_rfl) rfl (bt q76 (by kernel_rfl)) rfl rfl ?_
    refine lskip (t := 35) (c := true) rfl (by kernel_rfl) rfl (bt q76 (by kernel_rfl)) rfl rfl ?_
    refine lskip (t := 35) (c := true) rfl (by kernel_rfl) rfl (bt q76 (by kernel_rfl)) rfl rfl ?_
    refine lskip (t := 35) (c := true) rfl (by kernel_rfl) rfl (bt q76 (by kernel_rfl)) rfl rfl ?_
    refine lskip (t := 35) (c := true) rfl (by kernel_rfl) rfl (bt q76 (by kernel_rfl)) rfl rfl ?_
    refine lskip (t := 35) (c := true) rfl (by kernel_rfl) rfl (bt q76 (by kernel_rfl)) rfl rfl ?_
    refine lskip (t := 35) (c := true) rfl (by kernel_rfl) rfl (bt q76 (by kernel_rfl)) rfl rfl ?_
    refine lv (d := 44) rfl rfl (by kernel_rfl) (e_pick_t (v := .bool true) (bt q76 (by kernel_rfl)) rfl) (wpList_nil (then_n (cond_t rfl (by kernel_rfl) (wp_seq (wp_region_lit (lv (d := 45) rfl rfl (by kernel_rfl) (show _ = Result.ok (Next.value (.agg #[.slice none 0 0, .slice none 0 0])) w33 from by kernel_rfl) ?_))))))
    refine lse rfl rfl (by kernel_rfl) (e_store (g := g27) (o := 0) (v := .agg #[.slice none 0 0, .slice none 0 0]) (cur' := #[.slice none 0 0, .slice none 0 0]) (vs := [.slice none 0 0, .slice none 0 0]) S35 (by kernel_rfl) (by kernel_rfl) rfl (by kernel_rfl) b28 (Nat.le_of_ble_eq_true rfl) (List.forall_mem_cons.2 ⟨rfl, (List.forall_mem_cons.2 ⟨rfl, (fun _ h_ => by cases h_)⟩)⟩) rfl) ?_
    rintro w77 ⟨b78, S79, K80⟩
    clear b28
    refine lv (d := 7) rfl rfl (by kernel_rfl) (e_assign (v := .int .i64 1) rfl) (wpList_nil (then_n (wp_ret (then_r ?_))))
    obtain rfl := Option.some.inj M
    have S81 := S79.unit
    have S82 := S81.unit
    have S83 := S82.pull (F := no) (Fr := [no, (is g27), (is g22), (is g17)]) 1 rfl rfl
    have S84 := St.first (Fa := [no, no]) (Fr := [(is g27), (is g22), (is g17)]) S83
    exact retST (ty := 34) (cur := #[.slice none 0 0, .slice none 0 0]) rfl rfl rfl (by kernel_rfl) b78 Try.underlying34 rfl (by kernel_rfl) (show _ = .int .i64 1 from (by kernel_rfl)) ⟨none, 0, no, none, 0, no, H, rfl, (Row.nil _ _ _ _ no), (Row.nil _ _ _ _ no), S84⟩
  replace M := ifn q76 M
  refine lvg (d := 36) (t := 35) rfl (by kernel_rfl) rfl (bf q76 (by kernel_rfl)) rfl (by kernel_rfl) (e_fieldAddr (b := g17) (off := 0) (o := 0) Try.underlying34 rfl rfl (sz := 1) (by kernel_rfl) (by decide) (by kernel_rfl)) (lvg (d := 37) (t := 35) rfl (by kernel_rfl) rfl (bf q76 (by kernel_rfl)) rfl (by kernel_rfl) (e_load1 (ad := ⟨g17, 0 + 0, none⟩) (v := .slice A2 x1.cells.length c3) Try.underlying32 rfl (by kernel_rfl) (blk_cell b18 rfl)) (lvg (d := 38) (t := 35) rfl (by kernel_rfl) rfl (bf q76 (by kernel_rfl)) rfl (by kernel_rfl) (e_move (v := .int .i64 x10) (by kernel_rfl)) ?_))
  obtain ⟨b85, o86, e87⟩ := Rd.addr h4 (show (x10).toNat < x1.cells.length by omega)
  obtain ⟨y88, r89, k90⟩ := Rd.at h4 e87 (getD_some z36 (show (x10).toNat < x1.cells.length by omega))
  obtain ⟨A91, c92, rfl, l93, h94⟩ := st36_open r89
  refine lvg (d := 39) (t := 35) rfl (by kernel_rfl) rfl (bf q76 (by kernel_rfl)) rfl (by kernel_rfl) (e_indexAddr (b := b85) (off := o86) (n := x1.cells.length) (c := c3) (sz := 3) (i := x10) (k := .i64) Try.underlying32 e87 (by kernel_rfl) (by kernel_rfl) (by kernel_rfl) q64 q65) (lvg (d := 40) (t := 35) rfl (by kernel_rfl) rfl (bf q76 (by kernel_rfl)) rfl (by kernel_rfl) (e_fieldAddr (b := b85) (off := o86 + (x10 : Int).toNat * 3) (o := 1) Try.underlying36 rfl rfl (sz := 1) (by kernel_rfl) (by decide) (by kernel_rfl)) (lvg (d := 41) (t := 35) rfl (by kernel_rfl) rfl (bf q76 (by kernel_rfl)) rfl (by kernel_rfl) (e_load1 (ad := ⟨b85, o86 + (x10 : Int).toNat * 3 + 1, none⟩) (v := .int .i64 ((x1.cells.getD ((x10).toNat) z36).n)) Try.underlying3 rfl (by kernel_rfl) (hpx (S35.inv.cell (k90 1 _ rfl)))) (lvg (d := 42) (t := 35) rfl (by kernel_rfl) rfl (bf q76 (by kernel_rfl)) rfl (by kernel_rfl) (e_move (v := .int .i64 x10) (by kernel_rfl)) (lvg (d := 43) (t := 35) rfl (by kernel_rfl) rfl (bf q76 (by kernel_rfl)) rfl (by kernel_rfl) (e_neq (k := .i64) (a := (x1.cells.getD ((x10).toNat) z36).n) (b := x10) (by kernel_rfl) (by kernel_rfl)) (lv (d := 44) rfl rfl (by kernel_rfl) (e_pick_f (v := .bool (decide (((x1.cells.getD ((x10).toNat) z36).n) ≠ x10))) (bf q76 (by kernel_rfl)) (by kernel_rfl)) (wpList_nil (then_n ?_)))))))
  by_cases q95 : ((x1.cells.getD ((x10).toNat) z36).n) ≠ x10
  · replace M := ifp q95 M
    refine cond_t rfl (bt q95 (by kernel_rfl)) (wp_seq (wp_region_lit (lv (d := 45) rfl rfl (by kernel_rfl) (show _ = Result.ok (Next.value (.agg #[.slice none 0 0, .slice none 0 0])) w33 from by kernel_rfl) ?_)))
    refine lse rfl rfl (by kernel_rfl) (e_store (g := g27) (o := 0) (v := .agg #[.slice none 0 0, .slice none 0 0]) (cur' := #[.slice none 0 0, .slice none 0 0]) (vs := [.slice none 0 0, .slice none 0 0]) S35 (by kernel_rfl) (by kernel_rfl) rfl (by kernel_rfl) b28 (Nat.le_of_ble_eq_true rfl) (List.forall_mem_cons.2 ⟨rfl, (List.forall_mem_cons.2 ⟨rfl, (fun _ h_ => by cases h_)⟩)⟩) rfl) ?_
    rintro w96 ⟨b97, S98, K99⟩
    clear b28
    refine lv (d := 7) rfl rfl (by kernel_rfl) (e_assign (v := .int .i64 1) rfl) (wpList_nil (then_n (wp_ret (then_r ?_))))
    obtain rfl := Option.some.inj M
    have S100 := S98.unit
    have S101 := S100.unit
    have S102 := S101.pull (F := no) (Fr := [no, (is g27), (is g22), (is g17)]) 1 rfl rfl
    have S103 := St.first (Fa := [no, no]) (Fr := [(is g27), (is g22), (is g17)]) S102
    exact retST (ty := 34) (cur := #[.slice none 0 0, .slice none 0 0]) rfl rfl rfl (by kernel_rfl) b97 Try.underlying34 rfl (by kernel_rfl) (show _ = .int .i64 1 from (by kernel_rfl)) ⟨none, 0, no, none, 0, no, H, rfl, (Row.nil _ _ _ _ no), (Row.nil _ _ _ _ no), S103⟩
  replace M := ifn q95 M
  refine cond_f rfl (bf q95 (by kernel_rfl)) (wp_skip (then_n (wp_seq (wp_region_lit (lv (d := 46) rfl rfl (by kernel_rfl) (e_loadS (b := g17) (off := 0) (cs := [.slice A2 x1.cells.length c3, .slice A6 x1.trail.length c7]) Try.underlying34 rfl (by kernel_rfl) (by kernel_rfl) (blk_cells b18 rfl)) ?_)))))
  obtain ⟨t104, u105, M⟩ := bnd M
  refine lcall (d := 47) rfl rfl (by kernel_rfl) (e_call (l := [.tmp 46]) (vs := [.agg #[.slice A2 x1.cells.length c3, .slice A6 x1.trail.length c7]]) Try.func58 (by kernel_rfl) rfl (by kernel_rfl) rfl) (impl_copyStore.calls k w33 H x1 A2 c3 A6 c7 h4 l5 h8 l9 (St.own' (Fa := []) (Fr := [(is g27), (is g22), (is g17)]) S35) t104 u105) ?_
  rintro _ w106 ⟨A109, c110, F112, A113, c114, F116, H107, rfl, h111, h115, T108⟩
  refine ⟨_, rfl, ?_⟩
  obtain ⟨S117, K118⟩ := St.call (Fa := []) (Fr := [(is g27), (is g22), (is g17)]) S35 T108
  replace b28 := K118.blk 0 rfl b28
  replace b23 := K118.blk 1 rfl b23
  have E119 := T108.ext
  refine lve (d := 8) rfl rfl (by kernel_rfl) (new_blk (v := fun g_ => .pointer (some ⟨g_, 0, none⟩)) (cs := #[.slice none 0 0, .slice none 0 0]) (t := 34) S117 (by kernel_rfl)) ?_
  rintro _ w120 ⟨g121, rfl, b122, S123, K124⟩
  replace h111 := h111.move (K124.at 0 rfl)
  replace h115 := h115.move (K124.at 1 rfl)
  replace b28 := K124.blk 2 rfl b28
  replace b23 := K124.blk 3 rfl b23
  refine lse rfl rfl (by kernel_rfl) (e_store (g := g121) (o := 0) (v := .agg #[.slice A109 t104.cells.length c110, .slice A113 t104.trail.length c114]) (cur' := #[.slice A109 t104.cells.length c110, .slice A113 t104.trail.length c114]) (vs := [.slice A109 t104.cells.length c110, .slice A113 t104.trail.length c114]) S123 (by kernel_rfl) (by kernel_rfl) rfl (by kernel_rfl) b122 (Nat.le_of_ble_eq_true rfl) (List.forall_mem_cons.2 ⟨rfl, (List.forall_mem_cons.2 ⟨rfl, (fun _ h_ => by cases h_)⟩)⟩) rfl) ?_
  rintro w125 ⟨b126, S127, K128⟩
  replace h111 := h111.move (K128.at 0 rfl)
  replace h115 := h115.move (K128.at 1 rfl)
  replace b28 := K128.blk 2 rfl b28
  replace b23 := K128.blk 3 rfl b23
  clear b122
  refine wpList_nil (then_n (wp_seq (wp_region_lit (lv (d := 48) rfl rfl (by kernel_rfl) (e_loadS (b := g22) (off := 0) (cs := [.int .i64 x11.kind, .int .i64 x11.n, .slice A12 x11.text.length c13]) Try.underlying36 rfl (by kernel_rfl) (by kernel_rfl) (blk_cells b23 rfl)) ?_))))
  obtain ⟨t129, u130, M⟩ := bnd M
  refine lcall (d := 49) rfl rfl (by kernel_rfl) (e_call (l := [.tmp 48]) (vs := [.agg #[.int .i64 x11.kind, .int .i64 x11.n, .slice A12 x11.text.length c13]]) Try.func49 (by kernel_rfl) rfl (by kernel_rfl) rfl) (impl_copyCell.calls w125 H107 x11 A12 c13 (h14.ext E119) l15 (St.own' (Fa := []) (Fr := [(is g121), F112, F116, (is g27), (is g22), (is g17)]) S127) t129 u130) ?_
  rintro _ w131 ⟨A134, c135, F137, H132, rfl, h136, T133⟩
  refine ⟨_, rfl, ?_⟩
  obtain ⟨S138, K139⟩ := St.call (Fa := []) (Fr := [(is g121), F112, F116, (is g27), (is g22), (is g17)]) S127 T133
  replace b126 := K139.blk 0 rfl b126
  replace h111 := h111.move (K139.at 1 rfl)
  replace h115 := h115.move (K139.at 2 rfl)
  replace b28 := K139.blk 3 rfl b28
  have E140 := T133.ext
  replace h111 := h111.ext E140
  replace h115 := h115.ext E140
  have l141 := h136.le
  obtain ⟨H142, S143, E144, h145, z146⟩ := S138.frzRow h136
  have h147 := h111.ext E144
  have h148 := h115.ext E144
  have S149 := S143.pull (F := F112) (Fr := [(is g121), F116, (is g27), (is g22), (is g17)]) 1 rfl rfl
  have l150 := h147.le
  obtain ⟨H151, S152, E153, h154, z155⟩ := S149.frzRow h147
  have h156 := h148.ext E153
  have S157 := S152.pull (F := F116) (Fr := [(is g121), (is g27), (is g22), (is g17)]) 1 rfl rfl
  have l158 := h156.le
  obtain ⟨H159, S160, E161, h162, z163⟩ := S157.frzRow h156
  obtain ⟨H164, S165, E166, h167, z168⟩ := S160.frzBlk b126
  obtain ⟨t169, u170, M⟩ := bnd M
  refine lcall (d := 50) rfl rfl (by kernel_rfl) (e_call (l := [.tmp 8, .tmp 49]) (vs := [.pointer (some ⟨g121, 0, none⟩), .agg #[.int .i64 t129.kind, .int .i64 t129.n, .slice A134 t129.text.length c135]]) Try.func50 (by kernel_rfl) rfl (by kernel_rfl) rfl) (impl_Store_deref.calls k w131 H164 t104 g121 A109 c110 A113 c114 t129 A134 c135 (h154.ext (E161.trans E166)) l150 (h162.ext E166) l158 h167 (h145.ext ((E153.trans E161).trans E166)) l141 (St.own' (Fa := []) (Fr := [(is g27), (is g22), (is g17)]) S165) t169 u170) ?_
  rintro _ w171 ⟨A174, c175, H172, rfl, h176, l177, T173⟩
  refine ⟨_, rfl, ?_⟩
  obtain ⟨S178, K179⟩ := St.call (Fa := []) (Fr := [(is g27), (is g22), (is g17)]) S165 T173
  replace b28 := K179.blk 0 rfl b28
  have E180 := T173.ext
  refine lve (d := 9) rfl rfl (by kernel_rfl) (new_blk (v := fun g_ => .pointer (some ⟨g_, 0, none⟩)) (cs := #[.int .i64 0, .int .i64 0, .slice none 0 0]) (t := 36) S178 (by kernel_rfl)) ?_
  rintro _ w181 ⟨g182, rfl, b183, S184, K185⟩
  replace b28 := K185.blk 0 rfl b28
  refine lse rfl rfl (by kernel_rfl) (e_store (g := g182) (o := 0) (v := .agg #[.int .i64 t169.kind, .int .i64 t169.n, .slice A174 t169.text.length c175]) (cur' := #[.int .i64 t169.kind, .int .i64 t169.n, .slice A174 t169.text.length c175]) (vs := [.int .i64 t169.kind, .int .i64 t169.n, .slice A174 t169.text.length c175]) S184 (by kernel_rfl) (by kernel_rfl) rfl (by kernel_rfl) b183 (Nat.le_of_ble_eq_true rfl) (List.forall_mem_cons.2 ⟨rfl, (List.forall_mem_cons.2 ⟨rfl, (List.forall_mem_cons.2 ⟨rfl, (fun _ h_ => by cases h_)⟩)⟩)⟩) rfl) ?_
  rintro w186 ⟨b187, S188, K189⟩
  replace b28 := K189.blk 0 rfl b28
  clear b183
  refine wpList_nil (then_n (wp_seq (wp_seq (wp_region_lit (lv (d := 51) rfl rfl (by kernel_rfl) (e_fieldAddr (b := g182) (off := 0) (o := 0) Try.underlying36 rfl rfl (sz := 1) (by kernel_rfl) (by decide) (by kernel_rfl)) (lv (d := 52) rfl rfl (by kernel_rfl) (e_load1 (ad := ⟨g182, 0 + 0, none⟩) (v := .int .i64 t169.kind) Try.underlying3 rfl (by kernel_rfl) (blk_cell b187 rfl)) (lv (d := 53) rfl rfl (by kernel_rfl) (e_eql (k := .i64) (a := t169.kind) (b := 0) (by kernel_rfl) rfl) ?_)))))))
  refine lv (d := 54) rfl rfl (by kernel_rfl) (e_move (v := .bool (decide (t169.kind = 0))) (by kernel_rfl)) ?_
  by_cases q190 : t169.kind = 0
  · replace M := ifp q190 M
    refine lvg (d := 55) (t := 54) rfl (by kernel_rfl) rfl (bt q190 (by kernel_rfl)) rfl (by kernel_rfl) (e_fieldAddr (b := g182) (off := 0) (o := 1) Try.underlying36 rfl rfl (sz := 1) (by kernel_rfl) (by decide) (by kernel_rfl)) (lvg (d := 56) (t := 54) rfl (by kernel_rfl) rfl (bt q190 (by kernel_rfl)) rfl (by kernel_rfl) (e_load1 (ad := ⟨g182, 0 + 1, none⟩) (v := .int .i64 t169.n) Try.underlying3 rfl (by kernel_rfl) (blk_cell b187 rfl)) (lvg (d := 57) (t := 54) rfl (by kernel_rfl) rfl (bt q190 (by kernel_rfl)) rfl (by kernel_rfl) (e_move (v := .int .i64 x10) (by kernel_rfl)) (lvg (d := 58) (t := 54) rfl (by kernel_rfl) rfl (bt q190 (by kernel_rfl)) rfl (by kernel_rfl) (e_eql (k := .i64) (a := t169.n) (b := x10) (by kernel_rfl) (by kernel_rfl)) (lv (d := 59) rfl rfl (by kernel_rfl) (e_pick_t (v := .bool (decide (t169.n = x10))) (bt q190 (by kernel_rfl)) (by kernel_rfl)) (wpList_nil (then_n ?_))))))
    by_cases q191 : t169.n = x10
    · replace M := ifp q191 M
      refine cond_t rfl (bt q191 (by kernel_rfl)) (wp_seq (wp_region_lit (lv (d := 60) rfl rfl (by kernel_rfl) (show _ = Result.ok (Next.value (.agg #[.slice none 0 0, .slice none 0 0])) w186 from by kernel_rfl) ?_)))
      have S192 := S188.pull (F := (is g27)) (Fr := [(is g182), (is g22), (is g17)]) 1 rfl rfl
      refine lse rfl rfl (by kernel_rfl) (e_store (g := g27) (o := 0) (v := .agg #[.slice none 0 0, .slice none 0 0]) (cur' := #[.slice none 0 0, .slice none 0 0]) (vs := [.slice none 0 0, .slice none 0 0]) S192 (by kernel_rfl) (by kernel_rfl) rfl (by kernel_rfl) b28 (Nat.le_of_ble_eq_true rfl) (List.forall_mem_cons.2 ⟨rfl, (List.forall_mem_cons.2 ⟨rfl, (fun _ h_ => by cases h_)⟩)⟩) rfl) ?_
      rintro w193 ⟨b194, S195, K196⟩
      clear b28
      refine lv (d := 7) rfl rfl (by kernel_rfl) (e_assign (v := .int .i64 1) rfl) (wpList_nil (then_n (wp_ret (then_r ?_))))
      obtain rfl := Option.some.inj M
      have S197 := S195.unit
      have S198 := S197.unit
      have S199 := S198.pull (F := no) (Fr := [no, (is g27), (is g182), (is g22), (is g17)]) 1 rfl rfl
      have S200 := St.first (Fa := [no, no]) (Fr := [(is g27), (is g182), (is g22), (is g17)]) S199
      exact retST (ty := 34) (cur := #[.slice none 0 0, .slice none 0 0]) rfl rfl rfl (by kernel_rfl) b194 Try.underlying34 rfl (by kernel_rfl) (show _ = .int .i64 1 from (by kernel_rfl)) ⟨none, 0, no, none, 0, no, H172, rfl, (Row.nil _ _ _ _ no), (Row.nil _ _ _ _ no), S200⟩
    replace M := ifn q191 M
    refine cond_f rfl (bf q191 (by kernel_rfl)) (wp_skip (then_n (wp_seq (wp_seq (wp_region_lit (lv (d := 61) rfl rfl (by kernel_rfl) (e_move (v := .int .i64 x10) (by kernel_rfl)) (lv (d := 62) rfl rfl (by kernel_rfl) (e_loadS (b := g182) (off := 0) (cs := [.int .i64 t169.kind, .int .i64 t169.n, .slice A174 t169.text.length c175]) Try.underlying36 rfl (by kernel_rfl) (by kernel_rfl) (blk_cells b187 rfl)) ?_)))))))
    obtain ⟨t201, u202, M⟩ := bnd M
    refine lcall (d := 63) rfl rfl (by kernel_rfl) (e_call (l := [.tmp 62]) (vs := [.agg #[.int .i64 t169.kind, .int .i64 t169.n, .slice A174 t169.text.length c175]]) Try.func49 (by kernel_rfl) rfl (by kernel_rfl) rfl) (impl_copyCell.calls w186 H172 t169 A174 c175 h176 l177 (St.own' (Fa := []) (Fr := [(is g182), (is g27), (is g22), (is g17)]) S188) t201 u202) ?_
    rintro _ w203 ⟨A206, c207, F209, H204, rfl, h208, T205⟩
    refine ⟨_, rfl, ?_⟩
    obtain ⟨S210, K211⟩ := St.call (Fa := []) (Fr := [(is g182), (is g27), (is g22), (is g17)]) S188 T205
    replace b28 := K211.blk 1 rfl b28
    have E212 := T205.ext
    obtain ⟨H213, S214, E215, v216⟩ := St.thaw2 S160 z168 S210 (E180.trans E212) E166
    replace b126 := (v216 _ rfl).trans b126
    obtain ⟨H217, S218, E219, v220⟩ := St.thaw2 S157 z163 S214 E215 E161
    replace h115 := h115.move v220
    obtain ⟨H221, S222, E223, v224⟩ := St.thaw2 S149 z155 S218 E219 E153
    replace h111 := h111.move v224
    obtain ⟨H225, S226, E227, v228⟩ := St.thaw2 S138 z146 S222 E223 E144
    replace h208 := Row.free (H' := H225) (free_scal _ _) h208
    replace h115 := h115.ext E227
    replace h111 := h111.ext E227
    have S229 := S226.pull (F := F209) (Fr := [F137, F112, F116, (is g121), (is g182), (is g27), (is g22), (is g17)]) 4 rfl rfl
    have S230 := S229.pull (F := (is g121)) (Fr := [F209, F137, F112, F116, (is g182), (is g27), (is g22), (is g17)]) 4 rfl rfl
    have S231 := S230.pull (F := F116) (Fr := [(is g121), F209, F137, F112, (is g182), (is g27), (is g22), (is g17)]) 4 rfl rfl
    have S232 := S231.pull (F := F112) (Fr := [F116, (is g121), F209, F137, (is g182), (is g27), (is g22), (is g17)]) 4 rfl rfl
    obtain ⟨t233, u234, M⟩ := bnd M
    refine lcall (d := 64) rfl rfl (by kernel_rfl) (e_call (l := [.tmp 8, .tmp 61, .tmp 63]) (vs := [.pointer (some ⟨g121, 0, none⟩), .int .i64 x10, .agg #[.int .i64 t201.kind, .int .i64 t201.n, .slice A206 t201.text.length c207]]) Try.func62 (by kernel_rfl) rfl (by kernel_rfl) rfl) (impl_Store_bind_2.calls k w203 H225 t104 g121 A109 c110 F112 A113 c114 F116 x10 t201 A206 c207 F209 h111 h115 b126 h208 (St.own' (Fa := [F112, F116, (is g121), F209]) (Fr := [F137, (is g182), (is g27), (is g22), (is g17)]) S232) t233 u234) ?_
    rintro _ w235 ⟨A238, c239, F241, A242, c243, F245, H236, rfl, h240, h244, b246, T237⟩
    refine ⟨_, rfl, ?_⟩
    obtain ⟨S247, K248⟩ := St.call (Fa := [F112, F116, (is g121), F209]) (Fr := [F137, (is g182), (is g27), (is g22), (is g17)]) S232 T237
    replace b28 := K248.blk 2 rfl b28
    have E249 := T237.ext
    refine lv (d := 10) rfl rfl (by kernel_rfl) (e_assign (v := .int .i64 t233.1) (by kernel_rfl)) (wpList_nil (then_n (wp_seq (wp_region_lit (lv (d := 65) rfl rfl (by kernel_rfl) (e_move (v := .int .i64 t233.1) (by kernel_rfl)) (lv (d := 66) rfl rfl (by kernel_rfl) (e_neq (k := .i64) (a := t233.1) (b := 0) (by kernel_rfl) rfl) (wpList_nil ?_)))))))
    refine then_n ?_
    by_cases q250 : t233.1 ≠ 0
    · replace M := ifp q250 M
      refine cond_t rfl (bt q250 (by kernel_rfl)) (wp_seq (wp_region_lit (lv (d := 67) rfl rfl (by kernel_rfl) (show _ = Result.ok (Next.value (.agg #[.slice none 0 0, .slice none 0 0])) w235 from by kernel_rfl) (lv (d := 68) rfl rfl (by kernel_rfl) (e_move (v := .int .i64 t233.1) (by kernel_rfl)) ?_))))
      have S251 := S247.pull (F := (is g27)) (Fr := [(is g121), F241, F245, F137, (is g182), (is g22), (is g17)]) 5 rfl rfl
      refine lse rfl rfl (by kernel_rfl) (e_store (g := g27) (o := 0) (v := .agg #[.slice none 0 0, .slice none 0 0]) (cur' := #[.slice none 0 0, .slice none 0 0]) (vs := [.slice none 0 0, .slice none 0 0]) S251 (by kernel_rfl) (by kernel_rfl) rfl (by kernel_rfl) b28 (Nat.le_of_ble_eq_true rfl) (List.forall_mem_cons.2 ⟨rfl, (List.forall_mem_cons.2 ⟨rfl, (fun _ h_ => by cases h_)⟩)⟩) rfl) ?_
      rintro w252 ⟨b253, S254, K255⟩
      clear b28
      refine lv (d := 7) rfl rfl (by kernel_rfl) (e_assign (v := .int .i64 t233.1) (by kernel_rfl)) (wpList_nil (then_n (wp_ret (then_r ?_))))
      obtain rfl := Option.some.inj M
      have S256 := S254.unit
      have S257 := S256.unit
      have S258 := S257.pull (F := no) (Fr := [no, (is g27), (is g121), F241, F245, F137, (is g182), (is g22), (is g17)]) 1 rfl rfl
      have S259 := St.first (Fa := [no, no]) (Fr := [(is g27), (is g121), F241, F245, F137, (is g182), (is g22), (is g17)]) S258
      exact retST (ty := 34) (cur := #[.slice none 0 0, .slice none 0 0]) rfl rfl rfl (by kernel_rfl) b253 Try.underlying34 rfl (by kernel_rfl) (show _ = .int .i64 t233.1 from (by kernel_rfl)) ⟨none, 0, no, none, 0, no, H236, rfl, (Row.nil _ _ _ _ no), (Row.nil _ _ _ _ no), S259⟩
    replace M := ifn q250 M
    refine cond_f rfl (bf q250 (by kernel_rfl)) (wp_skip (then_n (wp_seq (wp_region_lit (lv (d := 69) rfl rfl (by kernel_rfl) (e_loadS (b := g121) (off := 0) (cs := [.slice A238 t233.2.cells.length c239, .slice A242 t233.2.trail.length c243]) Try.underlying34 rfl (by kernel_rfl) (by kernel_rfl) (blk_cells b246 rfl)) ?_)))))
    have S260 := S247.pull (F := (is g27)) (Fr := [(is g121), F241, F245, F137, (is g182), (is g22), (is g17)]) 5 rfl rfl
    refine lse rfl rfl (by kernel_rfl) (e_store (g := g27) (o := 0) (v := .agg #[.slice A238 t233.2.cells.length c239, .slice A242 t233.2.trail.length c243]) (cur' := #[.slice A238 t233.2.cells.length c239, .slice A242 t233.2.trail.length c243]) (vs := [.slice A238 t233.2.cells.length c239, .slice A242 t233.2.trail.length c243]) S260 (by kernel_rfl) (by kernel_rfl) rfl (by kernel_rfl) b28 (Nat.le_of_ble_eq_true rfl) (List.forall_mem_cons.2 ⟨rfl, (List.forall_mem_cons.2 ⟨rfl, (fun _ h_ => by cases h_)⟩)⟩) rfl) ?_
    rintro w261 ⟨b262, S263, K264⟩
    replace h240 := h240.move (K264.at 1 rfl)
    replace h244 := h244.move (K264.at 2 rfl)
    clear b28
    refine lv (d := 7) rfl rfl (by kernel_rfl) (e_assign (v := .int .i64 0) rfl) (wpList_nil (then_n (wp_ret ?_)))
    obtain rfl := Option.some.inj M
    have S265 := S263.pull (F := F245) (Fr := [(is g27), (is g121), F241, F137, (is g182), (is g22), (is g17)]) 3 rfl rfl
    have S266 := S265.pull (F := F241) (Fr := [F245, (is g27), (is g121), F137, (is g182), (is g22), (is g17)]) 3 rfl rfl
    have S267 := St.first (Fa := [F241, F245]) (Fr := [(is g27), (is g121), F137, (is g182), (is g22), (is g17)]) S266
    exact retST (ty := 34) (cur := #[.slice A238 t233.2.cells.length c239, .slice A242 t233.2.trail.length c243]) rfl rfl rfl (by kernel_rfl) b262 Try.underlying34 rfl (by kernel_rfl) (show _ = .int .i64 0 from (by kernel_rfl)) ⟨A238, c239, F241, A242, c243, F245, H236, rfl, h240, h244, S267⟩
  replace M := ifn q190 M
  refine lskip (t := 54) (c := false) rfl (by kernel_rfl) rfl (bf q190 (by kernel_rfl)) rfl rfl ?_
  refine lskip (t := 54) (c := false) rfl (by kernel_rfl) rfl (bf q190 (by kernel_rfl)) rfl rfl ?_
  refine lskip (t := 54) (c := false) rfl (by kernel_rfl) rfl (bf q190 (by kernel_rfl)) rfl rfl ?_
  refine lskip (t := 54) (c := false) rfl (by kernel_rfl) rfl (bf q190 (by kernel_rfl)) rfl rfl ?_
  refine lv (d := 59) rfl rfl (by kernel_rfl) (e_pick_f (v := .bool false) (bf q190 (by kernel_rfl)) rfl) (wpList_nil (then_n (cond_f rfl (by kernel_rfl) (wp_skip (then_n (wp_seq (wp_seq ?_)))))))
  refine wp_region_lit (lv (d := 61) rfl rfl (by kernel_rfl) (e_move (v := .int .i64 x10) (by kernel_rfl)) (lv (d := 62) rfl rfl (by kernel_rfl) (e_loadS (b := g182) (off := 0) (cs := [.int .i64 t169.kind, .int .i64 t169.n, .slice A174 t169.text.length c175]) Try.underlying36 rfl (by kernel_rfl) (by kernel_rfl) (blk_cells b187 rfl)) ?_))
  obtain ⟨t268, u269, M⟩ := bnd M
  refine lcall (d := 63) rfl rfl (by kernel_rfl) (e_call (l := [.tmp 62]) (vs := [.agg #[.int .i64 t169.kind, .int .i64 t169.n, .slice A174 t169.text.length c175]]) Try.func49 (by kernel_rfl) rfl (by kernel_rfl) rfl) (impl_copyCell.calls w186 H172 t169 A174 c175 h176 l177 (St.own' (Fa := []) (Fr := [(is g182), (is g27), (is g22), (is g17)]) S188) t268 u269) ?_
  rintro _ w270 ⟨A273, c274, F276, H271, rfl, h275, T272⟩
  refine ⟨_, rfl, ?_⟩
  obtain ⟨S277, K278⟩ := St.call (Fa := []) (Fr := [(is g182), (is g27), (is g22), (is g17)]) S188 T272
  replace b28 := K278.blk 1 rfl b28
  have E279 := T272.ext
  obtain ⟨H280, S281, E282, v283⟩ := St.thaw2 S160 z168 S277 (E180.trans E279) E166
  replace b126 := (v283 _ rfl).trans b126
  obtain ⟨H284, S285, E286, v287⟩ := St.thaw2 S157 z163 S281 E282 E161
  replace h115 := h115.move v287
  obtain ⟨H288, S289, E290, v291⟩ := St.thaw2 S149 z155 S285 E286 E153
  replace h111 := h111.move v291
  obtain ⟨H292, S293, E294, v295⟩ := St.thaw2 S138 z146 S289 E290 E144
  replace h275 := Row.free (H' := H292) (free_scal _ _) h275
  replace h115 := h115.ext E294
  replace h111 := h111.ext E294
  have S296 := S293.pull (F := F276) (Fr := [F137, F112, F116, (is g121), (is g182), (is g27), (is g22), (is g17)]) 4 rfl rfl
  have S297 := S296.pull (F := (is g121)) (Fr := [F276, F137, F112, F116, (is g182), (is g27), (is g22), (is g17)]) 4 rfl rfl
  have S298 := S297.pull (F := F116) (Fr := [(is g121), F276, F137, F112, (is g182), (is g27), (is g22), (is g17)]) 4 rfl rfl
  have S299 := S298.pull (F := F112) (Fr := [F116, (is g121), F276, F137, (is g182), (is g27), (is g22), (is g17)]) 4 rfl rfl
  obtain ⟨t300, u301, M⟩ := bnd M
  refine lcall (d := 64) rfl rfl (by kernel_rfl) (e_call (l := [.tmp 8, .tmp 61, .tmp 63]) (vs := [.pointer (some ⟨g121, 0, none⟩), .int .i64 x10, .agg #[.int .i64 t268.kind, .int .i64 t268.n, .slice A273 t268.text.length c274]]) Try.func62 (by kernel_rfl) rfl (by kernel_rfl) rfl) (impl_Store_bind_2.calls k w270 H292 t104 g121 A109 c110 F112 A113 c114 F116 x10 t268 A273 c274 F276 h111 h115 b126 h275 (St.own' (Fa := [F112, F116, (is g121), F276]) (Fr := [F137, (is g182), (is g27), (is g22), (is g17)]) S299) t300 u301) ?_
  rintro _ w302 ⟨A305, c306, F308, A309, c310, F312, H303, rfl, h307, h311, b313, T304⟩
  refine ⟨_, rfl, ?_⟩
  obtain ⟨S314, K315⟩ := St.call (Fa := [F112, F116, (is g121), F276]) (Fr := [F137, (is g182), (is g27), (is g22), (is g17)]) S299 T304
  replace b28 := K315.blk 2 rfl b28
  have E316 := T304.ext
  refine lv (d := 10) rfl rfl (by kernel_rfl) (e_assign (v := .int .i64 t300.1) (by kernel_rfl)) (wpList_nil (then_n (wp_seq (wp_region_lit (lv (d := 65) rfl rfl (by kernel_rfl) (e_move (v := .int .i64 t300.1) (by kernel_rfl)) (lv (d := 66) rfl rfl (by kernel_rfl) (e_neq (k := .i64) (a := t300.1) (b := 0) (by kernel_rfl) rfl) (wpList_nil ?_)))))))
  refine then_n ?_
  by_cases q317 : t300.1 ≠ 0
  · replace M := ifp q317 M
    refine cond_t rfl (bt q317 (by kernel_rfl)) (wp_seq (wp_region_lit (lv (d := 67) rfl rfl (by kernel_rfl) (show _ = Result.ok (Next.value (.agg #[.slice none 0 0, .slice none 0 0])) w302 from by kernel_rfl) (lv (d := 68) rfl rfl (by kernel_rfl) (e_move (v := .int .i64 t300.1) (by kernel_rfl)) ?_))))
    have S318 := S314.pull (F := (is g27)) (Fr := [(is g121), F308, F312, F137, (is g182), (is g22), (is g17)]) 5 rfl rfl
    refine lse rfl rfl (by kernel_rfl) (e_store (g := g27) (o := 0) (v := .agg #[.slice none 0 0, .slice none 0 0]) (cur' := #[.slice none 0 0, .slice none 0 0]) (vs := [.slice none 0 0, .slice none 0 0]) S318 (by kernel_rfl) (by kernel_rfl) rfl (by kernel_rfl) b28 (Nat.le_of_ble_eq_true rfl) (List.forall_mem_cons.2 ⟨rfl, (List.forall_mem_cons.2 ⟨rfl, (fun _ h_ => by cases h_)⟩)⟩) rfl) ?_
    rintro w319 ⟨b320, S321, K322⟩
    clear b28
    refine lv (d := 7) rfl rfl (by kernel_rfl) (e_assign (v := .int .i64 t300.1) (by kernel_rfl)) (wpList_nil (then_n (wp_ret (then_r ?_))))
    obtain rfl := Option.some.inj M
    have S323 := S321.unit
    have S324 := S323.unit
    have S325 := S324.pull (F := no) (Fr := [no, (is g27), (is g121), F308, F312, F137, (is g182), (is g22), (is g17)]) 1 rfl rfl
    have S326 := St.first (Fa := [no, no]) (Fr := [(is g27), (is g121), F308, F312, F137, (is g182), (is g22), (is g17)]) S325
    exact retST (ty := 34) (cur := #[.slice none 0 0, .slice none 0 0]) rfl rfl rfl (by kernel_rfl) b320 Try.underlying34 rfl (by kernel_rfl) (show _ = .int .i64 t300.1 from (by kernel_rfl)) ⟨none, 0, no, none, 0, no, H303, rfl, (Row.nil _ _ _ _ no), (Row.nil _ _ _ _ no), S326⟩
  replace M := ifn q317 M
  refine cond_f rfl (bf q317 (by kernel_rfl)) (wp_skip (then_n (wp_seq (wp_region_lit (lv (d := 69) rfl rfl (by kernel_rfl) (e_loadS (b := g121) (off := 0) (cs := [.slice A305 t300.2.cells.length c306, .slice A309 t300.2.trail.length c310]) Try.underlying34 rfl (by kernel_rfl) (by kernel_rfl) (blk_cells b313 rfl)) ?_)))))
  have S327 := S314.pull (F := (is g27)) (Fr := [(is g121), F308, F312, F137, (is g182), (is g22), (is g17)]) 5 rfl rfl
  refine lse rfl rfl (by kernel_rfl) (e_store (g := g27) (o := 0) (v := .agg #[.slice A305 t300.2.cells.length c306, .slice A309 t300.2.trail.length c310]) (cur' := #[.slice A305 t300.2.cells.length c306, .slice A309 t300.2.trail.length c310]) (vs := [.slice A305 t300.2.cells.length c306, .slice A309 t300.2.trail.length c310]) S327 (by kernel_rfl) (by kernel_rfl) rfl (by kernel_rfl) b28 (Nat.le_of_ble_eq_true rfl) (List.forall_mem_cons.2 ⟨rfl, (List.forall_mem_cons.2 ⟨rfl, (fun _ h_ => by cases h_)⟩)⟩) rfl) ?_
  rintro w328 ⟨b329, S330, K331⟩
  replace h307 := h307.move (K331.at 1 rfl)
  replace h311 := h311.move (K331.at 2 rfl)
  clear b28
  refine lv (d := 7) rfl rfl (by kernel_rfl) (e_assign (v := .int .i64 0) rfl) (wpList_nil (then_n (wp_ret ?_)))
  obtain rfl := Option.some.inj M
  have S332 := S330.pull (F := F312) (Fr := [(is g27), (is g121), F308, F137, (is g182), (is g22), (is g17)]) 3 rfl rfl
  have S333 := S332.pull (F := F308) (Fr := [F312, (is g27), (is g121), F137, (is g182), (is g22), (is g17)]) 3 rfl rfl
  have S334 := St.first (Fa := [F308, F312]) (Fr := [(is g27), (is g121), F137, (is g182), (is g22), (is g17)]) S333
  exact retST (ty := 34) (cur := #[.slice A305 t300.2.cells.length c306, .slice A309 t300.2.trail.length c310]) rfl rfl rfl (by kernel_rfl) b329 Try.underlying34 rfl (by kernel_rfl) (show _ = .int .i64 0 from (by kernel_rfl)) ⟨A305, c306, F308, A309, c310, F312, H303, rfl, h307, h311, S334⟩

/-! laws_eqByteS -/
def laws_eqByteS.l0 : Nat → (List UInt8) → (List UInt8) → Int → Option Bool
  | 0, _, _, _ => none
  | k23 + 1, x1, x6, x14 => (if x14 < (x1.length : Int) then (if 0 ≤ x14 then (if x14 < (x6.length : Int) then (if ((x1.getD ((x14).toNat) (0 : UInt8)).toNat : Int) ≠ ((x6.getD ((x14).toNat) (0 : UInt8)).toNat : Int) then some false else (laws_eqByteS.l0 k23 x1 x6 (IntKind.i64.wrap (x14 + 1)))) else none) else none) else some true)
def laws_eqByteS.f (k : Nat) (x1 : List UInt8) (x6 : List UInt8) : Option Bool := (if (x1.length : Int) ≠ (x6.length : Int) then some false else (laws_eqByteS.l0 k x1 x6 0))
theorem laws_eqByteS.calls (k : Nat) (w : World) (H : Hp) (x1 : List UInt8) (A2 : Option Addr) (c3 : Nat) (x6 : List UInt8) (A7 : Option Addr) (c8 : Nat) (h4 : Rd tByte H A2 x1) (l5 : x1.length ≤ c3) (h9 : Rd tByte H A7 x6) (l10 : x6.length ≤ c8) (S : Own [] H w) (r : Bool) (M : laws_eqByteS.f k x1 x6 = some r) :
    Calls Try.prog 45 #[.slice A2 x1.length c3, .slice A7 x6.length c8] w (fun e e_w => e = .returned (.bool r) ∧ Chg no w e_w) := by
  rw [laws_eqByteS.f] at M
  refine enter (l := [.slice A2 x1.length c3, .slice A7 x6.length c8]) 26 Try.func45 rfl rfl rfl ?_
  have S0_ := S.st
  refine wp_seq (wp_region_lit (lv (d := 4) rfl rfl (by kernel_rfl) (e_assign (v := .bool false) rfl) (wpList_nil (then_n (wp_seq (wp_seq (wp_region_lit ?_)))))))
  refine lv (d := 6) rfl rfl (by kernel_rfl) (e_move (v := .slice A2 x1.length c3) (by kernel_rfl)) (lv (d := 7) rfl rfl (by kernel_rfl) (e_len (A := A2) (n := x1.length) (c := c3) Try.underlying26 (by kernel_rfl)) (lv (d := 8) rfl rfl (by kernel_rfl) (e_move (v := .slice A7 x6.length c8) (by kernel_rfl)) (lv (d := 9) rfl rfl (by kernel_rfl) (e_len (A := A7) (n := x6.length) (c := c8) Try.underlying26 (by kernel_rfl)) (lv (d := 10) rfl rfl (by kernel_rfl) (e_neq (k := .i64) (a := (x1.length : Int)) (b := (x6.length : Int)) (by kernel_rfl) (by kernel_rfl)) (wpList_nil (then_n ?_))))))
  by_cases q11 : (x1.length : Int) ≠ (x6.length : Int)
  · replace M := ifp q11 M
    refine cond_t rfl (bt q11 (by kernel_rfl)) (wp_seq (wp_region_lit (lv (d := 4) rfl rfl (by kernel_rfl) (e_assign (v := .bool false) rfl) (wpList_nil (then_n (wp_ret (then_r ?_)))))))
    obtain rfl := Option.some.inj M
    exact ret1 rfl rfl  (show _ = .bool false from (by kernel_rfl)) ⟨rfl, S0_.chg⟩
  replace M := ifn q11 M
  refine cond_f rfl (bf q11 (by kernel_rfl)) (wp_skip (then_n (wp_seq (wp_seq (wp_region_lit (lv (d := 5) rfl rfl (by kernel_rfl) (e_assign (v := .int .i64 0) rfl) (wpList_nil ?_)))))))
  refine then_n (wp_block ?_)
  refine wp_loop_g (fun k21 a22 w12 => ∃ (f13 : Nat → Value) (x14 : Int), a22 = mk 26 f13 ∧ f13 0 = .slice A2 x1.length c3 ∧ f13 1 = .slice A7 x6.length c8 ∧ f13 5 = .int .i64 x14 ∧ St (anyOf []) H w [] H w12 ∧ laws_eqByteS.l0 k21 x1 x6 x14 = some r) k ⟨_, 0, rfl, (by kernel_rfl), (by kernel_rfl), (by kernel_rfl), S0_, M⟩ ?_
  clear M
  rintro k21 a22 w12 ⟨f13, x14, rfl, e15, e16, e17, S18, M⟩
  rcases k21 with _ | k23
  · rw [laws_eqByteS.l0] at M
    cases M
  rw [laws_eqByteS.l0] at M
  refine wp_seq (wp_seq (wp_region_lit (lv (d := 11) rfl rfl (by kernel_rfl) (e_move (v := .int .i64 x14) (by exact e17)) (lv (d := 12) rfl rfl (by kernel_rfl) (e_move (v := .slice A2 x1.length c3) (by exact e15)) (lv (d := 13) rfl rfl (by kernel_rfl) (e_len (A := A2) (n := x1.length) (c := c3) Try.underlying26 (by kernel_rfl)) (lv (d := 14) rfl rfl (by kernel_rfl) (e_lss (k := .i64) (a := x14) (b := (x1.length : Int)) (by kernel_rfl) (by kernel_rfl)) (wpList_nil ?_)))))))
  refine then_n ?_
  by_cases q24 : x14 < (x1.length : Int)
  · replace M := ifp q24 M
    refine cond_t rfl (bt q24 (by kernel_rfl)) (wp_skip (then_n (wp_seq (wp_block (wp_seq ?_)))))
    refine region_still (by kernel_rfl) (by kernel_rfl) S18 ?_
    intro w25 S26 K27
    refine sv (d := 17) rfl rfl (by kernel_rfl) (e_move (v := .slice A2 x1.length c3) (by exact e15)) (sv (d := 18) rfl rfl (by kernel_rfl) (e_move (v := .int .i64 x14) (by exact e17)) ?_)
    obtain ⟨q28, M⟩ := chk M
    obtain ⟨b29, o30, e31⟩ := Rd.addr h4 (show (x14).toNat < x1.length by omega)
    obtain ⟨y32, r33, k34⟩ := Rd.at h4 e31 (getD_some (0 : UInt8) (show (x14).toNat < x1.length by omega))
    obtain rfl := r33
    refine sv (d := 19) rfl rfl (by kernel_rfl) (e_indexAddr (b := b29) (off := o30) (n := x1.length) (c := c3) (sz := 1) (i := x14) (k := .i64) Try.underlying26 e31 (by kernel_rfl) (by kernel_rfl) (by kernel_rfl) q28 q24) (sv (d := 20) rfl rfl (by kernel_rfl) (e_load1 (ad := ⟨b29, o30 + (x14 : Int).toNat * 1, none⟩) (v := .int .u8 ((x1.getD ((x14).toNat) (0 : UInt8)).toNat : Int)) Try.underlying5 rfl (by kernel_rfl) (hpx (S26.inv.cell (k34 0 _ rfl)))) (sv (d := 21) rfl rfl (by kernel_rfl) (e_move (v := .slice A7 x6.length c8) (by exact e16)) (sv (d := 22) rfl rfl (by kernel_rfl) (e_move (v := .int .i64 x14) (by exact e17)) ?_)))
    obtain ⟨q35, M⟩ := chk M
    obtain ⟨b36, o37, e38⟩ := Rd.addr h9 (show (x14).toNat < x6.length by omega)
    obtain ⟨y39, r40, k41⟩ := Rd.at h9 e38 (getD_some (0 : UInt8) (show (x14).toNat < x6.length by omega))
    obtain rfl := r40
    refine sv (d := 23) rfl rfl (by kernel_rfl) (e_indexAddr (b := b36) (off := o37) (n := x6.length) (c := c8) (sz := 1) (i := x14) (k := .i64) Try.underlying26 e38 (by kernel_rfl) (by kernel_rfl) (by kernel_rfl) q28 q35) (sv (d := 24) rfl rfl (by kernel_rfl) (e_load1 (ad := ⟨b36, o37 + (x14 : Int).toNat * 1, none⟩) (v := .int .u8 ((x6.getD ((x14).toNat) (0 : UInt8)).toNat : Int)) Try.underlying5 rfl (by kernel_rfl) (hpx (S26.inv.cell (k41 0 _ rfl)))) (sv (d := 25) rfl rfl (by kernel_rfl) (e_neq (k := .u8) (a := ((x1.getD ((x14).toNat) (0 : UInt8)).toNat : Int)) (b := ((x6.getD ((x14).toNat) (0 : UInt8)).toNat : Int)) (by kernel_rfl) (by kernel_rfl)) (wpStill_nil (then_n ?_))))
    by_cases q42 : ((x1.getD ((x14).toNat) (0 : UInt8)).toNat : Int) ≠ ((x6.getD ((x14).toNat) (0 : UInt8)).toNat : Int)
    · replace M := ifp q42 M
      refine cond_t rfl (bt q42 (by kernel_rfl)) (wp_seq (wp_region_lit (lv (d := 4) rfl rfl (by kernel_rfl) (e_assign (v := .bool false) rfl) (wpList_nil (then_n (wp_ret (inb_r ?_)))))))
      refine then_r (then_r (inb_r (then_r ?_)))
      obtain rfl := Option.some.inj M
      exact ret1 rfl rfl  (show _ = .bool false from (by kernel_rfl)) ⟨rfl, S26.chg⟩
    replace M := ifn q42 M
    refine cond_f rfl (bf q42 (by kernel_rfl)) (wp_skip (inb_n (then_n (wp_region_lit (lv (d := 15) rfl rfl (by kernel_rfl) (e_move (v := .int .i64 x14) (by exact e17)) (lv (d := 16) rfl rfl (by kernel_rfl) (e_add (k := .i64) (a := x14) (b := 1) (by kernel_rfl) rfl) (lv (d := 5) rfl rfl (by kernel_rfl) (e_assign (v := .int .i64 (IntKind.i64.wrap (x14 + 1))) (by kernel_rfl)) ?_)))))))
    refine wpList_nil (then_n ?_)
    exact ⟨k23, (by omega), _, (IntKind.i64.wrap (x14 + 1)), rfl, (by exact e15), (by exact e16), (by kernel_rfl), S26, M⟩
  replace M := ifn q24 M
  refine cond_f rfl (bf q24 (by kernel_rfl)) (wp_exit (then_e (then_e (inb_hit (then_n (wp_seq (wp_region_lit ?_)))))))
  refine lv (d := 4) rfl rfl (by kernel_rfl) (e_assign (v := .bool true) rfl) (wpList_nil (then_n (wp_ret ?_)))
  obtain rfl := Option.some.inj M
  exact ret1 rfl rfl  (show _ = .bool true from (by kernel_rfl)) ⟨rfl, S18.chg⟩

/-! laws_eqCell -/
def laws_eqCell.f (k : Nat) (x1 : Cell) (x6 : Cell) : Option Bool := (if x1.kind ≠ x6.kind then some false else (if x1.n ≠ x6.n then some false else ((laws_eqByteS.f k x1.text x6.text).bind fun t23 => (if ¬ (t23 = true) then some false else some true))))
theorem laws_eqCell.calls (k : Nat) (w : World) (H : Hp) (x1 : Cell) (A2 : Option Addr) (c3 : Nat) (x6 : Cell) (A7 : Option Addr) (c8 : Nat) (h4 : Rd tByte H A2 x1.text) (l5 : x1.text.length ≤ c3) (h9 : Rd tByte H A7 x6.text) (l10 : x6.text.length ≤ c8) (S : Own [] H w) (r : Bool) (M : laws_eqCell.f k x1 x6 = some r) :
    Calls Try.prog 16 #[.agg #[.int .i64 x1.kind, .int .i64 x1.n, .slice A2 x1.text.length c3], .agg #[.int .i64 x6.kind, .int .i64 x6.n, .slice A7 x6.text.length c8]] w (fun e e_w => e = .returned (.bool r) ∧ Chg no w e_w) := by
  rw [laws_eqCell.f] at M
  refine enter (l := [.agg #[.int .i64 x1.kind, .int .i64 x1.n, .slice A2 x1.text.length c3], .agg #[.int .i64 x6.kind, .int .i64 x6.n, .slice A7 x6.text.length c8]]) 21 Try.func16 rfl rfl rfl ?_
  have S0_ := S.st
  refine wp_seq (wp_region_lit ?_)
  refine lve (d := 2) rfl rfl (by kernel_rfl) (new_blk (v := fun g_ => .pointer (some ⟨g_, 0, none⟩)) (cs := #[.int .i64 x1.kind, .int .i64 x1.n, .slice A2 x1.text.length c3]) (t := 36) S0_ (by kernel_rfl)) ?_
  rintro _ w11 ⟨g12, rfl, b13, S14, K15⟩
  refine lve (d := 3) rfl rfl (by kernel_rfl) (new_blk (v := fun g_ => .pointer (some ⟨g_, 0, none⟩)) (cs := #[.int .i64 x6.kind, .int .i64 x6.n, .slice A7 x6.text.length c8]) (t := 36) S14 (by kernel_rfl)) ?_
  rintro _ w16 ⟨g17, rfl, b18, S19, K20⟩
  replace b13 := K20.blk 0 rfl b13
  refine lv (d := 4) rfl rfl (by kernel_rfl) (e_assign (v := .bool false) rfl) (wpList_nil (then_n (wp_seq (wp_seq (wp_region_lit (lv (d := 5) rfl rfl (by kernel_rfl) (e_fieldAddr (b := g12) (off := 0) (o := 0) Try.underlying36 rfl rfl (sz := 1) (by kernel_rfl) (by decide) (by kernel_rfl)) (lv (d := 6) rfl rfl (by kernel_rfl) (e_load1 (ad := ⟨g12, 0 + 0, none⟩) (v := .int .i64 x1.kind) Try.underlying3 rfl (by kernel_rfl) (blk_cell b13 rfl)) ?_)))))))
  refine lv (d := 7) rfl rfl (by kernel_rfl) (e_fieldAddr (b := g17) (off := 0) (o := 0) Try.underlying36 rfl rfl (sz := 1) (by kernel_rfl) (by decide) (by kernel_rfl)) (lv (d := 8) rfl rfl (by kernel_rfl) (e_load1 (ad := ⟨g17, 0 + 0, none⟩) (v := .int .i64 x6.kind) Try.underlying3 rfl (by kernel_rfl) (blk_cell b18 rfl)) (lv (d := 9) rfl rfl (by kernel_rfl) (e_neq (k := .i64) (a := x1.kind) (b := x6.kind) (by kernel_rfl) (by kernel_rfl)) (wpList_nil (then_n ?_))))
  by_cases q21 : x1.kind ≠ x6.kind
  · replace M := ifp q21 M
    refine cond_t rfl (bt q21 (by kernel_rfl)) (wp_seq (wp_region_lit (lv (d := 4) rfl rfl (by kernel_rfl) (e_assign (v := .bool false) rfl) (wpList_nil (then_n (wp_ret (then_r ?_)))))))
    obtain rfl := Option.some.inj M
    exact ret1 rfl rfl  (show _ = .bool false from (by kernel_rfl)) ⟨rfl, S19.chg⟩
  replace M := ifn q21 M
  refine cond_f rfl (bf q21 (by kernel_rfl)) (wp_skip (then_n (wp_seq (wp_seq (wp_region_lit (lv (d := 10) rfl rfl (by kernel_rfl) (e_fieldAddr (b := g12) (off := 0) (o := 1) Try.underlying36 rfl rfl (sz := 1) (by kernel_rfl) (by decide) (by kernel_rfl)) (lv (d := 11) rfl rfl (by kernel_rfl) (e_load1 (ad := ⟨g12, 0 + 1, none⟩) (v := .int .i64 x1.n) Try.underlying3 rfl (by kernel_rfl) (blk_cell b13 rfl)) ?_)))))))
  refine lv (d := 12) rfl rfl (by kernel_rfl) (e_fieldAddr (b := g17) (off := 0) (o := 1) Try.underlying36 rfl rfl (sz := 1) (by kernel_rfl) (by decide) (by kernel_rfl)) (lv (d := 13) rfl rfl (by kernel_rfl) (e_load1 (ad := ⟨g17, 0 + 1, none⟩) (v := .int .i64 x6.n) Try.underlying3 rfl (by kernel_rfl) (blk_cell b18 rfl)) (lv (d := 14) rfl rfl (by kernel_rfl) (e_neq (k := .i64) (a := x1.n) (b := x6.n) (by kernel_rfl) (by kernel_rfl)) (wpList_nil (then_n ?_))))
  by_cases q22 : x1.n ≠ x6.n
  · replace M := ifp q22 M
    refine cond_t rfl (bt q22 (by kernel_rfl)) (wp_seq (wp_region_lit (lv (d := 4) rfl rfl (by kernel_rfl) (e_assign (v := .bool false) rfl) (wpList_nil (then_n (wp_ret (then_r ?_)))))))
    obtain rfl := Option.some.inj M
    exact ret1 rfl rfl  (show _ = .bool false from (by kernel_rfl)) ⟨rfl, S19.chg⟩
  replace M := ifn q22 M
  refine cond_f rfl (bf q22 (by kernel_rfl)) (wp_skip (then_n (wp_seq (wp_seq (wp_region_lit (lv (d := 15) rfl rfl (by kernel_rfl) (e_fieldAddr (b := g12) (off := 0) (o := 2) Try.underlying36 rfl rfl (sz := 1) (by kernel_rfl) (by decide) (by kernel_rfl)) (lv (d := 16) rfl rfl (by kernel_rfl) (e_load1 (ad := ⟨g12, 0 + 2, none⟩) (v := .slice A2 x1.text.length c3) Try.underlying26 rfl (by kernel_rfl) (blk_cell b13 rfl)) ?_)))))))
  refine lv (d := 17) rfl rfl (by kernel_rfl) (e_fieldAddr (b := g17) (off := 0) (o := 2) Try.underlying36 rfl rfl (sz := 1) (by kernel_rfl) (by decide) (by kernel_rfl)) (lv (d := 18) rfl rfl (by kernel_rfl) (e_load1 (ad := ⟨g17, 0 + 2, none⟩) (v := .slice A7 x6.text.length c8) Try.underlying26 rfl (by kernel_rfl) (blk_cell b18 rfl)) ?_)
  obtain ⟨t23, u24, M⟩ := bnd M
  refine lcall (d := 19) rfl rfl (by kernel_rfl) (e_call (l := [.tmp 16, .tmp 18]) (vs := [.slice A2 x1.text.length c3, .slice A7 x6.text.length c8]) Try.func45 (by kernel_rfl) rfl (by kernel_rfl) rfl) (laws_eqByteS.calls k w16 H x1.text A2 c3 x6.text A7 c8 h4 l5 h9 l10 S19.own0 t23 u24) ?_
  rintro _ w25 ⟨rfl, C26⟩
  refine ⟨_, rfl, ?_⟩
  obtain ⟨S27, K28⟩ := S19.still C26
  refine lv (d := 20) rfl rfl (by kernel_rfl) (e_notv (c := t23) (by kernel_rfl)) (wpList_nil (then_n ?_))
  by_cases q29 : ¬ (t23 = true)
  · replace M := ifp q29 M
    refine cond_t rfl (bt q29 (by kernel_rfl)) (wp_seq (wp_region_lit (lv (d := 4) rfl rfl (by kernel_rfl) (e_assign (v := .bool false) rfl) (wpList_nil (then_n (wp_ret (then_r ?_)))))))
    obtain rfl := Option.some.inj M
    exact ret1 rfl rfl  (show _ = .bool false from (by kernel_rfl)) ⟨rfl, S27.chg⟩
  replace M := ifn q29 M
  refine cond_f rfl (bf q29 (by kernel_rfl)) (wp_skip (then_n (wp_seq (wp_region_lit (lv (d := 4) rfl rfl (by kernel_rfl) (e_assign (v := .bool true) rfl) (wpList_nil (then_n ?_)))))))
  refine wp_ret ?_
  obtain rfl := Option.some.inj M
  exact ret1 rfl rfl  (show _ = .bool true from (by kernel_rfl)) ⟨rfl, S27.chg⟩

/-! laws_eqCellS -/
def laws_eqCellS.l0 : Nat → (List Cell) → (List Cell) → Int → Option Bool
  | 0, _, _, _ => none
  | k23 + 1, x1, x6, x14 => (if x14 < (x1.length : Int) then (if 0 ≤ x14 then (if x14 < (x6.length : Int) then ((laws_eqCell.f k23 (x1.getD ((x14).toNat) z36) (x6.getD ((x14).toNat) z36)).bind fun t47 => (if ¬ (t47 = true) then some false else (laws_eqCellS.l0 k23 x1 x6 (IntKind.i64.wrap (x14 + 1))))) else none) else none) else some true)
def laws_eqCellS.f (k : Nat) (x1 : List Cell) (x6 : List Cell) : Option Bool := (if (x1.length : Int) ≠ (x6.length : Int) then some false else (laws_eqCellS.l0 k x1 x6 0))
theorem laws_eqCellS.calls (k : Nat) (w : World) (H : Hp) (x1 : List Cell) (A2 : Option Addr) (c3 : Nat) (x6 : List Cell) (A7 : Option Addr) (c8 : Nat) (h4 : Rd st36 H A2 x1) (l5 : x1.length ≤ c3) (h9 : Rd st36 H A7 x6) (l10 : x6.length ≤ c8) (S : Own [] H w) (r : Bool) (M : laws_eqCellS.f k x1 x6 = some r) :
    Calls Try.prog 24 #[.slice A2 x1.length c3, .slice A7 x6.length c8] w (fun e e_w => e = .returned (.bool r) ∧ Chg no w e_w) := by
  rw [laws_eqCellS.f] at M
  refine enter (l := [.slice A2 x1.length c3, .slice A7 x6.length c8]) 27 Try.func24 rfl rfl rfl ?_
  have S0_ := S.st
  refine wp_seq (wp_region_lit (lv (d := 4) rfl rfl (by kernel_rfl) (e_assign (v := .bool false) rfl) (wpList_nil (then_n (wp_seq (wp_seq (wp_region_lit ?_)))))))
  refine lv (d := 6) rfl rfl (by kernel_rfl) (e_move (v := .slice A2 x1.length c3) (by kernel_rfl)) (lv (d := 7) rfl rfl (by kernel_rfl) (e_len (A := A2) (n := x1.length) (c := c3) Try.underlying32 (by kernel_rfl)) (lv (d := 8) rfl rfl (by kernel_rfl) (e_move (v := .slice A7 x6.length c8) (by kernel_rfl)) (lv (d := 9) rfl rfl (by kernel_rfl) (e_len (A := A7) (n := x6.length) (c := c8) Try.underlying32 (by kernel_rfl)) (lv (d := 10) rfl rfl (by kernel_rfl) (e_neq (k := .i64) (a := (x1.length : Int)) (b := (x6.length : Int)) (by kernel_rfl) (by kernel_rfl)) (wpList_nil (then_n ?_))))))
  by_cases q11 : (x1.length : Int) ≠ (x6.length : Int)
  · replace M := ifp q11 M
    refine cond_t rfl (bt q11 (by kernel_rfl)) (wp_seq (wp_region_lit (lv (d := 4) rfl rfl (by kernel_rfl) (e_assign (v := .bool false) rfl) (wpList_nil (then_n (wp_ret (then_r ?_)))))))
    obtain rfl := Option.some.inj M
    exact ret1 rfl rfl  (show _ = .bool false from (by kernel_rfl)) ⟨rfl, S0_.chg⟩
  replace M := ifn q11 M
  refine cond_f rfl (bf q11 (by kernel_rfl)) (wp_skip (then_n (wp_seq (wp_seq (wp_region_lit (lv (d := 5) rfl rfl (by kernel_rfl) (e_assign (v := .int .i64 0) rfl) (wpList_nil ?_)))))))
  refine then_n (wp_block ?_)
  refine wp_loop_g (fun k21 a22 w12 => ∃ (f13 : Nat → Value) (x14 : Int), a22 = mk 27 f13 ∧ f13 0 = .slice A2 x1.length c3 ∧ f13 1 = .slice A7 x6.length c8 ∧ f13 5 = .int .i64 x14 ∧ St (anyOf []) H w [] H w12 ∧ laws_eqCellS.l0 k21 x1 x6 x14 = some r) k ⟨_, 0, rfl, (by kernel_rfl), (by kernel_rfl), (by kernel_rfl), S0_, M⟩ ?_
  clear M
  rintro k21 a22 w12 ⟨f13, x14, rfl, e15, e16, e17, S18, M⟩
  rcases k21 with _ | k23
  · rw [laws_eqCellS.l0] at M
    cases M
  rw [laws_eqCellS.l0] at M
  refine wp_seq (wp_seq (wp_region_lit (lv (d := 11) rfl rfl (by kernel_rfl) (e_move (v := .int .i64 x14) (by exact e17)) (lv (d := 12) rfl rfl (by kernel_rfl) (e_move (v := .slice A2 x1.length c3) (by exact e15)) (lv (d := 13) rfl rfl (by kernel_rfl) (e_len (A := A2) (n := x1.length) (c := c3) Try.underlying32 (by kernel_rfl)) (lv (d := 14) rfl rfl (by kernel_rfl) (e_lss (k := .i64) (a := x14) (b := (x1.length : Int)) (by kernel_rfl) (by kernel_rfl)) (wpList_nil ?_)))))))
  refine then_n ?_
  by_cases q24 : x14 < (x1.length : Int)
  · replace M := ifp q24 M
    refine cond_t rfl (bt q24 (by kernel_rfl)) (wp_skip (then_n (wp_seq (wp_block (wp_seq ?_)))))
    refine region_quiet (by kernel_rfl) (by kernel_rfl) ?_
    refine qv (d := 17) rfl rfl (by kernel_rfl) (fun wq_ hq_ => e_move (v := .slice A2 x1.length c3) (by exact e15)) ?_
    refine qv (d := 18) rfl rfl (by kernel_rfl) (fun wq_ hq_ => e_move (v := .int .i64 x14) (by exact e17)) ?_
    obtain ⟨q25, M⟩ := chk M
    obtain ⟨b26, o27, e28⟩ := Rd.addr h4 (show (x14).toNat < x1.length by omega)
    obtain ⟨y29, r30, k31⟩ := Rd.at h4 e28 (getD_some z36 (show (x14).toNat < x1.length by omega))
    obtain ⟨A32, c33, rfl, l34, h35⟩ := st36_open r30
    refine qv (d := 19) rfl rfl (by kernel_rfl) (fun wq_ hq_ => e_indexAddr (b := b26) (off := o27) (n := x1.length) (c := c3) (sz := 3) (i := x14) (k := .i64) Try.underlying32 e28 (by kernel_rfl) (by kernel_rfl) (by kernel_rfl) q25 q24) ?_
    refine qv (d := 20) rfl rfl (by kernel_rfl) (fun wq_ hq_ => e_loadS (b := b26) (off := o27 + (x14 : Int).toNat * 3) (cs := [.int .i64 ((x1.getD ((x14).toNat) z36).kind), .int .i64 ((x1.getD ((x14).toNat) z36).n), .slice A32 ((x1.getD ((x14).toNat) z36).text).length c33]) Try.underlying36 rfl (by kernel_rfl) (by kernel_rfl) (fun j_ u_ e_ => (hpx ((S18.still hq_).1.inv.cell (k31 j_ u_ e_))))) ?_
    refine qv (d := 21) rfl rfl (by kernel_rfl) (fun wq_ hq_ => e_move (v := .slice A7 x6.length c8) (by exact e16)) ?_
    refine qv (d := 22) rfl rfl (by kernel_rfl) (fun wq_ hq_ => e_move (v := .int .i64 x14) (by exact e17)) ?_
    obtain ⟨q36, M⟩ := chk M
    obtain ⟨b37, o38, e39⟩ := Rd.addr h9 (show (x14).toNat < x6.length by omega)
    obtain ⟨y40, r41, k42⟩ := Rd.at h9 e39 (getD_some z36 (show (x14).toNat < x6.length by omega))
    obtain ⟨A43, c44, rfl, l45, h46⟩ := st36_open r41
    refine qv (d := 23) rfl rfl (by kernel_rfl) (fun wq_ hq_ => e_indexAddr (b := b37) (off := o38) (n := x6.length) (c := c8) (sz := 3) (i := x14) (k := .i64) Try.underlying32 e39 (by kernel_rfl) (by kernel_rfl) (by kernel_rfl) q25 q36) ?_
    refine qv (d := 24) rfl rfl (by kernel_rfl) (fun wq_ hq_ => e_loadS (b := b37) (off := o38 + (x14 : Int).toNat * 3) (cs := [.int .i64 ((x6.getD ((x14).toNat) z36).kind), .int .i64 ((x6.getD ((x14).toNat) z36).n), .slice A43 ((x6.getD ((x14).toNat) z36).text).length c44]) Try.underlying36 rfl (by kernel_rfl) (by kernel_rfl) (fun j_ u_ e_ => (hpx ((S18.still hq_).1.inv.cell (k42 j_ u_ e_))))) ?_
    obtain ⟨t47, u48, M⟩ := bnd M
    refine qcall (v := .bool t47) (d := 25) rfl rfl (by kernel_rfl) (fun w_ => e_call (l := [.tmp 20, .tmp 24]) (vs := [.agg #[.int .i64 ((x1.getD ((x14).toNat) z36).kind), .int .i64 ((x1.getD ((x14).toNat) z36).n), .slice A32 ((x1.getD ((x14).toNat) z36).text).length c33], .agg #[.int .i64 ((x6.getD ((x14).toNat) z36).kind), .int .i64 ((x6.getD ((x14).toNat) z36).n), .slice A43 ((x6.getD ((x14).toNat) z36).text).length c44]]) Try.func16 (by kernel_rfl) rfl (by kernel_rfl) rfl) (fun wq_ hq_ => (by obtain ⟨S_, K_⟩ := S18.still hq_; exact (laws_eqCell.calls k23 wq_ H (x1.getD ((x14).toNat) z36) A32 c33 (x6.getD ((x14).toNat) z36) A43 c44 h35 l34 h46 l45 S_.own0 t47 u48))) ?_
    refine qv (d := 26) rfl rfl (by kernel_rfl) (fun wq_ hq_ => e_notv (c := t47) (by kernel_rfl)) ?_
    refine wpQuiet_nil ?_
    intro w49 C52
    obtain ⟨S50, K51⟩ := S18.still C52
    refine then_n ?_
    by_cases q53 : ¬ (t47 = true)
    · replace M := ifp q53 M
      refine cond_t rfl (bt q53 (by kernel_rfl)) (wp_seq (wp_region_lit (lv (d := 4) rfl rfl (by kernel_rfl) (e_assign (v := .bool false) rfl) (wpList_nil (then_n (wp_ret (inb_r ?_)))))))
      refine then_r (then_r (inb_r (then_r ?_)))
      obtain rfl := Option.some.inj M
      exact ret1 rfl rfl  (show _ = .bool false from (by kernel_rfl)) ⟨rfl, S50.chg⟩
    replace M := ifn q53 M
    refine cond_f rfl (bf q53 (by kernel_rfl)) (wp_skip (inb_n (then_n (wp_region_lit (lv (d := 15) rfl rfl (by kernel_rfl) (e_move (v := .int .i64 x14) (by exact e17)) (lv (d := 16) rfl rfl (by kernel_rfl) (e_add (k := .i64) (a := x14) (b := 1) (by kernel_rfl) rfl) (lv (d := 5) rfl rfl (by kernel_rfl) (e_assign (v := .int .i64 (IntKind.i64.wrap (x14 + 1))) (by kernel_rfl)) ?_)))))))
    refine wpList_nil (then_n ?_)
    exact ⟨k23, (by omega), _, (IntKind.i64.wrap (x14 + 1)), rfl, (by exact e15), (by exact e16), (by kernel_rfl), S50, M⟩
  replace M := ifn q24 M
  refine cond_f rfl (bf q24 (by kernel_rfl)) (wp_exit (then_e (then_e (inb_hit (then_n (wp_seq (wp_region_lit ?_)))))))
  refine lv (d := 4) rfl rfl (by kernel_rfl) (e_assign (v := .bool true) rfl) (wpList_nil (then_n (wp_ret ?_)))
  obtain rfl := Option.some.inj M
  exact ret1 rfl rfl  (show _ = .bool true from (by kernel_rfl)) ⟨rfl, S18.chg⟩

/-! laws_eqIntS -/
def laws_eqIntS.l0 : Nat → (List Int) → (List Int) → Int → Option Bool
  | 0, _, _, _ => none
  | k23 + 1, x1, x6, x14 => (if x14 < (x1.length : Int) then (if 0 ≤ x14 then (if x14 < (x6.length : Int) then (if (x1.getD ((x14).toNat) (0 : Int)) ≠ (x6.getD ((x14).toNat) (0 : Int)) then some false else (laws_eqIntS.l0 k23 x1 x6 (IntKind.i64.wrap (x14 + 1)))) else none) else none) else some true)
def laws_eqIntS.f (k : Nat) (x1 : List Int) (x6 : List Int) : Option Bool := (if (x1.length : Int) ≠ (x6.length : Int) then some false else (laws_eqIntS.l0 k x1 x6 0))
theorem laws_eqIntS.calls (k : Nat) (w : World) (H : Hp) (x1 : List Int) (A2 : Option Addr) (c3 : Nat) (x6 : List Int) (A7 : Option Addr) (c8 : Nat) (h4 : Rd tInt H A2 x1) (l5 : x1.length ≤ c3) (h9 : Rd tInt H A7 x6) (l10 : x6.length ≤ c8) (S : Own [] H w) (r : Bool) (M : laws_eqIntS.f k x1 x6 = some r) :
    Calls Try.prog 44 #[.slice A2 x1.length c3, .slice A7 x6.length c8] w (fun e e_w => e = .returned (.bool r) ∧ Chg no w e_w) := by
  rw [laws_eqIntS.f] at M
  refine enter (l := [.slice A2 x1.length c3, .slice A7 x6.length c8]) 26 Try.func44 rfl rfl rfl ?_
  have S0_ := S.st
  refine wp_seq (wp_region_lit (lv (d := 4) rfl rfl (by kernel_rfl) (e_assign (v := .bool false) rfl) (wpList_nil (then_n (wp_seq (wp_seq (wp_region_lit ?_)))))))
  refine lv (d := 6) rfl rfl (by kernel_rfl) (e_move (v := .slice A2 x1.length c3) (by kernel_rfl)) (lv (d := 7) rfl rfl (by kernel_rfl) (e_len (A := A2) (n := x1.length) (c := c3) Try.underlying23 (by kernel_rfl)) (lv (d := 8) rfl rfl (by kernel_rfl) (e_move (v := .slice A7 x6.length c8) (by kernel_rfl)) (lv (d := 9) rfl rfl (by kernel_rfl) (e_len (A := A7) (n := x6.length) (c := c8) Try.underlying23 (by kernel_rfl)) (lv (d := 10) rfl rfl (by kernel_rfl) (e_neq (k := .i64) (a := (x1.length : Int)) (b := (x6.length : Int)) (by kernel_rfl) (by kernel_rfl)) (wpList_nil (then_n ?_))))))
  by_cases q11 : (x1.length : Int) ≠ (x6.length : Int)
  · replace M := ifp q11 M
    refine cond_t rfl (bt q11 (by kernel_rfl)) (wp_seq (wp_region_lit (lv (d := 4) rfl rfl (by kernel_rfl) (e_assign (v := .bool false) rfl) (wpList_nil (then_n (wp_ret (then_r ?_)))))))
    obtain rfl := Option.some.inj M
    exact ret1 rfl rfl  (show _ = .bool false from (by kernel_rfl)) ⟨rfl, S0_.chg⟩
  replace M := ifn q11 M
  refine cond_f rfl (bf q11 (by kernel_rfl)) (wp_skip (then_n (wp_seq (wp_seq (wp_region_lit (lv (d := 5) rfl rfl (by kernel_rfl) (e_assign (v := .int .i64 0) rfl) (wpList_nil ?_)))))))
  refine then_n (wp_block ?_)
  refine wp_loop_g (fun k21 a22 w12 => ∃ (f13 : Nat → Value) (x14 : Int), a22 = mk 26 f13 ∧ f13 0 = .slice A2 x1.length c3 ∧ f13 1 = .slice A7 x6.length c8 ∧ f13 5 = .int .i64 x14 ∧ St (anyOf []) H w [] H w12 ∧ laws_eqIntS.l0 k21 x1 x6 x14 = some r) k ⟨_, 0, rfl, (by kernel_rfl), (by kernel_rfl), (by kernel_rfl), S0_, M⟩ ?_
  clear M
  rintro k21 a22 w12 ⟨f13, x14, rfl, e15, e16, e17, S18, M⟩
  rcases k21 with _ | k23
  · rw [laws_eqIntS.l0] at M
    cases M
  rw [laws_eqIntS.l0] at M
  refine wp_seq (wp_seq (wp_region_lit (lv (d := 11) rfl rfl (by kernel_rfl) (e_move (v := .int .i64 x14) (by exact e17)) (lv (d := 12) rfl rfl (by kernel_rfl) (e_move (v := .slice A2 x1.length c3) (by exact e15)) (lv (d := 13) rfl rfl (by kernel_rfl) (e_len (A := A2) (n := x1.length) (c := c3) Try.underlying23 (by kernel_rfl)) (lv (d := 14) rfl rfl (by kernel_rfl) (e_lss (k := .i64) (a := x14) (b := (x1.length : Int)) (by kernel_rfl) (by kernel_rfl)) (wpList_nil ?_)))))))
  refine then_n ?_
  by_cases q24 : x14 < (x1.length : Int)
  · replace M := ifp q24 M
    refine cond_t rfl (bt q24 (by kernel_rfl)) (wp_skip (then_n (wp_seq (wp_block (wp_seq ?_)))))
    refine region_still (by kernel_rfl) (by kernel_rfl) S18 ?_
    intro w25 S26 K27
    refine sv (d := 17) rfl rfl (by kernel_rfl) (e_move (v := .slice A2 x1.length c3) (by exact e15)) (sv (d := 18) rfl rfl (by kernel_rfl) (e_move (v := .int .i64 x14) (by exact e17)) ?_)
    obtain ⟨q28, M⟩ := chk M
    obtain ⟨b29, o30, e31⟩ := Rd.addr h4 (show (x14).toNat < x1.length by omega)
    obtain ⟨y32, r33, k34⟩ := Rd.at h4 e31 (getD_some (0 : Int) (show (x14).toNat < x1.length by omega))
    obtain rfl := r33
    refine sv (d := 19) rfl rfl (by kernel_rfl) (e_indexAddr (b := b29) (off := o30) (n := x1.length) (c := c3) (sz := 1) (i := x14) (k := .i64) Try.underlying23 e31 (by kernel_rfl) (by kernel_rfl) (by kernel_rfl) q28 q24) (sv (d := 20) rfl rfl (by kernel_rfl) (e_load1 (ad := ⟨b29, o30 + (x14 : Int).toNat * 1, none⟩) (v := .int .i64 (x1.getD ((x14).toNat) (0 : Int))) Try.underlying3 rfl (by kernel_rfl) (hpx (S26.inv.cell (k34 0 _ rfl)))) (sv (d := 21) rfl rfl (by kernel_rfl) (e_move (v := .slice A7 x6.length c8) (by exact e16)) (sv (d := 22) rfl rfl (by kernel_rfl) (e_move (v := .int .i64 x14) (by exact e17)) ?_)))
    obtain ⟨q35, M⟩ := chk M
    obtain ⟨b36, o37, e38⟩ := Rd.addr h9 (show (x14).toNat < x6.length by omega)
    obtain ⟨y39, r40, k41⟩ := Rd.at h9 e38 (getD_some (0 : Int) (show (x14).toNat < x6.length by omega))
    obtain rfl := r40
    refine sv (d := 23) rfl rfl (by kernel_rfl) (e_indexAddr (b := b36) (off := o37) (n := x6.length) (c := c8) (sz := 1) (i := x14) (k := .i64) Try.underlying23 e38 (by kernel_rfl) (by kernel_rfl) (by kernel_rfl) q28 q35) (sv (d := 24) rfl rfl (by kernel_rfl) (e_load1 (ad := ⟨b36, o37 + (x14 : Int).toNat * 1, none⟩) (v := .int .i64 (x6.getD ((x14).toNat) (0 : Int))) Try.underlying3 rfl (by kernel_rfl) (hpx (S26.inv.cell (k41 0 _ rfl)))) (sv (d := 25) rfl rfl (by kernel_rfl) (e_neq (k := .i64) (a := (x1.getD ((x14).toNat) (0 : Int))) (b := (x6.getD ((x14).toNat) (0 : Int))) (by kernel_rfl) (by kernel_rfl)) (wpStill_nil (then_n ?_))))
    by_cases q42 : (x1.getD ((x14).toNat) (0 : Int)) ≠ (x6.getD ((x14).toNat) (0 : Int))
    · replace M := ifp q42 M
      refine cond_t rfl (bt q42 (by kernel_rfl)) (wp_seq (wp_region_lit (lv (d := 4) rfl rfl (by kernel_rfl) (e_assign (v := .bool false) rfl) (wpList_nil (then_n (wp_ret (inb_r ?_)))))))
      refine then_r (then_r (inb_r (then_r ?_)))
      obtain rfl := Option.some.inj M
      exact ret1 rfl rfl  (show _ = .bool false from (by kernel_rfl)) ⟨rfl, S26.chg⟩
    replace M := ifn q42 M
    refine cond_f rfl (bf q42 (by kernel_rfl)) (wp_skip (inb_n (then_n (wp_region_lit (lv (d := 15) rfl rfl (by kernel_rfl) (e_move (v := .int .i64 x14) (by exact e17)) (lv (d := 16) rfl rfl (by kernel_rfl) (e_add (k := .i64) (a := x14) (b := 1) (by kernel_rfl) rfl) (lv (d := 5) rfl rfl (by kernel_rfl) (e_assign (v := .int .i64 (IntKind.i64.wrap (x14 + 1))) (by kernel_rfl)) ?_)))))))
    refine wpList_nil (then_n ?_)
    exact ⟨k23, (by omega), _, (IntKind.i64.wrap (x14 + 1)), rfl, (by exact e15), (by exact e16), (by kernel_rfl), S26, M⟩
  replace M := ifn q24 M
  refine cond_f rfl (bf q24 (by kernel_rfl)) (wp_exit (then_e (then_e (inb_hit (then_n (wp_seq (wp_region_lit ?_)))))))
  refine lv (d := 4) rfl rfl (by kernel_rfl) (e_assign (v := .bool true) rfl) (wpList_nil (then_n (wp_ret ?_)))
  obtain rfl := Option.some.inj M
  exact ret1 rfl rfl  (show _ = .bool true from (by kernel_rfl)) ⟨rfl, S18.chg⟩

/-! laws_eqStore -/
def laws_eqStore.f (k : Nat) (x1 : Store) (x10 : Store) : Option Bool := ((laws_eqCellS.f k x1.cells x10.cells).bind fun t29 => (if ¬ (t29 = true) then some false else ((laws_eqIntS.f k x1.trail x10.trail).bind fun t36 => (if ¬ (t36 = true) then some false else some true))))
theorem laws_eqStore.calls (k : Nat) (w : World) (H : Hp) (x1 : Store) (A2 : Option Addr) (c3 : Nat) (A6 : Option Addr) (c7 : Nat) (x10 : Store) (A11 : Option Addr) (c12 : Nat) (A15 : Option Addr) (c16 : Nat) (h4 : Rd st36 H A2 x1.cells) (l5 : x1.cells.length ≤ c3) (h8 : Rd tInt H A6 x1.trail) (l9 : x1.trail.length ≤ c7) (h13 : Rd st36 H A11 x10.cells) (l14 : x10.cells.length ≤ c12) (h17 : Rd tInt H A15 x10.trail) (l18 : x10.trail.length ≤ c16) (S : Own [] H w) (r : Bool) (M : laws_eqStore.f k x1 x10 = some r) :
    Calls Try.prog 15 #[.agg #[.slice A2 x1.cells.length c3, .slice A6 x1.trail.length c7], .agg #[.slice A11 x10.cells.length c12, .slice A15 x10.trail.length c16]] w (fun e e_w => e = .returned (.bool r) ∧ Chg no w e_w) := by
  rw [laws_eqStore.f] at M
  refine enter (l := [.agg #[.slice A2 x1.cells.length c3, .slice A6 x1.trail.length c7], .agg #[.slice A11 x10.cells.length c12, .slice A15 x10.trail.length c16]]) 17 Try.func15 rfl rfl rfl ?_
  have S0_ := S.st
  refine wp_seq (wp_region_lit ?_)
  refine lve (d := 2) rfl rfl (by kernel_rfl) (new_blk (v := fun g_ => .pointer (some ⟨g_, 0, none⟩)) (cs := #[.slice A2 x1.cells.length c3, .slice A6 x1.trail.length c7]) (t := 34) S0_ (by kernel_rfl)) ?_
  rintro _ w19 ⟨g20, rfl, b21, S22, K23⟩
  refine lve (d := 3) rfl rfl (by kernel_rfl) (new_blk (v := fun g_ => .pointer (some ⟨g_, 0, none⟩)) (cs := #[.slice A11 x10.cells.length c12, .slice A15 x10.trail.length c16]) (t := 34) S22 (by kernel_rfl)) ?_
  rintro _ w24 ⟨g25, rfl, b26, S27, K28⟩
  replace b21 := K28.blk 0 rfl b21
  refine lv (d := 4) rfl rfl (by kernel_rfl) (e_assign (v := .bool false) rfl) (wpList_nil (then_n (wp_seq (wp_seq (wp_region_lit (lv (d := 5) rfl rfl (by kernel_rfl) (e_fieldAddr (b := g20) (off := 0) (o := 0) Try.underlying34 rfl rfl (sz := 1) (by kernel_rfl) (by decide) (by kernel_rfl)) (lv (d := 6) rfl rfl (by kernel_rfl) (e_load1 (ad := ⟨g20, 0 + 0, none⟩) (v := .slice A2 x1.cells.length c3) Try.underlying32 rfl (by kernel_rfl) (blk_cell b21 rfl)) ?_)))))))
  refine lv (d := 7) rfl rfl (by kernel_rfl) (e_fieldAddr (b := g25) (off := 0) (o := 0) Try.underlying34 rfl rfl (sz := 1) (by kernel_rfl) (by decide) (by kernel_rfl)) (lv (d := 8) rfl rfl (by kernel_rfl) (e_load1 (ad := ⟨g25, 0 + 0, none⟩) (v := .slice A11 x10.cells.length c12) Try.underlying32 rfl (by kernel_rfl) (blk_cell b26 rfl)) ?_)
  obtain ⟨t29, u30, M⟩ := bnd M
  refine lcall (d := 9) rfl rfl (by kernel_rfl) (e_call (l := [.tmp 6, .tmp 8]) (vs := [.slice A2 x1.cells.length c3, .slice A11 x10.cells.length c12]) Try.func24 (by kernel_rfl) rfl (by kernel_rfl) rfl) (laws_eqCellS.calls k w24 H x1.cells A2 c3 x10.cells A11 c12 h4 l5 h13 l14 S27.own0 t29 u30) ?_
  rintro _ w31 ⟨rfl, C32⟩
  refine ⟨_, rfl, ?_⟩
  obtain ⟨S33, K34⟩ := S27.still C32
  replace b26 := K34.blk 0 rfl b26
  replace b21 := K34.blk 1 rfl b21
  refine lv (d := 10) rfl rfl (by kernel_rfl) (e_notv (c := t29) (by kernel_rfl)) (wpList_nil (then_n ?_))
  by_cases q35 : ¬ (t29 = true)
  · replace M := ifp q35 M
    refine cond_t rfl (bt q35 (by kernel_rfl)) (wp_seq (wp_region_lit (lv (d := 4) rfl rfl (by kernel_rfl) (e_assign (v := .bool false) rfl) (wpList_nil (then_n (wp_ret (then_r ?_)))))))
    obtain rfl := Option.some.inj M
    exact ret1 rfl rfl  (show _ = .bool false from (by kernel_rfl)) ⟨rfl, S33.chg⟩
  replace M := ifn q35 M
  refine cond_f rfl (bf q35 (by kernel_rfl)) (wp_skip (then_n (wp_seq (wp_seq (wp_region_lit (lv (d := 11) rfl rfl (by kernel_rfl) (e_fieldAddr (b := g20) (off := 0) (o := 1) Try.underlying34 rfl rfl (sz := 1) (by kernel_rfl) (by decide) (by kernel_rfl)) (lv (d := 12) rfl rfl (by kernel_rfl) (e_load1 (ad := ⟨g20, 0 + 1, none⟩) (v := .slice A6 x1.trail.length c7) Try.underlying23 rfl (by kernel_rfl) (blk_cell b21 rfl)) ?_)))))))
  refine lv (d := 13) rfl rfl (by kernel_rfl) (e_fieldAddr (b := g25) (off := 0) (o := 1) Try.underlying34 rfl rfl (sz := 1) (by kernel_rfl) (by decide) (by kernel_rfl)) (lv (d := 14) rfl rfl (by kernel_rfl) (e_load1 (ad := ⟨g25, 0 + 1, none⟩) (v := .slice A15 x10.trail.length c16) Try.underlying23 rfl (by kernel_rfl) (blk_cell b26 rfl)) ?_)
  obtain ⟨t36, u37, M⟩ := bnd M
  refine lcall (d := 15) rfl rfl (by kernel_rfl) (e_call (l := [.tmp 12, .tmp 14]) (vs := [.slice A6 x1.trail.length c7, .slice A15 x10.trail.length c16]) Try.func44 (by kernel_rfl) rfl (by kernel_rfl) rfl) (laws_eqIntS.calls k w31 H x1.trail A6 c7 x10.trail A15 c16 h8 l9 h17 l18 S33.own0 t36 u37) ?_
  rintro _ w38 ⟨rfl, C39⟩
  refine ⟨_, rfl, ?_⟩
  obtain ⟨S40, K41⟩ := S33.still C39
  refine lv (d := 16) rfl rfl (by kernel_rfl) (e_notv (c := t36) (by kernel_rfl)) (wpList_nil (then_n ?_))
  by_cases q42 : ¬ (t36 = true)
  · replace M := ifp q42 M
    refine cond_t rfl (bt q42 (by kernel_rfl)) (wp_seq (wp_region_lit (lv (d := 4) rfl rfl (by kernel_rfl) (e_assign (v := .bool false) rfl) (wpList_nil (then_n (wp_ret (then_r ?_)))))))
    obtain rfl := Option.some.inj M
    exact ret1 rfl rfl  (show _ = .bool false from (by kernel_rfl)) ⟨rfl, S40.chg⟩
  replace M := ifn q42 M
  refine cond_f rfl (bf q42 (by kernel_rfl)) (wp_skip (then_n (wp_seq (wp_region_lit (lv (d := 4) rfl rfl (by kernel_rfl) (e_assign (v := .bool true) rfl) (wpList_nil (then_n ?_)))))))
  refine wp_ret ?_
  obtain rfl := Option.some.inj M
  exact ret1 rfl rfl  (show _ = .bool true from (by kernel_rfl)) ⟨rfl, S40.chg⟩

/-! laws_markByteS -/
def laws_markByteS_2.l0 : Nat → (List UInt8) → Int → Int → (List UInt8) → Option (Int × (List UInt8))
  | 0, _, _, _, _ => none
  | k22 + 1, x1, x9, x10, x12 => (if x10 < (x1.length : Int) then (if 0 ≤ x10 then (laws_markByteS_2.l0 k22 x1 (IntKind.i64.wrap (x9 + 1)) (IntKind.i64.wrap (x10 + 1)) (x12.set ((x10).toNat) (b8 (x9)))) else none) else some (x9, x12))
def laws_markByteS_2.f (k : Nat) (x1 : List UInt8) (x6 : Int) : Option (Int × (List UInt8)) := (laws_markByteS_2.l0 k x1 x6 0 x1)
theorem laws_markByteS_2.calls (k : Nat) (w : World) (H : Hp) (x1 : List UInt8) (A2 : Option Addr) (c3 : Nat) (F5 : Foot) (x6 : Int) (h4 : Row tByte 5 H (hp w) F5 A2 c3 x1) (S : Own [F5] H w) (r : Int × (List UInt8)) (M : laws_markByteS_2.f k x1 x6 = some r) :
    Calls Try.prog 52 #[.slice A2 x1.length c3, .int .i64 x6] w (fun e e_w => ∃ (F_1 : Foot) (H_ : Hp), e = .returned (.int .i64 r.1) ∧ r.2.length = x1.length ∧ Row tByte 5 H_ (hp e_w) F_1 A2 c3 r.2 ∧ St (anyOf [F5]) H w [F_1] H_ e_w) := by
  rw [laws_markByteS_2.f] at M
  refine enter (l := [.slice A2 x1.length c3, .int .i64 x6]) 20 Try.func52 rfl rfl rfl ?_
  have S0_ := S.st
  refine wp_seq (wp_region_lit (lv (d := 4) rfl rfl (by kernel_rfl) (e_assign (v := .int .i64 0) rfl) (wpList_nil (then_n (wp_seq (wp_seq (wp_region_lit ?_)))))))
  refine lv (d := 5) rfl rfl (by kernel_rfl) (e_assign (v := .int .i64 0) rfl) (wpList_nil (then_n (wp_block ?_)))
  refine wp_loop_g (fun k20 a21 w7 => ∃ (f8 : Nat → Value) (x9 : Int) (x10 : Int) (F11 : Foot) (x12 : List UInt8), a21 = mk 20 f8 ∧ f8 0 = .slice A2 x1.length c3 ∧ f8 1 = .int .i64 x9 ∧ f8 5 = .int .i64 x10 ∧ Row tByte 5 H (hp w7) F11 A2 c3 x12 ∧ x12.length = x1.length ∧ St (anyOf [F5]) H w [F11] H w7 ∧ laws_markByteS_2.l0 k20 x1 x9 x10 x12 = some r) k ⟨_, x6, 0, F5, x1, rfl, (by kernel_rfl), (by kernel_rfl), (by kernel_rfl), h4, rfl, S0_, M⟩ ?_
  clear M
  rintro k20 a21 w7 ⟨f8, x9, x10, F11, x12, rfl, e14, e15, e16, h4, n13, S17, M⟩
  rcases k20 with _ | k22
  · rw [laws_markByteS_2.l0] at M
    cases M
  rw [laws_markByteS_2.l0] at M
  refine wp_seq (wp_seq (wp_region_lit (lv (d := 6) rfl rfl (by kernel_rfl) (e_move (v := .int .i64 x10) (by exact e16)) (lv (d := 7) rfl rfl (by kernel_rfl) (e_move (v := .slice A2 x1.length c3) (by exact e14)) (lv (d := 8) rfl rfl (by kernel_rfl) (e_len (A := A2) (n := x1.length) (c := c3) Try.underlying26 (by kernel_rfl)) (lv (d := 9) rfl rfl (by kernel_rfl) (e_lss (k := .i64) (a := x10) (b := (x1.length : Int)) (by kernel_rfl) (by kernel_rfl)) (wpList_nil ?_)))))))
  refine then_n ?_
  by_cases q23 : x10 < (x1.length : Int)
  · replace M := ifp q23 M
    refine cond_t rfl (bt q23 (by kernel_rfl)) (wp_skip (then_n (wp_seq (wp_block (wp_seq (wp_region_lit (lv (d := 12) rfl rfl (by kernel_rfl) (e_move (v := .slice A2 x1.length c3) (by exact e14)) ?_)))))))
    refine lv (d := 13) rfl rfl (by kernel_rfl) (e_move (v := .int .i64 x10) (by exact e16)) (lv (d := 14) rfl rfl (by kernel_rfl) (e_move (v := .int .i64 x9) (by exact e15)) (lv (d := 15) rfl rfl (by kernel_rfl) (e_conv_i8 (k := .i64) (a := x9) (by kernel_rfl) Try.underlying5 (by kernel_rfl)) ?_))
    obtain ⟨q24, M⟩ := chk M
    obtain ⟨b25, e27⟩ := Row.addr h4 (show (x10).toNat < x12.length by have : x12.length = x1.length := n13; omega)
    refine lv (d := 16) rfl rfl (by kernel_rfl) (e_indexAddr (b := b25) (off := 0) (n := x1.length) (c := c3) (sz := 1) (i := x10) (k := .i64) Try.underlying26 e27 (by kernel_rfl) (by kernel_rfl) (by kernel_rfl) q24 q23) ?_
    have S28 := S17.unit
    have S29 := S28.pull (F := F11) (Fr := [no]) 1 rfl rfl
    refine lse rfl rfl (by kernel_rfl) (e_setel (d := tByte) (b := b25) (i := (x10).toNat) (v := .int .u8 ((b8 (x9)).toNat : Int)) (vs := [.int .u8 ((b8 (x9)).toNat : Int)]) (yv := (b8 (x9))) S29 (by kernel_rfl) e27 (by kernel_rfl) rfl (by kernel_rfl) h4 (show (x10).toNat < x12.length by have : x12.length = x1.length := n13; omega) rfl) ?_
    rintro w30 ⟨F32, h31, S33, K34⟩
    clear h4
    refine wpList_nil (then_n (wp_region_lit (lv (d := 17) rfl rfl (by kernel_rfl) (e_move (v := .int .i64 x9) (by exact e15)) (lv (d := 18) rfl rfl (by kernel_rfl) (e_add (k := .i64) (a := x9) (b := 1) (by kernel_rfl) rfl) (lv (d := 1) rfl rfl (by kernel_rfl) (e_assign (v := .int .i64 (IntKind.i64.wrap (x9 + 1))) (by kernel_rfl)) (wpList_nil (inb_n ?_)))))))
    refine then_n (wp_region_lit (lv (d := 10) rfl rfl (by kernel_rfl) (e_move (v := .int .i64 x10) (by exact e16)) (lv (d := 11) rfl rfl (by kernel_rfl) (e_add (k := .i64) (a := x10) (b := 1) (by kernel_rfl) rfl) (lv (d := 5) rfl rfl (by kernel_rfl) (e_assign (v := .int .i64 (IntKind.i64.wrap (x10 + 1))) (by kernel_rfl)) (wpList_nil (then_n ?_))))))
    exact ⟨k22, (by omega), _, (IntKind.i64.wrap (x9 + 1)), (IntKind.i64.wrap (x10 + 1)), F32, (x12.set ((x10).toNat) (b8 (x9))), rfl, (by exact e14), (by kernel_rfl), (by kernel_rfl), h31, (List.length_set.trans n13), S33, M⟩
  replace M := ifn q23 M
  refine cond_f rfl (bf q23 (by kernel_rfl)) (wp_exit (then_e (then_e (inb_hit (then_n (wp_seq (wp_region_lit ?_)))))))
  refine lv (d := 19) rfl rfl (by kernel_rfl) (e_move (v := .int .i64 x9) (by exact e15)) (lv (d := 4) rfl rfl (by kernel_rfl) (e_assign (v := .int .i64 x9) (by kernel_rfl)) (wpList_nil (then_n (wp_ret ?_))))
  obtain rfl := Option.some.inj M
  exact ret1 rfl rfl  (show _ = .int .i64 x9 from (by kernel_rfl)) ⟨F11, H, rfl, n13, h4, S17⟩

/-! laws_markCellS -/
def laws_markCellS_2.l0 : Nat → (List Cell) → Int → Int → (List Cell) → Option (Int × (List Cell))
  | 0, _, _, _, _ => none
  | k24 + 1, x1, x11, x12, x14 => (if x12 < (x1.length : Int) then (if 0 ≤ x12 then ((laws_markByteS_2.f k24 ((((x14.set ((x12).toNat) ({(x14.getD ((x12).toNat) z36) with kind := x11})).set ((x12).toNat) ({((x14.set ((x12).toNat) ({(x14.getD ((x12).toNat) z36) with kind := x11})).getD ((x12).toNat) z36) with n := (IntKind.i64.wrap (x11 + 1))})).getD ((x12).toNat) z36).text) (IntKind.i64.wrap ((IntKind.i64.wrap (x11 + 1)) + 1))).bind fun t71 => (laws_markCellS_2.l0 k24 x1 t71.1 (IntKind.i64.wrap (x12 + 1)) (((x14.set ((x12).toNat) ({(x14.getD ((x12).toNat) z36) with kind := x11})).set ((x12).toNat) ({((x14.set ((x12).toNat) ({(x14.getD ((x12).toNat) z36) with kind := x11})).getD ((x12).toNat) z36) with n := (IntKind.i64.wrap (x11 + 1))})).set ((x12).toNat) ({(((x14.set ((x12).toNat) ({(x14.getD ((x12).toNat) z36) with kind := x11})).set ((x12).toNat) ({((x14.set ((x12).toNat) ({(x14.getD ((x12).toNat) z36) with kind := x11})).getD ((x12).toNat) z36) with n := (IntKind.i64.wrap (x11 + 1))})).getD ((x12).toNat) z36) with text := t71.2})))) else none) else some (x11, x14))
def laws_markCellS_2.f (k : Nat) (x1 : List Cell) (x6 : Int) : Option (Int × (List Cell)) := (laws_markCellS_2.l0 k x1 x6 0 x1)
theorem laws_markCellS_2.calls (k : Nat) (w : World) (H : Hp) (x1 : List Cell) (A2 : Option Addr) (c3 : Nat) (F5 : Foot) (x6 : Int) (h4 : Row st36 36 H (hp w) F5 A2 c3 x1) (S : Own [F5] H w) (r : Int × (List Cell)) (M : laws_markCellS_2.f k x1 x6 = some r) :
    Calls Try.prog 25 #[.slice A2 x1.length c3, .int .i64 x6] w (fun e e_w => ∃ (F_1 : Foot) (H_ : Hp), e = .returned (.int .i64 r.1) ∧ r.2.length = x1.length ∧ Row st36 36 H_ (hp e_w) F_1 A2 c3 r.2 ∧ St (anyOf [F5]) H w [F_1] H_ e_w) := by
  rw [laws_markCellS_2.f] at M
  refine enter (l := [.slice A2 x1.length c3, .int .i64 x6]) 34 Try.func25 rfl rfl rfl ?_
  have S0_ := S.st
  refine wp_seq (wp_region_lit (lv (d := 4) rfl rfl (by kernel_rfl) (e_assign (v := .int .i64 0) rfl) (wpList_nil (then_n (wp_seq (wp_seq (wp_region_lit ?_)))))))
  refine lv (d := 5) rfl rfl (by kernel_rfl) (e_assign (v := .int .i64 0) rfl) (wpList_nil (then_n (wp_block ?_)))
  refine wp_loop_g (fun k22 a23 w7 => ∃ (f8 : Nat → Value) (H9 : Hp) (x11 : Int) (x12 : Int) (F13 : Foot) (x14 : List Cell), a23 = mk 34 f8 ∧ f8 0 = .slice A2 x1.length c3 ∧ f8 1 = .int .i64 x11 ∧ f8 5 = .int .i64 x12 ∧ Row st36 36 H9 (hp w7) F13 A2 c3 x14 ∧ x14.length = x1.length ∧ Ext H H9 ∧ St (anyOf [F5]) H w [F13] H9 w7 ∧ laws_markCellS_2.l0 k22 x1 x11 x12 x14 = some r) k ⟨_, H, x6, 0, F5, x1, rfl, (by kernel_rfl), (by kernel_rfl), (by kernel_rfl), h4, rfl, (Ext.refl _), S0_, M⟩ ?_
  clear M
  rintro k22 a23 w7 ⟨f8, H9, x11, x12, F13, x14, rfl, e16, e17, e18, h4, n15, Y10, S19, M⟩
  rcases k22 with _ | k24
  · rw [laws_markCellS_2.l0] at M
    cases M
  rw [laws_markCellS_2.l0] at M
  refine wp_seq (wp_seq (wp_region_lit (lv (d := 6) rfl rfl (by kernel_rfl) (e_move (v := .int .i64 x12) (by exact e18)) (lv (d := 7) rfl rfl (by kernel_rfl) (e_move (v := .slice A2 x1.length c3) (by exact e16)) (lv (d := 8) rfl rfl (by kernel_rfl) (e_len (A := A2) (n := x1.length) (c := c3) Try.underlying32 (by kernel_rfl)) (lv (d := 9) rfl rfl (by kernel_rfl) (e_lss (k := .i64) (a := x12) (b := (x1.length : Int)) (by kernel_rfl) (by kernel_rfl)) (wpList_nil ?_)))))))
  refine then_n ?_
  by_cases q25 : x12 < (x1.length : Int)
  · replace M := ifp q25 M
    refine cond_t rfl (bt q25 (by kernel_rfl)) (wp_skip (then_n (wp_seq (wp_block (wp_seq (wp_region_lit (lv (d := 12) rfl rfl (by kernel_rfl) (e_move (v := .slice A2 x1.length c3) (by exact e16)) ?_)))))))
    refine lv (d := 13) rfl rfl (by kernel_rfl) (e_move (v := .int .i64 x12) (by exact e18)) (lv (d := 14) rfl rfl (by kernel_rfl) (e_move (v := .int .i64 x11) (by exact e17)) ?_)
    obtain ⟨q26, M⟩ := chk M
    obtain ⟨b27, e29⟩ := Row.addr h4 (show (x12).toNat < x14.length by have : x14.length = x1.length := n15; omega)
    refine lv (d := 15) rfl rfl (by kernel_rfl) (e_indexAddr (b := b27) (off := 0) (n := x1.length) (c := c3) (sz := 3) (i := x12) (k := .i64) Try.underlying32 e29 (by kernel_rfl) (by kernel_rfl) (by kernel_rfl) q26 q25) (lv (d := 16) rfl rfl (by kernel_rfl) (e_fieldAddr (b := b27) (off := 0 + (x12 : Int).toNat * 3) (o := 0) Try.underlying36 rfl rfl (sz := 1) (by kernel_rfl) (by decide) (by kernel_rfl)) ?_)
    have S30 := S19.unit
    have S31 := S30.pull (F := F13) (Fr := [no]) 1 rfl rfl
    refine lse rfl rfl (by kernel_rfl) (e_setpart (d := st36) (b := b27) (i := (x12).toNat) (j := 0) (v := .int .i64 x11) (vs := [.int .i64 x11]) (yv := {(x14.getD ((x12).toNat) z36) with kind := x11}) S31 (by kernel_rfl) e29 (by kernel_rfl) rfl (by kernel_rfl) h4 (getD_some z36 (show (x12).toNat < x14.length by have : x14.length = x1.length := n15; omega)) (Nat.le_of_ble_eq_true rfl) (List.forall_mem_cons.2 ⟨rfl, (fun _ h_ => by cases h_)⟩) (fun _ _ _ o_ => st36_u0 x11 o_)) ?_
    rintro w32 ⟨F34, h33, S35, K36⟩
    clear h4
    refine wpList_nil (then_n (wp_seq (wp_region_lit (lv (d := 17) rfl rfl (by kernel_rfl) (e_move (v := .int .i64 x11) (by exact e17)) (lv (d := 18) rfl rfl (by kernel_rfl) (e_add (k := .i64) (a := x11) (b := 1) (by kernel_rfl) rfl) (lv (d := 1) rfl rfl (by kernel_rfl) (e_assign (v := .int .i64 (IntKind.i64.wrap (x11 + 1))) (by kernel_rfl)) (wpList_nil ?_)))))))
    refine then_n (wp_seq (wp_region_lit (lv (d := 19) rfl rfl (by kernel_rfl) (e_move (v := .slice A2 x1.length c3) (by exact e16)) (lv (d := 20) rfl rfl (by kernel_rfl) (e_move (v := .int .i64 x12) (by exact e18)) (lv (d := 21) rfl rfl (by kernel_rfl) (e_move (v := .int .i64 (IntKind.i64.wrap (x11 + 1))) (by kernel_rfl)) ?_)))))
    obtain ⟨b37, e39⟩ := Row.addr h33 (show (x12).toNat < (x14.set ((x12).toNat) ({(x14.getD ((x12).toNat) z36) with kind := x11})).length by have : (x14.set ((x12).toNat) ({(x14.getD ((x12).toNat) z36) with kind := x11})).length = x1.length := (List.length_set.trans n15); omega)
    refine lv (d := 22) rfl rfl (by kernel_rfl) (e_indexAddr (b := b37) (off := 0) (n := x1.length) (c := c3) (sz := 3) (i := x12) (k := .i64) Try.underlying32 e39 (by kernel_rfl) (by kernel_rfl) (by kernel_rfl) q26 q25) (lv (d := 23) rfl rfl (by kernel_rfl) (e_fieldAddr (b := b37) (off := 0 + (x12 : Int).toNat * 3) (o := 1) Try.underlying36 rfl rfl (sz := 1) (by kernel_rfl) (by decide) (by kernel_rfl)) ?_)
    have S40 := S35.unit
    have S41 := S40.pull (F := F34) (Fr := [no]) 1 rfl rfl
    refine lse rfl rfl (by kernel_rfl) (e_setpart (d := st36) (b := b37) (i := (x12).toNat) (j := 1) (v := .int .i64 (IntKind.i64.wrap (x11 + 1))) (vs := [.int .i64 (IntKind.i64.wrap (x11 + 1))]) (yv := {((x14.set ((x12).toNat) ({(x14.getD ((x12).toNat) z36) with kind := x11})).getD ((x12).toNat) z36) with n := (IntKind.i64.wrap (x11 + 1))}) S41 (by kernel_rfl) e39 (by kernel_rfl) rfl (by kernel_rfl) h33 (getD_some z36 (show (x12).toNat < (x14.set ((x12).toNat) ({(x14.getD ((x12).toNat) z36) with kind := x11})).length by have : (x14.set ((x12).toNat) ({(x14.getD ((x12).toNat) z36) with kind := x11})).length = x1.length := (List.length_set.trans n15); omega)) (Nat.le_of_ble_eq_true rfl) (List.forall_mem_cons.2 ⟨rfl, (fun _ h_ => by cases h_)⟩) (fun _ _ _ o_ => st36_u1 (IntKind.i64.wrap (x11 + 1)) o_)) ?_
    rintro w42 ⟨F44, h43, S45, K46⟩
    clear h33
    refine wpList_nil (then_n (wp_seq (wp_region_lit (lv (d := 24) rfl rfl (by kernel_rfl) (e_move (v := .int .i64 (IntKind.i64.wrap (x11 + 1))) (by kernel_rfl)) (lv (d := 25) rfl rfl (by kernel_rfl) (e_add (k := .i64) (a := (IntKind.i64.wrap (x11 + 1))) (b := 1) (by kernel_rfl) rfl) (lv (d := 1) rfl rfl (by kernel_rfl) (e_assign (v := .int .i64 (IntKind.i64.wrap ((IntKind.i64.wrap (x11 + 1)) + 1))) (by kernel_rfl)) (wpList_nil ?_)))))))
    refine then_n (wp_region_lit (lv (d := 26) rfl rfl (by kernel_rfl) (e_move (v := .slice A2 x1.length c3) (by exact e16)) (lv (d := 27) rfl rfl (by kernel_rfl) (e_move (v := .int .i64 x12) (by exact e18)) ?_)))
    obtain ⟨b47, e49⟩ := Row.addr h43 (show (x12).toNat < ((x14.set ((x12).toNat) ({(x14.getD ((x12).toNat) z36) with kind := x11})).set ((x12).toNat) ({((x14.set ((x12).toNat) ({(x14.getD ((x12).toNat) z36) with kind := x11})).getD ((x12).toNat) z36) with n := (IntKind.i64.wrap (x11 + 1))})).length by have : ((x14.set ((x12).toNat) ({(x14.getD ((x12).toNat) z36) with kind := x11})).set ((x12).toNat) ({((x14.set ((x12).toNat) ({(x14.getD ((x12).toNat) z36) with kind := x11})).getD ((x12).toNat) z36) with n := (IntKind.i64.wrap (x11 + 1))})).length = x1.length := (List.length_set.trans (List.length_set.trans n15)); omega)
    refine lv (d := 28) rfl rfl (by kernel_rfl) (e_indexAddr (b := b47) (off := 0) (n := x1.length) (c := c3) (sz := 3) (i := x12) (k := .i64) Try.underlying32 e49 (by kernel_rfl) (by kernel_rfl) (by kernel_rfl) q26 q25) (lv (d := 29) rfl rfl (by kernel_rfl) (e_fieldAddr (b := b47) (off := 0 + (x12 : Int).toNat * 3) (o := 2) Try.underlying36 rfl rfl (sz := 1) (by kernel_rfl) (by decide) (by kernel_rfl)) ?_)
    obtain ⟨y55, F56, G57, r58, d59, s60, k61, t62⟩ := Row.lend h43 e49 (getD_some z36 (show (x12).toNat < ((x14.set ((x12).toNat) ({(x14.getD ((x12).toNat) z36) with kind := x11})).set ((x12).toNat) ({((x14.set ((x12).toNat) ({(x14.getD ((x12).toNat) z36) with kind := x11})).getD ((x12).toNat) z36) with n := (IntKind.i64.wrap (x11 + 1))})).length by have : ((x14.set ((x12).toNat) ({(x14.getD ((x12).toNat) z36) with kind := x11})).set ((x12).toNat) ({((x14.set ((x12).toNat) ({(x14.getD ((x12).toNat) z36) with kind := x11})).getD ((x12).toNat) z36) with n := (IntKind.i64.wrap (x11 + 1))})).length = x1.length := (List.length_set.trans (List.length_set.trans n15)); omega))
    obtain ⟨A63, c64, F67, rfl, h65, s66⟩ := st36_openO r58
    refine lv (d := 30) rfl rfl (by kernel_rfl) (e_load1 (ad := ⟨b47, 0 + (x12 : Int).toNat * 3 + 2, none⟩) (v := .slice A63 ((((x14.set ((x12).toNat) ({(x14.getD ((x12).toNat) z36) with kind := x11})).set ((x12).toNat) ({((x14.set ((x12).toNat) ({(x14.getD ((x12).toNat) z36) with kind := x11})).getD ((x12).toNat) z36) with n := (IntKind.i64.wrap (x11 + 1))})).getD ((x12).toNat) z36).text).length c64) Try.underlying26 rfl (by kernel_rfl) (hpx (k61 2 _ rfl))) (lv (d := 31) rfl rfl (by kernel_rfl) (e_move (v := .int .i64 (IntKind.i64.wrap ((IntKind.i64.wrap (x11 + 1)) + 1))) (by kernel_rfl)) ?_)
    have S68 := S45.part d59 s60
    have S69 := S68.sub s66
    have q70 : ∀ b_, G57 b_ → hp w42 b_ = hp w42 b_ := fun _ _ => rfl
    obtain ⟨t71, u72, M⟩ := bnd M
    refine lcall (d := 32) rfl rfl (by kernel_rfl) (e_call (l := [.tmp 30, .tmp 31]) (vs := [.slice A63 ((((x14.set ((x12).toNat) ({(x14.getD ((x12).toNat) z36) with kind := x11})).set ((x12).toNat) ({((x14.set ((x12).toNat) ({(x14.getD ((x12).toNat) z36) with kind := x11})).getD ((x12).toNat) z36) with n := (IntKind.i64.wrap (x11 + 1))})).getD ((x12).toNat) z36).text).length c64, .int .i64 (IntKind.i64.wrap ((IntKind.i64.wrap (x11 + 1)) + 1))]) Try.func52 (by kernel_rfl) rfl (by kernel_rfl) rfl) (laws_markByteS_2.calls k24 w42 H9 ((((x14.set ((x12).toNat) ({(x14.getD ((x12).toNat) z36) with kind := x11})).set ((x12).toNat) ({((x14.set ((x12).toNat) ({(x14.getD ((x12).toNat) z36) with kind := x11})).getD ((x12).toNat) z36) with n := (IntKind.i64.wrap (x11 + 1))})).getD ((x12).toNat) z36).text) A63 c64 F67 (IntKind.i64.wrap ((IntKind.i64.wrap (x11 + 1)) + 1)) h65 (St.own' (Fa := [F67]) (Fr := [G57]) S69) t71 u72) ?_
    rintro _ w73 ⟨F77, H74, rfl, n78, h76, T75⟩
    refine ⟨_, rfl, ?_⟩
    obtain ⟨S79, K80⟩ := St.call (Fa := [F67]) (Fr := [G57]) S69 T75
    replace q70 := fun b_ h_ => (K80.at 0 rfl b_ h_).trans (q70 b_ h_)
    have E81 := T75.ext
    have S82 := S79.pull (F := G57) (Fr := [F77]) 1 rfl rfl
    have S83 := S82.pull (F := F77) (Fr := [G57]) 1 rfl rfl
    have h84 := t62 H74 (hp w73) F77 ({(((x14.set ((x12).toNat) ({(x14.getD ((x12).toNat) z36) with kind := x11})).set ((x12).toNat) ({((x14.set ((x12).toNat) ({(x14.getD ((x12).toNat) z36) with kind := x11})).getD ((x12).toNat) z36) with n := (IntKind.i64.wrap (x11 + 1))})).getD ((x12).toNat) z36) with text := t71.2} : Cell) E81 q70 (by have q_ := st36_mkO (x := {(((x14.set ((x12).toNat) ({(x14.getD ((x12).toNat) z36) with kind := x11})).set ((x12).toNat) ({((x14.set ((x12).toNat) ({(x14.getD ((x12).toNat) z36) with kind := x11})).getD ((x12).toNat) z36) with n := (IntKind.i64.wrap (x11 + 1))})).getD ((x12).toNat) z36) with text := t71.2}) h76; rw [show t71.2.length = ((((x14.set ((x12).toNat) ({(x14.getD ((x12).toNat) z36) with kind := x11})).set ((x12).toNat) ({((x14.set ((x12).toNat) ({(x14.getD ((x12).toNat) z36) with kind := x11})).getD ((x12).toNat) z36) with n := (IntKind.i64.wrap (x11 + 1))})).getD ((x12).toNat) z36).text).length from n78] at q_; exact q_) S83.dj
    have S85 := S83.join
    refine lv (d := 1) rfl rfl (by kernel_rfl) (e_assign (v := .int .i64 t71.1) (by kernel_rfl)) (wpList_nil (inb_n (then_n (wp_region_lit (lv (d := 10) rfl rfl (by kernel_rfl) (e_move (v := .int .i64 x12) (by exact e18)) (lv (d := 11) rfl rfl (by kernel_rfl) (e_add (k := .i64) (a := x12) (b := 1) (by kernel_rfl) rfl) (lv (d := 5) rfl rfl (by kernel_rfl) (e_assign (v := .int .i64 (IntKind.i64.wrap (x12 + 1))) (by kernel_rfl)) ?_)))))))
    refine wpList_nil (then_n ?_)
    exact ⟨k24, (by omega), _, H74, t71.1, (IntKind.i64.wrap (x12 + 1)), (or2 F77 G57), (((x14.set ((x12).toNat) ({(x14.getD ((x12).toNat) z36) with kind := x11})).set ((x12).toNat) ({((x14.set ((x12).toNat) ({(x14.getD ((x12).toNat) z36) with kind := x11})).getD ((x12).toNat) z36) with n := (IntKind.i64.wrap (x11 + 1))})).set ((x12).toNat) ({(((x14.set ((x12).toNat) ({(x14.getD ((x12).toNat) z36) with kind := x11})).set ((x12).toNat) ({((x14.set ((x12).toNat) ({(x14.getD ((x12).toNat) z36) with kind := x11})).getD ((x12).toNat) z36) with n := (IntKind.i64.wrap (x11 + 1))})).getD ((x12).toNat) z36) with text := t71.2})), rfl, (by exact e16), (by kernel_rfl), (by kernel_rfl), h84, (List.length_set.trans (List.length_set.trans (List.length_set.trans n15))), (Y10.trans E81), S85, M⟩
  replace M := ifn q25 M
  refine cond_f rfl (bf q25 (by kernel_rfl)) (wp_exit (then_e (then_e (inb_hit (then_n (wp_seq (wp_region_lit ?_)))))))
  refine lv (d := 33) rfl rfl (by kernel_rfl) (e_move (v := .int .i64 x11) (by exact e17)) (lv (d := 4) rfl rfl (by kernel_rfl) (e_assign (v := .int .i64 x11) (by kernel_rfl)) (wpList_nil (then_n (wp_ret ?_))))
  obtain rfl := Option.some.inj M
  exact ret1 rfl rfl  (show _ = .int .i64 x11 from (by kernel_rfl)) ⟨F13, H9, rfl, n15, h4, S19⟩

/-! laws_markIntS -/
def laws_markIntS_2.l0 : Nat → (List Int) → Int → Int → (List Int) → Option (Int × (List Int))
  | 0, _, _, _, _ => none
  | k22 + 1, x1, x9, x10, x12 => (if x10 < (x1.length : Int) then (if 0 ≤ x10 then (laws_markIntS_2.l0 k22 x1 (IntKind.i64.wrap (x9 + 1)) (IntKind.i64.wrap (x10 + 1)) (x12.set ((x10).toNat) x9)) else none) else some (x9, x12))
def laws_markIntS_2.f (k : Nat) (x1 : List Int) (x6 : Int) : Option (Int × (List Int)) := (laws_markIntS_2.l0 k x1 x6 0 x1)
theorem laws_markIntS_2.calls (k : Nat) (w : World) (H : Hp) (x1 : List Int) (A2 : Option Addr) (c3 : Nat) (F5 : Foot) (x6 : Int) (h4 : Row tInt 3 H (hp w) F5 A2 c3 x1) (S : Own [F5] H w) (r : Int × (List Int)) (M : laws_markIntS_2.f k x1 x6 = some r) :
    Calls Try.prog 51 #[.slice A2 x1.length c3, .int .i64 x6] w (fun e e_w => ∃ (F_1 : Foot) (H_ : Hp), e = .returned (.int .i64 r.1) ∧ r.2.length = x1.length ∧ Row tInt 3 H_ (hp e_w) F_1 A2 c3 r.2 ∧ St (anyOf [F5]) H w [F_1] H_ e_w) := by
  rw [laws_markIntS_2.f] at M
  refine enter (l := [.slice A2 x1.length c3, .int .i64 x6]) 19 Try.func51 rfl rfl rfl ?_
  have S0_ := S.st
  refine wp_seq (wp_region_lit (lv (d := 4) rfl rfl (by kernel_rfl) (e_assign (v := .int .i64 0) rfl) (wpList_nil (then_n (wp_seq (wp_seq (wp_region_lit ?_)))))))
  refine lv (d := 5) rfl rfl (by kernel_rfl) (e_assign (v := .int .i64 0) rfl) (wpList_nil (then_n (wp_block ?_)))
  refine wp_loop_g (fun k20 a21 w7 => ∃ (f8 : Nat → Value) (x9 : Int) (x10 : Int) (F11 : Foot) (x12 : List Int), a21 = mk 19 f8 ∧ f8 0 = .slice A2 x1.length c3 ∧ f8 1 = .int .i64 x9 ∧ f8 5 = .int .i64 x10 ∧ Row tInt 3 H (hp w7) F11 A2 c3 x12 ∧ x12.length = x1.length ∧ St (anyOf [F5]) H w [F11] H w7 ∧ laws_markIntS_2.l0 k20 x1 x9 x10 x12 = some r) k ⟨_, x6, 0, F5, x1, rfl, (by kernel_rfl), (by kernel_rfl), (by kernel_rfl), h4, rfl, S0_, M⟩ ?_
  clear M
  rintro k20 a21 w7 ⟨f8, x9, x10, F11, x12, rfl, e14, e15, e16, h4, n13, S17, M⟩
  rcases k20 with _ | k22
  · rw [laws_markIntS_2.l0] at M
    cases M
  rw [laws_markIntS_2.l0] at M
  refine wp_seq (wp_seq (wp_region_lit (lv (d := 6) rfl rfl (by kernel_rfl) (e_move (v := .int .i64 x10) (by exact e16)) (lv (d := 7) rfl rfl (by kernel_rfl) (e_move (v := .slice A2 x1.length c3) (by exact e14)) (lv (d := 8) rfl rfl (by kernel_rfl) (e_len (A := A2) (n := x1.length) (c := c3) Try.underlying23 (by kernel_rfl)) (lv (d := 9) rfl rfl (by kernel_rfl) (e_lss (k := .i64) (a := x10) (b := (x1.length : Int)) (by kernel_rfl) (by kernel_rfl)) (wpList_nil ?_)))))))
  refine then_n ?_
  by_cases q23 : x10 < (x1.length : Int)
  · replace M := ifp q23 M
    refine cond_t rfl (bt q23 (by kernel_rfl)) (wp_skip (then_n (wp_seq (wp_block (wp_seq (wp_region_lit (lv (d := 12) rfl rfl (by kernel_rfl) (e_move (v := .slice A2 x1.length c3) (by exact e14)) ?_)))))))
    refine lv (d := 13) rfl rfl (by kernel_rfl) (e_move (v := .int .i64 x10) (by exact e16)) (lv (d := 14) rfl rfl (by kernel_rfl) (e_move (v := .int .i64 x9) (by exact e15)) ?_)
    obtain ⟨q24, M⟩ := chk M
    obtain ⟨b25, e27⟩ := Row.addr h4 (show (x10).toNat < x12.length by have : x12.length = x1.length := n13; omega)
    refine lv (d := 15) rfl rfl (by kernel_rfl) (e_indexAddr (b := b25) (off := 0) (n := x1.length) (c := c3) (sz := 1) (i := x10) (k := .i64) Try.underlying23 e27 (by kernel_rfl) (by kernel_rfl) (by kernel_rfl) q24 q23) ?_
    have S28 := S17.unit
    have S29 := S28.pull (F := F11) (Fr := [no]) 1 rfl rfl
    refine lse rfl rfl (by kernel_rfl) (e_setel (d := tInt) (b := b25) (i := (x10).toNat) (v := .int .i64 x9) (vs := [.int .i64 x9]) (yv := x9) S29 (by kernel_rfl) e27 (by kernel_rfl) rfl (by kernel_rfl) h4 (show (x10).toNat < x12.length by have : x12.length = x1.length := n13; omega) rfl) ?_
    rintro w30 ⟨F32, h31, S33, K34⟩
    clear h4
    refine wpList_nil (then_n (wp_region_lit (lv (d := 16) rfl rfl (by kernel_rfl) (e_move (v := .int .i64 x9) (by exact e15)) (lv (d := 17) rfl rfl (by kernel_rfl) (e_add (k := .i64) (a := x9) (b := 1) (by kernel_rfl) rfl) (lv (d := 1) rfl rfl (by kernel_rfl) (e_assign (v := .int .i64 (IntKind.i64.wrap (x9 + 1))) (by kernel_rfl)) (wpList_nil (inb_n ?_)))))))
    refine then_n (wp_region_lit (lv (d := 10) rfl rfl (by kernel_rfl) (e_move (v := .int .i64 x10) (by exact e16)) (lv (d := 11) rfl rfl (by kernel_rfl) (e_add (k := .i64) (a := x10) (b := 1) (by kernel_rfl) rfl) (lv (d := 5) rfl rfl (by kernel_rfl) (e_assign (v := .int .i64 (IntKind.i64.wrap (x10 + 1))) (by kernel_rfl)) (wpList_nil (then_n ?_))))))
    exact ⟨k22, (by omega), _, (IntKind.i64.wrap (x9 + 1)), (IntKind.i64.wrap (x10 + 1)), F32, (x12.set ((x10).toNat) x9), rfl, (by exact e14), (by kernel_rfl), (by kernel_rfl), h31, (List.length_set.trans n13), S33, M⟩
  replace M := ifn q23 M
  refine cond_f rfl (bf q23 (by kernel_rfl)) (wp_exit (then_e (then_e (inb_hit (then_n (wp_seq (wp_region_lit ?_)))))))
  refine lv (d := 18) rfl rfl (by kernel_rfl) (e_move (v := .int .i64 x9) (by exact e15)) (lv (d := 4) rfl rfl (by kernel_rfl) (e_assign (v := .int .i64 x9) (by kernel_rfl)) (wpList_nil (then_n (wp_ret ?_))))
  obtain rfl := Option.some.inj M
  exact ret1 rfl rfl  (show _ = .int .i64 x9 from (by kernel_rfl)) ⟨F11, H, rfl, n13, h4, S17⟩

/-! laws_markStore -/
def laws_markStore_2.f (k : Nat) (x1 : Store) (x10 : Int) : Option (Int × (List Cell) × (List Int)) := ((laws_markCellS_2.f k x1.cells x10).bind fun t17 => ((laws_markIntS_2.f k x1.trail t17.1).bind fun t29 => some (t29.1, t17.2, t29.2)))
theorem laws_markStore_2.calls (k : Nat) (w : World) (H : Hp) (x1 : Store) (A2 : Option Addr) (c3 : Nat) (F5 : Foot) (A6 : Option Addr) (c7 : Nat) (F9 : Foot) (x10 : Int) (h4 : Row st36 36 H (hp w) F5 A2 c3 x1.cells) (h8 : Row tInt 3 H (hp w) F9 A6 c7 x1.trail) (S : Own [F5, F9] H w) (r : Int × (List Cell) × (List Int)) (M : laws_markStore_2.f k x1 x10 = some r) :
    Calls Try.prog 19 #[.agg #[.slice A2 x1.cells.length c3, .slice A6 x1.trail.length c7], .int .i64 x10] w (fun e e_w => ∃ (F_1 : Foot) (F_2 : Foot) (H_ : Hp), e = .returned (.int .i64 r.1) ∧ r.2.1.length = x1.cells.length ∧ Row st36 36 H_ (hp e_w) F_1 A2 c3 r.2.1 ∧ r.2.2.length = x1.trail.length ∧ Row tInt 3 H_ (hp e_w) F_2 A6 c7 r.2.2 ∧ St (anyOf [F5, F9]) H w [F_1, F_2] H_ e_w) := by
  rw [laws_markStore_2.f] at M
  refine enter (l := [.agg #[.slice A2 x1.cells.length c3, .slice A6 x1.trail.length c7], .int .i64 x10]) 14 Try.func19 rfl rfl rfl ?_
  have S0_ := S.st
  refine wp_seq (wp_region_lit ?_)
  refine lve (d := 2) rfl rfl (by kernel_rfl) (new_blk (v := fun g_ => .pointer (some ⟨g_, 0, none⟩)) (cs := #[.slice A2 x1.cells.length c3, .slice A6 x1.trail.length c7]) (t := 34) S0_ (by kernel_rfl)) ?_
  rintro _ w11 ⟨g12, rfl, b13, S14, K15⟩
  replace h4 := h4.move (K15.at 0 rfl)
  replace h8 := h8.move (K15.at 1 rfl)
  refine lv (d := 4) rfl rfl (by kernel_rfl) (e_assign (v := .int .i64 0) rfl) (wpList_nil (then_n (wp_seq (wp_region_lit (lv (d := 5) rfl rfl (by kernel_rfl) (e_fieldAddr (b := g12) (off := 0) (o := 0) Try.underlying34 rfl rfl (sz := 1) (by kernel_rfl) (by decide) (by kernel_rfl)) (lv (d := 6) rfl rfl (by kernel_rfl) (e_load1 (ad := ⟨g12, 0 + 0, none⟩) (v := .slice A2 x1.cells.length c3) Try.underlying32 rfl (by kernel_rfl) (blk_cell b13 rfl)) (lv (d := 7) rfl rfl (by kernel_rfl) (e_move (v := .int .i64 x10) (by kernel_rfl)) ?_)))))))
  have S16 := S14.pull (F := F5) (Fr := [(is g12), F9]) 1 rfl rfl
  obtain ⟨t17, u18, M⟩ := bnd M
  refine lcall (d := 8) rfl rfl (by kernel_rfl) (e_call (l := [.tmp 6, .tmp 7]) (vs := [.slice A2 x1.cells.length c3, .int .i64 x10]) Try.func25 (by kernel_rfl) rfl (by kernel_rfl) rfl) (laws_markCellS_2.calls k w11 H x1.cells A2 c3 F5 x10 h4 (St.own' (Fa := [F5]) (Fr := [(is g12), F9]) S16) t17 u18) ?_
  rintro _ w19 ⟨F23, H20, rfl, n24, h22, T21⟩
  refine ⟨_, rfl, ?_⟩
  obtain ⟨S25, K26⟩ := St.call (Fa := [F5]) (Fr := [(is g12), F9]) S16 T21
  replace b13 := K26.blk 0 rfl b13
  replace h8 := h8.move (K26.at 1 rfl)
  have E27 := T21.ext
  replace h8 := h8.ext E27
  refine lv (d := 1) rfl rfl (by kernel_rfl) (e_assign (v := .int .i64 t17.1) (by kernel_rfl)) (wpList_nil (then_n (wp_seq (wp_region_lit (lv (d := 9) rfl rfl (by kernel_rfl) (e_fieldAddr (b := g12) (off := 0) (o := 1) Try.underlying34 rfl rfl (sz := 1) (by kernel_rfl) (by decide) (by kernel_rfl)) (lv (d := 10) rfl rfl (by kernel_rfl) (e_load1 (ad := ⟨g12, 0 + 1, none⟩) (v := .slice A6 x1.trail.length c7) Try.underlying23 rfl (by kernel_rfl) (blk_cell b13 rfl)) (lv (d := 11) rfl rfl (by kernel_rfl) (e_move (v := .int .i64 t17.1) (by kernel_rfl)) ?_)))))))
  have S28 := S25.pull (F := F9) (Fr := [F23, (is g12)]) 2 rfl rfl
  obtain ⟨t29, u30, M⟩ := bnd M
  refine lcall (d := 12) rfl rfl (by kernel_rfl) (e_call (l := [.tmp 10, .tmp 11]) (vs := [.slice A6 x1.trail.length c7, .int .i64 t17.1]) Try.func51 (by kernel_rfl) rfl (by kernel_rfl) rfl) (laws_markIntS_2.calls k w19 H20 x1.trail A6 c7 F9 t17.1 h8 (St.own' (Fa := [F9]) (Fr := [F23, (is g12)]) S28) t29 u30) ?_
  rintro _ w31 ⟨F35, H32, rfl, n36, h34, T33⟩
  refine ⟨_, rfl, ?_⟩
  obtain ⟨S37, K38⟩ := St.call (Fa := [F9]) (Fr := [F23, (is g12)]) S28 T33
  replace h22 := h22.move (K38.at 0 rfl)
  have E39 := T33.ext
  replace h22 := h22.ext E39
  refine lv (d := 1) rfl rfl (by kernel_rfl) (e_assign (v := .int .i64 t29.1) (by kernel_rfl)) (wpList_nil (then_n (wp_seq (wp_region_lit (lv (d := 13) rfl rfl (by kernel_rfl) (e_move (v := .int .i64 t29.1) (by kernel_rfl)) (lv (d := 4) rfl rfl (by kernel_rfl) (e_assign (v := .int .i64 t29.1) (by kernel_rfl)) (wpList_nil ?_)))))))
  refine then_n (wp_ret ?_)
  obtain rfl := Option.some.inj M
  have S40 := S37.pull (F := F23) (Fr := [F35, (is g12)]) 1 rfl rfl
  have S41 := St.first (Fa := [F23, F35]) (Fr := [(is g12)]) S40
  exact ret1 rfl rfl  (show _ = .int .i64 t29.1 from (by kernel_rfl)) ⟨F23, F35, H32, rfl, n24, h22, n36, h34, S41⟩

/-! laws_markCell -/
def laws_markCell_2.f (k : Nat) (x1 : Cell) (x6 : Int) : Option (Int × (List UInt8)) := ((laws_markByteS_2.f k x1.text x6).bind fun t13 => some (t13.1, t13.2))
theorem laws_markCell_2.calls (k : Nat) (w : World) (H : Hp) (x1 : Cell) (A2 : Option Addr) (c3 : Nat) (F5 : Foot) (x6 : Int) (h4 : Row tByte 5 H (hp w) F5 A2 c3 x1.text) (S : Own [F5] H w) (r : Int × (List UInt8)) (M : laws_markCell_2.f k x1 x6 = some r) :
    Calls Try.prog 20 #[.agg #[.int .i64 x1.kind, .int .i64 x1.n, .slice A2 x1.text.length c3], .int .i64 x6] w (fun e e_w => ∃ (F_1 : Foot) (H_ : Hp), e = .returned (.int .i64 r.1) ∧ r.2.length = x1.text.length ∧ Row tByte 5 H_ (hp e_w) F_1 A2 c3 r.2 ∧ St (anyOf [F5]) H w [F_1] H_ e_w) := by
  rw [laws_markCell_2.f] at M
  refine enter (l := [.agg #[.int .i64 x1.kind, .int .i64 x1.n, .slice A2 x1.text.length c3], .int .i64 x6]) 10 Try.func20 rfl rfl rfl ?_
  have S0_ := S.st
  refine wp_seq (wp_region_lit ?_)
  refine lve (d := 2) rfl rfl (by kernel_rfl) (new_blk (v := fun g_ => .pointer (some ⟨g_, 0, none⟩)) (cs := #[.int .i64 x1.kind, .int .i64 x1.n, .slice A2 x1.text.length c3]) (t := 36) S0_ (by kernel_rfl)) ?_
  rintro _ w7 ⟨g8, rfl, b9, S10, K11⟩
  replace h4 := h4.move (K11.at 0 rfl)
  refine lv (d := 4) rfl rfl (by kernel_rfl) (e_assign (v := .int .i64 0) rfl) (wpList_nil (then_n (wp_seq (wp_region_lit (lv (d := 5) rfl rfl (by kernel_rfl) (e_fieldAddr (b := g8) (off := 0) (o := 2) Try.underlying36 rfl rfl (sz := 1) (by kernel_rfl) (by decide) (by kernel_rfl)) (lv (d := 6) rfl rfl (by kernel_rfl) (e_load1 (ad := ⟨g8, 0 + 2, none⟩) (v := .slice A2 x1.text.length c3) Try.underlying26 rfl (by kernel_rfl) (blk_cell b9 rfl)) (lv (d := 7) rfl rfl (by kernel_rfl) (e_move (v := .int .i64 x6) (by kernel_rfl)) ?_)))))))
  have S12 := S10.pull (F := F5) (Fr := [(is g8)]) 1 rfl rfl
  obtain ⟨t13, u14, M⟩ := bnd M
  refine lcall (d := 8) rfl rfl (by kernel_rfl) (e_call (l := [.tmp 6, .tmp 7]) (vs := [.slice A2 x1.text.length c3, .int .i64 x6]) Try.func52 (by kernel_rfl) rfl (by kernel_rfl) rfl) (laws_markByteS_2.calls k w7 H x1.text A2 c3 F5 x6 h4 (St.own' (Fa := [F5]) (Fr := [(is g8)]) S12) t13 u14) ?_
  rintro _ w15 ⟨F19, H16, rfl, n20, h18, T17⟩
  refine ⟨_, rfl, ?_⟩
  obtain ⟨S21, K22⟩ := St.call (Fa := [F5]) (Fr := [(is g8)]) S12 T17
  have E23 := T17.ext
  refine lv (d := 1) rfl rfl (by kernel_rfl) (e_assign (v := .int .i64 t13.1) (by kernel_rfl)) (wpList_nil (then_n (wp_seq (wp_region_lit (lv (d := 9) rfl rfl (by kernel_rfl) (e_move (v := .int .i64 t13.1) (by kernel_rfl)) (lv (d := 4) rfl rfl (by kernel_rfl) (e_assign (v := .int .i64 t13.1) (by kernel_rfl)) (wpList_nil ?_)))))))
  refine then_n (wp_ret ?_)
  obtain rfl := Option.some.inj M
  have S24 := St.first (Fa := [F19]) (Fr := [(is g8)]) S21
  exact ret1 rfl rfl  (show _ = .int .i64 t13.1 from (by kernel_rfl)) ⟨F19, H16, rfl, n20, h18, S24⟩

/-! laws_heldByteS -/
def laws_heldByteS.l0 : Nat → (List UInt8) → Int → Int → Option Int
  | 0, _, _, _ => none
  | k19 + 1, x1, x9, x10 => (if x10 < (x1.length : Int) then (if 0 ≤ x10 then (if ((x1.getD ((x10).toNat) (0 : UInt8)).toNat : Int) ≠ ((b8 (x9)).toNat : Int) then some (-1) else (laws_heldByteS.l0 k19 x1 (IntKind.i64.wrap (x9 + 1)) (IntKind.i64.wrap (x10 + 1)))) else none) else some x9)
def laws_heldByteS.f (k : Nat) (x1 : List UInt8) (x6 : Int) : Option Int := (laws_heldByteS.l0 k x1 x6 0)
theorem laws_heldByteS.calls (k : Nat) (w : World) (H : Hp) (x1 : List UInt8) (A2 : Option Addr) (c3 : Nat) (x6 : Int) (h4 : Rd tByte H A2 x1) (l5 : x1.length ≤ c3) (S : Own [] H w) (r : Int) (M : laws_heldByteS.f k x1 x6 = some r) :
    Calls Try.prog 53 #[.slice A2 x1.length c3, .int .i64 x6] w (fun e e_w => e = .returned (.int .i64 r) ∧ Chg no w e_w) := by
  rw [laws_heldByteS.f] at M
  refine enter (l := [.slice A2 x1.length c3, .int .i64 x6]) 22 Try.func53 rfl rfl rfl ?_
  have S0_ := S.st
  refine wp_seq (wp_region_lit (lv (d := 4) rfl rfl (by kernel_rfl) (e_assign (v := .int .i64 0) rfl) (wpList_nil (then_n (wp_seq (wp_seq (wp_region_lit ?_)))))))
  refine lv (d := 5) rfl rfl (by kernel_rfl) (e_assign (v := .int .i64 0) rfl) (wpList_nil (then_n (wp_block ?_)))
  refine wp_loop_g (fun k17 a18 w7 => ∃ (f8 : Nat → Value) (x9 : Int) (x10 : Int), a18 = mk 22 f8 ∧ f8 0 = .slice A2 x1.length c3 ∧ f8 1 = .int .i64 x9 ∧ f8 5 = .int .i64 x10 ∧ St (anyOf []) H w [] H w7 ∧ laws_heldByteS.l0 k17 x1 x9 x10 = some r) k ⟨_, x6, 0, rfl, (by kernel_rfl), (by kernel_rfl), (by kernel_rfl), S0_, M⟩ ?_
  clear M
  rintro k17 a18 w7 ⟨f8, x9, x10, rfl, e11, e12, e13, S14, M⟩
  rcases k17 with _ | k19
  · rw [laws_heldByteS.l0] at M
    cases M
  rw [laws_heldByteS.l0] at M
  refine wp_seq (wp_seq (wp_region_lit (lv (d := 6) rfl rfl (by kernel_rfl) (e_move (v := .int .i64 x10) (by exact e13)) (lv (d := 7) rfl rfl (by kernel_rfl) (e_move (v := .slice A2 x1.length c3) (by exact e11)) (lv (d := 8) rfl rfl (by kernel_rfl) (e_len (A := A2) (n := x1.length) (c := c3) Try.underlying26 (by kernel_rfl)) (lv (d := 9) rfl rfl (by kernel_rfl) (e_lss (k := .i64) (a := x10) (b := (x1.length : Int)) (by kernel_rfl) (by kernel_rfl)) (wpList_nil ?_)))))))
  refine then_n ?_
  by_cases q20 : x10 < (x1.length : Int)
  · replace M := ifp q20 M
    refine cond_t rfl (bt q20 (by kernel_rfl)) (wp_skip (then_n (wp_seq (wp_block (wp_seq (wp_seq (wp_region_lit ?_)))))))
    refine lv (d := 12) rfl rfl (by kernel_rfl) (e_move (v := .slice A2 x1.length c3) (by exact e11)) (lv (d := 13) rfl rfl (by kernel_rfl) (e_move (v := .int .i64 x10) (by exact e13)) ?_)
    obtain ⟨q21, M⟩ := chk M
    obtain ⟨b22, o23, e24⟩ := Rd.addr h4 (show (x10).toNat < x1.length by omega)
    obtain ⟨y25, r26, k27⟩ := Rd.at h4 e24 (getD_some (0 : UInt8) (show (x10).toNat < x1.length by omega))
    obtain rfl := r26
    refine lv (d := 14) rfl rfl (by kernel_rfl) (e_indexAddr (b := b22) (off := o23) (n := x1.length) (c := c3) (sz := 1) (i := x10) (k := .i64) Try.underlying26 e24 (by kernel_rfl) (by kernel_rfl) (by kernel_rfl) q21 q20) (lv (d := 15) rfl rfl (by kernel_rfl) (e_load1 (ad := ⟨b22, o23 + (x10 : Int).toNat * 1, none⟩) (v := .int .u8 ((x1.getD ((x10).toNat) (0 : UInt8)).toNat : Int)) Try.underlying5 rfl (by kernel_rfl) (hpx (S14.inv.cell (k27 0 _ rfl)))) (lv (d := 16) rfl rfl (by kernel_rfl) (e_move (v := .int .i64 x9) (by exact e12)) (lv (d := 17) rfl rfl (by kernel_rfl) (e_conv_i8 (k := .i64) (a := x9) (by kernel_rfl) Try.underlying5 (by kernel_rfl)) (lv (d := 18) rfl rfl (by kernel_rfl) (e_neq (k := .u8) (a := ((x1.getD ((x10).toNat) (0 : UInt8)).toNat : Int)) (b := ((b8 (x9)).toNat : Int)) (by kernel_rfl) (by kernel_rfl)) (wpList_nil (then_n ?_))))))
    by_cases q28 : ((x1.getD ((x10).toNat) (0 : UInt8)).toNat : Int) ≠ ((b8 (x9)).toNat : Int)
    · replace M := ifp q28 M
      refine cond_t rfl (bt q28 (by kernel_rfl)) (wp_seq (wp_region_lit (lv (d := 4) rfl rfl (by kernel_rfl) (e_assign (v := .int .i64 (-1)) rfl) (wpList_nil (then_n (wp_ret (then_r ?_)))))))
      refine inb_r (then_r (then_r (inb_r (then_r ?_))))
      obtain rfl := Option.some.inj M
      exact ret1 rfl rfl  (show _ = .int .i64 (-1) from (by kernel_rfl)) ⟨rfl, S14.chg⟩
    replace M := ifn q28 M
    refine cond_f rfl (bf q28 (by kernel_rfl)) (wp_skip (then_n (wp_region_lit (lv (d := 19) rfl rfl (by kernel_rfl) (e_move (v := .int .i64 x9) (by exact e12)) (lv (d := 20) rfl rfl (by kernel_rfl) (e_add (k := .i64) (a := x9) (b := 1) (by kernel_rfl) rfl) (lv (d := 1) rfl rfl (by kernel_rfl) (e_assign (v := .int .i64 (IntKind.i64.wrap (x9 + 1))) (by kernel_rfl)) (wpList_nil ?_)))))))
    refine inb_n (then_n (wp_region_lit (lv (d := 10) rfl rfl (by kernel_rfl) (e_move (v := .int .i64 x10) (by exact e13)) (lv (d := 11) rfl rfl (by kernel_rfl) (e_add (k := .i64) (a := x10) (b := 1) (by kernel_rfl) rfl) (lv (d := 5) rfl rfl (by kernel_rfl) (e_assign (v := .int .i64 (IntKind.i64.wrap (x10 + 1))) (by kernel_rfl)) (wpList_nil (then_n ?_)))))))
    exact ⟨k19, (by omega), _, (IntKind.i64.wrap (x9 + 1)), (IntKind.i64.wrap (x10 + 1)), rfl, (by exact e11), (by kernel_rfl), (by kernel_rfl), S14, M⟩
  replace M := ifn q20 M
  refine cond_f rfl (bf q20 (by kernel_rfl)) (wp_exit (then_e (then_e (inb_hit (then_n (wp_seq (wp_region_lit ?_)))))))
  refine lv (d := 21) rfl rfl (by kernel_rfl) (e_move (v := .int .i64 x9) (by exact e12)) (lv (d := 4) rfl rfl (by kernel_rfl) (e_assign (v := .int .i64 x9) (by kernel_rfl)) (wpList_nil (then_n (wp_ret ?_))))
  obtain rfl := Option.some.inj M
  exact ret1 rfl rfl  (show _ = .int .i64 x9 from (by kernel_rfl)) ⟨rfl, S14.chg⟩

/-! laws_heldCellS -/
def laws_heldCellS.l0 : Nat → (List Cell) → Int → Int → Option Int
  | 0, _, _, _ => none
  | k19 + 1, x1, x9, x10 => (if x10 < (x1.length : Int) then (if 0 ≤ x10 then (if ((x1.getD ((x10).toNat) z36).kind) ≠ x9 then some (-1) else (if ((x1.getD ((x10).toNat) z36).n) ≠ (IntKind.i64.wrap (x9 + 1)) then some (-1) else ((laws_heldByteS.f k19 ((x1.getD ((x10).toNat) z36).text) (IntKind.i64.wrap ((IntKind.i64.wrap (x9 + 1)) + 1))).bind fun t54 => (if t54 < 0 then some (-1) else (laws_heldCellS.l0 k19 x1 t54 (IntKind.i64.wrap (x10 + 1))))))) else none) else some x9)
def laws_heldCellS.f (k : Nat) (x1 : List Cell) (x6 : Int) : Option Int := (laws_heldCellS.l0 k x1 x6 0)
theorem laws_heldCellS.calls (k : Nat) (w : World) (H : Hp) (x1 : List Cell) (A2 : Option Addr) (c3 : Nat) (x6 : Int) (h4 : Rd st36 H A2 x1) (l5 : x1.length ≤ c3) (S : Own [] H w) (r : Int) (M : laws_heldCellS.f k x1 x6 = some r) :
    Calls Try.prog 26 #[.slice A2 x1.length c3, .int .i64 x6] w (fun e e_w => e = .returned (.int .i64 r) ∧ Chg no w e_w) := by
  rw [laws_heldCellS.f] at M
  refine enter (l := [.slice A2 x1.length c3, .int .i64 x6]) 40 Try.func26 rfl rfl rfl ?_
  have S0_ := S.st
  refine wp_seq (wp_region_lit (lv (d := 4) rfl rfl (by kernel_rfl) (e_assign (v := .int .i64 0) rfl) (wpList_nil (then_n (wp_seq (wp_seq (wp_region_lit ?_)))))))
  refine lv (d := 5) rfl rfl (by kernel_rfl) (e_assign (v := .int .i64 0) rfl) (wpList_nil (then_n (wp_block ?_)))
  refine wp_loop_g (fun k17 a18 w7 => ∃ (f8 : Nat → Value) (x9 : Int) (x10 : Int), a18 = mk 40 f8 ∧ f8 0 = .slice A2 x1.length c3 ∧ f8 1 = .int .i64 x9 ∧ f8 5 = .int .i64 x10 ∧ St (anyOf []) H w [] H w7 ∧ laws_heldCellS.l0 k17 x1 x9 x10 = some r) k ⟨_, x6, 0, rfl, (by kernel_rfl), (by kernel_rfl), (by kernel_rfl), S0_, M⟩ ?_
  clear M
  rintro k17 a18 w7 ⟨f8, x9, x10, rfl, e11, e12, e13, S14, M⟩
  rcases k17 with _ | k19
  · rw [laws_heldCellS.l0] at M
    cases M
  rw [laws_heldCellS.l0] at M
  refine wp_seq (wp_seq (wp_region_lit (lv (d := 6) rfl rfl (by kernel_rfl) (e_move (v := .int .i64 x10) (by exact e13)) (lv (d := 7) rfl rfl (by kernel_rfl) (e_move (v := .slice A2 x1.length c3) (by exact e11)) (lv (d := 8) rfl rfl (by kernel_rfl) (e_len (A := A2) (n := x1.length) (c := c3) Try.underlying32 (by kernel_rfl)) (lv (d := 9) rfl rfl (by kernel_rfl) (e_lss (k := .i64) (a := x10) (b := (x1.length : Int)) (by kernel_rfl) (by kernel_rfl)) (wpList_nil ?_)))))))
  refine then_n ?_
  by_cases q20 : x10 < (x1.length : Int)
  · replace M := ifp q20 M
    refine cond_t rfl (bt q20 (by kernel_rfl)) (wp_skip (then_n (wp_seq (wp_block (wp_seq (wp_seq (wp_region_lit ?_)))))))
    refine lv (d := 12) rfl rfl (by kernel_rfl) (e_move (v := .slice A2 x1.length c3) (by exact e11)) (lv (d := 13) rfl rfl (by kernel_rfl) (e_move (v := .int .i64 x10) (by exact e13)) ?_)
    obtain ⟨q21, M⟩ := chk M
    obtain ⟨b22, o23, e24⟩ := Rd.addr h4 (show (x10).toNat < x1.length by omega)
    obtain ⟨y25, r26, k27⟩ := Rd.at h4 e24 (getD_some z36 (show (x10).toNat < x1.length by omega))
    obtain ⟨A28, c29, rfl, l30, h31⟩ := st36_open r26
    refine lv (d := 14) rfl rfl (by kernel_rfl) (e_indexAddr (b := b22) (off := o23) (n := x1.length) (c := c3) (sz := 3) (i := x10) (k := .i64) Try.underlying32 e24 (by kernel_rfl) (by kernel_rfl) (by kernel_rfl) q21 q20) (lv (d := 15) rfl rfl (by kernel_rfl) (e_fieldAddr (b := b22) (off := o23 + (x10 : Int).toNat * 3) (o := 0) Try.underlying36 rfl rfl (sz := 1) (by kernel_rfl) (by decide) (by kernel_rfl)) (lv (d := 16) rfl rfl (by kernel_rfl) (e_load1 (ad := ⟨b22, o23 + (x10 : Int).toNat * 3 + 0, none⟩) (v := .int .i64 ((x1.getD ((x10).toNat) z36).kind)) Try.underlying3 rfl (by kernel_rfl) (hpx (S14.inv.cell (k27 0 _ rfl)))) (lv (d := 17) rfl rfl (by kernel_rfl) (e_move (v := .int .i64 x9) (by exact e12)) (lv (d := 18) rfl rfl (by kernel_rfl) (e_neq (k := .i64) (a := (x1.getD ((x10).toNat) z36).kind) (b := x9) (by kernel_rfl) (by kernel_rfl)) (wpList_nil (then_n ?_))))))
    by_cases q32 : ((x1.getD ((x10).toNat) z36).kind) ≠ x9
    · replace M := ifp q32 M
      refine cond_t rfl (bt q32 (by kernel_rfl)) (wp_seq (wp_region_lit (lv (d := 4) rfl rfl (by kernel_rfl) (e_assign (v := .int .i64 (-1)) rfl) (wpList_nil (then_n (wp_ret (then_r ?_)))))))
      refine inb_r (then_r (then_r (inb_r (then_r ?_))))
      obtain rfl := Option.some.inj M
      exact ret1 rfl rfl  (show _ = .int .i64 (-1) from (by kernel_rfl)) ⟨rfl, S14.chg⟩
    replace M := ifn q32 M
    refine cond_f rfl (bf q32 (by kernel_rfl)) (wp_skip (then_n (wp_seq (wp_region_lit (lv (d := 19) rfl rfl (by kernel_rfl) (e_move (v := .int .i64 x9) (by exact e12)) (lv (d := 20) rfl rfl (by kernel_rfl) (e_add (k := .i64) (a := x9) (b := 1) (by kernel_rfl) rfl) (lv (d := 1) rfl rfl (by kernel_rfl) (e_assign (v := .int .i64 (IntKind.i64.wrap (x9 + 1))) (by kernel_rfl)) ?_)))))))
    refine wpList_nil (then_n (wp_seq (wp_seq (wp_region_lit (lv (d := 21) rfl rfl (by kernel_rfl) (e_move (v := .slice A2 x1.length c3) (by exact e11)) (lv (d := 22) rfl rfl (by kernel_rfl) (e_move (v := .int .i64 x10) (by exact e13)) ?_))))))
    obtain ⟨b33, o34, e35⟩ := Rd.addr h4 (show (x10).toNat < x1.length by omega)
    obtain ⟨y36, r37, k38⟩ := Rd.at h4 e35 (getD_some z36 (show (x10).toNat < x1.length by omega))
    obtain ⟨A39, c40, rfl, l41, h42⟩ := st36_open r37
    refine lv (d := 23) rfl rfl (by kernel_rfl) (e_indexAddr (b := b33) (off := o34) (n := x1.length) (c := c3) (sz := 3) (i := x10) (k := .i64) Try.underlying32 e35 (by kernel_rfl) (by kernel_rfl) (by kernel_rfl) q21 q20) (lv (d := 24) rfl rfl (by kernel_rfl) (e_fieldAddr (b := b33) (off := o34 + (x10 : Int).toNat * 3) (o := 1) Try.underlying36 rfl rfl (sz := 1) (by kernel_rfl) (by decide) (by kernel_rfl)) (lv (d := 25) rfl rfl (by kernel_rfl) (e_load1 (ad := ⟨b33, o34 + (x10 : Int).toNat * 3 + 1, none⟩) (v := .int .i64 ((x1.getD ((x10).toNat) z36).n)) Try.underlying3 rfl (by kernel_rfl) (hpx (S14.inv.cell (k38 1 _ rfl)))) (lv (d := 26) rfl rfl (by kernel_rfl) (e_move (v := .int .i64 (IntKind.i64.wrap (x9 + 1))) (by kernel_rfl)) (lv (d := 27) rfl rfl (by kernel_rfl) (e_neq (k := .i64) (a := (x1.getD ((x10).toNat) z36).n) (b := (IntKind.i64.wrap (x9 + 1))) (by kernel_rfl) (by kernel_rfl)) (wpList_nil (then_n ?_))))))
    by_cases q43 : ((x1.getD ((x10).toNat) z36).n) ≠ (IntKind.i64.wrap (x9 + 1))
    · replace M := ifp q43 M
      refine cond_t rfl (bt q43 (by kernel_rfl)) (wp_seq (wp_region_lit (lv (d := 4) rfl rfl (by kernel_rfl) (e_assign (v := .int .i64 (-1)) rfl) (wpList_nil (then_n (wp_ret (then_r ?_)))))))
      refine inb_r (then_r (then_r (inb_r (then_r ?_))))
      obtain rfl := Option.some.inj M
      exact ret1 rfl rfl  (show _ = .int .i64 (-1) from (by kernel_rfl)) ⟨rfl, S14.chg⟩
    replace M := ifn q43 M
    refine cond_f rfl (bf q43 (by kernel_rfl)) (wp_skip (then_n (wp_seq (wp_region_lit (lv (d := 28) rfl rfl (by kernel_rfl) (e_move (v := .int .i64 (IntKind.i64.wrap (x9 + 1))) (by kernel_rfl)) (lv (d := 29) rfl rfl (by kernel_rfl) (e_add (k := .i64) (a := (IntKind.i64.wrap (x9 + 1))) (b := 1) (by kernel_rfl) rfl) (lv (d := 1) rfl rfl (by kernel_rfl) (e_assign (v := .int .i64 (IntKind.i64.wrap ((IntKind.i64.wrap (x9 + 1)) + 1))) (by kernel_rfl)) ?_)))))))
    refine wpList_nil (then_n (wp_seq (wp_region_lit (lv (d := 30) rfl rfl (by kernel_rfl) (e_move (v := .slice A2 x1.length c3) (by exact e11)) (lv (d := 31) rfl rfl (by kernel_rfl) (e_move (v := .int .i64 x10) (by exact e13)) ?_)))))
    obtain ⟨b44, o45, e46⟩ := Rd.addr h4 (show (x10).toNat < x1.length by omega)
    obtain ⟨y47, r48, k49⟩ := Rd.at h4 e46 (getD_some z36 (show (x10).toNat < x1.length by omega))
    obtain ⟨A50, c51, rfl, l52, h53⟩ := st36_open r48
    refine lv (d := 32) rfl rfl (by kernel_rfl) (e_indexAddr (b := b44) (off := o45) (n := x1.length) (c := c3) (sz := 3) (i := x10) (k := .i64) Try.underlying32 e46 (by kernel_rfl) (by kernel_rfl) (by kernel_rfl) q21 q20) (lv (d := 33) rfl rfl (by kernel_rfl) (e_fieldAddr (b := b44) (off := o45 + (x10 : Int).toNat * 3) (o := 2) Try.underlying36 rfl rfl (sz := 1) (by kernel_rfl) (by decide) (by kernel_rfl)) (lv (d := 34) rfl rfl (by kernel_rfl) (e_load1 (ad := ⟨b44, o45 + (x10 : Int).toNat * 3 + 2, none⟩) (v := .slice A50 ((x1.getD ((x10).toNat) z36).text).length c51) Try.underlying26 rfl (by kernel_rfl) (hpx (S14.inv.cell (k49 2 _ rfl)))) (lv (d := 35) rfl rfl (by kernel_rfl) (e_move (v := .int .i64 (IntKind.i64.wrap ((IntKind.i64.wrap (x9 + 1)) + 1))) (by kernel_rfl)) ?_)))
    obtain ⟨t54, u55, M⟩ := bnd M
    refine lcall (d := 36) rfl rfl (by kernel_rfl) (e_call (l := [.tmp 34, .tmp 35]) (vs := [.slice A50 ((x1.getD ((x10).toNat) z36).text).length c51, .int .i64 (IntKind.i64.wrap ((IntKind.i64.wrap (x9 + 1)) + 1))]) Try.func53 (by kernel_rfl) rfl (by kernel_rfl) rfl) (laws_heldByteS.calls k19 w7 H ((x1.getD ((x10).toNat) z36).text) A50 c51 (IntKind.i64.wrap ((IntKind.i64.wrap (x9 + 1)) + 1)) h53 l52 S14.own0 t54 u55) ?_
    rintro _ w56 ⟨rfl, C57⟩
    refine ⟨_, rfl, ?_⟩
    obtain ⟨S58, K59⟩ := S14.still C57
    refine lv (d := 1) rfl rfl (by kernel_rfl) (e_assign (v := .int .i64 t54) (by kernel_rfl)) (wpList_nil (then_n (wp_seq (wp_region_lit (lv (d := 37) rfl rfl (by kernel_rfl) (e_move (v := .int .i64 t54) (by kernel_rfl)) (lv (d := 38) rfl rfl (by kernel_rfl) (e_lss (k := .i64) (a := t54) (b := 0) (by kernel_rfl) rfl) (wpList_nil ?_)))))))
    refine then_n ?_
    by_cases q60 : t54 < 0
    · replace M := ifp q60 M
      refine cond_t rfl (bt q60 (by kernel_rfl)) (wp_seq (wp_region_lit (lv (d := 4) rfl rfl (by kernel_rfl) (e_assign (v := .int .i64 (-1)) rfl) (wpList_nil (then_n (wp_ret (inb_r ?_)))))))
      refine then_r (then_r (inb_r (then_r ?_)))
      obtain rfl := Option.some.inj M
      exact ret1 rfl rfl  (show _ = .int .i64 (-1) from (by kernel_rfl)) ⟨rfl, S58.chg⟩
    replace M := ifn q60 M
    refine cond_f rfl (bf q60 (by kernel_rfl)) (wp_skip (inb_n (then_n (wp_region_lit (lv (d := 10) rfl rfl (by kernel_rfl) (e_move (v := .int .i64 x10) (by exact e13)) (lv (d := 11) rfl rfl (by kernel_rfl) (e_add (k := .i64) (a := x10) (b := 1) (by kernel_rfl) rfl) (lv (d := 5) rfl rfl (by kernel_rfl) (e_assign (v := .int .i64 (IntKind.i64.wrap (x10 + 1))) (by kernel_rfl)) ?_)))))))
    refine wpList_nil (then_n ?_)
    exact ⟨k19, (by omega), _, t54, (IntKind.i64.wrap (x10 + 1)), rfl, (by exact e11), (by kernel_rfl), (by kernel_rfl), S58, M⟩
  replace M := ifn q20 M
  refine cond_f rfl (bf q20 (by kernel_rfl)) (wp_exit (then_e (then_e (inb_hit (then_n (wp_seq (wp_region_lit ?_)))))))
  refine lv (d := 39) rfl rfl (by kernel_rfl) (e_move (v := .int .i64 x9) (by exact e12)) (lv (d := 4) rfl rfl (by kernel_rfl) (e_assign (v := .int .i64 x9) (by kernel_rfl)) (wpList_nil (then_n (wp_ret ?_))))
  obtain rfl := Option.some.inj M
  exact ret1 rfl rfl  (show _ = .int .i64 x9 from (by kernel_rfl)) ⟨rfl, S14.chg⟩

/-! laws_heldIntS -/
def laws_heldIntS.l0 : Nat → (List Int) → Int → Int → Option Int
  | 0, _, _, _ => none
  | k19 + 1, x1, x9, x10 => (if x10 < (x1.length : Int) then (if 0 ≤ x10 then (if (x1.getD ((x10).toNat) (0 : Int)) ≠ x9 then some (-1) else (laws_heldIntS.l0 k19 x1 (IntKind.i64.wrap (x9 + 1)) (IntKind.i64.wrap (x10 + 1)))) else none) else some x9)
def laws_heldIntS.f (k : Nat) (x1 : List Int) (x6 : Int) : Option Int := (laws_heldIntS.l0 k x1 x6 0)
theorem laws_heldIntS.calls (k : Nat) (w : World) (H : Hp) (x1 : List Int) (A2 : Option Addr) (c3 : Nat) (x6 : Int) (h4 : Rd tInt H A2 x1) (l5 : x1.length ≤ c3) (S : Own [] H w) (r : Int) (M : laws_heldIntS.f k x1 x6 = some r) :
    Calls Try.prog 60 #[.slice A2 x1.length c3, .int .i64 x6] w (fun e e_w => e = .returned (.int .i64 r) ∧ Chg no w e_w) := by
  rw [laws_heldIntS.f] at M
  refine enter (l := [.slice A2 x1.length c3, .int .i64 x6]) 21 Try.func60 rfl rfl rfl ?_
  have S0_ := S.st
  refine wp_seq (wp_region_lit (lv (d := 4) rfl rfl (by kernel_rfl) (e_assign (v := .int .i64 0) rfl) (wpList_nil (then_n (wp_seq (wp_seq (wp_region_lit ?_)))))))
  refine lv (d := 5) rfl rfl (by kernel_rfl) (e_assign (v := .int .i64 0) rfl) (wpList_nil (then_n (wp_block ?_)))
  refine wp_loop_g (fun k17 a18 w7 => ∃ (f8 : Nat → Value) (x9 : Int) (x10 : Int), a18 = mk 21 f8 ∧ f8 0 = .slice A2 x1.length c3 ∧ f8 1 = .int .i64 x9 ∧ f8 5 = .int .i64 x10 ∧ St (anyOf []) H w [] H w7 ∧ laws_heldIntS.l0 k17 x1 x9 x10 = some r) k ⟨_, x6, 0, rfl, (by kernel_rfl), (by kernel_rfl), (by kernel_rfl), S0_, M⟩ ?_
  clear M
  rintro k17 a18 w7 ⟨f8, x9, x10, rfl, e11, e12, e13, S14, M⟩
  rcases k17 with _ | k19
  · rw [laws_heldIntS.l0] at M
    cases M
  rw [laws_heldIntS.l0] at M
  refine wp_seq (wp_seq (wp_region_lit (lv (d := 6) rfl rfl (by kernel_rfl) (e_move (v := .int .i64 x10) (by exact e13)) (lv (d := 7) rfl rfl (by kernel_rfl) (e_move (v := .slice A2 x1.length c3) (by exact e11)) (lv (d := 8) rfl rfl (by kernel_rfl) (e_len (A := A2) (n := x1.length) (c := c3) Try.underlying23 (by kernel_rfl)) (lv (d := 9) rfl rfl (by kernel_rfl) (e_lss (k := .i64) (a := x10) (b := (x1.length : Int)) (by kernel_rfl) (by kernel_rfl)) (wpList_nil ?_)))))))
  refine then_n ?_
  by_cases q20 : x10 < (x1.length : Int)
  · replace M := ifp q20 M
    refine cond_t rfl (bt q20 (by kernel_rfl)) (wp_skip (then_n (wp_seq (wp_block (wp_seq (wp_seq (wp_region_lit ?_)))))))
    refine lv (d := 12) rfl rfl (by kernel_rfl) (e_move (v := .slice A2 x1.length c3) (by exact e11)) (lv (d := 13) rfl rfl (by kernel_rfl) (e_move (v := .int .i64 x10) (by exact e13)) ?_)
    obtain ⟨q21, M⟩ := chk M
    obtain ⟨b22, o23, e24⟩ := Rd.addr h4 (show (x10).toNat < x1.length by omega)
    obtain ⟨y25, r26, k27⟩ := Rd.at h4 e24 (getD_some (0 : Int) (show (x10).toNat < x1.length by omega))
    obtain rfl := r26
    refine lv (d := 14) rfl rfl (by kernel_rfl) (e_indexAddr (b := b22) (off := o23) (n := x1.length) (c := c3) (sz := 1) (i := x10) (k := .i64) Try.underlying23 e24 (by kernel_rfl) (by kernel_rfl) (by kernel_rfl) q21 q20) (lv (d := 15) rfl rfl (by kernel_rfl) (e_load1 (ad := ⟨b22, o23 + (x10 : Int).toNat * 1, none⟩) (v := .int .i64 (x1.getD ((x10).toNat) (0 : Int))) Try.underlying3 rfl (by kernel_rfl) (hpx (S14.inv.cell (k27 0 _ rfl)))) (lv (d := 16) rfl rfl (by kernel_rfl) (e_move (v := .int .i64 x9) (by exact e12)) (lv (d := 17) rfl rfl (by kernel_rfl) (e_neq (k := .i64) (a := (x1.getD ((x10).toNat) (0 : Int))) (b := x9) (by kernel_rfl) (by kernel_rfl)) (wpList_nil (then_n ?_)))))
    by_cases q28 : (x1.getD ((x10).toNat) (0 : Int)) ≠ x9
    · replace M := ifp q28 M
      refine cond_t rfl (bt q28 (by kernel_rfl)) (wp_seq (wp_region_lit (lv (d := 4) rfl rfl (by kernel_rfl) (e_assign (v := .int .i64 (-1)) rfl) (wpList_nil (then_n (wp_ret (then_r ?_)))))))
      refine inb_r (then_r (then_r (inb_r (then_r ?_))))
      obtain rfl := Option.some.inj M
      exact ret1 rfl rfl  (show _ = .int .i64 (-1) from (by kernel_rfl)) ⟨rfl, S14.chg⟩
    replace M := ifn q28 M
    refine cond_f rfl (bf q28 (by kernel_rfl)) (wp_skip (then_n (wp_region_lit (lv (d := 18) rfl rfl (by kernel_rfl) (e_move (v := .int .i64 x9) (by exact e12)) (lv (d := 19) rfl rfl (by kernel_rfl) (e_add (k := .i64) (a := x9) (b := 1) (by kernel_rfl) rfl) (lv (d := 1) rfl rfl (by kernel_rfl) (e_assign (v := .int .i64 (IntKind.i64.wrap (x9 + 1))) (by kernel_rfl)) (wpList_nil ?_)))))))
    refine inb_n (then_n (wp_region_lit (lv (d := 10) rfl rfl (by kernel_rfl) (e_move (v := .int .i64 x10) (by exact e13)) (lv (d := 11) rfl rfl (by kernel_rfl) (e_add (k := .i64) (a := x10) (b := 1) (by kernel_rfl) rfl) (lv (d := 5) rfl rfl (by kernel_rfl) (e_assign (v := .int .i64 (IntKind.i64.wrap (x10 + 1))) (by kernel_rfl)) (wpList_nil (then_n ?_)))))))
    exact ⟨k19, (by omega), _, (IntKind.i64.wrap (x9 + 1)), (IntKind.i64.wrap (x10 + 1)), rfl, (by exact e11), (by kernel_rfl), (by kernel_rfl), S14, M⟩
  replace M := ifn q20 M
  refine cond_f rfl (bf q20 (by kernel_rfl)) (wp_exit (then_e (then_e (inb_hit (then_n (wp_seq (wp_region_lit ?_)))))))
  refine lv (d := 20) rfl rfl (by kernel_rfl) (e_move (v := .int .i64 x9) (by exact e12)) (lv (d := 4) rfl rfl (by kernel_rfl) (e_assign (v := .int .i64 x9) (by kernel_rfl)) (wpList_nil (then_n (wp_ret ?_))))
  obtain rfl := Option.some.inj M
  exact ret1 rfl rfl  (show _ = .int .i64 x9 from (by kernel_rfl)) ⟨rfl, S14.chg⟩

/-! laws_heldStore -/
def laws_heldStore.f (k : Nat) (x1 : Store) (x10 : Int) : Option Int := ((laws_heldCellS.f k x1.cells x10).bind fun t16 => (if t16 < 0 then some (-1) else ((laws_heldIntS.f k x1.trail t16).bind fun t23 => (if t23 < 0 then some (-1) else some t23))))
theorem laws_heldStore.calls (k : Nat) (w : World) (H : Hp) (x1 : Store) (A2 : Option Addr) (c3 : Nat) (A6 : Option Addr) (c7 : Nat) (x10 : Int) (h4 : Rd st36 H A2 x1.cells) (l5 : x1.cells.length ≤ c3) (h8 : Rd tInt H A6 x1.trail) (l9 : x1.trail.length ≤ c7) (S : Own [] H w) (r : Int) (M : laws_heldStore.f k x1 x10 = some r) :
    Calls Try.prog 29 #[.agg #[.slice A2 x1.cells.length c3, .slice A6 x1.trail.length c7], .int .i64 x10] w (fun e e_w => e = .returned (.int .i64 r) ∧ Chg no w e_w) := by
  rw [laws_heldStore.f] at M
  refine enter (l := [.agg #[.slice A2 x1.cells.length c3, .slice A6 x1.trail.length c7], .int .i64 x10]) 18 Try.func29 rfl rfl rfl ?_
  have S0_ := S.st
  refine wp_seq (wp_region_lit ?_)
  refine lve (d := 2) rfl rfl (by kernel_rfl) (new_blk (v := fun g_ => .pointer (some ⟨g_, 0, none⟩)) (cs := #[.slice A2 x1.cells.length c3, .slice A6 x1.trail.length c7]) (t := 34) S0_ (by kernel_rfl)) ?_
  rintro _ w11 ⟨g12, rfl, b13, S14, K15⟩
  refine lv (d := 4) rfl rfl (by kernel_rfl) (e_assign (v := .int .i64 0) rfl) (wpList_nil (then_n (wp_seq (wp_region_lit (lv (d := 5) rfl rfl (by kernel_rfl) (e_fieldAddr (b := g12) (off := 0) (o := 0) Try.underlying34 rfl rfl (sz := 1) (by kernel_rfl) (by decide) (by kernel_rfl)) (lv (d := 6) rfl rfl (by kernel_rfl) (e_load1 (ad := ⟨g12, 0 + 0, none⟩) (v := .slice A2 x1.cells.length c3) Try.underlying32 rfl (by kernel_rfl) (blk_cell b13 rfl)) (lv (d := 7) rfl rfl (by kernel_rfl) (e_move (v := .int .i64 x10) (by kernel_rfl)) ?_)))))))
  obtain ⟨t16, u17, M⟩ := bnd M
  refine lcall (d := 8) rfl rfl (by kernel_rfl) (e_call (l := [.tmp 6, .tmp 7]) (vs := [.slice A2 x1.cells.length c3, .int .i64 x10]) Try.func26 (by kernel_rfl) rfl (by kernel_rfl) rfl) (laws_heldCellS.calls k w11 H x1.cells A2 c3 x10 h4 l5 S14.own0 t16 u17) ?_
  rintro _ w18 ⟨rfl, C19⟩
  refine ⟨_, rfl, ?_⟩
  obtain ⟨S20, K21⟩ := S14.still C19
  replace b13 := K21.blk 0 rfl b13
  refine lv (d := 1) rfl rfl (by kernel_rfl) (e_assign (v := .int .i64 t16) (by kernel_rfl)) (wpList_nil (then_n (wp_seq (wp_seq (wp_region_lit (lv (d := 9) rfl rfl (by kernel_rfl) (e_move (v := .int .i64 t16) (by kernel_rfl)) (lv (d := 10) rfl rfl (by kernel_rfl) (e_lss (k := .i64) (a := t16) (b := 0) (by kernel_rfl) rfl) ?_)))))))
  refine wpList_nil (then_n ?_)
  by_cases q22 : t16 < 0
  · replace M := ifp q22 M
    refine cond_t rfl (bt q22 (by kernel_rfl)) (wp_seq (wp_region_lit (lv (d := 4) rfl rfl (by kernel_rfl) (e_assign (v := .int .i64 (-1)) rfl) (wpList_nil (then_n (wp_ret (then_r ?_)))))))
    obtain rfl := Option.some.inj M
    exact ret1 rfl rfl  (show _ = .int .i64 (-1) from (by kernel_rfl)) ⟨rfl, S20.chg⟩
  replace M := ifn q22 M
  refine cond_f rfl (bf q22 (by kernel_rfl)) (wp_skip (then_n (wp_seq (wp_region_lit (lv (d := 11) rfl rfl (by kernel_rfl) (e_fieldAddr (b := g12) (off := 0) (o := 1) Try.underlying34 rfl rfl (sz := 1) (by kernel_rfl) (by decide) (by kernel_rfl)) (lv (d := 12) rfl rfl (by kernel_rfl) (e_load1 (ad := ⟨g12, 0 + 1, none⟩) (v := .slice A6 x1.trail.length c7) Try.underlying23 rfl (by kernel_rfl) (blk_cell b13 rfl)) (lv (d := 13) rfl rfl (by kernel_rfl) (e_move (v := .int .i64 t16) (by kernel_rfl)) ?_)))))))
  obtain ⟨t23, u24, M⟩ := bnd M
  refine lcall (d := 14) rfl rfl (by kernel_rfl) (e_call (l := [.tmp 12, .tmp 13]) (vs := [.slice A6 x1.trail.length c7, .int .i64 t16]) Try.func60 (by kernel_rfl) rfl (by kernel_rfl) rfl) (laws_heldIntS.calls k w18 H x1.trail A6 c7 t16 h8 l9 S20.own0 t23 u24) ?_
  rintro _ w25 ⟨rfl, C26⟩
  refine ⟨_, rfl, ?_⟩
  obtain ⟨S27, K28⟩ := S20.still C26
  refine lv (d := 1) rfl rfl (by kernel_rfl) (e_assign (v := .int .i64 t23) (by kernel_rfl)) (wpList_nil (then_n (wp_seq (wp_seq (wp_region_lit (lv (d := 15) rfl rfl (by kernel_rfl) (e_move (v := .int .i64 t23) (by kernel_rfl)) (lv (d := 16) rfl rfl (by kernel_rfl) (e_lss (k := .i64) (a := t23) (b := 0) (by kernel_rfl) rfl) ?_)))))))
  refine wpList_nil (then_n ?_)
  by_cases q29 : t23 < 0
  · replace M := ifp q29 M
    refine cond_t rfl (bt q29 (by kernel_rfl)) (wp_seq (wp_region_lit (lv (d := 4) rfl rfl (by kernel_rfl) (e_assign (v := .int .i64 (-1)) rfl) (wpList_nil (then_n (wp_ret (then_r ?_)))))))
    obtain rfl := Option.some.inj M
    exact ret1 rfl rfl  (show _ = .int .i64 (-1) from (by kernel_rfl)) ⟨rfl, S27.chg⟩
  replace M := ifn q29 M
  refine cond_f rfl (bf q29 (by kernel_rfl)) (wp_skip (then_n (wp_seq (wp_region_lit (lv (d := 17) rfl rfl (by kernel_rfl) (e_move (v := .int .i64 t23) (by kernel_rfl)) (lv (d := 4) rfl rfl (by kernel_rfl) (e_assign (v := .int .i64 t23) (by kernel_rfl)) (wpList_nil ?_)))))))
  refine then_n (wp_ret ?_)
  obtain rfl := Option.some.inj M
  exact ret1 rfl rfl  (show _ = .int .i64 t23 from (by kernel_rfl)) ⟨rfl, S27.chg⟩
end Go.Proofs.Ytnigifmkjmbfiaa
