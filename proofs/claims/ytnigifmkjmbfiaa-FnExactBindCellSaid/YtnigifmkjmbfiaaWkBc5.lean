import Derived.Test.YtnigifmkjmbfiaaWkBc4
namespace Go.Proofs.Ytnigifmkjmbfiaa
open Go.Sx Go.Sy
attribute [local irreducible] Go.wpList Go.wpStill Go.wpQuiet Go.Code.wp
set_option maxRecDepth 100000
set_option maxHeartbeats 1000000
set_option linter.unusedVariables false
set_option linter.unusedSimpArgs false

/-! laws_FnExactBindCell -/
def laws_FnExactBindCell.l1 (k : Nat) (x46 : List Cell) (x51 : List Int) (x56 : Int) (t740 : Int × (List Cell) × (List Int)) (x780 : List Cell) (x785 : List Int) (x790 : Int) : Option Bool := ((laws_eqStore.f k (⟨x780, x785⟩ : Store) (⟨x46, x51⟩ : Store)).bind fun t1168 => (if ¬ (t1168 = true) then some false else (if x790 ≠ x56 then some false else ((laws_heldStore.f k (⟨t740.2.1, t740.2.2⟩ : Store) 1).bind fun t1204 => (if t1204 < 0 then some false else (if t1204 ≠ t740.1 then some false else some true))))))
def laws_FnExactBindCell.l0 (k : Nat) (x1 : Store) (x10 : Int) (x11 : Cell) (x46 : List Cell) (x51 : List Int) (x56 : Int) : Option Bool := ((laws_toStore.f k x1).bind fun t413 => ((laws_toCell.f k x11).bind fun t438 => ((impl_BindCell.f k t413 x10 t438).bind fun t489 => ((laws_eqStore.f k t489.1 (⟨x46, x51⟩ : Store)).bind fun t525 => (if ¬ (t525 = true) then some false else (if t489.2 ≠ x56 then some false else ((laws_toStore.f k x1).bind fun t571 => ((laws_eqStore.f k t413 t571).bind fun t589 => (if ¬ (t589 = true) then some false else ((laws_toCell.f k x11).bind fun t636 => ((laws_eqCell.f k t438 t636).bind fun t650 => (if ¬ (t650 = true) then some false else ((laws_markStore_2.f k t413 1).bind fun t676 => ((laws_markCell_2.f k t438 t676.1).bind fun t691 => (if t691.1 < 0 then some false else ((laws_eqStore.f k t489.1 (⟨x46, x51⟩ : Store)).bind fun t703 => (if ¬ (t703 = true) then some false else ((laws_markStore_2.f k t489.1 1).bind fun t740 => ((laws_heldStore.f k (⟨t740.2.1, t740.2.2⟩ : Store) 1).bind fun t754 => (if t754 < 0 then some false else (if t754 ≠ t740.1 then some false else ((laws_toStore.f k x1).bind fun t814 => ((laws_toCell.f k x11).bind fun t832 => ((impl_BindCell.f k t814 x10 t832).bind fun t866 => (laws_FnExactBindCell.l1 k x46 x51 x56 t740 t866.1.cells t866.1.trail t866.2)))))))))))))))))))))))))
def laws_FnExactBindCell.f (k : Nat) (x1 : Store) (x10 : Int) (x11 : Cell) : Option Bool := ((laws_szStore.f k x1 1048576).bind fun t26 => (if t26 < 0 then some true else ((laws_szCell.f x11 t26).bind fun t33 => (if t33 < 0 then some true else ((laws_toStore.f k x1).bind fun t79 => ((laws_toCell.f k x11).bind fun t97 => ((spec_BindCell.f k t79 x10 t97).bind fun t131 => (laws_FnExactBindCell.l0 k x1 x10 x11 t131.1.cells t131.1.trail t131.2))))))))
theorem laws_FnExactBindCell.calls (k : Nat) (w : World) (H : Hp) (x1 : Store) (A2 : Option Addr) (c3 : Nat) (A6 : Option Addr) (c7 : Nat) (x10 : Int) (x11 : Cell) (A12 : Option Addr) (c13 : Nat) (h4 : Rd st28 H A2 x1.cells) (l5 : x1.cells.length ≤ c3) (h8 : Rd tInt H A6 x1.trail) (l9 : x1.trail.length ≤ c7) (h14 : Rd tByte H A12 x11.text) (l15 : x11.text.length ≤ c13) (S : Own [] H w) (r : Bool) (M : laws_FnExactBindCell.f k x1 x10 x11 = some r) :
    Calls Try.prog 7 #[.agg #[.slice A2 x1.cells.length c3, .slice A6 x1.trail.length c7], .int .i64 x10, .agg #[.int .i64 x11.kind, .int .i64 x11.n, .slice A12 x11.text.length c13]] w (fun e e_w => e = .returned (.bool r) ∧ Chg no w e_w) := by
  rw [laws_FnExactBindCell.f] at M
  refine enter (l := [.agg #[.slice A2 x1.cells.length c3, .slice A6 x1.trail.length c7], .int .i64 x10, .agg #[.int .i64 x11.kind, .int .i64 x11.n, .slice A12 x11.text.length c13]]) 124 Try.func7 rfl rfl rfl ?_
  have S0_ := S.st
  refine wp_seq (wp_region_lit ?_)
  refine lve (d := 3) rfl rfl (by kernel_rfl) (new_blk (v := fun g_ => .pointer (some ⟨g_, 0, none⟩)) (cs := #[.slice A2 x1.cells.length c3, .slice A6 x1.trail.length c7]) (t := 25) S0_ (by kernel_rfl)) ?_
  rintro _ w16 ⟨g17, rfl, b18, S19, K20⟩
  refine lve (d := 5) rfl rfl (by kernel_rfl) (new_blk (v := fun g_ => .pointer (some ⟨g_, 0, none⟩)) (cs := #[.int .i64 x11.kind, .int .i64 x11.n, .slice A12 x11.text.length c13]) (t := 28) S19 (by kernel_rfl)) ?_
  rintro _ w21 ⟨g22, rfl, b23, S24, K25⟩
  replace b18 := K25.blk 0 rfl b18
  refine lv (d := 6) rfl rfl (by kernel_rfl) (e_assign (v := .bool false) rfl) (wpList_nil (then_n (wp_seq (wp_region_lit (lv (d := 7) rfl rfl (by kernel_rfl) (e_assign (v := .int .i64 1048576) rfl) (wpList_nil (then_n ?_)))))))
  refine wp_seq (wp_region_lit (lv (d := 19) rfl rfl (by kernel_rfl) (e_loadS (b := g17) (off := 0) (cs := [.slice A2 x1.cells.length c3, .slice A6 x1.trail.length c7]) Try.underlying25 rfl (by kernel_rfl) (by kernel_rfl) (blk_cells b18 rfl)) (lv (d := 20) rfl rfl (by kernel_rfl) (e_move (v := .int .i64 1048576) (by kernel_rfl)) ?_)))
  obtain ⟨t26, u27, M⟩ := bnd M
  refine lcall (d := 21) rfl rfl (by kernel_rfl) (e_call (l := [.tmp 19, .tmp 20]) (vs := [.agg #[.slice A2 x1.cells.length c3, .slice A6 x1.trail.length c7], .int .i64 1048576]) Try.func9 (by kernel_rfl) rfl (by kernel_rfl) rfl) (laws_szStore.calls k w21 H x1 A2 c3 A6 c7 1048576 h4 l5 h8 l9 S24.own0 t26 u27) ?_
  rintro _ w28 ⟨rfl, C29⟩
  refine ⟨_, rfl, ?_⟩
  obtain ⟨S30, K31⟩ := S24.still C29
  replace b23 := K31.blk 0 rfl b23
  replace b18 := K31.blk 1 rfl b18
  refine lv (d := 7) rfl rfl (by kernel_rfl) (e_assign (v := .int .i64 t26) (by kernel_rfl)) (wpList_nil (then_n (wp_seq (wp_seq (wp_region_lit (lv (d := 22) rfl rfl (by kernel_rfl) (e_move (v := .int .i64 t26) (by kernel_rfl)) (lv (d := 23) rfl rfl (by kernel_rfl) (e_lss (k := .i64) (a := t26) (b := 0) (by kernel_rfl) rfl) ?_)))))))
  refine wpList_nil (then_n ?_)
  by_cases q32 : t26 < 0
  · replace M := ifp q32 M
    refine cond_t rfl (bt q32 (by kernel_rfl)) (wp_seq (wp_region_lit (lv (d := 6) rfl rfl (by kernel_rfl) (e_assign (v := .bool true) rfl) (wpList_nil (then_n (wp_ret (then_r ?_)))))))
    obtain rfl := Option.some.inj M
    exact ret1 rfl rfl  (show _ = .bool true from (by kernel_rfl)) ⟨rfl, S30.chg⟩
  replace M := ifn q32 M
  refine cond_f rfl (bf q32 (by kernel_rfl)) (wp_skip (then_n (wp_seq (wp_region_lit (lv (d := 24) rfl rfl (by kernel_rfl) (e_loadS (b := g22) (off := 0) (cs := [.int .i64 x11.kind, .int .i64 x11.n, .slice A12 x11.text.length c13]) Try.underlying28 rfl (by kernel_rfl) (by kernel_rfl) (blk_cells b23 rfl)) (lv (d := 25) rfl rfl (by kernel_rfl) (e_move (v := .int .i64 t26) (by kernel_rfl)) ?_))))))
  obtain ⟨t33, u34, M⟩ := bnd M
  refine lcall (d := 26) rfl rfl (by kernel_rfl) (e_call (l := [.tmp 24, .tmp 25]) (vs := [.agg #[.int .i64 x11.kind, .int .i64 x11.n, .slice A12 x11.text.length c13], .int .i64 t26]) Try.func10 (by kernel_rfl) rfl (by kernel_rfl) rfl) (laws_szCell.calls w28 H x11 A12 c13 t26 h14 l15 S30.own0 t33 u34) ?_
  rintro _ w35 ⟨rfl, C36⟩
  refine ⟨_, rfl, ?_⟩
  obtain ⟨S37, K38⟩ := S30.still C36
  replace b23 := K38.blk 0 rfl b23
  replace b18 := K38.blk 1 rfl b18
  refine lv (d := 7) rfl rfl (by kernel_rfl) (e_assign (v := .int .i64 t33) (by kernel_rfl)) (wpList_nil (then_n (wp_seq (wp_seq (wp_region_lit (lv (d := 27) rfl rfl (by kernel_rfl) (e_move (v := .int .i64 t33) (by kernel_rfl)) (lv (d := 28) rfl rfl (by kernel_rfl) (e_lss (k := .i64) (a := t33) (b := 0) (by kernel_rfl) rfl) ?_)))))))
  refine wpList_nil (then_n ?_)
  by_cases q39 : t33 < 0
  · replace M := ifp q39 M
    refine cond_t rfl (bt q39 (by kernel_rfl)) (wp_seq (wp_region_lit (lv (d := 6) rfl rfl (by kernel_rfl) (e_assign (v := .bool true) rfl) (wpList_nil (then_n (wp_ret (then_r ?_)))))))
    obtain rfl := Option.some.inj M
    exact ret1 rfl rfl  (show _ = .bool true from (by kernel_rfl)) ⟨rfl, S37.chg⟩
  replace M := ifn q39 M
  refine cond_f rfl (bf q39 (by kernel_rfl)) (wp_skip (then_n (wp_seq ?_)))
  refine wp_cut (fun a65 w40 => ∃ (f41 : Nat → Value) (H42 : Hp) (g44 : Nat) (x46 : List Cell) (A47 : Option Addr) (c48 : Nat) (F49 : Foot) (x51 : List Int) (A52 : Option Addr) (c53 : Nat) (F54 : Foot) (x56 : Int), a65 = mk 124 f41 ∧ f41 1 = .int .i64 x10 ∧ f41 3 = .pointer (some ⟨g17, 0, none⟩) ∧ f41 5 = .pointer (some ⟨g22, 0, none⟩) ∧ f41 8 = .pointer (some ⟨g44, 0, none⟩) ∧ f41 9 = .int .i64 x56 ∧ w40.heap[g22]? = some (.cells #[.int .i64 x11.kind, .int .i64 x11.n, .slice A12 x11.text.length c13] 28 (0, 0)) ∧ w40.heap[g17]? = some (.cells #[.slice A2 x1.cells.length c3, .slice A6 x1.trail.length c7] 25 (0, 0)) ∧ Row st36 36 H42 (hp w40) F49 A47 c48 x46 ∧ Row tInt 3 H42 (hp w40) F54 A52 c53 x51 ∧ w40.heap[g44]? = some (.cells #[.slice A47 x46.length c48, .slice A52 x51.length c53] 34 (0, 0)) ∧ Ext H H42 ∧ St (anyOf []) H w [(is g22), (is g17), F49, F54, (is g44)] H42 w40 ∧ laws_FnExactBindCell.l0 k x1 x10 x11 x46 x51 x56 = some r) ?_ ?_
  · refine region_mix (S := (fun (L_ : Array Bool) (w_ : World) => Ext H (hp w_) ∧ (∀ b_, (is g22) b_ → hp w_ b_ = hp w35 b_) ∧ (∀ b_, (is g17) b_ → hp w_ b_ = hp w35 b_))) (by kernel_rfl) S37 ?_
    intro w66 S67 K68 hc69
    have o70 := b23
    have o71 := b18
    have hs72 : (fun (L_ : Array Bool) (w_ : World) => Ext H (hp w_) ∧ (∀ b_, (is g22) b_ → hp w_ b_ = hp w35 b_) ∧ (∀ b_, (is g17) b_ → hp w_ b_ = hp w35 b_)) (Array.replicate 12 false) w66 := ⟨S67.inv, (fun b_ h_ => K68.at 0 rfl b_ h_), (fun b_ h_ => K68.at 1 rfl b_ h_)⟩
    replace b23 := K68.blk 0 rfl b23
    replace b18 := K68.blk 1 rfl b18
    refine xv (i := 0) (d := 30) rfl rfl rfl (by kernel_rfl) (by kernel_rfl) (fun _ _ => Iff.rfl) hc69 hs72 (fun L_ w_ hc_ hu_ hs_ => e_loadS (b := g17) (off := 0) (cs := [.slice A2 x1.cells.length c3, .slice A6 x1.trail.length c7]) Try.underlying25 rfl (by kernel_rfl) (by kernel_rfl) (blk_cells ((hs_.2.2 _ rfl).trans o71) rfl)) ?_; intro hc73 hs74
    refine xv (i := 2) (d := 32) rfl rfl rfl (by kernel_rfl) (by kernel_rfl) (fun _ _ => Iff.rfl) hc73 hs74 (fun L_ w_ hc_ hu_ hs_ => e_move (v := .int .i64 x10) (by kernel_rfl)) ?_; intro hc75 hs76
    refine xv (i := 3) (d := 33) rfl rfl rfl (by kernel_rfl) (by kernel_rfl) (fun _ _ => Iff.rfl) hc75 hs76 (fun L_ w_ hc_ hu_ hs_ => e_loadS (b := g22) (off := 0) (cs := [.int .i64 x11.kind, .int .i64 x11.n, .slice A12 x11.text.length c13]) Try.underlying28 rfl (by kernel_rfl) (by kernel_rfl) (blk_cells ((hs_.2.1 _ rfl).trans o70) rfl)) ?_; intro hc77 hs78
    refine xall [1, 9] (by kernel_rfl) (by decide) hc77 (List.forall_mem_cons.2 ⟨?_, List.forall_mem_cons.2 ⟨?_, fun _ h_ => by cases h_⟩⟩)
    · obtain ⟨t79, u80, M⟩ := bnd M
      refine yc (i := 1) rfl (wanted_none rfl _) (by kernel_rfl) (by kernel_rfl) (e_call (l := [.tmp 30]) (vs := [.agg #[.slice A2 x1.cells.length c3, .slice A6 x1.trail.length c7]]) Try.func12 (by kernel_rfl) rfl (by kernel_rfl) rfl) (laws_toStore.calls k w66 H x1 A2 c3 A6 c7 h4 l5 h8 l9 (St.own' (Fa := []) (Fr := [(is g22), (is g17)]) S67) t79 u80) ?_
      rintro hc92 _ w81 ⟨A84, c85, F87, A88, c89, F91, H82, rfl, h86, h90, T83⟩
      refine ⟨_, rfl, ?_⟩
      obtain ⟨S93, K94⟩ := St.call (Fa := []) (Fr := [(is g22), (is g17)]) S67 T83
      replace b23 := K94.blk 0 rfl b23
      replace b18 := K94.blk 1 rfl b18
      have E95 := T83.ext
      refine ⟨⟨(Ext.trans E95 S93.inv), (fun b_ h_ => (K94.at 0 rfl b_ h_).trans (hs78.2.1 b_ h_)), (fun b_ h_ => (K94.at 1 rfl b_ h_).trans (hs78.2.2 b_ h_))⟩, fun hs96 => ?_⟩
      refine xall [4, 9] (by kernel_rfl) (by decide) hc92 (List.forall_mem_cons.2 ⟨?_, List.forall_mem_cons.2 ⟨?_, fun _ h_ => by cases h_⟩⟩)
      · obtain ⟨t97, u98, M⟩ := bnd M
        refine yc (i := 4) rfl (wanted_none rfl _) (by kernel_rfl) (by kernel_rfl) (e_call (l := [.tmp 33]) (vs := [.agg #[.int .i64 x11.kind, .int .i64 x11.n, .slice A12 x11.text.length c13]]) Try.func13 (by kernel_rfl) rfl (by kernel_rfl) rfl) (laws_toCell.calls k w81 H82 x11 A12 c13 (h14.ext E95) l15 (St.own' (Fa := []) (Fr := [F87, F91, (is g22), (is g17)]) S93) t97 u98) ?_
        rintro hc106 _ w99 ⟨A102, c103, F105, H100, rfl, h104, T101⟩
        refine ⟨_, rfl, ?_⟩
        obtain ⟨S107, K108⟩ := St.call (Fa := []) (Fr := [F87, F91, (is g22), (is g17)]) S93 T101
        replace h86 := h86.move (K108.at 0 rfl)
        replace h90 := h90.move (K108.at 1 rfl)
        replace b23 := K108.blk 2 rfl b23
        replace b18 := K108.blk 3 rfl b18
        have E109 := T101.ext
        replace h86 := h86.ext E109
        replace h90 := h90.ext E109
        refine ⟨⟨(Ext.trans (E95.trans E109) S107.inv), (fun b_ h_ => (K108.at 2 rfl b_ h_).trans (hs96.2.1 b_ h_)), (fun b_ h_ => (K108.at 3 rfl b_ h_).trans (hs96.2.2 b_ h_))⟩, fun hs110 => ?_⟩
        refine xall [5, 9] (by kernel_rfl) (by decide) hc106 (List.forall_mem_cons.2 ⟨?_, List.forall_mem_cons.2 ⟨?_, fun _ h_ => by cases h_⟩⟩)
        · have l111 := h86.le
          have S112 := S107.pull (F := F87) (Fr := [F105, F91, (is g22), (is g17)]) 1 rfl rfl
          obtain ⟨H113, S114, E115, h116, z117⟩ := S112.frzRow h86
          replace h104 := h104.ext E115
          replace h90 := h90.ext E115
          have l118 := h90.le
          have S119 := S114.pull (F := F91) (Fr := [F105, (is g22), (is g17)]) 1 rfl rfl
          obtain ⟨H120, S121, E122, h123, z124⟩ := S119.frzRow h90
          replace h104 := h104.ext E122
          have l125 := h104.le
          obtain ⟨H126, S127, E128, h129, z130⟩ := S121.frzRow h104
          obtain ⟨t131, u132, M⟩ := bnd M
          refine yc (i := 5) rfl (wanted_none rfl _) (by kernel_rfl) (by kernel_rfl) (e_call (l := [.tmp 31, .tmp 32, .tmp 34]) (vs := [.agg #[.slice A84 t79.cells.length c85, .slice A88 t79.trail.length c89], .int .i64 x10, .agg #[.int .i64 t97.kind, .int .i64 t97.n, .slice A102 t97.text.length c103]]) Try.func30 (by kernel_rfl) rfl (by kernel_rfl) rfl) (spec_BindCell.calls k w99 H126 t79 A84 c85 A88 c89 x10 t97 A102 c103 (h116.ext (E122.trans E128)) l111 (h123.ext E128) l118 h129 l125 (St.own' (Fa := []) (Fr := [(is g22), (is g17)]) S127) t131 u132) ?_
          rintro hc144 _ w133 ⟨A136, c137, F139, A140, c141, F143, H134, rfl, h138, h142, T135⟩
          refine ⟨_, rfl, ?_⟩
          obtain ⟨S145, K146⟩ := St.call (Fa := []) (Fr := [(is g22), (is g17)]) S127 T135
          replace b23 := K146.blk 0 rfl b23
          replace b18 := K146.blk 1 rfl b18
          have E147 := T135.ext
          refine ⟨⟨(Ext.trans (((((E95.trans E109).trans E115).trans E122).trans E128).trans E147) S145.inv), (fun b_ h_ => (K146.at 0 rfl b_ h_).trans (hs110.2.1 b_ h_)), (fun b_ h_ => (K146.at 1 rfl b_ h_).trans (hs110.2.2 b_ h_))⟩, fun hs148 => ?_⟩
          refine xv (i := 6) (d := 29) rfl rfl rfl (by kernel_rfl) (by kernel_rfl) (fun _ _ => Iff.rfl) hc144 hs148 (fun L_ w_ hc_ hu_ hs_ => e_move (v := .tuple #[.agg #[.slice A136 t131.1.cells.length c137, .slice A140 t131.1.trail.length c141], .int .i64 t131.2]) (by kernel_rfl)) ?_; intro hc149 hs150
          refine xv (i := 7) (d := 36) rfl rfl rfl (by kernel_rfl) (by kernel_rfl) (fun _ _ => Iff.rfl) hc149 hs150 (fun L_ w_ hc_ hu_ hs_ => e_extract (vs := #[.agg #[.slice A136 t131.1.cells.length c137, .slice A140 t131.1.trail.length c141], .int .i64 t131.2]) (v := .agg #[.slice A136 t131.1.cells.length c137, .slice A140 t131.1.trail.length c141]) (by kernel_rfl) rfl) ?_; intro hc151 hs152
          refine xv (i := 8) (d := 37) rfl rfl rfl (by kernel_rfl) (by kernel_rfl) (fun _ _ => Iff.rfl) hc151 hs152 (fun L_ w_ hc_ hu_ hs_ => e_extract (vs := #[.agg #[.slice A136 t131.1.cells.length c137, .slice A140 t131.1.trail.length c141], .int .i64 t131.2]) (v := .int .i64 t131.2) (by kernel_rfl) rfl) ?_; intro hc153 hs154
          refine xone (i := 9) (by kernel_rfl) hc153 ?_
          refine ye (i := 9) (d := 8) rfl rfl (wanted_none rfl _) (by kernel_rfl) (by kernel_rfl) (new_blk (v := fun g_ => .pointer (some ⟨g_, 0, none⟩)) (cs := #[.slice none 0 0, .slice none 0 0]) (t := 34) S145 (by kernel_rfl)) ?_
          rintro hc160 _ w155 ⟨g156, rfl, b157, S158, K159⟩
          replace h138 := h138.move (K159.at 0 rfl)
          replace h142 := h142.move (K159.at 1 rfl)
          replace b23 := K159.blk 2 rfl b23
          replace b18 := K159.blk 3 rfl b18
          refine ⟨⟨(Ext.trans (((((E95.trans E109).trans E115).trans E122).trans E128).trans E147) S158.inv), (fun b_ h_ => (K159.at 2 rfl b_ h_).trans (hs154.2.1 b_ h_)), (fun b_ h_ => (K159.at 3 rfl b_ h_).trans (hs154.2.2 b_ h_))⟩, fun hs161 => ?_⟩
          refine xone (i := 10) (by kernel_rfl) hc160 ?_
          refine ys (i := 10) rfl rfl (wanted_none rfl _) (by kernel_rfl) (by kernel_rfl) (e_store (g := g156) (o := 0) (v := .agg #[.slice A136 t131.1.cells.length c137, .slice A140 t131.1.trail.length c141]) (cur' := #[.slice A136 t131.1.cells.length c137, .slice A140 t131.1.trail.length c141]) (vs := [.slice A136 t131.1.cells.length c137, .slice A140 t131.1.trail.length c141]) S158 (by kernel_rfl) (by kernel_rfl) rfl (by kernel_rfl) b157 (Nat.le_of_ble_eq_true rfl) (List.forall_mem_cons.2 ⟨rfl, (List.forall_mem_cons.2 ⟨rfl, (fun _ h_ => by cases h_)⟩)⟩) rfl) ?_
          rintro hc166 w162 ⟨b163, S164, K165⟩
          replace h138 := h138.move (K165.at 0 rfl)
          replace h142 := h142.move (K165.at 1 rfl)
          replace b23 := K165.blk 2 rfl b23
          replace b18 := K165.blk 3 rfl b18
          refine ⟨⟨(Ext.trans (((((E95.trans E109).trans E115).trans E122).trans E128).trans E147) S164.inv), (fun b_ h_ => (K165.at 2 rfl b_ h_).trans (hs161.2.1 b_ h_)), (fun b_ h_ => (K165.at 3 rfl b_ h_).trans (hs161.2.2 b_ h_))⟩, fun hs167 => ?_⟩
          clear b157
          refine xone (i := 11) (by kernel_rfl) hc166 ?_
          refine yo (i := 11) (d := 9) rfl rfl (wanted_none rfl _) (by kernel_rfl) (by kernel_rfl) (fun _ _ => Iff.rfl) hs167 (e_assign (v := .int .i64 t131.2) (by kernel_rfl)) ?_; intro hc168 hs169
          refine xn (by kernel_rfl) ?_ _
          have S170 := S164.pull (F := F143) (Fr := [(is g156), F139, (is g22), (is g17)]) 2 rfl rfl
          have S171 := S170.pull (F := F139) (Fr := [F143, (is g156), (is g22), (is g17)]) 2 rfl rfl
          have S172 := S171.pull (F := (is g17)) (Fr := [F139, F143, (is g156), (is g22)]) 4 rfl rfl
          have S173 := S172.pull (F := (is g22)) (Fr := [(is g17), F139, F143, (is g156)]) 4 rfl rfl
          exact ⟨rfl, _, H134, g156, t131.1.cells, A136, c137, F139, t131.1.trail, A140, c141, F143, t131.2, rfl, (by kernel_rfl), (by kernel_rfl), (by kernel_rfl), (by kernel_rfl), (by kernel_rfl), b23, b18, h138, h142, b163, (((((E95.trans E109).trans E115).trans E122).trans E128).trans E147), S173, M⟩
        refine ye (i := 9) (d := 8) rfl rfl (wanted_none rfl _) (by kernel_rfl) (by kernel_rfl) (new_blk (v := fun g_ => .pointer (some ⟨g_, 0, none⟩)) (cs := #[.slice none 0 0, .slice none 0 0]) (t := 34) S107 (by kernel_rfl)) ?_
        rintro hc179 _ w174 ⟨g175, rfl, b176, S177, K178⟩
        replace h104 := h104.move (K178.at 0 rfl)
        replace h86 := h86.move (K178.at 1 rfl)
        replace h90 := h90.move (K178.at 2 rfl)
        replace b23 := K178.blk 3 rfl b23
        replace b18 := K178.blk 4 rfl b18
        refine ⟨⟨(Ext.trans (E95.trans E109) S177.inv), (fun b_ h_ => (K178.at 3 rfl b_ h_).trans (hs110.2.1 b_ h_)), (fun b_ h_ => (K178.at 4 rfl b_ h_).trans (hs110.2.2 b_ h_))⟩, fun hs180 => ?_⟩
        have l181 := h86.le
        have S182 := S177.pull (F := F87) (Fr := [(is g175), F105, F91, (is g22), (is g17)]) 2 rfl rfl
        obtain ⟨H183, S184, E185, h186, z187⟩ := S182.frzRow h86
        replace h104 := h104.ext E185
        replace h90 := h90.ext E185
        have l188 := h90.le
        have S189 := S184.pull (F := F91) (Fr := [(is g175), F105, (is g22), (is g17)]) 2 rfl rfl
        obtain ⟨H190, S191, E192, h193, z194⟩ := S189.frzRow h90
        replace h104 := h104.ext E192
        have l195 := h104.le
        have S196 := S191.pull (F := F105) (Fr := [(is g175), (is g22), (is g17)]) 1 rfl rfl
        obtain ⟨H197, S198, E199, h200, z201⟩ := S196.frzRow h104
        obtain ⟨t202, u203, M⟩ := bnd M
        refine xone (i := 5) (by kernel_rfl) hc179 ?_
        refine yc (i := 5) rfl (wanted_none rfl _) (by kernel_rfl) (by kernel_rfl) (e_call (l := [.tmp 31, .tmp 32, .tmp 34]) (vs := [.agg #[.slice A84 t79.cells.length c85, .slice A88 t79.trail.length c89], .int .i64 x10, .agg #[.int .i64 t97.kind, .int .i64 t97.n, .slice A102 t97.text.length c103]]) Try.func30 (by kernel_rfl) rfl (by kernel_rfl) rfl) (spec_BindCell.calls k w174 H197 t79 A84 c85 A88 c89 x10 t97 A102 c103 (h186.ext (E192.trans E199)) l181 (h193.ext E199) l188 h200 l195 (St.own' (Fa := []) (Fr := [(is g175), (is g22), (is g17)]) S198) t202 u203) ?_
        rintro hc215 _ w204 ⟨A207, c208, F210, A211, c212, F214, H205, rfl, h209, h213, T206⟩
        refine ⟨_, rfl, ?_⟩
        obtain ⟨S216, K217⟩ := St.call (Fa := []) (Fr := [(is g175), (is g22), (is g17)]) S198 T206
        replace b176 := K217.blk 0 rfl b176
        replace b23 := K217.blk 1 rfl b23
        replace b18 := K217.blk 2 rfl b18
        have E218 := T206.ext
        refine ⟨⟨(Ext.trans (((((E95.trans E109).trans E185).trans E192).trans E199).trans E218) S216.inv), (fun b_ h_ => (K217.at 1 rfl b_ h_).trans (hs180.2.1 b_ h_)), (fun b_ h_ => (K217.at 2 rfl b_ h_).trans (hs180.2.2 b_ h_))⟩, fun hs219 => ?_⟩
        refine xone (i := 6) (by kernel_rfl) hc215 ?_
        refine yo (i := 6) (d := 29) rfl rfl (wanted_none rfl _) (by kernel_rfl) (by kernel_rfl) (fun _ _ => Iff.rfl) hs219 (e_move (v := .tuple #[.agg #[.slice A207 t202.1.cells.length c208, .slice A211 t202.1.trail.length c212], .int .i64 t202.2]) (by kernel_rfl)) ?_; intro hc220 hs221
        refine xv (i := 7) (d := 36) rfl rfl rfl (by kernel_rfl) (by kernel_rfl) (fun _ _ => Iff.rfl) hc220 hs221 (fun L_ w_ hc_ hu_ hs_ => e_extract (vs := #[.agg #[.slice A207 t202.1.cells.length c208, .slice A211 t202.1.trail.length c212], .int .i64 t202.2]) (v := .agg #[.slice A207 t202.1.cells.length c208, .slice A211 t202.1.trail.length c212]) (by kernel_rfl) rfl) ?_; intro hc222 hs223
        refine xv (i := 8) (d := 37) rfl rfl rfl (by kernel_rfl) (by kernel_rfl) (fun _ _ => Iff.rfl) hc222 hs223 (fun L_ w_ hc_ hu_ hs_ => e_extract (vs := #[.agg #[.slice A207 t202.1.cells.length c208, .slice A211 t202.1.trail.length c212], .int .i64 t202.2]) (v := .int .i64 t202.2) (by kernel_rfl) rfl) ?_; intro hc224 hs225
        have S226 := S216.pull (F := (is g175)) (Fr := [F210, F214, (is g22), (is g17)]) 2 rfl rfl
        refine xone (i := 10) (by kernel_rfl) hc224 ?_
        refine ys (i := 10) rfl rfl (wanted_none rfl _) (by kernel_rfl) (by kernel_rfl) (e_store (g := g175) (o := 0) (v := .agg #[.slice A207 t202.1.cells.length c208, .slice A211 t202.1.trail.length c212]) (cur' := #[.slice A207 t202.1.cells.length c208, .slice A211 t202.1.trail.length c212]) (vs := [.slice A207 t202.1.cells.length c208, .slice A211 t202.1.trail.length c212]) S226 (by kernel_rfl) (by kernel_rfl) rfl (by kernel_rfl) b176 (Nat.le_of_ble_eq_true rfl) (List.forall_mem_cons.2 ⟨rfl, (List.forall_mem_cons.2 ⟨rfl, (fun _ h_ => by cases h_)⟩)⟩) rfl) ?_
        rintro hc231 w227 ⟨b228, S229, K230⟩
        replace h209 := h209.move (K230.at 0 rfl)
        replace h213 := h213.move (K230.at 1 rfl)
        replace b23 := K230.blk 2 rfl b23
        replace b18 := K230.blk 3 rfl b18
        refine ⟨⟨(Ext.trans (((((E95.trans E109).trans E185).trans E192).trans E199).trans E218) S229.inv), (fun b_ h_ => (K230.at 2 rfl b_ h_).trans (hs225.2.1 b_ h_)), (fun b_ h_ => (K230.at 3 rfl b_ h_).trans (hs225.2.2 b_ h_))⟩, fun hs232 => ?_⟩
        clear b176
        refine xone (i := 11) (by kernel_rfl) hc231 ?_
        refine yo (i := 11) (d := 9) rfl rfl (wanted_none rfl _) (by kernel_rfl) (by kernel_rfl) (fun _ _ => Iff.rfl) hs232 (e_assign (v := .int .i64 t202.2) (by kernel_rfl)) ?_; intro hc233 hs234
        refine xn (by kernel_rfl) ?_ _
        have S235 := S229.pull (F := F214) (Fr := [(is g175), F210, (is g22), (is g17)]) 2 rfl rfl
        have S236 := S235.pull (F := F210) (Fr := [F214, (is g175), (is g22), (is g17)]) 2 rfl rfl
        have S237 := S236.pull (F := (is g17)) (Fr := [F210, F214, (is g175), (is g22)]) 4 rfl rfl
        have S238 := S237.pull (F := (is g22)) (Fr := [(is g17), F210, F214, (is g175)]) 4 rfl rfl
        exact ⟨rfl, _, H205, g175, t202.1.cells, A207, c208, F210, t202.1.trail, A211, c212, F214, t202.2, rfl, (by kernel_rfl), (by kernel_rfl), (by kernel_rfl), (by kernel_rfl), (by kernel_rfl), b23, b18, h209, h213, b228, (((((E95.trans E109).trans E185).trans E192).trans E199).trans E218), S238, M⟩
      refine ye (i := 9) (d := 8) rfl rfl (wanted_none rfl _) (by kernel_rfl) (by kernel_rfl) (new_blk (v := fun g_ => .pointer (some ⟨g_, 0, none⟩)) (cs := #[.slice none 0 0, .slice none 0 0]) (t := 34) S93 (by kernel_rfl)) ?_
      rintro hc244 _ w239 ⟨g240, rfl, b241, S242, K243⟩
      replace h86 := h86.move (K243.at 0 rfl)
      replace h90 := h90.move (K243.at 1 rfl)
      replace b23 := K243.blk 2 rfl b23
      replace b18 := K243.blk 3 rfl b18
      refine ⟨⟨(Ext.trans E95 S242.inv), (fun b_ h_ => (K243.at 2 rfl b_ h_).trans (hs96.2.1 b_ h_)), (fun b_ h_ => (K243.at 3 rfl b_ h_).trans (hs96.2.2 b_ h_))⟩, fun hs245 => ?_⟩
      obtain ⟨t246, u247, M⟩ := bnd M
      refine xone (i := 4) (by kernel_rfl) hc244 ?_
      refine yc (i := 4) rfl (wanted_none rfl _) (by kernel_rfl) (by kernel_rfl) (e_call (l := [.tmp 33]) (vs := [.agg #[.int .i64 x11.kind, .int .i64 x11.n, .slice A12 x11.text.length c13]]) Try.func13 (by kernel_rfl) rfl (by kernel_rfl) rfl) (laws_toCell.calls k w239 H82 x11 A12 c13 (h14.ext E95) l15 (St.own' (Fa := []) (Fr := [(is g240), F87, F91, (is g22), (is g17)]) S242) t246 u247) ?_
      rintro hc255 _ w248 ⟨A251, c252, F254, H249, rfl, h253, T250⟩
      refine ⟨_, rfl, ?_⟩
      obtain ⟨S256, K257⟩ := St.call (Fa := []) (Fr := [(is g240), F87, F91, (is g22), (is g17)]) S242 T250
      replace b241 := K257.blk 0 rfl b241
      replace h86 := h86.move (K257.at 1 rfl)
      replace h90 := h90.move (K257.at 2 rfl)
      replace b23 := K257.blk 3 rfl b23
      replace b18 := K257.blk 4 rfl b18
      have E258 := T250.ext
      replace h86 := h86.ext E258
      replace h90 := h90.ext E258
      refine ⟨⟨(Ext.trans (E95.trans E258) S256.inv), (fun b_ h_ => (K257.at 3 rfl b_ h_).trans (hs245.2.1 b_ h_)), (fun b_ h_ => (K257.at 4 rfl b_ h_).trans (hs245.2.2 b_ h_))⟩, fun hs259 => ?_⟩
      have l260 := h86.le
      have S261 := S256.pull (F := F87) (Fr := [F254, (is g240), F91, (is g22), (is g17)]) 2 rfl rfl
      obtain ⟨H262, S263, E264, h265, z266⟩ := S261.frzRow h86
      replace h253 := h253.ext E264
      replace h90 := h90.ext E264
      have l267 := h90.le
      have S268 := S263.pull (F := F91) (Fr := [F254, (is g240), (is g22), (is g17)]) 2 rfl rfl
      obtain ⟨H269, S270, E271, h272, z273⟩ := S268.frzRow h90
      replace h253 := h253.ext E271
      have l274 := h253.le
      obtain ⟨H275, S276, E277, h278, z279⟩ := S270.frzRow h253
      obtain ⟨t280, u281, M⟩ := bnd M
      refine xone (i := 5) (by kernel_rfl) hc255 ?_
      refine yc (i := 5) rfl (wanted_none rfl _) (by kernel_rfl) (by kernel_rfl) (e_call (l := [.tmp 31, .tmp 32, .tmp 34]) (vs := [.agg #[.slice A84 t79.cells.length c85, .slice A88 t79.trail.length c89], .int .i64 x10, .agg #[.int .i64 t246.kind, .int .i64 t246.n, .slice A251 t246.text.length c252]]) Try.func30 (by kernel_rfl) rfl (by kernel_rfl) rfl) (spec_BindCell.calls k w248 H275 t79 A84 c85 A88 c89 x10 t246 A251 c252 (h265.ext (E271.trans E277)) l260 (h272.ext E277) l267 h278 l274 (St.own' (Fa := []) (Fr := [(is g240), (is g22), (is g17)]) S276) t280 u281) ?_
      rintro hc293 _ w282 ⟨A285, c286, F288, A289, c290, F292, H283, rfl, h287, h291, T284⟩
      refine ⟨_, rfl, ?_⟩
      obtain ⟨S294, K295⟩ := St.call (Fa := []) (Fr := [(is g240), (is g22), (is g17)]) S276 T284
      replace b241 := K295.blk 0 rfl b241
      replace b23 := K295.blk 1 rfl b23
      replace b18 := K295.blk 2 rfl b18
      have E296 := T284.ext
      refine ⟨⟨(Ext.trans (((((E95.trans E258).trans E264).trans E271).trans E277).trans E296) S294.inv), (fun b_ h_ => (K295.at 1 rfl b_ h_).trans (hs259.2.1 b_ h_)), (fun b_ h_ => (K295.at 2 rfl b_ h_).trans (hs259.2.2 b_ h_))⟩, fun hs297 => ?_⟩
      refine xone (i := 6) (by kernel_rfl) hc293 ?_
      refine yo (i := 6) (d := 29) rfl rfl (wanted_none rfl _) (by kernel_rfl) (by kernel_rfl) (fun _ _ => Iff.rfl) hs297 (e_move (v := .tuple #[.agg #[.slice A285 t280.1.cells.length c286, .slice A289 t280.1.trail.length c290], .int .i64 t280.2]) (by kernel_rfl)) ?_; intro hc298 hs299
      refine xv (i := 7) (d := 36) rfl rfl rfl (by kernel_rfl) (by kernel_rfl) (fun _ _ => Iff.rfl) hc298 hs299 (fun L_ w_ hc_ hu_ hs_ => e_extract (vs := #[.agg #[.slice A285 t280.1.cells.length c286, .slice A289 t280.1.trail.length c290], .int .i64 t280.2]) (v := .agg #[.slice A285 t280.1.cells.length c286, .slice A289 t280.1.trail.length c290]) (by kernel_rfl) rfl) ?_; intro hc300 hs301
      refine xv (i := 8) (d := 37) rfl rfl rfl (by kernel_rfl) (by kernel_rfl) (fun _ _ => Iff.rfl) hc300 hs301 (fun L_ w_ hc_ hu_ hs_ => e_extract (vs := #[.agg #[.slice A285 t280.1.cells.length c286, .slice A289 t280.1.trail.length c290], .int .i64 t280.2]) (v := .int .i64 t280.2) (by kernel_rfl) rfl) ?_; intro hc302 hs303
      have S304 := S294.pull (F := (is g240)) (Fr := [F288, F292, (is g22), (is g17)]) 2 rfl rfl
      refine xone (i := 10) (by kernel_rfl) hc302 ?_
      refine ys (i := 10) rfl rfl (wanted_none rfl _) (by kernel_rfl) (by kernel_rfl) (e_store (g := g240) (o := 0) (v := .agg #[.slice A285 t280.1.cells.length c286, .slice A289 t280.1.trail.length c290]) (cur' := #[.slice A285 t280.1.cells.length c286, .slice A289 t280.1.trail.length c290]) (vs := [.slice A285 t280.1.cells.length c286, .slice A289 t280.1.trail.length c290]) S304 (by kernel_rfl) (by kernel_rfl) rfl (by kernel_rfl) b241 (Nat.le_of_ble_eq_true rfl) (List.forall_mem_cons.2 ⟨rfl, (List.forall_mem_cons.2 ⟨rfl, (fun _ h_ => by cases h_)⟩)⟩) rfl) ?_
      rintro hc309 w305 ⟨b306, S307, K308⟩
      replace h287 := h287.move (K308.at 0 rfl)
      replace h291 := h291.move (K308.at 1 rfl)
      replace b23 := K308.blk 2 rfl b23
      replace b18 := K308.blk 3 rfl b18
      refine ⟨⟨(Ext.trans (((((E95.trans E258).trans E264).trans E271).trans E277).trans E296) S307.inv), (fun b_ h_ => (K308.at 2 rfl b_ h_).trans (hs303.2.1 b_ h_)), (fun b_ h_ => (K308.at 3 rfl b_ h_).trans (hs303.2.2 b_ h_))⟩, fun hs310 => ?_⟩
      clear b241
      refine xone (i := 11) (by kernel_rfl) hc309 ?_
      refine yo (i := 11) (d := 9) rfl rfl (wanted_none rfl _) (by kernel_rfl) (by kernel_rfl) (fun _ _ => Iff.rfl) hs310 (e_assign (v := .int .i64 t280.2) (by kernel_rfl)) ?_; intro hc311 hs312
      refine xn (by kernel_rfl) ?_ _
      have S313 := S307.pull (F := F292) (Fr := [(is g240), F288, (is g22), (is g17)]) 2 rfl rfl
      have S314 := S313.pull (F := F288) (Fr := [F292, (is g240), (is g22), (is g17)]) 2 rfl rfl
      have S315 := S314.pull (F := (is g17)) (Fr := [F288, F292, (is g240), (is g22)]) 4 rfl rfl
      have S316 := S315.pull (F := (is g22)) (Fr := [(is g17), F288, F292, (is g240)]) 4 rfl rfl
      exact ⟨rfl, _, H283, g240, t280.1.cells, A285, c286, F288, t280.1.trail, A289, c290, F292, t280.2, rfl, (by kernel_rfl), (by kernel_rfl), (by kernel_rfl), (by kernel_rfl), (by kernel_rfl), b23, b18, h287, h291, b306, (((((E95.trans E258).trans E264).trans E271).trans E277).trans E296), S316, M⟩
    refine ye (i := 9) (d := 8) rfl rfl (wanted_none rfl _) (by kernel_rfl) (by kernel_rfl) (new_blk (v := fun g_ => .pointer (some ⟨g_, 0, none⟩)) (cs := #[.slice none 0 0, .slice none 0 0]) (t := 34) S67 (by kernel_rfl)) ?_
    rintro hc322 _ w317 ⟨g318, rfl, b319, S320, K321⟩
    replace b23 := K321.blk 0 rfl b23
    replace b18 := K321.blk 1 rfl b18
    refine ⟨⟨S320.inv, (fun b_ h_ => (K321.at 0 rfl b_ h_).trans (hs78.2.1 b_ h_)), (fun b_ h_ => (K321.at 1 rfl b_ h_).trans (hs78.2.2 b_ h_))⟩, fun hs323 => ?_⟩
    obtain ⟨t324, u325, M⟩ := bnd M
    refine xone (i := 1) (by kernel_rfl) hc322 ?_
    refine yc (i := 1) rfl (wanted_none rfl _) (by kernel_rfl) (by kernel_rfl) (e_call (l := [.tmp 30]) (vs := [.agg #[.slice A2 x1.cells.length c3, .slice A6 x1.trail.length c7]]) Try.func12 (by kernel_rfl) rfl (by kernel_rfl) rfl) (laws_toStore.calls k w317 H x1 A2 c3 A6 c7 h4 l5 h8 l9 (St.own' (Fa := []) (Fr := [(is g318), (is g22), (is g17)]) S320) t324 u325) ?_
    rintro hc337 _ w326 ⟨A329, c330, F332, A333, c334, F336, H327, rfl, h331, h335, T328⟩
    refine ⟨_, rfl, ?_⟩
    obtain ⟨S338, K339⟩ := St.call (Fa := []) (Fr := [(is g318), (is g22), (is g17)]) S320 T328
    replace b319 := K339.blk 0 rfl b319
    replace b23 := K339.blk 1 rfl b23
    replace b18 := K339.blk 2 rfl b18
    have E340 := T328.ext
    refine ⟨⟨(Ext.trans E340 S338.inv), (fun b_ h_ => (K339.at 1 rfl b_ h_).trans (hs323.2.1 b_ h_)), (fun b_ h_ => (K339.at 2 rfl b_ h_).trans (hs323.2.2 b_ h_))⟩, fun hs341 => ?_⟩
    obtain ⟨t342, u343, M⟩ := bnd M
    refine xone (i := 4) (by kernel_rfl) hc337 ?_
    refine yc (i := 4) rfl (wanted_none rfl _) (by kernel_rfl) (by kernel_rfl) (e_call (l := [.tmp 33]) (vs := [.agg #[.int .i64 x11.kind, .int .i64 x11.n, .slice A12 x11.text.length c13]]) Try.func13 (by kernel_rfl) rfl (by kernel_rfl) rfl) (laws_toCell.calls k w326 H327 x11 A12 c13 (h14.ext E340) l15 (St.own' (Fa := []) (Fr := [F332, F336, (is g318), (is g22), (is g17)]) S338) t342 u343) ?_
    rintro hc351 _ w344 ⟨A347, c348, F350, H345, rfl, h349, T346⟩
    refine ⟨_, rfl, ?_⟩
    obtain ⟨S352, K353⟩ := St.call (Fa := []) (Fr := [F332, F336, (is g318), (is g22), (is g17)]) S338 T346
    replace h331 := h331.move (K353.at 0 rfl)
    replace h335 := h335.move (K353.at 1 rfl)
    replace b319 := K353.blk 2 rfl b319
    replace b23 := K353.blk 3 rfl b23
    replace b18 := K353.blk 4 rfl b18
    have E354 := T346.ext
    replace h331 := h331.ext E354
    replace h335 := h335.ext E354
    refine ⟨⟨(Ext.trans (E340.trans E354) S352.inv), (fun b_ h_ => (K353.at 3 rfl b_ h_).trans (hs341.2.1 b_ h_)), (fun b_ h_ => (K353.at 4 rfl b_ h_).trans (hs341.2.2 b_ h_))⟩, fun hs355 => ?_⟩
    have l356 := h331.le
    have S357 := S352.pull (F := F332) (Fr := [F350, F336, (is g318), (is g22), (is g17)]) 1 rfl rfl
    obtain ⟨H358, S359, E360, h361, z362⟩ := S357.frzRow h331
    replace h349 := h349.ext E360
    replace h335 := h335.ext E360
    have l363 := h335.le
    have S364 := S359.pull (F := F336) (Fr := [F350, (is g318), (is g22), (is g17)]) 1 rfl rfl
    obtain ⟨H365, S366, E367, h368, z369⟩ := S364.frzRow h335
    replace h349 := h349.ext E367
    have l370 := h349.le
    obtain ⟨H371, S372, E373, h374, z375⟩ := S366.frzRow h349
    obtain ⟨t376, u377, M⟩ := bnd M
    refine xone (i := 5) (by kernel_rfl) hc351 ?_
    refine yc (i := 5) rfl (wanted_none rfl _) (by kernel_rfl) (by kernel_rfl) (e_call (l := [.tmp 31, .tmp 32, .tmp 34]) (vs := [.agg #[.slice A329 t324.cells.length c330, .slice A333 t324.trail.length c334], .int .i64 x10, .agg #[.int .i64 t342.kind, .int .i64 t342.n, .slice A347 t342.text.length c348]]) Try.func30 (by kernel_rfl) rfl (by kernel_rfl) rfl) (spec_BindCell.calls k w344 H371 t324 A329 c330 A333 c334 x10 t342 A347 c348 (h361.ext (E367.trans E373)) l356 (h368.ext E373) l363 h374 l370 (St.own' (Fa := []) (Fr := [(is g318), (is g22), (is g17)]) S372) t376 u377) ?_
    rintro hc389 _ w378 ⟨A381, c382, F384, A385, c386, F388, H379, rfl, h383, h387, T380⟩
    refine ⟨_, rfl, ?_⟩
    obtain ⟨S390, K391⟩ := St.call (Fa := []) (Fr := [(is g318), (is g22), (is g17)]) S372 T380
    replace b319 := K391.blk 0 rfl b319
    replace b23 := K391.blk 1 rfl b23
    replace b18 := K391.blk 2 rfl b18
    have E392 := T380.ext
    refine ⟨⟨(Ext.trans (((((E340.trans E354).trans E360).trans E367).trans E373).trans E392) S390.inv), (fun b_ h_ => (K391.at 1 rfl b_ h_).trans (hs355.2.1 b_ h_)), (fun b_ h_ => (K391.at 2 rfl b_ h_).trans (hs355.2.2 b_ h_))⟩, fun hs393 => ?_⟩
    refine xone (i := 6) (by kernel_rfl) hc389 ?_
    refine yo (i := 6) (d := 29) rfl rfl (wanted_none rfl _) (by kernel_rfl) (by kernel_rfl) (fun _ _ => Iff.rfl) hs393 (e_move (v := .tuple #[.agg #[.slice A381 t376.1.cells.length c382, .slice A385 t376.1.trail.length c386], .int .i64 t376.2]) (by kernel_rfl)) ?_; intro hc394 hs395
    refine xv (i := 7) (d := 36) rfl rfl rfl (by kernel_rfl) (by kernel_rfl) (fun _ _ => Iff.rfl) hc394 hs395 (fun L_ w_ hc_ hu_ hs_ => e_extract (vs := #[.agg #[.slice A381 t376.1.cells.length c382, .slice A385 t376.1.trail.length c386], .int .i64 t376.2]) (v := .agg #[.slice A381 t376.1.cells.length c382, .slice A385 t376.1.trail.length c386]) (by kernel_rfl) rfl) ?_; intro hc396 hs397
    refine xv (i := 8) (d := 37) rfl rfl rfl (by kernel_rfl) (by kernel_rfl) (fun _ _ => Iff.rfl) hc396 hs397 (fun L_ w_ hc_ hu_ hs_ => e_extract (vs := #[.agg #[.slice A381 t376.1.cells.length c382, .slice A385 t376.1.trail.length c386], .int .i64 t376.2]) (v := .int .i64 t376.2) (by kernel_rfl) rfl) ?_; intro hc398 hs399
    have S400 := S390.pull (F := (is g318)) (Fr := [F384, F388, (is g22), (is g17)]) 2 rfl rfl
    refine xone (i := 10) (by kernel_rfl) hc398 ?_
    refine ys (i := 10) rfl rfl (wanted_none rfl _) (by kernel_rfl) (by kernel_rfl) (e_store (g := g318) (o := 0) (v := .agg #[.slice A381 t376.1.cells.length c382, .slice A385 t376.1.trail.length c386]) (cur' := #[.slice A381 t376.1.cells.length c382, .slice A385 t376.1.trail.length c386]) (vs := [.slice A381 t376.1.cells.length c382, .slice A385 t376.1.trail.length c386]) S400 (by kernel_rfl) (by kernel_rfl) rfl (by kernel_rfl) b319 (Nat.le_of_ble_eq_true rfl) (List.forall_mem_cons.2 ⟨rfl, (List.forall_mem_cons.2 ⟨rfl, (fun _ h_ => by cases h_)⟩)⟩) rfl) ?_
    rintro hc405 w401 ⟨b402, S403, K404⟩
    replace h383 := h383.move (K404.at 0 rfl)
    replace h387 := h387.move (K404.at 1 rfl)
    replace b23 := K404.blk 2 rfl b23
    replace b18 := K404.blk 3 rfl b18
    refine ⟨⟨(Ext.trans (((((E340.trans E354).trans E360).trans E367).trans E373).trans E392) S403.inv), (fun b_ h_ => (K404.at 2 rfl b_ h_).trans (hs399.2.1 b_ h_)), (fun b_ h_ => (K404.at 3 rfl b_ h_).trans (hs399.2.2 b_ h_))⟩, fun hs406 => ?_⟩
    clear b319
    refine xone (i := 11) (by kernel_rfl) hc405 ?_
    refine yo (i := 11) (d := 9) rfl rfl (wanted_none rfl _) (by kernel_rfl) (by kernel_rfl) (fun _ _ => Iff.rfl) hs406 (e_assign (v := .int .i64 t376.2) (by kernel_rfl)) ?_; intro hc407 hs408
    refine xn (by kernel_rfl) ?_ _
    have S409 := S403.pull (F := F388) (Fr := [(is g318), F384, (is g22), (is g17)]) 2 rfl rfl
    have S410 := S409.pull (F := F384) (Fr := [F388, (is g318), (is g22), (is g17)]) 2 rfl rfl
    have S411 := S410.pull (F := (is g17)) (Fr := [F384, F388, (is g318), (is g22)]) 4 rfl rfl
    have S412 := S411.pull (F := (is g22)) (Fr := [(is g17), F384, F388, (is g318)]) 4 rfl rfl
    exact ⟨rfl, _, H379, g318, t376.1.cells, A381, c382, F384, t376.1.trail, A385, c386, F388, t376.2, rfl, (by kernel_rfl), (by kernel_rfl), (by kernel_rfl), (by kernel_rfl), (by kernel_rfl), b23, b18, h383, h387, b402, (((((E340.trans E354).trans E360).trans E367).trans E373).trans E392), S412, M⟩
  clear M
  rintro a65 w40 ⟨f41, H42, g44, x46, A47, c48, F49, x51, A52, c53, F54, x56, rfl, e57, e58, e59, e60, e61, b23, b18, h50, h55, b45, Y43, S62, M⟩
  rw [laws_FnExactBindCell.l0] at M
  refine then_n (wp_seq (wp_region_lit (lv (d := 38) rfl rfl (by kernel_rfl) (e_loadS (b := g17) (off := 0) (cs := [.slice A2 x1.cells.length c3, .slice A6 x1.trail.length c7]) Try.underlying25 rfl (by kernel_rfl) (by exact e58) (blk_cells b18 rfl)) ?_)))
  obtain ⟨t413, u414, M⟩ := bnd M
  refine lcall (d := 39) rfl rfl (by kernel_rfl) (e_call (l := [.tmp 38]) (vs := [.agg #[.slice A2 x1.cells.length c3, .slice A6 x1.trail.length c7]]) Try.func12 (by kernel_rfl) rfl (by kernel_rfl) rfl) (laws_toStore.calls k w40 H42 x1 A2 c3 A6 c7 (h4.ext Y43) l5 (h8.ext Y43) l9 (St.own' (Fa := []) (Fr := [(is g22), (is g17), F49, F54, (is g44)]) S62) t413 u414) ?_
  rintro _ w415 ⟨A418, c419, F421, A422, c423, F425, H416, rfl, h420, h424, T417⟩
  refine ⟨_, rfl, ?_⟩
  obtain ⟨S426, K427⟩ := St.call (Fa := []) (Fr := [(is g22), (is g17), F49, F54, (is g44)]) S62 T417
  replace b23 := K427.blk 0 rfl b23
  replace b18 := K427.blk 1 rfl b18
  replace h50 := h50.move (K427.at 2 rfl)
  replace h55 := h55.move (K427.at 3 rfl)
  replace b45 := K427.blk 4 rfl b45
  have E428 := T417.ext
  replace h50 := h50.ext E428
  replace h55 := h55.ext E428
  refine lve (d := 10) rfl rfl (by kernel_rfl) (new_blk (v := fun g_ => .pointer (some ⟨g_, 0, none⟩)) (cs := #[.slice none 0 0, .slice none 0 0]) (t := 34) S426 (by kernel_rfl)) ?_
  rintro _ w429 ⟨g430, rfl, b431, S432, K433⟩
  replace h420 := h420.move (K433.at 0 rfl)
  replace h424 := h424.move (K433.at 1 rfl)
  replace b23 := K433.blk 2 rfl b23
  replace b18 := K433.blk 3 rfl b18
  replace h50 := h50.move (K433.at 4 rfl)
  replace h55 := h55.move (K433.at 5 rfl)
  replace b45 := K433.blk 6 rfl b45
  refine lse rfl rfl (by kernel_rfl) (e_store (g := g430) (o := 0) (v := .agg #[.slice A418 t413.cells.length c419, .slice A422 t413.trail.length c423]) (cur' := #[.slice A418 t413.cells.length c419, .slice A422 t413.trail.length c423]) (vs := [.slice A418 t413.cells.length c419, .slice A422 t413.trail.length c423]) S432 (by kernel_rfl) (by kernel_rfl) rfl (by kernel_rfl) b431 (Nat.le_of_ble_eq_true rfl) (List.forall_mem_cons.2 ⟨rfl, (List.forall_mem_cons.2 ⟨rfl, (fun _ h_ => by cases h_)⟩)⟩) rfl) ?_
  rintro w434 ⟨b435, S436, K437⟩
  replace h420 := h420.move (K437.at 0 rfl)
  replace h424 := h424.move (K437.at 1 rfl)
  replace b23 := K437.blk 2 rfl b23
  replace b18 := K437.blk 3 rfl b18
  replace h50 := h50.move (K437.at 4 rfl)
  replace h55 := h55.move (K437.at 5 rfl)
  replace b45 := K437.blk 6 rfl b45
  clear b431
  refine wpList_nil (then_n (wp_seq (wp_region_lit (lv (d := 40) rfl rfl (by kernel_rfl) (e_loadS (b := g22) (off := 0) (cs := [.int .i64 x11.kind, .int .i64 x11.n, .slice A12 x11.text.length c13]) Try.underlying28 rfl (by kernel_rfl) (by exact e59) (blk_cells b23 rfl)) ?_))))
  obtain ⟨t438, u439, M⟩ := bnd M
  refine lcall (d := 41) rfl rfl (by kernel_rfl) (e_call (l := [.tmp 40]) (vs := [.agg #[.int .i64 x11.kind, .int .i64 x11.n, .slice A12 x11.text.length c13]]) Try.func13 (by kernel_rfl) rfl (by kernel_rfl) rfl) (laws_toCell.calls k w434 H416 x11 A12 c13 (h14.ext (Y43.trans E428)) l15 (St.own' (Fa := []) (Fr := [(is g430), F421, F425, (is g22), (is g17), F49, F54, (is g44)]) S436) t438 u439) ?_
  rintro _ w440 ⟨A443, c444, F446, H441, rfl, h445, T442⟩
  refine ⟨_, rfl, ?_⟩
  obtain ⟨S447, K448⟩ := St.call (Fa := []) (Fr := [(is g430), F421, F425, (is g22), (is g17), F49, F54, (is g44)]) S436 T442
  replace b435 := K448.blk 0 rfl b435
  replace h420 := h420.move (K448.at 1 rfl)
  replace h424 := h424.move (K448.at 2 rfl)
  replace b23 := K448.blk 3 rfl b23
  replace b18 := K448.blk 4 rfl b18
  replace h50 := h50.move (K448.at 5 rfl)
  replace h55 := h55.move (K448.at 6 rfl)
  replace b45 := K448.blk 7 rfl b45
  have E449 := T442.ext
  replace h420 := h420.ext E449
  replace h424 := h424.ext E449
  replace h50 := h50.ext E449
  replace h55 := h55.ext E449
  refine lve (d := 11) rfl rfl (by kernel_rfl) (new_blk (v := fun g_ => .pointer (some ⟨g_, 0, none⟩)) (cs := #[.int .i64 0, .int .i64 0, .slice none 0 0]) (t := 36) S447 (by kernel_rfl)) ?_
  rintro _ w450 ⟨g451, rfl, b452, S453, K454⟩
  replace h445 := h445.move (K454.at 0 rfl)
  replace b435 := K454.blk 1 rfl b435
  replace h420 := h420.move (K454.at 2 rfl)
  replace h424 := h424.move (K454.at 3 rfl)
  replace b23 := K454.blk 4 rfl b23
  replace b18 := K454.blk 5 rfl b18
  replace h50 := h50.move (K454.at 6 rfl)
  replace h55 := h55.move (K454.at 7 rfl)
  replace b45 := K454.blk 8 rfl b45
  refine lse rfl rfl (by kernel_rfl) (e_store (g := g451) (o := 0) (v := .agg #[.int .i64 t438.kind, .int .i64 t438.n, .slice A443 t438.text.length c444]) (cur' := #[.int .i64 t438.kind, .int .i64 t438.n, .slice A443 t438.text.length c444]) (vs := [.int .i64 t438.kind, .int .i64 t438.n, .slice A443 t438.text.length c444]) S453 (by kernel_rfl) (by kernel_rfl) rfl (by kernel_rfl) b452 (Nat.le_of_ble_eq_true rfl) (List.forall_mem_cons.2 ⟨rfl, (List.forall_mem_cons.2 ⟨rfl, (List.forall_mem_cons.2 ⟨rfl, (fun _ h_ => by cases h_)⟩)⟩)⟩) rfl) ?_
  rintro w455 ⟨b456, S457, K458⟩
  replace h445 := h445.move (K458.at 0 rfl)
  replace b435 := K458.blk 1 rfl b435
  replace h420 := h420.move (K458.at 2 rfl)
  replace h424 := h424.move (K458.at 3 rfl)
  replace b23 := K458.blk 4 rfl b23
  replace b18 := K458.blk 5 rfl b18
  replace h50 := h50.move (K458.at 6 rfl)
  replace h55 := h55.move (K458.at 7 rfl)
  replace b45 := K458.blk 8 rfl b45
  clear b452
  refine wpList_nil (then_n (wp_seq (wp_region_lit (lv (d := 43) rfl rfl (by kernel_rfl) (e_loadS (b := g430) (off := 0) (cs := [.slice A418 t413.cells.length c419, .slice A422 t413.trail.length c423]) Try.underlying34 rfl (by kernel_rfl) (by kernel_rfl) (blk_cells b435 rfl)) (lv (d := 44) rfl rfl (by kernel_rfl) (e_move (v := .int .i64 x10) (by exact e57)) (lv (d := 45) rfl rfl (by kernel_rfl) (e_loadS (b := g451) (off := 0) (cs := [.int .i64 t438.kind, .int .i64 t438.n, .slice A443 t438.text.length c444]) Try.underlying36 rfl (by kernel_rfl) (by kernel_rfl) (blk_cells b456 rfl)) ?_))))))
  have S459 := S457.pull (F := F421) (Fr := [(is g451), F446, (is g430), F425, (is g22), (is g17), F49, F54, (is g44)]) 3 rfl rfl
  have l460 := h420.le
  obtain ⟨H461, S462, E463, h464, z465⟩ := S459.frzRow h420
  have h466 := h445.ext E463
  have h467 := h424.ext E463
  have h468 := h50.ext E463
  have h469 := h55.ext E463
  have S470 := S462.pull (F := F425) (Fr := [(is g451), F446, (is g430), (is g22), (is g17), F49, F54, (is g44)]) 3 rfl rfl
  have l471 := h467.le
  obtain ⟨H472, S473, E474, h475, z476⟩ := S470.frzRow h467
  have h477 := h466.ext E474
  have h478 := h468.ext E474
  have h479 := h469.ext E474
  have S480 := S473.pull (F := F446) (Fr := [(is g451), (is g430), (is g22), (is g17), F49, F54, (is g44)]) 1 rfl rfl
  have l481 := h477.le
  obtain ⟨H482, S483, E484, h485, z486⟩ := S480.frzRow h477
  have h487 := h478.ext E484
  have h488 := h479.ext E484
  obtain ⟨t489, u490, M⟩ := bnd M
  refine lcall (d := 46) rfl rfl (by kernel_rfl) (e_call (l := [.tmp 43, .tmp 44, .tmp 45]) (vs := [.agg #[.slice A418 t413.cells.length c419, .slice A422 t413.trail.length c423], .int .i64 x10, .agg #[.int .i64 t438.kind, .int .i64 t438.n, .slice A443 t438.text.length c444]]) Try.func31 (by kernel_rfl) rfl (by kernel_rfl) rfl) (impl_BindCell.calls k w455 H482 t413 A418 c419 A422 c423 x10 t438 A443 c444 (h464.ext (E474.trans E484)) l460 (h475.ext E484) l471 h485 l481 S483.own0 t489 u490) ?_
  rintro _ w491 ⟨A494, c495, F497, A498, c499, F501, H492, rfl, h496, h500, T493⟩
  refine ⟨_, rfl, ?_⟩
  obtain ⟨S502, K503⟩ := St.call (Fa := []) (Fr := [(is g451), (is g430), (is g22), (is g17), F49, F54, (is g44)]) S483 T493
  replace b456 := K503.blk 0 rfl b456
  replace b435 := K503.blk 1 rfl b435
  replace b23 := K503.blk 2 rfl b23
  replace b18 := K503.blk 3 rfl b18
  replace h50 := h50.move (K503.at 4 rfl)
  replace h55 := h55.move (K503.at 5 rfl)
  replace b45 := K503.blk 6 rfl b45
  obtain ⟨H504, S505, E506, v507⟩ := St.thaw S480 z486 S502 T493.ext E484 T493.size
  replace h445 := h445.move v507
  obtain ⟨H508, S509, E510, v511⟩ := St.thaw S470 z476 S505 E506 E474 T493.size
  replace h424 := h424.move v511
  obtain ⟨H512, S513, E514, v515⟩ := St.thaw S459 z465 S509 E510 E463 T493.size
  replace h420 := h420.move v515
  replace h420 := h420.ext E514
  replace h424 := h424.ext E514
  replace h445 := h445.ext E514
  replace h50 := h50.ext E514
  replace h55 := h55.ext E514
  replace h496 := Row.free (H' := H512) (free_iso (free_pair (free_scal _ _) (free_pair (free_scal _ _) (free_slice (free_scal _ _))))) h496
  replace h500 := Row.free (H' := H512) (free_scal _ _) h500
  refine lv (d := 42) rfl rfl (by kernel_rfl) (e_move (v := .tuple #[.agg #[.slice A494 t489.1.cells.length c495, .slice A498 t489.1.trail.length c499], .int .i64 t489.2]) (by kernel_rfl)) (lv (d := 47) rfl rfl (by kernel_rfl) (e_extract (vs := #[.agg #[.slice A494 t489.1.cells.length c495, .slice A498 t489.1.trail.length c499], .int .i64 t489.2]) (v := .agg #[.slice A494 t489.1.cells.length c495, .slice A498 t489.1.trail.length c499]) (by kernel_rfl) rfl) (lv (d := 48) rfl rfl (by kernel_rfl) (e_extract (vs := #[.agg #[.slice A494 t489.1.cells.length c495, .slice A498 t489.1.trail.length c499], .int .i64 t489.2]) (v := .int .i64 t489.2) (by kernel_rfl) rfl) ?_))
  refine lve (d := 12) rfl rfl (by kernel_rfl) (new_blk (v := fun g_ => .pointer (some ⟨g_, 0, none⟩)) (cs := #[.slice none 0 0, .slice none 0 0]) (t := 34) S513 (by kernel_rfl)) ?_
  rintro _ w516 ⟨g517, rfl, b518, S519, K520⟩
  replace h420 := h420.move (K520.at 0 rfl)
  replace h424 := h424.move (K520.at 1 rfl)
  replace h445 := h445.move (K520.at 2 rfl)
  replace h496 := h496.move (K520.at 3 rfl)
  replace h500 := h500.move (K520.at 4 rfl)
  replace b456 := K520.blk 5 rfl b456
  replace b435 := K520.blk 6 rfl b435
  replace b23 := K520.blk 7 rfl b23
  replace b18 := K520.blk 8 rfl b18
  replace h50 := h50.move (K520.at 9 rfl)
  replace h55 := h55.move (K520.at 10 rfl)
  replace b45 := K520.blk 11 rfl b45
  refine lse rfl rfl (by kernel_rfl) (e_store (g := g517) (o := 0) (v := .agg #[.slice A494 t489.1.cells.length c495, .slice A498 t489.1.trail.length c499]) (cur' := #[.slice A494 t489.1.cells.length c495, .slice A498 t489.1.trail.length c499]) (vs := [.slice A494 t489.1.cells.length c495, .slice A498 t489.1.trail.length c499]) S519 (by kernel_rfl) (by kernel_rfl) rfl (by kernel_rfl) b518 (Nat.le_of_ble_eq_true rfl) (List.forall_mem_cons.2 ⟨rfl, (List.forall_mem_cons.2 ⟨rfl, (fun _ h_ => by cases h_)⟩)⟩) rfl) ?_
  rintro w521 ⟨b522, S523, K524⟩
  replace h420 := h420.move (K524.at 0 rfl)
  replace h424 := h424.move (K524.at 1 rfl)
  replace h445 := h445.move (K524.at 2 rfl)
  replace h496 := h496.move (K524.at 3 rfl)
  replace h500 := h500.move (K524.at 4 rfl)
  replace b456 := K524.blk 5 rfl b456
  replace b435 := K524.blk 6 rfl b435
  replace b23 := K524.blk 7 rfl b23
  replace b18 := K524.blk 8 rfl b18
  replace h50 := h50.move (K524.at 9 rfl)
  replace h55 := h55.move (K524.at 10 rfl)
  replace b45 := K524.blk 11 rfl b45
  clear b518
  refine lv (d := 13) rfl rfl (by kernel_rfl) (e_assign (v := .int .i64 t489.2) (by kernel_rfl)) (wpList_nil (then_n (wp_seq (wp_seq (wp_region_lit (lv (d := 49) rfl rfl (by kernel_rfl) (e_loadS (b := g517) (off := 0) (cs := [.slice A494 t489.1.cells.length c495, .slice A498 t489.1.trail.length c499]) Try.underlying34 rfl (by kernel_rfl) (by kernel_rfl) (blk_cells b522 rfl)) (lv (d := 50) rfl rfl (by kernel_rfl) (e_loadS (b := g44) (off := 0) (cs := [.slice A47 x46.length c48, .slice A52 x51.length c53]) Try.underlying34 rfl (by kernel_rfl) (by exact e60) (blk_cells b45 rfl)) ?_)))))))
  obtain ⟨t525, u526, M⟩ := bnd M
  refine lcall (d := 51) rfl rfl (by kernel_rfl) (e_call (l := [.tmp 49, .tmp 50]) (vs := [.agg #[.slice A494 t489.1.cells.length c495, .slice A498 t489.1.trail.length c499], .agg #[.slice A47 x46.length c48, .slice A52 x51.length c53]]) Try.func15 (by kernel_rfl) rfl (by kernel_rfl) rfl) (by have l527 := h496.le; have S528 := S523.pull (F := F497) (Fr := [(is g517), F421, F425, F446, F501, (is g451), (is g430), (is g22), (is g17), F49, F54, (is g44)]) 4 rfl rfl; obtain ⟨H529, S530, E531, h532, z533⟩ := S528.frzRow h496; replace h420 := h420.ext E531; replace h424 := h424.ext E531; replace h445 := h445.ext E531; replace h500 := h500.ext E531; replace h50 := h50.ext E531; replace h55 := h55.ext E531; have l534 := h500.le; have S535 := S530.pull (F := F501) (Fr := [(is g517), F421, F425, F446, (is g451), (is g430), (is g22), (is g17), F49, F54, (is g44)]) 4 rfl rfl; obtain ⟨H536, S537, E538, h539, z540⟩ := S535.frzRow h500; replace h420 := h420.ext E538; replace h424 := h424.ext E538; replace h445 := h445.ext E538; replace h50 := h50.ext E538; replace h55 := h55.ext E538; have l541 := h50.le; have S542 := S537.pull (F := F49) (Fr := [(is g517), F421, F425, F446, (is g451), (is g430), (is g22), (is g17), F54, (is g44)]) 8 rfl rfl; obtain ⟨H543, S544, E545, h546, z547⟩ := S542.frzRow h50; replace h420 := h420.ext E545; replace h424 := h424.ext E545; replace h445 := h445.ext E545; replace h55 := h55.ext E545; have l548 := h55.le; have S549 := S544.pull (F := F54) (Fr := [(is g517), F421, F425, F446, (is g451), (is g430), (is g22), (is g17), (is g44)]) 8 rfl rfl; obtain ⟨H550, S551, E552, h553, z554⟩ := S549.frzRow h55; replace h420 := h420.ext E552; replace h424 := h424.ext E552; replace h445 := h445.ext E552; exact (laws_eqStore.calls k w521 H550 t489.1 A494 c495 A498 c499 (⟨x46, x51⟩ : Store) A47 c48 A52 c53 (h532.ext ((E538.trans E545).trans E552)) l527 (h539.ext (E545.trans E552)) l534 (h546.ext E552) l541 h553 l548 S551.own0 t525 u526)) ?_
  rintro _ w555 ⟨rfl, C556⟩
  refine ⟨_, rfl, ?_⟩
  obtain ⟨S557, K558⟩ := S523.still C556
  replace b522 := K558.blk 0 rfl b522
  replace h420 := h420.move (K558.at 1 rfl)
  replace h424 := h424.move (K558.at 2 rfl)
  replace h445 := h445.move (K558.at 3 rfl)
  replace h496 := h496.move (K558.at 4 rfl)
  replace h500 := h500.move (K558.at 5 rfl)
  replace b456 := K558.blk 6 rfl b456
  replace b435 := K558.blk 7 rfl b435
  replace b23 := K558.blk 8 rfl b23
  replace b18 := K558.blk 9 rfl b18
  replace h50 := h50.move (K558.at 10 rfl)
  replace h55 := h55.move (K558.at 11 rfl)
  replace b45 := K558.blk 12 rfl b45
  refine lv (d := 52) rfl rfl (by kernel_rfl) (e_notv (c := t525) (by kernel_rfl)) (lv (d := 53) rfl rfl (by kernel_rfl) (e_move (v := .bool (decide (¬ (t525 = true)))) (by kernel_rfl)) ?_)
  by_cases q559 : ¬ (t525 = true)
  · replace M := ifp q559 M
    refine lskip (t := 53) (c := true) rfl (by kernel_rfl) rfl (bt q559 (by kernel_rfl)) rfl rfl ?_
    refine lskip (t := 53) (c := true) rfl (by kernel_rfl) rfl (bt q559 (by kernel_rfl)) rfl rfl ?_
    refine lskip (t := 53) (c := true) rfl (by kernel_rfl) rfl (bt q559 (by kernel_rfl)) rfl rfl ?_
    refine lv (d := 57) rfl rfl (by kernel_rfl) (e_pick_t (v := .bool true) (bt q559 (by kernel_rfl)) rfl) (wpList_nil (then_n (cond_t rfl (by kernel_rfl) (wp_seq (wp_region_lit (lv (d := 6) rfl rfl (by kernel_rfl) (e_assign (v := .bool false) rfl) (wpList_nil ?_)))))))
    refine then_n (wp_ret (then_r ?_))
    obtain rfl := Option.some.inj M
    exact ret1 rfl rfl  (show _ = .bool false from (by kernel_rfl)) ⟨rfl, S557.chg⟩
  replace M := ifn q559 M
  refine lvg (d := 54) (t := 53) rfl (by kernel_rfl) rfl (bf q559 (by kernel_rfl)) rfl (by kernel_rfl) (e_move (v := .int .i64 t489.2) (by kernel_rfl)) (lvg (d := 55) (t := 53) rfl (by kernel_rfl) rfl (bf q559 (by kernel_rfl)) rfl (by kernel_rfl) (e_move (v := .int .i64 x56) (by exact e61)) (lvg (d := 56) (t := 53) rfl (by kernel_rfl) rfl (bf q559 (by kernel_rfl)) rfl (by kernel_rfl) (e_neq (k := .i64) (a := t489.2) (b := x56) (by kernel_rfl) (by kernel_rfl)) (lv (d := 57) rfl rfl (by kernel_rfl) (e_pick_f (v := .bool (decide (t489.2 ≠ x56))) (bf q559 (by kernel_rfl)) (by kernel_rfl)) (wpList_nil (then_n ?_)))))
  by_cases q560 : t489.2 ≠ x56
  · replace M := ifp q560 M
    refine cond_t rfl (bt q560 (by kernel_rfl)) (wp_seq (wp_region_lit (lv (d := 6) rfl rfl (by kernel_rfl) (e_assign (v := .bool false) rfl) (wpList_nil (then_n (wp_ret (then_r ?_)))))))
    obtain rfl := Option.some.inj M
    exact ret1 rfl rfl  (show _ = .bool false from (by kernel_rfl)) ⟨rfl, S557.chg⟩
  replace M := ifn q560 M
  refine cond_f rfl (bf q560 (by kernel_rfl)) (wp_skip (then_n (wp_seq (wp_seq ?_))))
  refine region_mix (S := (fun (L_ : Array Bool) (w_ : World) => Ext H512 (hp w_) ∧ (∀ b_, (is g430) b_ → hp w_ b_ = hp w555 b_))) (by kernel_rfl) S557 ?_
  intro w561 S562 K563 hc564
  have o565 := b435
  have hs566 : (fun (L_ : Array Bool) (w_ : World) => Ext H512 (hp w_) ∧ (∀ b_, (is g430) b_ → hp w_ b_ = hp w555 b_)) (Array.replicate 5 false) w561 := ⟨S562.inv, (fun b_ h_ => K563.at 7 rfl b_ h_)⟩
  replace b522 := K563.blk 0 rfl b522
  replace h420 := h420.move (K563.at 1 rfl)
  replace h424 := h424.move (K563.at 2 rfl)
  replace h445 := h445.move (K563.at 3 rfl)
  replace h496 := h496.move (K563.at 4 rfl)
  replace h500 := h500.move (K563.at 5 rfl)
  replace b456 := K563.blk 6 rfl b456
  replace b435 := K563.blk 7 rfl b435
  replace b23 := K563.blk 8 rfl b23
  replace b18 := K563.blk 9 rfl b18
  replace h50 := h50.move (K563.at 10 rfl)
  replace h55 := h55.move (K563.at 11 rfl)
  replace b45 := K563.blk 12 rfl b45
  refine xv (i := 0) (d := 58) rfl rfl rfl (by kernel_rfl) (by kernel_rfl) (fun _ _ => Iff.rfl) hc564 hs566 (fun L_ w_ hc_ hu_ hs_ => e_loadS (b := g430) (off := 0) (cs := [.slice A418 t413.cells.length c419, .slice A422 t413.trail.length c423]) Try.underlying34 rfl (by kernel_rfl) (by kernel_rfl) (blk_cells ((hs_.2 _ rfl).trans o565) rfl)) ?_; intro hc567 hs568
  refine xone (i := 1) (by kernel_rfl) hc567 ?_
  refine yo (i := 1) (d := 59) rfl rfl (wanted_none rfl _) (by kernel_rfl) (by kernel_rfl) (fun _ _ => Iff.rfl) hs568 (e_loadS (b := g17) (off := 0) (cs := [.slice A2 x1.cells.length c3, .slice A6 x1.trail.length c7]) Try.underlying25 rfl (by kernel_rfl) (by exact e58) (blk_cells b18 rfl)) ?_; intro hc569 hs570
  obtain ⟨t571, u572, M⟩ := bnd M
  refine xone (i := 2) (by kernel_rfl) hc569 ?_
  refine yc (i := 2) rfl (wanted_none rfl _) (by kernel_rfl) (by kernel_rfl) (e_call (l := [.tmp 59]) (vs := [.agg #[.slice A2 x1.cells.length c3, .slice A6 x1.trail.length c7]]) Try.func12 (by kernel_rfl) rfl (by kernel_rfl) rfl) (laws_toStore.calls k w561 H512 x1 A2 c3 A6 c7 (h4.ext (((Y43.trans E428).trans E449).trans E514)) l5 (h8.ext (((Y43.trans E428).trans E449).trans E514)) l9 (St.own' (Fa := []) (Fr := [(is g517), F421, F425, F446, F497, F501, (is g451), (is g430), (is g22), (is g17), F49, F54, (is g44)]) S562) t571 u572) ?_
  rintro hc584 _ w573 ⟨A576, c577, F579, A580, c581, F583, H574, rfl, h578, h582, T575⟩
  refine ⟨_, rfl, ?_⟩
  obtain ⟨S585, K586⟩ := St.call (Fa := []) (Fr := [(is g517), F421, F425, F446, F497, F501, (is g451), (is g430), (is g22), (is g17), F49, F54, (is g44)]) S562 T575
  replace b522 := K586.blk 0 rfl b522
  replace h420 := h420.move (K586.at 1 rfl)
  replace h424 := h424.move (K586.at 2 rfl)
  replace h445 := h445.move (K586.at 3 rfl)
  replace h496 := h496.move (K586.at 4 rfl)
  replace h500 := h500.move (K586.at 5 rfl)
  replace b456 := K586.blk 6 rfl b456
  replace b435 := K586.blk 7 rfl b435
  replace b23 := K586.blk 8 rfl b23
  replace b18 := K586.blk 9 rfl b18
  replace h50 := h50.move (K586.at 10 rfl)
  replace h55 := h55.move (K586.at 11 rfl)
  replace b45 := K586.blk 12 rfl b45
  have E587 := T575.ext
  replace h420 := h420.ext E587
  replace h424 := h424.ext E587
  replace h445 := h445.ext E587
  replace h496 := h496.ext E587
  replace h500 := h500.ext E587
  replace h50 := h50.ext E587
  replace h55 := h55.ext E587
  refine ⟨⟨(Ext.trans E587 S585.inv), (fun b_ h_ => (K586.at 7 rfl b_ h_).trans (hs570.2 b_ h_))⟩, fun hs588 => ?_⟩
  obtain ⟨t589, u590, M⟩ := bnd M
  refine xone (i := 3) (by kernel_rfl) hc584 ?_
  refine yc (i := 3) rfl (wanted_none rfl _) (by kernel_rfl) (by kernel_rfl) (e_call (l := [.tmp 58, .tmp 60]) (vs := [.agg #[.slice A418 t413.cells.length c419, .slice A422 t413.trail.length c423], .agg #[.slice A576 t571.cells.length c577, .slice A580 t571.trail.length c581]]) Try.func15 (by kernel_rfl) rfl (by kernel_rfl) rfl) (by have l591 := h420.le; have S592 := S585.pull (F := F421) (Fr := [F579, F583, (is g517), F425, F446, F497, F501, (is g451), (is g430), (is g22), (is g17), F49, F54, (is g44)]) 3 rfl rfl; obtain ⟨H593, S594, E595, h596, z597⟩ := S592.frzRow h420; replace h578 := h578.ext E595; replace h582 := h582.ext E595; replace h424 := h424.ext E595; replace h445 := h445.ext E595; replace h496 := h496.ext E595; replace h500 := h500.ext E595; replace h50 := h50.ext E595; replace h55 := h55.ext E595; have l598 := h424.le; have S599 := S594.pull (F := F425) (Fr := [F579, F583, (is g517), F446, F497, F501, (is g451), (is g430), (is g22), (is g17), F49, F54, (is g44)]) 3 rfl rfl; obtain ⟨H600, S601, E602, h603, z604⟩ := S599.frzRow h424; replace h578 := h578.ext E602; replace h582 := h582.ext E602; replace h445 := h445.ext E602; replace h496 := h496.ext E602; replace h500 := h500.ext E602; replace h50 := h50.ext E602; replace h55 := h55.ext E602; have l605 := h578.le; obtain ⟨H606, S607, E608, h609, z610⟩ := S601.frzRow h578; replace h582 := h582.ext E608; replace h445 := h445.ext E608; replace h496 := h496.ext E608; replace h500 := h500.ext E608; replace h50 := h50.ext E608; replace h55 := h55.ext E608; have l611 := h582.le; obtain ⟨H612, S613, E614, h615, z616⟩ := S607.frzRow h582; replace h445 := h445.ext E614; replace h496 := h496.ext E614; replace h500 := h500.ext E614; replace h50 := h50.ext E614; replace h55 := h55.ext E614; exact (laws_eqStore.calls k w573 H612 t413 A418 c419 A422 c423 t571 A576 c577 A580 c581 (h596.ext ((E602.trans E608).trans E614)) l591 (h603.ext (E608.trans E614)) l598 (h609.ext E614) l605 h615 l611 S613.own0 t589 u590)) ?_
  rintro hc619 _ w617 ⟨rfl, C618⟩
  refine ⟨_, rfl, ?_⟩
  obtain ⟨S620, K621⟩ := S585.still C618
  replace h578 := h578.move (K621.at 0 rfl)
  replace h582 := h582.move (K621.at 1 rfl)
  replace b522 := K621.blk 2 rfl b522
  replace h420 := h420.move (K621.at 3 rfl)
  replace h424 := h424.move (K621.at 4 rfl)
  replace h445 := h445.move (K621.at 5 rfl)
  replace h496 := h496.move (K621.at 6 rfl)
  replace h500 := h500.move (K621.at 7 rfl)
  replace b456 := K621.blk 8 rfl b456
  replace b435 := K621.blk 9 rfl b435
  replace b23 := K621.blk 10 rfl b23
  replace b18 := K621.blk 11 rfl b18
  replace h50 := h50.move (K621.at 12 rfl)
  replace h55 := h55.move (K621.at 13 rfl)
  replace b45 := K621.blk 14 rfl b45
  refine ⟨⟨(Ext.trans E587 S620.inv), (fun b_ h_ => (K621.at 9 rfl b_ h_).trans (hs588.2 b_ h_))⟩, fun hs622 => ?_⟩
  refine xone (i := 4) (by kernel_rfl) hc619 ?_
  refine yo (i := 4) (d := 62) rfl rfl (wanted_none rfl _) (by kernel_rfl) (by kernel_rfl) (fun _ _ => Iff.rfl) hs622 (e_notv (c := t589) (by kernel_rfl)) ?_; intro hc623 hs624
  refine xn (by kernel_rfl) ?_ _
  refine then_n ?_
  by_cases q625 : ¬ (t589 = true)
  · replace M := ifp q625 M
    refine cond_t rfl (bt q625 (by kernel_rfl)) (wp_seq (wp_region_lit (lv (d := 6) rfl rfl (by kernel_rfl) (e_assign (v := .bool false) rfl) (wpList_nil (then_n (wp_ret (then_r ?_)))))))
    obtain rfl := Option.some.inj M
    exact ret1 rfl rfl  (show _ = .bool false from (by kernel_rfl)) ⟨rfl, S620.chg⟩
  replace M := ifn q625 M
  refine cond_f rfl (bf q625 (by kernel_rfl)) (wp_skip (then_n (wp_seq (wp_seq ?_))))
  refine region_mix (S := (fun (L_ : Array Bool) (w_ : World) => Ext H574 (hp w_) ∧ (∀ b_, (is g451) b_ → hp w_ b_ = hp w617 b_))) (by kernel_rfl) S620 ?_
  intro w626 S627 K628 hc629
  have o630 := b456
  have hs631 : (fun (L_ : Array Bool) (w_ : World) => Ext H574 (hp w_) ∧ (∀ b_, (is g451) b_ → hp w_ b_ = hp w617 b_)) (Array.replicate 5 false) w626 := ⟨S627.inv, (fun b_ h_ => K628.at 8 rfl b_ h_)⟩
  replace h578 := h578.move (K628.at 0 rfl)
  replace h582 := h582.move (K628.at 1 rfl)
  replace b522 := K628.blk 2 rfl b522
  replace h420 := h420.move (K628.at 3 rfl)
  replace h424 := h424.move (K628.at 4 rfl)
  replace h445 := h445.move (K628.at 5 rfl)
  replace h496 := h496.move (K628.at 6 rfl)
  replace h500 := h500.move (K628.at 7 rfl)
  replace b456 := K628.blk 8 rfl b456
  replace b435 := K628.blk 9 rfl b435
  replace b23 := K628.blk 10 rfl b23
  replace b18 := K628.blk 11 rfl b18
  replace h50 := h50.move (K628.at 12 rfl)
  replace h55 := h55.move (K628.at 13 rfl)
  replace b45 := K628.blk 14 rfl b45
  refine xv (i := 0) (d := 63) rfl rfl rfl (by kernel_rfl) (by kernel_rfl) (fun _ _ => Iff.rfl) hc629 hs631 (fun L_ w_ hc_ hu_ hs_ => e_loadS (b := g451) (off := 0) (cs := [.int .i64 t438.kind, .int .i64 t438.n, .slice A443 t438.text.length c444]) Try.underlying36 rfl (by kernel_rfl) (by kernel_rfl) (blk_cells ((hs_.2 _ rfl).trans o630) rfl)) ?_; intro hc632 hs633
  refine xone (i := 1) (by kernel_rfl) hc632 ?_
  refine yo (i := 1) (d := 64) rfl rfl (wanted_none rfl _) (by kernel_rfl) (by kernel_rfl) (fun _ _ => Iff.rfl) hs633 (e_loadS (b := g22) (off := 0) (cs := [.int .i64 x11.kind, .int .i64 x11.n, .slice A12 x11.text.length c13]) Try.underlying28 rfl (by kernel_rfl) (by exact e59) (blk_cells b23 rfl)) ?_; intro hc634 hs635
  obtain ⟨t636, u637, M⟩ := bnd M
  refine xone (i := 2) (by kernel_rfl) hc634 ?_
  refine yc (i := 2) rfl (wanted_none rfl _) (by kernel_rfl) (by kernel_rfl) (e_call (l := [.tmp 64]) (vs := [.agg #[.int .i64 x11.kind, .int .i64 x11.n, .slice A12 x11.text.length c13]]) Try.func13 (by kernel_rfl) rfl (by kernel_rfl) rfl) (laws_toCell.calls k w626 H574 x11 A12 c13 (h14.ext ((((Y43.trans E428).trans E449).trans E514).trans E587)) l15 (St.own' (Fa := []) (Fr := [F579, F583, (is g517), F421, F425, F446, F497, F501, (is g451), (is g430), (is g22), (is g17), F49, F54, (is g44)]) S627) t636 u637) ?_
  rintro hc645 _ w638 ⟨A641, c642, F644, H639, rfl, h643, T640⟩
  refine ⟨_, rfl, ?_⟩
  obtain ⟨S646, K647⟩ := St.call (Fa := []) (Fr := [F579, F583, (is g517), F421, F425, F446, F497, F501, (is g451), (is g430), (is g22), (is g17), F49, F54, (is g44)]) S627 T640
  replace h578 := h578.move (K647.at 0 rfl)
  replace h582 := h582.move (K647.at 1 rfl)
  replace b522 := K647.blk 2 rfl b522
  replace h420 := h420.move (K647.at 3 rfl)
  replace h424 := h424.move (K647.at 4 rfl)
  replace h445 := h445.move (K647.at 5 rfl)
  replace h496 := h496.move (K647.at 6 rfl)
  replace h500 := h500.move (K647.at 7 rfl)
  replace b456 := K647.blk 8 rfl b456
  replace b435 := K647.blk 9 rfl b435
  replace b23 := K647.blk 10 rfl b23
  replace b18 := K647.blk 11 rfl b18
  replace h50 := h50.move (K647.at 12 rfl)
  replace h55 := h55.move (K647.at 13 rfl)
  replace b45 := K647.blk 14 rfl b45
  have E648 := T640.ext
  replace h578 := h578.ext E648
  replace h582 := h582.ext E648
  replace h420 := h420.ext E648
  replace h424 := h424.ext E648
  replace h445 := h445.ext E648
  replace h496 := h496.ext E648
  replace h500 := h500.ext E648
  replace h50 := h50.ext E648
  replace h55 := h55.ext E648
  refine ⟨⟨(Ext.trans E648 S646.inv), (fun b_ h_ => (K647.at 8 rfl b_ h_).trans (hs635.2 b_ h_))⟩, fun hs649 => ?_⟩
  obtain ⟨t650, u651, M⟩ := bnd M
  refine xone (i := 3) (by kernel_rfl) hc645 ?_
  refine yc (i := 3) rfl (wanted_none rfl _) (by kernel_rfl) (by kernel_rfl) (e_call (l := [.tmp 63, .tmp 65]) (vs := [.agg #[.int .i64 t438.kind, .int .i64 t438.n, .slice A443 t438.text.length c444], .agg #[.int .i64 t636.kind, .int .i64 t636.n, .slice A641 t636.text.length c642]]) Try.func16 (by kernel_rfl) rfl (by kernel_rfl) rfl) (by have l652 := h445.le; have S653 := S646.pull (F := F446) (Fr := [F644, F579, F583, (is g517), F421, F425, F497, F501, (is g451), (is g430), (is g22), (is g17), F49, F54, (is g44)]) 6 rfl rfl; obtain ⟨H654, S655, E656, h657, z658⟩ := S653.frzRow h445; replace h643 := h643.ext E656; replace h578 := h578.ext E656; replace h582 := h582.ext E656; replace h420 := h420.ext E656; replace h424 := h424.ext E656; replace h496 := h496.ext E656; replace h500 := h500.ext E656; replace h50 := h50.ext E656; replace h55 := h55.ext E656; have l659 := h643.le; obtain ⟨H660, S661, E662, h663, z664⟩ := S655.frzRow h643; replace h578 := h578.ext E662; replace h582 := h582.ext E662; replace h420 := h420.ext E662; replace h424 := h424.ext E662; replace h496 := h496.ext E662; replace h500 := h500.ext E662; replace h50 := h50.ext E662; replace h55 := h55.ext E662; exact (laws_eqCell.calls k w638 H660 t438 A443 c444 t636 A641 c642 (h657.ext E662) l652 h663 l659 S661.own0 t650 u651)) ?_
  rintro hc667 _ w665 ⟨rfl, C666⟩
  refine ⟨_, rfl, ?_⟩
  obtain ⟨S668, K669⟩ := S646.still C666
  replace h643 := h643.move (K669.at 0 rfl)
  replace h578 := h578.move (K669.at 1 rfl)
  replace h582 := h582.move (K669.at 2 rfl)
  replace b522 := K669.blk 3 rfl b522
  replace h420 := h420.move (K669.at 4 rfl)
  replace h424 := h424.move (K669.at 5 rfl)
  replace h445 := h445.move (K669.at 6 rfl)
  replace h496 := h496.move (K669.at 7 rfl)
  replace h500 := h500.move (K669.at 8 rfl)
  replace b456 := K669.blk 9 rfl b456
  replace b435 := K669.blk 10 rfl b435
  replace b23 := K669.blk 11 rfl b23
  replace b18 := K669.blk 12 rfl b18
  replace h50 := h50.move (K669.at 13 rfl)
  replace h55 := h55.move (K669.at 14 rfl)
  replace b45 := K669.blk 15 rfl b45
  refine ⟨⟨(Ext.trans E648 S668.inv), (fun b_ h_ => (K669.at 9 rfl b_ h_).trans (hs649.2 b_ h_))⟩, fun hs670 => ?_⟩
  refine xone (i := 4) (by kernel_rfl) hc667 ?_
  refine yo (i := 4) (d := 67) rfl rfl (wanted_none rfl _) (by kernel_rfl) (by kernel_rfl) (fun _ _ => Iff.rfl) hs670 (e_notv (c := t650) (by kernel_rfl)) ?_; intro hc671 hs672
  refine xn (by kernel_rfl) ?_ _
  refine then_n ?_
  by_cases q673 : ¬ (t650 = true)
  · replace M := ifp q673 M
    refine cond_t rfl (bt q673 (by kernel_rfl)) (wp_seq (wp_region_lit (lv (d := 6) rfl rfl (by kernel_rfl) (e_assign (v := .bool false) rfl) (wpList_nil (then_n (wp_ret (then_r ?_)))))))
    obtain rfl := Option.some.inj M
    exact ret1 rfl rfl  (show _ = .bool false from (by kernel_rfl)) ⟨rfl, S668.chg⟩
  replace M := ifn q673 M
  refine cond_f rfl (bf q673 (by kernel_rfl)) (wp_skip (then_n (wp_seq (wp_region_lit (lv (d := 14) rfl rfl (by kernel_rfl) (e_assign (v := .int .i64 1) rfl) (wpList_nil (then_n ?_)))))))
  refine wp_seq (wp_region_lit (lv (d := 68) rfl rfl (by kernel_rfl) (e_loadS (b := g430) (off := 0) (cs := [.slice A418 t413.cells.length c419, .slice A422 t413.trail.length c423]) Try.underlying34 rfl (by kernel_rfl) (by kernel_rfl) (blk_cells b435 rfl)) (lv (d := 69) rfl rfl (by kernel_rfl) (e_move (v := .int .i64 1) (by kernel_rfl)) ?_)))
  have S674 := S668.pull (F := F425) (Fr := [F644, F579, F583, (is g517), F421, F446, F497, F501, (is g451), (is g430), (is g22), (is g17), F49, F54, (is g44)]) 5 rfl rfl
  have S675 := S674.pull (F := F421) (Fr := [F425, F644, F579, F583, (is g517), F446, F497, F501, (is g451), (is g430), (is g22), (is g17), F49, F54, (is g44)]) 5 rfl rfl
  obtain ⟨t676, u677, M⟩ := bnd M
  refine lcall (d := 70) rfl rfl (by kernel_rfl) (e_call (l := [.tmp 68, .tmp 69]) (vs := [.agg #[.slice A418 t413.cells.length c419, .slice A422 t413.trail.length c423], .int .i64 1]) Try.func19 (by kernel_rfl) rfl (by kernel_rfl) rfl) (laws_markStore_2.calls k w665 H639 t413 A418 c419 F421 A422 c423 F425 1 h420 h424 (St.own' (Fa := [F421, F425]) (Fr := [F644, F579, F583, (is g517), F446, F497, F501, (is g451), (is g430), (is g22), (is g17), F49, F54, (is g44)]) S675) t676 u677) ?_
  rintro _ w678 ⟨F682, F685, H679, rfl, n683, h681, n686, h684, T680⟩
  refine ⟨_, rfl, ?_⟩
  obtain ⟨S687, K688⟩ := St.call (Fa := [F421, F425]) (Fr := [F644, F579, F583, (is g517), F446, F497, F501, (is g451), (is g430), (is g22), (is g17), F49, F54, (is g44)]) S675 T680
  replace h643 := h643.move (K688.at 0 rfl)
  replace h578 := h578.move (K688.at 1 rfl)
  replace h582 := h582.move (K688.at 2 rfl)
  replace b522 := K688.blk 3 rfl b522
  replace h445 := h445.move (K688.at 4 rfl)
  replace h496 := h496.move (K688.at 5 rfl)
  replace h500 := h500.move (K688.at 6 rfl)
  replace b456 := K688.blk 7 rfl b456
  replace b23 := K688.blk 9 rfl b23
  replace b18 := K688.blk 10 rfl b18
  replace h50 := h50.move (K688.at 11 rfl)
  replace h55 := h55.move (K688.at 12 rfl)
  replace b45 := K688.blk 13 rfl b45
  have E689 := T680.ext
  replace h643 := h643.ext E689
  replace h578 := h578.ext E689
  replace h582 := h582.ext E689
  replace h445 := h445.ext E689
  replace h496 := h496.ext E689
  replace h500 := h500.ext E689
  replace h50 := h50.ext E689
  replace h55 := h55.ext E689
  refine lv (d := 14) rfl rfl (by kernel_rfl) (e_assign (v := .int .i64 t676.1) (by kernel_rfl)) (wpList_nil (then_n (wp_seq (wp_region_lit (lv (d := 71) rfl rfl (by kernel_rfl) (e_loadS (b := g451) (off := 0) (cs := [.int .i64 t438.kind, .int .i64 t438.n, .slice A443 t438.text.length c444]) Try.underlying36 rfl (by kernel_rfl) (by kernel_rfl) (blk_cells b456 rfl)) (lv (d := 72) rfl rfl (by kernel_rfl) (e_move (v := .int .i64 t676.1) (by kernel_rfl)) ?_))))))
  have S690 := S687.pull (F := F446) (Fr := [F682, F685, F644, F579, F583, (is g517), F497, F501, (is g451), (is g430), (is g22), (is g17), F49, F54, (is g44)]) 6 rfl rfl
  obtain ⟨t691, u692, M⟩ := bnd M
  refine lcall (d := 73) rfl rfl (by kernel_rfl) (e_call (l := [.tmp 71, .tmp 72]) (vs := [.agg #[.int .i64 t438.kind, .int .i64 t438.n, .slice A443 t438.text.length c444], .int .i64 t676.1]) Try.func20 (by kernel_rfl) rfl (by kernel_rfl) rfl) (laws_markCell_2.calls k w678 H679 t438 A443 c444 F446 t676.1 h445 (St.own' (Fa := [F446]) (Fr := [F682, F685, F644, F579, F583, (is g517), F497, F501, (is g451), (is g430), (is g22), (is g17), F49, F54, (is g44)]) S690) t691 u692) ?_
  rintro _ w693 ⟨F697, H694, rfl, n698, h696, T695⟩
  refine ⟨_, rfl, ?_⟩
  obtain ⟨S699, K700⟩ := St.call (Fa := [F446]) (Fr := [F682, F685, F644, F579, F583, (is g517), F497, F501, (is g451), (is g430), (is g22), (is g17), F49, F54, (is g44)]) S690 T695
  replace h681 := h681.move (K700.at 0 rfl)
  replace h684 := h684.move (K700.at 1 rfl)
  replace h643 := h643.move (K700.at 2 rfl)
  replace h578 := h578.move (K700.at 3 rfl)
  replace h582 := h582.move (K700.at 4 rfl)
  replace b522 := K700.blk 5 rfl b522
  replace h496 := h496.move (K700.at 6 rfl)
  replace h500 := h500.move (K700.at 7 rfl)
  replace b23 := K700.blk 10 rfl b23
  replace b18 := K700.blk 11 rfl b18
  replace h50 := h50.move (K700.at 12 rfl)
  replace h55 := h55.move (K700.at 13 rfl)
  replace b45 := K700.blk 14 rfl b45
  have E701 := T695.ext
  replace h681 := h681.ext E701
  replace h684 := h684.ext E701
  replace h643 := h643.ext E701
  replace h578 := h578.ext E701
  replace h582 := h582.ext E701
  replace h496 := h496.ext E701
  replace h500 := h500.ext E701
  replace h50 := h50.ext E701
  replace h55 := h55.ext E701
  refine lv (d := 14) rfl rfl (by kernel_rfl) (e_assign (v := .int .i64 t691.1) (by kernel_rfl)) (wpList_nil (then_n (wp_seq (wp_seq (wp_region_lit (lv (d := 74) rfl rfl (by kernel_rfl) (e_move (v := .int .i64 t691.1) (by kernel_rfl)) (lv (d := 75) rfl rfl (by kernel_rfl) (e_lss (k := .i64) (a := t691.1) (b := 0) (by kernel_rfl) rfl) ?_)))))))
  refine lv (d := 76) rfl rfl (by kernel_rfl) (e_move (v := .bool (decide (t691.1 < 0))) (by kernel_rfl)) ?_
  by_cases q702 : t691.1 < 0
  · replace M := ifp q702 M
    refine lskip (t := 76) (c := true) rfl (by kernel_rfl) rfl (bt q702 (by kernel_rfl)) rfl rfl ?_
    refine lskip (t := 76) (c := true) rfl (by kernel_rfl) rfl (bt q702 (by kernel_rfl)) rfl rfl ?_
    refine lskip (t := 76) (c := true) rfl (by kernel_rfl) rfl (bt q702 (by kernel_rfl)) rfl rfl ?_
    refine lskip (t := 76) (c := true) rfl (by kernel_rfl) rfl (bt q702 (by kernel_rfl)) rfl rfl ?_
    refine lv (d := 81) rfl rfl (by kernel_rfl) (e_pick_t (v := .bool true) (bt q702 (by kernel_rfl)) rfl) (lv (d := 82) rfl rfl (by kernel_rfl) (e_move (v := .bool true) (by kernel_rfl)) ?_)
    refine lskip (t := 82) (c := true) rfl (by kernel_rfl) rfl (by kernel_rfl) rfl rfl ?_
    refine lskip (t := 82) (c := true) rfl (by kernel_rfl) rfl (by kernel_rfl) rfl rfl ?_
    refine lskip (t := 82) (c := true) rfl (by kernel_rfl) rfl (by kernel_rfl) rfl rfl ?_
    refine lv (d := 86) rfl rfl (by kernel_rfl) (e_pick_t (v := .bool true) (by kernel_rfl) rfl) (wpList_nil (then_n (cond_t rfl (by kernel_rfl) (wp_seq (wp_region_lit (lv (d := 6) rfl rfl (by kernel_rfl) (e_assign (v := .bool false) rfl) (wpList_nil ?_)))))))
    refine then_n (wp_ret (then_r ?_))
    obtain rfl := Option.some.inj M
    exact ret1 rfl rfl  (show _ = .bool false from (by kernel_rfl)) ⟨rfl, S699.chg⟩
  replace M := ifn q702 M
  refine lvg (d := 77) (t := 76) rfl (by kernel_rfl) rfl (bf q702 (by kernel_rfl)) rfl (by kernel_rfl) (e_loadS (b := g517) (off := 0) (cs := [.slice A494 t489.1.cells.length c495, .slice A498 t489.1.trail.length c499]) Try.underlying34 rfl (by kernel_rfl) (by kernel_rfl) (blk_cells b522 rfl)) (lvg (d := 78) (t := 76) rfl (by kernel_rfl) rfl (bf q702 (by kernel_rfl)) rfl (by kernel_rfl) (e_loadS (b := g44) (off := 0) (cs := [.slice A47 x46.length c48, .slice A52 x51.length c53]) Try.underlying34 rfl (by kernel_rfl) (by exact e60) (blk_cells b45 rfl)) ?_)
  obtain ⟨t703, u704, M⟩ := bnd M
  refine lcallg (d := 79) (t := 76) rfl (by kernel_rfl) rfl (bf q702 (by kernel_rfl)) rfl (by kernel_rfl) (e_call (l := [.tmp 77, .tmp 78]) (vs := [.agg #[.slice A494 t489.1.cells.length c495, .slice A498 t489.1.trail.length c499], .agg #[.slice A47 x46.length c48, .slice A52 x51.length c53]]) Try.func15 (by kernel_rfl) rfl (by kernel_rfl) rfl) (by have l705 := h496.le; have S706 := S699.pull (F := F497) (Fr := [F697, F682, F685, F644, F579, F583, (is g517), F501, (is g451), (is g430), (is g22), (is g17), F49, F54, (is g44)]) 7 rfl rfl; obtain ⟨H707, S708, E709, h710, z711⟩ := S706.frzRow h496; replace h696 := h696.ext E709; replace h681 := h681.ext E709; replace h684 := h684.ext E709; replace h643 := h643.ext E709; replace h578 := h578.ext E709; replace h582 := h582.ext E709; replace h500 := h500.ext E709; replace h50 := h50.ext E709; replace h55 := h55.ext E709; have l712 := h500.le; have S713 := S708.pull (F := F501) (Fr := [F697, F682, F685, F644, F579, F583, (is g517), (is g451), (is g430), (is g22), (is g17), F49, F54, (is g44)]) 7 rfl rfl; obtain ⟨H714, S715, E716, h717, z718⟩ := S713.frzRow h500; replace h696 := h696.ext E716; replace h681 := h681.ext E716; replace h684 := h684.ext E716; replace h643 := h643.ext E716; replace h578 := h578.ext E716; replace h582 := h582.ext E716; replace h50 := h50.ext E716; replace h55 := h55.ext E716; have l719 := h50.le; have S720 := S715.pull (F := F49) (Fr := [F697, F682, F685, F644, F579, F583, (is g517), (is g451), (is g430), (is g22), (is g17), F54, (is g44)]) 11 rfl rfl; obtain ⟨H721, S722, E723, h724, z725⟩ := S720.frzRow h50; replace h696 := h696.ext E723; replace h681 := h681.ext E723; replace h684 := h684.ext E723; replace h643 := h643.ext E723; replace h578 := h578.ext E723; replace h582 := h582.ext E723; replace h55 := h55.ext E723; have l726 := h55.le; have S727 := S722.pull (F := F54) (Fr := [F697, F682, F685, F644, F579, F583, (is g517), (is g451), (is g430), (is g22), (is g17), (is g44)]) 11 rfl rfl; obtain ⟨H728, S729, E730, h731, z732⟩ := S727.frzRow h55; replace h696 := h696.ext E730; replace h681 := h681.ext E730; replace h684 := h684.ext E730; replace h643 := h643.ext E730; replace h578 := h578.ext E730; replace h582 := h582.ext E730; exact (laws_eqStore.calls k w693 H728 t489.1 A494 c495 A498 c499 (⟨x46, x51⟩ : Store) A47 c48 A52 c53 (h710.ext ((E716.trans E723).trans E730)) l705 (h717.ext (E723.trans E730)) l712 (h724.ext E730) l719 h731 l726 S729.own0 t703 u704)) ?_
  rintro _ w733 ⟨rfl, C734⟩
  refine ⟨_, rfl, ?_⟩
  obtain ⟨S735, K736⟩ := S699.still C734
  replace h696 := h696.move (K736.at 0 rfl)
  replace h681 := h681.move (K736.at 1 rfl)
  replace h684 := h684.move (K736.at 2 rfl)
  replace h643 := h643.move (K736.at 3 rfl)
  replace h578 := h578.move (K736.at 4 rfl)
  replace h582 := h582.move (K736.at 5 rfl)
  replace b522 := K736.blk 6 rfl b522
  replace h496 := h496.move (K736.at 7 rfl)
  replace h500 := h500.move (K736.at 8 rfl)
  replace b23 := K736.blk 11 rfl b23
  replace b18 := K736.blk 12 rfl b18
  replace h50 := h50.move (K736.at 13 rfl)
  replace h55 := h55.move (K736.at 14 rfl)
  replace b45 := K736.blk 15 rfl b45
  refine lvg (d := 80) (t := 76) rfl (by kernel_rfl) rfl (bf q702 (by kernel_rfl)) rfl (by kernel_rfl) (e_notv (c := t703) (by kernel_rfl)) (lv (d := 81) rfl rfl (by kernel_rfl) (e_pick_f (v := .bool (decide (¬ (t703 = true)))) (bf q702 (by kernel_rfl)) (by kernel_rfl)) (lv (d := 82) rfl rfl (by kernel_rfl) (e_move (v := .bool (decide (¬ (t703 = true)))) (by kernel_rfl)) ?_))
  by_cases q737 : ¬ (t703 = true)
  · replace M := ifp q737 M
    refine lskip (t := 82) (c := true) rfl (by kernel_rfl) rfl (bt q737 (by kernel_rfl)) rfl rfl ?_
    refine lskip (t := 82) (c := true) rfl (by kernel_rfl) rfl (bt q737 (by kernel_rfl)) rfl rfl ?_
    refine lskip (t := 82) (c := true) rfl (by kernel_rfl) rfl (bt q737 (by kernel_rfl)) rfl rfl ?_
    refine lv (d := 86) rfl rfl (by kernel_rfl) (e_pick_t (v := .bool true) (bt q737 (by kernel_rfl)) rfl) (wpList_nil (then_n (cond_t rfl (by kernel_rfl) (wp_seq (wp_region_lit (lv (d := 6) rfl rfl (by kernel_rfl) (e_assign (v := .bool false) rfl) (wpList_nil ?_)))))))
    refine then_n (wp_ret (then_r ?_))
    obtain rfl := Option.some.inj M
    exact ret1 rfl rfl  (show _ = .bool false from (by kernel_rfl)) ⟨rfl, S735.chg⟩
  replace M := ifn q737 M
  refine lvg (d := 83) (t := 82) rfl (by kernel_rfl) rfl (bf q737 (by kernel_rfl)) rfl (by kernel_rfl) (e_move (v := .int .i64 t489.2) (by kernel_rfl)) (lvg (d := 84) (t := 82) rfl (by kernel_rfl) rfl (bf q737 (by kernel_rfl)) rfl (by kernel_rfl) (e_move (v := .int .i64 x56) (by exact e61)) (lvg (d := 85) (t := 82) rfl (by kernel_rfl) rfl (bf q737 (by kernel_rfl)) rfl (by kernel_rfl) (e_neq (k := .i64) (a := t489.2) (b := x56) (by kernel_rfl) (by kernel_rfl)) (lv (d := 86) rfl rfl (by kernel_rfl) (e_pick_f (v := .bool (decide (t489.2 ≠ x56))) (bf q737 (by kernel_rfl)) (by kernel_rfl)) (wpList_nil (then_n (cond_f rfl (bf q560 (by kernel_rfl)) (wp_skip ?_)))))))
  refine then_n (wp_seq (wp_region_lit (lv (d := 15) rfl rfl (by kernel_rfl) (e_assign (v := .int .i64 1) rfl) (wpList_nil (then_n (wp_seq (wp_region_lit ?_)))))))
  refine lv (d := 87) rfl rfl (by kernel_rfl) (e_loadS (b := g517) (off := 0) (cs := [.slice A494 t489.1.cells.length c495, .slice A498 t489.1.trail.length c499]) Try.underlying34 rfl (by kernel_rfl) (by kernel_rfl) (blk_cells b522 rfl)) (lv (d := 88) rfl rfl (by kernel_rfl) (e_move (v := .int .i64 1) (by kernel_rfl)) ?_)
  have S738 := S735.pull (F := F501) (Fr := [F697, F682, F685, F644, F579, F583, (is g517), F497, (is g451), (is g430), (is g22), (is g17), F49, F54, (is g44)]) 8 rfl rfl
  have S739 := S738.pull (F := F497) (Fr := [F501, F697, F682, F685, F644, F579, F583, (is g517), (is g451), (is g430), (is g22), (is g17), F49, F54, (is g44)]) 8 rfl rfl
  obtain ⟨t740, u741, M⟩ := bnd M
  refine lcall (d := 89) rfl rfl (by kernel_rfl) (e_call (l := [.tmp 87, .tmp 88]) (vs := [.agg #[.slice A494 t489.1.cells.length c495, .slice A498 t489.1.trail.length c499], .int .i64 1]) Try.func19 (by kernel_rfl) rfl (by kernel_rfl) rfl) (laws_markStore_2.calls k w733 H694 t489.1 A494 c495 F497 A498 c499 F501 1 h496 h500 (St.own' (Fa := [F497, F501]) (Fr := [F697, F682, F685, F644, F579, F583, (is g517), (is g451), (is g430), (is g22), (is g17), F49, F54, (is g44)]) S739) t740 u741) ?_
  rintro _ w742 ⟨F746, F749, H743, rfl, n747, h745, n750, h748, T744⟩
  refine ⟨_, rfl, ?_⟩
  obtain ⟨S751, K752⟩ := St.call (Fa := [F497, F501]) (Fr := [F697, F682, F685, F644, F579, F583, (is g517), (is g451), (is g430), (is g22), (is g17), F49, F54, (is g44)]) S739 T744
  replace h696 := h696.move (K752.at 0 rfl)
  replace h681 := h681.move (K752.at 1 rfl)
  replace h684 := h684.move (K752.at 2 rfl)
  replace h643 := h643.move (K752.at 3 rfl)
  replace h578 := h578.move (K752.at 4 rfl)
  replace h582 := h582.move (K752.at 5 rfl)
  replace b522 := K752.blk 6 rfl b522
  replace b23 := K752.blk 9 rfl b23
  replace b18 := K752.blk 10 rfl b18
  replace h50 := h50.move (K752.at 11 rfl)
  replace h55 := h55.move (K752.at 12 rfl)
  replace b45 := K752.blk 13 rfl b45
  have E753 := T744.ext
  replace h696 := h696.ext E753
  replace h681 := h681.ext E753
  replace h684 := h684.ext E753
  replace h643 := h643.ext E753
  replace h578 := h578.ext E753
  replace h582 := h582.ext E753
  replace h50 := h50.ext E753
  replace h55 := h55.ext E753
  refine lv (d := 15) rfl rfl (by kernel_rfl) (e_assign (v := .int .i64 t740.1) (by kernel_rfl)) (wpList_nil (then_n (wp_seq (wp_region_lit (lv (d := 16) rfl rfl (by kernel_rfl) (e_assign (v := .int .i64 1) rfl) (wpList_nil (then_n ?_)))))))
  refine wp_seq (wp_region_lit (lv (d := 90) rfl rfl (by kernel_rfl) (e_loadS (b := g517) (off := 0) (cs := [.slice A494 t489.1.cells.length c495, .slice A498 t489.1.trail.length c499]) Try.underlying34 rfl (by kernel_rfl) (by kernel_rfl) (blk_cells b522 rfl)) (lv (d := 91) rfl rfl (by kernel_rfl) (e_move (v := .int .i64 1) (by kernel_rfl)) ?_)))
  obtain ⟨t754, u755, M⟩ := bnd M
  refine lcall (d := 92) rfl rfl (by kernel_rfl) (e_call (l := [.tmp 90, .tmp 91]) (vs := [.agg #[.slice A494 t489.1.cells.length c495, .slice A498 t489.1.trail.length c499], .int .i64 1]) Try.func29 (by kernel_rfl) rfl (by kernel_rfl) rfl) (by have l756 := h745.le; obtain ⟨H757, S758, E759, h760, z761⟩ := S751.frzRow h745; replace h748 := h748.ext E759; replace h696 := h696.ext E759; replace h681 := h681.ext E759; replace h684 := h684.ext E759; replace h643 := h643.ext E759; replace h578 := h578.ext E759; replace h582 := h582.ext E759; replace h50 := h50.ext E759; replace h55 := h55.ext E759; have l762 := h748.le; obtain ⟨H763, S764, E765, h766, z767⟩ := S758.frzRow h748; replace h696 := h696.ext E765; replace h681 := h681.ext E765; replace h684 := h684.ext E765; replace h643 := h643.ext E765; replace h578 := h578.ext E765; replace h582 := h582.ext E765; replace h50 := h50.ext E765; replace h55 := h55.ext E765; exact (by have q_ := (laws_heldStore.calls k w742 H763 (⟨t740.2.1, t740.2.2⟩ : Store) A494 c495 A498 c499 1 (h760.ext E765) l756 h766 l762 S764.own0 t754 u755); rw [(show t740.2.1.length = t489.1.cells.length from n747), (show t740.2.2.length = t489.1.trail.length from n750)] at q_; exact q_)) ?_
  rintro _ w768 ⟨rfl, C769⟩
  refine ⟨_, rfl, ?_⟩
  obtain ⟨S770, K771⟩ := S751.still C769
  replace h745 := h745.move (K771.at 0 rfl)
  replace h748 := h748.move (K771.at 1 rfl)
  replace b522 := K771.blk 8 rfl b522
  replace b23 := K771.blk 11 rfl b23
  replace b18 := K771.blk 12 rfl b18
  replace h50 := h50.move (K771.at 13 rfl)
  replace h55 := h55.move (K771.at 14 rfl)
  replace b45 := K771.blk 15 rfl b45
  refine lv (d := 16) rfl rfl (by kernel_rfl) (e_assign (v := .int .i64 t754) (by kernel_rfl)) (wpList_nil (then_n (wp_seq (wp_seq (wp_region_lit (lv (d := 93) rfl rfl (by kernel_rfl) (e_move (v := .int .i64 t754) (by kernel_rfl)) (lv (d := 94) rfl rfl (by kernel_rfl) (e_lss (k := .i64) (a := t754) (b := 0) (by kernel_rfl) rfl) ?_)))))))
  refine wpList_nil (then_n ?_)
  by_cases q772 : t754 < 0
  · replace M := ifp q772 M
    refine cond_t rfl (bt q772 (by kernel_rfl)) (wp_seq (wp_region_lit (lv (d := 6) rfl rfl (by kernel_rfl) (e_assign (v := .bool false) rfl) (wpList_nil (then_n (wp_ret (then_r ?_)))))))
    obtain rfl := Option.some.inj M
    exact ret1 rfl rfl  (show _ = .bool false from (by kernel_rfl)) ⟨rfl, S770.chg⟩
  replace M := ifn q772 M
  refine cond_f rfl (bf q772 (by kernel_rfl)) (wp_skip (then_n (wp_seq (wp_seq (wp_region_lit (lv (d := 95) rfl rfl (by kernel_rfl) (e_move (v := .int .i64 t754) (by kernel_rfl)) (lv (d := 96) rfl rfl (by kernel_rfl) (e_move (v := .int .i64 t740.1) (by kernel_rfl)) ?_)))))))
  refine lv (d := 97) rfl rfl (by kernel_rfl) (e_neq (k := .i64) (a := t754) (b := t740.1) (by kernel_rfl) (by kernel_rfl)) (wpList_nil (then_n ?_))
  by_cases q773 : t754 ≠ t740.1
  · replace M := ifp q773 M
    refine cond_t rfl (bt q773 (by kernel_rfl)) (wp_seq (wp_region_lit (lv (d := 6) rfl rfl (by kernel_rfl) (e_assign (v := .bool false) rfl) (wpList_nil (then_n (wp_ret (then_r ?_)))))))
    obtain rfl := Option.some.inj M
    exact ret1 rfl rfl  (show _ = .bool false from (by kernel_rfl)) ⟨rfl, S770.chg⟩
  replace M := ifn q773 M
  refine cond_f rfl (bf q773 (by kernel_rfl)) (wp_skip (then_n (wp_seq ?_)))
  refine wp_cut (fun a800 w774 => ∃ (f775 : Nat → Value) (H776 : Hp) (g778 : Nat) (x780 : List Cell) (A781 : Option Addr) (c782 : Nat) (F783 : Foot) (x785 : List Int) (A786 : Option Addr) (c787 : Nat) (F788 : Foot) (x790 : Int), a800 = mk 124 f775 ∧ f775 8 = .pointer (some ⟨g44, 0, none⟩) ∧ f775 9 = .int .i64 x56 ∧ f775 12 = .pointer (some ⟨g517, 0, none⟩) ∧ f775 15 = .int .i64 t740.1 ∧ f775 17 = .pointer (some ⟨g778, 0, none⟩) ∧ f775 18 = .int .i64 x790 ∧ Row st36 36 H776 (hp w774) F746 A494 c495 t740.2.1 ∧ Row tInt 3 H776 (hp w774) F749 A498 c499 t740.2.2 ∧ w774.heap[g517]? = some (.cells #[.slice A494 t489.1.cells.length c495, .slice A498 t489.1.trail.length c499] 34 (0, 0)) ∧ Row st36 36 H776 (hp w774) F49 A47 c48 x46 ∧ Row tInt 3 H776 (hp w774) F54 A52 c53 x51 ∧ w774.heap[g44]? = some (.cells #[.slice A47 x46.length c48, .slice A52 x51.length c53] 34 (0, 0)) ∧ Row st36 36 H776 (hp w774) F783 A781 c782 x780 ∧ Row tInt 3 H776 (hp w774) F788 A786 c787 x785 ∧ w774.heap[g778]? = some (.cells #[.slice A781 x780.length c782, .slice A786 x785.length c787] 34 (0, 0)) ∧ Ext H743 H776 ∧ St (anyOf []) H w [F746, F749, (is g517), F49, F54, (is g44), F783, F788, (is g778)] H776 w774 ∧ laws_FnExactBindCell.l1 k x46 x51 x56 t740 x780 x785 x790 = some r) ?_ ?_
  · refine region_mix (S := (fun (L_ : Array Bool) (w_ : World) => Ext H743 (hp w_) ∧ (∀ b_, (is g22) b_ → hp w_ b_ = hp w768 b_) ∧ (∀ b_, (is g17) b_ → hp w_ b_ = hp w768 b_))) (by kernel_rfl) S770 ?_
    intro w801 S802 K803 hc804
    have o805 := b23
    have o806 := b18
    have hs807 : (fun (L_ : Array Bool) (w_ : World) => Ext H743 (hp w_) ∧ (∀ b_, (is g22) b_ → hp w_ b_ = hp w768 b_) ∧ (∀ b_, (is g17) b_ → hp w_ b_ = hp w768 b_)) (Array.replicate 12 false) w801 := ⟨S802.inv, (fun b_ h_ => K803.at 11 rfl b_ h_), (fun b_ h_ => K803.at 12 rfl b_ h_)⟩
    replace h745 := h745.move (K803.at 0 rfl)
    replace h748 := h748.move (K803.at 1 rfl)
    replace b522 := K803.blk 8 rfl b522
    replace h50 := h50.move (K803.at 13 rfl)
    replace h55 := h55.move (K803.at 14 rfl)
    replace b45 := K803.blk 15 rfl b45
    refine xv (i := 0) (d := 99) rfl rfl rfl (by kernel_rfl) (by kernel_rfl) (fun _ _ => Iff.rfl) hc804 hs807 (fun L_ w_ hc_ hu_ hs_ => e_loadS (b := g17) (off := 0) (cs := [.slice A2 x1.cells.length c3, .slice A6 x1.trail.length c7]) Try.underlying25 rfl (by kernel_rfl) (by exact e58) (blk_cells ((hs_.2.2 _ rfl).trans o806) rfl)) ?_; intro hc808 hs809
    refine xv (i := 2) (d := 101) rfl rfl rfl (by kernel_rfl) (by kernel_rfl) (fun _ _ => Iff.rfl) hc808 hs809 (fun L_ w_ hc_ hu_ hs_ => e_move (v := .int .i64 x10) (by exact e57)) ?_; intro hc810 hs811
    refine xv (i := 3) (d := 102) rfl rfl rfl (by kernel_rfl) (by kernel_rfl) (fun _ _ => Iff.rfl) hc810 hs811 (fun L_ w_ hc_ hu_ hs_ => e_loadS (b := g22) (off := 0) (cs := [.int .i64 x11.kind, .int .i64 x11.n, .slice A12 x11.text.length c13]) Try.underlying28 rfl (by kernel_rfl) (by exact e59) (blk_cells ((hs_.2.1 _ rfl).trans o805) rfl)) ?_; intro hc812 hs813
    refine xall [1, 9] (by kernel_rfl) (by decide) hc812 (List.forall_mem_cons.2 ⟨?_, List.forall_mem_cons.2 ⟨?_, fun _ h_ => by cases h_⟩⟩)
    · obtain ⟨t814, u815, M⟩ := bnd M
      refine yc (i := 1) rfl (wanted_none rfl _) (by kernel_rfl) (by kernel_rfl) (e_call (l := [.tmp 99]) (vs := [.agg #[.slice A2 x1.cells.length c3, .slice A6 x1.trail.length c7]]) Try.func12 (by kernel_rfl) rfl (by kernel_rfl) rfl) (laws_toStore.calls k w801 H743 x1 A2 c3 A6 c7 (h4.ext ((((((((Y43.trans E428).trans E449).trans E514).trans E587).trans E648).trans E689).trans E701).trans E753)) l5 (h8.ext ((((((((Y43.trans E428).trans E449).trans E514).trans E587).trans E648).trans E689).trans E701).trans E753)) l9 (St.own' (Fa := []) (Fr := [F746, F749, F697, F682, F685, F644, F579, F583, (is g517), (is g451), (is g430), (is g22), (is g17), F49, F54, (is g44)]) S802) t814 u815) ?_
      rintro hc827 _ w816 ⟨A819, c820, F822, A823, c824, F826, H817, rfl, h821, h825, T818⟩
      refine ⟨_, rfl, ?_⟩
      obtain ⟨S828, K829⟩ := St.call (Fa := []) (Fr := [F746, F749, F697, F682, F685, F644, F579, F583, (is g517), (is g451), (is g430), (is g22), (is g17), F49, F54, (is g44)]) S802 T818
      replace h745 := h745.move (K829.at 0 rfl)
      replace h748 := h748.move (K829.at 1 rfl)
      replace b522 := K829.blk 8 rfl b522
      replace h50 := h50.move (K829.at 13 rfl)
      replace h55 := h55.move (K829.at 14 rfl)
      replace b45 := K829.blk 15 rfl b45
      have E830 := T818.ext
      replace h745 := h745.ext E830
      replace h748 := h748.ext E830
      replace h50 := h50.ext E830
      replace h55 := h55.ext E830
      refine ⟨⟨(Ext.trans E830 S828.inv), (fun b_ h_ => (K829.at 11 rfl b_ h_).trans (hs813.2.1 b_ h_)), (fun b_ h_ => (K829.at 12 rfl b_ h_).trans (hs813.2.2 b_ h_))⟩, fun hs831 => ?_⟩
      refine xall [4, 9] (by kernel_rfl) (by decide) hc827 (List.forall_mem_cons.2 ⟨?_, List.forall_mem_cons.2 ⟨?_, fun _ h_ => by cases h_⟩⟩)
      · obtain ⟨t832, u833, M⟩ := bnd M
        refine yc (i := 4) rfl (wanted_none rfl _) (by kernel_rfl) (by kernel_rfl) (e_call (l := [.tmp 102]) (vs := [.agg #[.int .i64 x11.kind, .int .i64 x11.n, .slice A12 x11.text.length c13]]) Try.func13 (by kernel_rfl) rfl (by kernel_rfl) rfl) (laws_toCell.calls k w816 H817 x11 A12 c13 (h14.ext (((((((((Y43.trans E428).trans E449).trans E514).trans E587).trans E648).trans E689).trans E701).trans E753).trans E830)) l15 (St.own' (Fa := []) (Fr := [F822, F826, F746, F749, F697, F682, F685, F644, F579, F583, (is g517), (is g451), (is g430), (is g22), (is g17), F49, F54, (is g44)]) S828) t832 u833) ?_
        rintro hc841 _ w834 ⟨A837, c838, F840, H835, rfl, h839, T836⟩
        refine ⟨_, rfl, ?_⟩
        obtain ⟨S842, K843⟩ := St.call (Fa := []) (Fr := [F822, F826, F746, F749, F697, F682, F685, F644, F579, F583, (is g517), (is g451), (is g430), (is g22), (is g17), F49, F54, (is g44)]) S828 T836
        replace h821 := h821.move (K843.at 0 rfl)
        replace h825 := h825.move (K843.at 1 rfl)
        replace h745 := h745.move (K843.at 2 rfl)
        replace h748 := h748.move (K843.at 3 rfl)
        replace b522 := K843.blk 10 rfl b522
        replace h50 := h50.move (K843.at 15 rfl)
        replace h55 := h55.move (K843.at 16 rfl)
        replace b45 := K843.blk 17 rfl b45
        have E844 := T836.ext
        replace h821 := h821.ext E844
        replace h825 := h825.ext E844
        replace h745 := h745.ext E844
        replace h748 := h748.ext E844
        replace h50 := h50.ext E844
        replace h55 := h55.ext E844
        refine ⟨⟨(Ext.trans (E830.trans E844) S842.inv), (fun b_ h_ => (K843.at 13 rfl b_ h_).trans (hs831.2.1 b_ h_)), (fun b_ h_ => (K843.at 14 rfl b_ h_).trans (hs831.2.2 b_ h_))⟩, fun hs845 => ?_⟩
        refine xall [5, 9] (by kernel_rfl) (by decide) hc841 (List.forall_mem_cons.2 ⟨?_, List.forall_mem_cons.2 ⟨?_, fun _ h_ => by cases h_⟩⟩)
        · have l846 := h821.le
          have S847 := S842.pull (F := F822) (Fr := [F840, F826, F746, F749, F697, F682, F685, F644, F579, F583, (is g517), (is g451), (is g430), (is g22), (is g17), F49, F54, (is g44)]) 1 rfl rfl
          obtain ⟨H848, S849, E850, h851, z852⟩ := S847.frzRow h821
          replace h839 := h839.ext E850
          replace h825 := h825.ext E850
          replace h745 := h745.ext E850
          replace h748 := h748.ext E850
          replace h50 := h50.ext E850
          replace h55 := h55.ext E850
          have l853 := h825.le
          have S854 := S849.pull (F := F826) (Fr := [F840, F746, F749, F697, F682, F685, F644, F579, F583, (is g517), (is g451), (is g430), (is g22), (is g17), F49, F54, (is g44)]) 1 rfl rfl
          obtain ⟨H855, S856, E857, h858, z859⟩ := S854.frzRow h825
          replace h839 := h839.ext E857
          replace h745 := h745.ext E857
          replace h748 := h748.ext E857
          replace h50 := h50.ext E857
          replace h55 := h55.ext E857
          have l860 := h839.le
          obtain ⟨H861, S862, E863, h864, z865⟩ := S856.frzRow h839
          replace h745 := h745.ext E863
          replace h748 := h748.ext E863
          replace h50 := h50.ext E863
          replace h55 := h55.ext E863
          obtain ⟨t866, u867, M⟩ := bnd M
          refine yc (i := 5) rfl (wanted_none rfl _) (by kernel_rfl) (by kernel_rfl) (e_call (l := [.tmp 100, .tmp 101, .tmp 103]) (vs := [.agg #[.slice A819 t814.cells.length c820, .slice A823 t814.trail.length c824], .int .i64 x10, .agg #[.int .i64 t832.kind, .int .i64 t832.n, .slice A837 t832.text.length c838]]) Try.func31 (by kernel_rfl) rfl (by kernel_rfl) rfl) (impl_BindCell.calls k w834 H861 t814 A819 c820 A823 c824 x10 t832 A837 c838 (h851.ext (E857.trans E863)) l846 (h858.ext E863) l853 h864 l860 (St.own' (Fa := []) (Fr := [F746, F749, F697, F682, F685, F644, F579, F583, (is g517), (is g451), (is g430), (is g22), (is g17), F49, F54, (is g44)]) S862) t866 u867) ?_
          rintro hc879 _ w868 ⟨A871, c872, F874, A875, c876, F878, H869, rfl, h873, h877, T870⟩
          refine ⟨_, rfl, ?_⟩
          obtain ⟨S880, K881⟩ := St.call (Fa := []) (Fr := [F746, F749, F697, F682, F685, F644, F579, F583, (is g517), (is g451), (is g430), (is g22), (is g17), F49, F54, (is g44)]) S862 T870
          replace h745 := h745.move (K881.at 0 rfl)
          replace h748 := h748.move (K881.at 1 rfl)
          replace b522 := K881.blk 8 rfl b522
          replace h50 := h50.move (K881.at 13 rfl)
          replace h55 := h55.move (K881.at 14 rfl)
          replace b45 := K881.blk 15 rfl b45
          have E882 := T870.ext
          replace h745 := h745.ext E882
          replace h748 := h748.ext E882
          replace h50 := h50.ext E882
          replace h55 := h55.ext E882
          refine ⟨⟨(Ext.trans (((((E830.trans E844).trans E850).trans E857).trans E863).trans E882) S880.inv), (fun b_ h_ => (K881.at 11 rfl b_ h_).trans (hs845.2.1 b_ h_)), (fun b_ h_ => (K881.at 12 rfl b_ h_).trans (hs845.2.2 b_ h_))⟩, fun hs883 => ?_⟩
          refine xv (i := 6) (d := 98) rfl rfl rfl (by kernel_rfl) (by kernel_rfl) (fun _ _ => Iff.rfl) hc879 hs883 (fun L_ w_ hc_ hu_ hs_ => e_move (v := .tuple #[.agg #[.slice A871 t866.1.cells.length c872, .slice A875 t866.1.trail.length c876], .int .i64 t866.2]) (by kernel_rfl)) ?_; intro hc884 hs885
          refine xv (i := 7) (d := 105) rfl rfl rfl (by kernel_rfl) (by kernel_rfl) (fun _ _ => Iff.rfl) hc884 hs885 (fun L_ w_ hc_ hu_ hs_ => e_extract (vs := #[.agg #[.slice A871 t866.1.cells.length c872, .slice A875 t866.1.trail.length c876], .int .i64 t866.2]) (v := .agg #[.slice A871 t866.1.cells.length c872, .slice A875 t866.1.trail.length c876]) (by kernel_rfl) rfl) ?_; intro hc886 hs887
          refine xv (i := 8) (d := 106) rfl rfl rfl (by kernel_rfl) (by kernel_rfl) (fun _ _ => Iff.rfl) hc886 hs887 (fun L_ w_ hc_ hu_ hs_ => e_extract (vs := #[.agg #[.slice A871 t866.1.cells.length c872, .slice A875 t866.1.trail.length c876], .int .i64 t866.2]) (v := .int .i64 t866.2) (by kernel_rfl) rfl) ?_; intro hc888 hs889
          refine xone (i := 9) (by kernel_rfl) hc888 ?_
          refine ye (i := 9) (d := 17) rfl rfl (wanted_none rfl _) (by kernel_rfl) (by kernel_rfl) (new_blk (v := fun g_ => .pointer (some ⟨g_, 0, none⟩)) (cs := #[.slice none 0 0, .slice none 0 0]) (t := 34) S880 (by kernel_rfl)) ?_
          rintro hc895 _ w890 ⟨g891, rfl, b892, S893, K894⟩
          replace h873 := h873.move (K894.at 0 rfl)
          replace h877 := h877.move (K894.at 1 rfl)
          replace h745 := h745.move (K894.at 2 rfl)
          replace h748 := h748.move (K894.at 3 rfl)
          replace b522 := K894.blk 10 rfl b522
          replace h50 := h50.move (K894.at 15 rfl)
          replace h55 := h55.move (K894.at 16 rfl)
          replace b45 := K894.blk 17 rfl b45
          refine ⟨⟨(Ext.trans (((((E830.trans E844).trans E850).trans E857).trans E863).trans E882) S893.inv), (fun b_ h_ => (K894.at 13 rfl b_ h_).trans (hs889.2.1 b_ h_)), (fun b_ h_ => (K894.at 14 rfl b_ h_).trans (hs889.2.2 b_ h_))⟩, fun hs896 => ?_⟩
          refine xone (i := 10) (by kernel_rfl) hc895 ?_
          refine ys (i := 10) rfl rfl (wanted_none rfl _) (by kernel_rfl) (by kernel_rfl) (e_store (g := g891) (o := 0) (v := .agg #[.slice A871 t866.1.cells.length c872, .slice A875 t866.1.trail.length c876]) (cur' := #[.slice A871 t866.1.cells.length c872, .slice A875 t866.1.trail.length c876]) (vs := [.slice A871 t866.1.cells.length c872, .slice A875 t866.1.trail.length c876]) S893 (by kernel_rfl) (by kernel_rfl) rfl (by kernel_rfl) b892 (Nat.le_of_ble_eq_true rfl) (List.forall_mem_cons.2 ⟨rfl, (List.forall_mem_cons.2 ⟨rfl, (fun _ h_ => by cases h_)⟩)⟩) rfl) ?_
          rintro hc901 w897 ⟨b898, S899, K900⟩
          replace h873 := h873.move (K900.at 0 rfl)
          replace h877 := h877.move (K900.at 1 rfl)
          replace h745 := h745.move (K900.at 2 rfl)
          replace h748 := h748.move (K900.at 3 rfl)
          replace b522 := K900.blk 10 rfl b522
          replace h50 := h50.move (K900.at 15 rfl)
          replace h55 := h55.move (K900.at 16 rfl)
          replace b45 := K900.blk 17 rfl b45
          refine ⟨⟨(Ext.trans (((((E830.trans E844).trans E850).trans E857).trans E863).trans E882) S899.inv), (fun b_ h_ => (K900.at 13 rfl b_ h_).trans (hs896.2.1 b_ h_)), (fun b_ h_ => (K900.at 14 rfl b_ h_).trans (hs896.2.2 b_ h_))⟩, fun hs902 => ?_⟩
          clear b892
          refine xone (i := 11) (by kernel_rfl) hc901 ?_
          refine yo (i := 11) (d := 18) rfl rfl (wanted_none rfl _) (by kernel_rfl) (by kernel_rfl) (fun _ _ => Iff.rfl) hs902 (e_assign (v := .int .i64 t866.2) (by kernel_rfl)) ?_; intro hc903 hs904
          refine xn (by kernel_rfl) ?_ _
          have S905 := S899.pull (F := F878) (Fr := [(is g891), F874, F746, F749, F697, F682, F685, F644, F579, F583, (is g517), (is g451), (is g430), (is g22), (is g17), F49, F54, (is g44)]) 2 rfl rfl
          have S906 := S905.pull (F := F874) (Fr := [F878, (is g891), F746, F749, F697, F682, F685, F644, F579, F583, (is g517), (is g451), (is g430), (is g22), (is g17), F49, F54, (is g44)]) 2 rfl rfl
          have S907 := S906.pull (F := (is g44)) (Fr := [F874, F878, (is g891), F746, F749, F697, F682, F685, F644, F579, F583, (is g517), (is g451), (is g430), (is g22), (is g17), F49, F54]) 18 rfl rfl
          have S908 := S907.pull (F := F54) (Fr := [(is g44), F874, F878, (is g891), F746, F749, F697, F682, F685, F644, F579, F583, (is g517), (is g451), (is g430), (is g22), (is g17), F49]) 18 rfl rfl
          have S909 := S908.pull (F := F49) (Fr := [F54, (is g44), F874, F878, (is g891), F746, F749, F697, F682, F685, F644, F579, F583, (is g517), (is g451), (is g430), (is g22), (is g17)]) 18 rfl rfl
          have S910 := S909.pull (F := (is g517)) (Fr := [F49, F54, (is g44), F874, F878, (is g891), F746, F749, F697, F682, F685, F644, F579, F583, (is g451), (is g430), (is g22), (is g17)]) 14 rfl rfl
          have S911 := S910.pull (F := F749) (Fr := [(is g517), F49, F54, (is g44), F874, F878, (is g891), F746, F697, F682, F685, F644, F579, F583, (is g451), (is g430), (is g22), (is g17)]) 8 rfl rfl
          have S912 := S911.pull (F := F746) (Fr := [F749, (is g517), F49, F54, (is g44), F874, F878, (is g891), F697, F682, F685, F644, F579, F583, (is g451), (is g430), (is g22), (is g17)]) 8 rfl rfl
          have S913 := St.first (Fa := [F746, F749, (is g517), F49, F54, (is g44), F874, F878, (is g891)]) (Fr := [F697, F682, F685, F644, F579, F583, (is g451), (is g430), (is g22), (is g17)]) S912
          exact ⟨rfl, _, H869, g891, t866.1.cells, A871, c872, F874, t866.1.trail, A875, c876, F878, t866.2, rfl, (by exact e60), (by exact e61), (by kernel_rfl), (by kernel_rfl), (by kernel_rfl), (by kernel_rfl), h745, h748, b522, h50, h55, b45, h873, h877, b898, (((((E830.trans E844).trans E850).trans E857).trans E863).trans E882), S913, M⟩
        refine ye (i := 9) (d := 17) rfl rfl (wanted_none rfl _) (by kernel_rfl) (by kernel_rfl) (new_blk (v := fun g_ => .pointer (some ⟨g_, 0, none⟩)) (cs := #[.slice none 0 0, .slice none 0 0]) (t := 34) S842 (by kernel_rfl)) ?_
        rintro hc919 _ w914 ⟨g915, rfl, b916, S917, K918⟩
        replace h839 := h839.move (K918.at 0 rfl)
        replace h821 := h821.move (K918.at 1 rfl)
        replace h825 := h825.move (K918.at 2 rfl)
        replace h745 := h745.move (K918.at 3 rfl)
        replace h748 := h748.move (K918.at 4 rfl)
        replace b522 := K918.blk 11 rfl b522
        replace h50 := h50.move (K918.at 16 rfl)
        replace h55 := h55.move (K918.at 17 rfl)
        replace b45 := K918.blk 18 rfl b45
        refine ⟨⟨(Ext.trans (E830.trans E844) S917.inv), (fun b_ h_ => (K918.at 14 rfl b_ h_).trans (hs845.2.1 b_ h_)), (fun b_ h_ => (K918.at 15 rfl b_ h_).trans (hs845.2.2 b_ h_))⟩, fun hs920 => ?_⟩
        have l921 := h821.le
        have S922 := S917.pull (F := F822) (Fr := [(is g915), F840, F826, F746, F749, F697, F682, F685, F644, F579, F583, (is g517), (is g451), (is g430), (is g22), (is g17), F49, F54, (is g44)]) 2 rfl rfl
        obtain ⟨H923, S924, E925, h926, z927⟩ := S922.frzRow h821
        replace h839 := h839.ext E925
        replace h825 := h825.ext E925
        replace h745 := h745.ext E925
        replace h748 := h748.ext E925
        replace h50 := h50.ext E925
        replace h55 := h55.ext E925
        have l928 := h825.le
        have S929 := S924.pull (F := F826) (Fr := [(is g915), F840, F746, F749, F697, F682, F685, F644, F579, F583, (is g517), (is g451), (is g430), (is g22), (is g17), F49, F54, (is g44)]) 2 rfl rfl
        obtain ⟨H930, S931, E932, h933, z934⟩ := S929.frzRow h825
        replace h839 := h839.ext E932
        replace h745 := h745.ext E932
        replace h748 := h748.ext E932
        replace h50 := h50.ext E932
        replace h55 := h55.ext E932
        have l935 := h839.le
        have S936 := S931.pull (F := F840) (Fr := [(is g915), F746, F749, F697, F682, F685, F644, F579, F583, (is g517), (is g451), (is g430), (is g22), (is g17), F49, F54, (is g44)]) 1 rfl rfl
        obtain ⟨H937, S938, E939, h940, z941⟩ := S936.frzRow h839
        replace h745 := h745.ext E939
        replace h748 := h748.ext E939
        replace h50 := h50.ext E939
        replace h55 := h55.ext E939
        obtain ⟨t942, u943, M⟩ := bnd M
        refine xone (i := 5) (by kernel_rfl) hc919 ?_
        refine yc (i := 5) rfl (wanted_none rfl _) (by kernel_rfl) (by kernel_rfl) (e_call (l := [.tmp 100, .tmp 101, .tmp 103]) (vs := [.agg #[.slice A819 t814.cells.length c820, .slice A823 t814.trail.length c824], .int .i64 x10, .agg #[.int .i64 t832.kind, .int .i64 t832.n, .slice A837 t832.text.length c838]]) Try.func31 (by kernel_rfl) rfl (by kernel_rfl) rfl) (impl_BindCell.calls k w914 H937 t814 A819 c820 A823 c824 x10 t832 A837 c838 (h926.ext (E932.trans E939)) l921 (h933.ext E939) l928 h940 l935 (St.own' (Fa := []) (Fr := [(is g915), F746, F749, F697, F682, F685, F644, F579, F583, (is g517), (is g451), (is g430), (is g22), (is g17), F49, F54, (is g44)]) S938) t942 u943) ?_
        rintro hc955 _ w944 ⟨A947, c948, F950, A951, c952, F954, H945, rfl, h949, h953, T946⟩
        refine ⟨_, rfl, ?_⟩
        obtain ⟨S956, K957⟩ := St.call (Fa := []) (Fr := [(is g915), F746, F749, F697, F682, F685, F644, F579, F583, (is g517), (is g451), (is g430), (is g22), (is g17), F49, F54, (is g44)]) S938 T946
        replace b916 := K957.blk 0 rfl b916
        replace h745 := h745.move (K957.at 1 rfl)
        replace h748 := h748.move (K957.at 2 rfl)
        replace b522 := K957.blk 9 rfl b522
        replace h50 := h50.move (K957.at 14 rfl)
        replace h55 := h55.move (K957.at 15 rfl)
        replace b45 := K957.blk 16 rfl b45
        have E958 := T946.ext
        replace h745 := h745.ext E958
        replace h748 := h748.ext E958
        replace h50 := h50.ext E958
        replace h55 := h55.ext E958
        refine ⟨⟨(Ext.trans (((((E830.trans E844).trans E925).trans E932).trans E939).trans E958) S956.inv), (fun b_ h_ => (K957.at 12 rfl b_ h_).trans (hs920.2.1 b_ h_)), (fun b_ h_ => (K957.at 13 rfl b_ h_).trans (hs920.2.2 b_ h_))⟩, fun hs959 => ?_⟩
        refine xone (i := 6) (by kernel_rfl) hc955 ?_
        refine yo (i := 6) (d := 98) rfl rfl (wanted_none rfl _) (by kernel_rfl) (by kernel_rfl) (fun _ _ => Iff.rfl) hs959 (e_move (v := .tuple #[.agg #[.slice A947 t942.1.cells.length c948, .slice A951 t942.1.trail.length c952], .int .i64 t942.2]) (by kernel_rfl)) ?_; intro hc960 hs961
        refine xv (i := 7) (d := 105) rfl rfl rfl (by kernel_rfl) (by kernel_rfl) (fun _ _ => Iff.rfl) hc960 hs961 (fun L_ w_ hc_ hu_ hs_ => e_extract (vs := #[.agg #[.slice A947 t942.1.cells.length c948, .slice A951 t942.1.trail.length c952], .int .i64 t942.2]) (v := .agg #[.slice A947 t942.1.cells.length c948, .slice A951 t942.1.trail.length c952]) (by kernel_rfl) rfl) ?_; intro hc962 hs963
        refine xv (i := 8) (d := 106) rfl rfl rfl (by kernel_rfl) (by kernel_rfl) (fun _ _ => Iff.rfl) hc962 hs963 (fun L_ w_ hc_ hu_ hs_ => e_extract (vs := #[.agg #[.slice A947 t942.1.cells.length c948, .slice A951 t942.1.trail.length c952], .int .i64 t942.2]) (v := .int .i64 t942.2) (by kernel_rfl) rfl) ?_; intro hc964 hs965
        have S966 := S956.pull (F := (is g915)) (Fr := [F950, F954, F746, F749, F697, F682, F685, F644, F579, F583, (is g517), (is g451), (is g430), (is g22), (is g17), F49, F54, (is g44)]) 2 rfl rfl
        refine xone (i := 10) (by kernel_rfl) hc964 ?_
        refine ys (i := 10) rfl rfl (wanted_none rfl _) (by kernel_rfl) (by kernel_rfl) (e_store (g := g915) (o := 0) (v := .agg #[.slice A947 t942.1.cells.length c948, .slice A951 t942.1.trail.length c952]) (cur' := #[.slice A947 t942.1.cells.length c948, .slice A951 t942.1.trail.length c952]) (vs := [.slice A947 t942.1.cells.length c948, .slice A951 t942.1.trail.length c952]) S966 (by kernel_rfl) (by kernel_rfl) rfl (by kernel_rfl) b916 (Nat.le_of_ble_eq_true rfl) (List.forall_mem_cons.2 ⟨rfl, (List.forall_mem_cons.2 ⟨rfl, (fun _ h_ => by cases h_)⟩)⟩) rfl) ?_
        rintro hc971 w967 ⟨b968, S969, K970⟩
        replace h949 := h949.move (K970.at 0 rfl)
        replace h953 := h953.move (K970.at 1 rfl)
        replace h745 := h745.move (K970.at 2 rfl)
        replace h748 := h748.move (K970.at 3 rfl)
        replace b522 := K970.blk 10 rfl b522
        replace h50 := h50.move (K970.at 15 rfl)
        replace h55 := h55.move (K970.at 16 rfl)
        replace b45 := K970.blk 17 rfl b45
        refine ⟨⟨(Ext.trans (((((E830.trans E844).trans E925).trans E932).trans E939).trans E958) S969.inv), (fun b_ h_ => (K970.at 13 rfl b_ h_).trans (hs965.2.1 b_ h_)), (fun b_ h_ => (K970.at 14 rfl b_ h_).trans (hs965.2.2 b_ h_))⟩, fun hs972 => ?_⟩
        clear b916
        refine xone (i := 11) (by kernel_rfl) hc971 ?_
        refine yo (i := 11) (d := 18) rfl rfl (wanted_none rfl _) (by kernel_rfl) (by kernel_rfl) (fun _ _ => Iff.rfl) hs972 (e_assign (v := .int .i64 t942.2) (by kernel_rfl)) ?_; intro hc973 hs974
        refine xn (by kernel_rfl) ?_ _
        have S975 := S969.pull (F := F954) (Fr := [(is g915), F950, F746, F749, F697, F682, F685, F644, F579, F583, (is g517), (is g451), (is g430), (is g22), (is g17), F49, F54, (is g44)]) 2 rfl rfl
        have S976 := S975.pull (F := F950) (Fr := [F954, (is g915), F746, F749, F697, F682, F685, F644, F579, F583, (is g517), (is g451), (is g430), (is g22), (is g17), F49, F54, (is g44)]) 2 rfl rfl
        have S977 := S976.pull (F := (is g44)) (Fr := [F950, F954, (is g915), F746, F749, F697, F682, F685, F644, F579, F583, (is g517), (is g451), (is g430), (is g22), (is g17), F49, F54]) 18 rfl rfl
        have S978 := S977.pull (F := F54) (Fr := [(is g44), F950, F954, (is g915), F746, F749, F697, F682, F685, F644, F579, F583, (is g517), (is g451), (is g430), (is g22), (is g17), F49]) 18 rfl rfl
        have S979 := S978.pull (F := F49) (Fr := [F54, (is g44), F950, F954, (is g915), F746, F749, F697, F682, F685, F644, F579, F583, (is g517), (is g451), (is g430), (is g22), (is g17)]) 18 rfl rfl
        have S980 := S979.pull (F := (is g517)) (Fr := [F49, F54, (is g44), F950, F954, (is g915), F746, F749, F697, F682, F685, F644, F579, F583, (is g451), (is g430), (is g22), (is g17)]) 14 rfl rfl
        have S981 := S980.pull (F := F749) (Fr := [(is g517), F49, F54, (is g44), F950, F954, (is g915), F746, F697, F682, F685, F644, F579, F583, (is g451), (is g430), (is g22), (is g17)]) 8 rfl rfl
        have S982 := S981.pull (F := F746) (Fr := [F749, (is g517), F49, F54, (is g44), F950, F954, (is g915), F697, F682, F685, F644, F579, F583, (is g451), (is g430), (is g22), (is g17)]) 8 rfl rfl
        have S983 := St.first (Fa := [F746, F749, (is g517), F49, F54, (is g44), F950, F954, (is g915)]) (Fr := [F697, F682, F685, F644, F579, F583, (is g451), (is g430), (is g22), (is g17)]) S982
        exact ⟨rfl, _, H945, g915, t942.1.cells, A947, c948, F950, t942.1.trail, A951, c952, F954, t942.2, rfl, (by exact e60), (by exact e61), (by kernel_rfl), (by kernel_rfl), (by kernel_rfl), (by kernel_rfl), h745, h748, b522, h50, h55, b45, h949, h953, b968, (((((E830.trans E844).trans E925).trans E932).trans E939).trans E958), S983, M⟩
      refine ye (i := 9) (d := 17) rfl rfl (wanted_none rfl _) (by kernel_rfl) (by kernel_rfl) (new_blk (v := fun g_ => .pointer (some ⟨g_, 0, none⟩)) (cs := #[.slice none 0 0, .slice none 0 0]) (t := 34) S828 (by kernel_rfl)) ?_
      rintro hc989 _ w984 ⟨g985, rfl, b986, S987, K988⟩
      replace h821 := h821.move (K988.at 0 rfl)
      replace h825 := h825.move (K988.at 1 rfl)
      replace h745 := h745.move (K988.at 2 rfl)
      replace h748 := h748.move (K988.at 3 rfl)
      replace b522 := K988.blk 10 rfl b522
      replace h50 := h50.move (K988.at 15 rfl)
      replace h55 := h55.move (K988.at 16 rfl)
      replace b45 := K988.blk 17 rfl b45
      refine ⟨⟨(Ext.trans E830 S987.inv), (fun b_ h_ => (K988.at 13 rfl b_ h_).trans (hs831.2.1 b_ h_)), (fun b_ h_ => (K988.at 14 rfl b_ h_).trans (hs831.2.2 b_ h_))⟩, fun hs990 => ?_⟩
      obtain ⟨t991, u992, M⟩ := bnd M
      refine xone (i := 4) (by kernel_rfl) hc989 ?_
      refine yc (i := 4) rfl (wanted_none rfl _) (by kernel_rfl) (by kernel_rfl) (e_call (l := [.tmp 102]) (vs := [.agg #[.int .i64 x11.kind, .int .i64 x11.n, .slice A12 x11.text.length c13]]) Try.func13 (by kernel_rfl) rfl (by kernel_rfl) rfl) (laws_toCell.calls k w984 H817 x11 A12 c13 (h14.ext (((((((((Y43.trans E428).trans E449).trans E514).trans E587).trans E648).trans E689).trans E701).trans E753).trans E830)) l15 (St.own' (Fa := []) (Fr := [(is g985), F822, F826, F746, F749, F697, F682, F685, F644, F579, F583, (is g517), (is g451), (is g430), (is g22), (is g17), F49, F54, (is g44)]) S987) t991 u992) ?_
      rintro hc1000 _ w993 ⟨A996, c997, F999, H994, rfl, h998, T995⟩
      refine ⟨_, rfl, ?_⟩
      obtain ⟨S1001, K1002⟩ := St.call (Fa := []) (Fr := [(is g985), F822, F826, F746, F749, F697, F682, F685, F644, F579, F583, (is g517), (is g451), (is g430), (is g22), (is g17), F49, F54, (is g44)]) S987 T995
      replace b986 := K1002.blk 0 rfl b986
      replace h821 := h821.move (K1002.at 1 rfl)
      replace h825 := h825.move (K1002.at 2 rfl)
      replace h745 := h745.move (K1002.at 3 rfl)
      replace h748 := h748.move (K1002.at 4 rfl)
      replace b522 := K1002.blk 11 rfl b522
      replace h50 := h50.move (K1002.at 16 rfl)
      replace h55 := h55.move (K1002.at 17 rfl)
      replace b45 := K1002.blk 18 rfl b45
      have E1003 := T995.ext
      replace h821 := h821.ext E1003
      replace h825 := h825.ext E1003
      replace h745 := h745.ext E1003
      replace h748 := h748.ext E1003
      replace h50 := h50.ext E1003
      replace h55 := h55.ext E1003
      refine ⟨⟨(Ext.trans (E830.trans E1003) S1001.inv), (fun b_ h_ => (K1002.at 14 rfl b_ h_).trans (hs990.2.1 b_ h_)), (fun b_ h_ => (K1002.at 15 rfl b_ h_).trans (hs990.2.2 b_ h_))⟩, fun hs1004 => ?_⟩
      have l1005 := h821.le
      have S1006 := S1001.pull (F := F822) (Fr := [F999, (is g985), F826, F746, F749, F697, F682, F685, F644, F579, F583, (is g517), (is g451), (is g430), (is g22), (is g17), F49, F54, (is g44)]) 2 rfl rfl
      obtain ⟨H1007, S1008, E1009, h1010, z1011⟩ := S1006.frzRow h821
      replace h998 := h998.ext E1009
      replace h825 := h825.ext E1009
      replace h745 := h745.ext E1009
      replace h748 := h748.ext E1009
      replace h50 := h50.ext E1009
      replace h55 := h55.ext E1009
      have l1012 := h825.le
      have S1013 := S1008.pull (F := F826) (Fr := [F999, (is g985), F746, F749, F697, F682, F685, F644, F579, F583, (is g517), (is g451), (is g430), (is g22), (is g17), F49, F54, (is g44)]) 2 rfl rfl
      obtain ⟨H1014, S1015, E1016, h1017, z1018⟩ := S1013.frzRow h825
      replace h998 := h998.ext E1016
      replace h745 := h745.ext E1016
      replace h748 := h748.ext E1016
      replace h50 := h50.ext E1016
      replace h55 := h55.ext E1016
      have l1019 := h998.le
      obtain ⟨H1020, S1021, E1022, h1023, z1024⟩ := S1015.frzRow h998
      replace h745 := h745.ext E1022
      replace h748 := h748.ext E1022
      replace h50 := h50.ext E1022
      replace h55 := h55.ext E1022
      obtain ⟨t1025, u1026, M⟩ := bnd M
      refine xone (i := 5) (by kernel_rfl) hc1000 ?_
      refine yc (i := 5) rfl (wanted_none rfl _) (by kernel_rfl) (by kernel_rfl) (e_call (l := [.tmp 100, .tmp 101, .tmp 103]) (vs := [.agg #[.slice A819 t814.cells.length c820, .slice A823 t814.trail.length c824], .int .i64 x10, .agg #[.int .i64 t991.kind, .int .i64 t991.n, .slice A996 t991.text.length c997]]) Try.func31 (by kernel_rfl) rfl (by kernel_rfl) rfl) (impl_BindCell.calls k w993 H1020 t814 A819 c820 A823 c824 x10 t991 A996 c997 (h1010.ext (E1016.trans E1022)) l1005 (h1017.ext E1022) l1012 h1023 l1019 (St.own' (Fa := []) (Fr := [(is g985), F746, F749, F697, F682, F685, F644, F579, F583, (is g517), (is g451), (is g430), (is g22), (is g17), F49, F54, (is g44)]) S1021) t1025 u1026) ?_
      rintro hc1038 _ w1027 ⟨A1030, c1031, F1033, A1034, c1035, F1037, H1028, rfl, h1032, h1036, T1029⟩
      refine ⟨_, rfl, ?_⟩
      obtain ⟨S1039, K1040⟩ := St.call (Fa := []) (Fr := [(is g985), F746, F749, F697, F682, F685, F644, F579, F583, (is g517), (is g451), (is g430), (is g22), (is g17), F49, F54, (is g44)]) S1021 T1029
      replace b986 := K1040.blk 0 rfl b986
      replace h745 := h745.move (K1040.at 1 rfl)
      replace h748 := h748.move (K1040.at 2 rfl)
      replace b522 := K1040.blk 9 rfl b522
      replace h50 := h50.move (K1040.at 14 rfl)
      replace h55 := h55.move (K1040.at 15 rfl)
      replace b45 := K1040.blk 16 rfl b45
      have E1041 := T1029.ext
      replace h745 := h745.ext E1041
      replace h748 := h748.ext E1041
      replace h50 := h50.ext E1041
      replace h55 := h55.ext E1041
      refine ⟨⟨(Ext.trans (((((E830.trans E1003).trans E1009).trans E1016).trans E1022).trans E1041) S1039.inv), (fun b_ h_ => (K1040.at 12 rfl b_ h_).trans (hs1004.2.1 b_ h_)), (fun b_ h_ => (K1040.at 13 rfl b_ h_).trans (hs1004.2.2 b_ h_))⟩, fun hs1042 => ?_⟩
      refine xone (i := 6) (by kernel_rfl) hc1038 ?_
      refine yo (i := 6) (d := 98) rfl rfl (wanted_none rfl _) (by kernel_rfl) (by kernel_rfl) (fun _ _ => Iff.rfl) hs1042 (e_move (v := .tuple #[.agg #[.slice A1030 t1025.1.cells.length c1031, .slice A1034 t1025.1.trail.length c1035], .int .i64 t1025.2]) (by kernel_rfl)) ?_; intro hc1043 hs1044
      refine xv (i := 7) (d := 105) rfl rfl rfl (by kernel_rfl) (by kernel_rfl) (fun _ _ => Iff.rfl) hc1043 hs1044 (fun L_ w_ hc_ hu_ hs_ => e_extract (vs := #[.agg #[.slice A1030 t1025.1.cells.length c1031, .slice A1034 t1025.1.trail.length c1035], .int .i64 t1025.2]) (v := .agg #[.slice A1030 t1025.1.cells.length c1031, .slice A1034 t1025.1.trail.length c1035]) (by kernel_rfl) rfl) ?_; intro hc1045 hs1046
      refine xv (i := 8) (d := 106) rfl rfl rfl (by kernel_rfl) (by kernel_rfl) (fun _ _ => Iff.rfl) hc1045 hs1046 (fun L_ w_ hc_ hu_ hs_ => e_extract (vs := #[.agg #[.slice A1030 t1025.1.cells.length c1031, .slice A1034 t1025.1.trail.length c1035], .int .i64 t1025.2]) (v := .int .i64 t1025.2) (by kernel_rfl) rfl) ?_; intro hc1047 hs1048
      have S1049 := S1039.pull (F := (is g985)) (Fr := [F1033, F1037, F746, F749, F697, F682, F685, F644, F579, F583, (is g517), (is g451), (is g430), (is g22), (is g17), F49, F54, (is g44)]) 2 rfl rfl
      refine xone (i := 10) (by kernel_rfl) hc1047 ?_
      refine ys (i := 10) rfl rfl (wanted_none rfl _) (by kernel_rfl) (by kernel_rfl) (e_store (g := g985) (o := 0) (v := .agg #[.slice A1030 t1025.1.cells.length c1031, .slice A1034 t1025.1.trail.length c1035]) (cur' := #[.slice A1030 t1025.1.cells.length c1031, .slice A1034 t1025.1.trail.length c1035]) (vs := [.slice A1030 t1025.1.cells.length c1031, .slice A1034 t1025.1.trail.length c1035]) S1049 (by kernel_rfl) (by kernel_rfl) rfl (by kernel_rfl) b986 (Nat.le_of_ble_eq_true rfl) (List.forall_mem_cons.2 ⟨rfl, (List.forall_mem_cons.2 ⟨rfl, (fun _ h_ => by cases h_)⟩)⟩) rfl) ?_
      rintro hc1054 w1050 ⟨b1051, S1052, K1053⟩
      replace h1032 := h1032.move (K1053.at 0 rfl)
      replace h1036 := h1036.move (K1053.at 1 rfl)
      replace h745 := h745.move (K1053.at 2 rfl)
      replace h748 := h748.move (K1053.at 3 rfl)
      replace b522 := K1053.blk 10 rfl b522
      replace h50 := h50.move (K1053.at 15 rfl)
      replace h55 := h55.move (K1053.at 16 rfl)
      replace b45 := K1053.blk 17 rfl b45
      refine ⟨⟨(Ext.trans (((((E830.trans E1003).trans E1009).trans E1016).trans E1022).trans E1041) S1052.inv), (fun b_ h_ => (K1053.at 13 rfl b_ h_).trans (hs1048.2.1 b_ h_)), (fun b_ h_ => (K1053.at 14 rfl b_ h_).trans (hs1048.2.2 b_ h_))⟩, fun hs1055 => ?_⟩
      clear b986
      refine xone (i := 11) (by kernel_rfl) hc1054 ?_
      refine yo (i := 11) (d := 18) rfl rfl (wanted_none rfl _) (by kernel_rfl) (by kernel_rfl) (fun _ _ => Iff.rfl) hs1055 (e_assign (v := .int .i64 t1025.2) (by kernel_rfl)) ?_; intro hc1056 hs1057
      refine xn (by kernel_rfl) ?_ _
      have S1058 := S1052.pull (F := F1037) (Fr := [(is g985), F1033, F746, F749, F697, F682, F685, F644, F579, F583, (is g517), (is g451), (is g430), (is g22), (is g17), F49, F54, (is g44)]) 2 rfl rfl
      have S1059 := S1058.pull (F := F1033) (Fr := [F1037, (is g985), F746, F749, F697, F682, F685, F644, F579, F583, (is g517), (is g451), (is g430), (is g22), (is g17), F49, F54, (is g44)]) 2 rfl rfl
      have S1060 := S1059.pull (F := (is g44)) (Fr := [F1033, F1037, (is g985), F746, F749, F697, F682, F685, F644, F579, F583, (is g517), (is g451), (is g430), (is g22), (is g17), F49, F54]) 18 rfl rfl
      have S1061 := S1060.pull (F := F54) (Fr := [(is g44), F1033, F1037, (is g985), F746, F749, F697, F682, F685, F644, F579, F583, (is g517), (is g451), (is g430), (is g22), (is g17), F49]) 18 rfl rfl
      have S1062 := S1061.pull (F := F49) (Fr := [F54, (is g44), F1033, F1037, (is g985), F746, F749, F697, F682, F685, F644, F579, F583, (is g517), (is g451), (is g430), (is g22), (is g17)]) 18 rfl rfl
      have S1063 := S1062.pull (F := (is g517)) (Fr := [F49, F54, (is g44), F1033, F1037, (is g985), F746, F749, F697, F682, F685, F644, F579, F583, (is g451), (is g430), (is g22), (is g17)]) 14 rfl rfl
      have S1064 := S1063.pull (F := F749) (Fr := [(is g517), F49, F54, (is g44), F1033, F1037, (is g985), F746, F697, F682, F685, F644, F579, F583, (is g451), (is g430), (is g22), (is g17)]) 8 rfl rfl
      have S1065 := S1064.pull (F := F746) (Fr := [F749, (is g517), F49, F54, (is g44), F1033, F1037, (is g985), F697, F682, F685, F644, F579, F583, (is g451), (is g430), (is g22), (is g17)]) 8 rfl rfl
      have S1066 := St.first (Fa := [F746, F749, (is g517), F49, F54, (is g44), F1033, F1037, (is g985)]) (Fr := [F697, F682, F685, F644, F579, F583, (is g451), (is g430), (is g22), (is g17)]) S1065
      exact ⟨rfl, _, H1028, g985, t1025.1.cells, A1030, c1031, F1033, t1025.1.trail, A1034, c1035, F1037, t1025.2, rfl, (by exact e60), (by exact e61), (by kernel_rfl), (by kernel_rfl), (by kernel_rfl), (by kernel_rfl), h745, h748, b522, h50, h55, b45, h1032, h1036, b1051, (((((E830.trans E1003).trans E1009).trans E1016).trans E1022).trans E1041), S1066, M⟩
    refine ye (i := 9) (d := 17) rfl rfl (wanted_none rfl _) (by kernel_rfl) (by kernel_rfl) (new_blk (v := fun g_ => .pointer (some ⟨g_, 0, none⟩)) (cs := #[.slice none 0 0, .slice none 0 0]) (t := 34) S802 (by kernel_rfl)) ?_
    rintro hc1072 _ w1067 ⟨g1068, rfl, b1069, S1070, K1071⟩
    replace h745 := h745.move (K1071.at 0 rfl)
    replace h748 := h748.move (K1071.at 1 rfl)
    replace b522 := K1071.blk 8 rfl b522
    replace h50 := h50.move (K1071.at 13 rfl)
    replace h55 := h55.move (K1071.at 14 rfl)
    replace b45 := K1071.blk 15 rfl b45
    refine ⟨⟨S1070.inv, (fun b_ h_ => (K1071.at 11 rfl b_ h_).trans (hs813.2.1 b_ h_)), (fun b_ h_ => (K1071.at 12 rfl b_ h_).trans (hs813.2.2 b_ h_))⟩, fun hs1073 => ?_⟩
    obtain ⟨t1074, u1075, M⟩ := bnd M
    refine xone (i := 1) (by kernel_rfl) hc1072 ?_
    refine yc (i := 1) rfl (wanted_none rfl _) (by kernel_rfl) (by kernel_rfl) (e_call (l := [.tmp 99]) (vs := [.agg #[.slice A2 x1.cells.length c3, .slice A6 x1.trail.length c7]]) Try.func12 (by kernel_rfl) rfl (by kernel_rfl) rfl) (laws_toStore.calls k w1067 H743 x1 A2 c3 A6 c7 (h4.ext ((((((((Y43.trans E428).trans E449).trans E514).trans E587).trans E648).trans E689).trans E701).trans E753)) l5 (h8.ext ((((((((Y43.trans E428).trans E449).trans E514).trans E587).trans E648).trans E689).trans E701).trans E753)) l9 (St.own' (Fa := []) (Fr := [(is g1068), F746, F749, F697, F682, F685, F644, F579, F583, (is g517), (is g451), (is g430), (is g22), (is g17), F49, F54, (is g44)]) S1070) t1074 u1075) ?_
    rintro hc1087 _ w1076 ⟨A1079, c1080, F1082, A1083, c1084, F1086, H1077, rfl, h1081, h1085, T1078⟩
    refine ⟨_, rfl, ?_⟩
    obtain ⟨S1088, K1089⟩ := St.call (Fa := []) (Fr := [(is g1068), F746, F749, F697, F682, F685, F644, F579, F583, (is g517), (is g451), (is g430), (is g22), (is g17), F49, F54, (is g44)]) S1070 T1078
    replace b1069 := K1089.blk 0 rfl b1069
    replace h745 := h745.move (K1089.at 1 rfl)
    replace h748 := h748.move (K1089.at 2 rfl)
    replace b522 := K1089.blk 9 rfl b522
    replace h50 := h50.move (K1089.at 14 rfl)
    replace h55 := h55.move (K1089.at 15 rfl)
    replace b45 := K1089.blk 16 rfl b45
    have E1090 := T1078.ext
    replace h745 := h745.ext E1090
    replace h748 := h748.ext E1090
    replace h50 := h50.ext E1090
    replace h55 := h55.ext E1090
    refine ⟨⟨(Ext.trans E1090 S1088.inv), (fun b_ h_ => (K1089.at 12 rfl b_ h_).trans (hs1073.2.1 b_ h_)), (fun b_ h_ => (K1089.at 13 rfl b_ h_).trans (hs1073.2.2 b_ h_))⟩, fun hs1091 => ?_⟩
    obtain ⟨t1092, u1093, M⟩ := bnd M
    refine xone (i := 4) (by kernel_rfl) hc1087 ?_
    refine yc (i := 4) rfl (wanted_none rfl _) (by kernel_rfl) (by kernel_rfl) (e_call (l := [.tmp 102]) (vs := [.agg #[.int .i64 x11.kind, .int .i64 x11.n, .slice A12 x11.text.length c13]]) Try.func13 (by kernel_rfl) rfl (by kernel_rfl) rfl) (laws_toCell.calls k w1076 H1077 x11 A12 c13 (h14.ext (((((((((Y43.trans E428).trans E449).trans E514).trans E587).trans E648).trans E689).trans E701).trans E753).trans E1090)) l15 (St.own' (Fa := []) (Fr := [F1082, F1086, (is g1068), F746, F749, F697, F682, F685, F644, F579, F583, (is g517), (is g451), (is g430), (is g22), (is g17), F49, F54, (is g44)]) S1088) t1092 u1093) ?_
    rintro hc1101 _ w1094 ⟨A1097, c1098, F1100, H1095, rfl, h1099, T1096⟩
    refine ⟨_, rfl, ?_⟩
    obtain ⟨S1102, K1103⟩ := St.call (Fa := []) (Fr := [F1082, F1086, (is g1068), F746, F749, F697, F682, F685, F644, F579, F583, (is g517), (is g451), (is g430), (is g22), (is g17), F49, F54, (is g44)]) S1088 T1096
    replace h1081 := h1081.move (K1103.at 0 rfl)
    replace h1085 := h1085.move (K1103.at 1 rfl)
    replace b1069 := K1103.blk 2 rfl b1069
    replace h745 := h745.move (K1103.at 3 rfl)
    replace h748 := h748.move (K1103.at 4 rfl)
    replace b522 := K1103.blk 11 rfl b522
    replace h50 := h50.move (K1103.at 16 rfl)
    replace h55 := h55.move (K1103.at 17 rfl)
    replace b45 := K1103.blk 18 rfl b45
    have E1104 := T1096.ext
    replace h1081 := h1081.ext E1104
    replace h1085 := h1085.ext E1104
    replace h745 := h745.ext E1104
    replace h748 := h748.ext E1104
    replace h50 := h50.ext E1104
    replace h55 := h55.ext E1104
    refine ⟨⟨(Ext.trans (E1090.trans E1104) S1102.inv), (fun b_ h_ => (K1103.at 14 rfl b_ h_).trans (hs1091.2.1 b_ h_)), (fun b_ h_ => (K1103.at 15 rfl b_ h_).trans (hs1091.2.2 b_ h_))⟩, fun hs1105 => ?_⟩
    have l1106 := h1081.le
    have S1107 := S1102.pull (F := F1082) (Fr := [F1100, F1086, (is g1068), F746, F749, F697, F682, F685, F644, F579, F583, (is g517), (is g451), (is g430), (is g22), (is g17), F49, F54, (is g44)]) 1 rfl rfl
    obtain ⟨H1108, S1109, E1110, h1111, z1112⟩ := S1107.frzRow h1081
    replace h1099 := h1099.ext E1110
    replace h1085 := h1085.ext E1110
    replace h745 := h745.ext E1110
    replace h748 := h748.ext E1110
    replace h50 := h50.ext E1110
    replace h55 := h55.ext E1110
    have l1113 := h1085.le
    have S1114 := S1109.pull (F := F1086) (Fr := [F1100, (is g1068), F746, F749, F697, F682, F685, F644, F579, F583, (is g517), (is g451), (is g430), (is g22), (is g17), F49, F54, (is g44)]) 1 rfl rfl
    obtain ⟨H1115, S1116, E1117, h1118, z1119⟩ := S1114.frzRow h1085
    replace h1099 := h1099.ext E1117
    replace h745 := h745.ext E1117
    replace h748 := h748.ext E1117
    replace h50 := h50.ext E1117
    replace h55 := h55.ext E1117
    have l1120 := h1099.le
    obtain ⟨H1121, S1122, E1123, h1124, z1125⟩ := S1116.frzRow h1099
    replace h745 := h745.ext E1123
    replace h748 := h748.ext E1123
    replace h50 := h50.ext E1123
    replace h55 := h55.ext E1123
    obtain ⟨t1126, u1127, M⟩ := bnd M
    refine xone (i := 5) (by kernel_rfl) hc1101 ?_
    refine yc (i := 5) rfl (wanted_none rfl _) (by kernel_rfl) (by kernel_rfl) (e_call (l := [.tmp 100, .tmp 101, .tmp 103]) (vs := [.agg #[.slice A1079 t1074.cells.length c1080, .slice A1083 t1074.trail.length c1084], .int .i64 x10, .agg #[.int .i64 t1092.kind, .int .i64 t1092.n, .slice A1097 t1092.text.length c1098]]) Try.func31 (by kernel_rfl) rfl (by kernel_rfl) rfl) (impl_BindCell.calls k w1094 H1121 t1074 A1079 c1080 A1083 c1084 x10 t1092 A1097 c1098 (h1111.ext (E1117.trans E1123)) l1106 (h1118.ext E1123) l1113 h1124 l1120 (St.own' (Fa := []) (Fr := [(is g1068), F746, F749, F697, F682, F685, F644, F579, F583, (is g517), (is g451), (is g430), (is g22), (is g17), F49, F54, (is g44)]) S1122) t1126 u1127) ?_
    rintro hc1139 _ w1128 ⟨A1131, c1132, F1134, A1135, c1136, F1138, H1129, rfl, h1133, h1137, T1130⟩
    refine ⟨_, rfl, ?_⟩
    obtain ⟨S1140, K1141⟩ := St.call (Fa := []) (Fr := [(is g1068), F746, F749, F697, F682, F685, F644, F579, F583, (is g517), (is g451), (is g430), (is g22), (is g17), F49, F54, (is g44)]) S1122 T1130
    replace b1069 := K1141.blk 0 rfl b1069
    replace h745 := h745.move (K1141.at 1 rfl)
    replace h748 := h748.move (K1141.at 2 rfl)
    replace b522 := K1141.blk 9 rfl b522
    replace h50 := h50.move (K1141.at 14 rfl)
    replace h55 := h55.move (K1141.at 15 rfl)
    replace b45 := K1141.blk 16 rfl b45
    have E1142 := T1130.ext
    replace h745 := h745.ext E1142
    replace h748 := h748.ext E1142
    replace h50 := h50.ext E1142
    replace h55 := h55.ext E1142
    refine ⟨⟨(Ext.trans (((((E1090.trans E1104).trans E1110).trans E1117).trans E1123).trans E1142) S1140.inv), (fun b_ h_ => (K1141.at 12 rfl b_ h_).trans (hs1105.2.1 b_ h_)), (fun b_ h_ => (K1141.at 13 rfl b_ h_).trans (hs1105.2.2 b_ h_))⟩, fun hs1143 => ?_⟩
    refine xone (i := 6) (by kernel_rfl) hc1139 ?_
    refine yo (i := 6) (d := 98) rfl rfl (wanted_none rfl _) (by kernel_rfl) (by kernel_rfl) (fun _ _ => Iff.rfl) hs1143 (e_move (v := .tuple #[.agg #[.slice A1131 t1126.1.cells.length c1132, .slice A1135 t1126.1.trail.length c1136], .int .i64 t1126.2]) (by kernel_rfl)) ?_; intro hc1144 hs1145
    refine xv (i := 7) (d := 105) rfl rfl rfl (by kernel_rfl) (by kernel_rfl) (fun _ _ => Iff.rfl) hc1144 hs1145 (fun L_ w_ hc_ hu_ hs_ => e_extract (vs := #[.agg #[.slice A1131 t1126.1.cells.length c1132, .slice A1135 t1126.1.trail.length c1136], .int .i64 t1126.2]) (v := .agg #[.slice A1131 t1126.1.cells.length c1132, .slice A1135 t1126.1.trail.length c1136]) (by kernel_rfl) rfl) ?_; intro hc1146 hs1147
    refine xv (i := 8) (d := 106) rfl rfl rfl (by kernel_rfl) (by kernel_rfl) (fun _ _ => Iff.rfl) hc1146 hs1147 (fun L_ w_ hc_ hu_ hs_ => e_extract (vs := #[.agg #[.slice A1131 t1126.1.cells.length c1132, .slice A1135 t1126.1.trail.length c1136], .int .i64 t1126.2]) (v := .int .i64 t1126.2) (by kernel_rfl) rfl) ?_; intro hc1148 hs1149
    have S1150 := S1140.pull (F := (is g1068)) (Fr := [F1134, F1138, F746, F749, F697, F682, F685, F644, F579, F583, (is g517), (is g451), (is g430), (is g22), (is g17), F49, F54, (is g44)]) 2 rfl rfl
    refine xone (i := 10) (by kernel_rfl) hc1148 ?_
    refine ys (i := 10) rfl rfl (wanted_none rfl _) (by kernel_rfl) (by kernel_rfl) (e_store (g := g1068) (o := 0) (v := .agg #[.slice A1131 t1126.1.cells.length c1132, .slice A1135 t1126.1.trail.length c1136]) (cur' := #[.slice A1131 t1126.1.cells.length c1132, .slice A1135 t1126.1.trail.length c1136]) (vs := [.slice A1131 t1126.1.cells.length c1132, .slice A1135 t1126.1.trail.length c1136]) S1150 (by kernel_rfl) (by kernel_rfl) rfl (by kernel_rfl) b1069 (Nat.le_of_ble_eq_true rfl) (List.forall_mem_cons.2 ⟨rfl, (List.forall_mem_cons.2 ⟨rfl, (fun _ h_ => by cases h_)⟩)⟩) rfl) ?_
    rintro hc1155 w1151 ⟨b1152, S1153, K1154⟩
    replace h1133 := h1133.move (K1154.at 0 rfl)
    replace h1137 := h1137.move (K1154.at 1 rfl)
    replace h745 := h745.move (K1154.at 2 rfl)
    replace h748 := h748.move (K1154.at 3 rfl)
    replace b522 := K1154.blk 10 rfl b522
    replace h50 := h50.move (K1154.at 15 rfl)
    replace h55 := h55.move (K1154.at 16 rfl)
    replace b45 := K1154.blk 17 rfl b45
    refine ⟨⟨(Ext.trans (((((E1090.trans E1104).trans E1110).trans E1117).trans E1123).trans E1142) S1153.inv), (fun b_ h_ => (K1154.at 13 rfl b_ h_).trans (hs1149.2.1 b_ h_)), (fun b_ h_ => (K1154.at 14 rfl b_ h_).trans (hs1149.2.2 b_ h_))⟩, fun hs1156 => ?_⟩
    clear b1069
    refine xone (i := 11) (by kernel_rfl) hc1155 ?_
    refine yo (i := 11) (d := 18) rfl rfl (wanted_none rfl _) (by kernel_rfl) (by kernel_rfl) (fun _ _ => Iff.rfl) hs1156 (e_assign (v := .int .i64 t1126.2) (by kernel_rfl)) ?_; intro hc1157 hs1158
    refine xn (by kernel_rfl) ?_ _
    have S1159 := S1153.pull (F := F1138) (Fr := [(is g1068), F1134, F746, F749, F697, F682, F685, F644, F579, F583, (is g517), (is g451), (is g430), (is g22), (is g17), F49, F54, (is g44)]) 2 rfl rfl
    have S1160 := S1159.pull (F := F1134) (Fr := [F1138, (is g1068), F746, F749, F697, F682, F685, F644, F579, F583, (is g517), (is g451), (is g430), (is g22), (is g17), F49, F54, (is g44)]) 2 rfl rfl
    have S1161 := S1160.pull (F := (is g44)) (Fr := [F1134, F1138, (is g1068), F746, F749, F697, F682, F685, F644, F579, F583, (is g517), (is g451), (is g430), (is g22), (is g17), F49, F54]) 18 rfl rfl
    have S1162 := S1161.pull (F := F54) (Fr := [(is g44), F1134, F1138, (is g1068), F746, F749, F697, F682, F685, F644, F579, F583, (is g517), (is g451), (is g430), (is g22), (is g17), F49]) 18 rfl rfl
    have S1163 := S1162.pull (F := F49) (Fr := [F54, (is g44), F1134, F1138, (is g1068), F746, F749, F697, F682, F685, F644, F579, F583, (is g517), (is g451), (is g430), (is g22), (is g17)]) 18 rfl rfl
    have S1164 := S1163.pull (F := (is g517)) (Fr := [F49, F54, (is g44), F1134, F1138, (is g1068), F746, F749, F697, F682, F685, F644, F579, F583, (is g451), (is g430), (is g22), (is g17)]) 14 rfl rfl
    have S1165 := S1164.pull (F := F749) (Fr := [(is g517), F49, F54, (is g44), F1134, F1138, (is g1068), F746, F697, F682, F685, F644, F579, F583, (is g451), (is g430), (is g22), (is g17)]) 8 rfl rfl
    have S1166 := S1165.pull (F := F746) (Fr := [F749, (is g517), F49, F54, (is g44), F1134, F1138, (is g1068), F697, F682, F685, F644, F579, F583, (is g451), (is g430), (is g22), (is g17)]) 8 rfl rfl
    have S1167 := St.first (Fa := [F746, F749, (is g517), F49, F54, (is g44), F1134, F1138, (is g1068)]) (Fr := [F697, F682, F685, F644, F579, F583, (is g451), (is g430), (is g22), (is g17)]) S1166
    exact ⟨rfl, _, H1129, g1068, t1126.1.cells, A1131, c1132, F1134, t1126.1.trail, A1135, c1136, F1138, t1126.2, rfl, (by exact e60), (by exact e61), (by kernel_rfl), (by kernel_rfl), (by kernel_rfl), (by kernel_rfl), h745, h748, b522, h50, h55, b45, h1133, h1137, b1152, (((((E1090.trans E1104).trans E1110).trans E1117).trans E1123).trans E1142), S1167, M⟩
  clear M
  rintro a800 w774 ⟨f775, H776, g778, x780, A781, c782, F783, x785, A786, c787, F788, x790, rfl, e791, e792, e793, e794, e795, e796, h745, h748, b522, h50, h55, b45, h784, h789, b779, Y777, S797, M⟩
  rw [laws_FnExactBindCell.l1] at M
  refine then_n (wp_seq (wp_seq (wp_region_lit (lv (d := 107) rfl rfl (by kernel_rfl) (e_loadS (b := g778) (off := 0) (cs := [.slice A781 x780.length c782, .slice A786 x785.length c787]) Try.underlying34 rfl (by kernel_rfl) (by exact e795) (blk_cells b779 rfl)) (lv (d := 108) rfl rfl (by kernel_rfl) (e_loadS (b := g44) (off := 0) (cs := [.slice A47 x46.length c48, .slice A52 x51.length c53]) Try.underlying34 rfl (by kernel_rfl) (by exact e791) (blk_cells b45 rfl)) ?_)))))
  obtain ⟨t1168, u1169, M⟩ := bnd M
  refine lcall (d := 109) rfl rfl (by kernel_rfl) (e_call (l := [.tmp 107, .tmp 108]) (vs := [.agg #[.slice A781 x780.length c782, .slice A786 x785.length c787], .agg #[.slice A47 x46.length c48, .slice A52 x51.length c53]]) Try.func15 (by kernel_rfl) rfl (by kernel_rfl) rfl) (by have l1170 := h784.le; have S1171 := S797.pull (F := F783) (Fr := [F746, F749, (is g517), F49, F54, (is g44), F788, (is g778)]) 6 rfl rfl; obtain ⟨H1172, S1173, E1174, h1175, z1176⟩ := S1171.frzRow h784; replace h745 := h745.ext E1174; replace h748 := h748.ext E1174; replace h50 := h50.ext E1174; replace h55 := h55.ext E1174; replace h789 := h789.ext E1174; have l1177 := h789.le; have S1178 := S1173.pull (F := F788) (Fr := [F746, F749, (is g517), F49, F54, (is g44), (is g778)]) 6 rfl rfl; obtain ⟨H1179, S1180, E1181, h1182, z1183⟩ := S1178.frzRow h789; replace h745 := h745.ext E1181; replace h748 := h748.ext E1181; replace h50 := h50.ext E1181; replace h55 := h55.ext E1181; have l1184 := h50.le; have S1185 := S1180.pull (F := F49) (Fr := [F746, F749, (is g517), F54, (is g44), (is g778)]) 3 rfl rfl; obtain ⟨H1186, S1187, E1188, h1189, z1190⟩ := S1185.frzRow h50; replace h745 := h745.ext E1188; replace h748 := h748.ext E1188; replace h55 := h55.ext E1188; have l1191 := h55.le; have S1192 := S1187.pull (F := F54) (Fr := [F746, F749, (is g517), (is g44), (is g778)]) 3 rfl rfl; obtain ⟨H1193, S1194, E1195, h1196, z1197⟩ := S1192.frzRow h55; replace h745 := h745.ext E1195; replace h748 := h748.ext E1195; exact (laws_eqStore.calls k w774 H1193 (⟨x780, x785⟩ : Store) A781 c782 A786 c787 (⟨x46, x51⟩ : Store) A47 c48 A52 c53 (h1175.ext ((E1181.trans E1188).trans E1195)) l1170 (h1182.ext (E1188.trans E1195)) l1177 (h1189.ext E1195) l1184 h1196 l1191 S1194.own0 t1168 u1169)) ?_
  rintro _ w1198 ⟨rfl, C1199⟩
  refine ⟨_, rfl, ?_⟩
  obtain ⟨S1200, K1201⟩ := S797.still C1199
  replace h745 := h745.move (K1201.at 0 rfl)
  replace h748 := h748.move (K1201.at 1 rfl)
  replace b522 := K1201.blk 2 rfl b522
  replace h50 := h50.move (K1201.at 3 rfl)
  replace h55 := h55.move (K1201.at 4 rfl)
  replace h784 := h784.move (K1201.at 6 rfl)
  replace h789 := h789.move (K1201.at 7 rfl)
  refine lv (d := 110) rfl rfl (by kernel_rfl) (e_notv (c := t1168) (by kernel_rfl)) (lv (d := 111) rfl rfl (by kernel_rfl) (e_move (v := .bool (decide (¬ (t1168 = true)))) (by kernel_rfl)) ?_)
  by_cases q1202 : ¬ (t1168 = true)
  · replace M := ifp q1202 M
    refine lskip (t := 111) (c := true) rfl (by kernel_rfl) rfl (bt q1202 (by kernel_rfl)) rfl rfl ?_
    refine lskip (t := 111) (c := true) rfl (by kernel_rfl) rfl (bt q1202 (by kernel_rfl)) rfl rfl ?_
    refine lskip (t := 111) (c := true) rfl (by kernel_rfl) rfl (bt q1202 (by kernel_rfl)) rfl rfl ?_
    refine lv (d := 115) rfl rfl (by kernel_rfl) (e_pick_t (v := .bool true) (bt q1202 (by kernel_rfl)) rfl) (wpList_nil (then_n (cond_t rfl (by kernel_rfl) (wp_seq (wp_region_lit (lv (d := 6) rfl rfl (by kernel_rfl) (e_assign (v := .bool false) rfl) (wpList_nil ?_)))))))
    refine then_n (wp_ret (then_r ?_))
    obtain rfl := Option.some.inj M
    exact ret1 rfl rfl  (show _ = .bool false from (by kernel_rfl)) ⟨rfl, S1200.chg⟩
  replace M := ifn q1202 M
  refine lvg (d := 112) (t := 111) rfl (by kernel_rfl) rfl (bf q1202 (by kernel_rfl)) rfl (by kernel_rfl) (e_move (v := .int .i64 x790) (by exact e796)) (lvg (d := 113) (t := 111) rfl (by kernel_rfl) rfl (bf q1202 (by kernel_rfl)) rfl (by kernel_rfl) (e_move (v := .int .i64 x56) (by exact e792)) (lvg (d := 114) (t := 111) rfl (by kernel_rfl) rfl (bf q1202 (by kernel_rfl)) rfl (by kernel_rfl) (e_neq (k := .i64) (a := x790) (b := x56) (by kernel_rfl) (by kernel_rfl)) (lv (d := 115) rfl rfl (by kernel_rfl) (e_pick_f (v := .bool (decide (x790 ≠ x56))) (bf q1202 (by kernel_rfl)) (by kernel_rfl)) (wpList_nil (then_n ?_)))))
  by_cases q1203 : x790 ≠ x56
  · replace M := ifp q1203 M
    refine cond_t rfl (bt q1203 (by kernel_rfl)) (wp_seq (wp_region_lit (lv (d := 6) rfl rfl (by kernel_rfl) (e_assign (v := .bool false) rfl) (wpList_nil (then_n (wp_ret (then_r ?_)))))))
    obtain rfl := Option.some.inj M
    exact ret1 rfl rfl  (show _ = .bool false from (by kernel_rfl)) ⟨rfl, S1200.chg⟩
  replace M := ifn q1203 M
  refine cond_f rfl (bf q1203 (by kernel_rfl)) (wp_skip (then_n (wp_seq (wp_region_lit (lv (d := 16) rfl rfl (by kernel_rfl) (e_assign (v := .int .i64 1) rfl) (wpList_nil (then_n ?_)))))))
  refine wp_seq (wp_region_lit (lv (d := 116) rfl rfl (by kernel_rfl) (e_loadS (b := g517) (off := 0) (cs := [.slice A494 t489.1.cells.length c495, .slice A498 t489.1.trail.length c499]) Try.underlying34 rfl (by kernel_rfl) (by exact e793) (blk_cells b522 rfl)) (lv (d := 117) rfl rfl (by kernel_rfl) (e_move (v := .int .i64 1) (by kernel_rfl)) ?_)))
  obtain ⟨t1204, u1205, M⟩ := bnd M
  refine lcall (d := 118) rfl rfl (by kernel_rfl) (e_call (l := [.tmp 116, .tmp 117]) (vs := [.agg #[.slice A494 t489.1.cells.length c495, .slice A498 t489.1.trail.length c499], .int .i64 1]) Try.func29 (by kernel_rfl) rfl (by kernel_rfl) rfl) (by have l1206 := h745.le; obtain ⟨H1207, S1208, E1209, h1210, z1211⟩ := S1200.frzRow h745; replace h748 := h748.ext E1209; replace h50 := h50.ext E1209; replace h55 := h55.ext E1209; replace h784 := h784.ext E1209; replace h789 := h789.ext E1209; have l1212 := h748.le; obtain ⟨H1213, S1214, E1215, h1216, z1217⟩ := S1208.frzRow h748; replace h50 := h50.ext E1215; replace h55 := h55.ext E1215; replace h784 := h784.ext E1215; replace h789 := h789.ext E1215; exact (by have q_ := (laws_heldStore.calls k w1198 H1213 (⟨t740.2.1, t740.2.2⟩ : Store) A494 c495 A498 c499 1 (h1210.ext E1215) l1206 h1216 l1212 S1214.own0 t1204 u1205); rw [(show t740.2.1.length = t489.1.cells.length from n747), (show t740.2.2.length = t489.1.trail.length from n750)] at q_; exact q_)) ?_
  rintro _ w1218 ⟨rfl, C1219⟩
  refine ⟨_, rfl, ?_⟩
  obtain ⟨S1220, K1221⟩ := S1200.still C1219
  refine lv (d := 16) rfl rfl (by kernel_rfl) (e_assign (v := .int .i64 t1204) (by kernel_rfl)) (wpList_nil (then_n (wp_seq (wp_seq (wp_region_lit (lv (d := 119) rfl rfl (by kernel_rfl) (e_move (v := .int .i64 t1204) (by kernel_rfl)) (lv (d := 120) rfl rfl (by kernel_rfl) (e_lss (k := .i64) (a := t1204) (b := 0) (by kernel_rfl) rfl) ?_)))))))
  refine wpList_nil (then_n ?_)
  by_cases q1222 : t1204 < 0
  · replace M := ifp q1222 M
    refine cond_t rfl (bt q1222 (by kernel_rfl)) (wp_seq (wp_region_lit (lv (d := 6) rfl rfl (by kernel_rfl) (e_assign (v := .bool false) rfl) (wpList_nil (then_n (wp_ret (then_r ?_)))))))
    obtain rfl := Option.some.inj M
    exact ret1 rfl rfl  (show _ = .bool false from (by kernel_rfl)) ⟨rfl, S1220.chg⟩
  replace M := ifn q1222 M
  refine cond_f rfl (bf q1222 (by kernel_rfl)) (wp_skip (then_n (wp_seq (wp_seq (wp_region_lit (lv (d := 121) rfl rfl (by kernel_rfl) (e_move (v := .int .i64 t1204) (by kernel_rfl)) (lv (d := 122) rfl rfl (by kernel_rfl) (e_move (v := .int .i64 t740.1) (by exact e794)) ?_)))))))
  refine lv (d := 123) rfl rfl (by kernel_rfl) (e_neq (k := .i64) (a := t1204) (b := t740.1) (by kernel_rfl) (by kernel_rfl)) (wpList_nil (then_n ?_))
  by_cases q1223 : t1204 ≠ t740.1
  · replace M := ifp q1223 M
    refine cond_t rfl (bt q1223 (by kernel_rfl)) (wp_seq (wp_region_lit (lv (d := 6) rfl rfl (by kernel_rfl) (e_assign (v := .bool false) rfl) (wpList_nil (then_n (wp_ret (then_r ?_)))))))
    obtain rfl := Option.some.inj M
    exact ret1 rfl rfl  (show _ = .bool false from (by kernel_rfl)) ⟨rfl, S1220.chg⟩
  replace M := ifn q1223 M
  refine cond_f rfl (bf q1223 (by kernel_rfl)) (wp_skip (then_n (wp_seq (wp_region_lit (lv (d := 6) rfl rfl (by kernel_rfl) (e_assign (v := .bool true) rfl) (wpList_nil (then_n ?_)))))))
  refine wp_ret ?_
  obtain rfl := Option.some.inj M
  exact ret1 rfl rfl  (show _ = .bool true from (by kernel_rfl)) ⟨rfl, S1220.chg⟩
end Go.Proofs.Ytnigifmkjmbfiaa
