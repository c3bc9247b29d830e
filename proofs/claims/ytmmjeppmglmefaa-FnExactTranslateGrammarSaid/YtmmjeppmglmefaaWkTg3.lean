import Derived.Test.YtmmjeppmglmefaaWkTg2
namespace Go.Proofs.Ytmmjeppmglmefaa
open Go.Sx Go.Sy
attribute [local irreducible] Go.wpList Go.wpStill Go.wpQuiet Go.Code.wp
set_option maxRecDepth 100000
set_option maxHeartbeats 1000000
set_option linter.unusedVariables false
set_option linter.unusedSimpArgs false

/-! impl_itemsOf -/
def impl_itemsOf.l0 : Nat → Tm → (List Tm) → Option ((List Tm) × Tm)
  | 0, _, _ => none
  | k21 + 1, x6, x9 => ((impl_node_is.f x6 ([46] : List UInt8) 2).bind fun t23 => (if t23 = true then (if 0 < (x6.args.length : Int) then (if x9.length + 1 ≤ 17592186044416 then (if 1 < (x6.args.length : Int) then (impl_itemsOf.l0 k21 (x6.args.getD 1 (Tm.mk 0 0 [] [])) (x9 ++ [(x6.args.getD 0 (Tm.mk 0 0 [] []))])) else none) else none) else none) else some (x9, x6)))
def impl_itemsOf.f (k : Nat) (x1 : Tm) : Option ((List Tm) × Tm) := (impl_itemsOf.l0 k x1 [])
theorem impl_itemsOf.calls (k : Nat) (w : World) (H : Hp) (x1 : Tm) (g2 : Nat) (h3 : NodeR 74 H x1 (.pointer (some ⟨g2, 0, none⟩))) (S : Own [] H w) (r : (List Tm) × Tm) (M : impl_itemsOf.f k x1 = some r) :
    Calls Try.prog 58 #[.pointer (some ⟨g2, 0, none⟩)] w (fun e e_w => ∃ (A_1 : Option Addr) (c_1 : Nat) (F_1 : Foot) (g_1 : Nat) (H_ : Hp), e = .returned (.tuple #[.slice A_1 r.1.length c_1, .pointer (some ⟨g_1, 0, none⟩)]) ∧ Row (node 74) 38 H_ (hp e_w) F_1 A_1 c_1 r.1 ∧ NodeR 74 H_ r.2 (.pointer (some ⟨g_1, 0, none⟩)) ∧ St (anyOf []) H w [F_1] H_ e_w) := by
  rw [impl_itemsOf.f] at M
  refine enter (l := [.pointer (some ⟨g2, 0, none⟩)]) 24 Try.func58 rfl rfl rfl ?_
  have S0_ := S.st
  refine wp_seq ?_
  refine wp_region_lit ?_
  refine lv (d := 2) rfl rfl (by kernel_rfl) (e_assign (v := .slice none 0 0) rfl) ?_
  refine lv (d := 3) rfl rfl (by kernel_rfl) (e_assign (v := .pointer none) rfl) ?_
  refine wpList_nil ?_
  refine then_n ?_
  refine wp_seq ?_
  refine wp_region_lit ?_
  refine lv (d := 4) rfl rfl (by kernel_rfl) (e_assign (v := .slice none 0 0) rfl) ?_
  refine wpList_nil ?_
  refine then_n ?_
  refine wp_seq ?_
  refine wp_block ?_
  have S22 := S0_.unit
  refine wp_loop_g (fun k19 a20 w4 => ∃ (f5 : Nat → Value) (x6 : Tm) (g7 : Nat) (x9 : List Tm) (A10 : Option Addr) (c11 : Nat) (F12 : Foot), a20 = mk 24 f5 ∧ f5 0 = .pointer (some ⟨g7, 0, none⟩) ∧ f5 4 = .slice A10 x9.length c11 ∧ Row (node 74) 38 H (hp w4) F12 A10 c11 x9 ∧ NodeR 74 H x6 (.pointer (some ⟨g7, 0, none⟩)) ∧ St (anyOf []) H w [F12] H w4 ∧ impl_itemsOf.l0 k19 x6 x9 = some r) k ⟨_, x1, g2, [], none, 0, no, rfl, (by kernel_rfl), (by kernel_rfl), (Row.nil _ _ _ _ _), h3, S22, M⟩ ?_
  clear M
  rintro k19 a20 w4 ⟨f5, x6, g7, x9, A10, c11, F12, rfl, e14, e15, h13, h8, S16, M⟩
  rcases k19 with _ | k21
  · rw [impl_itemsOf.l0] at M
    cases M
  rw [impl_itemsOf.l0] at M
  refine wp_seq ?_
  refine wp_seq ?_
  refine wp_region_lit ?_
  refine lv (d := 5) rfl rfl (by kernel_rfl) (e_move (v := .pointer (some ⟨g7, 0, none⟩)) (by exact e14)) ?_
  obtain ⟨t23, u24, M⟩ := bnd M
  refine lcall (d := 6) rfl rfl (by kernel_rfl) (e_call (l := [.tmp 5, .const (str ([46] : List UInt8)), .const (.int .i64 2)]) (vs := [.pointer (some ⟨g7, 0, none⟩), str ([46] : List UInt8), .int .i64 2]) Try.func33 (by kernel_rfl) rfl (by kernel_rfl) rfl) (impl_node_is.calls w4 H x6 g7 ([46] : List UInt8) 2 h8 S16.own0 t23 u24) ?_
  rintro _ w25 ⟨rfl, C26⟩
  refine ⟨_, rfl, ?_⟩
  obtain ⟨S27, K28⟩ := S16.still C26
  replace h13 := h13.move (K28.at 0 rfl)
  refine wpList_nil ?_
  refine then_n ?_
  by_cases q29 : t23 = true
  · replace M := ifp q29 M
    refine cond_t rfl (bvt q29 (by kernel_rfl)) ?_
    refine wp_skip ?_
    refine then_n ?_
    refine wp_block ?_
    refine wp_seq ?_
    refine wp_region_lit ?_
    refine lv (d := 7) rfl rfl (by kernel_rfl) (e_move (v := .slice A10 x9.length c11) (by exact e15)) ?_
    refine lv (d := 8) rfl rfl (by kernel_rfl) (e_move (v := .pointer (some ⟨g7, 0, none⟩)) (by exact e14)) ?_
    refine lv (d := 9) rfl rfl (by kernel_rfl) (e_nilCheck (ad := ⟨g7, 0, none⟩) (by kernel_rfl)) ?_
    refine lv (d := 10) rfl rfl (by kernel_rfl) (e_fieldAddr (b := g7) (off := 0) (o := 3) Try.underlying74 rfl rfl (sz := 1) (by kernel_rfl) (by decide) (by kernel_rfl)) ?_
    obtain ⟨A30, c31, y32, q33, h34, h35, l36, h37⟩ := node_open h8
    refine lv (d := 11) rfl rfl (by kernel_rfl) (e_load1 (ad := ⟨g7, 0 + 3, none⟩) (v := .slice A30 x6.args.length c31) Try.underlying72 rfl (by kernel_rfl) (blk_cells (S27.inv _ _ h34) h35 3 _ rfl)) ?_
    obtain ⟨q38, M⟩ := chk M
    obtain ⟨b39, o40, e41⟩ := Rd.addr h37 (show 0 < x6.args.length by omega)
    obtain ⟨y42, r43, k44⟩ := Rd.at h37 e41 (getD_some (Tm.mk 0 0 [] []) (show 0 < x6.args.length by omega))
    obtain ⟨v45, rfl, h46⟩ := r43
    obtain ⟨g47, rfl⟩ := node_ptr h46
    refine lv (d := 12) rfl rfl (by kernel_rfl) (e_indexAddr (b := b39) (off := o40) (n := x6.args.length) (c := c31) (sz := 1) (i := 0) (k := .i64) Try.underlying72 e41 (by kernel_rfl) (by kernel_rfl) rfl (by omega) q38) ?_
    refine lv (d := 13) rfl rfl (by kernel_rfl) (e_load1 (ad := ⟨b39, o40 + (0 : Int).toNat * 1, none⟩) (v := .pointer (some ⟨g47, 0, none⟩)) Try.underlying38 rfl (by kernel_rfl) (hpx (S27.inv.cell (k44 0 _ rfl)))) ?_
    refine lve (d := 14) rfl rfl (by kernel_rfl) (new_blk (v := fun g_ => .slice (some ⟨g_, 0, none⟩) 1 1) (cs := #[.pointer (some ⟨g47, 0, none⟩)]) (t := 38) S27 (by kernel_rfl)) ?_
    rintro _ w48 ⟨g49, rfl, b50, S51, K52⟩
    replace h13 := h13.move (K52.at 0 rfl)
    obtain ⟨q53, M⟩ := chk M
    have S54 := S51.pull (F := F12) (Fr := [(is g49)]) 1 rfl rfl
    have S55 := S54.unit
    have S56 := S55.pull (F := F12) (Fr := [no, (is g49)]) 1 rfl rfl
    refine lve (d := 15) rfl rfl (by kernel_rfl) (e_append (d := (node 74)) (n := x9.length) (xs := x9) (cap := c11) (A := A10) (ys := [(x6.args.getD 0 (Tm.mk 0 0 [] []))]) (A2 := (some ⟨g49, 0, none⟩)) (c2 := 1) (z := .pointer none) (bytes := 8) S56 Try.underlying72 (by kernel_rfl) rfl (by decide) (by kernel_rfl) rfl (by kernel_rfl) h13 (elsO_one1 ⟨_, rfl, h46⟩) (.inr (blk_news b50 rfl)) (show (x9.length + [(x6.args.getD 0 (Tm.mk 0 0 [] []))].length) * 8 ≤ _ by first | omega | (simp only [List.length_cons, List.length_nil]; omega)) (by decide)) ?_
    rintro _ w57 ⟨A58, c59, F60, rfl, h61, S62, K63⟩
    replace b50 := K63.blk 0 rfl b50
    refine lv (d := 4) rfl rfl (by kernel_rfl) (e_assign (v := .slice A58 ((x9 ++ [(x6.args.getD 0 (Tm.mk 0 0 [] []))]).length) c59) (by kernel_rfl)) ?_
    refine wpList_nil ?_
    refine then_n ?_
    refine wp_region_lit ?_
    refine lv (d := 16) rfl rfl (by kernel_rfl) (e_move (v := .pointer (some ⟨g7, 0, none⟩)) (by exact e14)) ?_
    refine lv (d := 17) rfl rfl (by kernel_rfl) (e_nilCheck (ad := ⟨g7, 0, none⟩) (by kernel_rfl)) ?_
    refine lv (d := 18) rfl rfl (by kernel_rfl) (e_fieldAddr (b := g7) (off := 0) (o := 3) Try.underlying74 rfl rfl (sz := 1) (by kernel_rfl) (by decide) (by kernel_rfl)) ?_
    refine lv (d := 19) rfl rfl (by kernel_rfl) (e_load1 (ad := ⟨g7, 0 + 3, none⟩) (v := .slice A30 x6.args.length c31) Try.underlying72 rfl (by kernel_rfl) (blk_cells (S62.inv _ _ h34) h35 3 _ rfl)) ?_
    obtain ⟨q64, M⟩ := chk M
    obtain ⟨b65, o66, e67⟩ := Rd.addr h37 (show 1 < x6.args.length by omega)
    obtain ⟨y68, r69, k70⟩ := Rd.at h37 e67 (getD_some (Tm.mk 0 0 [] []) (show 1 < x6.args.length by omega))
    obtain ⟨v71, rfl, h72⟩ := r69
    obtain ⟨g73, rfl⟩ := node_ptr h72
    refine lv (d := 20) rfl rfl (by kernel_rfl) (e_indexAddr (b := b65) (off := o66) (n := x6.args.length) (c := c31) (sz := 1) (i := 1) (k := .i64) Try.underlying72 e67 (by kernel_rfl) (by kernel_rfl) rfl (by omega) q64) ?_
    refine lv (d := 21) rfl rfl (by kernel_rfl) (e_load1 (ad := ⟨b65, o66 + (1 : Int).toNat * 1, none⟩) (v := .pointer (some ⟨g73, 0, none⟩)) Try.underlying38 rfl (by kernel_rfl) (hpx (S62.inv.cell (k70 0 _ rfl)))) ?_
    refine lv (d := 0) rfl rfl (by kernel_rfl) (e_assign (v := .pointer (some ⟨g73, 0, none⟩)) (by kernel_rfl)) ?_
    refine wpList_nil ?_
    refine inb_n ?_
    refine then_n ?_
    have S74 := St.first (Fa := [F60]) (Fr := [(is g49)]) S62
    exact ⟨k21, (by omega), _, (x6.args.getD 1 (Tm.mk 0 0 [] [])), g73, (x9 ++ [(x6.args.getD 0 (Tm.mk 0 0 [] []))]), A58, c59, F60, rfl, (by kernel_rfl), (by kernel_rfl), h61, h72, S74, M⟩
  replace M := ifn q29 M
  refine cond_f rfl (bvf q29 (by kernel_rfl)) ?_
  refine wp_exit ?_
  refine then_e ?_
  refine then_e ?_
  refine inb_hit ?_
  refine then_n ?_
  refine wp_seq ?_
  refine wp_region_lit ?_
  refine lv (d := 22) rfl rfl (by kernel_rfl) (e_move (v := .slice A10 x9.length c11) (by exact e15)) ?_
  refine lv (d := 23) rfl rfl (by kernel_rfl) (e_move (v := .pointer (some ⟨g7, 0, none⟩)) (by exact e14)) ?_
  refine lv (d := 2) rfl rfl (by kernel_rfl) (e_assign (v := .slice A10 x9.length c11) (by kernel_rfl)) ?_
  refine lv (d := 3) rfl rfl (by kernel_rfl) (e_assign (v := .pointer (some ⟨g7, 0, none⟩)) (by kernel_rfl)) ?_
  refine wpList_nil ?_
  refine then_n ?_
  refine wp_ret ?_
  obtain rfl := Option.some.inj M
  exact ret2 rfl rfl rfl (show _ = .slice A10 x9.length c11 from (by kernel_rfl)) (show _ = .pointer (some ⟨g7, 0, none⟩) from (by kernel_rfl)) ⟨A10, c11, F12, g7, H, rfl, h13, h8, S27⟩

/-! impl_isList -/
def impl_isList.f (k : Nat) (x1 : Tm) : Option Bool := ((impl_itemsOf.f k x1).bind fun t4 => ((impl_node_is.f t4.2 ([91, 93] : List UInt8) 0).bind fun t18 => some t18))
theorem impl_isList.calls (k : Nat) (w : World) (H : Hp) (x1 : Tm) (g2 : Nat) (h3 : NodeR 74 H x1 (.pointer (some ⟨g2, 0, none⟩))) (S : Own [] H w) (r : Bool) (M : impl_isList.f k x1 = some r) :
    Calls Try.prog 72 #[.pointer (some ⟨g2, 0, none⟩)] w (fun e e_w => e = .returned (.bool r) ∧ Chg no w e_w) := by
  rw [impl_isList.f] at M
  refine enter (l := [.pointer (some ⟨g2, 0, none⟩)]) 12 Try.func72 rfl rfl rfl ?_
  have S0_ := S.st
  refine wp_seq ?_
  refine wp_region_lit ?_
  refine lv (d := 2) rfl rfl (by kernel_rfl) (e_assign (v := .bool false) rfl) ?_
  refine wpList_nil ?_
  refine then_n ?_
  refine wp_seq ?_
  refine wp_region_lit ?_
  refine lv (d := 6) rfl rfl (by kernel_rfl) (e_move (v := .pointer (some ⟨g2, 0, none⟩)) (by kernel_rfl)) ?_
  obtain ⟨t4, u5, M⟩ := bnd M
  refine lcall (d := 7) rfl rfl (by kernel_rfl) (e_call (l := [.tmp 6]) (vs := [.pointer (some ⟨g2, 0, none⟩)]) Try.func58 (by kernel_rfl) rfl (by kernel_rfl) rfl) (impl_itemsOf.calls k w H x1 g2 h3 (St.own' (Fa := []) (Fr := []) S0_) t4 u5) ?_
  rintro _ w6 ⟨A9, c10, F12, g13, H7, rfl, h11, h14, T8⟩
  refine ⟨_, rfl, ?_⟩
  obtain ⟨S15, K16⟩ := St.call (Fa := []) (Fr := []) S0_ T8
  have E17 := T8.ext
  refine lv (d := 5) rfl rfl (by kernel_rfl) (e_move (v := .tuple #[.slice A9 t4.1.length c10, .pointer (some ⟨g13, 0, none⟩)]) (by kernel_rfl)) ?_
  refine lv (d := 8) rfl rfl (by kernel_rfl) (e_extract (vs := #[.slice A9 t4.1.length c10, .pointer (some ⟨g13, 0, none⟩)]) (v := .slice A9 t4.1.length c10) (by kernel_rfl) rfl) ?_
  refine lv (d := 9) rfl rfl (by kernel_rfl) (e_extract (vs := #[.slice A9 t4.1.length c10, .pointer (some ⟨g13, 0, none⟩)]) (v := .pointer (some ⟨g13, 0, none⟩)) (by kernel_rfl) rfl) ?_
  refine lv (d := 3) rfl rfl (by kernel_rfl) (e_assign (v := .slice A9 t4.1.length c10) (by kernel_rfl)) ?_
  refine lv (d := 4) rfl rfl (by kernel_rfl) (e_assign (v := .pointer (some ⟨g13, 0, none⟩)) (by kernel_rfl)) ?_
  refine wpList_nil ?_
  refine then_n ?_
  refine wp_seq ?_
  refine wp_region_lit ?_
  refine lv (d := 10) rfl rfl (by kernel_rfl) (e_move (v := .pointer (some ⟨g13, 0, none⟩)) (by kernel_rfl)) ?_
  obtain ⟨t18, u19, M⟩ := bnd M
  refine lcall (d := 11) rfl rfl (by kernel_rfl) (e_call (l := [.tmp 10, .const (str ([91, 93] : List UInt8)), .const (.int .i64 0)]) (vs := [.pointer (some ⟨g13, 0, none⟩), str ([91, 93] : List UInt8), .int .i64 0]) Try.func33 (by kernel_rfl) rfl (by kernel_rfl) rfl) (impl_node_is.calls w6 H7 t4.2 g13 ([91, 93] : List UInt8) 0 h14 S15.own0 t18 u19) ?_
  rintro _ w20 ⟨rfl, C21⟩
  refine ⟨_, rfl, ?_⟩
  obtain ⟨S22, K23⟩ := S15.still C21
  replace h11 := h11.move (K23.at 0 rfl)
  refine lv (d := 2) rfl rfl (by kernel_rfl) (e_assign (v := .bool t18) (by kernel_rfl)) ?_
  refine wpList_nil ?_
  refine then_n ?_
  refine wp_ret ?_
  obtain rfl := Option.some.inj M
  exact ret1 rfl rfl  (show _ = .bool t18 from (by kernel_rfl)) ⟨rfl, S22.chg⟩

/-! impl_listOf -/
def impl_listOf.l0 : Nat → (List Tm) → Tm → Int → Option Tm
  | 0, _, _, _ => none
  | k25 + 1, x1, x13, x16 => (if x16 ≥ 0 then (if 0 ≤ x16 then (if x16 < (x1.length : Int) then ((impl_comp.f ([46] : List UInt8) [(x1.getD ((x16).toNat) (Tm.mk 0 0 [] [])), x13]).bind fun t53 => (impl_listOf.l0 k25 x1 t53 (IntKind.i64.wrap (x16 - 1)))) else none) else none) else some x13)
def impl_listOf.f (k : Nat) (x1 : List Tm) (x6 : Tm) : Option Tm := (impl_listOf.l0 k x1 x6 (IntKind.i64.wrap ((x1.length : Int) - 1)))
theorem impl_listOf.calls (k : Nat) (w : World) (H : Hp) (x1 : List Tm) (A2 : Option Addr) (c3 : Nat) (x6 : Tm) (g7 : Nat) (h4 : Rd (node 74) H A2 x1) (l5 : x1.length ≤ c3) (h8 : NodeR 74 H x6 (.pointer (some ⟨g7, 0, none⟩))) (S : Own [] H w) (r : Tm) (M : impl_listOf.f k x1 x6 = some r) :
    Calls Try.prog 61 #[.slice A2 x1.length c3, .pointer (some ⟨g7, 0, none⟩)] w (fun e e_w => ∃ (g_1 : Nat) (H_ : Hp), e = .returned (.pointer (some ⟨g_1, 0, none⟩)) ∧ NodeR 74 H_ r (.pointer (some ⟨g_1, 0, none⟩)) ∧ St (anyOf []) H w [] H_ e_w) := by
  rw [impl_listOf.f] at M
  refine enter (l := [.slice A2 x1.length c3, .pointer (some ⟨g7, 0, none⟩)]) 21 Try.func61 rfl rfl rfl ?_
  have S0_ := S.st
  refine wp_seq ?_
  refine wp_region_lit ?_
  refine lv (d := 4) rfl rfl (by kernel_rfl) (e_assign (v := .pointer none) rfl) ?_
  refine wpList_nil ?_
  refine then_n ?_
  refine wp_seq ?_
  refine wp_seq ?_
  refine wp_region_lit ?_
  refine lv (d := 6) rfl rfl (by kernel_rfl) (e_move (v := .slice A2 x1.length c3) (by kernel_rfl)) ?_
  refine lv (d := 7) rfl rfl (by kernel_rfl) (e_len (A := A2) (n := x1.length) (c := c3) Try.underlying72 (by kernel_rfl)) ?_
  refine lv (d := 8) rfl rfl (by kernel_rfl) (e_sub (k := .i64) (a := (x1.length : Int)) (b := 1) (by kernel_rfl) rfl) ?_
  refine lv (d := 5) rfl rfl (by kernel_rfl) (e_assign (v := .int .i64 (IntKind.i64.wrap ((x1.length : Int) - 1))) (by kernel_rfl)) ?_
  refine wpList_nil ?_
  refine then_n ?_
  refine wp_block ?_
  refine wp_loop_g (fun k23 a24 w9 => ∃ (f10 : Nat → Value) (H11 : Hp) (x13 : Tm) (g14 : Nat) (x16 : Int), a24 = mk 21 f10 ∧ f10 0 = .slice A2 x1.length c3 ∧ f10 1 = .pointer (some ⟨g14, 0, none⟩) ∧ f10 5 = .int .i64 x16 ∧ NodeR 74 H11 x13 (.pointer (some ⟨g14, 0, none⟩)) ∧ Ext H H11 ∧ St (anyOf []) H w [] H11 w9 ∧ impl_listOf.l0 k23 x1 x13 x16 = some r) k ⟨_, H, x6, g7, (IntKind.i64.wrap ((x1.length : Int) - 1)), rfl, (by kernel_rfl), (by kernel_rfl), (by kernel_rfl), h8, (Ext.refl _), S0_, M⟩ ?_
  clear M
  rintro k23 a24 w9 ⟨f10, H11, x13, g14, x16, rfl, e17, e18, e19, h15, Y12, S20, M⟩
  rcases k23 with _ | k25
  · rw [impl_listOf.l0] at M
    cases M
  rw [impl_listOf.l0] at M
  refine wp_seq ?_
  refine wp_seq ?_
  refine wp_region_lit ?_
  refine lv (d := 9) rfl rfl (by kernel_rfl) (e_move (v := .int .i64 x16) (by exact e19)) ?_
  refine lv (d := 10) rfl rfl (by kernel_rfl) (e_geq (k := .i64) (a := x16) (b := 0) (by kernel_rfl) rfl) ?_
  refine wpList_nil ?_
  refine then_n ?_
  by_cases q26 : x16 ≥ 0
  · replace M := ifp q26 M
    refine cond_t rfl (bt q26 (by kernel_rfl)) ?_
    refine wp_skip ?_
    refine then_n ?_
    refine wp_seq ?_
    refine wp_block ?_
    refine wp_region_lit ?_
    refine lv (d := 13) rfl rfl (by kernel_rfl) (e_move (v := .slice A2 x1.length c3) (by exact e17)) ?_
    refine lv (d := 14) rfl rfl (by kernel_rfl) (e_move (v := .int .i64 x16) (by exact e19)) ?_
    obtain ⟨q27, M⟩ := chk M
    obtain ⟨q28, M⟩ := chk M
    obtain ⟨b29, o30, e31⟩ := Rd.addr h4 (show (x16).toNat < x1.length by omega)
    obtain ⟨y32, r33, k34⟩ := Rd.at h4 e31 (getD_some (Tm.mk 0 0 [] []) (show (x16).toNat < x1.length by omega))
    obtain ⟨v35, rfl, h36⟩ := r33
    obtain ⟨g37, rfl⟩ := node_ptr h36
    refine lv (d := 15) rfl rfl (by kernel_rfl) (e_indexAddr (b := b29) (off := o30) (n := x1.length) (c := c3) (sz := 1) (i := x16) (k := .i64) Try.underlying72 e31 (by kernel_rfl) (by kernel_rfl) (by kernel_rfl) q27 q28) ?_
    refine lv (d := 16) rfl rfl (by kernel_rfl) (e_load1 (ad := ⟨b29, o30 + (x16 : Int).toNat * 1, none⟩) (v := .pointer (some ⟨g37, 0, none⟩)) Try.underlying38 rfl (by kernel_rfl) (hpx (S20.inv.cell (Y12.cell (k34 0 _ rfl))))) ?_
    refine lv (d := 17) rfl rfl (by kernel_rfl) (e_move (v := .pointer (some ⟨g14, 0, none⟩)) (by exact e18)) ?_
    refine lve (d := 18) rfl rfl (by kernel_rfl) (new_blk (v := fun g_ => .slice (some ⟨g_, 0, none⟩) 2 2) (cs := #[.pointer (some ⟨g37, 0, none⟩), .pointer (some ⟨g14, 0, none⟩)]) (t := 38) S20 (by kernel_rfl)) ?_
    rintro _ w38 ⟨g39, rfl, b40, S41, K42⟩
    have S43 := S41.unit
    have S44 := S43.pull (F := (is g39)) (Fr := [no]) 1 rfl rfl
    obtain ⟨h45, S46⟩ := row_lit (d := (node 74)) (xs := [(x1.getD ((x16).toNat) (Tm.mk 0 0 [] [])), x13]) S44 b40 rfl (elsO_no (d := (node 74)) ⟨_, rfl, (h36.ext' Y12)⟩ (elsO_no (d := (node 74)) ⟨_, rfl, h15⟩ (elsO_nil _ _ _ no))) (Nat.le_of_ble_eq_true rfl)
    have l47 := h45.le
    obtain ⟨H48, S49, E50, h51, z52⟩ := S46.frzRow h45
    obtain ⟨t53, u54, M⟩ := bnd M
    refine lcall (d := 19) rfl rfl (by kernel_rfl) (e_call (l := [.const (str ([46] : List UInt8)), .tmp 18]) (vs := [str ([46] : List UInt8), .slice (some ⟨g39, 0, none⟩) 2 2]) Try.func60 (by kernel_rfl) rfl (by kernel_rfl) rfl) (impl_comp.calls w38 H48 ([46] : List UInt8) [(x1.getD ((x16).toNat) (Tm.mk 0 0 [] [])), x13] (some ⟨g39, 0, none⟩) 2 h51 l47 (St.own' (Fa := []) (Fr := []) S49) t53 u54) ?_
    rintro _ w55 ⟨g58, H56, rfl, h59, T57⟩
    refine ⟨_, rfl, ?_⟩
    obtain ⟨S60, K61⟩ := St.call (Fa := []) (Fr := []) S49 T57
    have E62 := T57.ext
    refine lv (d := 1) rfl rfl (by kernel_rfl) (e_assign (v := .pointer (some ⟨g58, 0, none⟩)) (by kernel_rfl)) ?_
    refine wpList_nil ?_
    refine inb_n ?_
    refine then_n ?_
    refine wp_region_lit ?_
    refine lv (d := 11) rfl rfl (by kernel_rfl) (e_move (v := .int .i64 x16) (by exact e19)) ?_
    refine lv (d := 12) rfl rfl (by kernel_rfl) (e_sub (k := .i64) (a := x16) (b := 1) (by kernel_rfl) rfl) ?_
    refine lv (d := 5) rfl rfl (by kernel_rfl) (e_assign (v := .int .i64 (IntKind.i64.wrap (x16 - 1))) (by kernel_rfl)) ?_
    refine wpList_nil ?_
    refine then_n ?_
    exact ⟨k25, (by omega), _, H56, t53, g58, (IntKind.i64.wrap (x16 - 1)), rfl, (by exact e17), (by kernel_rfl), (by kernel_rfl), h59, ((Y12.trans E50).trans E62), S60, M⟩
  replace M := ifn q26 M
  refine cond_f rfl (bf q26 (by kernel_rfl)) ?_
  refine wp_exit ?_
  refine then_e ?_
  refine then_e ?_
  refine inb_hit ?_
  refine then_n ?_
  refine wp_seq ?_
  refine wp_region_lit ?_
  refine lv (d := 20) rfl rfl (by kernel_rfl) (e_move (v := .pointer (some ⟨g14, 0, none⟩)) (by exact e18)) ?_
  refine lv (d := 4) rfl rfl (by kernel_rfl) (e_assign (v := .pointer (some ⟨g14, 0, none⟩)) (by kernel_rfl)) ?_
  refine wpList_nil ?_
  refine then_n ?_
  refine wp_ret ?_
  obtain rfl := Option.some.inj M
  exact ret1 rfl rfl  (show _ = .pointer (some ⟨g14, 0, none⟩) from (by kernel_rfl)) ⟨g14, H11, rfl, h15, S20⟩

/-! impl_grammar_body -/
mutual
def impl_grammar_body.l0 : Nat → GL8gram → Tm → Tm → Tm → Bool → Option (Tm × GL8gram)
  | 0, _, _, _, _, _ => none
  | k79 + 1, x1, x4, x7, x10, x68 => (if x68 = true then ((impl_grammar_need.f x1).bind fun t96 => (if 0 < (x4.args.length : Int) then ((impl_grammar_body.f k79 t96.2 (x4.args.getD 0 (Tm.mk 0 0 [] [])) x7 t96.1).bind fun t141 => (if 1 < (x4.args.length : Int) then ((impl_grammar_body.f k79 t141.2 (x4.args.getD 1 (Tm.mk 0 0 [] [])) t96.1 x10).bind fun t199 => ((impl_comp.f x4.text [t141.1, t199.1]).bind fun t229 => some (t229, t199.2))) else none)) else none)) else ((impl_node_is.f x4 ([59] : List UInt8) 2).bind fun t244 => (if t244 = true then (if 0 < (x4.args.length : Int) then ((impl_grammar_body.f k79 x1 (x4.args.getD 0 (Tm.mk 0 0 [] [])) x7 x10).bind fun t286 => (if 1 < (x4.args.length : Int) then ((impl_grammar_body.f k79 t286.2 (x4.args.getD 1 (Tm.mk 0 0 [] [])) x7 x10).bind fun t337 => ((impl_comp.f ([59] : List UInt8) [t286.1, t337.1]).bind fun t367 => some (t367, t337.2))) else none)) else none) else ((impl_node_is.f x4 ([92, 43] : List UInt8) 1).bind fun t382 => (if t382 = true then ((impl_grammar_need.f x1).bind fun t390 => (if 0 < (x4.args.length : Int) then ((impl_grammar_body.f k79 t390.2 (x4.args.getD 0 (Tm.mk 0 0 [] [])) x7 t390.1).bind fun t439 => ((impl_comp.f ([92, 43] : List UInt8) [t439.1]).bind fun t469 => ((impl_grammar_body_c1.f x10 x7).bind fun t482 => ((impl_comp.f ([44] : List UInt8) [t469, t482]).bind fun t512 => some (t512, t439.2))))) else none)) else ((impl_node_is.f x4 ([33] : List UInt8) 0).bind fun t528 => (if t528 = true then ((impl_grammar_body_c1.f x10 x7).bind fun t535 => ((impl_comp.f ([44] : List UInt8) [x4, t535]).bind fun t561 => some (t561, x1))) else ((impl_node_is.f x4 ([123, 125] : List UInt8) 1).bind fun t573 => (if t573 = true then (if 0 < (x4.args.length : Int) then ((impl_grammar_body_c1.f x10 x7).bind fun t611 => ((impl_comp.f ([44] : List UInt8) [(x4.args.getD 0 (Tm.mk 0 0 [] [])), t611]).bind fun t641 => some (t641, x1))) else none) else ((impl_isList.f k79 x4).bind fun t657 => (if t657 = true then ((impl_itemsOf.f k79 x4).bind fun t664 => ((impl_listOf.f k79 t664.1 x10).bind fun t684 => ((impl_grammar_body_c1.f t684 x7).bind fun t694 => some (t694, x1)))) else ((impl_node_is.f x4 ([46] : List UInt8) 2).bind fun t707 => (if t707 = true then ((impl_grammar_fault.f x1 4).bind fun t715 => some (x4, t715)) else ((impl_grammar_more.f x1 x4 x7 x10).bind fun t726 => some (t726.1, t726.2)))))))))))))))
def impl_grammar_body.f : Nat → GL8gram → Tm → Tm → Tm → Option (Tm × GL8gram)
  | 0, _, _, _, _ => none
  | k1_ + 1, x1, x4, x7, x10 => (if x4.kind = 0 then ((impl_comp.f ([112, 104, 114, 97, 115, 101] : List UInt8) [x4, x7, x10]).bind fun t42 => some (t42, x1)) else (if x4.kind = 1 then ((impl_grammar_fault.f x1 4).bind fun t56 => some (x4, t56)) else ((impl_node_is.f x4 ([44] : List UInt8) 2).bind fun t81 => (if t81 = true then (impl_grammar_body.l0 k1_ x1 x4 x7 x10 t81) else ((impl_node_is.f x4 ([45, 62] : List UInt8) 2).bind fun t88 => (impl_grammar_body.l0 k1_ x1 x4 x7 x10 t88))))))
end
theorem impl_grammar_body.all : ∀ (K : Nat), (∀ (k : Nat), k < K → ∀ (w : World) (H : Hp) (x1 : GL8gram) (g2 : Nat) (x4 : Tm) (g5 : Nat) (x7 : Tm) (g8 : Nat) (x10 : Tm) (g11 : Nat) (b3 : w.heap[g2]? = some (.cells #[.int .i64 x1.next_, .int .i64 x1.code_] 78 (0, 0))) (h6 : NodeR 74 H x4 (.pointer (some ⟨g5, 0, none⟩))) (h9 : NodeR 74 H x7 (.pointer (some ⟨g8, 0, none⟩))) (h12 : NodeR 74 H x10 (.pointer (some ⟨g11, 0, none⟩))) (S : Own [(is g2)] H w) (r : Tm × GL8gram) (M : impl_grammar_body.f k x1 x4 x7 x10 = some r), Calls Try.prog 57 #[.pointer (some ⟨g2, 0, none⟩), .pointer (some ⟨g5, 0, none⟩), .pointer (some ⟨g8, 0, none⟩), .pointer (some ⟨g11, 0, none⟩)] w (fun e e_w => ∃ (g_1 : Nat) (H_ : Hp), e = .returned (.pointer (some ⟨g_1, 0, none⟩)) ∧ e_w.heap[g2]? = some (.cells #[.int .i64 r.2.next_, .int .i64 r.2.code_] 78 (0, 0)) ∧ NodeR 74 H_ r.1 (.pointer (some ⟨g_1, 0, none⟩)) ∧ St (anyOf [(is g2)]) H w [(is g2)] H_ e_w)) := by
  intro K
  induction K with
  | zero => intro k hk; omega
  | succ K ih =>
    intro k hk w H x1 g2 x4 g5 x7 g8 x10 g11 b3 h6 h9 h12 S r M
    rcases k with _ | k1_
    · rw [impl_grammar_body.f] at M
      cases M
    rw [impl_grammar_body.f] at M
    refine enter (l := [.pointer (some ⟨g2, 0, none⟩), .pointer (some ⟨g5, 0, none⟩), .pointer (some ⟨g8, 0, none⟩), .pointer (some ⟨g11, 0, none⟩)]) 166 Try.func57 rfl rfl rfl ?_
    have S0_ := S.st
    refine wp_seq ?_
    refine wp_region_lit ?_
    refine lve (d := 6) rfl rfl (by kernel_rfl) (new_blk (v := fun g_ => .pointer (some ⟨g_, 0, none⟩)) (cs := #[.pointer (some ⟨g8, 0, none⟩)]) (t := 38) S0_ (by kernel_rfl)) ?_
    rintro _ w13 ⟨g14, rfl, b15, S16, K17⟩
    replace b3 := K17.blk 0 rfl b3
    refine lv (d := 8) rfl rfl (by kernel_rfl) (e_assign (v := .pointer none) rfl) ?_
    refine wpList_nil ?_
    refine then_n ?_
    refine wp_seq ?_
    refine wp_region_lit ?_
    refine lv (d := 16) rfl rfl (by kernel_rfl) (e_makeFunc (cs := [.tmp 6]) (vs := [.pointer (some ⟨g14, 0, none⟩)]) (by kernel_rfl)) ?_
    refine lv (d := 9) rfl rfl (by kernel_rfl) (e_assign (v := .func (.func 71) #[] #[.pointer (some ⟨g14, 0, none⟩)]) (by kernel_rfl)) ?_
    refine wpList_nil ?_
    refine then_n ?_
    refine wp_seq ?_
    refine wp_block ?_
    refine wp_seq ?_
    refine wp_region_lit ?_
    refine lv (d := 18) rfl rfl (by kernel_rfl) (e_move (v := .pointer (some ⟨g5, 0, none⟩)) (by kernel_rfl)) ?_
    refine lv (d := 19) rfl rfl (by kernel_rfl) (e_nilCheck (ad := ⟨g5, 0, none⟩) (by kernel_rfl)) ?_
    refine lv (d := 20) rfl rfl (by kernel_rfl) (e_fieldAddr (b := g5) (off := 0) (o := 0) Try.underlying74 rfl rfl (sz := 1) (by kernel_rfl) (by decide) (by kernel_rfl)) ?_
    obtain ⟨A18, c19, y20, q21, h22, h23, l24, h25⟩ := node_open h6
    refine lv (d := 21) rfl rfl (by kernel_rfl) (e_load1 (ad := ⟨g5, 0 + 0, none⟩) (v := .int .i64 x4.kind) Try.underlying3 rfl (by kernel_rfl) (blk_cells (S16.inv _ _ h22) h23 0 _ rfl)) ?_
    refine lv (d := 22) rfl rfl (by kernel_rfl) (e_eql (k := .i64) (a := x4.kind) (b := 0) (by kernel_rfl) rfl) ?_
    refine lv (d := 17) rfl rfl (by kernel_rfl) (e_assign (v := .bool (decide (x4.kind = 0))) (by kernel_rfl)) ?_
    refine wpList_nil ?_
    refine then_n ?_
    by_cases q26 : x4.kind = 0
    · replace M := ifp q26 M
      refine cond_t rfl (bt q26 (by kernel_rfl)) ?_
      refine wp_seq ?_
      refine wp_region_lit ?_
      refine lv (d := 23) rfl rfl (by kernel_rfl) (e_move (v := .pointer (some ⟨g5, 0, none⟩)) (by kernel_rfl)) ?_
      refine lv (d := 24) rfl rfl (by kernel_rfl) (e_load1 (ad := ⟨g14, 0, none⟩) (v := .pointer (some ⟨g8, 0, none⟩)) Try.underlying38 rfl (by kernel_rfl) (blk_cell b15 rfl)) ?_
      refine lv (d := 25) rfl rfl (by kernel_rfl) (e_move (v := .pointer (some ⟨g11, 0, none⟩)) (by kernel_rfl)) ?_
      refine lve (d := 26) rfl rfl (by kernel_rfl) (new_blk (v := fun g_ => .slice (some ⟨g_, 0, none⟩) 3 3) (cs := #[.pointer (some ⟨g5, 0, none⟩), .pointer (some ⟨g8, 0, none⟩), .pointer (some ⟨g11, 0, none⟩)]) (t := 38) S16 (by kernel_rfl)) ?_
      rintro _ w27 ⟨g28, rfl, b29, S30, K31⟩
      replace b15 := K31.blk 0 rfl b15
      replace b3 := K31.blk 1 rfl b3
      have S32 := S30.unit
      have S33 := S32.pull (F := (is g28)) (Fr := [no, (is g14), (is g2)]) 1 rfl rfl
      obtain ⟨h34, S35⟩ := row_lit (d := (node 74)) (xs := [x4, x7, x10]) S33 b29 rfl (elsO_no (d := (node 74)) ⟨_, rfl, h6⟩ (elsO_no (d := (node 74)) ⟨_, rfl, h9⟩ (elsO_no (d := (node 74)) ⟨_, rfl, h12⟩ (elsO_nil _ _ _ no)))) (Nat.le_of_ble_eq_true rfl)
      have l36 := h34.le
      obtain ⟨H37, S38, E39, h40, z41⟩ := S35.frzRow h34
      obtain ⟨t42, u43, M⟩ := bnd M
      refine lcall (d := 27) rfl rfl (by kernel_rfl) (e_call (l := [.const (str ([112, 104, 114, 97, 115, 101] : List UInt8)), .tmp 26]) (vs := [str ([112, 104, 114, 97, 115, 101] : List UInt8), .slice (some ⟨g28, 0, none⟩) 3 3]) Try.func60 (by kernel_rfl) rfl (by kernel_rfl) rfl) (impl_comp.calls w27 H37 ([112, 104, 114, 97, 115, 101] : List UInt8) [x4, x7, x10] (some ⟨g28, 0, none⟩) 3 h40 l36 (St.own' (Fa := []) (Fr := [(is g14), (is g2)]) S38) t42 u43) ?_
      rintro _ w44 ⟨g47, H45, rfl, h48, T46⟩
      refine ⟨_, rfl, ?_⟩
      obtain ⟨S49, K50⟩ := St.call (Fa := []) (Fr := [(is g14), (is g2)]) S38 T46
      replace b15 := K50.blk 0 rfl b15
      replace b3 := K50.blk 1 rfl b3
      have E51 := T46.ext
      refine lv (d := 8) rfl rfl (by kernel_rfl) (e_assign (v := .pointer (some ⟨g47, 0, none⟩)) (by kernel_rfl)) ?_
      refine wpList_nil ?_
      refine then_n ?_
      refine wp_ret ?_
      refine inb_r ?_
      refine then_r ?_
      obtain rfl := Option.some.inj M
      have S52 := S49.pull (F := (is g2)) (Fr := [(is g14)]) 1 rfl rfl
      have S53 := St.first (Fa := [(is g2)]) (Fr := [(is g14)]) S52
      exact ret1 rfl rfl  (show _ = .pointer (some ⟨g47, 0, none⟩) from (by kernel_rfl)) ⟨g47, H45, rfl, b3, h48, S53⟩
    replace M := ifn q26 M
    refine cond_f rfl (bf q26 (by kernel_rfl)) ?_
    refine wp_seq ?_
    refine wp_region_lit ?_
    refine lv (d := 29) rfl rfl (by kernel_rfl) (e_move (v := .pointer (some ⟨g5, 0, none⟩)) (by kernel_rfl)) ?_
    refine lv (d := 30) rfl rfl (by kernel_rfl) (e_nilCheck (ad := ⟨g5, 0, none⟩) (by kernel_rfl)) ?_
    refine lv (d := 31) rfl rfl (by kernel_rfl) (e_fieldAddr (b := g5) (off := 0) (o := 0) Try.underlying74 rfl rfl (sz := 1) (by kernel_rfl) (by decide) (by kernel_rfl)) ?_
    refine lv (d := 32) rfl rfl (by kernel_rfl) (e_load1 (ad := ⟨g5, 0 + 0, none⟩) (v := .int .i64 x4.kind) Try.underlying3 rfl (by kernel_rfl) (blk_cells (S16.inv _ _ h22) h23 0 _ rfl)) ?_
    refine lv (d := 33) rfl rfl (by kernel_rfl) (e_eql (k := .i64) (a := x4.kind) (b := 1) (by kernel_rfl) rfl) ?_
    refine lv (d := 28) rfl rfl (by kernel_rfl) (e_assign (v := .bool (decide (x4.kind = 1))) (by kernel_rfl)) ?_
    refine wpList_nil ?_
    refine then_n ?_
    by_cases q54 : x4.kind = 1
    · replace M := ifp q54 M
      refine cond_t rfl (bt q54 (by kernel_rfl)) ?_
      refine wp_seq ?_
      refine wp_region_lit ?_
      refine lv (d := 34) rfl rfl (by kernel_rfl) (e_move (v := .pointer (some ⟨g2, 0, none⟩)) (by kernel_rfl)) ?_
      have S55 := S16.pull (F := (is g2)) (Fr := [(is g14)]) 1 rfl rfl
      obtain ⟨t56, u57, M⟩ := bnd M
      refine lcall (d := 35) rfl rfl (by kernel_rfl) (e_call (l := [.tmp 34, .const (.int .i64 4)]) (vs := [.pointer (some ⟨g2, 0, none⟩), .int .i64 4]) Try.func59 (by kernel_rfl) rfl (by kernel_rfl) rfl) (impl_grammar_fault.calls w13 H x1 g2 4 b3 (St.own' (Fa := [(is g2)]) (Fr := [(is g14)]) S55) t56 u57) ?_
      rintro _ w58 ⟨H59, rfl, b61, T60⟩
      refine ⟨_, rfl, ?_⟩
      obtain ⟨S62, K63⟩ := St.call (Fa := [(is g2)]) (Fr := [(is g14)]) S55 T60
      replace b15 := K63.blk 0 rfl b15
      have E64 := T60.ext
      refine wpList_nil ?_
      refine then_n ?_
      refine wp_seq ?_
      refine wp_region_lit ?_
      refine lv (d := 36) rfl rfl (by kernel_rfl) (e_move (v := .pointer (some ⟨g5, 0, none⟩)) (by kernel_rfl)) ?_
      refine lv (d := 8) rfl rfl (by kernel_rfl) (e_assign (v := .pointer (some ⟨g5, 0, none⟩)) (by kernel_rfl)) ?_
      refine wpList_nil ?_
      refine then_n ?_
      refine wp_ret ?_
      refine inb_r ?_
      refine then_r ?_
      obtain rfl := Option.some.inj M
      have S65 := St.first (Fa := [(is g2)]) (Fr := [(is g14)]) S62
      exact ret1 rfl rfl  (show _ = .pointer (some ⟨g5, 0, none⟩) from (by kernel_rfl)) ⟨g5, H59, rfl, b61, (h6.ext' E64), S65⟩
    replace M := ifn q54 M
    refine cond_f rfl (bf q54 (by kernel_rfl)) ?_
    refine wp_seq_cut (fun a78 w66 => ∃ (k80 : Nat), k80 ≤ k1_ ∧ ∃ (f67 : Nat → Value) (x68 : Bool), k80 < K ∧ a78 = mk 166 f67 ∧ f67 0 = .pointer (some ⟨g2, 0, none⟩) ∧ f67 1 = .pointer (some ⟨g5, 0, none⟩) ∧ f67 3 = .pointer (some ⟨g11, 0, none⟩) ∧ f67 6 = .pointer (some ⟨g14, 0, none⟩) ∧ f67 9 = .func (.func 71) #[] #[.pointer (some ⟨g14, 0, none⟩)] ∧ f67 37 = .bool x68 ∧ w66.heap[g14]? = some (.cells #[.pointer (some ⟨g8, 0, none⟩)] 38 (0, 0)) ∧ w66.heap[g2]? = some (.cells #[.int .i64 x1.next_, .int .i64 x1.code_] 78 (0, 0)) ∧ St (anyOf [(is g2)]) H w [(is g14), (is g2)] H w66 ∧ impl_grammar_body.l0 k80 x1 x4 x7 x10 x68 = some r) ?_ ?_
    · refine wp_seq ?_
      refine wp_region_lit ?_
      refine lv (d := 38) rfl rfl (by kernel_rfl) (e_move (v := .pointer (some ⟨g5, 0, none⟩)) (by kernel_rfl)) ?_
      obtain ⟨t81, u82, M⟩ := bnd M
      refine lcall (d := 39) rfl rfl (by kernel_rfl) (e_call (l := [.tmp 38, .const (str ([44] : List UInt8)), .const (.int .i64 2)]) (vs := [.pointer (some ⟨g5, 0, none⟩), str ([44] : List UInt8), .int .i64 2]) Try.func33 (by kernel_rfl) rfl (by kernel_rfl) rfl) (impl_node_is.calls w13 H x4 g5 ([44] : List UInt8) 2 h6 S16.own0 t81 u82) ?_
      rintro _ w83 ⟨rfl, C84⟩
      refine ⟨_, rfl, ?_⟩
      obtain ⟨S85, K86⟩ := S16.still C84
      replace b15 := K86.blk 0 rfl b15
      replace b3 := K86.blk 1 rfl b3
      refine lv (d := 37) rfl rfl (by kernel_rfl) (e_assign (v := .bool t81) (by kernel_rfl)) ?_
      refine wpList_nil ?_
      refine then_n ?_
      by_cases q87 : t81 = true
      · replace M := ifp q87 M
        refine cond_t rfl (bvt q87 (by kernel_rfl)) ?_
        refine wp_skip ?_
        refine then_n ?_
        exact ⟨k1_, (by omega), _, t81, (by omega), rfl, (by kernel_rfl), (by kernel_rfl), (by kernel_rfl), (by kernel_rfl), (by kernel_rfl), (by kernel_rfl), b15, b3, S85, M⟩
      replace M := ifn q87 M
      refine cond_f rfl (bvf q87 (by kernel_rfl)) ?_
      refine wp_region_lit ?_
      refine lv (d := 40) rfl rfl (by kernel_rfl) (e_move (v := .pointer (some ⟨g5, 0, none⟩)) (by kernel_rfl)) ?_
      obtain ⟨t88, u89, M⟩ := bnd M
      refine lcall (d := 41) rfl rfl (by kernel_rfl) (e_call (l := [.tmp 40, .const (str ([45, 62] : List UInt8)), .const (.int .i64 2)]) (vs := [.pointer (some ⟨g5, 0, none⟩), str ([45, 62] : List UInt8), .int .i64 2]) Try.func33 (by kernel_rfl) rfl (by kernel_rfl) rfl) (impl_node_is.calls w83 H x4 g5 ([45, 62] : List UInt8) 2 h6 S85.own0 t88 u89) ?_
      rintro _ w90 ⟨rfl, C91⟩
      refine ⟨_, rfl, ?_⟩
      obtain ⟨S92, K93⟩ := S85.still C91
      replace b15 := K93.blk 0 rfl b15
      replace b3 := K93.blk 1 rfl b3
      refine lv (d := 37) rfl rfl (by kernel_rfl) (e_assign (v := .bool t88) (by kernel_rfl)) ?_
      refine wpList_nil ?_
      refine then_n ?_
      exact ⟨k1_, (by omega), _, t88, (by omega), rfl, (by kernel_rfl), (by kernel_rfl), (by kernel_rfl), (by kernel_rfl), (by kernel_rfl), (by kernel_rfl), b15, b3, S92, M⟩
    clear M
    rintro a78 w66 ⟨k80, z738, f67, x68, z76, rfl, e69, e70, e71, e72, e73, e74, b15, b3, S75, M⟩
    rcases k80 with _ | k79
    · rw [impl_grammar_body.l0] at M
      cases M
    rw [impl_grammar_body.l0] at M
    by_cases q94 : x68 = true
    · replace M := ifp q94 M
      refine cond_t rfl (bvt q94 (by exact e74)) ?_
      refine wp_seq ?_
      refine wp_region_lit ?_
      refine lv (d := 42) rfl rfl (by kernel_rfl) (e_move (v := .pointer (some ⟨g2, 0, none⟩)) (by exact e69)) ?_
      have S95 := S75.pull (F := (is g2)) (Fr := [(is g14)]) 1 rfl rfl
      obtain ⟨t96, u97, M⟩ := bnd M
      refine lcall (d := 43) rfl rfl (by kernel_rfl) (e_call (l := [.tmp 42]) (vs := [.pointer (some ⟨g2, 0, none⟩)]) Try.func55 (by kernel_rfl) rfl (by kernel_rfl) rfl) (impl_grammar_need.calls w66 H x1 g2 b3 (St.own' (Fa := [(is g2)]) (Fr := [(is g14)]) S95) t96 u97) ?_
      rintro _ w98 ⟨g102, H99, rfl, b101, h103, T100⟩
      refine ⟨_, rfl, ?_⟩
      obtain ⟨S104, K105⟩ := St.call (Fa := [(is g2)]) (Fr := [(is g14)]) S95 T100
      replace b15 := K105.blk 0 rfl b15
      have E106 := T100.ext
      refine lv (d := 10) rfl rfl (by kernel_rfl) (e_assign (v := .pointer (some ⟨g102, 0, none⟩)) (by kernel_rfl)) ?_
      refine wpList_nil ?_
      refine then_n ?_
      refine wp_seq ?_
      refine region_mix (S := (fun (L_ : Array Bool) (w_ : World) => Ext H99 (hp w_) ∧ (∀ b_, (is g14) b_ → hp w_ b_ = hp w98 b_))) (by kernel_rfl) S104 ?_
      intro w107 S108 K109 hc110
      have o111 := b15
      have hs112 : (fun (L_ : Array Bool) (w_ : World) => Ext H99 (hp w_) ∧ (∀ b_, (is g14) b_ → hp w_ b_ = hp w98 b_)) (Array.replicate 11 false) w107 := ⟨S108.inv, (fun b_ h_ => K109.at 1 rfl b_ h_)⟩
      replace b101 := K109.blk 0 rfl b101
      replace b15 := K109.blk 1 rfl b15
      refine xv (i := 0) (d := 44) rfl rfl rfl (by kernel_rfl) (by kernel_rfl) (fun _ _ => Iff.rfl) hc110 hs112 (fun L_ w_ hc_ hu_ hs_ => e_move (v := .pointer (some ⟨g2, 0, none⟩)) (by exact e69)) ?_; intro hc113 hs114
      refine xv (i := 1) (d := 45) rfl rfl rfl (by kernel_rfl) (by kernel_rfl) (fun _ _ => Iff.rfl) hc113 hs114 (fun L_ w_ hc_ hu_ hs_ => e_move (v := .pointer (some ⟨g5, 0, none⟩)) (by exact e70)) ?_; intro hc115 hs116
      refine xv (i := 2) (d := 46) rfl rfl rfl (by kernel_rfl) (by kernel_rfl) (fun _ _ => Iff.rfl) hc115 hs116 (fun L_ w_ hc_ hu_ hs_ => e_nilCheck (ad := ⟨g5, 0, none⟩) (by kernel_rfl)) ?_; intro hc117 hs118
      refine xv (i := 3) (d := 47) rfl rfl rfl (by kernel_rfl) (by kernel_rfl) (fun _ _ => Iff.rfl) hc117 hs118 (fun L_ w_ hc_ hu_ hs_ => e_fieldAddr (b := g5) (off := 0) (o := 3) Try.underlying74 rfl rfl (sz := 1) (by kernel_rfl) (by decide) (by kernel_rfl)) ?_; intro hc119 hs120
      refine xv (i := 4) (d := 48) rfl rfl rfl (by kernel_rfl) (by kernel_rfl) (fun _ _ => Iff.rfl) hc119 hs120 (fun L_ w_ hc_ hu_ hs_ => e_load1 (ad := ⟨g5, 0 + 3, none⟩) (v := .slice A18 x4.args.length c19) Try.underlying72 rfl (by kernel_rfl) (blk_cells (hs_.1 _ _ (E106 _ _ h22)) h23 3 _ rfl)) ?_; intro hc121 hs122
      obtain ⟨q123, M⟩ := chk M
      obtain ⟨b124, o125, e126⟩ := Rd.addr h25 (show 0 < x4.args.length by omega)
      obtain ⟨y127, r128, k129⟩ := Rd.at h25 e126 (getD_some (Tm.mk 0 0 [] []) (show 0 < x4.args.length by omega))
      obtain ⟨v130, rfl, h131⟩ := r128
      obtain ⟨g132, rfl⟩ := node_ptr h131
      refine xv (i := 5) (d := 49) rfl rfl rfl (by kernel_rfl) (by kernel_rfl) (fun _ _ => Iff.rfl) hc121 hs122 (fun L_ w_ hc_ hu_ hs_ => e_indexAddr (b := b124) (off := o125) (n := x4.args.length) (c := c19) (sz := 1) (i := 0) (k := .i64) Try.underlying72 e126 (by kernel_rfl) (by kernel_rfl) rfl (by omega) q123) ?_; intro hc133 hs134
      refine xv (i := 6) (d := 50) rfl rfl rfl (by kernel_rfl) (by kernel_rfl) (fun _ _ => Iff.rfl) hc133 hs134 (fun L_ w_ hc_ hu_ hs_ => e_load1 (ad := ⟨b124, o125 + (0 : Int).toNat * 1, none⟩) (v := .pointer (some ⟨g132, 0, none⟩)) Try.underlying38 rfl (by kernel_rfl) (hpx (hs_.1.cell (E106.cell (k129 0 _ rfl))))) ?_; intro hc135 hs136
      refine xv (i := 7) (d := 51) rfl rfl rfl (by kernel_rfl) (by kernel_rfl) (fun _ _ => Iff.rfl) hc135 hs136 (fun L_ w_ hc_ hu_ hs_ => e_load1 (ad := ⟨g14, 0, none⟩) (v := .pointer (some ⟨g8, 0, none⟩)) Try.underlying38 rfl (by exact e72) (blk_cell ((hs_.2 _ rfl).trans o111) rfl)) ?_; intro hc137 hs138
      refine xone (i := 8) (by kernel_rfl) hc137 ?_
      refine yo (i := 8) (d := 52) rfl rfl (wanted_none rfl _) (by kernel_rfl) (by kernel_rfl) (fun _ _ => Iff.rfl) hs138 (e_move (v := .pointer (some ⟨g102, 0, none⟩)) (by kernel_rfl)) ?_; intro hc139 hs140
      obtain ⟨t141, u142, M⟩ := bnd M
      refine xone (i := 9) (by kernel_rfl) hc139 ?_
      refine yc (i := 9) rfl (wanted_none rfl _) (by kernel_rfl) (by kernel_rfl) (e_call (l := [.tmp 44, .tmp 50, .tmp 51, .tmp 52]) (vs := [.pointer (some ⟨g2, 0, none⟩), .pointer (some ⟨g132, 0, none⟩), .pointer (some ⟨g8, 0, none⟩), .pointer (some ⟨g102, 0, none⟩)]) Try.func57 (by kernel_rfl) rfl (by kernel_rfl) rfl) (ih k79 (by omega) w107 H99 t96.2 g2 (x4.args.getD 0 (Tm.mk 0 0 [] [])) g132 x7 g8 t96.1 g102 b101 (h131.ext' E106) (h9.ext' E106) h103 (St.own' (Fa := [(is g2)]) (Fr := [(is g14)]) S108) t141 u142) ?_
      rintro hc149 _ w143 ⟨g147, H144, rfl, b146, h148, T145⟩
      refine ⟨_, rfl, ?_⟩
      obtain ⟨S150, K151⟩ := St.call (Fa := [(is g2)]) (Fr := [(is g14)]) S108 T145
      replace b15 := K151.blk 0 rfl b15
      have E152 := T145.ext
      refine ⟨⟨(Ext.trans E152 S150.inv), (fun b_ h_ => (K151.at 0 rfl b_ h_).trans (hs140.2 b_ h_))⟩, fun hs153 => ?_⟩
      refine xone (i := 10) (by kernel_rfl) hc149 ?_
      refine yo (i := 10) (d := 11) rfl rfl (wanted_none rfl _) (by kernel_rfl) (by kernel_rfl) (fun _ _ => Iff.rfl) hs153 (e_assign (v := .pointer (some ⟨g147, 0, none⟩)) (by kernel_rfl)) ?_; intro hc154 hs155
      refine xn (by kernel_rfl) ?_ _
      refine then_n ?_
      refine wp_seq ?_
      refine region_mix (S := (fun (L_ : Array Bool) (w_ : World) => Ext H144 (hp w_) ∧ True)) (by kernel_rfl) S150 ?_
      intro w156 S157 K158 hc159
      have hs160 : (fun (L_ : Array Bool) (w_ : World) => Ext H144 (hp w_) ∧ True) (Array.replicate 18 false) w156 := ⟨S157.inv, trivial⟩
      replace b146 := K158.blk 0 rfl b146
      replace b15 := K158.blk 1 rfl b15
      refine xv (i := 0) (d := 54) rfl rfl rfl (by kernel_rfl) (by kernel_rfl) (fun _ _ => Iff.rfl) hc159 hs160 (fun L_ w_ hc_ hu_ hs_ => e_move (v := .pointer (some ⟨g5, 0, none⟩)) (by exact e70)) ?_; intro hc161 hs162
      refine xv (i := 1) (d := 55) rfl rfl rfl (by kernel_rfl) (by kernel_rfl) (fun _ _ => Iff.rfl) hc161 hs162 (fun L_ w_ hc_ hu_ hs_ => e_nilCheck (ad := ⟨g5, 0, none⟩) (by kernel_rfl)) ?_; intro hc163 hs164
      refine xv (i := 2) (d := 56) rfl rfl rfl (by kernel_rfl) (by kernel_rfl) (fun _ _ => Iff.rfl) hc163 hs164 (fun L_ w_ hc_ hu_ hs_ => e_fieldAddr (b := g5) (off := 0) (o := 2) Try.underlying74 rfl rfl (sz := 1) (by kernel_rfl) (by decide) (by kernel_rfl)) ?_; intro hc165 hs166
      refine xv (i := 3) (d := 57) rfl rfl rfl (by kernel_rfl) (by kernel_rfl) (fun _ _ => Iff.rfl) hc165 hs166 (fun L_ w_ hc_ hu_ hs_ => e_load1 (ad := ⟨g5, 0 + 2, none⟩) (v := str x4.text) Try.underlying9 rfl (by kernel_rfl) (blk_cells (hs_.1 _ _ ((E106.trans E152) _ _ h22)) h23 2 _ rfl)) ?_; intro hc167 hs168
      refine xv (i := 4) (d := 58) rfl rfl rfl (by kernel_rfl) (by kernel_rfl) (fun _ _ => Iff.rfl) hc167 hs168 (fun L_ w_ hc_ hu_ hs_ => e_move (v := .pointer (some ⟨g147, 0, none⟩)) (by kernel_rfl)) ?_; intro hc169 hs170
      refine xv (i := 5) (d := 59) rfl rfl rfl (by kernel_rfl) (by kernel_rfl) (fun _ _ => Iff.rfl) hc169 hs170 (fun L_ w_ hc_ hu_ hs_ => e_move (v := .pointer (some ⟨g2, 0, none⟩)) (by exact e69)) ?_; intro hc171 hs172
      refine xv (i := 6) (d := 60) rfl rfl rfl (by kernel_rfl) (by kernel_rfl) (fun _ _ => Iff.rfl) hc171 hs172 (fun L_ w_ hc_ hu_ hs_ => e_move (v := .pointer (some ⟨g5, 0, none⟩)) (by exact e70)) ?_; intro hc173 hs174
      refine xv (i := 7) (d := 61) rfl rfl rfl (by kernel_rfl) (by kernel_rfl) (fun _ _ => Iff.rfl) hc173 hs174 (fun L_ w_ hc_ hu_ hs_ => e_nilCheck (ad := ⟨g5, 0, none⟩) (by kernel_rfl)) ?_; intro hc175 hs176
      refine xv (i := 8) (d := 62) rfl rfl rfl (by kernel_rfl) (by kernel_rfl) (fun _ _ => Iff.rfl) hc175 hs176 (fun L_ w_ hc_ hu_ hs_ => e_fieldAddr (b := g5) (off := 0) (o := 3) Try.underlying74 rfl rfl (sz := 1) (by kernel_rfl) (by decide) (by kernel_rfl)) ?_; intro hc177 hs178
      refine xv (i := 9) (d := 63) rfl rfl rfl (by kernel_rfl) (by kernel_rfl) (fun _ _ => Iff.rfl) hc177 hs178 (fun L_ w_ hc_ hu_ hs_ => e_load1 (ad := ⟨g5, 0 + 3, none⟩) (v := .slice A18 x4.args.length c19) Try.underlying72 rfl (by kernel_rfl) (blk_cells (hs_.1 _ _ ((E106.trans E152) _ _ h22)) h23 3 _ rfl)) ?_; intro hc179 hs180
      obtain ⟨q181, M⟩ := chk M
      obtain ⟨b182, o183, e184⟩ := Rd.addr h25 (show 1 < x4.args.length by omega)
      obtain ⟨y185, r186, k187⟩ := Rd.at h25 e184 (getD_some (Tm.mk 0 0 [] []) (show 1 < x4.args.length by omega))
      obtain ⟨v188, rfl, h189⟩ := r186
      obtain ⟨g190, rfl⟩ := node_ptr h189
      refine xv (i := 10) (d := 64) rfl rfl rfl (by kernel_rfl) (by kernel_rfl) (fun _ _ => Iff.rfl) hc179 hs180 (fun L_ w_ hc_ hu_ hs_ => e_indexAddr (b := b182) (off := o183) (n := x4.args.length) (c := c19) (sz := 1) (i := 1) (k := .i64) Try.underlying72 e184 (by kernel_rfl) (by kernel_rfl) rfl (by omega) q181) ?_; intro hc191 hs192
      refine xv (i := 11) (d := 65) rfl rfl rfl (by kernel_rfl) (by kernel_rfl) (fun _ _ => Iff.rfl) hc191 hs192 (fun L_ w_ hc_ hu_ hs_ => e_load1 (ad := ⟨b182, o183 + (1 : Int).toNat * 1, none⟩) (v := .pointer (some ⟨g190, 0, none⟩)) Try.underlying38 rfl (by kernel_rfl) (hpx (hs_.1.cell ((E106.trans E152).cell (k187 0 _ rfl))))) ?_; intro hc193 hs194
      refine xv (i := 12) (d := 66) rfl rfl rfl (by kernel_rfl) (by kernel_rfl) (fun _ _ => Iff.rfl) hc193 hs194 (fun L_ w_ hc_ hu_ hs_ => e_move (v := .pointer (some ⟨g102, 0, none⟩)) (by kernel_rfl)) ?_; intro hc195 hs196
      refine xone (i := 13) (by kernel_rfl) hc195 ?_
      refine yo (i := 13) (d := 67) rfl rfl (wanted_none rfl _) (by kernel_rfl) (by kernel_rfl) (fun _ _ => Iff.rfl) hs196 (e_move (v := .pointer (some ⟨g11, 0, none⟩)) (by exact e71)) ?_; intro hc197 hs198
      obtain ⟨t199, u200, M⟩ := bnd M
      refine xone (i := 14) (by kernel_rfl) hc197 ?_
      refine yc (i := 14) rfl (wanted_none rfl _) (by kernel_rfl) (by kernel_rfl) (e_call (l := [.tmp 59, .tmp 65, .tmp 66, .tmp 67]) (vs := [.pointer (some ⟨g2, 0, none⟩), .pointer (some ⟨g190, 0, none⟩), .pointer (some ⟨g102, 0, none⟩), .pointer (some ⟨g11, 0, none⟩)]) Try.func57 (by kernel_rfl) rfl (by kernel_rfl) rfl) (ih k79 (by omega) w156 H144 t141.2 g2 (x4.args.getD 1 (Tm.mk 0 0 [] [])) g190 t96.1 g102 x10 g11 b146 (h189.ext' (E106.trans E152)) (h103.ext' E152) (h12.ext' (E106.trans E152)) (St.own' (Fa := [(is g2)]) (Fr := [(is g14)]) S157) t199 u200) ?_
      rintro hc207 _ w201 ⟨g205, H202, rfl, b204, h206, T203⟩
      refine ⟨_, rfl, ?_⟩
      obtain ⟨S208, K209⟩ := St.call (Fa := [(is g2)]) (Fr := [(is g14)]) S157 T203
      replace b15 := K209.blk 0 rfl b15
      have E210 := T203.ext
      refine ⟨⟨(Ext.trans E210 S208.inv), trivial⟩, fun hs211 => ?_⟩
      refine xone (i := 15) (by kernel_rfl) hc207 ?_
      refine ye (i := 15) (d := 69) rfl rfl (wanted_none rfl _) (by kernel_rfl) (by kernel_rfl) (new_blk (v := fun g_ => .slice (some ⟨g_, 0, none⟩) 2 2) (cs := #[.pointer (some ⟨g147, 0, none⟩), .pointer (some ⟨g205, 0, none⟩)]) (t := 38) S208 (by kernel_rfl)) ?_
      rintro hc217 _ w212 ⟨g213, rfl, b214, S215, K216⟩
      replace b204 := K216.blk 0 rfl b204
      replace b15 := K216.blk 1 rfl b15
      refine ⟨⟨(Ext.trans E210 S215.inv), trivial⟩, fun hs218 => ?_⟩
      have S219 := S215.unit
      have S220 := S219.pull (F := (is g213)) (Fr := [no, (is g2), (is g14)]) 1 rfl rfl
      obtain ⟨h221, S222⟩ := row_lit (d := (node 74)) (xs := [t141.1, t199.1]) S220 b214 rfl (elsO_no (d := (node 74)) ⟨_, rfl, (h148.ext' E210)⟩ (elsO_no (d := (node 74)) ⟨_, rfl, h206⟩ (elsO_nil _ _ _ no))) (Nat.le_of_ble_eq_true rfl)
      have l223 := h221.le
      obtain ⟨H224, S225, E226, h227, z228⟩ := S222.frzRow h221
      obtain ⟨t229, u230, M⟩ := bnd M
      refine xone (i := 16) (by kernel_rfl) hc217 ?_
      refine yc (i := 16) rfl (wanted_none rfl _) (by kernel_rfl) (by kernel_rfl) (e_call (l := [.tmp 57, .tmp 69]) (vs := [str x4.text, .slice (some ⟨g213, 0, none⟩) 2 2]) Try.func60 (by kernel_rfl) rfl (by kernel_rfl) rfl) (impl_comp.calls w212 H224 x4.text [t141.1, t199.1] (some ⟨g213, 0, none⟩) 2 h227 l223 (St.own' (Fa := []) (Fr := [(is g2), (is g14)]) S225) t229 u230) ?_
      rintro hc236 _ w231 ⟨g234, H232, rfl, h235, T233⟩
      refine ⟨_, rfl, ?_⟩
      obtain ⟨S237, K238⟩ := St.call (Fa := []) (Fr := [(is g2), (is g14)]) S225 T233
      replace b204 := K238.blk 0 rfl b204
      replace b15 := K238.blk 1 rfl b15
      have E239 := T233.ext
      refine ⟨⟨(Ext.trans ((E210.trans E226).trans E239) S237.inv), trivial⟩, fun hs240 => ?_⟩
      refine xone (i := 17) (by kernel_rfl) hc236 ?_
      refine yo (i := 17) (d := 8) rfl rfl (wanted_none rfl _) (by kernel_rfl) (by kernel_rfl) (fun _ _ => Iff.rfl) hs240 (e_assign (v := .pointer (some ⟨g234, 0, none⟩)) (by kernel_rfl)) ?_; intro hc241 hs242
      refine xn (by kernel_rfl) ?_ _
      refine then_n ?_
      refine wp_ret ?_
      refine inb_r ?_
      refine then_r ?_
      obtain rfl := Option.some.inj M
      have S243 := St.first (Fa := [(is g2)]) (Fr := [(is g14)]) S237
      exact ret1 rfl rfl  (show _ = .pointer (some ⟨g234, 0, none⟩) from (by kernel_rfl)) ⟨g234, H232, rfl, b204, h235, S243⟩
    replace M := ifn q94 M
    refine cond_f rfl (bvf q94 (by exact e74)) ?_
    refine wp_seq ?_
    refine wp_region_lit ?_
    refine lv (d := 72) rfl rfl (by kernel_rfl) (e_move (v := .pointer (some ⟨g5, 0, none⟩)) (by exact e70)) ?_
    obtain ⟨t244, u245, M⟩ := bnd M
    refine lcall (d := 73) rfl rfl (by kernel_rfl) (e_call (l := [.tmp 72, .const (str ([59] : List UInt8)), .const (.int .i64 2)]) (vs := [.pointer (some ⟨g5, 0, none⟩), str ([59] : List UInt8), .int .i64 2]) Try.func33 (by kernel_rfl) rfl (by kernel_rfl) rfl) (impl_node_is.calls w66 H x4 g5 ([59] : List UInt8) 2 h6 S75.own0 t244 u245) ?_
    rintro _ w246 ⟨rfl, C247⟩
    refine ⟨_, rfl, ?_⟩
    obtain ⟨S248, K249⟩ := S75.still C247
    replace b15 := K249.blk 0 rfl b15
    replace b3 := K249.blk 1 rfl b3
    refine lv (d := 71) rfl rfl (by kernel_rfl) (e_assign (v := .bool t244) (by kernel_rfl)) ?_
    refine wpList_nil ?_
    refine then_n ?_
    by_cases q250 : t244 = true
    · replace M := ifp q250 M
      refine cond_t rfl (bvt q250 (by kernel_rfl)) ?_
      refine wp_seq ?_
      refine region_mix (S := (fun (L_ : Array Bool) (w_ : World) => Ext H (hp w_) ∧ (∀ b_, (is g14) b_ → hp w_ b_ = hp w246 b_))) (by kernel_rfl) S248 ?_
      intro w251 S252 K253 hc254
      have o255 := b15
      have hs256 : (fun (L_ : Array Bool) (w_ : World) => Ext H (hp w_) ∧ (∀ b_, (is g14) b_ → hp w_ b_ = hp w246 b_)) (Array.replicate 11 false) w251 := ⟨S252.inv, (fun b_ h_ => K253.at 0 rfl b_ h_)⟩
      replace b15 := K253.blk 0 rfl b15
      replace b3 := K253.blk 1 rfl b3
      refine xv (i := 0) (d := 74) rfl rfl rfl (by kernel_rfl) (by kernel_rfl) (fun _ _ => Iff.rfl) hc254 hs256 (fun L_ w_ hc_ hu_ hs_ => e_move (v := .pointer (some ⟨g2, 0, none⟩)) (by exact e69)) ?_; intro hc257 hs258
      refine xv (i := 1) (d := 75) rfl rfl rfl (by kernel_rfl) (by kernel_rfl) (fun _ _ => Iff.rfl) hc257 hs258 (fun L_ w_ hc_ hu_ hs_ => e_move (v := .pointer (some ⟨g5, 0, none⟩)) (by exact e70)) ?_; intro hc259 hs260
      refine xv (i := 2) (d := 76) rfl rfl rfl (by kernel_rfl) (by kernel_rfl) (fun _ _ => Iff.rfl) hc259 hs260 (fun L_ w_ hc_ hu_ hs_ => e_nilCheck (ad := ⟨g5, 0, none⟩) (by kernel_rfl)) ?_; intro hc261 hs262
      refine xv (i := 3) (d := 77) rfl rfl rfl (by kernel_rfl) (by kernel_rfl) (fun _ _ => Iff.rfl) hc261 hs262 (fun L_ w_ hc_ hu_ hs_ => e_fieldAddr (b := g5) (off := 0) (o := 3) Try.underlying74 rfl rfl (sz := 1) (by kernel_rfl) (by decide) (by kernel_rfl)) ?_; intro hc263 hs264
      refine xv (i := 4) (d := 78) rfl rfl rfl (by kernel_rfl) (by kernel_rfl) (fun _ _ => Iff.rfl) hc263 hs264 (fun L_ w_ hc_ hu_ hs_ => e_load1 (ad := ⟨g5, 0 + 3, none⟩) (v := .slice A18 x4.args.length c19) Try.underlying72 rfl (by kernel_rfl) (blk_cells (hs_.1 _ _ h22) h23 3 _ rfl)) ?_; intro hc265 hs266
      obtain ⟨q267, M⟩ := chk M
      obtain ⟨b268, o269, e270⟩ := Rd.addr h25 (show 0 < x4.args.length by omega)
      obtain ⟨y271, r272, k273⟩ := Rd.at h25 e270 (getD_some (Tm.mk 0 0 [] []) (show 0 < x4.args.length by omega))
      obtain ⟨v274, rfl, h275⟩ := r272
      obtain ⟨g276, rfl⟩ := node_ptr h275
      refine xv (i := 5) (d := 79) rfl rfl rfl (by kernel_rfl) (by kernel_rfl) (fun _ _ => Iff.rfl) hc265 hs266 (fun L_ w_ hc_ hu_ hs_ => e_indexAddr (b := b268) (off := o269) (n := x4.args.length) (c := c19) (sz := 1) (i := 0) (k := .i64) Try.underlying72 e270 (by kernel_rfl) (by kernel_rfl) rfl (by omega) q267) ?_; intro hc277 hs278
      refine xv (i := 6) (d := 80) rfl rfl rfl (by kernel_rfl) (by kernel_rfl) (fun _ _ => Iff.rfl) hc277 hs278 (fun L_ w_ hc_ hu_ hs_ => e_load1 (ad := ⟨b268, o269 + (0 : Int).toNat * 1, none⟩) (v := .pointer (some ⟨g276, 0, none⟩)) Try.underlying38 rfl (by kernel_rfl) (hpx (hs_.1.cell (k273 0 _ rfl)))) ?_; intro hc279 hs280
      refine xv (i := 7) (d := 81) rfl rfl rfl (by kernel_rfl) (by kernel_rfl) (fun _ _ => Iff.rfl) hc279 hs280 (fun L_ w_ hc_ hu_ hs_ => e_load1 (ad := ⟨g14, 0, none⟩) (v := .pointer (some ⟨g8, 0, none⟩)) Try.underlying38 rfl (by exact e72) (blk_cell ((hs_.2 _ rfl).trans o255) rfl)) ?_; intro hc281 hs282
      refine xone (i := 8) (by kernel_rfl) hc281 ?_
      refine yo (i := 8) (d := 82) rfl rfl (wanted_none rfl _) (by kernel_rfl) (by kernel_rfl) (fun _ _ => Iff.rfl) hs282 (e_move (v := .pointer (some ⟨g11, 0, none⟩)) (by exact e71)) ?_; intro hc283 hs284
      have S285 := S252.pull (F := (is g2)) (Fr := [(is g14)]) 1 rfl rfl
      obtain ⟨t286, u287, M⟩ := bnd M
      refine xone (i := 9) (by kernel_rfl) hc283 ?_
      refine yc (i := 9) rfl (wanted_none rfl _) (by kernel_rfl) (by kernel_rfl) (e_call (l := [.tmp 74, .tmp 80, .tmp 81, .tmp 82]) (vs := [.pointer (some ⟨g2, 0, none⟩), .pointer (some ⟨g276, 0, none⟩), .pointer (some ⟨g8, 0, none⟩), .pointer (some ⟨g11, 0, none⟩)]) Try.func57 (by kernel_rfl) rfl (by kernel_rfl) rfl) (ih k79 (by omega) w251 H x1 g2 (x4.args.getD 0 (Tm.mk 0 0 [] [])) g276 x7 g8 x10 g11 b3 h275 h9 h12 (St.own' (Fa := [(is g2)]) (Fr := [(is g14)]) S285) t286 u287) ?_
      rintro hc294 _ w288 ⟨g292, H289, rfl, b291, h293, T290⟩
      refine ⟨_, rfl, ?_⟩
      obtain ⟨S295, K296⟩ := St.call (Fa := [(is g2)]) (Fr := [(is g14)]) S285 T290
      replace b15 := K296.blk 0 rfl b15
      have E297 := T290.ext
      refine ⟨⟨(Ext.trans E297 S295.inv), (fun b_ h_ => (K296.at 0 rfl b_ h_).trans (hs284.2 b_ h_))⟩, fun hs298 => ?_⟩
      refine xone (i := 10) (by kernel_rfl) hc294 ?_
      refine yo (i := 10) (d := 12) rfl rfl (wanted_none rfl _) (by kernel_rfl) (by kernel_rfl) (fun _ _ => Iff.rfl) hs298 (e_assign (v := .pointer (some ⟨g292, 0, none⟩)) (by kernel_rfl)) ?_; intro hc299 hs300
      refine xn (by kernel_rfl) ?_ _
      refine then_n ?_
      refine wp_seq ?_
      refine region_mix (S := (fun (L_ : Array Bool) (w_ : World) => Ext H289 (hp w_) ∧ (∀ b_, (is g14) b_ → hp w_ b_ = hp w288 b_))) (by kernel_rfl) S295 ?_
      intro w301 S302 K303 hc304
      have o305 := b15
      have hs306 : (fun (L_ : Array Bool) (w_ : World) => Ext H289 (hp w_) ∧ (∀ b_, (is g14) b_ → hp w_ b_ = hp w288 b_)) (Array.replicate 14 false) w301 := ⟨S302.inv, (fun b_ h_ => K303.at 1 rfl b_ h_)⟩
      replace b291 := K303.blk 0 rfl b291
      replace b15 := K303.blk 1 rfl b15
      refine xv (i := 0) (d := 84) rfl rfl rfl (by kernel_rfl) (by kernel_rfl) (fun _ _ => Iff.rfl) hc304 hs306 (fun L_ w_ hc_ hu_ hs_ => e_move (v := .pointer (some ⟨g292, 0, none⟩)) (by kernel_rfl)) ?_; intro hc307 hs308
      refine xv (i := 1) (d := 85) rfl rfl rfl (by kernel_rfl) (by kernel_rfl) (fun _ _ => Iff.rfl) hc307 hs308 (fun L_ w_ hc_ hu_ hs_ => e_move (v := .pointer (some ⟨g2, 0, none⟩)) (by exact e69)) ?_; intro hc309 hs310
      refine xv (i := 2) (d := 86) rfl rfl rfl (by kernel_rfl) (by kernel_rfl) (fun _ _ => Iff.rfl) hc309 hs310 (fun L_ w_ hc_ hu_ hs_ => e_move (v := .pointer (some ⟨g5, 0, none⟩)) (by exact e70)) ?_; intro hc311 hs312
      refine xv (i := 3) (d := 87) rfl rfl rfl (by kernel_rfl) (by kernel_rfl) (fun _ _ => Iff.rfl) hc311 hs312 (fun L_ w_ hc_ hu_ hs_ => e_nilCheck (ad := ⟨g5, 0, none⟩) (by kernel_rfl)) ?_; intro hc313 hs314
      refine xv (i := 4) (d := 88) rfl rfl rfl (by kernel_rfl) (by kernel_rfl) (fun _ _ => Iff.rfl) hc313 hs314 (fun L_ w_ hc_ hu_ hs_ => e_fieldAddr (b := g5) (off := 0) (o := 3) Try.underlying74 rfl rfl (sz := 1) (by kernel_rfl) (by decide) (by kernel_rfl)) ?_; intro hc315 hs316
      refine xv (i := 5) (d := 89) rfl rfl rfl (by kernel_rfl) (by kernel_rfl) (fun _ _ => Iff.rfl) hc315 hs316 (fun L_ w_ hc_ hu_ hs_ => e_load1 (ad := ⟨g5, 0 + 3, none⟩) (v := .slice A18 x4.args.length c19) Try.underlying72 rfl (by kernel_rfl) (blk_cells (hs_.1 _ _ (E297 _ _ h22)) h23 3 _ rfl)) ?_; intro hc317 hs318
      obtain ⟨q319, M⟩ := chk M
      obtain ⟨b320, o321, e322⟩ := Rd.addr h25 (show 1 < x4.args.length by omega)
      obtain ⟨y323, r324, k325⟩ := Rd.at h25 e322 (getD_some (Tm.mk 0 0 [] []) (show 1 < x4.args.length by omega))
      obtain ⟨v326, rfl, h327⟩ := r324
      obtain ⟨g328, rfl⟩ := node_ptr h327
      refine xv (i := 6) (d := 90) rfl rfl rfl (by kernel_rfl) (by kernel_rfl) (fun _ _ => Iff.rfl) hc317 hs318 (fun L_ w_ hc_ hu_ hs_ => e_indexAddr (b := b320) (off := o321) (n := x4.args.length) (c := c19) (sz := 1) (i := 1) (k := .i64) Try.underlying72 e322 (by kernel_rfl) (by kernel_rfl) rfl (by omega) q319) ?_; intro hc329 hs330
      refine xv (i := 7) (d := 91) rfl rfl rfl (by kernel_rfl) (by kernel_rfl) (fun _ _ => Iff.rfl) hc329 hs330 (fun L_ w_ hc_ hu_ hs_ => e_load1 (ad := ⟨b320, o321 + (1 : Int).toNat * 1, none⟩) (v := .pointer (some ⟨g328, 0, none⟩)) Try.underlying38 rfl (by kernel_rfl) (hpx (hs_.1.cell (E297.cell (k325 0 _ rfl))))) ?_; intro hc331 hs332
      refine xv (i := 8) (d := 92) rfl rfl rfl (by kernel_rfl) (by kernel_rfl) (fun _ _ => Iff.rfl) hc331 hs332 (fun L_ w_ hc_ hu_ hs_ => e_load1 (ad := ⟨g14, 0, none⟩) (v := .pointer (some ⟨g8, 0, none⟩)) Try.underlying38 rfl (by exact e72) (blk_cell ((hs_.2 _ rfl).trans o305) rfl)) ?_; intro hc333 hs334
      refine xone (i := 9) (by kernel_rfl) hc333 ?_
      refine yo (i := 9) (d := 93) rfl rfl (wanted_none rfl _) (by kernel_rfl) (by kernel_rfl) (fun _ _ => Iff.rfl) hs334 (e_move (v := .pointer (some ⟨g11, 0, none⟩)) (by exact e71)) ?_; intro hc335 hs336
      obtain ⟨t337, u338, M⟩ := bnd M
      refine xone (i := 10) (by kernel_rfl) hc335 ?_
      refine yc (i := 10) rfl (wanted_none rfl _) (by kernel_rfl) (by kernel_rfl) (e_call (l := [.tmp 85, .tmp 91, .tmp 92, .tmp 93]) (vs := [.pointer (some ⟨g2, 0, none⟩), .pointer (some ⟨g328, 0, none⟩), .pointer (some ⟨g8, 0, none⟩), .pointer (some ⟨g11, 0, none⟩)]) Try.func57 (by kernel_rfl) rfl (by kernel_rfl) rfl) (ih k79 (by omega) w301 H289 t286.2 g2 (x4.args.getD 1 (Tm.mk 0 0 [] [])) g328 x7 g8 x10 g11 b291 (h327.ext' E297) (h9.ext' E297) (h12.ext' E297) (St.own' (Fa := [(is g2)]) (Fr := [(is g14)]) S302) t337 u338) ?_
      rintro hc345 _ w339 ⟨g343, H340, rfl, b342, h344, T341⟩
      refine ⟨_, rfl, ?_⟩
      obtain ⟨S346, K347⟩ := St.call (Fa := [(is g2)]) (Fr := [(is g14)]) S302 T341
      replace b15 := K347.blk 0 rfl b15
      have E348 := T341.ext
      refine ⟨⟨(Ext.trans E348 S346.inv), (fun b_ h_ => (K347.at 0 rfl b_ h_).trans (hs336.2 b_ h_))⟩, fun hs349 => ?_⟩
      refine xone (i := 11) (by kernel_rfl) hc345 ?_
      refine ye (i := 11) (d := 95) rfl rfl (wanted_none rfl _) (by kernel_rfl) (by kernel_rfl) (new_blk (v := fun g_ => .slice (some ⟨g_, 0, none⟩) 2 2) (cs := #[.pointer (some ⟨g292, 0, none⟩), .pointer (some ⟨g343, 0, none⟩)]) (t := 38) S346 (by kernel_rfl)) ?_
      rintro hc355 _ w350 ⟨g351, rfl, b352, S353, K354⟩
      replace b342 := K354.blk 0 rfl b342
      replace b15 := K354.blk 1 rfl b15
      refine ⟨⟨(Ext.trans E348 S353.inv), (fun b_ h_ => (K354.at 1 rfl b_ h_).trans (hs349.2 b_ h_))⟩, fun hs356 => ?_⟩
      have S357 := S353.unit
      have S358 := S357.pull (F := (is g351)) (Fr := [no, (is g2), (is g14)]) 1 rfl rfl
      obtain ⟨h359, S360⟩ := row_lit (d := (node 74)) (xs := [t286.1, t337.1]) S358 b352 rfl (elsO_no (d := (node 74)) ⟨_, rfl, (h293.ext' E348)⟩ (elsO_no (d := (node 74)) ⟨_, rfl, h344⟩ (elsO_nil _ _ _ no))) (Nat.le_of_ble_eq_true rfl)
      have l361 := h359.le
      obtain ⟨H362, S363, E364, h365, z366⟩ := S360.frzRow h359
      obtain ⟨t367, u368, M⟩ := bnd M
      refine xone (i := 12) (by kernel_rfl) hc355 ?_
      refine yc (i := 12) rfl (wanted_none rfl _) (by kernel_rfl) (by kernel_rfl) (e_call (l := [.const (str ([59] : List UInt8)), .tmp 95]) (vs := [str ([59] : List UInt8), .slice (some ⟨g351, 0, none⟩) 2 2]) Try.func60 (by kernel_rfl) rfl (by kernel_rfl) rfl) (impl_comp.calls w350 H362 ([59] : List UInt8) [t286.1, t337.1] (some ⟨g351, 0, none⟩) 2 h365 l361 (St.own' (Fa := []) (Fr := [(is g2), (is g14)]) S363) t367 u368) ?_
      rintro hc374 _ w369 ⟨g372, H370, rfl, h373, T371⟩
      refine ⟨_, rfl, ?_⟩
      obtain ⟨S375, K376⟩ := St.call (Fa := []) (Fr := [(is g2), (is g14)]) S363 T371
      replace b342 := K376.blk 0 rfl b342
      replace b15 := K376.blk 1 rfl b15
      have E377 := T371.ext
      refine ⟨⟨(Ext.trans ((E348.trans E364).trans E377) S375.inv), (fun b_ h_ => (K376.at 1 rfl b_ h_).trans (hs356.2 b_ h_))⟩, fun hs378 => ?_⟩
      refine xone (i := 13) (by kernel_rfl) hc374 ?_
      refine yo (i := 13) (d := 8) rfl rfl (wanted_none rfl _) (by kernel_rfl) (by kernel_rfl) (fun _ _ => Iff.rfl) hs378 (e_assign (v := .pointer (some ⟨g372, 0, none⟩)) (by kernel_rfl)) ?_; intro hc379 hs380
      refine xn (by kernel_rfl) ?_ _
      refine then_n ?_
      refine wp_ret ?_
      refine inb_r ?_
      refine then_r ?_
      obtain rfl := Option.some.inj M
      have S381 := St.first (Fa := [(is g2)]) (Fr := [(is g14)]) S375
      exact ret1 rfl rfl  (show _ = .pointer (some ⟨g372, 0, none⟩) from (by kernel_rfl)) ⟨g372, H370, rfl, b342, h373, S381⟩
    replace M := ifn q250 M
    refine cond_f rfl (bvf q250 (by kernel_rfl)) ?_
    refine wp_seq ?_
    refine wp_region_lit ?_
    refine lv (d := 98) rfl rfl (by kernel_rfl) (e_move (v := .pointer (some ⟨g5, 0, none⟩)) (by exact e70)) ?_
    obtain ⟨t382, u383, M⟩ := bnd M
    refine lcall (d := 99) rfl rfl (by kernel_rfl) (e_call (l := [.tmp 98, .const (str ([92, 43] : List UInt8)), .const (.int .i64 1)]) (vs := [.pointer (some ⟨g5, 0, none⟩), str ([92, 43] : List UInt8), .int .i64 1]) Try.func33 (by kernel_rfl) rfl (by kernel_rfl) rfl) (impl_node_is.calls w246 H x4 g5 ([92, 43] : List UInt8) 1 h6 S248.own0 t382 u383) ?_
    rintro _ w384 ⟨rfl, C385⟩
    refine ⟨_, rfl, ?_⟩
    obtain ⟨S386, K387⟩ := S248.still C385
    replace b15 := K387.blk 0 rfl b15
    replace b3 := K387.blk 1 rfl b3
    refine lv (d := 97) rfl rfl (by kernel_rfl) (e_assign (v := .bool t382) (by kernel_rfl)) ?_
    refine wpList_nil ?_
    refine then_n ?_
    by_cases q388 : t382 = true
    · replace M := ifp q388 M
      refine cond_t rfl (bvt q388 (by kernel_rfl)) ?_
      refine wp_seq ?_
      refine wp_region_lit ?_
      refine lv (d := 100) rfl rfl (by kernel_rfl) (e_move (v := .pointer (some ⟨g2, 0, none⟩)) (by exact e69)) ?_
      have S389 := S386.pull (F := (is g2)) (Fr := [(is g14)]) 1 rfl rfl
      obtain ⟨t390, u391, M⟩ := bnd M
      refine lcall (d := 101) rfl rfl (by kernel_rfl) (e_call (l := [.tmp 100]) (vs := [.pointer (some ⟨g2, 0, none⟩)]) Try.func55 (by kernel_rfl) rfl (by kernel_rfl) rfl) (impl_grammar_need.calls w384 H x1 g2 b3 (St.own' (Fa := [(is g2)]) (Fr := [(is g14)]) S389) t390 u391) ?_
      rintro _ w392 ⟨g396, H393, rfl, b395, h397, T394⟩
      refine ⟨_, rfl, ?_⟩
      obtain ⟨S398, K399⟩ := St.call (Fa := [(is g2)]) (Fr := [(is g14)]) S389 T394
      replace b15 := K399.blk 0 rfl b15
      have E400 := T394.ext
      refine lv (d := 13) rfl rfl (by kernel_rfl) (e_assign (v := .pointer (some ⟨g396, 0, none⟩)) (by kernel_rfl)) ?_
      refine wpList_nil ?_
      refine then_n ?_
      refine wp_seq ?_
      refine region_mix (S := (fun (L_ : Array Bool) (w_ : World) => Ext H393 (hp w_) ∧ (L_.getD 14 true = false → (∀ b_, (is g14) b_ → hp w_ b_ = hp w392 b_)))) (by kernel_rfl) S398 ?_
      intro w401 S402 K403 hc404
      have o405 := b15
      have hs406 : (fun (L_ : Array Bool) (w_ : World) => Ext H393 (hp w_) ∧ (L_.getD 14 true = false → (∀ b_, (is g14) b_ → hp w_ b_ = hp w392 b_))) (Array.replicate 18 false) w401 := ⟨S402.inv, (fun _ => (fun b_ h_ => K403.at 1 rfl b_ h_))⟩
      replace b395 := K403.blk 0 rfl b395
      replace b15 := K403.blk 1 rfl b15
      refine xv (i := 0) (d := 102) rfl rfl rfl (by kernel_rfl) (by kernel_rfl) (fun L_ w_ => by simp only [getD_set_ne true (show (0 : Nat) ≠ 14 by decide)]) hc404 hs406 (fun L_ w_ hc_ hu_ hs_ => e_move (v := .pointer (some ⟨g2, 0, none⟩)) (by exact e69)) ?_; intro hc407 hs408
      refine xv (i := 1) (d := 103) rfl rfl rfl (by kernel_rfl) (by kernel_rfl) (fun L_ w_ => by simp only [getD_set_ne true (show (1 : Nat) ≠ 14 by decide)]) hc407 hs408 (fun L_ w_ hc_ hu_ hs_ => e_move (v := .pointer (some ⟨g5, 0, none⟩)) (by exact e70)) ?_; intro hc409 hs410
      refine xv (i := 2) (d := 104) rfl rfl rfl (by kernel_rfl) (by kernel_rfl) (fun L_ w_ => by simp only [getD_set_ne true (show (2 : Nat) ≠ 14 by decide)]) hc409 hs410 (fun L_ w_ hc_ hu_ hs_ => e_nilCheck (ad := ⟨g5, 0, none⟩) (by kernel_rfl)) ?_; intro hc411 hs412
      refine xv (i := 3) (d := 105) rfl rfl rfl (by kernel_rfl) (by kernel_rfl) (fun L_ w_ => by simp only [getD_set_ne true (show (3 : Nat) ≠ 14 by decide)]) hc411 hs412 (fun L_ w_ hc_ hu_ hs_ => e_fieldAddr (b := g5) (off := 0) (o := 3) Try.underlying74 rfl rfl (sz := 1) (by kernel_rfl) (by decide) (by kernel_rfl)) ?_; intro hc413 hs414
      refine xv (i := 4) (d := 106) rfl rfl rfl (by kernel_rfl) (by kernel_rfl) (fun L_ w_ => by simp only [getD_set_ne true (show (4 : Nat) ≠ 14 by decide)]) hc413 hs414 (fun L_ w_ hc_ hu_ hs_ => e_load1 (ad := ⟨g5, 0 + 3, none⟩) (v := .slice A18 x4.args.length c19) Try.underlying72 rfl (by kernel_rfl) (blk_cells (hs_.1 _ _ (E400 _ _ h22)) h23 3 _ rfl)) ?_; intro hc415 hs416
      obtain ⟨q417, M⟩ := chk M
      obtain ⟨b418, o419, e420⟩ := Rd.addr h25 (show 0 < x4.args.length by omega)
      obtain ⟨y421, r422, k423⟩ := Rd.at h25 e420 (getD_some (Tm.mk 0 0 [] []) (show 0 < x4.args.length by omega))
      obtain ⟨v424, rfl, h425⟩ := r422
      obtain ⟨g426, rfl⟩ := node_ptr h425
      refine xv (i := 5) (d := 107) rfl rfl rfl (by kernel_rfl) (by kernel_rfl) (fun L_ w_ => by simp only [getD_set_ne true (show (5 : Nat) ≠ 14 by decide)]) hc415 hs416 (fun L_ w_ hc_ hu_ hs_ => e_indexAddr (b := b418) (off := o419) (n := x4.args.length) (c := c19) (sz := 1) (i := 0) (k := .i64) Try.underlying72 e420 (by kernel_rfl) (by kernel_rfl) rfl (by omega) q417) ?_; intro hc427 hs428
      refine xv (i := 6) (d := 108) rfl rfl rfl (by kernel_rfl) (by kernel_rfl) (fun L_ w_ => by simp only [getD_set_ne true (show (6 : Nat) ≠ 14 by decide)]) hc427 hs428 (fun L_ w_ hc_ hu_ hs_ => e_load1 (ad := ⟨b418, o419 + (0 : Int).toNat * 1, none⟩) (v := .pointer (some ⟨g426, 0, none⟩)) Try.underlying38 rfl (by kernel_rfl) (hpx (hs_.1.cell (E400.cell (k423 0 _ rfl))))) ?_; intro hc429 hs430
      refine xv (i := 7) (d := 109) rfl rfl rfl (by kernel_rfl) (by kernel_rfl) (fun L_ w_ => by simp only [getD_set_ne true (show (7 : Nat) ≠ 14 by decide)]) hc429 hs430 (fun L_ w_ hc_ hu_ hs_ => e_load1 (ad := ⟨g14, 0, none⟩) (v := .pointer (some ⟨g8, 0, none⟩)) Try.underlying38 rfl (by exact e72) (blk_cell (((hs_.2 (unl 9 14 7 hc_ hu_ (by kernel_rfl))) _ rfl).trans o405) rfl)) ?_; intro hc431 hs432
      refine xv (i := 8) (d := 110) rfl rfl rfl (by kernel_rfl) (by kernel_rfl) (fun L_ w_ => by simp only [getD_set_ne true (show (8 : Nat) ≠ 14 by decide)]) hc431 hs432 (fun L_ w_ hc_ hu_ hs_ => e_move (v := .pointer (some ⟨g396, 0, none⟩)) (by kernel_rfl)) ?_; intro hc433 hs434
      refine xv (i := 12) (d := 114) rfl rfl rfl (by kernel_rfl) (by kernel_rfl) (fun L_ w_ => by simp only [getD_set_ne true (show (12 : Nat) ≠ 14 by decide)]) hc433 hs434 (fun L_ w_ hc_ hu_ hs_ => e_move (v := .func (.func 71) #[] #[.pointer (some ⟨g14, 0, none⟩)]) (by exact e73)) ?_; intro hc435 hs436
      refine xv (i := 13) (d := 115) rfl rfl rfl (by kernel_rfl) (by kernel_rfl) (fun L_ w_ => by simp only [getD_set_ne true (show (13 : Nat) ≠ 14 by decide)]) hc435 hs436 (fun L_ w_ hc_ hu_ hs_ => e_move (v := .pointer (some ⟨g11, 0, none⟩)) (by exact e71)) ?_; intro hc437 hs438
      obtain ⟨t439, u440, M⟩ := bnd M
      refine xone (i := 9) (by kernel_rfl) hc437 ?_
      refine yc (i := 9) rfl (wanted_none rfl _) (by kernel_rfl) (by kernel_rfl) (e_call (l := [.tmp 102, .tmp 108, .tmp 109, .tmp 110]) (vs := [.pointer (some ⟨g2, 0, none⟩), .pointer (some ⟨g426, 0, none⟩), .pointer (some ⟨g8, 0, none⟩), .pointer (some ⟨g396, 0, none⟩)]) Try.func57 (by kernel_rfl) rfl (by kernel_rfl) rfl) (ih k79 (by omega) w401 H393 t390.2 g2 (x4.args.getD 0 (Tm.mk 0 0 [] [])) g426 x7 g8 t390.1 g396 b395 (h425.ext' E400) (h9.ext' E400) h397 (St.own' (Fa := [(is g2)]) (Fr := [(is g14)]) S402) t439 u440) ?_
      rintro hc447 _ w441 ⟨g445, H442, rfl, b444, h446, T443⟩
      refine ⟨_, rfl, ?_⟩
      obtain ⟨S448, K449⟩ := St.call (Fa := [(is g2)]) (Fr := [(is g14)]) S402 T443
      replace b15 := K449.blk 0 rfl b15
      have E450 := T443.ext
      refine ⟨⟨(Ext.trans E450 S448.inv), (fun q_ => (fun b_ h_ => (K449.at 0 rfl b_ h_).trans ((hs438.2 (by decide +kernel)) b_ h_)))⟩, fun hs451 => ?_⟩
      refine xone (i := 10) (by kernel_rfl) hc447 ?_
      refine ye (i := 10) (d := 112) rfl rfl (wanted_none rfl _) (by kernel_rfl) (by kernel_rfl) (new_blk (v := fun g_ => .slice (some ⟨g_, 0, none⟩) 1 1) (cs := #[.pointer (some ⟨g445, 0, none⟩)]) (t := 38) S448 (by kernel_rfl)) ?_
      rintro hc457 _ w452 ⟨g453, rfl, b454, S455, K456⟩
      replace b444 := K456.blk 0 rfl b444
      replace b15 := K456.blk 1 rfl b15
      refine ⟨⟨(Ext.trans E450 S455.inv), (fun q_ => (fun b_ h_ => (K456.at 1 rfl b_ h_).trans ((hs451.2 (by decide +kernel)) b_ h_)))⟩, fun hs458 => ?_⟩
      have S459 := S455.unit
      have S460 := S459.pull (F := (is g453)) (Fr := [no, (is g2), (is g14)]) 1 rfl rfl
      obtain ⟨h461, S462⟩ := row_lit (d := (node 74)) (xs := [t439.1]) S460 b454 rfl (elsO_one1 ⟨_, rfl, h446⟩) (Nat.le_of_ble_eq_true rfl)
      have l463 := h461.le
      obtain ⟨H464, S465, E466, h467, z468⟩ := S462.frzRow h461
      obtain ⟨t469, u470, M⟩ := bnd M
      refine xone (i := 11) (by kernel_rfl) hc457 ?_
      refine yc (i := 11) rfl (wanted_none rfl _) (by kernel_rfl) (by kernel_rfl) (e_call (l := [.const (str ([92, 43] : List UInt8)), .tmp 112]) (vs := [str ([92, 43] : List UInt8), .slice (some ⟨g453, 0, none⟩) 1 1]) Try.func60 (by kernel_rfl) rfl (by kernel_rfl) rfl) (impl_comp.calls w452 H464 ([92, 43] : List UInt8) [t439.1] (some ⟨g453, 0, none⟩) 1 h467 l463 (St.own' (Fa := []) (Fr := [(is g2), (is g14)]) S465) t469 u470) ?_
      rintro hc476 _ w471 ⟨g474, H472, rfl, h475, T473⟩
      refine ⟨_, rfl, ?_⟩
      obtain ⟨S477, K478⟩ := St.call (Fa := []) (Fr := [(is g2), (is g14)]) S465 T473
      replace b444 := K478.blk 0 rfl b444
      replace b15 := K478.blk 1 rfl b15
      have E479 := T473.ext
      refine ⟨⟨(Ext.trans ((E450.trans E466).trans E479) S477.inv), (fun q_ => (fun b_ h_ => (K478.at 1 rfl b_ h_).trans ((hs458.2 (by decide +kernel)) b_ h_)))⟩, fun hs480 => ?_⟩
      have S481 := S477.pull (F := (is g14)) (Fr := [(is g2)]) 1 rfl rfl
      obtain ⟨t482, u483, M⟩ := bnd M
      refine xone (i := 14) (by kernel_rfl) hc476 ?_
      refine yc (i := 14) rfl (wanted_none rfl _) (by kernel_rfl) (by kernel_rfl) (e_callv (l := [.tmp 115]) (vs := [.pointer (some ⟨g11, 0, none⟩)]) (cs := [.pointer (some ⟨g14, 0, none⟩)]) Try.func71 (by kernel_rfl) rfl (by kernel_rfl) (by kernel_rfl)) (impl_grammar_body_c1.calls w471 H472 x10 g11 x7 g14 g8 (h12.ext' (((E400.trans E450).trans E466).trans E479)) (h9.ext' (((E400.trans E450).trans E466).trans E479)) b15 (St.own' (Fa := [(is g14)]) (Fr := [(is g2)]) S481) t482 u483) ?_
      rintro hc490 _ w484 ⟨g488, H485, rfl, b487, h489, T486⟩
      refine ⟨_, rfl, ?_⟩
      obtain ⟨S491, K492⟩ := St.call (Fa := [(is g14)]) (Fr := [(is g2)]) S481 T486
      replace b444 := K492.blk 0 rfl b444
      have E493 := T486.ext
      refine ⟨⟨(Ext.trans (((E450.trans E466).trans E479).trans E493) S491.inv), (fun q_ => absurd q_ (by decide +kernel))⟩, fun hs494 => ?_⟩
      refine xone (i := 15) (by kernel_rfl) hc490 ?_
      refine ye (i := 15) (d := 117) rfl rfl (wanted_none rfl _) (by kernel_rfl) (by kernel_rfl) (new_blk (v := fun g_ => .slice (some ⟨g_, 0, none⟩) 2 2) (cs := #[.pointer (some ⟨g474, 0, none⟩), .pointer (some ⟨g488, 0, none⟩)]) (t := 38) S491 (by kernel_rfl)) ?_
      rintro hc500 _ w495 ⟨g496, rfl, b497, S498, K499⟩
      replace b487 := K499.blk 0 rfl b487
      replace b444 := K499.blk 1 rfl b444
      refine ⟨⟨(Ext.trans (((E450.trans E466).trans E479).trans E493) S498.inv), (fun q_ => absurd q_ (by decide +kernel))⟩, fun hs501 => ?_⟩
      have S502 := S498.unit
      have S503 := S502.pull (F := (is g496)) (Fr := [no, (is g14), (is g2)]) 1 rfl rfl
      obtain ⟨h504, S505⟩ := row_lit (d := (node 74)) (xs := [t469, t482]) S503 b497 rfl (elsO_no (d := (node 74)) ⟨_, rfl, (h475.ext' E493)⟩ (elsO_no (d := (node 74)) ⟨_, rfl, h489⟩ (elsO_nil _ _ _ no))) (Nat.le_of_ble_eq_true rfl)
      have l506 := h504.le
      obtain ⟨H507, S508, E509, h510, z511⟩ := S505.frzRow h504
      obtain ⟨t512, u513, M⟩ := bnd M
      refine xone (i := 16) (by kernel_rfl) hc500 ?_
      refine yc (i := 16) rfl (wanted_none rfl _) (by kernel_rfl) (by kernel_rfl) (e_call (l := [.const (str ([44] : List UInt8)), .tmp 117]) (vs := [str ([44] : List UInt8), .slice (some ⟨g496, 0, none⟩) 2 2]) Try.func60 (by kernel_rfl) rfl (by kernel_rfl) rfl) (impl_comp.calls w495 H507 ([44] : List UInt8) [t469, t482] (some ⟨g496, 0, none⟩) 2 h510 l506 (St.own' (Fa := []) (Fr := [(is g14), (is g2)]) S508) t512 u513) ?_
      rintro hc519 _ w514 ⟨g517, H515, rfl, h518, T516⟩
      refine ⟨_, rfl, ?_⟩
      obtain ⟨S520, K521⟩ := St.call (Fa := []) (Fr := [(is g14), (is g2)]) S508 T516
      replace b487 := K521.blk 0 rfl b487
      replace b444 := K521.blk 1 rfl b444
      have E522 := T516.ext
      refine ⟨⟨(Ext.trans (((((E450.trans E466).trans E479).trans E493).trans E509).trans E522) S520.inv), (fun q_ => absurd q_ (by decide +kernel))⟩, fun hs523 => ?_⟩
      refine xone (i := 17) (by kernel_rfl) hc519 ?_
      refine yo (i := 17) (d := 8) rfl rfl (wanted_none rfl _) (by kernel_rfl) (by kernel_rfl) (fun L_ w_ => by simp only [getD_set_ne true (show (17 : Nat) ≠ 14 by decide)]) hs523 (e_assign (v := .pointer (some ⟨g517, 0, none⟩)) (by kernel_rfl)) ?_; intro hc524 hs525
      refine xn (by kernel_rfl) ?_ _
      refine then_n ?_
      refine wp_ret ?_
      refine inb_r ?_
      refine then_r ?_
      obtain rfl := Option.some.inj M
      have S526 := S520.pull (F := (is g2)) (Fr := [(is g14)]) 1 rfl rfl
      have S527 := St.first (Fa := [(is g2)]) (Fr := [(is g14)]) S526
      exact ret1 rfl rfl  (show _ = .pointer (some ⟨g517, 0, none⟩) from (by kernel_rfl)) ⟨g517, H515, rfl, b444, h518, S527⟩
    replace M := ifn q388 M
    refine cond_f rfl (bvf q388 (by kernel_rfl)) ?_
    refine wp_seq ?_
    refine wp_region_lit ?_
    refine lv (d := 120) rfl rfl (by kernel_rfl) (e_move (v := .pointer (some ⟨g5, 0, none⟩)) (by exact e70)) ?_
    obtain ⟨t528, u529, M⟩ := bnd M
    refine lcall (d := 121) rfl rfl (by kernel_rfl) (e_call (l := [.tmp 120, .const (str ([33] : List UInt8)), .const (.int .i64 0)]) (vs := [.pointer (some ⟨g5, 0, none⟩), str ([33] : List UInt8), .int .i64 0]) Try.func33 (by kernel_rfl) rfl (by kernel_rfl) rfl) (impl_node_is.calls w384 H x4 g5 ([33] : List UInt8) 0 h6 S386.own0 t528 u529) ?_
    rintro _ w530 ⟨rfl, C531⟩
    refine ⟨_, rfl, ?_⟩
    obtain ⟨S532, K533⟩ := S386.still C531
    replace b15 := K533.blk 0 rfl b15
    replace b3 := K533.blk 1 rfl b3
    refine lv (d := 119) rfl rfl (by kernel_rfl) (e_assign (v := .bool t528) (by kernel_rfl)) ?_
    refine wpList_nil ?_
    refine then_n ?_
    by_cases q534 : t528 = true
    · replace M := ifp q534 M
      refine cond_t rfl (bvt q534 (by kernel_rfl)) ?_
      refine wp_seq ?_
      refine wp_region_lit ?_
      refine lv (d := 122) rfl rfl (by kernel_rfl) (e_move (v := .pointer (some ⟨g5, 0, none⟩)) (by exact e70)) ?_
      refine lv (d := 123) rfl rfl (by kernel_rfl) (e_move (v := .func (.func 71) #[] #[.pointer (some ⟨g14, 0, none⟩)]) (by exact e73)) ?_
      refine lv (d := 124) rfl rfl (by kernel_rfl) (e_move (v := .pointer (some ⟨g11, 0, none⟩)) (by exact e71)) ?_
      obtain ⟨t535, u536, M⟩ := bnd M
      refine lcall (d := 125) rfl rfl (by kernel_rfl) (e_callv (l := [.tmp 124]) (vs := [.pointer (some ⟨g11, 0, none⟩)]) (cs := [.pointer (some ⟨g14, 0, none⟩)]) Try.func71 (by kernel_rfl) rfl (by kernel_rfl) (by kernel_rfl)) (impl_grammar_body_c1.calls w530 H x10 g11 x7 g14 g8 h12 h9 b15 (St.own' (Fa := [(is g14)]) (Fr := [(is g2)]) S532) t535 u536) ?_
      rintro _ w537 ⟨g541, H538, rfl, b540, h542, T539⟩
      refine ⟨_, rfl, ?_⟩
      obtain ⟨S543, K544⟩ := St.call (Fa := [(is g14)]) (Fr := [(is g2)]) S532 T539
      replace b3 := K544.blk 0 rfl b3
      have E545 := T539.ext
      refine lve (d := 126) rfl rfl (by kernel_rfl) (new_blk (v := fun g_ => .slice (some ⟨g_, 0, none⟩) 2 2) (cs := #[.pointer (some ⟨g5, 0, none⟩), .pointer (some ⟨g541, 0, none⟩)]) (t := 38) S543 (by kernel_rfl)) ?_
      rintro _ w546 ⟨g547, rfl, b548, S549, K550⟩
      replace b540 := K550.blk 0 rfl b540
      replace b3 := K550.blk 1 rfl b3
      have S551 := S549.unit
      have S552 := S551.pull (F := (is g547)) (Fr := [no, (is g14), (is g2)]) 1 rfl rfl
      obtain ⟨h553, S554⟩ := row_lit (d := (node 74)) (xs := [x4, t535]) S552 b548 rfl (elsO_no (d := (node 74)) ⟨_, rfl, (h6.ext' E545)⟩ (elsO_no (d := (node 74)) ⟨_, rfl, h542⟩ (elsO_nil _ _ _ no))) (Nat.le_of_ble_eq_true rfl)
      have l555 := h553.le
      obtain ⟨H556, S557, E558, h559, z560⟩ := S554.frzRow h553
      obtain ⟨t561, u562, M⟩ := bnd M
      refine lcall (d := 127) rfl rfl (by kernel_rfl) (e_call (l := [.const (str ([44] : List UInt8)), .tmp 126]) (vs := [str ([44] : List UInt8), .slice (some ⟨g547, 0, none⟩) 2 2]) Try.func60 (by kernel_rfl) rfl (by kernel_rfl) rfl) (impl_comp.calls w546 H556 ([44] : List UInt8) [x4, t535] (some ⟨g547, 0, none⟩) 2 h559 l555 (St.own' (Fa := []) (Fr := [(is g14), (is g2)]) S557) t561 u562) ?_
      rintro _ w563 ⟨g566, H564, rfl, h567, T565⟩
      refine ⟨_, rfl, ?_⟩
      obtain ⟨S568, K569⟩ := St.call (Fa := []) (Fr := [(is g14), (is g2)]) S557 T565
      replace b540 := K569.blk 0 rfl b540
      replace b3 := K569.blk 1 rfl b3
      have E570 := T565.ext
      refine lv (d := 8) rfl rfl (by kernel_rfl) (e_assign (v := .pointer (some ⟨g566, 0, none⟩)) (by kernel_rfl)) ?_
      refine wpList_nil ?_
      refine then_n ?_
      refine wp_ret ?_
      refine inb_r ?_
      refine then_r ?_
      obtain rfl := Option.some.inj M
      have S571 := S568.pull (F := (is g2)) (Fr := [(is g14)]) 1 rfl rfl
      have S572 := St.first (Fa := [(is g2)]) (Fr := [(is g14)]) S571
      exact ret1 rfl rfl  (show _ = .pointer (some ⟨g566, 0, none⟩) from (by kernel_rfl)) ⟨g566, H564, rfl, b3, h567, S572⟩
    replace M := ifn q534 M
    refine cond_f rfl (bvf q534 (by kernel_rfl)) ?_
    refine wp_seq ?_
    refine wp_region_lit ?_
    refine lv (d := 129) rfl rfl (by kernel_rfl) (e_move (v := .pointer (some ⟨g5, 0, none⟩)) (by exact e70)) ?_
    obtain ⟨t573, u574, M⟩ := bnd M
    refine lcall (d := 130) rfl rfl (by kernel_rfl) (e_call (l := [.tmp 129, .const (str ([123, 125] : List UInt8)), .const (.int .i64 1)]) (vs := [.pointer (some ⟨g5, 0, none⟩), str ([123, 125] : List UInt8), .int .i64 1]) Try.func33 (by kernel_rfl) rfl (by kernel_rfl) rfl) (impl_node_is.calls w530 H x4 g5 ([123, 125] : List UInt8) 1 h6 S532.own0 t573 u574) ?_
    rintro _ w575 ⟨rfl, C576⟩
    refine ⟨_, rfl, ?_⟩
    obtain ⟨S577, K578⟩ := S532.still C576
    replace b15 := K578.blk 0 rfl b15
    replace b3 := K578.blk 1 rfl b3
    refine lv (d := 128) rfl rfl (by kernel_rfl) (e_assign (v := .bool t573) (by kernel_rfl)) ?_
    refine wpList_nil ?_
    refine then_n ?_
    by_cases q579 : t573 = true
    · replace M := ifp q579 M
      refine cond_t rfl (bvt q579 (by kernel_rfl)) ?_
      refine wp_seq ?_
      refine region_mix (S := (fun (L_ : Array Bool) (w_ : World) => Ext H (hp w_) ∧ True)) (by kernel_rfl) S577 ?_
      intro w580 S581 K582 hc583
      have hs584 : (fun (L_ : Array Bool) (w_ : World) => Ext H (hp w_) ∧ True) (Array.replicate 12 false) w580 := ⟨S581.inv, trivial⟩
      replace b15 := K582.blk 0 rfl b15
      replace b3 := K582.blk 1 rfl b3
      refine xv (i := 0) (d := 131) rfl rfl rfl (by kernel_rfl) (by kernel_rfl) (fun _ _ => Iff.rfl) hc583 hs584 (fun L_ w_ hc_ hu_ hs_ => e_move (v := .pointer (some ⟨g5, 0, none⟩)) (by exact e70)) ?_; intro hc585 hs586
      refine xv (i := 1) (d := 132) rfl rfl rfl (by kernel_rfl) (by kernel_rfl) (fun _ _ => Iff.rfl) hc585 hs586 (fun L_ w_ hc_ hu_ hs_ => e_nilCheck (ad := ⟨g5, 0, none⟩) (by kernel_rfl)) ?_; intro hc587 hs588
      refine xv (i := 2) (d := 133) rfl rfl rfl (by kernel_rfl) (by kernel_rfl) (fun _ _ => Iff.rfl) hc587 hs588 (fun L_ w_ hc_ hu_ hs_ => e_fieldAddr (b := g5) (off := 0) (o := 3) Try.underlying74 rfl rfl (sz := 1) (by kernel_rfl) (by decide) (by kernel_rfl)) ?_; intro hc589 hs590
      refine xv (i := 3) (d := 134) rfl rfl rfl (by kernel_rfl) (by kernel_rfl) (fun _ _ => Iff.rfl) hc589 hs590 (fun L_ w_ hc_ hu_ hs_ => e_load1 (ad := ⟨g5, 0 + 3, none⟩) (v := .slice A18 x4.args.length c19) Try.underlying72 rfl (by kernel_rfl) (blk_cells (hs_.1 _ _ h22) h23 3 _ rfl)) ?_; intro hc591 hs592
      obtain ⟨q593, M⟩ := chk M
      obtain ⟨b594, o595, e596⟩ := Rd.addr h25 (show 0 < x4.args.length by omega)
      obtain ⟨y597, r598, k599⟩ := Rd.at h25 e596 (getD_some (Tm.mk 0 0 [] []) (show 0 < x4.args.length by omega))
      obtain ⟨v600, rfl, h601⟩ := r598
      obtain ⟨g602, rfl⟩ := node_ptr h601
      refine xv (i := 4) (d := 135) rfl rfl rfl (by kernel_rfl) (by kernel_rfl) (fun _ _ => Iff.rfl) hc591 hs592 (fun L_ w_ hc_ hu_ hs_ => e_indexAddr (b := b594) (off := o595) (n := x4.args.length) (c := c19) (sz := 1) (i := 0) (k := .i64) Try.underlying72 e596 (by kernel_rfl) (by kernel_rfl) rfl (by omega) q593) ?_; intro hc603 hs604
      refine xv (i := 5) (d := 136) rfl rfl rfl (by kernel_rfl) (by kernel_rfl) (fun _ _ => Iff.rfl) hc603 hs604 (fun L_ w_ hc_ hu_ hs_ => e_load1 (ad := ⟨b594, o595 + (0 : Int).toNat * 1, none⟩) (v := .pointer (some ⟨g602, 0, none⟩)) Try.underlying38 rfl (by kernel_rfl) (hpx (hs_.1.cell (k599 0 _ rfl)))) ?_; intro hc605 hs606
      refine xv (i := 6) (d := 137) rfl rfl rfl (by kernel_rfl) (by kernel_rfl) (fun _ _ => Iff.rfl) hc605 hs606 (fun L_ w_ hc_ hu_ hs_ => e_move (v := .func (.func 71) #[] #[.pointer (some ⟨g14, 0, none⟩)]) (by exact e73)) ?_; intro hc607 hs608
      refine xone (i := 7) (by kernel_rfl) hc607 ?_
      refine yo (i := 7) (d := 138) rfl rfl (wanted_none rfl _) (by kernel_rfl) (by kernel_rfl) (fun _ _ => Iff.rfl) hs608 (e_move (v := .pointer (some ⟨g11, 0, none⟩)) (by exact e71)) ?_; intro hc609 hs610
      obtain ⟨t611, u612, M⟩ := bnd M
      refine xone (i := 8) (by kernel_rfl) hc609 ?_
      refine yc (i := 8) rfl (wanted_none rfl _) (by kernel_rfl) (by kernel_rfl) (e_callv (l := [.tmp 138]) (vs := [.pointer (some ⟨g11, 0, none⟩)]) (cs := [.pointer (some ⟨g14, 0, none⟩)]) Try.func71 (by kernel_rfl) rfl (by kernel_rfl) (by kernel_rfl)) (impl_grammar_body_c1.calls w580 H x10 g11 x7 g14 g8 h12 h9 b15 (St.own' (Fa := [(is g14)]) (Fr := [(is g2)]) S581) t611 u612) ?_
      rintro hc619 _ w613 ⟨g617, H614, rfl, b616, h618, T615⟩
      refine ⟨_, rfl, ?_⟩
      obtain ⟨S620, K621⟩ := St.call (Fa := [(is g14)]) (Fr := [(is g2)]) S581 T615
      replace b3 := K621.blk 0 rfl b3
      have E622 := T615.ext
      refine ⟨⟨(Ext.trans E622 S620.inv), trivial⟩, fun hs623 => ?_⟩
      refine xone (i := 9) (by kernel_rfl) hc619 ?_
      refine ye (i := 9) (d := 140) rfl rfl (wanted_none rfl _) (by kernel_rfl) (by kernel_rfl) (new_blk (v := fun g_ => .slice (some ⟨g_, 0, none⟩) 2 2) (cs := #[.pointer (some ⟨g602, 0, none⟩), .pointer (some ⟨g617, 0, none⟩)]) (t := 38) S620 (by kernel_rfl)) ?_
      rintro hc629 _ w624 ⟨g625, rfl, b626, S627, K628⟩
      replace b616 := K628.blk 0 rfl b616
      replace b3 := K628.blk 1 rfl b3
      refine ⟨⟨(Ext.trans E622 S627.inv), trivial⟩, fun hs630 => ?_⟩
      have S631 := S627.unit
      have S632 := S631.pull (F := (is g625)) (Fr := [no, (is g14), (is g2)]) 1 rfl rfl
      obtain ⟨h633, S634⟩ := row_lit (d := (node 74)) (xs := [(x4.args.getD 0 (Tm.mk 0 0 [] [])), t611]) S632 b626 rfl (elsO_no (d := (node 74)) ⟨_, rfl, (h601.ext' E622)⟩ (elsO_no (d := (node 74)) ⟨_, rfl, h618⟩ (elsO_nil _ _ _ no))) (Nat.le_of_ble_eq_true rfl)
      have l635 := h633.le
      obtain ⟨H636, S637, E638, h639, z640⟩ := S634.frzRow h633
      obtain ⟨t641, u642, M⟩ := bnd M
      refine xone (i := 10) (by kernel_rfl) hc629 ?_
      refine yc (i := 10) rfl (wanted_none rfl _) (by kernel_rfl) (by kernel_rfl) (e_call (l := [.const (str ([44] : List UInt8)), .tmp 140]) (vs := [str ([44] : List UInt8), .slice (some ⟨g625, 0, none⟩) 2 2]) Try.func60 (by kernel_rfl) rfl (by kernel_rfl) rfl) (impl_comp.calls w624 H636 ([44] : List UInt8) [(x4.args.getD 0 (Tm.mk 0 0 [] [])), t611] (some ⟨g625, 0, none⟩) 2 h639 l635 (St.own' (Fa := []) (Fr := [(is g14), (is g2)]) S637) t641 u642) ?_
      rintro hc648 _ w643 ⟨g646, H644, rfl, h647, T645⟩
      refine ⟨_, rfl, ?_⟩
      obtain ⟨S649, K650⟩ := St.call (Fa := []) (Fr := [(is g14), (is g2)]) S637 T645
      replace b616 := K650.blk 0 rfl b616
      replace b3 := K650.blk 1 rfl b3
      have E651 := T645.ext
      refine ⟨⟨(Ext.trans ((E622.trans E638).trans E651) S649.inv), trivial⟩, fun hs652 => ?_⟩
      refine xone (i := 11) (by kernel_rfl) hc648 ?_
      refine yo (i := 11) (d := 8) rfl rfl (wanted_none rfl _) (by kernel_rfl) (by kernel_rfl) (fun _ _ => Iff.rfl) hs652 (e_assign (v := .pointer (some ⟨g646, 0, none⟩)) (by kernel_rfl)) ?_; intro hc653 hs654
      refine xn (by kernel_rfl) ?_ _
      refine then_n ?_
      refine wp_ret ?_
      refine inb_r ?_
      refine then_r ?_
      obtain rfl := Option.some.inj M
      have S655 := S649.pull (F := (is g2)) (Fr := [(is g14)]) 1 rfl rfl
      have S656 := St.first (Fa := [(is g2)]) (Fr := [(is g14)]) S655
      exact ret1 rfl rfl  (show _ = .pointer (some ⟨g646, 0, none⟩) from (by kernel_rfl)) ⟨g646, H644, rfl, b3, h647, S656⟩
    replace M := ifn q579 M
    refine cond_f rfl (bvf q579 (by kernel_rfl)) ?_
    refine wp_seq ?_
    refine wp_region_lit ?_
    refine lv (d := 143) rfl rfl (by kernel_rfl) (e_move (v := .pointer (some ⟨g5, 0, none⟩)) (by exact e70)) ?_
    obtain ⟨t657, u658, M⟩ := bnd M
    refine lcall (d := 144) rfl rfl (by kernel_rfl) (e_call (l := [.tmp 143]) (vs := [.pointer (some ⟨g5, 0, none⟩)]) Try.func72 (by kernel_rfl) rfl (by kernel_rfl) rfl) (impl_isList.calls k79 w575 H x4 g5 h6 S577.own0 t657 u658) ?_
    rintro _ w659 ⟨rfl, C660⟩
    refine ⟨_, rfl, ?_⟩
    obtain ⟨S661, K662⟩ := S577.still C660
    replace b15 := K662.blk 0 rfl b15
    replace b3 := K662.blk 1 rfl b3
    refine lv (d := 142) rfl rfl (by kernel_rfl) (e_assign (v := .bool t657) (by kernel_rfl)) ?_
    refine wpList_nil ?_
    refine then_n ?_
    by_cases q663 : t657 = true
    · replace M := ifp q663 M
      refine cond_t rfl (bvt q663 (by kernel_rfl)) ?_
      refine wp_seq ?_
      refine wp_region_lit ?_
      refine lv (d := 146) rfl rfl (by kernel_rfl) (e_move (v := .pointer (some ⟨g5, 0, none⟩)) (by exact e70)) ?_
      obtain ⟨t664, u665, M⟩ := bnd M
      refine lcall (d := 147) rfl rfl (by kernel_rfl) (e_call (l := [.tmp 146]) (vs := [.pointer (some ⟨g5, 0, none⟩)]) Try.func58 (by kernel_rfl) rfl (by kernel_rfl) rfl) (impl_itemsOf.calls k79 w659 H x4 g5 h6 (St.own' (Fa := []) (Fr := [(is g14), (is g2)]) S661) t664 u665) ?_
      rintro _ w666 ⟨A669, c670, F672, g673, H667, rfl, h671, h674, T668⟩
      refine ⟨_, rfl, ?_⟩
      obtain ⟨S675, K676⟩ := St.call (Fa := []) (Fr := [(is g14), (is g2)]) S661 T668
      replace b15 := K676.blk 0 rfl b15
      replace b3 := K676.blk 1 rfl b3
      have E677 := T668.ext
      refine lv (d := 145) rfl rfl (by kernel_rfl) (e_move (v := .tuple #[.slice A669 t664.1.length c670, .pointer (some ⟨g673, 0, none⟩)]) (by kernel_rfl)) ?_
      refine lv (d := 148) rfl rfl (by kernel_rfl) (e_extract (vs := #[.slice A669 t664.1.length c670, .pointer (some ⟨g673, 0, none⟩)]) (v := .slice A669 t664.1.length c670) (by kernel_rfl) rfl) ?_
      refine lv (d := 149) rfl rfl (by kernel_rfl) (e_extract (vs := #[.slice A669 t664.1.length c670, .pointer (some ⟨g673, 0, none⟩)]) (v := .pointer (some ⟨g673, 0, none⟩)) (by kernel_rfl) rfl) ?_
      refine lv (d := 14) rfl rfl (by kernel_rfl) (e_assign (v := .slice A669 t664.1.length c670) (by kernel_rfl)) ?_
      refine lv (d := 15) rfl rfl (by kernel_rfl) (e_assign (v := .pointer (some ⟨g673, 0, none⟩)) (by kernel_rfl)) ?_
      refine wpList_nil ?_
      refine then_n ?_
      refine wp_seq ?_
      refine wp_region_lit ?_
      refine lv (d := 150) rfl rfl (by kernel_rfl) (e_move (v := .func (.func 71) #[] #[.pointer (some ⟨g14, 0, none⟩)]) (by exact e73)) ?_
      refine lv (d := 151) rfl rfl (by kernel_rfl) (e_move (v := .slice A669 t664.1.length c670) (by kernel_rfl)) ?_
      refine lv (d := 152) rfl rfl (by kernel_rfl) (e_move (v := .pointer (some ⟨g11, 0, none⟩)) (by exact e71)) ?_
      have l678 := h671.le
      obtain ⟨H679, S680, E681, h682, z683⟩ := S675.frzRow h671
      obtain ⟨t684, u685, M⟩ := bnd M
      refine lcall (d := 153) rfl rfl (by kernel_rfl) (e_call (l := [.tmp 151, .tmp 152]) (vs := [.slice A669 t664.1.length c670, .pointer (some ⟨g11, 0, none⟩)]) Try.func61 (by kernel_rfl) rfl (by kernel_rfl) rfl) (impl_listOf.calls k79 w666 H679 t664.1 A669 c670 x10 g11 h682 l678 (h12.ext' (E677.trans E681)) (St.own' (Fa := []) (Fr := [(is g14), (is g2)]) S680) t684 u685) ?_
      rintro _ w686 ⟨g689, H687, rfl, h690, T688⟩
      refine ⟨_, rfl, ?_⟩
      obtain ⟨S691, K692⟩ := St.call (Fa := []) (Fr := [(is g14), (is g2)]) S680 T688
      replace b15 := K692.blk 0 rfl b15
      replace b3 := K692.blk 1 rfl b3
      have E693 := T688.ext
      obtain ⟨t694, u695, M⟩ := bnd M
      refine lcall (d := 154) rfl rfl (by kernel_rfl) (e_callv (l := [.tmp 153]) (vs := [.pointer (some ⟨g689, 0, none⟩)]) (cs := [.pointer (some ⟨g14, 0, none⟩)]) Try.func71 (by kernel_rfl) rfl (by kernel_rfl) (by kernel_rfl)) (impl_grammar_body_c1.calls w686 H687 t684 g689 x7 g14 g8 h690 (h9.ext' ((E677.trans E681).trans E693)) b15 (St.own' (Fa := [(is g14)]) (Fr := [(is g2)]) S691) t694 u695) ?_
      rintro _ w696 ⟨g700, H697, rfl, b699, h701, T698⟩
      refine ⟨_, rfl, ?_⟩
      obtain ⟨S702, K703⟩ := St.call (Fa := [(is g14)]) (Fr := [(is g2)]) S691 T698
      replace b3 := K703.blk 0 rfl b3
      have E704 := T698.ext
      refine lv (d := 8) rfl rfl (by kernel_rfl) (e_assign (v := .pointer (some ⟨g700, 0, none⟩)) (by kernel_rfl)) ?_
      refine wpList_nil ?_
      refine then_n ?_
      refine wp_ret ?_
      refine inb_r ?_
      refine then_r ?_
      obtain rfl := Option.some.inj M
      have S705 := S702.pull (F := (is g2)) (Fr := [(is g14)]) 1 rfl rfl
      have S706 := St.first (Fa := [(is g2)]) (Fr := [(is g14)]) S705
      exact ret1 rfl rfl  (show _ = .pointer (some ⟨g700, 0, none⟩) from (by kernel_rfl)) ⟨g700, H697, rfl, b3, h701, S706⟩
    replace M := ifn q663 M
    refine cond_f rfl (bvf q663 (by kernel_rfl)) ?_
    refine wp_seq ?_
    refine wp_region_lit ?_
    refine lv (d := 156) rfl rfl (by kernel_rfl) (e_move (v := .pointer (some ⟨g5, 0, none⟩)) (by exact e70)) ?_
    obtain ⟨t707, u708, M⟩ := bnd M
    refine lcall (d := 157) rfl rfl (by kernel_rfl) (e_call (l := [.tmp 156, .const (str ([46] : List UInt8)), .const (.int .i64 2)]) (vs := [.pointer (some ⟨g5, 0, none⟩), str ([46] : List UInt8), .int .i64 2]) Try.func33 (by kernel_rfl) rfl (by kernel_rfl) rfl) (impl_node_is.calls w659 H x4 g5 ([46] : List UInt8) 2 h6 S661.own0 t707 u708) ?_
    rintro _ w709 ⟨rfl, C710⟩
    refine ⟨_, rfl, ?_⟩
    obtain ⟨S711, K712⟩ := S661.still C710
    replace b15 := K712.blk 0 rfl b15
    replace b3 := K712.blk 1 rfl b3
    refine lv (d := 155) rfl rfl (by kernel_rfl) (e_assign (v := .bool t707) (by kernel_rfl)) ?_
    refine wpList_nil ?_
    refine then_n ?_
    by_cases q713 : t707 = true
    · replace M := ifp q713 M
      refine cond_t rfl (bvt q713 (by kernel_rfl)) ?_
      refine wp_seq ?_
      refine wp_region_lit ?_
      refine lv (d := 158) rfl rfl (by kernel_rfl) (e_move (v := .pointer (some ⟨g2, 0, none⟩)) (by exact e69)) ?_
      have S714 := S711.pull (F := (is g2)) (Fr := [(is g14)]) 1 rfl rfl
      obtain ⟨t715, u716, M⟩ := bnd M
      refine lcall (d := 159) rfl rfl (by kernel_rfl) (e_call (l := [.tmp 158, .const (.int .i64 4)]) (vs := [.pointer (some ⟨g2, 0, none⟩), .int .i64 4]) Try.func59 (by kernel_rfl) rfl (by kernel_rfl) rfl) (impl_grammar_fault.calls w709 H x1 g2 4 b3 (St.own' (Fa := [(is g2)]) (Fr := [(is g14)]) S714) t715 u716) ?_
      rintro _ w717 ⟨H718, rfl, b720, T719⟩
      refine ⟨_, rfl, ?_⟩
      obtain ⟨S721, K722⟩ := St.call (Fa := [(is g2)]) (Fr := [(is g14)]) S714 T719
      replace b15 := K722.blk 0 rfl b15
      have E723 := T719.ext
      refine wpList_nil ?_
      refine then_n ?_
      refine wp_seq ?_
      refine wp_region_lit ?_
      refine lv (d := 160) rfl rfl (by kernel_rfl) (e_move (v := .pointer (some ⟨g5, 0, none⟩)) (by exact e70)) ?_
      refine lv (d := 8) rfl rfl (by kernel_rfl) (e_assign (v := .pointer (some ⟨g5, 0, none⟩)) (by kernel_rfl)) ?_
      refine wpList_nil ?_
      refine then_n ?_
      refine wp_ret ?_
      refine inb_r ?_
      refine then_r ?_
      obtain rfl := Option.some.inj M
      have S724 := St.first (Fa := [(is g2)]) (Fr := [(is g14)]) S721
      exact ret1 rfl rfl  (show _ = .pointer (some ⟨g5, 0, none⟩) from (by kernel_rfl)) ⟨g5, H718, rfl, b720, (h6.ext' E723), S724⟩
    replace M := ifn q713 M
    refine cond_f rfl (bvf q713 (by kernel_rfl)) ?_
    refine wp_skip ?_
    refine inb_n ?_
    refine then_n ?_
    refine wp_seq ?_
    refine wp_region_lit ?_
    refine lv (d := 161) rfl rfl (by kernel_rfl) (e_move (v := .pointer (some ⟨g2, 0, none⟩)) (by exact e69)) ?_
    refine lv (d := 162) rfl rfl (by kernel_rfl) (e_move (v := .pointer (some ⟨g5, 0, none⟩)) (by exact e70)) ?_
    refine lv (d := 163) rfl rfl (by kernel_rfl) (e_load1 (ad := ⟨g14, 0, none⟩) (v := .pointer (some ⟨g8, 0, none⟩)) Try.underlying38 rfl (by exact e72) (blk_cell b15 rfl)) ?_
    refine lv (d := 164) rfl rfl (by kernel_rfl) (e_move (v := .pointer (some ⟨g11, 0, none⟩)) (by exact e71)) ?_
    have S725 := S711.pull (F := (is g2)) (Fr := [(is g14)]) 1 rfl rfl
    obtain ⟨t726, u727, M⟩ := bnd M
    refine lcall (d := 165) rfl rfl (by kernel_rfl) (e_call (l := [.tmp 161, .tmp 162, .tmp 163, .tmp 164]) (vs := [.pointer (some ⟨g2, 0, none⟩), .pointer (some ⟨g5, 0, none⟩), .pointer (some ⟨g8, 0, none⟩), .pointer (some ⟨g11, 0, none⟩)]) Try.func56 (by kernel_rfl) rfl (by kernel_rfl) rfl) (impl_grammar_more.calls w709 H x1 g2 x4 g5 x7 g8 x10 g11 b3 h6 h9 h12 (St.own' (Fa := [(is g2)]) (Fr := [(is g14)]) S725) t726 u727) ?_
    rintro _ w728 ⟨g732, H729, rfl, b731, h733, T730⟩
    refine ⟨_, rfl, ?_⟩
    obtain ⟨S734, K735⟩ := St.call (Fa := [(is g2)]) (Fr := [(is g14)]) S725 T730
    replace b15 := K735.blk 0 rfl b15
    have E736 := T730.ext
    refine lv (d := 8) rfl rfl (by kernel_rfl) (e_assign (v := .pointer (some ⟨g732, 0, none⟩)) (by kernel_rfl)) ?_
    refine wpList_nil ?_
    refine then_n ?_
    refine wp_ret ?_
    obtain rfl := Option.some.inj M
    have S737 := St.first (Fa := [(is g2)]) (Fr := [(is g14)]) S734
    exact ret1 rfl rfl  (show _ = .pointer (some ⟨g732, 0, none⟩) from (by kernel_rfl)) ⟨g732, H729, rfl, b731, h733, S737⟩
theorem impl_grammar_body.calls (k : Nat) (w : World) (H : Hp) (x1 : GL8gram) (g2 : Nat) (x4 : Tm) (g5 : Nat) (x7 : Tm) (g8 : Nat) (x10 : Tm) (g11 : Nat) (b3 : w.heap[g2]? = some (.cells #[.int .i64 x1.next_, .int .i64 x1.code_] 78 (0, 0))) (h6 : NodeR 74 H x4 (.pointer (some ⟨g5, 0, none⟩))) (h9 : NodeR 74 H x7 (.pointer (some ⟨g8, 0, none⟩))) (h12 : NodeR 74 H x10 (.pointer (some ⟨g11, 0, none⟩))) (S : Own [(is g2)] H w) (r : Tm × GL8gram) (M : impl_grammar_body.f k x1 x4 x7 x10 = some r) :
    Calls Try.prog 57 #[.pointer (some ⟨g2, 0, none⟩), .pointer (some ⟨g5, 0, none⟩), .pointer (some ⟨g8, 0, none⟩), .pointer (some ⟨g11, 0, none⟩)] w (fun e e_w => ∃ (g_1 : Nat) (H_ : Hp), e = .returned (.pointer (some ⟨g_1, 0, none⟩)) ∧ e_w.heap[g2]? = some (.cells #[.int .i64 r.2.next_, .int .i64 r.2.code_] 78 (0, 0)) ∧ NodeR 74 H_ r.1 (.pointer (some ⟨g_1, 0, none⟩)) ∧ St (anyOf [(is g2)]) H w [(is g2)] H_ e_w) := (impl_grammar_body.all (k + 1)) k (Nat.lt_succ_self k) w H x1 g2 x4 g5 x7 g8 x10 g11 b3 h6 h9 h12 S r M

/-! impl_node_size -/
mutual
def impl_node_size.l0 : Nat → Tm → Int → Int → Int → Option Int
  | 0, _, _, _, _ => none
  | k27 + 1, x1, x4, x15, x16 => (if x16 < (x1.args.length : Int) then (if 0 ≤ x16 then (if x15 > x4 then some x15 else ((impl_node_size.f k27 (x1.args.getD ((x16).toNat) (Tm.mk 0 0 [] [])) (IntKind.i64.wrap (x4 - x15))).bind fun t40 => (impl_node_size.l0 k27 x1 x4 (IntKind.i64.wrap (x15 + t40)) (IntKind.i64.wrap (x16 + 1))))) else none) else some x15)
def impl_node_size.f : Nat → Tm → Int → Option Int
  | 0, _, _ => none
  | k1_ + 1, x1, x4 => (impl_node_size.l0 k1_ x1 x4 1 0)
end
theorem impl_node_size.all : ∀ (K : Nat), (∀ (k : Nat), k < K → ∀ (w : World) (H : Hp) (x1 : Tm) (g2 : Nat) (x4 : Int) (h3 : NodeR 74 H x1 (.pointer (some ⟨g2, 0, none⟩))) (S : Own [] H w) (r : Int) (M : impl_node_size.f k x1 x4 = some r), Calls Try.prog 45 #[.pointer (some ⟨g2, 0, none⟩), .int .i64 x4] w (fun e e_w => e = .returned (.int .i64 r) ∧ Chg no w e_w)) := by
  intro K
  induction K with
  | zero => intro k hk; omega
  | succ K ih =>
    intro k hk w H x1 g2 x4 h3 S r M
    rcases k with _ | k1_
    · rw [impl_node_size.f] at M
      cases M
    rw [impl_node_size.f] at M
    refine enter (l := [.pointer (some ⟨g2, 0, none⟩), .int .i64 x4]) 30 Try.func45 rfl rfl rfl ?_
    have S0_ := S.st
    refine wp_seq ?_
    refine wp_region_lit ?_
    refine lv (d := 4) rfl rfl (by kernel_rfl) (e_assign (v := .int .i64 0) rfl) ?_
    refine wpList_nil ?_
    refine then_n ?_
    refine wp_seq ?_
    refine wp_region_lit ?_
    refine lv (d := 5) rfl rfl (by kernel_rfl) (e_assign (v := .int .i64 1) rfl) ?_
    refine wpList_nil ?_
    refine then_n ?_
    refine wp_seq ?_
    refine wp_seq ?_
    refine wp_region_lit ?_
    refine lv (d := 8) rfl rfl (by kernel_rfl) (e_move (v := .pointer (some ⟨g2, 0, none⟩)) (by kernel_rfl)) ?_
    refine lv (d := 9) rfl rfl (by kernel_rfl) (e_nilCheck (ad := ⟨g2, 0, none⟩) (by kernel_rfl)) ?_
    refine lv (d := 10) rfl rfl (by kernel_rfl) (e_fieldAddr (b := g2) (off := 0) (o := 3) Try.underlying74 rfl rfl (sz := 1) (by kernel_rfl) (by decide) (by kernel_rfl)) ?_
    obtain ⟨A5, c6, y7, q8, h9, h10, l11, h12⟩ := node_open h3
    refine lv (d := 11) rfl rfl (by kernel_rfl) (e_load1 (ad := ⟨g2, 0 + 3, none⟩) (v := .slice A5 x1.args.length c6) Try.underlying72 rfl (by kernel_rfl) (blk_cells (S0_.inv _ _ h9) h10 3 _ rfl)) ?_
    refine lv (d := 12) rfl rfl (by kernel_rfl) (e_len (A := A5) (n := x1.args.length) (c := c6) Try.underlying72 (by kernel_rfl)) ?_
    refine lv (d := 13) rfl rfl (by kernel_rfl) (e_move (v := .int .i64 0) rfl) ?_
    refine wpList_nil ?_
    refine then_n ?_
    refine wp_block ?_
    refine wp_loop_g (fun k25 a26 w13 => ∃ (f14 : Nat → Value) (x15 : Int) (x16 : Int), k25 < K ∧ a26 = mk 30 f14 ∧ f14 1 = .int .i64 x4 ∧ f14 5 = .int .i64 x15 ∧ f14 11 = .slice A5 x1.args.length c6 ∧ f14 12 = .int .i64 (x1.args.length : Int) ∧ f14 13 = .int .i64 x16 ∧ St (anyOf []) H w [] H w13 ∧ impl_node_size.l0 k25 x1 x4 x15 x16 = some r) k1_ ⟨_, 1, 0, (by omega), rfl, (by kernel_rfl), (by kernel_rfl), (by kernel_rfl), (by kernel_rfl), (by kernel_rfl), S0_, M⟩ ?_
    clear M
    rintro k25 a26 w13 ⟨f14, x15, x16, z23, rfl, e17, e18, e19, e20, e21, S22, M⟩
    rcases k25 with _ | k27
    · rw [impl_node_size.l0] at M
      cases M
    rw [impl_node_size.l0] at M
    refine wp_seq ?_
    refine wp_region_lit ?_
    refine lv (d := 14) rfl rfl (by kernel_rfl) (e_lss (k := .i64) (a := x16) (b := (x1.args.length : Int)) (by exact e21) (by exact e20)) ?_
    refine wpList_nil ?_
    refine then_n ?_
    refine wp_seq ?_
    by_cases q28 : x16 < (x1.args.length : Int)
    · replace M := ifp q28 M
      refine cond_t rfl (bt q28 (by kernel_rfl)) ?_
      refine wp_skip ?_
      refine then_n ?_
      refine wp_seq ?_
      refine wp_block ?_
      refine wp_seq ?_
      refine wp_region_lit ?_
      obtain ⟨q29, M⟩ := chk M
      obtain ⟨b30, o31, e32⟩ := Rd.addr h12 (show (x16).toNat < x1.args.length by omega)
      obtain ⟨y33, r34, k35⟩ := Rd.at h12 e32 (getD_some (Tm.mk 0 0 [] []) (show (x16).toNat < x1.args.length by omega))
      obtain ⟨v36, rfl, h37⟩ := r34
      obtain ⟨g38, rfl⟩ := node_ptr h37
      refine lv (d := 15) rfl rfl (by kernel_rfl) (e_indexAddr (b := b30) (off := o31) (n := x1.args.length) (c := c6) (sz := 1) (i := x16) (k := .i64) Try.underlying72 e32 (by kernel_rfl) (by exact e19) (by exact e21) q29 q28) ?_
      refine lv (d := 16) rfl rfl (by kernel_rfl) (e_load1 (ad := ⟨b30, o31 + (x16 : Int).toNat * 1, none⟩) (v := .pointer (some ⟨g38, 0, none⟩)) Try.underlying38 rfl (by kernel_rfl) (hpx (S22.inv.cell (k35 0 _ rfl)))) ?_
      refine lv (d := 7) rfl rfl (by kernel_rfl) (e_assign (v := .pointer (some ⟨g38, 0, none⟩)) (by kernel_rfl)) ?_
      refine wpList_nil ?_
      refine then_n ?_
      refine wp_seq ?_
      refine wp_seq ?_
      refine wp_region_lit ?_
      refine lv (d := 17) rfl rfl (by kernel_rfl) (e_move (v := .int .i64 x15) (by exact e18)) ?_
      refine lv (d := 18) rfl rfl (by kernel_rfl) (e_move (v := .int .i64 x4) (by exact e17)) ?_
      refine lv (d := 19) rfl rfl (by kernel_rfl) (e_gtr (k := .i64) (a := x15) (b := x4) (by kernel_rfl) (by kernel_rfl)) ?_
      refine wpList_nil ?_
      refine then_n ?_
      by_cases q39 : x15 > x4
      · replace M := ifp q39 M
        refine cond_t rfl (bt q39 (by kernel_rfl)) ?_
        refine wp_seq ?_
        refine wp_region_lit ?_
        refine lv (d := 20) rfl rfl (by kernel_rfl) (e_move (v := .int .i64 x15) (by exact e18)) ?_
        refine lv (d := 4) rfl rfl (by kernel_rfl) (e_assign (v := .int .i64 x15) (by kernel_rfl)) ?_
        refine wpList_nil ?_
        refine then_n ?_
        refine wp_ret ?_
        refine then_r ?_
        refine inb_r ?_
        refine then_r ?_
        refine then_r ?_
        refine inb_r ?_
        refine then_r ?_
        obtain rfl := Option.some.inj M
        exact ret1 rfl rfl  (show _ = .int .i64 x15 from (by kernel_rfl)) ⟨rfl, S22.chg⟩
      replace M := ifn q39 M
      refine cond_f rfl (bf q39 (by kernel_rfl)) ?_
      refine wp_skip ?_
      refine then_n ?_
      refine wp_region_lit ?_
      refine lv (d := 21) rfl rfl (by kernel_rfl) (e_move (v := .int .i64 x15) (by exact e18)) ?_
      refine lv (d := 22) rfl rfl (by kernel_rfl) (e_move (v := .pointer (some ⟨g38, 0, none⟩)) (by kernel_rfl)) ?_
      refine lv (d := 23) rfl rfl (by kernel_rfl) (e_move (v := .int .i64 x4) (by exact e17)) ?_
      refine lv (d := 24) rfl rfl (by kernel_rfl) (e_move (v := .int .i64 x15) (by exact e18)) ?_
      refine lv (d := 25) rfl rfl (by kernel_rfl) (e_sub (k := .i64) (a := x4) (b := x15) (by kernel_rfl) (by kernel_rfl)) ?_
      obtain ⟨t40, u41, M⟩ := bnd M
      refine lcall (d := 26) rfl rfl (by kernel_rfl) (e_call (l := [.tmp 22, .tmp 25]) (vs := [.pointer (some ⟨g38, 0, none⟩), .int .i64 (IntKind.i64.wrap (x4 - x15))]) Try.func45 (by kernel_rfl) rfl (by kernel_rfl) rfl) (ih k27 (by omega) w13 H (x1.args.getD ((x16).toNat) (Tm.mk 0 0 [] [])) g38 (IntKind.i64.wrap (x4 - x15)) h37 S22.own0 t40 u41) ?_
      rintro _ w42 ⟨rfl, C43⟩
      refine ⟨_, rfl, ?_⟩
      obtain ⟨S44, K45⟩ := S22.still C43
      refine lv (d := 27) rfl rfl (by kernel_rfl) (e_add (k := .i64) (a := x15) (b := t40) (by kernel_rfl) (by kernel_rfl)) ?_
      refine lv (d := 5) rfl rfl (by kernel_rfl) (e_assign (v := .int .i64 (IntKind.i64.wrap (x15 + t40))) (by kernel_rfl)) ?_
      refine wpList_nil ?_
      refine inb_n ?_
      refine then_n ?_
      refine wp_region_lit ?_
      refine lv (d := 28) rfl rfl (by kernel_rfl) (e_add (k := .i64) (a := x16) (b := 1) (by exact e21) rfl) ?_
      refine lv (d := 13) rfl rfl (by kernel_rfl) (e_move (v := .int .i64 (IntKind.i64.wrap (x16 + 1))) (by kernel_rfl)) ?_
      refine wpList_nil ?_
      refine then_n ?_
      exact ⟨k27, (by omega), _, (IntKind.i64.wrap (x15 + t40)), (IntKind.i64.wrap (x16 + 1)), (by omega), rfl, (by exact e17), (by kernel_rfl), (by exact e19), (by exact e20), (by kernel_rfl), S44, M⟩
    replace M := ifn q28 M
    refine cond_f rfl (bf q28 (by kernel_rfl)) ?_
    refine wp_exit ?_
    refine then_e ?_
    refine then_e ?_
    refine inb_hit ?_
    refine then_n ?_
    refine wp_seq ?_
    refine wp_region_lit ?_
    refine lv (d := 29) rfl rfl (by kernel_rfl) (e_move (v := .int .i64 x15) (by exact e18)) ?_
    refine lv (d := 4) rfl rfl (by kernel_rfl) (e_assign (v := .int .i64 x15) (by kernel_rfl)) ?_
    refine wpList_nil ?_
    refine then_n ?_
    refine wp_ret ?_
    obtain rfl := Option.some.inj M
    exact ret1 rfl rfl  (show _ = .int .i64 x15 from (by kernel_rfl)) ⟨rfl, S22.chg⟩
theorem impl_node_size.calls (k : Nat) (w : World) (H : Hp) (x1 : Tm) (g2 : Nat) (x4 : Int) (h3 : NodeR 74 H x1 (.pointer (some ⟨g2, 0, none⟩))) (S : Own [] H w) (r : Int) (M : impl_node_size.f k x1 x4 = some r) :
    Calls Try.prog 45 #[.pointer (some ⟨g2, 0, none⟩), .int .i64 x4] w (fun e e_w => e = .returned (.int .i64 r) ∧ Chg no w e_w) := (impl_node_size.all (k + 1)) k (Nat.lt_succ_self k) w H x1 g2 x4 h3 S r M

/-! impl_translated -/
def impl_translated.l1 (k : Nat) (t135 : Tm × GL8gram) (x150 : Option Tm) (x153 : Int) (x154 : Int) : Option ((Option Tm) × Int) := (if x150.isSome = true then ((impl_comp.f ([58, 45] : List UInt8) [t135.1, (x150.getD (Tm.mk 0 0 [] []))]).bind fun t403 => ((impl_node_size.f k t403 2000).bind fun t413 => (if t413 > 2000 then ((impl_grammar_fault.f (⟨x153, x154⟩ : GL8gram) 3).bind fun t420 => (if t420.code_ ≠ 0 then some (none, t420.code_) else some ((some t403), 0))) else (if (IntKind.i64.wrap (x153 - 1)) > 1000000 then ((impl_grammar_fault.f (⟨x153, x154⟩ : GL8gram) 3).bind fun t436 => (if t436.code_ ≠ 0 then some (none, t436.code_) else some ((some t403), 0))) else (if x154 ≠ 0 then some (none, x154) else some ((some t403), 0)))))) else none)
def impl_translated.l0 (k : Nat) (x1 : Tm) (t4 : Int) (x35 : Tm) (x38 : Option Tm) : Option ((Option Tm) × Int) := ((impl_grammar_need.f (⟨(IntKind.i64.wrap (t4 + 1)), 0⟩ : GL8gram)).bind fun t87 => ((impl_grammar_need.f t87.2).bind fun t98 => (if x35.kind < 2 then some (none, 4) else ((impl_node_is.f x35 ([91, 93] : List UInt8) 0).bind fun t119 => (if t119 = true then some (none, 4) else ((impl_node_is.f x35 ([46] : List UInt8) 2).bind fun t127 => (if t127 = true then some (none, 4) else ((impl_grammar_more.f t98.2 x35 t87.1 t98.1).bind fun t135 => (if ¬ (x38.isSome = true) then (if 1 < (x1.args.length : Int) then ((impl_grammar_body.f k t135.2 (x1.args.getD 1 (Tm.mk 0 0 [] [])) t87.1 t98.1).bind fun t173 => (impl_translated.l1 k t135 (some t173.1) t173.2.next_ t173.2.code_)) else none) else ((impl_grammar_need.f t135.2).bind fun t184 => ((impl_itemsOf.f k (x38.getD (Tm.mk 0 0 [] []))).bind fun t198 => (if 1 < (x1.args.length : Int) then ((impl_grammar_body.f k t184.2 (x1.args.getD 1 (Tm.mk 0 0 [] [])) t87.1 t184.1).bind fun t223 => ((impl_node_is.f t198.2 ([91, 93] : List UInt8) 0).bind fun t234 => (if ¬ (t234 = true) then ((impl_grammar_fault.f t223.2 4).bind fun t241 => ((impl_listOf.f k t198.1 t184.1).bind fun t257 => ((impl_comp.f ([61] : List UInt8) [t98.1, t257]).bind fun t282 => ((impl_comp.f ([44] : List UInt8) [t223.1, t282]).bind fun t307 => (impl_translated.l1 k t135 (some t307) t241.next_ t241.code_))))) else ((impl_listOf.f k t198.1 t184.1).bind fun t324 => ((impl_comp.f ([61] : List UInt8) [t98.1, t324]).bind fun t349 => ((impl_comp.f ([44] : List UInt8) [t223.1, t349]).bind fun t374 => (impl_translated.l1 k t135 (some t374) t223.2.next_ t223.2.code_))))))) else none))))))))))))
def impl_translated.f (k : Nat) (x1 : Tm) : Option ((Option Tm) × Int) := ((impl_maxVar.f k x1).bind fun t4 => (if 0 < (x1.args.length : Int) then ((impl_node_is.f (x1.args.getD 0 (Tm.mk 0 0 [] [])) ([44] : List UInt8) 2).bind fun t49 => (if t49 = true then (if 0 < (((x1.args.getD 0 (Tm.mk 0 0 [] [])).args).length : Int) then (if 1 < (((x1.args.getD 0 (Tm.mk 0 0 [] [])).args).length : Int) then (impl_translated.l0 k x1 t4 (((x1.args.getD 0 (Tm.mk 0 0 [] [])).args).getD 0 (Tm.mk 0 0 [] [])) (some (((x1.args.getD 0 (Tm.mk 0 0 [] [])).args).getD 1 (Tm.mk 0 0 [] [])))) else none) else none) else (impl_translated.l0 k x1 t4 (x1.args.getD 0 (Tm.mk 0 0 [] [])) none))) else none))
theorem impl_translated.calls (k : Nat) (w : World) (H : Hp) (x1 : Tm) (g2 : Nat) (h3 : NodeR 74 H x1 (.pointer (some ⟨g2, 0, none⟩))) (S : Own [] H w) (r : (Option Tm) × Int) (M : impl_translated.f k x1 = some r) :
    Calls Try.prog 34 #[.pointer (some ⟨g2, 0, none⟩)] w (fun e e_w => ∃ (p_1 : Option Addr) (H_ : Hp), e = .returned (.tuple #[.pointer p_1, .int .i64 r.2]) ∧ NodeQ 74 H_ r.1 (.pointer p_1) ∧ St (anyOf []) H w [] H_ e_w) := by
  rw [impl_translated.f] at M
  refine enter (l := [.pointer (some ⟨g2, 0, none⟩)]) 133 Try.func34 rfl rfl rfl ?_
  have S0_ := S.st
  refine wp_seq ?_
  refine wp_region_lit ?_
  refine lv (d := 2) rfl rfl (by kernel_rfl) (e_assign (v := .pointer none) rfl) ?_
  refine lv (d := 3) rfl rfl (by kernel_rfl) (e_assign (v := .int .i64 0) rfl) ?_
  refine wpList_nil ?_
  refine then_n ?_
  refine wp_seq ?_
  refine wp_region_lit ?_
  refine lv (d := 16) rfl rfl (by kernel_rfl) (e_move (v := .pointer (some ⟨g2, 0, none⟩)) (by kernel_rfl)) ?_
  obtain ⟨t4, u5, M⟩ := bnd M
  refine lcall (d := 17) rfl rfl (by kernel_rfl) (e_call (l := [.tmp 16]) (vs := [.pointer (some ⟨g2, 0, none⟩)]) Try.func54 (by kernel_rfl) rfl (by kernel_rfl) rfl) (impl_maxVar.calls k w H x1 g2 h3 S0_.own0 t4 u5) ?_
  rintro _ w6 ⟨rfl, C7⟩
  refine ⟨_, rfl, ?_⟩
  obtain ⟨S8, K9⟩ := S0_.still C7
  refine lv (d := 18) rfl rfl (by kernel_rfl) (e_add (k := .i64) (a := t4) (b := 1) (by kernel_rfl) rfl) ?_
  refine lv (d := 19) rfl rfl (by kernel_rfl) (show _ = Result.ok (Next.value (.agg #[.int .i64 (IntKind.i64.wrap (t4 + 1)), .int .i64 0])) w6 from by kernel_rfl) ?_
  refine lve (d := 20) rfl rfl (by kernel_rfl) (new_blk (v := fun g_ => .pointer (some ⟨g_, 0, none⟩)) (cs := #[.int .i64 (IntKind.i64.wrap (t4 + 1)), .int .i64 0]) (t := 78) S8 (by kernel_rfl)) ?_
  rintro _ w10 ⟨g11, rfl, b12, S13, K14⟩
  refine lv (d := 4) rfl rfl (by kernel_rfl) (e_assign (v := .pointer (some ⟨g11, 0, none⟩)) (by kernel_rfl)) ?_
  refine wpList_nil ?_
  refine then_n ?_
  refine wp_seq ?_
  refine wp_region_lit ?_
  refine lv (d := 21) rfl rfl (by kernel_rfl) (e_move (v := .pointer (some ⟨g2, 0, none⟩)) (by kernel_rfl)) ?_
  refine lv (d := 22) rfl rfl (by kernel_rfl) (e_nilCheck (ad := ⟨g2, 0, none⟩) (by kernel_rfl)) ?_
  refine lv (d := 23) rfl rfl (by kernel_rfl) (e_fieldAddr (b := g2) (off := 0) (o := 3) Try.underlying74 rfl rfl (sz := 1) (by kernel_rfl) (by decide) (by kernel_rfl)) ?_
  obtain ⟨A15, c16, y17, q18, h19, h20, l21, h22⟩ := node_open h3
  refine lv (d := 24) rfl rfl (by kernel_rfl) (e_load1 (ad := ⟨g2, 0 + 3, none⟩) (v := .slice A15 x1.args.length c16) Try.underlying72 rfl (by kernel_rfl) (blk_cells (S13.inv _ _ h19) h20 3 _ rfl)) ?_
  obtain ⟨q23, M⟩ := chk M
  obtain ⟨b24, o25, e26⟩ := Rd.addr h22 (show 0 < x1.args.length by omega)
  obtain ⟨y27, r28, k29⟩ := Rd.at h22 e26 (getD_some (Tm.mk 0 0 [] []) (show 0 < x1.args.length by omega))
  obtain ⟨v30, rfl, h31⟩ := r28
  obtain ⟨g32, rfl⟩ := node_ptr h31
  refine lv (d := 25) rfl rfl (by kernel_rfl) (e_indexAddr (b := b24) (off := o25) (n := x1.args.length) (c := c16) (sz := 1) (i := 0) (k := .i64) Try.underlying72 e26 (by kernel_rfl) (by kernel_rfl) rfl (by omega) q23) ?_
  refine lv (d := 26) rfl rfl (by kernel_rfl) (e_load1 (ad := ⟨b24, o25 + (0 : Int).toNat * 1, none⟩) (v := .pointer (some ⟨g32, 0, none⟩)) Try.underlying38 rfl (by kernel_rfl) (hpx (S13.inv.cell (k29 0 _ rfl)))) ?_
  refine lv (d := 5) rfl rfl (by kernel_rfl) (e_assign (v := .pointer (some ⟨g32, 0, none⟩)) (by kernel_rfl)) ?_
  refine wpList_nil ?_
  refine then_n ?_
  refine wp_seq ?_
  refine wp_region_lit ?_
  refine lv (d := 6) rfl rfl (by kernel_rfl) (e_assign (v := .pointer none) rfl) ?_
  refine wpList_nil ?_
  refine then_n ?_
  refine wp_seq_cut (fun a48 w33 => ∃ (f34 : Nat → Value) (x35 : Tm) (g36 : Nat) (x38 : Option Tm) (p39 : Option Addr), a48 = mk 133 f34 ∧ f34 0 = .pointer (some ⟨g2, 0, none⟩) ∧ f34 4 = .pointer (some ⟨g11, 0, none⟩) ∧ f34 5 = .pointer (some ⟨g36, 0, none⟩) ∧ f34 6 = .pointer p39 ∧ w33.heap[g11]? = some (.cells #[.int .i64 (IntKind.i64.wrap (t4 + 1)), .int .i64 0] 78 (0, 0)) ∧ NodeR 74 H x35 (.pointer (some ⟨g36, 0, none⟩)) ∧ NodeQ 74 H x38 (.pointer p39) ∧ St (anyOf []) H w [(is g11)] H w33 ∧ impl_translated.l0 k x1 t4 x35 x38 = some r) ?_ ?_
  · refine wp_seq ?_
    refine wp_region_lit ?_
    refine lv (d := 27) rfl rfl (by kernel_rfl) (e_move (v := .pointer (some ⟨g32, 0, none⟩)) (by kernel_rfl)) ?_
    obtain ⟨t49, u50, M⟩ := bnd M
    refine lcall (d := 28) rfl rfl (by kernel_rfl) (e_call (l := [.tmp 27, .const (str ([44] : List UInt8)), .const (.int .i64 2)]) (vs := [.pointer (some ⟨g32, 0, none⟩), str ([44] : List UInt8), .int .i64 2]) Try.func33 (by kernel_rfl) rfl (by kernel_rfl) rfl) (impl_node_is.calls w10 H (x1.args.getD 0 (Tm.mk 0 0 [] [])) g32 ([44] : List UInt8) 2 h31 S13.own0 t49 u50) ?_
    rintro _ w51 ⟨rfl, C52⟩
    refine ⟨_, rfl, ?_⟩
    obtain ⟨S53, K54⟩ := S13.still C52
    replace b12 := K54.blk 0 rfl b12
    refine wpList_nil ?_
    refine then_n ?_
    by_cases q55 : t49 = true
    · replace M := ifp q55 M
      refine cond_t rfl (bvt q55 (by kernel_rfl)) ?_
      refine region_still (by kernel_rfl) (by kernel_rfl) S53 ?_
      intro w56 S57 K58
      replace b12 := K58.blk 0 rfl b12
      refine sv (d := 29) rfl rfl (by kernel_rfl) (e_move (v := .pointer (some ⟨g32, 0, none⟩)) (by kernel_rfl)) ?_
      refine sv (d := 30) rfl rfl (by kernel_rfl) (e_nilCheck (ad := ⟨g32, 0, none⟩) (by kernel_rfl)) ?_
      refine sv (d := 31) rfl rfl (by kernel_rfl) (e_fieldAddr (b := g32) (off := 0) (o := 3) Try.underlying74 rfl rfl (sz := 1) (by kernel_rfl) (by decide) (by kernel_rfl)) ?_
      obtain ⟨A59, c60, y61, q62, h63, h64, l65, h66⟩ := node_open h31
      refine sv (d := 32) rfl rfl (by kernel_rfl) (e_load1 (ad := ⟨g32, 0 + 3, none⟩) (v := .slice A59 ((x1.args.getD 0 (Tm.mk 0 0 [] [])).args).length c60) Try.underlying72 rfl (by kernel_rfl) (blk_cells (S57.inv _ _ h63) h64 3 _ rfl)) ?_
      obtain ⟨q67, M⟩ := chk M
      obtain ⟨b68, o69, e70⟩ := Rd.addr h66 (show 0 < ((x1.args.getD 0 (Tm.mk 0 0 [] [])).args).length by omega)
      obtain ⟨y71, r72, k73⟩ := Rd.at h66 e70 (getD_some (Tm.mk 0 0 [] []) (show 0 < ((x1.args.getD 0 (Tm.mk 0 0 [] [])).args).length by omega))
      obtain ⟨v74, rfl, h75⟩ := r72
      obtain ⟨g76, rfl⟩ := node_ptr h75
      refine sv (d := 33) rfl rfl (by kernel_rfl) (e_indexAddr (b := b68) (off := o69) (n := ((x1.args.getD 0 (Tm.mk 0 0 [] [])).args).length) (c := c60) (sz := 1) (i := 0) (k := .i64) Try.underlying72 e70 (by kernel_rfl) (by kernel_rfl) rfl (by omega) q67) ?_
      refine sv (d := 34) rfl rfl (by kernel_rfl) (e_load1 (ad := ⟨b68, o69 + (0 : Int).toNat * 1, none⟩) (v := .pointer (some ⟨g76, 0, none⟩)) Try.underlying38 rfl (by kernel_rfl) (hpx (S57.inv.cell (k73 0 _ rfl)))) ?_
      refine sv (d := 35) rfl rfl (by kernel_rfl) (e_move (v := .pointer (some ⟨g32, 0, none⟩)) (by kernel_rfl)) ?_
      refine sv (d := 36) rfl rfl (by kernel_rfl) (e_nilCheck (ad := ⟨g32, 0, none⟩) (by kernel_rfl)) ?_
      refine sv (d := 37) rfl rfl (by kernel_rfl) (e_fieldAddr (b := g32) (off := 0) (o := 3) Try.underlying74 rfl rfl (sz := 1) (by kernel_rfl) (by decide) (by kernel_rfl)) ?_
      refine sv (d := 38) rfl rfl (by kernel_rfl) (e_load1 (ad := ⟨g32, 0 + 3, none⟩) (v := .slice A59 ((x1.args.getD 0 (Tm.mk 0 0 [] [])).args).length c60) Try.underlying72 rfl (by kernel_rfl) (blk_cells (S57.inv _ _ h63) h64 3 _ rfl)) ?_
      obtain ⟨q77, M⟩ := chk M
      obtain ⟨b78, o79, e80⟩ := Rd.addr h66 (show 1 < ((x1.args.getD 0 (Tm.mk 0 0 [] [])).args).length by omega)
      obtain ⟨y81, r82, k83⟩ := Rd.at h66 e80 (getD_some (Tm.mk 0 0 [] []) (show 1 < ((x1.args.getD 0 (Tm.mk 0 0 [] [])).args).length by omega))
      obtain ⟨v84, rfl, h85⟩ := r82
      obtain ⟨g86, rfl⟩ := node_ptr h85
      refine sv (d := 39) rfl rfl (by kernel_rfl) (e_indexAddr (b := b78) (off := o79) (n := ((x1.args.getD 0 (Tm.mk 0 0 [] [])).args).length) (c := c60) (sz := 1) (i := 1) (k := .i64) Try.underlying72 e80 (by kernel_rfl) (by kernel_rfl) rfl (by omega) q77) ?_
      refine sv (d := 40) rfl rfl (by kernel_rfl) (e_load1 (ad := ⟨b78, o79 + (1 : Int).toNat * 1, none⟩) (v := .pointer (some ⟨g86, 0, none⟩)) Try.underlying38 rfl (by kernel_rfl) (hpx (S57.inv.cell (k83 0 _ rfl)))) ?_
      refine sv (d := 5) rfl rfl (by kernel_rfl) (e_assign (v := .pointer (some ⟨g76, 0, none⟩)) (by kernel_rfl)) ?_
      refine sv (d := 6) rfl rfl (by kernel_rfl) (e_assign (v := .pointer (some ⟨g86, 0, none⟩)) (by kernel_rfl)) ?_
      refine wpStill_nil ?_
      refine then_n ?_
      exact ⟨_, (((x1.args.getD 0 (Tm.mk 0 0 [] [])).args).getD 0 (Tm.mk 0 0 [] [])), g76, (some (((x1.args.getD 0 (Tm.mk 0 0 [] [])).args).getD 1 (Tm.mk 0 0 [] []))), (some ⟨g86, 0, none⟩), rfl, (by kernel_rfl), (by kernel_rfl), (by kernel_rfl), (by kernel_rfl), b12, h75, (NodeQ.of h85), S57, M⟩
    replace M := ifn q55 M
    refine cond_f rfl (bvf q55 (by kernel_rfl)) ?_
    refine wp_skip ?_
    refine then_n ?_
    exact ⟨_, (x1.args.getD 0 (Tm.mk 0 0 [] [])), g32, none, none, rfl, (by kernel_rfl), (by kernel_rfl), (by kernel_rfl), (by kernel_rfl), b12, h31, NodeQ.nil, S53, M⟩
  clear M
  rintro a48 w33 ⟨f34, x35, g36, x38, p39, rfl, e41, e42, e43, e44, b12, h37, h40, S45, M⟩
  rw [impl_translated.l0] at M
  refine wp_seq ?_
  refine wp_region_lit ?_
  refine lv (d := 41) rfl rfl (by kernel_rfl) (e_move (v := .pointer (some ⟨g11, 0, none⟩)) (by exact e42)) ?_
  obtain ⟨t87, u88, M⟩ := bnd M
  refine lcall (d := 42) rfl rfl (by kernel_rfl) (e_call (l := [.tmp 41]) (vs := [.pointer (some ⟨g11, 0, none⟩)]) Try.func55 (by kernel_rfl) rfl (by kernel_rfl) rfl) (impl_grammar_need.calls w33 H (⟨(IntKind.i64.wrap (t4 + 1)), 0⟩ : GL8gram) g11 b12 (St.own' (Fa := [(is g11)]) (Fr := []) S45) t87 u88) ?_
  rintro _ w89 ⟨g93, H90, rfl, b92, h94, T91⟩
  refine ⟨_, rfl, ?_⟩
  obtain ⟨S95, K96⟩ := St.call (Fa := [(is g11)]) (Fr := []) S45 T91
  have E97 := T91.ext
  refine lv (d := 43) rfl rfl (by kernel_rfl) (e_move (v := .pointer (some ⟨g11, 0, none⟩)) (by exact e42)) ?_
  obtain ⟨t98, u99, M⟩ := bnd M
  refine lcall (d := 44) rfl rfl (by kernel_rfl) (e_call (l := [.tmp 43]) (vs := [.pointer (some ⟨g11, 0, none⟩)]) Try.func55 (by kernel_rfl) rfl (by kernel_rfl) rfl) (impl_grammar_need.calls w89 H90 t87.2 g11 b92 (St.own' (Fa := [(is g11)]) (Fr := []) S95) t98 u99) ?_
  rintro _ w100 ⟨g104, H101, rfl, b103, h105, T102⟩
  refine ⟨_, rfl, ?_⟩
  obtain ⟨S106, K107⟩ := St.call (Fa := [(is g11)]) (Fr := []) S95 T102
  have E108 := T102.ext
  refine lv (d := 7) rfl rfl (by kernel_rfl) (e_assign (v := .pointer (some ⟨g93, 0, none⟩)) (by kernel_rfl)) ?_
  refine lv (d := 8) rfl rfl (by kernel_rfl) (e_assign (v := .pointer (some ⟨g104, 0, none⟩)) (by kernel_rfl)) ?_
  refine wpList_nil ?_
  refine then_n ?_
  refine wp_seq ?_
  refine wp_seq ?_
  refine wp_region_lit ?_
  refine lv (d := 45) rfl rfl (by kernel_rfl) (e_move (v := .pointer (some ⟨g36, 0, none⟩)) (by exact e43)) ?_
  refine lv (d := 46) rfl rfl (by kernel_rfl) (e_nilCheck (ad := ⟨g36, 0, none⟩) (by kernel_rfl)) ?_
  refine lv (d := 47) rfl rfl (by kernel_rfl) (e_fieldAddr (b := g36) (off := 0) (o := 0) Try.underlying74 rfl rfl (sz := 1) (by kernel_rfl) (by decide) (by kernel_rfl)) ?_
  obtain ⟨A109, c110, y111, q112, h113, h114, l115, h116⟩ := node_open h37
  refine lv (d := 48) rfl rfl (by kernel_rfl) (e_load1 (ad := ⟨g36, 0 + 0, none⟩) (v := .int .i64 x35.kind) Try.underlying3 rfl (by kernel_rfl) (blk_cells (S106.inv _ _ ((E97.trans E108) _ _ h113)) h114 0 _ rfl)) ?_
  refine lv (d := 49) rfl rfl (by kernel_rfl) (e_lss (k := .i64) (a := x35.kind) (b := 2) (by kernel_rfl) rfl) ?_
  refine lv (d := 50) rfl rfl (by kernel_rfl) (e_move (v := .bool (decide (x35.kind < 2))) (by kernel_rfl)) ?_
  by_cases q117 : x35.kind < 2
  · replace M := ifp q117 M
    refine lskip (t := 50) (c := true) rfl (by kernel_rfl) rfl (bt q117 (by kernel_rfl)) rfl rfl ?_
    refine lskip (t := 50) (c := true) rfl (by kernel_rfl) rfl (bt q117 (by kernel_rfl)) rfl rfl ?_
    refine lv (d := 53) rfl rfl (by kernel_rfl) (e_pick_t (v := .bool true) (bt q117 (by kernel_rfl)) rfl) ?_
    refine lv (d := 54) rfl rfl (by kernel_rfl) (e_move (v := .bool true) (by kernel_rfl)) ?_
    refine lskip (t := 54) (c := true) rfl (by kernel_rfl) rfl (by kernel_rfl) rfl rfl ?_
    refine lskip (t := 54) (c := true) rfl (by kernel_rfl) rfl (by kernel_rfl) rfl rfl ?_
    refine lv (d := 57) rfl rfl (by kernel_rfl) (e_pick_t (v := .bool true) (by kernel_rfl) rfl) ?_
    refine wpList_nil ?_
    refine then_n ?_
    refine cond_t rfl (by kernel_rfl) ?_
    refine wp_seq ?_
    refine wp_region_lit ?_
    refine lv (d := 2) rfl rfl (by kernel_rfl) (e_assign (v := .pointer none) rfl) ?_
    refine lv (d := 3) rfl rfl (by kernel_rfl) (e_assign (v := .int .i64 4) rfl) ?_
    refine wpList_nil ?_
    refine then_n ?_
    refine wp_ret ?_
    refine then_r ?_
    obtain rfl := Option.some.inj M
    have S118 := St.first (Fa := []) (Fr := [(is g11)]) S106
    exact ret2 rfl rfl rfl (show _ = .pointer none from (by kernel_rfl)) (show _ = .int .i64 4 from (by kernel_rfl)) ⟨none, H101, rfl, NodeQ.nil, S118⟩
  replace M := ifn q117 M
  refine lvg (d := 51) (t := 50) rfl (by kernel_rfl) rfl (bf q117 (by kernel_rfl)) rfl (by kernel_rfl) (e_move (v := .pointer (some ⟨g36, 0, none⟩)) (by exact e43)) ?_
  obtain ⟨t119, u120, M⟩ := bnd M
  refine lcallg (d := 52) (t := 50) rfl (by kernel_rfl) rfl (bf q117 (by kernel_rfl)) rfl (by kernel_rfl) (e_call (l := [.tmp 51, .const (str ([91, 93] : List UInt8)), .const (.int .i64 0)]) (vs := [.pointer (some ⟨g36, 0, none⟩), str ([91, 93] : List UInt8), .int .i64 0]) Try.func33 (by kernel_rfl) rfl (by kernel_rfl) rfl) (impl_node_is.calls w100 H101 x35 g36 ([91, 93] : List UInt8) 0 (h37.ext' (E97.trans E108)) S106.own0 t119 u120) ?_
  rintro _ w121 ⟨rfl, C122⟩
  refine ⟨_, rfl, ?_⟩
  obtain ⟨S123, K124⟩ := S106.still C122
  replace b103 := K124.blk 0 rfl b103
  refine lv (d := 53) rfl rfl (by kernel_rfl) (e_pick_f (v := .bool t119) (bf q117 (by kernel_rfl)) (by kernel_rfl)) ?_
  refine lv (d := 54) rfl rfl (by kernel_rfl) (e_move (v := .bool t119) (by kernel_rfl)) ?_
  by_cases q125 : t119 = true
  · replace M := ifp q125 M
    refine lskip (t := 54) (c := true) rfl (by kernel_rfl) rfl (bvt q125 (by kernel_rfl)) rfl rfl ?_
    refine lskip (t := 54) (c := true) rfl (by kernel_rfl) rfl (bvt q125 (by kernel_rfl)) rfl rfl ?_
    refine lv (d := 57) rfl rfl (by kernel_rfl) (e_pick_t (v := .bool true) (bvt q125 (by kernel_rfl)) rfl) ?_
    refine wpList_nil ?_
    refine then_n ?_
    refine cond_t rfl (by kernel_rfl) ?_
    refine wp_seq ?_
    refine wp_region_lit ?_
    refine lv (d := 2) rfl rfl (by kernel_rfl) (e_assign (v := .pointer none) rfl) ?_
    refine lv (d := 3) rfl rfl (by kernel_rfl) (e_assign (v := .int .i64 4) rfl) ?_
    refine wpList_nil ?_
    refine then_n ?_
    refine wp_ret ?_
    refine then_r ?_
    obtain rfl := Option.some.inj M
    have S126 := St.first (Fa := []) (Fr := [(is g11)]) S123
    exact ret2 rfl rfl rfl (show _ = .pointer none from (by kernel_rfl)) (show _ = .int .i64 4 from (by kernel_rfl)) ⟨none, H101, rfl, NodeQ.nil, S126⟩
  replace M := ifn q125 M
  refine lvg (d := 55) (t := 54) rfl (by kernel_rfl) rfl (bvf q125 (by kernel_rfl)) rfl (by kernel_rfl) (e_move (v := .pointer (some ⟨g36, 0, none⟩)) (by exact e43)) ?_
  obtain ⟨t127, u128, M⟩ := bnd M
  refine lcallg (d := 56) (t := 54) rfl (by kernel_rfl) rfl (bvf q125 (by kernel_rfl)) rfl (by kernel_rfl) (e_call (l := [.tmp 55, .const (str ([46] : List UInt8)), .const (.int .i64 2)]) (vs := [.pointer (some ⟨g36, 0, none⟩), str ([46] : List UInt8), .int .i64 2]) Try.func33 (by kernel_rfl) rfl (by kernel_rfl) rfl) (impl_node_is.calls w121 H101 x35 g36 ([46] : List UInt8) 2 (h37.ext' (E97.trans E108)) S123.own0 t127 u128) ?_
  rintro _ w129 ⟨rfl, C130⟩
  refine ⟨_, rfl, ?_⟩
  obtain ⟨S131, K132⟩ := S123.still C130
  replace b103 := K132.blk 0 rfl b103
  refine lv (d := 57) rfl rfl (by kernel_rfl) (e_pick_f (v := .bool t127) (bvf q125 (by kernel_rfl)) (by kernel_rfl)) ?_
  refine wpList_nil ?_
  refine then_n ?_
  by_cases q133 : t127 = true
  · replace M := ifp q133 M
    refine cond_t rfl (bvt q133 (by kernel_rfl)) ?_
    refine wp_seq ?_
    refine wp_region_lit ?_
    refine lv (d := 2) rfl rfl (by kernel_rfl) (e_assign (v := .pointer none) rfl) ?_
    refine lv (d := 3) rfl rfl (by kernel_rfl) (e_assign (v := .int .i64 4) rfl) ?_
    refine wpList_nil ?_
    refine then_n ?_
    refine wp_ret ?_
    refine then_r ?_
    obtain rfl := Option.some.inj M
    have S134 := St.first (Fa := []) (Fr := [(is g11)]) S131
    exact ret2 rfl rfl rfl (show _ = .pointer none from (by kernel_rfl)) (show _ = .int .i64 4 from (by kernel_rfl)) ⟨none, H101, rfl, NodeQ.nil, S134⟩
  replace M := ifn q133 M
  refine cond_f rfl (bvf q133 (by kernel_rfl)) ?_
  refine wp_skip ?_
  refine then_n ?_
  refine wp_seq ?_
  refine wp_region_lit ?_
  refine lv (d := 58) rfl rfl (by kernel_rfl) (e_move (v := .pointer (some ⟨g11, 0, none⟩)) (by exact e42)) ?_
  refine lv (d := 59) rfl rfl (by kernel_rfl) (e_move (v := .pointer (some ⟨g36, 0, none⟩)) (by exact e43)) ?_
  refine lv (d := 60) rfl rfl (by kernel_rfl) (e_move (v := .pointer (some ⟨g93, 0, none⟩)) (by kernel_rfl)) ?_
  refine lv (d := 61) rfl rfl (by kernel_rfl) (e_move (v := .pointer (some ⟨g104, 0, none⟩)) (by kernel_rfl)) ?_
  obtain ⟨t135, u136, M⟩ := bnd M
  refine lcall (d := 62) rfl rfl (by kernel_rfl) (e_call (l := [.tmp 58, .tmp 59, .tmp 60, .tmp 61]) (vs := [.pointer (some ⟨g11, 0, none⟩), .pointer (some ⟨g36, 0, none⟩), .pointer (some ⟨g93, 0, none⟩), .pointer (some ⟨g104, 0, none⟩)]) Try.func56 (by kernel_rfl) rfl (by kernel_rfl) rfl) (impl_grammar_more.calls w129 H101 t98.2 g11 x35 g36 t87.1 g93 t98.1 g104 b103 (h37.ext' (E97.trans E108)) (h94.ext' E108) h105 (St.own' (Fa := [(is g11)]) (Fr := []) S131) t135 u136) ?_
  rintro _ w137 ⟨g141, H138, rfl, b140, h142, T139⟩
  refine ⟨_, rfl, ?_⟩
  obtain ⟨S143, K144⟩ := St.call (Fa := [(is g11)]) (Fr := []) S131 T139
  have E145 := T139.ext
  refine lv (d := 9) rfl rfl (by kernel_rfl) (e_assign (v := .pointer (some ⟨g141, 0, none⟩)) (by kernel_rfl)) ?_
  refine wpList_nil ?_
  refine then_n ?_
  refine wp_seq ?_
  refine wp_region_lit ?_
  refine lv (d := 10) rfl rfl (by kernel_rfl) (e_assign (v := .pointer none) rfl) ?_
  refine wpList_nil ?_
  refine then_n ?_
  refine wp_seq_cut (fun a161 w146 => ∃ (f147 : Nat → Value) (H148 : Hp) (x150 : Option Tm) (p151 : Option Addr) (x153 : Int) (x154 : Int), a161 = mk 133 f147 ∧ f147 4 = .pointer (some ⟨g11, 0, none⟩) ∧ f147 9 = .pointer (some ⟨g141, 0, none⟩) ∧ f147 10 = .pointer p151 ∧ w146.heap[g11]? = some (.cells #[.int .i64 x153, .int .i64 x154] 78 (0, 0)) ∧ NodeQ 74 H148 x150 (.pointer p151) ∧ Ext H138 H148 ∧ St (anyOf []) H w [(is g11)] H148 w146 ∧ impl_translated.l1 k t135 x150 x153 x154 = some r) ?_ ?_
  · refine wp_seq ?_
    refine wp_region_lit ?_
    refine lv (d := 63) rfl rfl (by kernel_rfl) (e_move (v := .pointer p39) (by exact e44)) ?_
    refine lv (d := 64) rfl rfl (by kernel_rfl) (e_qeql (p := p39) h40 Try.underlying38 (by kernel_rfl) rfl) ?_
    refine wpList_nil ?_
    refine then_n ?_
    by_cases q162 : ¬ (x38.isSome = true)
    · replace M := ifp q162 M
      refine cond_t rfl (bt q162 (by kernel_rfl)) ?_
      refine wp_region_lit ?_
      refine lv (d := 65) rfl rfl (by kernel_rfl) (e_move (v := .pointer (some ⟨g11, 0, none⟩)) (by exact e42)) ?_
      refine lv (d := 66) rfl rfl (by kernel_rfl) (e_move (v := .pointer (some ⟨g2, 0, none⟩)) (by exact e41)) ?_
      refine lv (d := 67) rfl rfl (by kernel_rfl) (e_nilCheck (ad := ⟨g2, 0, none⟩) (by kernel_rfl)) ?_
      refine lv (d := 68) rfl rfl (by kernel_rfl) (e_fieldAddr (b := g2) (off := 0) (o := 3) Try.underlying74 rfl rfl (sz := 1) (by kernel_rfl) (by decide) (by kernel_rfl)) ?_
      refine lv (d := 69) rfl rfl (by kernel_rfl) (e_load1 (ad := ⟨g2, 0 + 3, none⟩) (v := .slice A15 x1.args.length c16) Try.underlying72 rfl (by kernel_rfl) (blk_cells (S143.inv _ _ (((E97.trans E108).trans E145) _ _ h19)) h20 3 _ rfl)) ?_
      obtain ⟨q163, M⟩ := chk M
      obtain ⟨b164, o165, e166⟩ := Rd.addr h22 (show 1 < x1.args.length by omega)
      obtain ⟨y167, r168, k169⟩ := Rd.at h22 e166 (getD_some (Tm.mk 0 0 [] []) (show 1 < x1.args.length by omega))
      obtain ⟨v170, rfl, h171⟩ := r168
      obtain ⟨g172, rfl⟩ := node_ptr h171
      refine lv (d := 70) rfl rfl (by kernel_rfl) (e_indexAddr (b := b164) (off := o165) (n := x1.args.length) (c := c16) (sz := 1) (i := 1) (k := .i64) Try.underlying72 e166 (by kernel_rfl) (by kernel_rfl) rfl (by omega) q163) ?_
      refine lv (d := 71) rfl rfl (by kernel_rfl) (e_load1 (ad := ⟨b164, o165 + (1 : Int).toNat * 1, none⟩) (v := .pointer (some ⟨g172, 0, none⟩)) Try.underlying38 rfl (by kernel_rfl) (hpx (S143.inv.cell (((E97.trans E108).trans E145).cell (k169 0 _ rfl))))) ?_
      refine lv (d := 72) rfl rfl (by kernel_rfl) (e_move (v := .pointer (some ⟨g93, 0, none⟩)) (by kernel_rfl)) ?_
      refine lv (d := 73) rfl rfl (by kernel_rfl) (e_move (v := .pointer (some ⟨g104, 0, none⟩)) (by kernel_rfl)) ?_
      obtain ⟨t173, u174, M⟩ := bnd M
      refine lcall (d := 74) rfl rfl (by kernel_rfl) (e_call (l := [.tmp 65, .tmp 71, .tmp 72, .tmp 73]) (vs := [.pointer (some ⟨g11, 0, none⟩), .pointer (some ⟨g172, 0, none⟩), .pointer (some ⟨g93, 0, none⟩), .pointer (some ⟨g104, 0, none⟩)]) Try.func57 (by kernel_rfl) rfl (by kernel_rfl) rfl) (impl_grammar_body.calls k w137 H138 t135.2 g11 (x1.args.getD 1 (Tm.mk 0 0 [] [])) g172 t87.1 g93 t98.1 g104 b140 (h171.ext' ((E97.trans E108).trans E145)) (h94.ext' (E108.trans E145)) (h105.ext' E145) (St.own' (Fa := [(is g11)]) (Fr := []) S143) t173 u174) ?_
      rintro _ w175 ⟨g179, H176, rfl, b178, h180, T177⟩
      refine ⟨_, rfl, ?_⟩
      obtain ⟨S181, K182⟩ := St.call (Fa := [(is g11)]) (Fr := []) S143 T177
      have E183 := T177.ext
      refine lv (d := 10) rfl rfl (by kernel_rfl) (e_assign (v := .pointer (some ⟨g179, 0, none⟩)) (by kernel_rfl)) ?_
      refine wpList_nil ?_
      refine then_n ?_
      exact ⟨_, H176, (some t173.1), (some ⟨g179, 0, none⟩), t173.2.next_, t173.2.code_, rfl, (by exact e42), (by kernel_rfl), (by kernel_rfl), b178, (NodeQ.of h180), E183, S181, M⟩
    replace M := ifn q162 M
    refine cond_f rfl (bf q162 (by kernel_rfl)) ?_
    refine wp_seq ?_
    refine wp_region_lit ?_
    refine lv (d := 75) rfl rfl (by kernel_rfl) (e_move (v := .pointer (some ⟨g11, 0, none⟩)) (by exact e42)) ?_
    obtain ⟨t184, u185, M⟩ := bnd M
    refine lcall (d := 76) rfl rfl (by kernel_rfl) (e_call (l := [.tmp 75]) (vs := [.pointer (some ⟨g11, 0, none⟩)]) Try.func55 (by kernel_rfl) rfl (by kernel_rfl) rfl) (impl_grammar_need.calls w137 H138 t135.2 g11 b140 (St.own' (Fa := [(is g11)]) (Fr := []) S143) t184 u185) ?_
    rintro _ w186 ⟨g190, H187, rfl, b189, h191, T188⟩
    refine ⟨_, rfl, ?_⟩
    obtain ⟨S192, K193⟩ := St.call (Fa := [(is g11)]) (Fr := []) S143 T188
    have E194 := T188.ext
    refine lv (d := 11) rfl rfl (by kernel_rfl) (e_assign (v := .pointer (some ⟨g190, 0, none⟩)) (by kernel_rfl)) ?_
    refine wpList_nil ?_
    refine then_n ?_
    refine wp_seq ?_
    refine wp_region_lit ?_
    refine lv (d := 78) rfl rfl (by kernel_rfl) (e_move (v := .pointer p39) (by exact e44)) ?_
    obtain ⟨g195, e196, h197⟩ := NodeQ.get h40 (Decidable.not_not.1 q162) (Tm.mk 0 0 [] [])
    subst e196
    obtain ⟨t198, u199, M⟩ := bnd M
    refine lcall (d := 79) rfl rfl (by kernel_rfl) (e_call (l := [.tmp 78]) (vs := [.pointer (some ⟨g195, 0, none⟩)]) Try.func58 (by kernel_rfl) rfl (by kernel_rfl) rfl) (impl_itemsOf.calls k w186 H187 (x38.getD (Tm.mk 0 0 [] [])) g195 (h197.ext' (((E97.trans E108).trans E145).trans E194)) (St.own' (Fa := []) (Fr := [(is g11)]) S192) t198 u199) ?_
    rintro _ w200 ⟨A203, c204, F206, g207, H201, rfl, h205, h208, T202⟩
    refine ⟨_, rfl, ?_⟩
    obtain ⟨S209, K210⟩ := St.call (Fa := []) (Fr := [(is g11)]) S192 T202
    replace b189 := K210.blk 0 rfl b189
    have E211 := T202.ext
    refine lv (d := 77) rfl rfl (by kernel_rfl) (e_move (v := .tuple #[.slice A203 t198.1.length c204, .pointer (some ⟨g207, 0, none⟩)]) (by kernel_rfl)) ?_
    refine lv (d := 80) rfl rfl (by kernel_rfl) (e_extract (vs := #[.slice A203 t198.1.length c204, .pointer (some ⟨g207, 0, none⟩)]) (v := .slice A203 t198.1.length c204) (by kernel_rfl) rfl) ?_
    refine lv (d := 81) rfl rfl (by kernel_rfl) (e_extract (vs := #[.slice A203 t198.1.length c204, .pointer (some ⟨g207, 0, none⟩)]) (v := .pointer (some ⟨g207, 0, none⟩)) (by kernel_rfl) rfl) ?_
    refine lv (d := 12) rfl rfl (by kernel_rfl) (e_assign (v := .slice A203 t198.1.length c204) (by kernel_rfl)) ?_
    refine lv (d := 13) rfl rfl (by kernel_rfl) (e_assign (v := .pointer (some ⟨g207, 0, none⟩)) (by kernel_rfl)) ?_
    refine wpList_nil ?_
    refine then_n ?_
    refine wp_seq ?_
    refine wp_region_lit ?_
    refine lv (d := 82) rfl rfl (by kernel_rfl) (e_move (v := .pointer (some ⟨g11, 0, none⟩)) (by exact e42)) ?_
    refine lv (d := 83) rfl rfl (by kernel_rfl) (e_move (v := .pointer (some ⟨g2, 0, none⟩)) (by exact e41)) ?_
    refine lv (d := 84) rfl rfl (by kernel_rfl) (e_nilCheck (ad := ⟨g2, 0, none⟩) (by kernel_rfl)) ?_
    refine lv (d := 85) rfl rfl (by kernel_rfl) (e_fieldAddr (b := g2) (off := 0) (o := 3) Try.underlying74 rfl rfl (sz := 1) (by kernel_rfl) (by decide) (by kernel_rfl)) ?_
    refine lv (d := 86) rfl rfl (by kernel_rfl) (e_load1 (ad := ⟨g2, 0 + 3, none⟩) (v := .slice A15 x1.args.length c16) Try.underlying72 rfl (by kernel_rfl) (blk_cells (S209.inv _ _ (((((E97.trans E108).trans E145).trans E194).trans E211) _ _ h19)) h20 3 _ rfl)) ?_
    obtain ⟨q212, M⟩ := chk M
    obtain ⟨b213, o214, e215⟩ := Rd.addr h22 (show 1 < x1.args.length by omega)
    obtain ⟨y216, r217, k218⟩ := Rd.at h22 e215 (getD_some (Tm.mk 0 0 [] []) (show 1 < x1.args.length by omega))
    obtain ⟨v219, rfl, h220⟩ := r217
    obtain ⟨g221, rfl⟩ := node_ptr h220
    refine lv (d := 87) rfl rfl (by kernel_rfl) (e_indexAddr (b := b213) (off := o214) (n := x1.args.length) (c := c16) (sz := 1) (i := 1) (k := .i64) Try.underlying72 e215 (by kernel_rfl) (by kernel_rfl) rfl (by omega) q212) ?_
    refine lv (d := 88) rfl rfl (by kernel_rfl) (e_load1 (ad := ⟨b213, o214 + (1 : Int).toNat * 1, none⟩) (v := .pointer (some ⟨g221, 0, none⟩)) Try.underlying38 rfl (by kernel_rfl) (hpx (S209.inv.cell (((((E97.trans E108).trans E145).trans E194).trans E211).cell (k218 0 _ rfl))))) ?_
    refine lv (d := 89) rfl rfl (by kernel_rfl) (e_move (v := .pointer (some ⟨g93, 0, none⟩)) (by kernel_rfl)) ?_
    refine lv (d := 90) rfl rfl (by kernel_rfl) (e_move (v := .pointer (some ⟨g190, 0, none⟩)) (by kernel_rfl)) ?_
    have S222 := S209.pull (F := (is g11)) (Fr := [F206]) 1 rfl rfl
    obtain ⟨t223, u224, M⟩ := bnd M
    refine lcall (d := 91) rfl rfl (by kernel_rfl) (e_call (l := [.tmp 82, .tmp 88, .tmp 89, .tmp 90]) (vs := [.pointer (some ⟨g11, 0, none⟩), .pointer (some ⟨g221, 0, none⟩), .pointer (some ⟨g93, 0, none⟩), .pointer (some ⟨g190, 0, none⟩)]) Try.func57 (by kernel_rfl) rfl (by kernel_rfl) rfl) (impl_grammar_body.calls k w200 H201 t184.2 g11 (x1.args.getD 1 (Tm.mk 0 0 [] [])) g221 t87.1 g93 t184.1 g190 b189 (h220.ext' ((((E97.trans E108).trans E145).trans E194).trans E211)) (h94.ext' (((E108.trans E145).trans E194).trans E211)) (h191.ext' E211) (St.own' (Fa := [(is g11)]) (Fr := [F206]) S222) t223 u224) ?_
    rintro _ w225 ⟨g229, H226, rfl, b228, h230, T227⟩
    refine ⟨_, rfl, ?_⟩
    obtain ⟨S231, K232⟩ := St.call (Fa := [(is g11)]) (Fr := [F206]) S222 T227
    replace h205 := h205.move (K232.at 0 rfl)
    have E233 := T227.ext
    replace h205 := h205.ext E233
    refine lv (d := 14) rfl rfl (by kernel_rfl) (e_assign (v := .pointer (some ⟨g229, 0, none⟩)) (by kernel_rfl)) ?_
    refine wpList_nil ?_
    refine then_n ?_
    refine wp_seq ?_
    refine wp_seq ?_
    refine wp_region_lit ?_
    refine lv (d := 92) rfl rfl (by kernel_rfl) (e_move (v := .pointer (some ⟨g207, 0, none⟩)) (by kernel_rfl)) ?_
    obtain ⟨t234, u235, M⟩ := bnd M
    refine lcall (d := 93) rfl rfl (by kernel_rfl) (e_call (l := [.tmp 92, .const (str ([91, 93] : List UInt8)), .const (.int .i64 0)]) (vs := [.pointer (some ⟨g207, 0, none⟩), str ([91, 93] : List UInt8), .int .i64 0]) Try.func33 (by kernel_rfl) rfl (by kernel_rfl) rfl) (impl_node_is.calls w225 H226 t198.2 g207 ([91, 93] : List UInt8) 0 (h208.ext' E233) S231.own0 t234 u235) ?_
    rintro _ w236 ⟨rfl, C237⟩
    refine ⟨_, rfl, ?_⟩
    obtain ⟨S238, K239⟩ := S231.still C237
    replace b228 := K239.blk 0 rfl b228
    replace h205 := h205.move (K239.at 1 rfl)
    refine lv (d := 94) rfl rfl (by kernel_rfl) (e_notv (c := t234) (by kernel_rfl)) ?_
    refine wpList_nil ?_
    refine then_n ?_
    by_cases q240 : ¬ (t234 = true)
    · replace M := ifp q240 M
      refine cond_t rfl (bt q240 (by kernel_rfl)) ?_
      refine wp_region_lit ?_
      refine lv (d := 95) rfl rfl (by kernel_rfl) (e_move (v := .pointer (some ⟨g11, 0, none⟩)) (by exact e42)) ?_
      obtain ⟨t241, u242, M⟩ := bnd M
      refine lcall (d := 96) rfl rfl (by kernel_rfl) (e_call (l := [.tmp 95, .const (.int .i64 4)]) (vs := [.pointer (some ⟨g11, 0, none⟩), .int .i64 4]) Try.func59 (by kernel_rfl) rfl (by kernel_rfl) rfl) (impl_grammar_fault.calls w236 H226 t223.2 g11 4 b228 (St.own' (Fa := [(is g11)]) (Fr := [F206]) S238) t241 u242) ?_
      rintro _ w243 ⟨H244, rfl, b246, T245⟩
      refine ⟨_, rfl, ?_⟩
      obtain ⟨S247, K248⟩ := St.call (Fa := [(is g11)]) (Fr := [F206]) S238 T245
      replace h205 := h205.move (K248.at 0 rfl)
      have E249 := T245.ext
      replace h205 := h205.ext E249
      refine wpList_nil ?_
      refine then_n ?_
      refine wp_region_lit ?_
      refine lv (d := 97) rfl rfl (by kernel_rfl) (e_move (v := .pointer (some ⟨g229, 0, none⟩)) (by kernel_rfl)) ?_
      refine lv (d := 98) rfl rfl (by kernel_rfl) (e_move (v := .pointer (some ⟨g104, 0, none⟩)) (by kernel_rfl)) ?_
      refine lv (d := 99) rfl rfl (by kernel_rfl) (e_move (v := .slice A203 t198.1.length c204) (by kernel_rfl)) ?_
      refine lv (d := 100) rfl rfl (by kernel_rfl) (e_move (v := .pointer (some ⟨g190, 0, none⟩)) (by kernel_rfl)) ?_
      have l250 := h205.le
      have S251 := S247.pull (F := F206) (Fr := [(is g11)]) 1 rfl rfl
      obtain ⟨H252, S253, E254, h255, z256⟩ := S251.frzRow h205
      obtain ⟨t257, u258, M⟩ := bnd M
      refine lcall (d := 101) rfl rfl (by kernel_rfl) (e_call (l := [.tmp 99, .tmp 100]) (vs := [.slice A203 t198.1.length c204, .pointer (some ⟨g190, 0, none⟩)]) Try.func61 (by kernel_rfl) rfl (by kernel_rfl) rfl) (impl_listOf.calls k w243 H252 t198.1 A203 c204 t184.1 g190 h255 l250 (h191.ext' (((E211.trans E233).trans E249).trans E254)) (St.own' (Fa := []) (Fr := [(is g11)]) S253) t257 u258) ?_
      rintro _ w259 ⟨g262, H260, rfl, h263, T261⟩
      refine ⟨_, rfl, ?_⟩
      obtain ⟨S264, K265⟩ := St.call (Fa := []) (Fr := [(is g11)]) S253 T261
      replace b246 := K265.blk 0 rfl b246
      have E266 := T261.ext
      refine lve (d := 102) rfl rfl (by kernel_rfl) (new_blk (v := fun g_ => .slice (some ⟨g_, 0, none⟩) 2 2) (cs := #[.pointer (some ⟨g104, 0, none⟩), .pointer (some ⟨g262, 0, none⟩)]) (t := 38) S264 (by kernel_rfl)) ?_
      rintro _ w267 ⟨g268, rfl, b269, S270, K271⟩
      replace b246 := K271.blk 0 rfl b246
      have S272 := S270.unit
      have S273 := S272.pull (F := (is g268)) (Fr := [no, (is g11)]) 1 rfl rfl
      obtain ⟨h274, S275⟩ := row_lit (d := (node 74)) (xs := [t98.1, t257]) S273 b269 rfl (elsO_no (d := (node 74)) ⟨_, rfl, (h105.ext' ((((((E145.trans E194).trans E211).trans E233).trans E249).trans E254).trans E266))⟩ (elsO_no (d := (node 74)) ⟨_, rfl, h263⟩ (elsO_nil _ _ _ no))) (Nat.le_of_ble_eq_true rfl)
      have l276 := h274.le
      obtain ⟨H277, S278, E279, h280, z281⟩ := S275.frzRow h274
      obtain ⟨t282, u283, M⟩ := bnd M
      refine lcall (d := 103) rfl rfl (by kernel_rfl) (e_call (l := [.const (str ([61] : List UInt8)), .tmp 102]) (vs := [str ([61] : List UInt8), .slice (some ⟨g268, 0, none⟩) 2 2]) Try.func60 (by kernel_rfl) rfl (by kernel_rfl) rfl) (impl_comp.calls w267 H277 ([61] : List UInt8) [t98.1, t257] (some ⟨g268, 0, none⟩) 2 h280 l276 (St.own' (Fa := []) (Fr := [(is g11)]) S278) t282 u283) ?_
      rintro _ w284 ⟨g287, H285, rfl, h288, T286⟩
      refine ⟨_, rfl, ?_⟩
      obtain ⟨S289, K290⟩ := St.call (Fa := []) (Fr := [(is g11)]) S278 T286
      replace b246 := K290.blk 0 rfl b246
      have E291 := T286.ext
      refine lve (d := 104) rfl rfl (by kernel_rfl) (new_blk (v := fun g_ => .slice (some ⟨g_, 0, none⟩) 2 2) (cs := #[.pointer (some ⟨g229, 0, none⟩), .pointer (some ⟨g287, 0, none⟩)]) (t := 38) S289 (by kernel_rfl)) ?_
      rintro _ w292 ⟨g293, rfl, b294, S295, K296⟩
      replace b246 := K296.blk 0 rfl b246
      have S297 := S295.unit
      have S298 := S297.pull (F := (is g293)) (Fr := [no, (is g11)]) 1 rfl rfl
      obtain ⟨h299, S300⟩ := row_lit (d := (node 74)) (xs := [t223.1, t282]) S298 b294 rfl (elsO_no (d := (node 74)) ⟨_, rfl, (h230.ext' ((((E249.trans E254).trans E266).trans E279).trans E291))⟩ (elsO_no (d := (node 74)) ⟨_, rfl, h288⟩ (elsO_nil _ _ _ no))) (Nat.le_of_ble_eq_true rfl)
      have l301 := h299.le
      obtain ⟨H302, S303, E304, h305, z306⟩ := S300.frzRow h299
      obtain ⟨t307, u308, M⟩ := bnd M
      refine lcall (d := 105) rfl rfl (by kernel_rfl) (e_call (l := [.const (str ([44] : List UInt8)), .tmp 104]) (vs := [str ([44] : List UInt8), .slice (some ⟨g293, 0, none⟩) 2 2]) Try.func60 (by kernel_rfl) rfl (by kernel_rfl) rfl) (impl_comp.calls w292 H302 ([44] : List UInt8) [t223.1, t282] (some ⟨g293, 0, none⟩) 2 h305 l301 (St.own' (Fa := []) (Fr := [(is g11)]) S303) t307 u308) ?_
      rintro _ w309 ⟨g312, H310, rfl, h313, T311⟩
      refine ⟨_, rfl, ?_⟩
      obtain ⟨S314, K315⟩ := St.call (Fa := []) (Fr := [(is g11)]) S303 T311
      replace b246 := K315.blk 0 rfl b246
      have E316 := T311.ext
      refine lv (d := 10) rfl rfl (by kernel_rfl) (e_assign (v := .pointer (some ⟨g312, 0, none⟩)) (by kernel_rfl)) ?_
      refine wpList_nil ?_
      refine then_n ?_
      exact ⟨_, H310, (some t307), (some ⟨g312, 0, none⟩), t241.next_, t241.code_, rfl, (by exact e42), (by kernel_rfl), (by kernel_rfl), b246, (NodeQ.of h313), (((((((((E194.trans E211).trans E233).trans E249).trans E254).trans E266).trans E279).trans E291).trans E304).trans E316), S314, M⟩
    replace M := ifn q240 M
    refine cond_f rfl (bf q240 (by kernel_rfl)) ?_
    refine wp_skip ?_
    refine then_n ?_
    refine wp_region_lit ?_
    refine lv (d := 97) rfl rfl (by kernel_rfl) (e_move (v := .pointer (some ⟨g229, 0, none⟩)) (by kernel_rfl)) ?_
    refine lv (d := 98) rfl rfl (by kernel_rfl) (e_move (v := .pointer (some ⟨g104, 0, none⟩)) (by kernel_rfl)) ?_
    refine lv (d := 99) rfl rfl (by kernel_rfl) (e_move (v := .slice A203 t198.1.length c204) (by kernel_rfl)) ?_
    refine lv (d := 100) rfl rfl (by kernel_rfl) (e_move (v := .pointer (some ⟨g190, 0, none⟩)) (by kernel_rfl)) ?_
    have l317 := h205.le
    have S318 := S238.pull (F := F206) (Fr := [(is g11)]) 1 rfl rfl
    obtain ⟨H319, S320, E321, h322, z323⟩ := S318.frzRow h205
    obtain ⟨t324, u325, M⟩ := bnd M
    refine lcall (d := 101) rfl rfl (by kernel_rfl) (e_call (l := [.tmp 99, .tmp 100]) (vs := [.slice A203 t198.1.length c204, .pointer (some ⟨g190, 0, none⟩)]) Try.func61 (by kernel_rfl) rfl (by kernel_rfl) rfl) (impl_listOf.calls k w236 H319 t198.1 A203 c204 t184.1 g190 h322 l317 (h191.ext' ((E211.trans E233).trans E321)) (St.own' (Fa := []) (Fr := [(is g11)]) S320) t324 u325) ?_
    rintro _ w326 ⟨g329, H327, rfl, h330, T328⟩
    refine ⟨_, rfl, ?_⟩
    obtain ⟨S331, K332⟩ := St.call (Fa := []) (Fr := [(is g11)]) S320 T328
    replace b228 := K332.blk 0 rfl b228
    have E333 := T328.ext
    refine lve (d := 102) rfl rfl (by kernel_rfl) (new_blk (v := fun g_ => .slice (some ⟨g_, 0, none⟩) 2 2) (cs := #[.pointer (some ⟨g104, 0, none⟩), .pointer (some ⟨g329, 0, none⟩)]) (t := 38) S331 (by kernel_rfl)) ?_
    rintro _ w334 ⟨g335, rfl, b336, S337, K338⟩
    replace b228 := K338.blk 0 rfl b228
    have S339 := S337.unit
    have S340 := S339.pull (F := (is g335)) (Fr := [no, (is g11)]) 1 rfl rfl
    obtain ⟨h341, S342⟩ := row_lit (d := (node 74)) (xs := [t98.1, t324]) S340 b336 rfl (elsO_no (d := (node 74)) ⟨_, rfl, (h105.ext' (((((E145.trans E194).trans E211).trans E233).trans E321).trans E333))⟩ (elsO_no (d := (node 74)) ⟨_, rfl, h330⟩ (elsO_nil _ _ _ no))) (Nat.le_of_ble_eq_true rfl)
    have l343 := h341.le
    obtain ⟨H344, S345, E346, h347, z348⟩ := S342.frzRow h341
    obtain ⟨t349, u350, M⟩ := bnd M
    refine lcall (d := 103) rfl rfl (by kernel_rfl) (e_call (l := [.const (str ([61] : List UInt8)), .tmp 102]) (vs := [str ([61] : List UInt8), .slice (some ⟨g335, 0, none⟩) 2 2]) Try.func60 (by kernel_rfl) rfl (by kernel_rfl) rfl) (impl_comp.calls w334 H344 ([61] : List UInt8) [t98.1, t324] (some ⟨g335, 0, none⟩) 2 h347 l343 (St.own' (Fa := []) (Fr := [(is g11)]) S345) t349 u350) ?_
    rintro _ w351 ⟨g354, H352, rfl, h355, T353⟩
    refine ⟨_, rfl, ?_⟩
    obtain ⟨S356, K357⟩ := St.call (Fa := []) (Fr := [(is g11)]) S345 T353
    replace b228 := K357.blk 0 rfl b228
    have E358 := T353.ext
    refine lve (d := 104) rfl rfl (by kernel_rfl) (new_blk (v := fun g_ => .slice (some ⟨g_, 0, none⟩) 2 2) (cs := #[.pointer (some ⟨g229, 0, none⟩), .pointer (some ⟨g354, 0, none⟩)]) (t := 38) S356 (by kernel_rfl)) ?_
    rintro _ w359 ⟨g360, rfl, b361, S362, K363⟩
    replace b228 := K363.blk 0 rfl b228
    have S364 := S362.unit
    have S365 := S364.pull (F := (is g360)) (Fr := [no, (is g11)]) 1 rfl rfl
    obtain ⟨h366, S367⟩ := row_lit (d := (node 74)) (xs := [t223.1, t349]) S365 b361 rfl (elsO_no (d := (node 74)) ⟨_, rfl, (h230.ext' (((E321.trans E333).trans E346).trans E358))⟩ (elsO_no (d := (node 74)) ⟨_, rfl, h355⟩ (elsO_nil _ _ _ no))) (Nat.le_of_ble_eq_true rfl)
    have l368 := h366.le
    obtain ⟨H369, S370, E371, h372, z373⟩ := S367.frzRow h366
    obtain ⟨t374, u375, M⟩ := bnd M
    refine lcall (d := 105) rfl rfl (by kernel_rfl) (e_call (l := [.const (str ([44] : List UInt8)), .tmp 104]) (vs := [str ([44] : List UInt8), .slice (some ⟨g360, 0, none⟩) 2 2]) Try.func60 (by kernel_rfl) rfl (by kernel_rfl) rfl) (impl_comp.calls w359 H369 ([44] : List UInt8) [t223.1, t349] (some ⟨g360, 0, none⟩) 2 h372 l368 (St.own' (Fa := []) (Fr := [(is g11)]) S370) t374 u375) ?_
    rintro _ w376 ⟨g379, H377, rfl, h380, T378⟩
    refine ⟨_, rfl, ?_⟩
    obtain ⟨S381, K382⟩ := St.call (Fa := []) (Fr := [(is g11)]) S370 T378
    replace b228 := K382.blk 0 rfl b228
    have E383 := T378.ext
    refine lv (d := 10) rfl rfl (by kernel_rfl) (e_assign (v := .pointer (some ⟨g379, 0, none⟩)) (by kernel_rfl)) ?_
    refine wpList_nil ?_
    refine then_n ?_
    exact ⟨_, H377, (some t374), (some ⟨g379, 0, none⟩), t223.2.next_, t223.2.code_, rfl, (by exact e42), (by kernel_rfl), (by kernel_rfl), b228, (NodeQ.of h380), ((((((((E194.trans E211).trans E233).trans E321).trans E333).trans E346).trans E358).trans E371).trans E383), S381, M⟩
  clear M
  rintro a161 w146 ⟨f147, H148, x150, p151, x153, x154, rfl, e155, e156, e157, b140, h152, Y149, S158, M⟩
  rw [impl_translated.l1] at M
  refine wp_seq ?_
  refine wp_region_lit ?_
  refine lv (d := 106) rfl rfl (by kernel_rfl) (e_move (v := .pointer (some ⟨g141, 0, none⟩)) (by exact e156)) ?_
  refine lv (d := 107) rfl rfl (by kernel_rfl) (e_move (v := .pointer p151) (by exact e157)) ?_
  obtain ⟨q384, M⟩ := chk M
  obtain ⟨g385, e386, h387⟩ := NodeQ.get h152 q384 (Tm.mk 0 0 [] [])
  subst e386
  refine lve (d := 108) rfl rfl (by kernel_rfl) (new_blk (v := fun g_ => .slice (some ⟨g_, 0, none⟩) 2 2) (cs := #[.pointer (some ⟨g141, 0, none⟩), .pointer (some ⟨g385, 0, none⟩)]) (t := 38) S158 (by kernel_rfl)) ?_
  rintro _ w388 ⟨g389, rfl, b390, S391, K392⟩
  replace b140 := K392.blk 0 rfl b140
  have S393 := S391.unit
  have S394 := S393.pull (F := (is g389)) (Fr := [no, (is g11)]) 1 rfl rfl
  obtain ⟨h395, S396⟩ := row_lit (d := (node 74)) (xs := [t135.1, (x150.getD (Tm.mk 0 0 [] []))]) S394 b390 rfl (elsO_no (d := (node 74)) ⟨_, rfl, (h142.ext' Y149)⟩ (elsO_no (d := (node 74)) ⟨_, rfl, h387⟩ (elsO_nil _ _ _ no))) (Nat.le_of_ble_eq_true rfl)
  have l397 := h395.le
  obtain ⟨H398, S399, E400, h401, z402⟩ := S396.frzRow h395
  obtain ⟨t403, u404, M⟩ := bnd M
  refine lcall (d := 109) rfl rfl (by kernel_rfl) (e_call (l := [.const (str ([58, 45] : List UInt8)), .tmp 108]) (vs := [str ([58, 45] : List UInt8), .slice (some ⟨g389, 0, none⟩) 2 2]) Try.func60 (by kernel_rfl) rfl (by kernel_rfl) rfl) (impl_comp.calls w388 H398 ([58, 45] : List UInt8) [t135.1, (x150.getD (Tm.mk 0 0 [] []))] (some ⟨g389, 0, none⟩) 2 h401 l397 (St.own' (Fa := []) (Fr := [(is g11)]) S399) t403 u404) ?_
  rintro _ w405 ⟨g408, H406, rfl, h409, T407⟩
  refine ⟨_, rfl, ?_⟩
  obtain ⟨S410, K411⟩ := St.call (Fa := []) (Fr := [(is g11)]) S399 T407
  replace b140 := K411.blk 0 rfl b140
  have E412 := T407.ext
  refine lv (d := 15) rfl rfl (by kernel_rfl) (e_assign (v := .pointer (some ⟨g408, 0, none⟩)) (by kernel_rfl)) ?_
  refine wpList_nil ?_
  refine then_n ?_
  refine wp_seq ?_
  refine wp_seq ?_
  refine wp_region_lit ?_
  refine lv (d := 110) rfl rfl (by kernel_rfl) (e_move (v := .pointer (some ⟨g408, 0, none⟩)) (by kernel_rfl)) ?_
  obtain ⟨t413, u414, M⟩ := bnd M
  refine lcall (d := 111) rfl rfl (by kernel_rfl) (e_call (l := [.tmp 110, .const (.int .i64 2000)]) (vs := [.pointer (some ⟨g408, 0, none⟩), .int .i64 2000]) Try.func45 (by kernel_rfl) rfl (by kernel_rfl) rfl) (impl_node_size.calls k w405 H406 t403 g408 2000 h409 S410.own0 t413 u414) ?_
  rintro _ w415 ⟨rfl, C416⟩
  refine ⟨_, rfl, ?_⟩
  obtain ⟨S417, K418⟩ := S410.still C416
  replace b140 := K418.blk 0 rfl b140
  refine lv (d := 112) rfl rfl (by kernel_rfl) (e_gtr (k := .i64) (a := t413) (b := 2000) (by kernel_rfl) rfl) ?_
  refine lv (d := 113) rfl rfl (by kernel_rfl) (e_move (v := .bool (decide (t413 > 2000))) (by kernel_rfl)) ?_
  by_cases q419 : t413 > 2000
  · replace M := ifp q419 M
    refine lskip (t := 113) (c := true) rfl (by kernel_rfl) rfl (bt q419 (by kernel_rfl)) rfl rfl ?_
    refine lskip (t := 113) (c := true) rfl (by kernel_rfl) rfl (bt q419 (by kernel_rfl)) rfl rfl ?_
    refine lskip (t := 113) (c := true) rfl (by kernel_rfl) rfl (bt q419 (by kernel_rfl)) rfl rfl ?_
    refine lskip (t := 113) (c := true) rfl (by kernel_rfl) rfl (bt q419 (by kernel_rfl)) rfl rfl ?_
    refine lskip (t := 113) (c := true) rfl (by kernel_rfl) rfl (bt q419 (by kernel_rfl)) rfl rfl ?_
    refine lskip (t := 113) (c := true) rfl (by kernel_rfl) rfl (bt q419 (by kernel_rfl)) rfl rfl ?_
    refine lv (d := 120) rfl rfl (by kernel_rfl) (e_pick_t (v := .bool true) (bt q419 (by kernel_rfl)) rfl) ?_
    refine wpList_nil ?_
    refine then_n ?_
    refine cond_t rfl (by kernel_rfl) ?_
    refine wp_region_lit ?_
    refine lv (d := 121) rfl rfl (by kernel_rfl) (e_move (v := .pointer (some ⟨g11, 0, none⟩)) (by exact e155)) ?_
    obtain ⟨t420, u421, M⟩ := bnd M
    refine lcall (d := 122) rfl rfl (by kernel_rfl) (e_call (l := [.tmp 121, .const (.int .i64 3)]) (vs := [.pointer (some ⟨g11, 0, none⟩), .int .i64 3]) Try.func59 (by kernel_rfl) rfl (by kernel_rfl) rfl) (impl_grammar_fault.calls w415 H406 (⟨x153, x154⟩ : GL8gram) g11 3 b140 (St.own' (Fa := [(is g11)]) (Fr := []) S417) t420 u421) ?_
    rintro _ w422 ⟨H423, rfl, b425, T424⟩
    refine ⟨_, rfl, ?_⟩
    obtain ⟨S426, K427⟩ := St.call (Fa := [(is g11)]) (Fr := []) S417 T424
    have E428 := T424.ext
    refine wpList_nil ?_
    refine then_n ?_
    refine wp_seq ?_
    refine wp_seq ?_
    refine wp_region_lit ?_
    refine lv (d := 123) rfl rfl (by kernel_rfl) (e_move (v := .pointer (some ⟨g11, 0, none⟩)) (by exact e155)) ?_
    refine lv (d := 124) rfl rfl (by kernel_rfl) (e_nilCheck (ad := ⟨g11, 0, none⟩) (by kernel_rfl)) ?_
    refine lv (d := 125) rfl rfl (by kernel_rfl) (e_fieldAddr (b := g11) (off := 0) (o := 1) Try.underlying78 rfl rfl (sz := 1) (by kernel_rfl) (by decide) (by kernel_rfl)) ?_
    refine lv (d := 126) rfl rfl (by kernel_rfl) (e_load1 (ad := ⟨g11, 0 + 1, none⟩) (v := .int .i64 t420.code_) Try.underlying3 rfl (by kernel_rfl) (blk_cell b425 rfl)) ?_
    refine lv (d := 127) rfl rfl (by kernel_rfl) (e_neq (k := .i64) (a := t420.code_) (b := 0) (by kernel_rfl) rfl) ?_
    refine wpList_nil ?_
    refine then_n ?_
    by_cases q429 : t420.code_ ≠ 0
    · replace M := ifp q429 M
      refine cond_t rfl (bt q429 (by kernel_rfl)) ?_
      refine wp_seq ?_
      refine region_still (by kernel_rfl) (by kernel_rfl) S426 ?_
      intro w430 S431 K432
      replace b425 := K432.blk 0 rfl b425
      refine sv (d := 128) rfl rfl (by kernel_rfl) (e_move (v := .pointer (some ⟨g11, 0, none⟩)) (by exact e155)) ?_
      refine sv (d := 129) rfl rfl (by kernel_rfl) (e_nilCheck (ad := ⟨g11, 0, none⟩) (by kernel_rfl)) ?_
      refine sv (d := 130) rfl rfl (by kernel_rfl) (e_fieldAddr (b := g11) (off := 0) (o := 1) Try.underlying78 rfl rfl (sz := 1) (by kernel_rfl) (by decide) (by kernel_rfl)) ?_
      refine sv (d := 131) rfl rfl (by kernel_rfl) (e_load1 (ad := ⟨g11, 0 + 1, none⟩) (v := .int .i64 t420.code_) Try.underlying3 rfl (by kernel_rfl) (blk_cell b425 rfl)) ?_
      refine sv (d := 2) rfl rfl (by kernel_rfl) (e_assign (v := .pointer none) rfl) ?_
      refine sv (d := 3) rfl rfl (by kernel_rfl) (e_assign (v := .int .i64 t420.code_) (by kernel_rfl)) ?_
      refine wpStill_nil ?_
      refine then_n ?_
      refine wp_ret ?_
      refine then_r ?_
      obtain rfl := Option.some.inj M
      have S433 := St.first (Fa := []) (Fr := [(is g11)]) S431
      exact ret2 rfl rfl rfl (show _ = .pointer none from (by kernel_rfl)) (show _ = .int .i64 t420.code_ from (by kernel_rfl)) ⟨none, H423, rfl, NodeQ.nil, S433⟩
    replace M := ifn q429 M
    refine cond_f rfl (bf q429 (by kernel_rfl)) ?_
    refine wp_skip ?_
    refine then_n ?_
    refine wp_seq ?_
    refine wp_region_lit ?_
    refine lv (d := 132) rfl rfl (by kernel_rfl) (e_move (v := .pointer (some ⟨g408, 0, none⟩)) (by kernel_rfl)) ?_
    refine lv (d := 2) rfl rfl (by kernel_rfl) (e_assign (v := .pointer (some ⟨g408, 0, none⟩)) (by kernel_rfl)) ?_
    refine lv (d := 3) rfl rfl (by kernel_rfl) (e_assign (v := .int .i64 0) rfl) ?_
    refine wpList_nil ?_
    refine then_n ?_
    refine wp_ret ?_
    obtain rfl := Option.some.inj M
    have S434 := St.first (Fa := []) (Fr := [(is g11)]) S426
    exact ret2 rfl rfl rfl (show _ = .pointer (some ⟨g408, 0, none⟩) from (by kernel_rfl)) (show _ = .int .i64 0 from (by kernel_rfl)) ⟨(some ⟨g408, 0, none⟩), H423, rfl, (NodeQ.of (h409.ext' E428)), S434⟩
  replace M := ifn q419 M
  refine lvg (d := 114) (t := 113) rfl (by kernel_rfl) rfl (bf q419 (by kernel_rfl)) rfl (by kernel_rfl) (e_move (v := .pointer (some ⟨g11, 0, none⟩)) (by exact e155)) ?_
  refine lvg (d := 115) (t := 113) rfl (by kernel_rfl) rfl (bf q419 (by kernel_rfl)) rfl (by kernel_rfl) (e_nilCheck (ad := ⟨g11, 0, none⟩) (by kernel_rfl)) ?_
  refine lvg (d := 116) (t := 113) rfl (by kernel_rfl) rfl (bf q419 (by kernel_rfl)) rfl (by kernel_rfl) (e_fieldAddr (b := g11) (off := 0) (o := 0) Try.underlying78 rfl rfl (sz := 1) (by kernel_rfl) (by decide) (by kernel_rfl)) ?_
  refine lvg (d := 117) (t := 113) rfl (by kernel_rfl) rfl (bf q419 (by kernel_rfl)) rfl (by kernel_rfl) (e_load1 (ad := ⟨g11, 0 + 0, none⟩) (v := .int .i64 x153) Try.underlying3 rfl (by kernel_rfl) (blk_cell b140 rfl)) ?_
  refine lvg (d := 118) (t := 113) rfl (by kernel_rfl) rfl (bf q419 (by kernel_rfl)) rfl (by kernel_rfl) (e_sub (k := .i64) (a := x153) (b := 1) (by kernel_rfl) rfl) ?_
  refine lvg (d := 119) (t := 113) rfl (by kernel_rfl) rfl (bf q419 (by kernel_rfl)) rfl (by kernel_rfl) (e_gtr (k := .i64) (a := (IntKind.i64.wrap (x153 - 1))) (b := 1000000) (by kernel_rfl) rfl) ?_
  refine lv (d := 120) rfl rfl (by kernel_rfl) (e_pick_f (v := .bool (decide ((IntKind.i64.wrap (x153 - 1)) > 1000000))) (bf q419 (by kernel_rfl)) (by kernel_rfl)) ?_
  refine wpList_nil ?_
  refine then_n ?_
  by_cases q435 : (IntKind.i64.wrap (x153 - 1)) > 1000000
  · replace M := ifp q435 M
    refine cond_t rfl (bt q435 (by kernel_rfl)) ?_
    refine wp_region_lit ?_
    refine lv (d := 121) rfl rfl (by kernel_rfl) (e_move (v := .pointer (some ⟨g11, 0, none⟩)) (by exact e155)) ?_
    obtain ⟨t436, u437, M⟩ := bnd M
    refine lcall (d := 122) rfl rfl (by kernel_rfl) (e_call (l := [.tmp 121, .const (.int .i64 3)]) (vs := [.pointer (some ⟨g11, 0, none⟩), .int .i64 3]) Try.func59 (by kernel_rfl) rfl (by kernel_rfl) rfl) (impl_grammar_fault.calls w415 H406 (⟨x153, x154⟩ : GL8gram) g11 3 b140 (St.own' (Fa := [(is g11)]) (Fr := []) S417) t436 u437) ?_
    rintro _ w438 ⟨H439, rfl, b441, T440⟩
    refine ⟨_, rfl, ?_⟩
    obtain ⟨S442, K443⟩ := St.call (Fa := [(is g11)]) (Fr := []) S417 T440
    have E444 := T440.ext
    refine wpList_nil ?_
    refine then_n ?_
    refine wp_seq ?_
    refine wp_seq ?_
    refine wp_region_lit ?_
    refine lv (d := 123) rfl rfl (by kernel_rfl) (e_move (v := .pointer (some ⟨g11, 0, none⟩)) (by exact e155)) ?_
    refine lv (d := 124) rfl rfl (by kernel_rfl) (e_nilCheck (ad := ⟨g11, 0, none⟩) (by kernel_rfl)) ?_
    refine lv (d := 125) rfl rfl (by kernel_rfl) (e_fieldAddr (b := g11) (off := 0) (o := 1) Try.underlying78 rfl rfl (sz := 1) (by kernel_rfl) (by decide) (by kernel_rfl)) ?_
    refine lv (d := 126) rfl rfl (by kernel_rfl) (e_load1 (ad := ⟨g11, 0 + 1, none⟩) (v := .int .i64 t436.code_) Try.underlying3 rfl (by kernel_rfl) (blk_cell b441 rfl)) ?_
    refine lv (d := 127) rfl rfl (by kernel_rfl) (e_neq (k := .i64) (a := t436.code_) (b := 0) (by kernel_rfl) rfl) ?_
    refine wpList_nil ?_
    refine then_n ?_
    by_cases q445 : t436.code_ ≠ 0
    · replace M := ifp q445 M
      refine cond_t rfl (bt q445 (by kernel_rfl)) ?_
      refine wp_seq ?_
      refine region_still (by kernel_rfl) (by kernel_rfl) S442 ?_
      intro w446 S447 K448
      replace b441 := K448.blk 0 rfl b441
      refine sv (d := 128) rfl rfl (by kernel_rfl) (e_move (v := .pointer (some ⟨g11, 0, none⟩)) (by exact e155)) ?_
      refine sv (d := 129) rfl rfl (by kernel_rfl) (e_nilCheck (ad := ⟨g11, 0, none⟩) (by kernel_rfl)) ?_
      refine sv (d := 130) rfl rfl (by kernel_rfl) (e_fieldAddr (b := g11) (off := 0) (o := 1) Try.underlying78 rfl rfl (sz := 1) (by kernel_rfl) (by decide) (by kernel_rfl)) ?_
      refine sv (d := 131) rfl rfl (by kernel_rfl) (e_load1 (ad := ⟨g11, 0 + 1, none⟩) (v := .int .i64 t436.code_) Try.underlying3 rfl (by kernel_rfl) (blk_cell b441 rfl)) ?_
      refine sv (d := 2) rfl rfl (by kernel_rfl) (e_assign (v := .pointer none) rfl) ?_
      refine sv (d := 3) rfl rfl (by kernel_rfl) (e_assign (v := .int .i64 t436.code_) (by kernel_rfl)) ?_
      refine wpStill_nil ?_
      refine then_n ?_
      refine wp_ret ?_
      refine then_r ?_
      obtain rfl := Option.some.inj M
      have S449 := St.first (Fa := []) (Fr := [(is g11)]) S447
      exact ret2 rfl rfl rfl (show _ = .pointer none from (by kernel_rfl)) (show _ = .int .i64 t436.code_ from (by kernel_rfl)) ⟨none, H439, rfl, NodeQ.nil, S449⟩
    replace M := ifn q445 M
    refine cond_f rfl (bf q445 (by kernel_rfl)) ?_
    refine wp_skip ?_
    refine then_n ?_
    refine wp_seq ?_
    refine wp_region_lit ?_
    refine lv (d := 132) rfl rfl (by kernel_rfl) (e_move (v := .pointer (some ⟨g408, 0, none⟩)) (by kernel_rfl)) ?_
    refine lv (d := 2) rfl rfl (by kernel_rfl) (e_assign (v := .pointer (some ⟨g408, 0, none⟩)) (by kernel_rfl)) ?_
    refine lv (d := 3) rfl rfl (by kernel_rfl) (e_assign (v := .int .i64 0) rfl) ?_
    refine wpList_nil ?_
    refine then_n ?_
    refine wp_ret ?_
    obtain rfl := Option.some.inj M
    have S450 := St.first (Fa := []) (Fr := [(is g11)]) S442
    exact ret2 rfl rfl rfl (show _ = .pointer (some ⟨g408, 0, none⟩) from (by kernel_rfl)) (show _ = .int .i64 0 from (by kernel_rfl)) ⟨(some ⟨g408, 0, none⟩), H439, rfl, (NodeQ.of (h409.ext' E444)), S450⟩
  replace M := ifn q435 M
  refine cond_f rfl (bf q435 (by kernel_rfl)) ?_
  refine wp_skip ?_
  refine then_n ?_
  refine wp_seq ?_
  refine wp_seq ?_
  refine wp_region_lit ?_
  refine lv (d := 123) rfl rfl (by kernel_rfl) (e_move (v := .pointer (some ⟨g11, 0, none⟩)) (by exact e155)) ?_
  refine lv (d := 124) rfl rfl (by kernel_rfl) (e_nilCheck (ad := ⟨g11, 0, none⟩) (by kernel_rfl)) ?_
  refine lv (d := 125) rfl rfl (by kernel_rfl) (e_fieldAddr (b := g11) (off := 0) (o := 1) Try.underlying78 rfl rfl (sz := 1) (by kernel_rfl) (by decide) (by kernel_rfl)) ?_
  refine lv (d := 126) rfl rfl (by kernel_rfl) (e_load1 (ad := ⟨g11, 0 + 1, none⟩) (v := .int .i64 x154) Try.underlying3 rfl (by kernel_rfl) (blk_cell b140 rfl)) ?_
  refine lv (d := 127) rfl rfl (by kernel_rfl) (e_neq (k := .i64) (a := x154) (b := 0) (by kernel_rfl) rfl) ?_
  refine wpList_nil ?_
  refine then_n ?_
  by_cases q451 : x154 ≠ 0
  · replace M := ifp q451 M
    refine cond_t rfl (bt q451 (by kernel_rfl)) ?_
    refine wp_seq ?_
    refine region_still (by kernel_rfl) (by kernel_rfl) S417 ?_
    intro w452 S453 K454
    replace b140 := K454.blk 0 rfl b140
    refine sv (d := 128) rfl rfl (by kernel_rfl) (e_move (v := .pointer (some ⟨g11, 0, none⟩)) (by exact e155)) ?_
    refine sv (d := 129) rfl rfl (by kernel_rfl) (e_nilCheck (ad := ⟨g11, 0, none⟩) (by kernel_rfl)) ?_
    refine sv (d := 130) rfl rfl (by kernel_rfl) (e_fieldAddr (b := g11) (off := 0) (o := 1) Try.underlying78 rfl rfl (sz := 1) (by kernel_rfl) (by decide) (by kernel_rfl)) ?_
    refine sv (d := 131) rfl rfl (by kernel_rfl) (e_load1 (ad := ⟨g11, 0 + 1, none⟩) (v := .int .i64 x154) Try.underlying3 rfl (by kernel_rfl) (blk_cell b140 rfl)) ?_
    refine sv (d := 2) rfl rfl (by kernel_rfl) (e_assign (v := .pointer none) rfl) ?_
    refine sv (d := 3) rfl rfl (by kernel_rfl) (e_assign (v := .int .i64 x154) (by kernel_rfl)) ?_
    refine wpStill_nil ?_
    refine then_n ?_
    refine wp_ret ?_
    refine then_r ?_
    obtain rfl := Option.some.inj M
    have S455 := St.first (Fa := []) (Fr := [(is g11)]) S453
    exact ret2 rfl rfl rfl (show _ = .pointer none from (by kernel_rfl)) (show _ = .int .i64 x154 from (by kernel_rfl)) ⟨none, H406, rfl, NodeQ.nil, S455⟩
  replace M := ifn q451 M
  refine cond_f rfl (bf q451 (by kernel_rfl)) ?_
  refine wp_skip ?_
  refine then_n ?_
  refine wp_seq ?_
  refine wp_region_lit ?_
  refine lv (d := 132) rfl rfl (by kernel_rfl) (e_move (v := .pointer (some ⟨g408, 0, none⟩)) (by kernel_rfl)) ?_
  refine lv (d := 2) rfl rfl (by kernel_rfl) (e_assign (v := .pointer (some ⟨g408, 0, none⟩)) (by kernel_rfl)) ?_
  refine lv (d := 3) rfl rfl (by kernel_rfl) (e_assign (v := .int .i64 0) rfl) ?_
  refine wpList_nil ?_
  refine then_n ?_
  refine wp_ret ?_
  obtain rfl := Option.some.inj M
  have S456 := St.first (Fa := []) (Fr := [(is g11)]) S417
  exact ret2 rfl rfl rfl (show _ = .pointer (some ⟨g408, 0, none⟩) from (by kernel_rfl)) (show _ = .int .i64 0 from (by kernel_rfl)) ⟨(some ⟨g408, 0, none⟩), H406, rfl, (NodeQ.of h409), S456⟩

/-! impl_node_put -/
mutual
def impl_node_put_2.l0 : Nat → Tm → (List Cell) → (List UInt8) → Option (List Cell)
  | 0, _, _, _ => none
  | k67 + 1, x1, x4, x55 => (if x4.length + 1 ≤ 3518437208883 then (impl_node_put_2.l1 k67 x1 (x4 ++ [(⟨x1.kind, x1.n, x55⟩ : Cell)]) 0) else none)
def impl_node_put_2.l1 : Nat → Tm → (List Cell) → Int → Option (List Cell)
  | 0, _, _, _ => none
  | k124 + 1, x1, x108, x113 => (if x113 < (x1.args.length : Int) then (if 0 ≤ x113 then ((impl_node_cut_2.f k124 x1 (x1.args.getD ((x113).toNat) (Tm.mk 0 0 [] [])) x108).bind fun t137 => (impl_node_put_2.l1 k124 x1 t137 (IntKind.i64.wrap (x113 + 1)))) else none) else some x108)
def impl_node_put_2.f : Nat → Tm → (List Cell) → Option (List Cell)
  | 0, _, _ => none
  | k1_ + 1, x1, x4 => (if x1.kind ≥ 2 then (if x1.text.length ≤ 9223372036854775807 then (impl_node_put_2.l0 k1_ x1 x4 x1.text) else none) else (impl_node_put_2.l0 k1_ x1 x4 []))
def impl_node_cut_2.f : Nat → Tm → Tm → (List Cell) → Option (List Cell)
  | 0, _, _, _ => none
  | k1_ + 1, _, x4, x7 => ((impl_node_put_2.f k1_ x4 x7).bind fun t12 => some t12)
end
theorem impl_node_put_2.all : ∀ (K : Nat), (∀ (k : Nat), k < K → ∀ (w : World) (H : Hp) (x1 : Tm) (g2 : Nat) (x4 : List Cell) (A5 : Option Addr) (c6 : Nat) (F8 : Foot) (h3 : NodeR 74 H x1 (.pointer (some ⟨g2, 0, none⟩))) (h7 : Row st36 36 H (hp w) F8 A5 c6 x4) (S : Own [F8] H w) (r : List Cell) (M : impl_node_put_2.f k x1 x4 = some r), Calls Try.prog 47 #[.pointer (some ⟨g2, 0, none⟩), .slice A5 x4.length c6] w (fun e e_w => ∃ (A_1 : Option Addr) (c_1 : Nat) (F_1 : Foot) (H_ : Hp), e = .returned (.slice A_1 r.length c_1) ∧ Row st36 36 H_ (hp e_w) F_1 A_1 c_1 r ∧ St (anyOf [F8]) H w [F_1] H_ e_w)) ∧ (∀ (k : Nat), k < K → ∀ (w : World) (H : Hp) (x1 : Tm) (g2 : Nat) (x4 : Tm) (g5 : Nat) (x7 : List Cell) (A8 : Option Addr) (c9 : Nat) (F11 : Foot) (h3 : NodeR 74 H x1 (.pointer (some ⟨g2, 0, none⟩))) (h6 : NodeR 74 H x4 (.pointer (some ⟨g5, 0, none⟩))) (h10 : Row st36 36 H (hp w) F11 A8 c9 x7) (S : Own [F11] H w) (r : List Cell) (M : impl_node_cut_2.f k x1 x4 x7 = some r), Calls Try.prog 67 #[.pointer (some ⟨g2, 0, none⟩), .pointer (some ⟨g5, 0, none⟩), .slice A8 x7.length c9] w (fun e e_w => ∃ (A_1 : Option Addr) (c_1 : Nat) (F_1 : Foot) (H_ : Hp), e = .returned (.slice A_1 r.length c_1) ∧ Row st36 36 H_ (hp e_w) F_1 A_1 c_1 r ∧ St (anyOf [F11]) H w [F_1] H_ e_w)) := by
  intro K
  induction K with
  | zero => exact ⟨fun k hk => by omega, fun k hk => by omega⟩
  | succ K ih =>
    refine ⟨?_, ?_⟩
    · intro k hk w H x1 g2 x4 A5 c6 F8 h3 h7 S r M
      rcases k with _ | k1_
      · rw [impl_node_put_2.f] at M
        cases M
      rw [impl_node_put_2.f] at M
      refine enter (l := [.pointer (some ⟨g2, 0, none⟩), .slice A5 x4.length c6]) 47 Try.func47 rfl rfl rfl ?_
      have S0_ := S.st
      refine wp_seq ?_
      refine wp_region_lit ?_
      refine lv (d := 4) rfl rfl (by kernel_rfl) (e_assign (v := .slice none 0 0) rfl) ?_
      refine wpList_nil ?_
      refine then_n ?_
      refine wp_seq ?_
      refine region_mix (S := (fun (L_ : Array Bool) (w_ : World) => Ext H (hp w_) ∧ True)) (by kernel_rfl) S0_ ?_
      intro w9 S10 K11 hc12
      have hs13 : (fun (L_ : Array Bool) (w_ : World) => Ext H (hp w_) ∧ True) (Array.replicate 11 false) w9 := ⟨S10.inv, trivial⟩
      replace h7 := h7.move (K11.at 0 rfl)
      refine xv (i := 0) (d := 8) rfl rfl rfl (by kernel_rfl) (by kernel_rfl) (fun _ _ => Iff.rfl) hc12 hs13 (fun L_ w_ hc_ hu_ hs_ => e_move (v := .pointer (some ⟨g2, 0, none⟩)) (by kernel_rfl)) ?_; intro hc14 hs15
      refine xv (i := 1) (d := 9) rfl rfl rfl (by kernel_rfl) (by kernel_rfl) (fun _ _ => Iff.rfl) hc14 hs15 (fun L_ w_ hc_ hu_ hs_ => e_nilCheck (ad := ⟨g2, 0, none⟩) (by kernel_rfl)) ?_; intro hc16 hs17
      refine xv (i := 2) (d := 10) rfl rfl rfl (by kernel_rfl) (by kernel_rfl) (fun _ _ => Iff.rfl) hc16 hs17 (fun L_ w_ hc_ hu_ hs_ => e_fieldAddr (b := g2) (off := 0) (o := 0) Try.underlying74 rfl rfl (sz := 1) (by kernel_rfl) (by decide) (by kernel_rfl)) ?_; intro hc18 hs19
      obtain ⟨A20, c21, y22, q23, h24, h25, l26, h27⟩ := node_open h3
      refine xv (i := 3) (d := 11) rfl rfl rfl (by kernel_rfl) (by kernel_rfl) (fun _ _ => Iff.rfl) hc18 hs19 (fun L_ w_ hc_ hu_ hs_ => e_load1 (ad := ⟨g2, 0 + 0, none⟩) (v := .int .i64 x1.kind) Try.underlying3 rfl (by kernel_rfl) (blk_cells (hs_.1 _ _ h24) h25 0 _ rfl)) ?_; intro hc28 hs29
      refine xv (i := 4) (d := 12) rfl rfl rfl (by kernel_rfl) (by kernel_rfl) (fun _ _ => Iff.rfl) hc28 hs29 (fun L_ w_ hc_ hu_ hs_ => e_move (v := .pointer (some ⟨g2, 0, none⟩)) (by kernel_rfl)) ?_; intro hc30 hs31
      refine xv (i := 5) (d := 13) rfl rfl rfl (by kernel_rfl) (by kernel_rfl) (fun _ _ => Iff.rfl) hc30 hs31 (fun L_ w_ hc_ hu_ hs_ => e_nilCheck (ad := ⟨g2, 0, none⟩) (by kernel_rfl)) ?_; intro hc32 hs33
      refine xv (i := 6) (d := 14) rfl rfl rfl (by kernel_rfl) (by kernel_rfl) (fun _ _ => Iff.rfl) hc32 hs33 (fun L_ w_ hc_ hu_ hs_ => e_fieldAddr (b := g2) (off := 0) (o := 1) Try.underlying74 rfl rfl (sz := 1) (by kernel_rfl) (by decide) (by kernel_rfl)) ?_; intro hc34 hs35
      refine xv (i := 7) (d := 15) rfl rfl rfl (by kernel_rfl) (by kernel_rfl) (fun _ _ => Iff.rfl) hc34 hs35 (fun L_ w_ hc_ hu_ hs_ => e_load1 (ad := ⟨g2, 0 + 1, none⟩) (v := .int .i64 x1.n) Try.underlying3 rfl (by kernel_rfl) (blk_cells (hs_.1 _ _ h24) h25 1 _ rfl)) ?_; intro hc36 hs37
      refine xv (i := 8) (d := 16) rfl rfl rfl (by kernel_rfl) (by kernel_rfl) (fun _ _ => Iff.rfl) hc36 hs37 (fun L_ w_ hc_ hu_ hs_ => (show _ = Result.ok (Next.value (.agg #[.int .i64 x1.kind, .int .i64 x1.n, .slice none 0 0])) w_ from by kernel_rfl)) ?_; intro hc38 hs39
      refine xone (i := 9) (by kernel_rfl) hc38 ?_
      refine ye (i := 9) (d := 5) rfl rfl (wanted_none rfl _) (by kernel_rfl) (by kernel_rfl) (new_blk (v := fun g_ => .pointer (some ⟨g_, 0, none⟩)) (cs := #[.int .i64 0, .int .i64 0, .slice none 0 0]) (t := 36) S10 (by kernel_rfl)) ?_
      rintro hc45 _ w40 ⟨g41, rfl, b42, S43, K44⟩
      replace h7 := h7.move (K44.at 0 rfl)
      refine ⟨⟨S43.inv, trivial⟩, fun hs46 => ?_⟩
      refine xone (i := 10) (by kernel_rfl) hc45 ?_
      refine ys (i := 10) rfl rfl (wanted_none rfl _) (by kernel_rfl) (by kernel_rfl) (e_store (g := g41) (o := 0) (v := .agg #[.int .i64 x1.kind, .int .i64 x1.n, .slice none 0 0]) (cur' := #[.int .i64 x1.kind, .int .i64 x1.n, .slice none 0 0]) (vs := [.int .i64 x1.kind, .int .i64 x1.n, .slice none 0 0]) S43 (by kernel_rfl) (by kernel_rfl) rfl (by kernel_rfl) b42 (Nat.le_of_ble_eq_true rfl) (List.forall_mem_cons.2 ⟨rfl, (List.forall_mem_cons.2 ⟨rfl, (List.forall_mem_cons.2 ⟨rfl, (fun _ h_ => by cases h_)⟩)⟩)⟩) rfl) ?_
      rintro hc51 w47 ⟨b48, S49, K50⟩
      replace h7 := h7.move (K50.at 0 rfl)
      refine ⟨⟨S49.inv, trivial⟩, fun hs52 => ?_⟩
      clear b42
      refine xn (by kernel_rfl) ?_ _
      refine then_n ?_
      refine wp_seq_cut (fun a66 w53 => ∃ (k68 : Nat), k68 ≤ k1_ ∧ ∃ (f54 : Nat → Value) (x55 : List UInt8) (A56 : Option Addr) (c57 : Nat) (F58 : Foot), k68 < K ∧ a66 = mk 47 f54 ∧ f54 0 = .pointer (some ⟨g2, 0, none⟩) ∧ f54 1 = .slice A5 x4.length c6 ∧ f54 5 = .pointer (some ⟨g41, 0, none⟩) ∧ w53.heap[g41]? = some (.cells #[.int .i64 x1.kind, .int .i64 x1.n, .slice A56 x55.length c57] 36 (0, 0)) ∧ Row st36 36 H (hp w53) F8 A5 c6 x4 ∧ Row tByte 5 H (hp w53) F58 A56 c57 x55 ∧ St (anyOf [F8]) H w [(is g41), F8, F58] H w53 ∧ impl_node_put_2.l0 k68 x1 x4 x55 = some r) ?_ ?_
      · refine wp_seq ?_
        refine wp_region_lit ?_
        refine lv (d := 17) rfl rfl (by kernel_rfl) (e_move (v := .pointer (some ⟨g2, 0, none⟩)) (by kernel_rfl)) ?_
        refine lv (d := 18) rfl rfl (by kernel_rfl) (e_nilCheck (ad := ⟨g2, 0, none⟩) (by kernel_rfl)) ?_
        refine lv (d := 19) rfl rfl (by kernel_rfl) (e_fieldAddr (b := g2) (off := 0) (o := 0) Try.underlying74 rfl rfl (sz := 1) (by kernel_rfl) (by decide) (by kernel_rfl)) ?_
        refine lv (d := 20) rfl rfl (by kernel_rfl) (e_load1 (ad := ⟨g2, 0 + 0, none⟩) (v := .int .i64 x1.kind) Try.underlying3 rfl (by kernel_rfl) (blk_cells (S49.inv _ _ h24) h25 0 _ rfl)) ?_
        refine lv (d := 21) rfl rfl (by kernel_rfl) (e_geq (k := .i64) (a := x1.kind) (b := 2) (by kernel_rfl) rfl) ?_
        refine wpList_nil ?_
        refine then_n ?_
        by_cases q69 : x1.kind ≥ 2
        · replace M := ifp q69 M
          refine cond_t rfl (bt q69 (by kernel_rfl)) ?_
          refine wp_region_lit ?_
          refine lv (d := 22) rfl rfl (by kernel_rfl) (e_move (v := .pointer (some ⟨g2, 0, none⟩)) (by kernel_rfl)) ?_
          refine lv (d := 23) rfl rfl (by kernel_rfl) (e_nilCheck (ad := ⟨g2, 0, none⟩) (by kernel_rfl)) ?_
          refine lv (d := 24) rfl rfl (by kernel_rfl) (e_fieldAddr (b := g2) (off := 0) (o := 2) Try.underlying74 rfl rfl (sz := 1) (by kernel_rfl) (by decide) (by kernel_rfl)) ?_
          refine lv (d := 25) rfl rfl (by kernel_rfl) (e_load1 (ad := ⟨g2, 0 + 2, none⟩) (v := str x1.text) Try.underlying9 rfl (by kernel_rfl) (blk_cells (S49.inv _ _ h24) h25 2 _ rfl)) ?_
          obtain ⟨q70, M⟩ := chk M
          refine lve (d := 26) rfl rfl (by kernel_rfl) (e_conv_sb (xs := x1.text) S49 Try.underlying9 Try.underlying32 Try.underlying5 (by kernel_rfl) q70) ?_
          rintro _ w71 ⟨A72, c73, F74, rfl, h75, S76, K77⟩
          replace b48 := K77.blk 0 rfl b48
          replace h7 := h7.move (K77.at 1 rfl)
          refine lv (d := 27) rfl rfl (by kernel_rfl) (e_fieldAddr (b := g41) (off := 0) (o := 2) Try.underlying36 rfl rfl (sz := 1) (by kernel_rfl) (by decide) (by kernel_rfl)) ?_
          have S78 := S76.pull (F := (is g41)) (Fr := [F74, F8]) 1 rfl rfl
          refine lse rfl rfl (by kernel_rfl) (e_store (g := g41) (o := 0 + 2) (v := .slice A72 x1.text.length c73) (cur' := #[.int .i64 x1.kind, .int .i64 x1.n, .slice A72 x1.text.length c73]) (vs := [.slice A72 x1.text.length c73]) S78 (by kernel_rfl) (by kernel_rfl) rfl (by kernel_rfl) b48 (Nat.le_of_ble_eq_true rfl) (List.forall_mem_cons.2 ⟨rfl, (fun _ h_ => by cases h_)⟩) rfl) ?_
          rintro w79 ⟨b80, S81, K82⟩
          replace h75 := h75.move (K82.at 0 rfl)
          replace h7 := h7.move (K82.at 1 rfl)
          clear b48
          refine wpList_nil ?_
          refine then_n ?_
          have S83 := S81.pull (F := F74) (Fr := [(is g41), F8]) 1 rfl rfl
          have S84 := S83.pull (F := F8) (Fr := [F74, (is g41)]) 2 rfl rfl
          have S85 := S84.pull (F := (is g41)) (Fr := [F8, F74]) 2 rfl rfl
          exact ⟨k1_, (by omega), _, x1.text, A72, c73, F74, (by omega), rfl, (by kernel_rfl), (by kernel_rfl), (by kernel_rfl), b80, h7, h75, S85, M⟩
        replace M := ifn q69 M
        refine cond_f rfl (bf q69 (by kernel_rfl)) ?_
        refine wp_skip ?_
        refine then_n ?_
        have S86 := S49.unit
        have S87 := S86.pull (F := F8) (Fr := [no, (is g41)]) 2 rfl rfl
        have S88 := S87.pull (F := (is g41)) (Fr := [F8, no]) 2 rfl rfl
        exact ⟨k1_, (by omega), _, [], none, 0, no, (by omega), rfl, (by kernel_rfl), (by kernel_rfl), (by kernel_rfl), b48, h7, (Row.nil _ _ _ _ _), S88, M⟩
      clear M
      rintro a66 w53 ⟨k68, z149, f54, x55, A56, c57, F58, z64, rfl, e60, e61, e62, b48, h7, h59, S63, M⟩
      rcases k68 with _ | k67
      · rw [impl_node_put_2.l0] at M
        cases M
      rw [impl_node_put_2.l0] at M
      refine wp_seq ?_
      refine wp_region_lit ?_
      refine lv (d := 28) rfl rfl (by kernel_rfl) (e_move (v := .slice A5 x4.length c6) (by exact e61)) ?_
      refine lv (d := 29) rfl rfl (by kernel_rfl) (e_loadS (b := g41) (off := 0) (cs := [.int .i64 x1.kind, .int .i64 x1.n, .slice A56 x55.length c57]) Try.underlying36 rfl (by kernel_rfl) (by exact e62) (blk_cells b48 rfl)) ?_
      refine lve (d := 30) rfl rfl (by kernel_rfl) (new_blk (v := fun g_ => .slice (some ⟨g_, 0, none⟩) 1 1) (cs := #[.int .i64 x1.kind, .int .i64 x1.n, .slice A56 x55.length c57]) (t := 36) S63 (by kernel_rfl)) ?_
      rintro _ w89 ⟨g90, rfl, b91, S92, K93⟩
      replace b48 := K93.blk 0 rfl b48
      replace h7 := h7.move (K93.at 1 rfl)
      replace h59 := h59.move (K93.at 2 rfl)
      obtain ⟨q94, M⟩ := chk M
      have S95 := S92.pull (F := F58) (Fr := [(is g90), (is g41), F8]) 3 rfl rfl
      have S96 := S95.pull (F := F8) (Fr := [F58, (is g90), (is g41)]) 3 rfl rfl
      refine lve (d := 31) rfl rfl (by kernel_rfl) (e_append (d := st36) (n := x4.length) (xs := x4) (cap := c6) (A := A5) (ys := [(⟨x1.kind, x1.n, x55⟩ : Cell)]) (A2 := (some ⟨g90, 0, none⟩)) (c2 := 1) (z := .agg #[.int .i64 0, .int .i64 0, .slice none 0 0]) (bytes := 40) S96 Try.underlying24 (by kernel_rfl) rfl (by decide) (by kernel_rfl) rfl (by kernel_rfl) h7 (elsO_one1 (st36_mkO (x := (⟨x1.kind, x1.n, x55⟩ : Cell)) h59)) (.inr (blk_news b91 rfl)) (show (x4.length + [(⟨x1.kind, x1.n, x55⟩ : Cell)].length) * 40 ≤ _ by first | omega | (simp only [List.length_cons, List.length_nil]; omega)) (by decide)) ?_
      rintro _ w97 ⟨A98, c99, F100, rfl, h101, S102, K103⟩
      replace b91 := K103.blk 0 rfl b91
      replace b48 := K103.blk 1 rfl b48
      refine lv (d := 1) rfl rfl (by kernel_rfl) (e_assign (v := .slice A98 ((x4 ++ [(⟨x1.kind, x1.n, x55⟩ : Cell)]).length) c99) (by kernel_rfl)) ?_
      refine wpList_nil ?_
      refine then_n ?_
      refine wp_seq ?_
      refine wp_seq ?_
      refine wp_region_lit ?_
      refine lv (d := 32) rfl rfl (by kernel_rfl) (e_move (v := .pointer (some ⟨g2, 0, none⟩)) (by exact e60)) ?_
      refine lv (d := 33) rfl rfl (by kernel_rfl) (e_nilCheck (ad := ⟨g2, 0, none⟩) (by kernel_rfl)) ?_
      refine lv (d := 34) rfl rfl (by kernel_rfl) (e_fieldAddr (b := g2) (off := 0) (o := 3) Try.underlying74 rfl rfl (sz := 1) (by kernel_rfl) (by decide) (by kernel_rfl)) ?_
      refine lv (d := 35) rfl rfl (by kernel_rfl) (e_load1 (ad := ⟨g2, 0 + 3, none⟩) (v := .slice A20 x1.args.length c21) Try.underlying72 rfl (by kernel_rfl) (blk_cells (S102.inv _ _ h24) h25 3 _ rfl)) ?_
      refine lv (d := 36) rfl rfl (by kernel_rfl) (e_len (A := A20) (n := x1.args.length) (c := c21) Try.underlying72 (by kernel_rfl)) ?_
      refine lv (d := 37) rfl rfl (by kernel_rfl) (e_move (v := .int .i64 0) rfl) ?_
      refine wpList_nil ?_
      refine then_n ?_
      refine wp_block ?_
      have S125 := St.first (Fa := [F100]) (Fr := [(is g90), (is g41)]) S102
      refine wp_loop_g (fun k122 a123 w104 => ∃ (f105 : Nat → Value) (H106 : Hp) (x108 : List Cell) (A109 : Option Addr) (c110 : Nat) (F111 : Foot) (x113 : Int), k122 < K ∧ a123 = mk 47 f105 ∧ f105 0 = .pointer (some ⟨g2, 0, none⟩) ∧ f105 1 = .slice A109 x108.length c110 ∧ f105 35 = .slice A20 x1.args.length c21 ∧ f105 36 = .int .i64 (x1.args.length : Int) ∧ f105 37 = .int .i64 x113 ∧ Row st36 36 H106 (hp w104) F111 A109 c110 x108 ∧ Ext H H106 ∧ St (anyOf [F8]) H w [F111] H106 w104 ∧ impl_node_put_2.l1 k122 x1 x108 x113 = some r) k67 ⟨_, H, (x4 ++ [(⟨x1.kind, x1.n, x55⟩ : Cell)]), A98, c99, F100, 0, (by omega), rfl, (by exact e60), (by kernel_rfl), (by kernel_rfl), (by kernel_rfl), (by kernel_rfl), h101, (Ext.refl _), S125, M⟩ ?_
      clear M
      rintro k122 a123 w104 ⟨f105, H106, x108, A109, c110, F111, x113, z120, rfl, e114, e115, e116, e117, e118, h112, Y107, S119, M⟩
      rcases k122 with _ | k124
      · rw [impl_node_put_2.l1] at M
        cases M
      rw [impl_node_put_2.l1] at M
      refine wp_seq ?_
      refine wp_region_lit ?_
      refine lv (d := 38) rfl rfl (by kernel_rfl) (e_lss (k := .i64) (a := x113) (b := (x1.args.length : Int)) (by exact e118) (by exact e117)) ?_
      refine wpList_nil ?_
      refine then_n ?_
      refine wp_seq ?_
      by_cases q126 : x113 < (x1.args.length : Int)
      · replace M := ifp q126 M
        refine cond_t rfl (bt q126 (by kernel_rfl)) ?_
        refine wp_skip ?_
        refine then_n ?_
        refine wp_seq ?_
        refine wp_block ?_
        refine wp_seq ?_
        refine wp_region_lit ?_
        obtain ⟨q127, M⟩ := chk M
        obtain ⟨b128, o129, e130⟩ := Rd.addr h27 (show (x113).toNat < x1.args.length by omega)
        obtain ⟨y131, r132, k133⟩ := Rd.at h27 e130 (getD_some (Tm.mk 0 0 [] []) (show (x113).toNat < x1.args.length by omega))
        obtain ⟨v134, rfl, h135⟩ := r132
        obtain ⟨g136, rfl⟩ := node_ptr h135
        refine lv (d := 39) rfl rfl (by kernel_rfl) (e_indexAddr (b := b128) (off := o129) (n := x1.args.length) (c := c21) (sz := 1) (i := x113) (k := .i64) Try.underlying72 e130 (by kernel_rfl) (by exact e116) (by exact e118) q127 q126) ?_
        refine lv (d := 40) rfl rfl (by kernel_rfl) (e_load1 (ad := ⟨b128, o129 + (x113 : Int).toNat * 1, none⟩) (v := .pointer (some ⟨g136, 0, none⟩)) Try.underlying38 rfl (by kernel_rfl) (hpx (S119.inv.cell (Y107.cell (k133 0 _ rfl))))) ?_
        refine lv (d := 7) rfl rfl (by kernel_rfl) (e_assign (v := .pointer (some ⟨g136, 0, none⟩)) (by kernel_rfl)) ?_
        refine wpList_nil ?_
        refine then_n ?_
        refine wp_region_lit ?_
        refine lv (d := 41) rfl rfl (by kernel_rfl) (e_move (v := .pointer (some ⟨g2, 0, none⟩)) (by exact e114)) ?_
        refine lv (d := 42) rfl rfl (by kernel_rfl) (e_move (v := .pointer (some ⟨g136, 0, none⟩)) (by kernel_rfl)) ?_
        refine lv (d := 43) rfl rfl (by kernel_rfl) (e_move (v := .slice A109 x108.length c110) (by exact e115)) ?_
        obtain ⟨t137, u138, M⟩ := bnd M
        refine lcall (d := 44) rfl rfl (by kernel_rfl) (e_call (l := [.tmp 41, .tmp 42, .tmp 43]) (vs := [.pointer (some ⟨g2, 0, none⟩), .pointer (some ⟨g136, 0, none⟩), .slice A109 x108.length c110]) Try.func67 (by kernel_rfl) rfl (by kernel_rfl) rfl) (ih.2 k124 (by omega) w104 H106 x1 g2 (x1.args.getD ((x113).toNat) (Tm.mk 0 0 [] [])) g136 x108 A109 c110 F111 (h3.ext' Y107) (h135.ext' Y107) h112 (St.own' (Fa := [F111]) (Fr := []) S119) t137 u138) ?_
        rintro _ w139 ⟨A142, c143, F145, H140, rfl, h144, T141⟩
        refine ⟨_, rfl, ?_⟩
        obtain ⟨S146, K147⟩ := St.call (Fa := [F111]) (Fr := []) S119 T141
        have E148 := T141.ext
        refine lv (d := 1) rfl rfl (by kernel_rfl) (e_assign (v := .slice A142 t137.length c143) (by kernel_rfl)) ?_
        refine wpList_nil ?_
        refine inb_n ?_
        refine then_n ?_
        refine wp_region_lit ?_
        refine lv (d := 45) rfl rfl (by kernel_rfl) (e_add (k := .i64) (a := x113) (b := 1) (by exact e118) rfl) ?_
        refine lv (d := 37) rfl rfl (by kernel_rfl) (e_move (v := .int .i64 (IntKind.i64.wrap (x113 + 1))) (by kernel_rfl)) ?_
        refine wpList_nil ?_
        refine then_n ?_
        exact ⟨k124, (by omega), _, H140, t137, A142, c143, F145, (IntKind.i64.wrap (x113 + 1)), (by omega), rfl, (by exact e114), (by kernel_rfl), (by exact e116), (by exact e117), (by kernel_rfl), h144, (Y107.trans E148), S146, M⟩
      replace M := ifn q126 M
      refine cond_f rfl (bf q126 (by kernel_rfl)) ?_
      refine wp_exit ?_
      refine then_e ?_
      refine then_e ?_
      refine inb_hit ?_
      refine then_n ?_
      refine wp_seq ?_
      refine wp_region_lit ?_
      refine lv (d := 46) rfl rfl (by kernel_rfl) (e_move (v := .slice A109 x108.length c110) (by exact e115)) ?_
      refine lv (d := 4) rfl rfl (by kernel_rfl) (e_assign (v := .slice A109 x108.length c110) (by kernel_rfl)) ?_
      refine wpList_nil ?_
      refine then_n ?_
      refine wp_ret ?_
      obtain rfl := Option.some.inj M
      exact ret1 rfl rfl  (show _ = .slice A109 x108.length c110 from (by kernel_rfl)) ⟨A109, c110, F111, H106, rfl, h112, S119⟩
    · intro k hk w H x1 g2 x4 g5 x7 A8 c9 F11 h3 h6 h10 S r M
      rcases k with _ | k1_
      · rw [impl_node_cut_2.f] at M
        cases M
      rw [impl_node_cut_2.f] at M
      refine enter (l := [.pointer (some ⟨g2, 0, none⟩), .pointer (some ⟨g5, 0, none⟩), .slice A8 x7.length c9]) 10 Try.func67 rfl rfl rfl ?_
      have S0_ := S.st
      refine wp_seq ?_
      refine wp_region_lit ?_
      refine lv (d := 6) rfl rfl (by kernel_rfl) (e_assign (v := .slice none 0 0) rfl) ?_
      refine wpList_nil ?_
      refine then_n ?_
      refine wp_seq ?_
      refine wp_region_lit ?_
      refine lv (d := 7) rfl rfl (by kernel_rfl) (e_move (v := .pointer (some ⟨g5, 0, none⟩)) (by kernel_rfl)) ?_
      refine lv (d := 8) rfl rfl (by kernel_rfl) (e_move (v := .slice A8 x7.length c9) (by kernel_rfl)) ?_
      obtain ⟨t12, u13, M⟩ := bnd M
      refine lcall (d := 9) rfl rfl (by kernel_rfl) (e_call (l := [.tmp 7, .tmp 8]) (vs := [.pointer (some ⟨g5, 0, none⟩), .slice A8 x7.length c9]) Try.func47 (by kernel_rfl) rfl (by kernel_rfl) rfl) (ih.1 k1_ (by omega) w H x4 g5 x7 A8 c9 F11 h6 h10 (St.own' (Fa := [F11]) (Fr := []) S0_) t12 u13) ?_
      rintro _ w14 ⟨A17, c18, F20, H15, rfl, h19, T16⟩
      refine ⟨_, rfl, ?_⟩
      obtain ⟨S21, K22⟩ := St.call (Fa := [F11]) (Fr := []) S0_ T16
      have E23 := T16.ext
      refine lv (d := 6) rfl rfl (by kernel_rfl) (e_assign (v := .slice A17 t12.length c18) (by kernel_rfl)) ?_
      refine wpList_nil ?_
      refine then_n ?_
      refine wp_ret ?_
      obtain rfl := Option.some.inj M
      exact ret1 rfl rfl  (show _ = .slice A17 t12.length c18 from (by kernel_rfl)) ⟨A17, c18, F20, H15, rfl, h19, S21⟩
theorem impl_node_put_2.calls (k : Nat) (w : World) (H : Hp) (x1 : Tm) (g2 : Nat) (x4 : List Cell) (A5 : Option Addr) (c6 : Nat) (F8 : Foot) (h3 : NodeR 74 H x1 (.pointer (some ⟨g2, 0, none⟩))) (h7 : Row st36 36 H (hp w) F8 A5 c6 x4) (S : Own [F8] H w) (r : List Cell) (M : impl_node_put_2.f k x1 x4 = some r) :
    Calls Try.prog 47 #[.pointer (some ⟨g2, 0, none⟩), .slice A5 x4.length c6] w (fun e e_w => ∃ (A_1 : Option Addr) (c_1 : Nat) (F_1 : Foot) (H_ : Hp), e = .returned (.slice A_1 r.length c_1) ∧ Row st36 36 H_ (hp e_w) F_1 A_1 c_1 r ∧ St (anyOf [F8]) H w [F_1] H_ e_w) := (impl_node_put_2.all (k + 1)).1 k (Nat.lt_succ_self k) w H x1 g2 x4 A5 c6 F8 h3 h7 S r M
theorem impl_node_cut_2.calls (k : Nat) (w : World) (H : Hp) (x1 : Tm) (g2 : Nat) (x4 : Tm) (g5 : Nat) (x7 : List Cell) (A8 : Option Addr) (c9 : Nat) (F11 : Foot) (h3 : NodeR 74 H x1 (.pointer (some ⟨g2, 0, none⟩))) (h6 : NodeR 74 H x4 (.pointer (some ⟨g5, 0, none⟩))) (h10 : Row st36 36 H (hp w) F11 A8 c9 x7) (S : Own [F11] H w) (r : List Cell) (M : impl_node_cut_2.f k x1 x4 x7 = some r) :
    Calls Try.prog 67 #[.pointer (some ⟨g2, 0, none⟩), .pointer (some ⟨g5, 0, none⟩), .slice A8 x7.length c9] w (fun e e_w => ∃ (A_1 : Option Addr) (c_1 : Nat) (F_1 : Foot) (H_ : Hp), e = .returned (.slice A_1 r.length c_1) ∧ Row st36 36 H_ (hp e_w) F_1 A_1 c_1 r ∧ St (anyOf [F11]) H w [F_1] H_ e_w) := (impl_node_put_2.all (k + 1)).2 k (Nat.lt_succ_self k) w H x1 g2 x4 g5 x7 A8 c9 F11 h3 h6 h10 S r M

/-! impl_node_cells -/
def impl_node_cells.f (k : Nat) (x1 : Tm) : Option (List Cell) := ((impl_node_put_2.f k x1 []).bind fun t5 => some t5)
theorem impl_node_cells.calls (k : Nat) (w : World) (H : Hp) (x1 : Tm) (g2 : Nat) (h3 : NodeR 74 H x1 (.pointer (some ⟨g2, 0, none⟩))) (S : Own [] H w) (r : List Cell) (M : impl_node_cells.f k x1 = some r) :
    Calls Try.prog 21 #[.pointer (some ⟨g2, 0, none⟩)] w (fun e e_w => ∃ (A_1 : Option Addr) (c_1 : Nat) (F_1 : Foot) (H_ : Hp), e = .returned (.slice A_1 r.length c_1) ∧ Row st36 36 H_ (hp e_w) F_1 A_1 c_1 r ∧ St (anyOf []) H w [F_1] H_ e_w) := by
  rw [impl_node_cells.f] at M
  refine enter (l := [.pointer (some ⟨g2, 0, none⟩)]) 5 Try.func21 rfl rfl rfl ?_
  have S0_ := S.st
  refine wp_seq ?_
  refine wp_region_lit ?_
  refine lv (d := 2) rfl rfl (by kernel_rfl) (e_assign (v := .slice none 0 0) rfl) ?_
  refine wpList_nil ?_
  refine then_n ?_
  refine wp_seq ?_
  refine wp_region_lit ?_
  refine lv (d := 3) rfl rfl (by kernel_rfl) (e_move (v := .pointer (some ⟨g2, 0, none⟩)) (by kernel_rfl)) ?_
  have S4 := S0_.unit
  obtain ⟨t5, u6, M⟩ := bnd M
  refine lcall (d := 4) rfl rfl (by kernel_rfl) (e_call (l := [.tmp 3, .const (.slice none 0 0)]) (vs := [.pointer (some ⟨g2, 0, none⟩), .slice none 0 0]) Try.func47 (by kernel_rfl) rfl (by kernel_rfl) rfl) (impl_node_put_2.calls k w H x1 g2 [] none 0 no h3 (Row.nil _ _ _ _ no) (St.own' (Fa := [no]) (Fr := []) S4) t5 u6) ?_
  rintro _ w7 ⟨A10, c11, F13, H8, rfl, h12, T9⟩
  refine ⟨_, rfl, ?_⟩
  obtain ⟨S14, K15⟩ := St.call (Fa := [no]) (Fr := []) S4 T9
  have E16 := T9.ext
  refine lv (d := 2) rfl rfl (by kernel_rfl) (e_assign (v := .slice A10 t5.length c11) (by kernel_rfl)) ?_
  refine wpList_nil ?_
  refine then_n ?_
  refine wp_ret ?_
  obtain rfl := Option.some.inj M
  exact ret1 rfl rfl  (show _ = .slice A10 t5.length c11 from (by kernel_rfl)) ⟨A10, c11, F13, H8, rfl, h12, S14⟩

/-! impl_TranslateGrammar -/
def impl_TranslateGrammar.f (k : Nat) (x1 : List Cell) : Option ((List Cell) × Int) := ((impl_ValidTerm.f k x1).bind fun t6 => (if ¬ (t6 = true) then some ([], 1) else ((impl_tree.f k x1).bind fun t14 => ((impl_node_is.f t14 ([45, 45, 62] : List UInt8) 2).bind fun t24 => (if ¬ (t24 = true) then some ([], 1) else ((impl_translated.f k t14).bind fun t32 => (if t32.2 ≠ 0 then some ([], t32.2) else (if t32.1.isSome = true then ((impl_node_cells.f k (t32.1.getD (Tm.mk 0 0 [] []))).bind fun t48 => some (t48, 0)) else none))))))))
theorem impl_TranslateGrammar.calls (k : Nat) (w : World) (H : Hp) (x1 : List Cell) (A2 : Option Addr) (c3 : Nat) (h4 : Rd st36 H A2 x1) (l5 : x1.length ≤ c3) (S : Own [] H w) (r : (List Cell) × Int) (M : impl_TranslateGrammar.f k x1 = some r) :
    Calls Try.prog 13 #[.slice A2 x1.length c3] w (fun e e_w => ∃ (A_1 : Option Addr) (c_1 : Nat) (F_1 : Foot) (H_ : Hp), e = .returned (.tuple #[.slice A_1 r.1.length c_1, .int .i64 r.2]) ∧ Row st36 36 H_ (hp e_w) F_1 A_1 c_1 r.1 ∧ St (anyOf []) H w [F_1] H_ e_w) := by
  rw [impl_TranslateGrammar.f] at M
  refine enter (l := [.slice A2 x1.length c3]) 25 Try.func13 rfl rfl rfl ?_
  have S0_ := S.st
  refine wp_seq ?_
  refine wp_region_lit ?_
  refine lv (d := 2) rfl rfl (by kernel_rfl) (e_assign (v := .slice none 0 0) rfl) ?_
  refine lv (d := 3) rfl rfl (by kernel_rfl) (e_assign (v := .int .i64 0) rfl) ?_
  refine wpList_nil ?_
  refine then_n ?_
  refine wp_seq ?_
  refine wp_seq ?_
  refine wp_region_lit ?_
  refine lv (d := 7) rfl rfl (by kernel_rfl) (e_move (v := .slice A2 x1.length c3) (by kernel_rfl)) ?_
  obtain ⟨t6, u7, M⟩ := bnd M
  refine lcall (d := 8) rfl rfl (by kernel_rfl) (e_call (l := [.tmp 7]) (vs := [.slice A2 x1.length c3]) Try.func18 (by kernel_rfl) rfl (by kernel_rfl) rfl) (impl_ValidTerm.calls k w H x1 A2 c3 h4 l5 S0_.own0 t6 u7) ?_
  rintro _ w8 ⟨rfl, C9⟩
  refine ⟨_, rfl, ?_⟩
  obtain ⟨S10, K11⟩ := S0_.still C9
  refine lv (d := 9) rfl rfl (by kernel_rfl) (e_notv (c := t6) (by kernel_rfl)) ?_
  refine wpList_nil ?_
  refine then_n ?_
  by_cases q12 : ¬ (t6 = true)
  · replace M := ifp q12 M
    refine cond_t rfl (bt q12 (by kernel_rfl)) ?_
    refine wp_seq ?_
    refine wp_region_lit ?_
    refine lv (d := 2) rfl rfl (by kernel_rfl) (e_assign (v := .slice none 0 0) rfl) ?_
    refine lv (d := 3) rfl rfl (by kernel_rfl) (e_assign (v := .int .i64 1) rfl) ?_
    refine wpList_nil ?_
    refine then_n ?_
    refine wp_ret ?_
    refine then_r ?_
    obtain rfl := Option.some.inj M
    have S13 := S10.unit
    exact ret2 rfl rfl rfl (show _ = .slice none 0 0 from (by kernel_rfl)) (show _ = .int .i64 1 from (by kernel_rfl)) ⟨none, 0, no, H, rfl, (Row.nil _ _ _ _ no), S13⟩
  replace M := ifn q12 M
  refine cond_f rfl (bf q12 (by kernel_rfl)) ?_
  refine wp_skip ?_
  refine then_n ?_
  refine wp_seq ?_
  refine wp_region_lit ?_
  refine lv (d := 10) rfl rfl (by kernel_rfl) (e_move (v := .slice A2 x1.length c3) (by kernel_rfl)) ?_
  obtain ⟨t14, u15, M⟩ := bnd M
  refine lcall (d := 11) rfl rfl (by kernel_rfl) (e_call (l := [.tmp 10]) (vs := [.slice A2 x1.length c3]) Try.func20 (by kernel_rfl) rfl (by kernel_rfl) rfl) (impl_tree.calls k w8 H x1 A2 c3 h4 l5 (St.own' (Fa := []) (Fr := []) S10) t14 u15) ?_
  rintro _ w16 ⟨g19, H17, rfl, h20, T18⟩
  refine ⟨_, rfl, ?_⟩
  obtain ⟨S21, K22⟩ := St.call (Fa := []) (Fr := []) S10 T18
  have E23 := T18.ext
  refine lv (d := 4) rfl rfl (by kernel_rfl) (e_assign (v := .pointer (some ⟨g19, 0, none⟩)) (by kernel_rfl)) ?_
  refine wpList_nil ?_
  refine then_n ?_
  refine wp_seq ?_
  refine wp_seq ?_
  refine wp_region_lit ?_
  refine lv (d := 12) rfl rfl (by kernel_rfl) (e_move (v := .pointer (some ⟨g19, 0, none⟩)) (by kernel_rfl)) ?_
  obtain ⟨t24, u25, M⟩ := bnd M
  refine lcall (d := 13) rfl rfl (by kernel_rfl) (e_call (l := [.tmp 12, .const (str ([45, 45, 62] : List UInt8)), .const (.int .i64 2)]) (vs := [.pointer (some ⟨g19, 0, none⟩), str ([45, 45, 62] : List UInt8), .int .i64 2]) Try.func33 (by kernel_rfl) rfl (by kernel_rfl) rfl) (impl_node_is.calls w16 H17 t14 g19 ([45, 45, 62] : List UInt8) 2 h20 S21.own0 t24 u25) ?_
  rintro _ w26 ⟨rfl, C27⟩
  refine ⟨_, rfl, ?_⟩
  obtain ⟨S28, K29⟩ := S21.still C27
  refine lv (d := 14) rfl rfl (by kernel_rfl) (e_notv (c := t24) (by kernel_rfl)) ?_
  refine wpList_nil ?_
  refine then_n ?_
  by_cases q30 : ¬ (t24 = true)
  · replace M := ifp q30 M
    refine cond_t rfl (bt q30 (by kernel_rfl)) ?_
    refine wp_seq ?_
    refine wp_region_lit ?_
    refine lv (d := 2) rfl rfl (by kernel_rfl) (e_assign (v := .slice none 0 0) rfl) ?_
    refine lv (d := 3) rfl rfl (by kernel_rfl) (e_assign (v := .int .i64 1) rfl) ?_
    refine wpList_nil ?_
    refine then_n ?_
    refine wp_ret ?_
    refine then_r ?_
    obtain rfl := Option.some.inj M
    have S31 := S28.unit
    exact ret2 rfl rfl rfl (show _ = .slice none 0 0 from (by kernel_rfl)) (show _ = .int .i64 1 from (by kernel_rfl)) ⟨none, 0, no, H17, rfl, (Row.nil _ _ _ _ no), S31⟩
  replace M := ifn q30 M
  refine cond_f rfl (bf q30 (by kernel_rfl)) ?_
  refine wp_skip ?_
  refine then_n ?_
  refine wp_seq ?_
  refine wp_region_lit ?_
  refine lv (d := 16) rfl rfl (by kernel_rfl) (e_move (v := .pointer (some ⟨g19, 0, none⟩)) (by kernel_rfl)) ?_
  obtain ⟨t32, u33, M⟩ := bnd M
  refine lcall (d := 17) rfl rfl (by kernel_rfl) (e_call (l := [.tmp 16]) (vs := [.pointer (some ⟨g19, 0, none⟩)]) Try.func34 (by kernel_rfl) rfl (by kernel_rfl) rfl) (impl_translated.calls k w26 H17 t14 g19 h20 (St.own' (Fa := []) (Fr := []) S28) t32 u33) ?_
  rintro _ w34 ⟨p37, H35, rfl, h38, T36⟩
  refine ⟨_, rfl, ?_⟩
  obtain ⟨S39, K40⟩ := St.call (Fa := []) (Fr := []) S28 T36
  have E41 := T36.ext
  refine lv (d := 15) rfl rfl (by kernel_rfl) (e_move (v := .tuple #[.pointer p37, .int .i64 t32.2]) (by kernel_rfl)) ?_
  refine lv (d := 18) rfl rfl (by kernel_rfl) (e_extract (vs := #[.pointer p37, .int .i64 t32.2]) (v := .pointer p37) (by kernel_rfl) rfl) ?_
  refine lv (d := 19) rfl rfl (by kernel_rfl) (e_extract (vs := #[.pointer p37, .int .i64 t32.2]) (v := .int .i64 t32.2) (by kernel_rfl) rfl) ?_
  refine lv (d := 5) rfl rfl (by kernel_rfl) (e_assign (v := .pointer p37) (by kernel_rfl)) ?_
  refine lv (d := 6) rfl rfl (by kernel_rfl) (e_assign (v := .int .i64 t32.2) (by kernel_rfl)) ?_
  refine wpList_nil ?_
  refine then_n ?_
  refine wp_seq ?_
  refine wp_seq ?_
  refine wp_region_lit ?_
  refine lv (d := 20) rfl rfl (by kernel_rfl) (e_move (v := .int .i64 t32.2) (by kernel_rfl)) ?_
  refine lv (d := 21) rfl rfl (by kernel_rfl) (e_neq (k := .i64) (a := t32.2) (b := 0) (by kernel_rfl) rfl) ?_
  refine wpList_nil ?_
  refine then_n ?_
  by_cases q42 : t32.2 ≠ 0
  · replace M := ifp q42 M
    refine cond_t rfl (bt q42 (by kernel_rfl)) ?_
    refine wp_seq ?_
    refine wp_region_lit ?_
    refine lv (d := 22) rfl rfl (by kernel_rfl) (e_move (v := .int .i64 t32.2) (by kernel_rfl)) ?_
    refine lv (d := 2) rfl rfl (by kernel_rfl) (e_assign (v := .slice none 0 0) rfl) ?_
    refine lv (d := 3) rfl rfl (by kernel_rfl) (e_assign (v := .int .i64 t32.2) (by kernel_rfl)) ?_
    refine wpList_nil ?_
    refine then_n ?_
    refine wp_ret ?_
    refine then_r ?_
    obtain rfl := Option.some.inj M
    have S43 := S39.unit
    exact ret2 rfl rfl rfl (show _ = .slice none 0 0 from (by kernel_rfl)) (show _ = .int .i64 t32.2 from (by kernel_rfl)) ⟨none, 0, no, H35, rfl, (Row.nil _ _ _ _ no), S43⟩
  replace M := ifn q42 M
  refine cond_f rfl (bf q42 (by kernel_rfl)) ?_
  refine wp_skip ?_
  refine then_n ?_
  refine wp_seq ?_
  refine wp_region_lit ?_
  refine lv (d := 23) rfl rfl (by kernel_rfl) (e_move (v := .pointer p37) (by kernel_rfl)) ?_
  obtain ⟨q44, M⟩ := chk M
  obtain ⟨g45, e46, h47⟩ := NodeQ.get h38 q44 (Tm.mk 0 0 [] [])
  subst e46
  obtain ⟨t48, u49, M⟩ := bnd M
  refine lcall (d := 24) rfl rfl (by kernel_rfl) (e_call (l := [.tmp 23]) (vs := [.pointer (some ⟨g45, 0, none⟩)]) Try.func21 (by kernel_rfl) rfl (by kernel_rfl) rfl) (impl_node_cells.calls k w34 H35 (t32.1.getD (Tm.mk 0 0 [] [])) g45 h47 (St.own' (Fa := []) (Fr := []) S39) t48 u49) ?_
  rintro _ w50 ⟨A53, c54, F56, H51, rfl, h55, T52⟩
  refine ⟨_, rfl, ?_⟩
  obtain ⟨S57, K58⟩ := St.call (Fa := []) (Fr := []) S39 T52
  have E59 := T52.ext
  refine lv (d := 2) rfl rfl (by kernel_rfl) (e_assign (v := .slice A53 t48.length c54) (by kernel_rfl)) ?_
  refine lv (d := 3) rfl rfl (by kernel_rfl) (e_assign (v := .int .i64 0) rfl) ?_
  refine wpList_nil ?_
  refine then_n ?_
  refine wp_ret ?_
  obtain rfl := Option.some.inj M
  exact ret2 rfl rfl rfl (show _ = .slice A53 t48.length c54 from (by kernel_rfl)) (show _ = .int .i64 0 from (by kernel_rfl)) ⟨A53, c54, F56, H51, rfl, h55, S57⟩

/-! laws_eqByteS -/
def laws_eqByteS.l0 : Nat → (List UInt8) → (List UInt8) → Int → Option Bool
  | 0, _, _, _ => none
  | k23 + 1, x1, x6, x14 => (if x14 < (x1.length : Int) then (if 0 ≤ x14 then (if x14 < (x6.length : Int) then (if ((x1.getD ((x14).toNat) (0 : UInt8)).toNat : Int) ≠ ((x6.getD ((x14).toNat) (0 : UInt8)).toNat : Int) then some false else (laws_eqByteS.l0 k23 x1 x6 (IntKind.i64.wrap (x14 + 1)))) else none) else none) else some true)
def laws_eqByteS.f (k : Nat) (x1 : List UInt8) (x6 : List UInt8) : Option Bool := (if (x1.length : Int) ≠ (x6.length : Int) then some false else (laws_eqByteS.l0 k x1 x6 0))
theorem laws_eqByteS.calls (k : Nat) (w : World) (H : Hp) (x1 : List UInt8) (A2 : Option Addr) (c3 : Nat) (x6 : List UInt8) (A7 : Option Addr) (c8 : Nat) (h4 : Rd tByte H A2 x1) (l5 : x1.length ≤ c3) (h9 : Rd tByte H A7 x6) (l10 : x6.length ≤ c8) (S : Own [] H w) (r : Bool) (M : laws_eqByteS.f k x1 x6 = some r) :
    Calls Try.prog 48 #[.slice A2 x1.length c3, .slice A7 x6.length c8] w (fun e e_w => e = .returned (.bool r) ∧ Chg no w e_w) := by
  rw [laws_eqByteS.f] at M
  refine enter (l := [.slice A2 x1.length c3, .slice A7 x6.length c8]) 26 Try.func48 rfl rfl rfl ?_
  have S0_ := S.st
  refine wp_seq ?_
  refine wp_region_lit ?_
  refine lv (d := 4) rfl rfl (by kernel_rfl) (e_assign (v := .bool false) rfl) ?_
  refine wpList_nil ?_
  refine then_n ?_
  refine wp_seq ?_
  refine wp_seq ?_
  refine wp_region_lit ?_
  refine lv (d := 6) rfl rfl (by kernel_rfl) (e_move (v := .slice A2 x1.length c3) (by kernel_rfl)) ?_
  refine lv (d := 7) rfl rfl (by kernel_rfl) (e_len (A := A2) (n := x1.length) (c := c3) Try.underlying32 (by kernel_rfl)) ?_
  refine lv (d := 8) rfl rfl (by kernel_rfl) (e_move (v := .slice A7 x6.length c8) (by kernel_rfl)) ?_
  refine lv (d := 9) rfl rfl (by kernel_rfl) (e_len (A := A7) (n := x6.length) (c := c8) Try.underlying32 (by kernel_rfl)) ?_
  refine lv (d := 10) rfl rfl (by kernel_rfl) (e_neq (k := .i64) (a := (x1.length : Int)) (b := (x6.length : Int)) (by kernel_rfl) (by kernel_rfl)) ?_
  refine wpList_nil ?_
  refine then_n ?_
  by_cases q11 : (x1.length : Int) ≠ (x6.length : Int)
  · replace M := ifp q11 M
    refine cond_t rfl (bt q11 (by kernel_rfl)) ?_
    refine wp_seq ?_
    refine wp_region_lit ?_
    refine lv (d := 4) rfl rfl (by kernel_rfl) (e_assign (v := .bool false) rfl) ?_
    refine wpList_nil ?_
    refine then_n ?_
    refine wp_ret ?_
    refine then_r ?_
    obtain rfl := Option.some.inj M
    exact ret1 rfl rfl  (show _ = .bool false from (by kernel_rfl)) ⟨rfl, S0_.chg⟩
  replace M := ifn q11 M
  refine cond_f rfl (bf q11 (by kernel_rfl)) ?_
  refine wp_skip ?_
  refine then_n ?_
  refine wp_seq ?_
  refine wp_seq ?_
  refine wp_region_lit ?_
  refine lv (d := 5) rfl rfl (by kernel_rfl) (e_assign (v := .int .i64 0) rfl) ?_
  refine wpList_nil ?_
  refine then_n ?_
  refine wp_block ?_
  refine wp_loop_g (fun k21 a22 w12 => ∃ (f13 : Nat → Value) (x14 : Int), a22 = mk 26 f13 ∧ f13 0 = .slice A2 x1.length c3 ∧ f13 1 = .slice A7 x6.length c8 ∧ f13 5 = .int .i64 x14 ∧ St (anyOf []) H w [] H w12 ∧ laws_eqByteS.l0 k21 x1 x6 x14 = some r) k ⟨_, 0, rfl, (by kernel_rfl), (by kernel_rfl), (by kernel_rfl), S0_, M⟩ ?_
  clear M
  rintro k21 a22 w12 ⟨f13, x14, rfl, e15, e16, e17, S18, M⟩
  rcases k21 with _ | k23
  · rw [laws_eqByteS.l0] at M
    cases M
  rw [laws_eqByteS.l0] at M
  refine wp_seq ?_
  refine wp_seq ?_
  refine wp_region_lit ?_
  refine lv (d := 11) rfl rfl (by kernel_rfl) (e_move (v := .int .i64 x14) (by exact e17)) ?_
  refine lv (d := 12) rfl rfl (by kernel_rfl) (e_move (v := .slice A2 x1.length c3) (by exact e15)) ?_
  refine lv (d := 13) rfl rfl (by kernel_rfl) (e_len (A := A2) (n := x1.length) (c := c3) Try.underlying32 (by kernel_rfl)) ?_
  refine lv (d := 14) rfl rfl (by kernel_rfl) (e_lss (k := .i64) (a := x14) (b := (x1.length : Int)) (by kernel_rfl) (by kernel_rfl)) ?_
  refine wpList_nil ?_
  refine then_n ?_
  by_cases q24 : x14 < (x1.length : Int)
  · replace M := ifp q24 M
    refine cond_t rfl (bt q24 (by kernel_rfl)) ?_
    refine wp_skip ?_
    refine then_n ?_
    refine wp_seq ?_
    refine wp_block ?_
    refine wp_seq ?_
    refine region_still (by kernel_rfl) (by kernel_rfl) S18 ?_
    intro w25 S26 K27
    refine sv (d := 17) rfl rfl (by kernel_rfl) (e_move (v := .slice A2 x1.length c3) (by exact e15)) ?_
    refine sv (d := 18) rfl rfl (by kernel_rfl) (e_move (v := .int .i64 x14) (by exact e17)) ?_
    obtain ⟨q28, M⟩ := chk M
    obtain ⟨b29, o30, e31⟩ := Rd.addr h4 (show (x14).toNat < x1.length by omega)
    obtain ⟨y32, r33, k34⟩ := Rd.at h4 e31 (getD_some (0 : UInt8) (show (x14).toNat < x1.length by omega))
    obtain rfl := r33
    refine sv (d := 19) rfl rfl (by kernel_rfl) (e_indexAddr (b := b29) (off := o30) (n := x1.length) (c := c3) (sz := 1) (i := x14) (k := .i64) Try.underlying32 e31 (by kernel_rfl) (by kernel_rfl) (by kernel_rfl) q28 q24) ?_
    refine sv (d := 20) rfl rfl (by kernel_rfl) (e_load1 (ad := ⟨b29, o30 + (x14 : Int).toNat * 1, none⟩) (v := .int .u8 ((x1.getD ((x14).toNat) (0 : UInt8)).toNat : Int)) Try.underlying5 rfl (by kernel_rfl) (hpx (S26.inv.cell (k34 0 _ rfl)))) ?_
    refine sv (d := 21) rfl rfl (by kernel_rfl) (e_move (v := .slice A7 x6.length c8) (by exact e16)) ?_
    refine sv (d := 22) rfl rfl (by kernel_rfl) (e_move (v := .int .i64 x14) (by exact e17)) ?_
    obtain ⟨q35, M⟩ := chk M
    obtain ⟨b36, o37, e38⟩ := Rd.addr h9 (show (x14).toNat < x6.length by omega)
    obtain ⟨y39, r40, k41⟩ := Rd.at h9 e38 (getD_some (0 : UInt8) (show (x14).toNat < x6.length by omega))
    obtain rfl := r40
    refine sv (d := 23) rfl rfl (by kernel_rfl) (e_indexAddr (b := b36) (off := o37) (n := x6.length) (c := c8) (sz := 1) (i := x14) (k := .i64) Try.underlying32 e38 (by kernel_rfl) (by kernel_rfl) (by kernel_rfl) q28 q35) ?_
    refine sv (d := 24) rfl rfl (by kernel_rfl) (e_load1 (ad := ⟨b36, o37 + (x14 : Int).toNat * 1, none⟩) (v := .int .u8 ((x6.getD ((x14).toNat) (0 : UInt8)).toNat : Int)) Try.underlying5 rfl (by kernel_rfl) (hpx (S26.inv.cell (k41 0 _ rfl)))) ?_
    refine sv (d := 25) rfl rfl (by kernel_rfl) (e_neq (k := .u8) (a := ((x1.getD ((x14).toNat) (0 : UInt8)).toNat : Int)) (b := ((x6.getD ((x14).toNat) (0 : UInt8)).toNat : Int)) (by kernel_rfl) (by kernel_rfl)) ?_
    refine wpStill_nil ?_
    refine then_n ?_
    by_cases q42 : ((x1.getD ((x14).toNat) (0 : UInt8)).toNat : Int) ≠ ((x6.getD ((x14).toNat) (0 : UInt8)).toNat : Int)
    · replace M := ifp q42 M
      refine cond_t rfl (bt q42 (by kernel_rfl)) ?_
      refine wp_seq ?_
      refine wp_region_lit ?_
      refine lv (d := 4) rfl rfl (by kernel_rfl) (e_assign (v := .bool false) rfl) ?_
      refine wpList_nil ?_
      refine then_n ?_
      refine wp_ret ?_
      refine inb_r ?_
      refine then_r ?_
      refine then_r ?_
      refine inb_r ?_
      refine then_r ?_
      obtain rfl := Option.some.inj M
      exact ret1 rfl rfl  (show _ = .bool false from (by kernel_rfl)) ⟨rfl, S26.chg⟩
    replace M := ifn q42 M
    refine cond_f rfl (bf q42 (by kernel_rfl)) ?_
    refine wp_skip ?_
    refine inb_n ?_
    refine then_n ?_
    refine wp_region_lit ?_
    refine lv (d := 15) rfl rfl (by kernel_rfl) (e_move (v := .int .i64 x14) (by exact e17)) ?_
    refine lv (d := 16) rfl rfl (by kernel_rfl) (e_add (k := .i64) (a := x14) (b := 1) (by kernel_rfl) rfl) ?_
    refine lv (d := 5) rfl rfl (by kernel_rfl) (e_assign (v := .int .i64 (IntKind.i64.wrap (x14 + 1))) (by kernel_rfl)) ?_
    refine wpList_nil ?_
    refine then_n ?_
    exact ⟨k23, (by omega), _, (IntKind.i64.wrap (x14 + 1)), rfl, (by exact e15), (by exact e16), (by kernel_rfl), S26, M⟩
  replace M := ifn q24 M
  refine cond_f rfl (bf q24 (by kernel_rfl)) ?_
  refine wp_exit ?_
  refine then_e ?_
  refine then_e ?_
  refine inb_hit ?_
  refine then_n ?_
  refine wp_seq ?_
  refine wp_region_lit ?_
  refine lv (d := 4) rfl rfl (by kernel_rfl) (e_assign (v := .bool true) rfl) ?_
  refine wpList_nil ?_
  refine then_n ?_
  refine wp_ret ?_
  obtain rfl := Option.some.inj M
  exact ret1 rfl rfl  (show _ = .bool true from (by kernel_rfl)) ⟨rfl, S18.chg⟩

/-! laws_eqCell -/
def laws_eqCell.f (k : Nat) (x1 : Cell) (x6 : Cell) : Option Bool := (if x1.kind ≠ x6.kind then some false else (if x1.n ≠ x6.n then some false else ((laws_eqByteS.f k x1.text x6.text).bind fun t23 => (if ¬ (t23 = true) then some false else some true))))
theorem laws_eqCell.calls (k : Nat) (w : World) (H : Hp) (x1 : Cell) (A2 : Option Addr) (c3 : Nat) (x6 : Cell) (A7 : Option Addr) (c8 : Nat) (h4 : Rd tByte H A2 x1.text) (l5 : x1.text.length ≤ c3) (h9 : Rd tByte H A7 x6.text) (l10 : x6.text.length ≤ c8) (S : Own [] H w) (r : Bool) (M : laws_eqCell.f k x1 x6 = some r) :
    Calls Try.prog 22 #[.agg #[.int .i64 x1.kind, .int .i64 x1.n, .slice A2 x1.text.length c3], .agg #[.int .i64 x6.kind, .int .i64 x6.n, .slice A7 x6.text.length c8]] w (fun e e_w => e = .returned (.bool r) ∧ Chg no w e_w) := by
  rw [laws_eqCell.f] at M
  refine enter (l := [.agg #[.int .i64 x1.kind, .int .i64 x1.n, .slice A2 x1.text.length c3], .agg #[.int .i64 x6.kind, .int .i64 x6.n, .slice A7 x6.text.length c8]]) 21 Try.func22 rfl rfl rfl ?_
  have S0_ := S.st
  refine wp_seq ?_
  refine wp_region_lit ?_
  refine lve (d := 2) rfl rfl (by kernel_rfl) (new_blk (v := fun g_ => .pointer (some ⟨g_, 0, none⟩)) (cs := #[.int .i64 x1.kind, .int .i64 x1.n, .slice A2 x1.text.length c3]) (t := 36) S0_ (by kernel_rfl)) ?_
  rintro _ w11 ⟨g12, rfl, b13, S14, K15⟩
  refine lve (d := 3) rfl rfl (by kernel_rfl) (new_blk (v := fun g_ => .pointer (some ⟨g_, 0, none⟩)) (cs := #[.int .i64 x6.kind, .int .i64 x6.n, .slice A7 x6.text.length c8]) (t := 36) S14 (by kernel_rfl)) ?_
  rintro _ w16 ⟨g17, rfl, b18, S19, K20⟩
  replace b13 := K20.blk 0 rfl b13
  refine lv (d := 4) rfl rfl (by kernel_rfl) (e_assign (v := .bool false) rfl) ?_
  refine wpList_nil ?_
  refine then_n ?_
  refine wp_seq ?_
  refine wp_seq ?_
  refine wp_region_lit ?_
  refine lv (d := 5) rfl rfl (by kernel_rfl) (e_fieldAddr (b := g12) (off := 0) (o := 0) Try.underlying36 rfl rfl (sz := 1) (by kernel_rfl) (by decide) (by kernel_rfl)) ?_
  refine lv (d := 6) rfl rfl (by kernel_rfl) (e_load1 (ad := ⟨g12, 0 + 0, none⟩) (v := .int .i64 x1.kind) Try.underlying3 rfl (by kernel_rfl) (blk_cell b13 rfl)) ?_
  refine lv (d := 7) rfl rfl (by kernel_rfl) (e_fieldAddr (b := g17) (off := 0) (o := 0) Try.underlying36 rfl rfl (sz := 1) (by kernel_rfl) (by decide) (by kernel_rfl)) ?_
  refine lv (d := 8) rfl rfl (by kernel_rfl) (e_load1 (ad := ⟨g17, 0 + 0, none⟩) (v := .int .i64 x6.kind) Try.underlying3 rfl (by kernel_rfl) (blk_cell b18 rfl)) ?_
  refine lv (d := 9) rfl rfl (by kernel_rfl) (e_neq (k := .i64) (a := x1.kind) (b := x6.kind) (by kernel_rfl) (by kernel_rfl)) ?_
  refine wpList_nil ?_
  refine then_n ?_
  by_cases q21 : x1.kind ≠ x6.kind
  · replace M := ifp q21 M
    refine cond_t rfl (bt q21 (by kernel_rfl)) ?_
    refine wp_seq ?_
    refine wp_region_lit ?_
    refine lv (d := 4) rfl rfl (by kernel_rfl) (e_assign (v := .bool false) rfl) ?_
    refine wpList_nil ?_
    refine then_n ?_
    refine wp_ret ?_
    refine then_r ?_
    obtain rfl := Option.some.inj M
    exact ret1 rfl rfl  (show _ = .bool false from (by kernel_rfl)) ⟨rfl, S19.chg⟩
  replace M := ifn q21 M
  refine cond_f rfl (bf q21 (by kernel_rfl)) ?_
  refine wp_skip ?_
  refine then_n ?_
  refine wp_seq ?_
  refine wp_seq ?_
  refine wp_region_lit ?_
  refine lv (d := 10) rfl rfl (by kernel_rfl) (e_fieldAddr (b := g12) (off := 0) (o := 1) Try.underlying36 rfl rfl (sz := 1) (by kernel_rfl) (by decide) (by kernel_rfl)) ?_
  refine lv (d := 11) rfl rfl (by kernel_rfl) (e_load1 (ad := ⟨g12, 0 + 1, none⟩) (v := .int .i64 x1.n) Try.underlying3 rfl (by kernel_rfl) (blk_cell b13 rfl)) ?_
  refine lv (d := 12) rfl rfl (by kernel_rfl) (e_fieldAddr (b := g17) (off := 0) (o := 1) Try.underlying36 rfl rfl (sz := 1) (by kernel_rfl) (by decide) (by kernel_rfl)) ?_
  refine lv (d := 13) rfl rfl (by kernel_rfl) (e_load1 (ad := ⟨g17, 0 + 1, none⟩) (v := .int .i64 x6.n) Try.underlying3 rfl (by kernel_rfl) (blk_cell b18 rfl)) ?_
  refine lv (d := 14) rfl rfl (by kernel_rfl) (e_neq (k := .i64) (a := x1.n) (b := x6.n) (by kernel_rfl) (by kernel_rfl)) ?_
  refine wpList_nil ?_
  refine then_n ?_
  by_cases q22 : x1.n ≠ x6.n
  · replace M := ifp q22 M
    refine cond_t rfl (bt q22 (by kernel_rfl)) ?_
    refine wp_seq ?_
    refine wp_region_lit ?_
    refine lv (d := 4) rfl rfl (by kernel_rfl) (e_assign (v := .bool false) rfl) ?_
    refine wpList_nil ?_
    refine then_n ?_
    refine wp_ret ?_
    refine then_r ?_
    obtain rfl := Option.some.inj M
    exact ret1 rfl rfl  (show _ = .bool false from (by kernel_rfl)) ⟨rfl, S19.chg⟩
  replace M := ifn q22 M
  refine cond_f rfl (bf q22 (by kernel_rfl)) ?_
  refine wp_skip ?_
  refine then_n ?_
  refine wp_seq ?_
  refine wp_seq ?_
  refine wp_region_lit ?_
  refine lv (d := 15) rfl rfl (by kernel_rfl) (e_fieldAddr (b := g12) (off := 0) (o := 2) Try.underlying36 rfl rfl (sz := 1) (by kernel_rfl) (by decide) (by kernel_rfl)) ?_
  refine lv (d := 16) rfl rfl (by kernel_rfl) (e_load1 (ad := ⟨g12, 0 + 2, none⟩) (v := .slice A2 x1.text.length c3) Try.underlying32 rfl (by kernel_rfl) (blk_cell b13 rfl)) ?_
  refine lv (d := 17) rfl rfl (by kernel_rfl) (e_fieldAddr (b := g17) (off := 0) (o := 2) Try.underlying36 rfl rfl (sz := 1) (by kernel_rfl) (by decide) (by kernel_rfl)) ?_
  refine lv (d := 18) rfl rfl (by kernel_rfl) (e_load1 (ad := ⟨g17, 0 + 2, none⟩) (v := .slice A7 x6.text.length c8) Try.underlying32 rfl (by kernel_rfl) (blk_cell b18 rfl)) ?_
  obtain ⟨t23, u24, M⟩ := bnd M
  refine lcall (d := 19) rfl rfl (by kernel_rfl) (e_call (l := [.tmp 16, .tmp 18]) (vs := [.slice A2 x1.text.length c3, .slice A7 x6.text.length c8]) Try.func48 (by kernel_rfl) rfl (by kernel_rfl) rfl) (laws_eqByteS.calls k w16 H x1.text A2 c3 x6.text A7 c8 h4 l5 h9 l10 S19.own0 t23 u24) ?_
  rintro _ w25 ⟨rfl, C26⟩
  refine ⟨_, rfl, ?_⟩
  obtain ⟨S27, K28⟩ := S19.still C26
  replace b18 := K28.blk 0 rfl b18
  replace b13 := K28.blk 1 rfl b13
  refine lv (d := 20) rfl rfl (by kernel_rfl) (e_notv (c := t23) (by kernel_rfl)) ?_
  refine wpList_nil ?_
  refine then_n ?_
  by_cases q29 : ¬ (t23 = true)
  · replace M := ifp q29 M
    refine cond_t rfl (bt q29 (by kernel_rfl)) ?_
    refine wp_seq ?_
    refine wp_region_lit ?_
    refine lv (d := 4) rfl rfl (by kernel_rfl) (e_assign (v := .bool false) rfl) ?_
    refine wpList_nil ?_
    refine then_n ?_
    refine wp_ret ?_
    refine then_r ?_
    obtain rfl := Option.some.inj M
    exact ret1 rfl rfl  (show _ = .bool false from (by kernel_rfl)) ⟨rfl, S27.chg⟩
  replace M := ifn q29 M
  refine cond_f rfl (bf q29 (by kernel_rfl)) ?_
  refine wp_skip ?_
  refine then_n ?_
  refine wp_seq ?_
  refine wp_region_lit ?_
  refine lv (d := 4) rfl rfl (by kernel_rfl) (e_assign (v := .bool true) rfl) ?_
  refine wpList_nil ?_
  refine then_n ?_
  refine wp_ret ?_
  obtain rfl := Option.some.inj M
  exact ret1 rfl rfl  (show _ = .bool true from (by kernel_rfl)) ⟨rfl, S27.chg⟩

/-! laws_eqCellS -/
def laws_eqCellS.l0 : Nat → (List Cell) → (List Cell) → Int → Option Bool
  | 0, _, _, _ => none
  | k23 + 1, x1, x6, x14 => (if x14 < (x1.length : Int) then (if 0 ≤ x14 then (if x14 < (x6.length : Int) then ((laws_eqCell.f k23 (x1.getD ((x14).toNat) z36) (x6.getD ((x14).toNat) z36)).bind fun t47 => (if ¬ (t47 = true) then some false else (laws_eqCellS.l0 k23 x1 x6 (IntKind.i64.wrap (x14 + 1))))) else none) else none) else some true)
def laws_eqCellS.f (k : Nat) (x1 : List Cell) (x6 : List Cell) : Option Bool := (if (x1.length : Int) ≠ (x6.length : Int) then some false else (laws_eqCellS.l0 k x1 x6 0))
theorem laws_eqCellS.calls (k : Nat) (w : World) (H : Hp) (x1 : List Cell) (A2 : Option Addr) (c3 : Nat) (x6 : List Cell) (A7 : Option Addr) (c8 : Nat) (h4 : Rd st36 H A2 x1) (l5 : x1.length ≤ c3) (h9 : Rd st36 H A7 x6) (l10 : x6.length ≤ c8) (S : Own [] H w) (r : Bool) (M : laws_eqCellS.f k x1 x6 = some r) :
    Calls Try.prog 9 #[.slice A2 x1.length c3, .slice A7 x6.length c8] w (fun e e_w => e = .returned (.bool r) ∧ Chg no w e_w) := by
  rw [laws_eqCellS.f] at M
  refine enter (l := [.slice A2 x1.length c3, .slice A7 x6.length c8]) 27 Try.func9 rfl rfl rfl ?_
  have S0_ := S.st
  refine wp_seq ?_
  refine wp_region_lit ?_
  refine lv (d := 4) rfl rfl (by kernel_rfl) (e_assign (v := .bool false) rfl) ?_
  refine wpList_nil ?_
  refine then_n ?_
  refine wp_seq ?_
  refine wp_seq ?_
  refine wp_region_lit ?_
  refine lv (d := 6) rfl rfl (by kernel_rfl) (e_move (v := .slice A2 x1.length c3) (by kernel_rfl)) ?_
  refine lv (d := 7) rfl rfl (by kernel_rfl) (e_len (A := A2) (n := x1.length) (c := c3) Try.underlying24 (by kernel_rfl)) ?_
  refine lv (d := 8) rfl rfl (by kernel_rfl) (e_move (v := .slice A7 x6.length c8) (by kernel_rfl)) ?_
  refine lv (d := 9) rfl rfl (by kernel_rfl) (e_len (A := A7) (n := x6.length) (c := c8) Try.underlying24 (by kernel_rfl)) ?_
  refine lv (d := 10) rfl rfl (by kernel_rfl) (e_neq (k := .i64) (a := (x1.length : Int)) (b := (x6.length : Int)) (by kernel_rfl) (by kernel_rfl)) ?_
  refine wpList_nil ?_
  refine then_n ?_
  by_cases q11 : (x1.length : Int) ≠ (x6.length : Int)
  · replace M := ifp q11 M
    refine cond_t rfl (bt q11 (by kernel_rfl)) ?_
    refine wp_seq ?_
    refine wp_region_lit ?_
    refine lv (d := 4) rfl rfl (by kernel_rfl) (e_assign (v := .bool false) rfl) ?_
    refine wpList_nil ?_
    refine then_n ?_
    refine wp_ret ?_
    refine then_r ?_
    obtain rfl := Option.some.inj M
    exact ret1 rfl rfl  (show _ = .bool false from (by kernel_rfl)) ⟨rfl, S0_.chg⟩
  replace M := ifn q11 M
  refine cond_f rfl (bf q11 (by kernel_rfl)) ?_
  refine wp_skip ?_
  refine then_n ?_
  refine wp_seq ?_
  refine wp_seq ?_
  refine wp_region_lit ?_
  refine lv (d := 5) rfl rfl (by kernel_rfl) (e_assign (v := .int .i64 0) rfl) ?_
  refine wpList_nil ?_
  refine then_n ?_
  refine wp_block ?_
  refine wp_loop_g (fun k21 a22 w12 => ∃ (f13 : Nat → Value) (x14 : Int), a22 = mk 27 f13 ∧ f13 0 = .slice A2 x1.length c3 ∧ f13 1 = .slice A7 x6.length c8 ∧ f13 5 = .int .i64 x14 ∧ St (anyOf []) H w [] H w12 ∧ laws_eqCellS.l0 k21 x1 x6 x14 = some r) k ⟨_, 0, rfl, (by kernel_rfl), (by kernel_rfl), (by kernel_rfl), S0_, M⟩ ?_
  clear M
  rintro k21 a22 w12 ⟨f13, x14, rfl, e15, e16, e17, S18, M⟩
  rcases k21 with _ | k23
  · rw [laws_eqCellS.l0] at M
    cases M
  rw [laws_eqCellS.l0] at M
  refine wp_seq ?_
  refine wp_seq ?_
  refine wp_region_lit ?_
  refine lv (d := 11) rfl rfl (by kernel_rfl) (e_move (v := .int .i64 x14) (by exact e17)) ?_
  refine lv (d := 12) rfl rfl (by kernel_rfl) (e_move (v := .slice A2 x1.length c3) (by exact e15)) ?_
  refine lv (d := 13) rfl rfl (by kernel_rfl) (e_len (A := A2) (n := x1.length) (c := c3) Try.underlying24 (by kernel_rfl)) ?_
  refine lv (d := 14) rfl rfl (by kernel_rfl) (e_lss (k := .i64) (a := x14) (b := (x1.length : Int)) (by kernel_rfl) (by kernel_rfl)) ?_
  refine wpList_nil ?_
  refine then_n ?_
  by_cases q24 : x14 < (x1.length : Int)
  · replace M := ifp q24 M
    refine cond_t rfl (bt q24 (by kernel_rfl)) ?_
    refine wp_skip ?_
    refine then_n ?_
    refine wp_seq ?_
    refine wp_block ?_
    refine wp_seq ?_
    refine region_quiet (by kernel_rfl) (by kernel_rfl) ?_
    refine qv (d := 17) rfl rfl (by kernel_rfl) (fun wq_ hq_ => e_move (v := .slice A2 x1.length c3) (by exact e15)) ?_
    refine qv (d := 18) rfl rfl (by kernel_rfl) (fun wq_ hq_ => e_move (v := .int .i64 x14) (by exact e17)) ?_
    obtain ⟨q25, M⟩ := chk M
    obtain ⟨b26, o27, e28⟩ := Rd.addr h4 (show (x14).toNat < x1.length by omega)
    obtain ⟨y29, r30, k31⟩ := Rd.at h4 e28 (getD_some z36 (show (x14).toNat < x1.length by omega))
    obtain ⟨A32, c33, rfl, l34, h35⟩ := st36_open r30
    refine qv (d := 19) rfl rfl (by kernel_rfl) (fun wq_ hq_ => e_indexAddr (b := b26) (off := o27) (n := x1.length) (c := c3) (sz := 3) (i := x14) (k := .i64) Try.underlying24 e28 (by kernel_rfl) (by kernel_rfl) (by kernel_rfl) q25 q24) ?_
    refine qv (d := 20) rfl rfl (by kernel_rfl) (fun wq_ hq_ => e_loadS (b := b26) (off := o27 + (x14 : Int).toNat * 3) (cs := [.int .i64 ((x1.getD ((x14).toNat) z36).kind), .int .i64 ((x1.getD ((x14).toNat) z36).n), .slice A32 ((x1.getD ((x14).toNat) z36).text).length c33]) Try.underlying36 rfl (by kernel_rfl) (by kernel_rfl) (fun j_ u_ e_ => (hpx ((S18.still hq_).1.inv.cell (k31 j_ u_ e_))))) ?_
    refine qv (d := 21) rfl rfl (by kernel_rfl) (fun wq_ hq_ => e_move (v := .slice A7 x6.length c8) (by exact e16)) ?_
    refine qv (d := 22) rfl rfl (by kernel_rfl) (fun wq_ hq_ => e_move (v := .int .i64 x14) (by exact e17)) ?_
    obtain ⟨q36, M⟩ := chk M
    obtain ⟨b37, o38, e39⟩ := Rd.addr h9 (show (x14).toNat < x6.length by omega)
    obtain ⟨y40, r41, k42⟩ := Rd.at h9 e39 (getD_some z36 (show (x14).toNat < x6.length by omega))
    obtain ⟨A43, c44, rfl, l45, h46⟩ := st36_open r41
    refine qv (d := 23) rfl rfl (by kernel_rfl) (fun wq_ hq_ => e_indexAddr (b := b37) (off := o38) (n := x6.length) (c := c8) (sz := 3) (i := x14) (k := .i64) Try.underlying24 e39 (by kernel_rfl) (by kernel_rfl) (by kernel_rfl) q25 q36) ?_
    refine qv (d := 24) rfl rfl (by kernel_rfl) (fun wq_ hq_ => e_loadS (b := b37) (off := o38 + (x14 : Int).toNat * 3) (cs := [.int .i64 ((x6.getD ((x14).toNat) z36).kind), .int .i64 ((x6.getD ((x14).toNat) z36).n), .slice A43 ((x6.getD ((x14).toNat) z36).text).length c44]) Try.underlying36 rfl (by kernel_rfl) (by kernel_rfl) (fun j_ u_ e_ => (hpx ((S18.still hq_).1.inv.cell (k42 j_ u_ e_))))) ?_
    obtain ⟨t47, u48, M⟩ := bnd M
    refine qcall (v := .bool t47) (d := 25) rfl rfl (by kernel_rfl) (fun w_ => e_call (l := [.tmp 20, .tmp 24]) (vs := [.agg #[.int .i64 ((x1.getD ((x14).toNat) z36).kind), .int .i64 ((x1.getD ((x14).toNat) z36).n), .slice A32 ((x1.getD ((x14).toNat) z36).text).length c33], .agg #[.int .i64 ((x6.getD ((x14).toNat) z36).kind), .int .i64 ((x6.getD ((x14).toNat) z36).n), .slice A43 ((x6.getD ((x14).toNat) z36).text).length c44]]) Try.func22 (by kernel_rfl) rfl (by kernel_rfl) rfl) (fun wq_ hq_ => (by obtain ⟨S_, K_⟩ := S18.still hq_; exact (laws_eqCell.calls k23 wq_ H (x1.getD ((x14).toNat) z36) A32 c33 (x6.getD ((x14).toNat) z36) A43 c44 h35 l34 h46 l45 S_.own0 t47 u48))) ?_
    refine qv (d := 26) rfl rfl (by kernel_rfl) (fun wq_ hq_ => e_notv (c := t47) (by kernel_rfl)) ?_
    refine wpQuiet_nil ?_
    intro w49 C52
    obtain ⟨S50, K51⟩ := S18.still C52
    refine then_n ?_
    by_cases q53 : ¬ (t47 = true)
    · replace M := ifp q53 M
      refine cond_t rfl (bt q53 (by kernel_rfl)) ?_
      refine wp_seq ?_
      refine wp_region_lit ?_
      refine lv (d := 4) rfl rfl (by kernel_rfl) (e_assign (v := .bool false) rfl) ?_
      refine wpList_nil ?_
      refine then_n ?_
      refine wp_ret ?_
      refine inb_r ?_
      refine then_r ?_
      refine then_r ?_
      refine inb_r ?_
      refine then_r ?_
      obtain rfl := Option.some.inj M
      exact ret1 rfl rfl  (show _ = .bool false from (by kernel_rfl)) ⟨rfl, S50.chg⟩
    replace M := ifn q53 M
    refine cond_f rfl (bf q53 (by kernel_rfl)) ?_
    refine wp_skip ?_
    refine inb_n ?_
    refine then_n ?_
    refine wp_region_lit ?_
    refine lv (d := 15) rfl rfl (by kernel_rfl) (e_move (v := .int .i64 x14) (by exact e17)) ?_
    refine lv (d := 16) rfl rfl (by kernel_rfl) (e_add (k := .i64) (a := x14) (b := 1) (by kernel_rfl) rfl) ?_
    refine lv (d := 5) rfl rfl (by kernel_rfl) (e_assign (v := .int .i64 (IntKind.i64.wrap (x14 + 1))) (by kernel_rfl)) ?_
    refine wpList_nil ?_
    refine then_n ?_
    exact ⟨k23, (by omega), _, (IntKind.i64.wrap (x14 + 1)), rfl, (by exact e15), (by exact e16), (by kernel_rfl), S50, M⟩
  replace M := ifn q24 M
  refine cond_f rfl (bf q24 (by kernel_rfl)) ?_
  refine wp_exit ?_
  refine then_e ?_
  refine then_e ?_
  refine inb_hit ?_
  refine then_n ?_
  refine wp_seq ?_
  refine wp_region_lit ?_
  refine lv (d := 4) rfl rfl (by kernel_rfl) (e_assign (v := .bool true) rfl) ?_
  refine wpList_nil ?_
  refine then_n ?_
  refine wp_ret ?_
  obtain rfl := Option.some.inj M
  exact ret1 rfl rfl  (show _ = .bool true from (by kernel_rfl)) ⟨rfl, S18.chg⟩

/-! laws_markByteS -/
def laws_markByteS_2.l0 : Nat → (List UInt8) → Int → Int → (List UInt8) → Option (Int × (List UInt8))
  | 0, _, _, _, _ => none
  | k22 + 1, x1, x9, x10, x12 => (if x10 < (x1.length : Int) then (if 0 ≤ x10 then (laws_markByteS_2.l0 k22 x1 (IntKind.i64.wrap (x9 + 1)) (IntKind.i64.wrap (x10 + 1)) (x12.set ((x10).toNat) (b8 (x9)))) else none) else some (x9, x12))
def laws_markByteS_2.f (k : Nat) (x1 : List UInt8) (x6 : Int) : Option (Int × (List UInt8)) := (laws_markByteS_2.l0 k x1 x6 0 x1)
theorem laws_markByteS_2.calls (k : Nat) (w : World) (H : Hp) (x1 : List UInt8) (A2 : Option Addr) (c3 : Nat) (F5 : Foot) (x6 : Int) (h4 : Row tByte 5 H (hp w) F5 A2 c3 x1) (S : Own [F5] H w) (r : Int × (List UInt8)) (M : laws_markByteS_2.f k x1 x6 = some r) :
    Calls Try.prog 23 #[.slice A2 x1.length c3, .int .i64 x6] w (fun e e_w => ∃ (F_1 : Foot) (H_ : Hp), e = .returned (.int .i64 r.1) ∧ r.2.length = x1.length ∧ Row tByte 5 H_ (hp e_w) F_1 A2 c3 r.2 ∧ St (anyOf [F5]) H w [F_1] H_ e_w) := by
  rw [laws_markByteS_2.f] at M
  refine enter (l := [.slice A2 x1.length c3, .int .i64 x6]) 20 Try.func23 rfl rfl rfl ?_
  have S0_ := S.st
  refine wp_seq ?_
  refine wp_region_lit ?_
  refine lv (d := 4) rfl rfl (by kernel_rfl) (e_assign (v := .int .i64 0) rfl) ?_
  refine wpList_nil ?_
  refine then_n ?_
  refine wp_seq ?_
  refine wp_seq ?_
  refine wp_region_lit ?_
  refine lv (d := 5) rfl rfl (by kernel_rfl) (e_assign (v := .int .i64 0) rfl) ?_
  refine wpList_nil ?_
  refine then_n ?_
  refine wp_block ?_
  refine wp_loop_g (fun k20 a21 w7 => ∃ (f8 : Nat → Value) (x9 : Int) (x10 : Int) (F11 : Foot) (x12 : List UInt8), a21 = mk 20 f8 ∧ f8 0 = .slice A2 x1.length c3 ∧ f8 1 = .int .i64 x9 ∧ f8 5 = .int .i64 x10 ∧ Row tByte 5 H (hp w7) F11 A2 c3 x12 ∧ x12.length = x1.length ∧ St (anyOf [F5]) H w [F11] H w7 ∧ laws_markByteS_2.l0 k20 x1 x9 x10 x12 = some r) k ⟨_, x6, 0, F5, x1, rfl, (by kernel_rfl), (by kernel_rfl), (by kernel_rfl), h4, rfl, S0_, M⟩ ?_
  clear M
  rintro k20 a21 w7 ⟨f8, x9, x10, F11, x12, rfl, e14, e15, e16, h4, n13, S17, M⟩
  rcases k20 with _ | k22
  · rw [laws_markByteS_2.l0] at M
    cases M
  rw [laws_markByteS_2.l0] at M
  refine wp_seq ?_
  refine wp_seq ?_
  refine wp_region_lit ?_
  refine lv (d := 6) rfl rfl (by kernel_rfl) (e_move (v := .int .i64 x10) (by exact e16)) ?_
  refine lv (d := 7) rfl rfl (by kernel_rfl) (e_move (v := .slice A2 x1.length c3) (by exact e14)) ?_
  refine lv (d := 8) rfl rfl (by kernel_rfl) (e_len (A := A2) (n := x1.length) (c := c3) Try.underlying32 (by kernel_rfl)) ?_
  refine lv (d := 9) rfl rfl (by kernel_rfl) (e_lss (k := .i64) (a := x10) (b := (x1.length : Int)) (by kernel_rfl) (by kernel_rfl)) ?_
  refine wpList_nil ?_
  refine then_n ?_
  by_cases q23 : x10 < (x1.length : Int)
  · replace M := ifp q23 M
    refine cond_t rfl (bt q23 (by kernel_rfl)) ?_
    refine wp_skip ?_
    refine then_n ?_
    refine wp_seq ?_
    refine wp_block ?_
    refine wp_seq ?_
    refine wp_region_lit ?_
    refine lv (d := 12) rfl rfl (by kernel_rfl) (e_move (v := .slice A2 x1.length c3) (by exact e14)) ?_
    refine lv (d := 13) rfl rfl (by kernel_rfl) (e_move (v := .int .i64 x10) (by exact e16)) ?_
    refine lv (d := 14) rfl rfl (by kernel_rfl) (e_move (v := .int .i64 x9) (by exact e15)) ?_
    refine lv (d := 15) rfl rfl (by kernel_rfl) (e_conv_i8 (k := .i64) (a := x9) (by kernel_rfl) Try.underlying5 (by kernel_rfl)) ?_
    obtain ⟨q24, M⟩ := chk M
    obtain ⟨b25, e27⟩ := Row.addr h4 (show (x10).toNat < x12.length by have : x12.length = x1.length := n13; omega)
    refine lv (d := 16) rfl rfl (by kernel_rfl) (e_indexAddr (b := b25) (off := 0) (n := x1.length) (c := c3) (sz := 1) (i := x10) (k := .i64) Try.underlying32 e27 (by kernel_rfl) (by kernel_rfl) (by kernel_rfl) q24 q23) ?_
    have S28 := S17.unit
    have S29 := S28.pull (F := F11) (Fr := [no]) 1 rfl rfl
    refine lse rfl rfl (by kernel_rfl) (e_setel (d := tByte) (b := b25) (i := (x10).toNat) (v := .int .u8 ((b8 (x9)).toNat : Int)) (vs := [.int .u8 ((b8 (x9)).toNat : Int)]) (yv := (b8 (x9))) S29 (by kernel_rfl) e27 (by kernel_rfl) rfl (by kernel_rfl) h4 (show (x10).toNat < x12.length by have : x12.length = x1.length := n13; omega) rfl) ?_
    rintro w30 ⟨F32, h31, S33, K34⟩
    clear h4
    refine wpList_nil ?_
    refine then_n ?_
    refine wp_region_lit ?_
    refine lv (d := 17) rfl rfl (by kernel_rfl) (e_move (v := .int .i64 x9) (by exact e15)) ?_
    refine lv (d := 18) rfl rfl (by kernel_rfl) (e_add (k := .i64) (a := x9) (b := 1) (by kernel_rfl) rfl) ?_
    refine lv (d := 1) rfl rfl (by kernel_rfl) (e_assign (v := .int .i64 (IntKind.i64.wrap (x9 + 1))) (by kernel_rfl)) ?_
    refine wpList_nil ?_
    refine inb_n ?_
    refine then_n ?_
    refine wp_region_lit ?_
    refine lv (d := 10) rfl rfl (by kernel_rfl) (e_move (v := .int .i64 x10) (by exact e16)) ?_
    refine lv (d := 11) rfl rfl (by kernel_rfl) (e_add (k := .i64) (a := x10) (b := 1) (by kernel_rfl) rfl) ?_
    refine lv (d := 5) rfl rfl (by kernel_rfl) (e_assign (v := .int .i64 (IntKind.i64.wrap (x10 + 1))) (by kernel_rfl)) ?_
    refine wpList_nil ?_
    refine then_n ?_
    exact ⟨k22, (by omega), _, (IntKind.i64.wrap (x9 + 1)), (IntKind.i64.wrap (x10 + 1)), F32, (x12.set ((x10).toNat) (b8 (x9))), rfl, (by exact e14), (by kernel_rfl), (by kernel_rfl), h31, (List.length_set.trans n13), S33, M⟩
  replace M := ifn q23 M
  refine cond_f rfl (bf q23 (by kernel_rfl)) ?_
  refine wp_exit ?_
  refine then_e ?_
  refine then_e ?_
  refine inb_hit ?_
  refine then_n ?_
  refine wp_seq ?_
  refine wp_region_lit ?_
  refine lv (d := 19) rfl rfl (by kernel_rfl) (e_move (v := .int .i64 x9) (by exact e15)) ?_
  refine lv (d := 4) rfl rfl (by kernel_rfl) (e_assign (v := .int .i64 x9) (by kernel_rfl)) ?_
  refine wpList_nil ?_
  refine then_n ?_
  refine wp_ret ?_
  obtain rfl := Option.some.inj M
  exact ret1 rfl rfl  (show _ = .int .i64 x9 from (by kernel_rfl)) ⟨F11, H, rfl, n13, h4, S17⟩

/-! laws_markCellS -/
def laws_markCellS_2.l0 : Nat → (List Cell) → Int → Int → (List Cell) → Option (Int × (List Cell))
  | 0, _, _, _, _ => none
  | k24 + 1, x1, x11, x12, x14 => (if x12 < (x1.length : Int) then (if 0 ≤ x12 then ((laws_markByteS_2.f k24 ((((x14.set ((x12).toNat) ({(x14.getD ((x12).toNat) z36) with kind := x11})).set ((x12).toNat) ({((x14.set ((x12).toNat) ({(x14.getD ((x12).toNat) z36) with kind := x11})).getD ((x12).toNat) z36) with n := (IntKind.i64.wrap (x11 + 1))})).getD ((x12).toNat) z36).text) (IntKind.i64.wrap ((IntKind.i64.wrap (x11 + 1)) + 1))).bind fun t71 => (laws_markCellS_2.l0 k24 x1 t71.1 (IntKind.i64.wrap (x12 + 1)) (((x14.set ((x12).toNat) ({(x14.getD ((x12).toNat) z36) with kind := x11})).set ((x12).toNat) ({((x14.set ((x12).toNat) ({(x14.getD ((x12).toNat) z36) with kind := x11})).getD ((x12).toNat) z36) with n := (IntKind.i64.wrap (x11 + 1))})).set ((x12).toNat) ({(((x14.set ((x12).toNat) ({(x14.getD ((x12).toNat) z36) with kind := x11})).set ((x12).toNat) ({((x14.set ((x12).toNat) ({(x14.getD ((x12).toNat) z36) with kind := x11})).getD ((x12).toNat) z36) with n := (IntKind.i64.wrap (x11 + 1))})).getD ((x12).toNat) z36) with text := t71.2})))) else none) else some (x11, x14))
def laws_markCellS_2.f (k : Nat) (x1 : List Cell) (x6 : Int) : Option (Int × (List Cell)) := (laws_markCellS_2.l0 k x1 x6 0 x1)
theorem laws_markCellS_2.calls (k : Nat) (w : World) (H : Hp) (x1 : List Cell) (A2 : Option Addr) (c3 : Nat) (F5 : Foot) (x6 : Int) (h4 : Row st36 36 H (hp w) F5 A2 c3 x1) (S : Own [F5] H w) (r : Int × (List Cell)) (M : laws_markCellS_2.f k x1 x6 = some r) :
    Calls Try.prog 10 #[.slice A2 x1.length c3, .int .i64 x6] w (fun e e_w => ∃ (F_1 : Foot) (H_ : Hp), e = .returned (.int .i64 r.1) ∧ r.2.length = x1.length ∧ Row st36 36 H_ (hp e_w) F_1 A2 c3 r.2 ∧ St (anyOf [F5]) H w [F_1] H_ e_w) := by
  rw [laws_markCellS_2.f] at M
  refine enter (l := [.slice A2 x1.length c3, .int .i64 x6]) 34 Try.func10 rfl rfl rfl ?_
  have S0_ := S.st
  refine wp_seq ?_
  refine wp_region_lit ?_
  refine lv (d := 4) rfl rfl (by kernel_rfl) (e_assign (v := .int .i64 0) rfl) ?_
  refine wpList_nil ?_
  refine then_n ?_
  refine wp_seq ?_
  refine wp_seq ?_
  refine wp_region_lit ?_
  refine lv (d := 5) rfl rfl (by kernel_rfl) (e_assign (v := .int .i64 0) rfl) ?_
  refine wpList_nil ?_
  refine then_n ?_
  refine wp_block ?_
  refine wp_loop_g (fun k22 a23 w7 => ∃ (f8 : Nat → Value) (H9 : Hp) (x11 : Int) (x12 : Int) (F13 : Foot) (x14 : List Cell), a23 = mk 34 f8 ∧ f8 0 = .slice A2 x1.length c3 ∧ f8 1 = .int .i64 x11 ∧ f8 5 = .int .i64 x12 ∧ Row st36 36 H9 (hp w7) F13 A2 c3 x14 ∧ x14.length = x1.length ∧ Ext H H9 ∧ St (anyOf [F5]) H w [F13] H9 w7 ∧ laws_markCellS_2.l0 k22 x1 x11 x12 x14 = some r) k ⟨_, H, x6, 0, F5, x1, rfl, (by kernel_rfl), (by kernel_rfl), (by kernel_rfl), h4, rfl, (Ext.refl _), S0_, M⟩ ?_
  clear M
  rintro k22 a23 w7 ⟨f8, H9, x11, x12, F13, x14, rfl, e16, e17, e18, h4, n15, Y10, S19, M⟩
  rcases k22 with _ | k24
  · rw [laws_markCellS_2.l0] at M
    cases M
  rw [laws_markCellS_2.l0] at M
  refine wp_seq ?_
  refine wp_seq ?_
  refine wp_region_lit ?_
  refine lv (d := 6) rfl rfl (by kernel_rfl) (e_move (v := .int .i64 x12) (by exact e18)) ?_
  refine lv (d := 7) rfl rfl (by kernel_rfl) (e_move (v := .slice A2 x1.length c3) (by exact e16)) ?_
  refine lv (d := 8) rfl rfl (by kernel_rfl) (e_len (A := A2) (n := x1.length) (c := c3) Try.underlying24 (by kernel_rfl)) ?_
  refine lv (d := 9) rfl rfl (by kernel_rfl) (e_lss (k := .i64) (a := x12) (b := (x1.length : Int)) (by kernel_rfl) (by kernel_rfl)) ?_
  refine wpList_nil ?_
  refine then_n ?_
  by_cases q25 : x12 < (x1.length : Int)
  · replace M := ifp q25 M
    refine cond_t rfl (bt q25 (by kernel_rfl)) ?_
    refine wp_skip ?_
    refine then_n ?_
    refine wp_seq ?_
    refine wp_block ?_
    refine wp_seq ?_
    refine wp_region_lit ?_
    refine lv (d := 12) rfl rfl (by kernel_rfl) (e_move (v := .slice A2 x1.length c3) (by exact e16)) ?_
    refine lv (d := 13) rfl rfl (by kernel_rfl) (e_move (v := .int .i64 x12) (by exact e18)) ?_
    refine lv (d := 14) rfl rfl (by kernel_rfl) (e_move (v := .int .i64 x11) (by exact e17)) ?_
    obtain ⟨q26, M⟩ := chk M
    obtain ⟨b27, e29⟩ := Row.addr h4 (show (x12).toNat < x14.length by have : x14.length = x1.length := n15; omega)
    refine lv (d := 15) rfl rfl (by kernel_rfl) (e_indexAddr (b := b27) (off := 0) (n := x1.length) (c := c3) (sz := 3) (i := x12) (k := .i64) Try.underlying24 e29 (by kernel_rfl) (by kernel_rfl) (by kernel_rfl) q26 q25) ?_
    refine lv (d := 16) rfl rfl (by kernel_rfl) (e_fieldAddr (b := b27) (off := 0 + (x12 : Int).toNat * 3) (o := 0) Try.underlying36 rfl rfl (sz := 1) (by kernel_rfl) (by decide) (by kernel_rfl)) ?_
    have S30 := S19.unit
    have S31 := S30.pull (F := F13) (Fr := [no]) 1 rfl rfl
    refine lse rfl rfl (by kernel_rfl) (e_setpart (d := st36) (b := b27) (i := (x12).toNat) (j := 0) (v := .int .i64 x11) (vs := [.int .i64 x11]) (yv := {(x14.getD ((x12).toNat) z36) with kind := x11}) S31 (by kernel_rfl) e29 (by kernel_rfl) rfl (by kernel_rfl) h4 (getD_some z36 (show (x12).toNat < x14.length by have : x14.length = x1.length := n15; omega)) (Nat.le_of_ble_eq_true rfl) (List.forall_mem_cons.2 ⟨rfl, (fun _ h_ => by cases h_)⟩) (fun _ _ _ o_ => st36_u0 x11 o_)) ?_
    rintro w32 ⟨F34, h33, S35, K36⟩
    clear h4
    refine wpList_nil ?_
    refine then_n ?_
    refine wp_seq ?_
    refine wp_region_lit ?_
    refine lv (d := 17) rfl rfl (by kernel_rfl) (e_move (v := .int .i64 x11) (by exact e17)) ?_
    refine lv (d := 18) rfl rfl (by kernel_rfl) (e_add (k := .i64) (a := x11) (b := 1) (by kernel_rfl) rfl) ?_
    refine lv (d := 1) rfl rfl (by kernel_rfl) (e_assign (v := .int .i64 (IntKind.i64.wrap (x11 + 1))) (by kernel_rfl)) ?_
    refine wpList_nil ?_
    refine then_n ?_
    refine wp_seq ?_
    refine wp_region_lit ?_
    refine lv (d := 19) rfl rfl (by kernel_rfl) (e_move (v := .slice A2 x1.length c3) (by exact e16)) ?_
    refine lv (d := 20) rfl rfl (by kernel_rfl) (e_move (v := .int .i64 x12) (by exact e18)) ?_
    refine lv (d := 21) rfl rfl (by kernel_rfl) (e_move (v := .int .i64 (IntKind.i64.wrap (x11 + 1))) (by kernel_rfl)) ?_
    obtain ⟨b37, e39⟩ := Row.addr h33 (show (x12).toNat < (x14.set ((x12).toNat) ({(x14.getD ((x12).toNat) z36) with kind := x11})).length by have : (x14.set ((x12).toNat) ({(x14.getD ((x12).toNat) z36) with kind := x11})).length = x1.length := (List.length_set.trans n15); omega)
    refine lv (d := 22) rfl rfl (by kernel_rfl) (e_indexAddr (b := b37) (off := 0) (n := x1.length) (c := c3) (sz := 3) (i := x12) (k := .i64) Try.underlying24 e39 (by kernel_rfl) (by kernel_rfl) (by kernel_rfl) q26 q25) ?_
    refine lv (d := 23) rfl rfl (by kernel_rfl) (e_fieldAddr (b := b37) (off := 0 + (x12 : Int).toNat * 3) (o := 1) Try.underlying36 rfl rfl (sz := 1) (by kernel_rfl) (by decide) (by kernel_rfl)) ?_
    have S40 := S35.unit
    have S41 := S40.pull (F := F34) (Fr := [no]) 1 rfl rfl
    refine lse rfl rfl (by kernel_rfl) (e_setpart (d := st36) (b := b37) (i := (x12).toNat) (j := 1) (v := .int .i64 (IntKind.i64.wrap (x11 + 1))) (vs := [.int .i64 (IntKind.i64.wrap (x11 + 1))]) (yv := {((x14.set ((x12).toNat) ({(x14.getD ((x12).toNat) z36) with kind := x11})).getD ((x12).toNat) z36) with n := (IntKind.i64.wrap (x11 + 1))}) S41 (by kernel_rfl) e39 (by kernel_rfl) rfl (by kernel_rfl) h33 (getD_some z36 (show (x12).toNat < (x14.set ((x12).toNat) ({(x14.getD ((x12).toNat) z36) with kind := x11})).length by have : (x14.set ((x12).toNat) ({(x14.getD ((x12).toNat) z36) with kind := x11})).length = x1.length := (List.length_set.trans n15); omega)) (Nat.le_of_ble_eq_true rfl) (List.forall_mem_cons.2 ⟨rfl, (fun _ h_ => by cases h_)⟩) (fun _ _ _ o_ => st36_u1 (IntKind.i64.wrap (x11 + 1)) o_)) ?_
    rintro w42 ⟨F44, h43, S45, K46⟩
    clear h33
    refine wpList_nil ?_
    refine then_n ?_
    refine wp_seq ?_
    refine wp_region_lit ?_
    refine lv (d := 24) rfl rfl (by kernel_rfl) (e_move (v := .int .i64 (IntKind.i64.wrap (x11 + 1))) (by kernel_rfl)) ?_
    refine lv (d := 25) rfl rfl (by kernel_rfl) (e_add (k := .i64) (a := (IntKind.i64.wrap (x11 + 1))) (b := 1) (by kernel_rfl) rfl) ?_
    refine lv (d := 1) rfl rfl (by kernel_rfl) (e_assign (v := .int .i64 (IntKind.i64.wrap ((IntKind.i64.wrap (x11 + 1)) + 1))) (by kernel_rfl)) ?_
    refine wpList_nil ?_
    refine then_n ?_
    refine wp_region_lit ?_
    refine lv (d := 26) rfl rfl (by kernel_rfl) (e_move (v := .slice A2 x1.length c3) (by exact e16)) ?_
    refine lv (d := 27) rfl rfl (by kernel_rfl) (e_move (v := .int .i64 x12) (by exact e18)) ?_
    obtain ⟨b47, e49⟩ := Row.addr h43 (show (x12).toNat < ((x14.set ((x12).toNat) ({(x14.getD ((x12).toNat) z36) with kind := x11})).set ((x12).toNat) ({((x14.set ((x12).toNat) ({(x14.getD ((x12).toNat) z36) with kind := x11})).getD ((x12).toNat) z36) with n := (IntKind.i64.wrap (x11 + 1))})).length by have : ((x14.set ((x12).toNat) ({(x14.getD ((x12).toNat) z36) with kind := x11})).set ((x12).toNat) ({((x14.set ((x12).toNat) ({(x14.getD ((x12).toNat) z36) with kind := x11})).getD ((x12).toNat) z36) with n := (IntKind.i64.wrap (x11 + 1))})).length = x1.length := (List.length_set.trans (List.length_set.trans n15)); omega)
    refine lv (d := 28) rfl rfl (by kernel_rfl) (e_indexAddr (b := b47) (off := 0) (n := x1.length) (c := c3) (sz := 3) (i := x12) (k := .i64) Try.underlying24 e49 (by kernel_rfl) (by kernel_rfl) (by kernel_rfl) q26 q25) ?_
    refine lv (d := 29) rfl rfl (by kernel_rfl) (e_fieldAddr (b := b47) (off := 0 + (x12 : Int).toNat * 3) (o := 2) Try.underlying36 rfl rfl (sz := 1) (by kernel_rfl) (by decide) (by kernel_rfl)) ?_
    obtain ⟨y55, F56, G57, r58, d59, s60, k61, t62⟩ := Row.lend h43 e49 (getD_some z36 (show (x12).toNat < ((x14.set ((x12).toNat) ({(x14.getD ((x12).toNat) z36) with kind := x11})).set ((x12).toNat) ({((x14.set ((x12).toNat) ({(x14.getD ((x12).toNat) z36) with kind := x11})).getD ((x12).toNat) z36) with n := (IntKind.i64.wrap (x11 + 1))})).length by have : ((x14.set ((x12).toNat) ({(x14.getD ((x12).toNat) z36) with kind := x11})).set ((x12).toNat) ({((x14.set ((x12).toNat) ({(x14.getD ((x12).toNat) z36) with kind := x11})).getD ((x12).toNat) z36) with n := (IntKind.i64.wrap (x11 + 1))})).length = x1.length := (List.length_set.trans (List.length_set.trans n15)); omega))
    obtain ⟨A63, c64, F67, rfl, h65, s66⟩ := st36_openO r58
    refine lv (d := 30) rfl rfl (by kernel_rfl) (e_load1 (ad := ⟨b47, 0 + (x12 : Int).toNat * 3 + 2, none⟩) (v := .slice A63 ((((x14.set ((x12).toNat) ({(x14.getD ((x12).toNat) z36) with kind := x11})).set ((x12).toNat) ({((x14.set ((x12).toNat) ({(x14.getD ((x12).toNat) z36) with kind := x11})).getD ((x12).toNat) z36) with n := (IntKind.i64.wrap (x11 + 1))})).getD ((x12).toNat) z36).text).length c64) Try.underlying32 rfl (by kernel_rfl) (hpx (k61 2 _ rfl))) ?_
    refine lv (d := 31) rfl rfl (by kernel_rfl) (e_move (v := .int .i64 (IntKind.i64.wrap ((IntKind.i64.wrap (x11 + 1)) + 1))) (by kernel_rfl)) ?_
    have S68 := S45.part d59 s60
    have S69 := S68.sub s66
    have q70 : ∀ b_, G57 b_ → hp w42 b_ = hp w42 b_ := fun _ _ => rfl
    obtain ⟨t71, u72, M⟩ := bnd M
    refine lcall (d := 32) rfl rfl (by kernel_rfl) (e_call (l := [.tmp 30, .tmp 31]) (vs := [.slice A63 ((((x14.set ((x12).toNat) ({(x14.getD ((x12).toNat) z36) with kind := x11})).set ((x12).toNat) ({((x14.set ((x12).toNat) ({(x14.getD ((x12).toNat) z36) with kind := x11})).getD ((x12).toNat) z36) with n := (IntKind.i64.wrap (x11 + 1))})).getD ((x12).toNat) z36).text).length c64, .int .i64 (IntKind.i64.wrap ((IntKind.i64.wrap (x11 + 1)) + 1))]) Try.func23 (by kernel_rfl) rfl (by kernel_rfl) rfl) (laws_markByteS_2.calls k24 w42 H9 ((((x14.set ((x12).toNat) ({(x14.getD ((x12).toNat) z36) with kind := x11})).set ((x12).toNat) ({((x14.set ((x12).toNat) ({(x14.getD ((x12).toNat) z36) with kind := x11})).getD ((x12).toNat) z36) with n := (IntKind.i64.wrap (x11 + 1))})).getD ((x12).toNat) z36).text) A63 c64 F67 (IntKind.i64.wrap ((IntKind.i64.wrap (x11 + 1)) + 1)) h65 (St.own' (Fa := [F67]) (Fr := [G57]) S69) t71 u72) ?_
    rintro _ w73 ⟨F77, H74, rfl, n78, h76, T75⟩
    refine ⟨_, rfl, ?_⟩
    obtain ⟨S79, K80⟩ := St.call (Fa := [F67]) (Fr := [G57]) S69 T75
    replace q70 := fun b_ h_ => (K80.at 0 rfl b_ h_).trans (q70 b_ h_)
    have E81 := T75.ext
    have S82 := S79.pull (F := G57) (Fr := [F77]) 1 rfl rfl
    have S83 := S82.pull (F := F77) (Fr := [G57]) 1 rfl rfl
    have h84 := t62 H74 (hp w73) F77 ({(((x14.set ((x12).toNat) ({(x14.getD ((x12).toNat) z36) with kind := x11})).set ((x12).toNat) ({((x14.set ((x12).toNat) ({(x14.getD ((x12).toNat) z36) with kind := x11})).getD ((x12).toNat) z36) with n := (IntKind.i64.wrap (x11 + 1))})).getD ((x12).toNat) z36) with text := t71.2} : Cell) E81 q70 (by have q_ := st36_mkO (x := {(((x14.set ((x12).toNat) ({(x14.getD ((x12).toNat) z36) with kind := x11})).set ((x12).toNat) ({((x14.set ((x12).toNat) ({(x14.getD ((x12).toNat) z36) with kind := x11})).getD ((x12).toNat) z36) with n := (IntKind.i64.wrap (x11 + 1))})).getD ((x12).toNat) z36) with text := t71.2}) h76; rw [show t71.2.length = ((((x14.set ((x12).toNat) ({(x14.getD ((x12).toNat) z36) with kind := x11})).set ((x12).toNat) ({((x14.set ((x12).toNat) ({(x14.getD ((x12).toNat) z36) with kind := x11})).getD ((x12).toNat) z36) with n := (IntKind.i64.wrap (x11 + 1))})).getD ((x12).toNat) z36).text).length from n78] at q_; exact q_) S83.dj
    have S85 := S83.join
    refine lv (d := 1) rfl rfl (by kernel_rfl) (e_assign (v := .int .i64 t71.1) (by kernel_rfl)) ?_
    refine wpList_nil ?_
    refine inb_n ?_
    refine then_n ?_
    refine wp_region_lit ?_
    refine lv (d := 10) rfl rfl (by kernel_rfl) (e_move (v := .int .i64 x12) (by exact e18)) ?_
    refine lv (d := 11) rfl rfl (by kernel_rfl) (e_add (k := .i64) (a := x12) (b := 1) (by kernel_rfl) rfl) ?_
    refine lv (d := 5) rfl rfl (by kernel_rfl) (e_assign (v := .int .i64 (IntKind.i64.wrap (x12 + 1))) (by kernel_rfl)) ?_
    refine wpList_nil ?_
    refine then_n ?_
    exact ⟨k24, (by omega), _, H74, t71.1, (IntKind.i64.wrap (x12 + 1)), (or2 F77 G57), (((x14.set ((x12).toNat) ({(x14.getD ((x12).toNat) z36) with kind := x11})).set ((x12).toNat) ({((x14.set ((x12).toNat) ({(x14.getD ((x12).toNat) z36) with kind := x11})).getD ((x12).toNat) z36) with n := (IntKind.i64.wrap (x11 + 1))})).set ((x12).toNat) ({(((x14.set ((x12).toNat) ({(x14.getD ((x12).toNat) z36) with kind := x11})).set ((x12).toNat) ({((x14.set ((x12).toNat) ({(x14.getD ((x12).toNat) z36) with kind := x11})).getD ((x12).toNat) z36) with n := (IntKind.i64.wrap (x11 + 1))})).getD ((x12).toNat) z36) with text := t71.2})), rfl, (by exact e16), (by kernel_rfl), (by kernel_rfl), h84, (List.length_set.trans (List.length_set.trans (List.length_set.trans n15))), (Y10.trans E81), S85, M⟩
  replace M := ifn q25 M
  refine cond_f rfl (bf q25 (by kernel_rfl)) ?_
  refine wp_exit ?_
  refine then_e ?_
  refine then_e ?_
  refine inb_hit ?_
  refine then_n ?_
  refine wp_seq ?_
  refine wp_region_lit ?_
  refine lv (d := 33) rfl rfl (by kernel_rfl) (e_move (v := .int .i64 x11) (by exact e17)) ?_
  refine lv (d := 4) rfl rfl (by kernel_rfl) (e_assign (v := .int .i64 x11) (by kernel_rfl)) ?_
  refine wpList_nil ?_
  refine then_n ?_
  refine wp_ret ?_
  obtain rfl := Option.some.inj M
  exact ret1 rfl rfl  (show _ = .int .i64 x11 from (by kernel_rfl)) ⟨F13, H9, rfl, n15, h4, S19⟩

/-! laws_heldByteS -/
def laws_heldByteS.l0 : Nat → (List UInt8) → Int → Int → Option Int
  | 0, _, _, _ => none
  | k19 + 1, x1, x9, x10 => (if x10 < (x1.length : Int) then (if 0 ≤ x10 then (if ((x1.getD ((x10).toNat) (0 : UInt8)).toNat : Int) ≠ ((b8 (x9)).toNat : Int) then some (-1) else (laws_heldByteS.l0 k19 x1 (IntKind.i64.wrap (x9 + 1)) (IntKind.i64.wrap (x10 + 1)))) else none) else some x9)
def laws_heldByteS.f (k : Nat) (x1 : List UInt8) (x6 : Int) : Option Int := (laws_heldByteS.l0 k x1 x6 0)
theorem laws_heldByteS.calls (k : Nat) (w : World) (H : Hp) (x1 : List UInt8) (A2 : Option Addr) (c3 : Nat) (x6 : Int) (h4 : Rd tByte H A2 x1) (l5 : x1.length ≤ c3) (S : Own [] H w) (r : Int) (M : laws_heldByteS.f k x1 x6 = some r) :
    Calls Try.prog 24 #[.slice A2 x1.length c3, .int .i64 x6] w (fun e e_w => e = .returned (.int .i64 r) ∧ Chg no w e_w) := by
  rw [laws_heldByteS.f] at M
  refine enter (l := [.slice A2 x1.length c3, .int .i64 x6]) 22 Try.func24 rfl rfl rfl ?_
  have S0_ := S.st
  refine wp_seq ?_
  refine wp_region_lit ?_
  refine lv (d := 4) rfl rfl (by kernel_rfl) (e_assign (v := .int .i64 0) rfl) ?_
  refine wpList_nil ?_
  refine then_n ?_
  refine wp_seq ?_
  refine wp_seq ?_
  refine wp_region_lit ?_
  refine lv (d := 5) rfl rfl (by kernel_rfl) (e_assign (v := .int .i64 0) rfl) ?_
  refine wpList_nil ?_
  refine then_n ?_
  refine wp_block ?_
  refine wp_loop_g (fun k17 a18 w7 => ∃ (f8 : Nat → Value) (x9 : Int) (x10 : Int), a18 = mk 22 f8 ∧ f8 0 = .slice A2 x1.length c3 ∧ f8 1 = .int .i64 x9 ∧ f8 5 = .int .i64 x10 ∧ St (anyOf []) H w [] H w7 ∧ laws_heldByteS.l0 k17 x1 x9 x10 = some r) k ⟨_, x6, 0, rfl, (by kernel_rfl), (by kernel_rfl), (by kernel_rfl), S0_, M⟩ ?_
  clear M
  rintro k17 a18 w7 ⟨f8, x9, x10, rfl, e11, e12, e13, S14, M⟩
  rcases k17 with _ | k19
  · rw [laws_heldByteS.l0] at M
    cases M
  rw [laws_heldByteS.l0] at M
  refine wp_seq ?_
  refine wp_seq ?_
  refine wp_region_lit ?_
  refine lv (d := 6) rfl rfl (by kernel_rfl) (e_move (v := .int .i64 x10) (by exact e13)) ?_
  refine lv (d := 7) rfl rfl (by kernel_rfl) (e_move (v := .slice A2 x1.length c3) (by exact e11)) ?_
  refine lv (d := 8) rfl rfl (by kernel_rfl) (e_len (A := A2) (n := x1.length) (c := c3) Try.underlying32 (by kernel_rfl)) ?_
  refine lv (d := 9) rfl rfl (by kernel_rfl) (e_lss (k := .i64) (a := x10) (b := (x1.length : Int)) (by kernel_rfl) (by kernel_rfl)) ?_
  refine wpList_nil ?_
  refine then_n ?_
  by_cases q20 : x10 < (x1.length : Int)
  · replace M := ifp q20 M
    refine cond_t rfl (bt q20 (by kernel_rfl)) ?_
    refine wp_skip ?_
    refine then_n ?_
    refine wp_seq ?_
    refine wp_block ?_
    refine wp_seq ?_
    refine wp_seq ?_
    refine wp_region_lit ?_
    refine lv (d := 12) rfl rfl (by kernel_rfl) (e_move (v := .slice A2 x1.length c3) (by exact e11)) ?_
    refine lv (d := 13) rfl rfl (by kernel_rfl) (e_move (v := .int .i64 x10) (by exact e13)) ?_
    obtain ⟨q21, M⟩ := chk M
    obtain ⟨b22, o23, e24⟩ := Rd.addr h4 (show (x10).toNat < x1.length by omega)
    obtain ⟨y25, r26, k27⟩ := Rd.at h4 e24 (getD_some (0 : UInt8) (show (x10).toNat < x1.length by omega))
    obtain rfl := r26
    refine lv (d := 14) rfl rfl (by kernel_rfl) (e_indexAddr (b := b22) (off := o23) (n := x1.length) (c := c3) (sz := 1) (i := x10) (k := .i64) Try.underlying32 e24 (by kernel_rfl) (by kernel_rfl) (by kernel_rfl) q21 q20) ?_
    refine lv (d := 15) rfl rfl (by kernel_rfl) (e_load1 (ad := ⟨b22, o23 + (x10 : Int).toNat * 1, none⟩) (v := .int .u8 ((x1.getD ((x10).toNat) (0 : UInt8)).toNat : Int)) Try.underlying5 rfl (by kernel_rfl) (hpx (S14.inv.cell (k27 0 _ rfl)))) ?_
    refine lv (d := 16) rfl rfl (by kernel_rfl) (e_move (v := .int .i64 x9) (by exact e12)) ?_
    refine lv (d := 17) rfl rfl (by kernel_rfl) (e_conv_i8 (k := .i64) (a := x9) (by kernel_rfl) Try.underlying5 (by kernel_rfl)) ?_
    refine lv (d := 18) rfl rfl (by kernel_rfl) (e_neq (k := .u8) (a := ((x1.getD ((x10).toNat) (0 : UInt8)).toNat : Int)) (b := ((b8 (x9)).toNat : Int)) (by kernel_rfl) (by kernel_rfl)) ?_
    refine wpList_nil ?_
    refine then_n ?_
    by_cases q28 : ((x1.getD ((x10).toNat) (0 : UInt8)).toNat : Int) ≠ ((b8 (x9)).toNat : Int)
    · replace M := ifp q28 M
      refine cond_t rfl (bt q28 (by kernel_rfl)) ?_
      refine wp_seq ?_
      refine wp_region_lit ?_
      refine lv (d := 4) rfl rfl (by kernel_rfl) (e_assign (v := .int .i64 (-1)) rfl) ?_
      refine wpList_nil ?_
      refine then_n ?_
      refine wp_ret ?_
      refine then_r ?_
      refine inb_r ?_
      refine then_r ?_
      refine then_r ?_
      refine inb_r ?_
      refine then_r ?_
      obtain rfl := Option.some.inj M
      exact ret1 rfl rfl  (show _ = .int .i64 (-1) from (by kernel_rfl)) ⟨rfl, S14.chg⟩
    replace M := ifn q28 M
    refine cond_f rfl (bf q28 (by kernel_rfl)) ?_
    refine wp_skip ?_
    refine then_n ?_
    refine wp_region_lit ?_
    refine lv (d := 19) rfl rfl (by kernel_rfl) (e_move (v := .int .i64 x9) (by exact e12)) ?_
    refine lv (d := 20) rfl rfl (by kernel_rfl) (e_add (k := .i64) (a := x9) (b := 1) (by kernel_rfl) rfl) ?_
    refine lv (d := 1) rfl rfl (by kernel_rfl) (e_assign (v := .int .i64 (IntKind.i64.wrap (x9 + 1))) (by kernel_rfl)) ?_
    refine wpList_nil ?_
    refine inb_n ?_
    refine then_n ?_
    refine wp_region_lit ?_
    refine lv (d := 10) rfl rfl (by kernel_rfl) (e_move (v := .int .i64 x10) (by exact e13)) ?_
    refine lv (d := 11) rfl rfl (by kernel_rfl) (e_add (k := .i64) (a := x10) (b := 1) (by kernel_rfl) rfl) ?_
    refine lv (d := 5) rfl rfl (by kernel_rfl) (e_assign (v := .int .i64 (IntKind.i64.wrap (x10 + 1))) (by kernel_rfl)) ?_
    refine wpList_nil ?_
    refine then_n ?_
    exact ⟨k19, (by omega), _, (IntKind.i64.wrap (x9 + 1)), (IntKind.i64.wrap (x10 + 1)), rfl, (by exact e11), (by kernel_rfl), (by kernel_rfl), S14, M⟩
  replace M := ifn q20 M
  refine cond_f rfl (bf q20 (by kernel_rfl)) ?_
  refine wp_exit ?_
  refine then_e ?_
  refine then_e ?_
  refine inb_hit ?_
  refine then_n ?_
  refine wp_seq ?_
  refine wp_region_lit ?_
  refine lv (d := 21) rfl rfl (by kernel_rfl) (e_move (v := .int .i64 x9) (by exact e12)) ?_
  refine lv (d := 4) rfl rfl (by kernel_rfl) (e_assign (v := .int .i64 x9) (by kernel_rfl)) ?_
  refine wpList_nil ?_
  refine then_n ?_
  refine wp_ret ?_
  obtain rfl := Option.some.inj M
  exact ret1 rfl rfl  (show _ = .int .i64 x9 from (by kernel_rfl)) ⟨rfl, S14.chg⟩

/-! laws_heldCellS -/
def laws_heldCellS.l0 : Nat → (List Cell) → Int → Int → Option Int
  | 0, _, _, _ => none
  | k19 + 1, x1, x9, x10 => (if x10 < (x1.length : Int) then (if 0 ≤ x10 then (if ((x1.getD ((x10).toNat) z36).kind) ≠ x9 then some (-1) else (if ((x1.getD ((x10).toNat) z36).n) ≠ (IntKind.i64.wrap (x9 + 1)) then some (-1) else ((laws_heldByteS.f k19 ((x1.getD ((x10).toNat) z36).text) (IntKind.i64.wrap ((IntKind.i64.wrap (x9 + 1)) + 1))).bind fun t54 => (if t54 < 0 then some (-1) else (laws_heldCellS.l0 k19 x1 t54 (IntKind.i64.wrap (x10 + 1))))))) else none) else some x9)
def laws_heldCellS.f (k : Nat) (x1 : List Cell) (x6 : Int) : Option Int := (laws_heldCellS.l0 k x1 x6 0)
theorem laws_heldCellS.calls (k : Nat) (w : World) (H : Hp) (x1 : List Cell) (A2 : Option Addr) (c3 : Nat) (x6 : Int) (h4 : Rd st36 H A2 x1) (l5 : x1.length ≤ c3) (S : Own [] H w) (r : Int) (M : laws_heldCellS.f k x1 x6 = some r) :
    Calls Try.prog 11 #[.slice A2 x1.length c3, .int .i64 x6] w (fun e e_w => e = .returned (.int .i64 r) ∧ Chg no w e_w) := by
  rw [laws_heldCellS.f] at M
  refine enter (l := [.slice A2 x1.length c3, .int .i64 x6]) 40 Try.func11 rfl rfl rfl ?_
  have S0_ := S.st
  refine wp_seq ?_
  refine wp_region_lit ?_
  refine lv (d := 4) rfl rfl (by kernel_rfl) (e_assign (v := .int .i64 0) rfl) ?_
  refine wpList_nil ?_
  refine then_n ?_
  refine wp_seq ?_
  refine wp_seq ?_
  refine wp_region_lit ?_
  refine lv (d := 5) rfl rfl (by kernel_rfl) (e_assign (v := .int .i64 0) rfl) ?_
  refine wpList_nil ?_
  refine then_n ?_
  refine wp_block ?_
  refine wp_loop_g (fun k17 a18 w7 => ∃ (f8 : Nat → Value) (x9 : Int) (x10 : Int), a18 = mk 40 f8 ∧ f8 0 = .slice A2 x1.length c3 ∧ f8 1 = .int .i64 x9 ∧ f8 5 = .int .i64 x10 ∧ St (anyOf []) H w [] H w7 ∧ laws_heldCellS.l0 k17 x1 x9 x10 = some r) k ⟨_, x6, 0, rfl, (by kernel_rfl), (by kernel_rfl), (by kernel_rfl), S0_, M⟩ ?_
  clear M
  rintro k17 a18 w7 ⟨f8, x9, x10, rfl, e11, e12, e13, S14, M⟩
  rcases k17 with _ | k19
  · rw [laws_heldCellS.l0] at M
    cases M
  rw [laws_heldCellS.l0] at M
  refine wp_seq ?_
  refine wp_seq ?_
  refine wp_region_lit ?_
  refine lv (d := 6) rfl rfl (by kernel_rfl) (e_move (v := .int .i64 x10) (by exact e13)) ?_
  refine lv (d := 7) rfl rfl (by kernel_rfl) (e_move (v := .slice A2 x1.length c3) (by exact e11)) ?_
  refine lv (d := 8) rfl rfl (by kernel_rfl) (e_len (A := A2) (n := x1.length) (c := c3) Try.underlying24 (by kernel_rfl)) ?_
  refine lv (d := 9) rfl rfl (by kernel_rfl) (e_lss (k := .i64) (a := x10) (b := (x1.length : Int)) (by kernel_rfl) (by kernel_rfl)) ?_
  refine wpList_nil ?_
  refine then_n ?_
  by_cases q20 : x10 < (x1.length : Int)
  · replace M := ifp q20 M
    refine cond_t rfl (bt q20 (by kernel_rfl)) ?_
    refine wp_skip ?_
    refine then_n ?_
    refine wp_seq ?_
    refine wp_block ?_
    refine wp_seq ?_
    refine wp_seq ?_
    refine wp_region_lit ?_
    refine lv (d := 12) rfl rfl (by kernel_rfl) (e_move (v := .slice A2 x1.length c3) (by exact e11)) ?_
    refine lv (d := 13) rfl rfl (by kernel_rfl) (e_move (v := .int .i64 x10) (by exact e13)) ?_
    obtain ⟨q21, M⟩ := chk M
    obtain ⟨b22, o23, e24⟩ := Rd.addr h4 (show (x10).toNat < x1.length by omega)
    obtain ⟨y25, r26, k27⟩ := Rd.at h4 e24 (getD_some z36 (show (x10).toNat < x1.length by omega))
    obtain ⟨A28, c29, rfl, l30, h31⟩ := st36_open r26
    refine lv (d := 14) rfl rfl (by kernel_rfl) (e_indexAddr (b := b22) (off := o23) (n := x1.length) (c := c3) (sz := 3) (i := x10) (k := .i64) Try.underlying24 e24 (by kernel_rfl) (by kernel_rfl) (by kernel_rfl) q21 q20) ?_
    refine lv (d := 15) rfl rfl (by kernel_rfl) (e_fieldAddr (b := b22) (off := o23 + (x10 : Int).toNat * 3) (o := 0) Try.underlying36 rfl rfl (sz := 1) (by kernel_rfl) (by decide) (by kernel_rfl)) ?_
    refine lv (d := 16) rfl rfl (by kernel_rfl) (e_load1 (ad := ⟨b22, o23 + (x10 : Int).toNat * 3 + 0, none⟩) (v := .int .i64 ((x1.getD ((x10).toNat) z36).kind)) Try.underlying3 rfl (by kernel_rfl) (hpx (S14.inv.cell (k27 0 _ rfl)))) ?_
    refine lv (d := 17) rfl rfl (by kernel_rfl) (e_move (v := .int .i64 x9) (by exact e12)) ?_
    refine lv (d := 18) rfl rfl (by kernel_rfl) (e_neq (k := .i64) (a := (x1.getD ((x10).toNat) z36).kind) (b := x9) (by kernel_rfl) (by kernel_rfl)) ?_
    refine wpList_nil ?_
    refine then_n ?_
    by_cases q32 : ((x1.getD ((x10).toNat) z36).kind) ≠ x9
    · replace M := ifp q32 M
      refine cond_t rfl (bt q32 (by kernel_rfl)) ?_
      refine wp_seq ?_
      refine wp_region_lit ?_
      refine lv (d := 4) rfl rfl (by kernel_rfl) (e_assign (v := .int .i64 (-1)) rfl) ?_
      refine wpList_nil ?_
      refine then_n ?_
      refine wp_ret ?_
      refine then_r ?_
      refine inb_r ?_
      refine then_r ?_
      refine then_r ?_
      refine inb_r ?_
      refine then_r ?_
      obtain rfl := Option.some.inj M
      exact ret1 rfl rfl  (show _ = .int .i64 (-1) from (by kernel_rfl)) ⟨rfl, S14.chg⟩
    replace M := ifn q32 M
    refine cond_f rfl (bf q32 (by kernel_rfl)) ?_
    refine wp_skip ?_
    refine then_n ?_
    refine wp_seq ?_
    refine wp_region_lit ?_
    refine lv (d := 19) rfl rfl (by kernel_rfl) (e_move (v := .int .i64 x9) (by exact e12)) ?_
    refine lv (d := 20) rfl rfl (by kernel_rfl) (e_add (k := .i64) (a := x9) (b := 1) (by kernel_rfl) rfl) ?_
    refine lv (d := 1) rfl rfl (by kernel_rfl) (e_assign (v := .int .i64 (IntKind.i64.wrap (x9 + 1))) (by kernel_rfl)) ?_
    refine wpList_nil ?_
    refine then_n ?_
    refine wp_seq ?_
    refine wp_seq ?_
    refine wp_region_lit ?_
    refine lv (d := 21) rfl rfl (by kernel_rfl) (e_move (v := .slice A2 x1.length c3) (by exact e11)) ?_
    refine lv (d := 22) rfl rfl (by kernel_rfl) (e_move (v := .int .i64 x10) (by exact e13)) ?_
    obtain ⟨b33, o34, e35⟩ := Rd.addr h4 (show (x10).toNat < x1.length by omega)
    obtain ⟨y36, r37, k38⟩ := Rd.at h4 e35 (getD_some z36 (show (x10).toNat < x1.length by omega))
    obtain ⟨A39, c40, rfl, l41, h42⟩ := st36_open r37
    refine lv (d := 23) rfl rfl (by kernel_rfl) (e_indexAddr (b := b33) (off := o34) (n := x1.length) (c := c3) (sz := 3) (i := x10) (k := .i64) Try.underlying24 e35 (by kernel_rfl) (by kernel_rfl) (by kernel_rfl) q21 q20) ?_
    refine lv (d := 24) rfl rfl (by kernel_rfl) (e_fieldAddr (b := b33) (off := o34 + (x10 : Int).toNat * 3) (o := 1) Try.underlying36 rfl rfl (sz := 1) (by kernel_rfl) (by decide) (by kernel_rfl)) ?_
    refine lv (d := 25) rfl rfl (by kernel_rfl) (e_load1 (ad := ⟨b33, o34 + (x10 : Int).toNat * 3 + 1, none⟩) (v := .int .i64 ((x1.getD ((x10).toNat) z36).n)) Try.underlying3 rfl (by kernel_rfl) (hpx (S14.inv.cell (k38 1 _ rfl)))) ?_
    refine lv (d := 26) rfl rfl (by kernel_rfl) (e_move (v := .int .i64 (IntKind.i64.wrap (x9 + 1))) (by kernel_rfl)) ?_
    refine lv (d := 27) rfl rfl (by kernel_rfl) (e_neq (k := .i64) (a := (x1.getD ((x10).toNat) z36).n) (b := (IntKind.i64.wrap (x9 + 1))) (by kernel_rfl) (by kernel_rfl)) ?_
    refine wpList_nil ?_
    refine then_n ?_
    by_cases q43 : ((x1.getD ((x10).toNat) z36).n) ≠ (IntKind.i64.wrap (x9 + 1))
    · replace M := ifp q43 M
      refine cond_t rfl (bt q43 (by kernel_rfl)) ?_
      refine wp_seq ?_
      refine wp_region_lit ?_
      refine lv (d := 4) rfl rfl (by kernel_rfl) (e_assign (v := .int .i64 (-1)) rfl) ?_
      refine wpList_nil ?_
      refine then_n ?_
      refine wp_ret ?_
      refine then_r ?_
      refine inb_r ?_
      refine then_r ?_
      refine then_r ?_
      refine inb_r ?_
      refine then_r ?_
      obtain rfl := Option.some.inj M
      exact ret1 rfl rfl  (show _ = .int .i64 (-1) from (by kernel_rfl)) ⟨rfl, S14.chg⟩
    replace M := ifn q43 M
    refine cond_f rfl (bf q43 (by kernel_rfl)) ?_
    refine wp_skip ?_
    refine then_n ?_
    refine wp_seq ?_
    refine wp_region_lit ?_
    refine lv (d := 28) rfl rfl (by kernel_rfl) (e_move (v := .int .i64 (IntKind.i64.wrap (x9 + 1))) (by kernel_rfl)) ?_
    refine lv (d := 29) rfl rfl (by kernel_rfl) (e_add (k := .i64) (a := (IntKind.i64.wrap (x9 + 1))) (b := 1) (by kernel_rfl) rfl) ?_
    refine lv (d := 1) rfl rfl (by kernel_rfl) (e_assign (v := .int .i64 (IntKind.i64.wrap ((IntKind.i64.wrap (x9 + 1)) + 1))) (by kernel_rfl)) ?_
    refine wpList_nil ?_
    refine then_n ?_
    refine wp_seq ?_
    refine wp_region_lit ?_
    refine lv (d := 30) rfl rfl (by kernel_rfl) (e_move (v := .slice A2 x1.length c3) (by exact e11)) ?_
    refine lv (d := 31) rfl rfl (by kernel_rfl) (e_move (v := .int .i64 x10) (by exact e13)) ?_
    obtain ⟨b44, o45, e46⟩ := Rd.addr h4 (show (x10).toNat < x1.length by omega)
    obtain ⟨y47, r48, k49⟩ := Rd.at h4 e46 (getD_some z36 (show (x10).toNat < x1.length by omega))
    obtain ⟨A50, c51, rfl, l52, h53⟩ := st36_open r48
    refine lv (d := 32) rfl rfl (by kernel_rfl) (e_indexAddr (b := b44) (off := o45) (n := x1.length) (c := c3) (sz := 3) (i := x10) (k := .i64) Try.underlying24 e46 (by kernel_rfl) (by kernel_rfl) (by kernel_rfl) q21 q20) ?_
    refine lv (d := 33) rfl rfl (by kernel_rfl) (e_fieldAddr (b := b44) (off := o45 + (x10 : Int).toNat * 3) (o := 2) Try.underlying36 rfl rfl (sz := 1) (by kernel_rfl) (by decide) (by kernel_rfl)) ?_
    refine lv (d := 34) rfl rfl (by kernel_rfl) (e_load1 (ad := ⟨b44, o45 + (x10 : Int).toNat * 3 + 2, none⟩) (v := .slice A50 ((x1.getD ((x10).toNat) z36).text).length c51) Try.underlying32 rfl (by kernel_rfl) (hpx (S14.inv.cell (k49 2 _ rfl)))) ?_
    refine lv (d := 35) rfl rfl (by kernel_rfl) (e_move (v := .int .i64 (IntKind.i64.wrap ((IntKind.i64.wrap (x9 + 1)) + 1))) (by kernel_rfl)) ?_
    obtain ⟨t54, u55, M⟩ := bnd M
    refine lcall (d := 36) rfl rfl (by kernel_rfl) (e_call (l := [.tmp 34, .tmp 35]) (vs := [.slice A50 ((x1.getD ((x10).toNat) z36).text).length c51, .int .i64 (IntKind.i64.wrap ((IntKind.i64.wrap (x9 + 1)) + 1))]) Try.func24 (by kernel_rfl) rfl (by kernel_rfl) rfl) (laws_heldByteS.calls k19 w7 H ((x1.getD ((x10).toNat) z36).text) A50 c51 (IntKind.i64.wrap ((IntKind.i64.wrap (x9 + 1)) + 1)) h53 l52 S14.own0 t54 u55) ?_
    rintro _ w56 ⟨rfl, C57⟩
    refine ⟨_, rfl, ?_⟩
    obtain ⟨S58, K59⟩ := S14.still C57
    refine lv (d := 1) rfl rfl (by kernel_rfl) (e_assign (v := .int .i64 t54) (by kernel_rfl)) ?_
    refine wpList_nil ?_
    refine then_n ?_
    refine wp_seq ?_
    refine wp_region_lit ?_
    refine lv (d := 37) rfl rfl (by kernel_rfl) (e_move (v := .int .i64 t54) (by kernel_rfl)) ?_
    refine lv (d := 38) rfl rfl (by kernel_rfl) (e_lss (k := .i64) (a := t54) (b := 0) (by kernel_rfl) rfl) ?_
    refine wpList_nil ?_
    refine then_n ?_
    by_cases q60 : t54 < 0
    · replace M := ifp q60 M
      refine cond_t rfl (bt q60 (by kernel_rfl)) ?_
      refine wp_seq ?_
      refine wp_region_lit ?_
      refine lv (d := 4) rfl rfl (by kernel_rfl) (e_assign (v := .int .i64 (-1)) rfl) ?_
      refine wpList_nil ?_
      refine then_n ?_
      refine wp_ret ?_
      refine inb_r ?_
      refine then_r ?_
      refine then_r ?_
      refine inb_r ?_
      refine then_r ?_
      obtain rfl := Option.some.inj M
      exact ret1 rfl rfl  (show _ = .int .i64 (-1) from (by kernel_rfl)) ⟨rfl, S58.chg⟩
    replace M := ifn q60 M
    refine cond_f rfl (bf q60 (by kernel_rfl)) ?_
    refine wp_skip ?_
    refine inb_n ?_
    refine then_n ?_
    refine wp_region_lit ?_
    refine lv (d := 10) rfl rfl (by kernel_rfl) (e_move (v := .int .i64 x10) (by exact e13)) ?_
    refine lv (d := 11) rfl rfl (by kernel_rfl) (e_add (k := .i64) (a := x10) (b := 1) (by kernel_rfl) rfl) ?_
    refine lv (d := 5) rfl rfl (by kernel_rfl) (e_assign (v := .int .i64 (IntKind.i64.wrap (x10 + 1))) (by kernel_rfl)) ?_
    refine wpList_nil ?_
    refine then_n ?_
    exact ⟨k19, (by omega), _, t54, (IntKind.i64.wrap (x10 + 1)), rfl, (by exact e11), (by kernel_rfl), (by kernel_rfl), S58, M⟩
  replace M := ifn q20 M
  refine cond_f rfl (bf q20 (by kernel_rfl)) ?_
  refine wp_exit ?_
  refine then_e ?_
  refine then_e ?_
  refine inb_hit ?_
  refine then_n ?_
  refine wp_seq ?_
  refine wp_region_lit ?_
  refine lv (d := 39) rfl rfl (by kernel_rfl) (e_move (v := .int .i64 x9) (by exact e12)) ?_
  refine lv (d := 4) rfl rfl (by kernel_rfl) (e_assign (v := .int .i64 x9) (by kernel_rfl)) ?_
  refine wpList_nil ?_
  refine then_n ?_
  refine wp_ret ?_
  obtain rfl := Option.some.inj M
  exact ret1 rfl rfl  (show _ = .int .i64 x9 from (by kernel_rfl)) ⟨rfl, S14.chg⟩
end Go.Proofs.Ytmmjeppmglmefaa
