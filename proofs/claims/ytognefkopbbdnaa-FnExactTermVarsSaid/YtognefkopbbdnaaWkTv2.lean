import Derived.Test.YtognefkopbbdnaaWkTv1
namespace Go.Proofs.Ytognefkopbbdnaa
open Go.Sx Go.Sy
attribute [local irreducible] Go.wpList Go.wpStill Go.wpQuiet Go.Code.wp
set_option maxRecDepth 100000
set_option maxHeartbeats 1000000
set_option linter.unusedVariables false
set_option linter.unusedSimpArgs false

/-! laws_FnExactTermVars -/
def laws_FnExactTermVars.f (k : Nat) (x1 : List Cell) : Option Bool := ((laws_szCellS.f k x1 1048576).bind fun t6 => (if t6 < 0 then some true else ((laws_toCellS.f k x1).bind fun t13 => ((spec_TermVars.f k t13).bind fun t31 => ((laws_toCellS.f k x1).bind fun t43 => ((impl_TermVars.f k t43).bind fun t62 => ((laws_eqIntS.f k t62 t31).bind fun t77 => (if ¬ (t77 = true) then some false else ((laws_toCellS.f k x1).bind fun t98 => ((laws_eqCellS.f k t43 t98).bind fun t110 => (if ¬ (t110 = true) then some false else ((laws_markCellS_2.f k t43 1).bind fun t131 => (if t131.1 < 0 then some false else ((laws_eqIntS.f k t62 t31).bind fun t143 => (if ¬ (t143 = true) then some false else ((laws_markIntS_2.f k t62 1).bind fun t165 => ((laws_heldIntS.f k t165.2 1).bind fun t176 => (if t176 < 0 then some false else (if t176 ≠ t165.1 then some false else ((laws_toCellS.f k x1).bind fun t190 => ((impl_TermVars.f k t190).bind fun t208 => ((laws_eqIntS.f k t208 t31).bind fun t220 => (if ¬ (t220 = true) then some false else ((laws_heldIntS.f k t165.2 1).bind fun t240 => (if t240 < 0 then some false else (if t240 ≠ t165.1 then some false else some true))))))))))))))))))))))))))
theorem laws_FnExactTermVars.calls (k : Nat) (w : World) (H : Hp) (x1 : List Cell) (A2 : Option Addr) (c3 : Nat) (h4 : Rd st68 H A2 x1) (l5 : x1.length ≤ c3) (S : Own [] H w) (r : Bool) (M : laws_FnExactTermVars.f k x1 = some r) :
    Calls Try.prog 5 #[.slice A2 x1.length c3] w (fun e e_w => e = .returned (.bool r) ∧ Chg no w e_w) := by
  rw [laws_FnExactTermVars.f] at M
  refine enter (l := [.slice A2 x1.length c3]) 69 Try.func5 rfl rfl rfl ?_
  have S0_ := S.st
  refine wp_seq ?_
  refine wp_region_lit ?_
  refine lv (d := 2) rfl rfl (by kernel_rfl) (e_assign (v := .bool false) rfl) ?_
  refine wpList_nil ?_
  refine then_n ?_
  refine wp_seq ?_
  refine wp_region_lit ?_
  refine lv (d := 3) rfl rfl (by kernel_rfl) (e_assign (v := .int .i64 1048576) rfl) ?_
  refine wpList_nil ?_
  refine then_n ?_
  refine wp_seq ?_
  refine wp_region_lit ?_
  refine lv (d := 11) rfl rfl (by kernel_rfl) (e_move (v := .slice A2 x1.length c3) (by kernel_rfl)) ?_
  refine lv (d := 12) rfl rfl (by kernel_rfl) (e_move (v := .int .i64 1048576) (by kernel_rfl)) ?_
  obtain ⟨t6, u7, M⟩ := bnd M
  refine lcall (d := 13) rfl rfl (by kernel_rfl) (e_call (l := [.tmp 11, .tmp 12]) (vs := [.slice A2 x1.length c3, .int .i64 1048576]) Try.func14 (by kernel_rfl) rfl (by kernel_rfl) rfl) (laws_szCellS.calls k w H x1 A2 c3 1048576 h4 l5 S0_.own0 t6 u7) ?_
  rintro _ w8 ⟨rfl, C9⟩
  refine ⟨_, rfl, ?_⟩
  obtain ⟨S10, K11⟩ := S0_.still C9
  refine lv (d := 3) rfl rfl (by kernel_rfl) (e_assign (v := .int .i64 t6) (by kernel_rfl)) ?_
  refine wpList_nil ?_
  refine then_n ?_
  refine wp_seq ?_
  refine wp_seq ?_
  refine wp_region_lit ?_
  refine lv (d := 14) rfl rfl (by kernel_rfl) (e_move (v := .int .i64 t6) (by kernel_rfl)) ?_
  refine lv (d := 15) rfl rfl (by kernel_rfl) (e_lss (k := .i64) (a := t6) (b := 0) (by kernel_rfl) rfl) ?_
  refine wpList_nil ?_
  refine then_n ?_
  by_cases q12 : t6 < 0
  · replace M := ifp q12 M
    refine cond_t rfl (bt q12 (by kernel_rfl)) ?_
    refine wp_seq ?_
    refine wp_region_lit ?_
    refine lv (d := 2) rfl rfl (by kernel_rfl) (e_assign (v := .bool true) rfl) ?_
    refine wpList_nil ?_
    refine then_n ?_
    refine wp_ret ?_
    refine then_r ?_
    obtain rfl := Option.some.inj M
    exact ret1 rfl rfl  (show _ = .bool true from (by kernel_rfl)) ⟨rfl, S10.chg⟩
  replace M := ifn q12 M
  refine cond_f rfl (bf q12 (by kernel_rfl)) ?_
  refine wp_skip ?_
  refine then_n ?_
  refine wp_seq ?_
  refine wp_region_lit ?_
  refine lv (d := 16) rfl rfl (by kernel_rfl) (e_move (v := .slice A2 x1.length c3) (by kernel_rfl)) ?_
  obtain ⟨t13, u14, M⟩ := bnd M
  refine lcall (d := 17) rfl rfl (by kernel_rfl) (e_call (l := [.tmp 16]) (vs := [.slice A2 x1.length c3]) Try.func16 (by kernel_rfl) rfl (by kernel_rfl) rfl) (laws_toCellS.calls k w8 H x1 A2 c3 h4 l5 (St.own' (Fa := []) (Fr := []) S10) t13 u14) ?_
  rintro _ w15 ⟨A18, c19, F21, H16, rfl, h20, T17⟩
  refine ⟨_, rfl, ?_⟩
  obtain ⟨S22, K23⟩ := St.call (Fa := []) (Fr := []) S10 T17
  have E24 := T17.ext
  have l25 := h20.le
  obtain ⟨H26, S27, E28, h29, z30⟩ := S22.frzRow h20
  obtain ⟨t31, u32, M⟩ := bnd M
  refine lcall (d := 18) rfl rfl (by kernel_rfl) (e_call (l := [.tmp 17]) (vs := [.slice A18 t13.length c19]) Try.func21 (by kernel_rfl) rfl (by kernel_rfl) rfl) (spec_TermVars.calls k w15 H26 t13 A18 c19 h29 l25 (St.own' (Fa := []) (Fr := []) S27) t31 u32) ?_
  rintro _ w33 ⟨A36, c37, F39, H34, rfl, h38, T35⟩
  refine ⟨_, rfl, ?_⟩
  obtain ⟨S40, K41⟩ := St.call (Fa := []) (Fr := []) S27 T35
  have E42 := T35.ext
  refine lv (d := 4) rfl rfl (by kernel_rfl) (e_assign (v := .slice A36 t31.length c37) (by kernel_rfl)) ?_
  refine wpList_nil ?_
  refine then_n ?_
  refine wp_seq ?_
  refine wp_region_lit ?_
  refine lv (d := 19) rfl rfl (by kernel_rfl) (e_move (v := .slice A2 x1.length c3) (by kernel_rfl)) ?_
  obtain ⟨t43, u44, M⟩ := bnd M
  refine lcall (d := 20) rfl rfl (by kernel_rfl) (e_call (l := [.tmp 19]) (vs := [.slice A2 x1.length c3]) Try.func16 (by kernel_rfl) rfl (by kernel_rfl) rfl) (laws_toCellS.calls k w33 H34 x1 A2 c3 (h4.ext ((E24.trans E28).trans E42)) l5 (St.own' (Fa := []) (Fr := [F39]) S40) t43 u44) ?_
  rintro _ w45 ⟨A48, c49, F51, H46, rfl, h50, T47⟩
  refine ⟨_, rfl, ?_⟩
  obtain ⟨S52, K53⟩ := St.call (Fa := []) (Fr := [F39]) S40 T47
  replace h38 := h38.move (K53.at 0 rfl)
  have E54 := T47.ext
  replace h38 := h38.ext E54
  refine lv (d := 5) rfl rfl (by kernel_rfl) (e_assign (v := .slice A48 t43.length c49) (by kernel_rfl)) ?_
  refine wpList_nil ?_
  refine then_n ?_
  refine wp_seq ?_
  refine wp_region_lit ?_
  refine lv (d := 21) rfl rfl (by kernel_rfl) (e_move (v := .slice A48 t43.length c49) (by kernel_rfl)) ?_
  have l55 := h50.le
  obtain ⟨H56, S57, E58, h59, z60⟩ := S52.frzRow h50
  have h61 := h38.ext E58
  obtain ⟨t62, u63, M⟩ := bnd M
  refine lcall (d := 22) rfl rfl (by kernel_rfl) (e_call (l := [.tmp 21]) (vs := [.slice A48 t43.length c49]) Try.func22 (by kernel_rfl) rfl (by kernel_rfl) rfl) (impl_TermVars.calls k w45 H56 t43 A48 c49 h59 l55 S57.own0 t62 u63) ?_
  rintro _ w64 ⟨A67, c68, F70, H65, rfl, h69, T66⟩
  refine ⟨_, rfl, ?_⟩
  obtain ⟨S71, K72⟩ := St.call (Fa := []) (Fr := [F39]) S57 T66
  replace h38 := h38.move (K72.at 0 rfl)
  obtain ⟨H73, S74, E75, v76⟩ := St.thaw S52 z60 S71 T66.ext E58 T66.size
  replace h50 := h50.move v76
  replace h50 := h50.ext E75
  replace h38 := h38.ext E75
  replace h69 := Row.free (H' := H73) (free_scal _ _) h69
  refine lv (d := 6) rfl rfl (by kernel_rfl) (e_assign (v := .slice A67 t62.length c68) (by kernel_rfl)) ?_
  refine wpList_nil ?_
  refine then_n ?_
  refine wp_seq ?_
  refine wp_seq ?_
  refine wp_region_lit ?_
  refine lv (d := 23) rfl rfl (by kernel_rfl) (e_move (v := .slice A67 t62.length c68) (by kernel_rfl)) ?_
  refine lv (d := 24) rfl rfl (by kernel_rfl) (e_move (v := .slice A36 t31.length c37) (by kernel_rfl)) ?_
  obtain ⟨t77, u78, M⟩ := bnd M
  refine lcall (d := 25) rfl rfl (by kernel_rfl) (e_call (l := [.tmp 23, .tmp 24]) (vs := [.slice A67 t62.length c68, .slice A36 t31.length c37]) Try.func23 (by kernel_rfl) rfl (by kernel_rfl) rfl) (by have l79 := h69.le; have S80 := S74.pull (F := F70) (Fr := [F51, F39]) 1 rfl rfl; obtain ⟨H81, S82, E83, h84, z85⟩ := S80.frzRow h69; replace h50 := h50.ext E83; replace h38 := h38.ext E83; have l86 := h38.le; have S87 := S82.pull (F := F39) (Fr := [F51]) 1 rfl rfl; obtain ⟨H88, S89, E90, h91, z92⟩ := S87.frzRow h38; replace h50 := h50.ext E90; exact (laws_eqIntS.calls k w64 H88 t62 A67 c68 t31 A36 c37 (h84.ext E90) l79 h91 l86 S89.own0 t77 u78)) ?_
  rintro _ w93 ⟨rfl, C94⟩
  refine ⟨_, rfl, ?_⟩
  obtain ⟨S95, K96⟩ := S74.still C94
  replace h50 := h50.move (K96.at 0 rfl)
  replace h69 := h69.move (K96.at 1 rfl)
  replace h38 := h38.move (K96.at 2 rfl)
  refine lv (d := 26) rfl rfl (by kernel_rfl) (e_notv (c := t77) (by kernel_rfl)) ?_
  refine wpList_nil ?_
  refine then_n ?_
  by_cases q97 : ¬ (t77 = true)
  · replace M := ifp q97 M
    refine cond_t rfl (bt q97 (by kernel_rfl)) ?_
    refine wp_seq ?_
    refine wp_region_lit ?_
    refine lv (d := 2) rfl rfl (by kernel_rfl) (e_assign (v := .bool false) rfl) ?_
    refine wpList_nil ?_
    refine then_n ?_
    refine wp_ret ?_
    refine then_r ?_
    obtain rfl := Option.some.inj M
    exact ret1 rfl rfl  (show _ = .bool false from (by kernel_rfl)) ⟨rfl, S95.chg⟩
  replace M := ifn q97 M
  refine cond_f rfl (bf q97 (by kernel_rfl)) ?_
  refine wp_skip ?_
  refine then_n ?_
  refine wp_seq ?_
  refine wp_seq ?_
  refine wp_region_lit ?_
  refine lv (d := 27) rfl rfl (by kernel_rfl) (e_move (v := .slice A48 t43.length c49) (by kernel_rfl)) ?_
  refine lv (d := 28) rfl rfl (by kernel_rfl) (e_move (v := .slice A2 x1.length c3) (by kernel_rfl)) ?_
  obtain ⟨t98, u99, M⟩ := bnd M
  refine lcall (d := 29) rfl rfl (by kernel_rfl) (e_call (l := [.tmp 28]) (vs := [.slice A2 x1.length c3]) Try.func16 (by kernel_rfl) rfl (by kernel_rfl) rfl) (laws_toCellS.calls k w93 H73 x1 A2 c3 (h4.ext ((((E24.trans E28).trans E42).trans E54).trans E75)) l5 (St.own' (Fa := []) (Fr := [F51, F70, F39]) S95) t98 u99) ?_
  rintro _ w100 ⟨A103, c104, F106, H101, rfl, h105, T102⟩
  refine ⟨_, rfl, ?_⟩
  obtain ⟨S107, K108⟩ := St.call (Fa := []) (Fr := [F51, F70, F39]) S95 T102
  replace h50 := h50.move (K108.at 0 rfl)
  replace h69 := h69.move (K108.at 1 rfl)
  replace h38 := h38.move (K108.at 2 rfl)
  have E109 := T102.ext
  replace h50 := h50.ext E109
  replace h69 := h69.ext E109
  replace h38 := h38.ext E109
  obtain ⟨t110, u111, M⟩ := bnd M
  refine lcall (d := 30) rfl rfl (by kernel_rfl) (e_call (l := [.tmp 27, .tmp 29]) (vs := [.slice A48 t43.length c49, .slice A103 t98.length c104]) Try.func18 (by kernel_rfl) rfl (by kernel_rfl) rfl) (by have l112 := h50.le; have S113 := S107.pull (F := F51) (Fr := [F106, F70, F39]) 1 rfl rfl; obtain ⟨H114, S115, E116, h117, z118⟩ := S113.frzRow h50; replace h105 := h105.ext E116; replace h69 := h69.ext E116; replace h38 := h38.ext E116; have l119 := h105.le; obtain ⟨H120, S121, E122, h123, z124⟩ := S115.frzRow h105; replace h69 := h69.ext E122; replace h38 := h38.ext E122; exact (laws_eqCellS.calls k w100 H120 t43 A48 c49 t98 A103 c104 (h117.ext E122) l112 h123 l119 S121.own0 t110 u111)) ?_
  rintro _ w125 ⟨rfl, C126⟩
  refine ⟨_, rfl, ?_⟩
  obtain ⟨S127, K128⟩ := S107.still C126
  replace h105 := h105.move (K128.at 0 rfl)
  replace h50 := h50.move (K128.at 1 rfl)
  replace h69 := h69.move (K128.at 2 rfl)
  replace h38 := h38.move (K128.at 3 rfl)
  refine lv (d := 31) rfl rfl (by kernel_rfl) (e_notv (c := t110) (by kernel_rfl)) ?_
  refine wpList_nil ?_
  refine then_n ?_
  by_cases q129 : ¬ (t110 = true)
  · replace M := ifp q129 M
    refine cond_t rfl (bt q129 (by kernel_rfl)) ?_
    refine wp_seq ?_
    refine wp_region_lit ?_
    refine lv (d := 2) rfl rfl (by kernel_rfl) (e_assign (v := .bool false) rfl) ?_
    refine wpList_nil ?_
    refine then_n ?_
    refine wp_ret ?_
    refine then_r ?_
    obtain rfl := Option.some.inj M
    exact ret1 rfl rfl  (show _ = .bool false from (by kernel_rfl)) ⟨rfl, S127.chg⟩
  replace M := ifn q129 M
  refine cond_f rfl (bf q129 (by kernel_rfl)) ?_
  refine wp_skip ?_
  refine then_n ?_
  refine wp_seq ?_
  refine wp_region_lit ?_
  refine lv (d := 7) rfl rfl (by kernel_rfl) (e_assign (v := .int .i64 1) rfl) ?_
  refine wpList_nil ?_
  refine then_n ?_
  refine wp_seq ?_
  refine wp_region_lit ?_
  refine lv (d := 32) rfl rfl (by kernel_rfl) (e_move (v := .slice A48 t43.length c49) (by kernel_rfl)) ?_
  refine lv (d := 33) rfl rfl (by kernel_rfl) (e_move (v := .int .i64 1) (by kernel_rfl)) ?_
  have S130 := S127.pull (F := F51) (Fr := [F106, F70, F39]) 1 rfl rfl
  obtain ⟨t131, u132, M⟩ := bnd M
  refine lcall (d := 34) rfl rfl (by kernel_rfl) (e_call (l := [.tmp 32, .tmp 33]) (vs := [.slice A48 t43.length c49, .int .i64 1]) Try.func24 (by kernel_rfl) rfl (by kernel_rfl) rfl) (laws_markCellS_2.calls k w125 H101 t43 A48 c49 F51 1 h50 (St.own' (Fa := [F51]) (Fr := [F106, F70, F39]) S130) t131 u132) ?_
  rintro _ w133 ⟨F137, H134, rfl, n138, h136, T135⟩
  refine ⟨_, rfl, ?_⟩
  obtain ⟨S139, K140⟩ := St.call (Fa := [F51]) (Fr := [F106, F70, F39]) S130 T135
  replace h105 := h105.move (K140.at 0 rfl)
  replace h69 := h69.move (K140.at 1 rfl)
  replace h38 := h38.move (K140.at 2 rfl)
  have E141 := T135.ext
  replace h105 := h105.ext E141
  replace h69 := h69.ext E141
  replace h38 := h38.ext E141
  refine lv (d := 7) rfl rfl (by kernel_rfl) (e_assign (v := .int .i64 t131.1) (by kernel_rfl)) ?_
  refine wpList_nil ?_
  refine then_n ?_
  refine wp_seq ?_
  refine wp_seq ?_
  refine wp_region_lit ?_
  refine lv (d := 35) rfl rfl (by kernel_rfl) (e_move (v := .int .i64 t131.1) (by kernel_rfl)) ?_
  refine lv (d := 36) rfl rfl (by kernel_rfl) (e_lss (k := .i64) (a := t131.1) (b := 0) (by kernel_rfl) rfl) ?_
  refine lv (d := 37) rfl rfl (by kernel_rfl) (e_move (v := .bool (decide (t131.1 < 0))) (by kernel_rfl)) ?_
  by_cases q142 : t131.1 < 0
  · replace M := ifp q142 M
    refine lskip (t := 37) (c := true) rfl (by kernel_rfl) rfl (bt q142 (by kernel_rfl)) rfl rfl ?_
    refine lskip (t := 37) (c := true) rfl (by kernel_rfl) rfl (bt q142 (by kernel_rfl)) rfl rfl ?_
    refine lskip (t := 37) (c := true) rfl (by kernel_rfl) rfl (bt q142 (by kernel_rfl)) rfl rfl ?_
    refine lskip (t := 37) (c := true) rfl (by kernel_rfl) rfl (bt q142 (by kernel_rfl)) rfl rfl ?_
    refine lv (d := 42) rfl rfl (by kernel_rfl) (e_pick_t (v := .bool true) (bt q142 (by kernel_rfl)) rfl) ?_
    refine wpList_nil ?_
    refine then_n ?_
    refine cond_t rfl (by kernel_rfl) ?_
    refine wp_seq ?_
    refine wp_region_lit ?_
    refine lv (d := 2) rfl rfl (by kernel_rfl) (e_assign (v := .bool false) rfl) ?_
    refine wpList_nil ?_
    refine then_n ?_
    refine wp_ret ?_
    refine then_r ?_
    obtain rfl := Option.some.inj M
    exact ret1 rfl rfl  (show _ = .bool false from (by kernel_rfl)) ⟨rfl, S139.chg⟩
  replace M := ifn q142 M
  refine lvg (d := 38) (t := 37) rfl (by kernel_rfl) rfl (bf q142 (by kernel_rfl)) rfl (by kernel_rfl) (e_move (v := .slice A67 t62.length c68) (by kernel_rfl)) ?_
  refine lvg (d := 39) (t := 37) rfl (by kernel_rfl) rfl (bf q142 (by kernel_rfl)) rfl (by kernel_rfl) (e_move (v := .slice A36 t31.length c37) (by kernel_rfl)) ?_
  obtain ⟨t143, u144, M⟩ := bnd M
  refine lcallg (d := 40) (t := 37) rfl (by kernel_rfl) rfl (bf q142 (by kernel_rfl)) rfl (by kernel_rfl) (e_call (l := [.tmp 38, .tmp 39]) (vs := [.slice A67 t62.length c68, .slice A36 t31.length c37]) Try.func23 (by kernel_rfl) rfl (by kernel_rfl) rfl) (by have l145 := h69.le; have S146 := S139.pull (F := F70) (Fr := [F137, F106, F39]) 2 rfl rfl; obtain ⟨H147, S148, E149, h150, z151⟩ := S146.frzRow h69; replace h136 := h136.ext E149; replace h105 := h105.ext E149; replace h38 := h38.ext E149; have l152 := h38.le; have S153 := S148.pull (F := F39) (Fr := [F137, F106]) 2 rfl rfl; obtain ⟨H154, S155, E156, h157, z158⟩ := S153.frzRow h38; replace h136 := h136.ext E156; replace h105 := h105.ext E156; exact (laws_eqIntS.calls k w133 H154 t62 A67 c68 t31 A36 c37 (h150.ext E156) l145 h157 l152 S155.own0 t143 u144)) ?_
  rintro _ w159 ⟨rfl, C160⟩
  refine ⟨_, rfl, ?_⟩
  obtain ⟨S161, K162⟩ := S139.still C160
  replace h136 := h136.move (K162.at 0 rfl)
  replace h105 := h105.move (K162.at 1 rfl)
  replace h69 := h69.move (K162.at 2 rfl)
  replace h38 := h38.move (K162.at 3 rfl)
  refine lvg (d := 41) (t := 37) rfl (by kernel_rfl) rfl (bf q142 (by kernel_rfl)) rfl (by kernel_rfl) (e_notv (c := t143) (by kernel_rfl)) ?_
  refine lv (d := 42) rfl rfl (by kernel_rfl) (e_pick_f (v := .bool (decide (¬ (t143 = true)))) (bf q142 (by kernel_rfl)) (by kernel_rfl)) ?_
  refine wpList_nil ?_
  refine then_n ?_
  by_cases q163 : ¬ (t143 = true)
  · replace M := ifp q163 M
    refine cond_t rfl (bt q163 (by kernel_rfl)) ?_
    refine wp_seq ?_
    refine wp_region_lit ?_
    refine lv (d := 2) rfl rfl (by kernel_rfl) (e_assign (v := .bool false) rfl) ?_
    refine wpList_nil ?_
    refine then_n ?_
    refine wp_ret ?_
    refine then_r ?_
    obtain rfl := Option.some.inj M
    exact ret1 rfl rfl  (show _ = .bool false from (by kernel_rfl)) ⟨rfl, S161.chg⟩
  replace M := ifn q163 M
  refine cond_f rfl (bf q163 (by kernel_rfl)) ?_
  refine wp_skip ?_
  refine then_n ?_
  refine wp_seq ?_
  refine wp_region_lit ?_
  refine lv (d := 8) rfl rfl (by kernel_rfl) (e_assign (v := .int .i64 1) rfl) ?_
  refine wpList_nil ?_
  refine then_n ?_
  refine wp_seq ?_
  refine wp_region_lit ?_
  refine lv (d := 43) rfl rfl (by kernel_rfl) (e_move (v := .slice A67 t62.length c68) (by kernel_rfl)) ?_
  refine lv (d := 44) rfl rfl (by kernel_rfl) (e_move (v := .int .i64 1) (by kernel_rfl)) ?_
  have S164 := S161.pull (F := F70) (Fr := [F137, F106, F39]) 2 rfl rfl
  obtain ⟨t165, u166, M⟩ := bnd M
  refine lcall (d := 45) rfl rfl (by kernel_rfl) (e_call (l := [.tmp 43, .tmp 44]) (vs := [.slice A67 t62.length c68, .int .i64 1]) Try.func25 (by kernel_rfl) rfl (by kernel_rfl) rfl) (laws_markIntS_2.calls k w159 H134 t62 A67 c68 F70 1 h69 (St.own' (Fa := [F70]) (Fr := [F137, F106, F39]) S164) t165 u166) ?_
  rintro _ w167 ⟨F171, H168, rfl, n172, h170, T169⟩
  refine ⟨_, rfl, ?_⟩
  obtain ⟨S173, K174⟩ := St.call (Fa := [F70]) (Fr := [F137, F106, F39]) S164 T169
  replace h136 := h136.move (K174.at 0 rfl)
  replace h105 := h105.move (K174.at 1 rfl)
  replace h38 := h38.move (K174.at 2 rfl)
  have E175 := T169.ext
  replace h136 := h136.ext E175
  replace h105 := h105.ext E175
  replace h38 := h38.ext E175
  refine lv (d := 8) rfl rfl (by kernel_rfl) (e_assign (v := .int .i64 t165.1) (by kernel_rfl)) ?_
  refine wpList_nil ?_
  refine then_n ?_
  refine wp_seq ?_
  refine wp_region_lit ?_
  refine lv (d := 9) rfl rfl (by kernel_rfl) (e_assign (v := .int .i64 1) rfl) ?_
  refine wpList_nil ?_
  refine then_n ?_
  refine wp_seq ?_
  refine wp_region_lit ?_
  refine lv (d := 46) rfl rfl (by kernel_rfl) (e_move (v := .slice A67 t62.length c68) (by kernel_rfl)) ?_
  refine lv (d := 47) rfl rfl (by kernel_rfl) (e_move (v := .int .i64 1) (by kernel_rfl)) ?_
  obtain ⟨t176, u177, M⟩ := bnd M
  refine lcall (d := 48) rfl rfl (by kernel_rfl) (e_call (l := [.tmp 46, .tmp 47]) (vs := [.slice A67 t62.length c68, .int .i64 1]) Try.func26 (by kernel_rfl) rfl (by kernel_rfl) rfl) (by have l178 := h170.le; obtain ⟨H179, S180, E181, h182, z183⟩ := S173.frzRow h170; replace h136 := h136.ext E181; replace h105 := h105.ext E181; replace h38 := h38.ext E181; exact (by have q_ := (laws_heldIntS.calls k w167 H179 t165.2 A67 c68 1 h182 l178 S180.own0 t176 u177); rw [(show t165.2.length = t62.length from n172)] at q_; exact q_)) ?_
  rintro _ w184 ⟨rfl, C185⟩
  refine ⟨_, rfl, ?_⟩
  obtain ⟨S186, K187⟩ := S173.still C185
  replace h170 := h170.move (K187.at 0 rfl)
  replace h136 := h136.move (K187.at 1 rfl)
  replace h105 := h105.move (K187.at 2 rfl)
  replace h38 := h38.move (K187.at 3 rfl)
  refine lv (d := 9) rfl rfl (by kernel_rfl) (e_assign (v := .int .i64 t176) (by kernel_rfl)) ?_
  refine wpList_nil ?_
  refine then_n ?_
  refine wp_seq ?_
  refine wp_seq ?_
  refine wp_region_lit ?_
  refine lv (d := 49) rfl rfl (by kernel_rfl) (e_move (v := .int .i64 t176) (by kernel_rfl)) ?_
  refine lv (d := 50) rfl rfl (by kernel_rfl) (e_lss (k := .i64) (a := t176) (b := 0) (by kernel_rfl) rfl) ?_
  refine wpList_nil ?_
  refine then_n ?_
  by_cases q188 : t176 < 0
  · replace M := ifp q188 M
    refine cond_t rfl (bt q188 (by kernel_rfl)) ?_
    refine wp_seq ?_
    refine wp_region_lit ?_
    refine lv (d := 2) rfl rfl (by kernel_rfl) (e_assign (v := .bool false) rfl) ?_
    refine wpList_nil ?_
    refine then_n ?_
    refine wp_ret ?_
    refine then_r ?_
    obtain rfl := Option.some.inj M
    exact ret1 rfl rfl  (show _ = .bool false from (by kernel_rfl)) ⟨rfl, S186.chg⟩
  replace M := ifn q188 M
  refine cond_f rfl (bf q188 (by kernel_rfl)) ?_
  refine wp_skip ?_
  refine then_n ?_
  refine wp_seq ?_
  refine wp_seq ?_
  refine wp_region_lit ?_
  refine lv (d := 51) rfl rfl (by kernel_rfl) (e_move (v := .int .i64 t176) (by kernel_rfl)) ?_
  refine lv (d := 52) rfl rfl (by kernel_rfl) (e_move (v := .int .i64 t165.1) (by kernel_rfl)) ?_
  refine lv (d := 53) rfl rfl (by kernel_rfl) (e_neq (k := .i64) (a := t176) (b := t165.1) (by kernel_rfl) (by kernel_rfl)) ?_
  refine wpList_nil ?_
  refine then_n ?_
  by_cases q189 : t176 ≠ t165.1
  · replace M := ifp q189 M
    refine cond_t rfl (bt q189 (by kernel_rfl)) ?_
    refine wp_seq ?_
    refine wp_region_lit ?_
    refine lv (d := 2) rfl rfl (by kernel_rfl) (e_assign (v := .bool false) rfl) ?_
    refine wpList_nil ?_
    refine then_n ?_
    refine wp_ret ?_
    refine then_r ?_
    obtain rfl := Option.some.inj M
    exact ret1 rfl rfl  (show _ = .bool false from (by kernel_rfl)) ⟨rfl, S186.chg⟩
  replace M := ifn q189 M
  refine cond_f rfl (bf q189 (by kernel_rfl)) ?_
  refine wp_skip ?_
  refine then_n ?_
  refine wp_seq ?_
  refine wp_region_lit ?_
  refine lv (d := 54) rfl rfl (by kernel_rfl) (e_move (v := .slice A2 x1.length c3) (by kernel_rfl)) ?_
  obtain ⟨t190, u191, M⟩ := bnd M
  refine lcall (d := 55) rfl rfl (by kernel_rfl) (e_call (l := [.tmp 54]) (vs := [.slice A2 x1.length c3]) Try.func16 (by kernel_rfl) rfl (by kernel_rfl) rfl) (laws_toCellS.calls k w184 H168 x1 A2 c3 (h4.ext (((((((E24.trans E28).trans E42).trans E54).trans E75).trans E109).trans E141).trans E175)) l5 (St.own' (Fa := []) (Fr := [F171, F137, F106, F39]) S186) t190 u191) ?_
  rintro _ w192 ⟨A195, c196, F198, H193, rfl, h197, T194⟩
  refine ⟨_, rfl, ?_⟩
  obtain ⟨S199, K200⟩ := St.call (Fa := []) (Fr := [F171, F137, F106, F39]) S186 T194
  replace h170 := h170.move (K200.at 0 rfl)
  replace h136 := h136.move (K200.at 1 rfl)
  replace h105 := h105.move (K200.at 2 rfl)
  replace h38 := h38.move (K200.at 3 rfl)
  have E201 := T194.ext
  replace h170 := h170.ext E201
  replace h136 := h136.ext E201
  replace h105 := h105.ext E201
  replace h38 := h38.ext E201
  have l202 := h197.le
  obtain ⟨H203, S204, E205, h206, z207⟩ := S199.frzRow h197
  replace h170 := h170.ext E205
  replace h136 := h136.ext E205
  replace h105 := h105.ext E205
  replace h38 := h38.ext E205
  obtain ⟨t208, u209, M⟩ := bnd M
  refine lcall (d := 56) rfl rfl (by kernel_rfl) (e_call (l := [.tmp 55]) (vs := [.slice A195 t190.length c196]) Try.func22 (by kernel_rfl) rfl (by kernel_rfl) rfl) (impl_TermVars.calls k w192 H203 t190 A195 c196 h206 l202 (St.own' (Fa := []) (Fr := [F171, F137, F106, F39]) S204) t208 u209) ?_
  rintro _ w210 ⟨A213, c214, F216, H211, rfl, h215, T212⟩
  refine ⟨_, rfl, ?_⟩
  obtain ⟨S217, K218⟩ := St.call (Fa := []) (Fr := [F171, F137, F106, F39]) S204 T212
  replace h170 := h170.move (K218.at 0 rfl)
  replace h136 := h136.move (K218.at 1 rfl)
  replace h105 := h105.move (K218.at 2 rfl)
  replace h38 := h38.move (K218.at 3 rfl)
  have E219 := T212.ext
  replace h170 := h170.ext E219
  replace h136 := h136.ext E219
  replace h105 := h105.ext E219
  replace h38 := h38.ext E219
  refine lv (d := 10) rfl rfl (by kernel_rfl) (e_assign (v := .slice A213 t208.length c214) (by kernel_rfl)) ?_
  refine wpList_nil ?_
  refine then_n ?_
  refine wp_seq ?_
  refine wp_seq ?_
  refine wp_region_lit ?_
  refine lv (d := 57) rfl rfl (by kernel_rfl) (e_move (v := .slice A213 t208.length c214) (by kernel_rfl)) ?_
  refine lv (d := 58) rfl rfl (by kernel_rfl) (e_move (v := .slice A36 t31.length c37) (by kernel_rfl)) ?_
  obtain ⟨t220, u221, M⟩ := bnd M
  refine lcall (d := 59) rfl rfl (by kernel_rfl) (e_call (l := [.tmp 57, .tmp 58]) (vs := [.slice A213 t208.length c214, .slice A36 t31.length c37]) Try.func23 (by kernel_rfl) rfl (by kernel_rfl) rfl) (by have l222 := h215.le; obtain ⟨H223, S224, E225, h226, z227⟩ := S217.frzRow h215; replace h170 := h170.ext E225; replace h136 := h136.ext E225; replace h105 := h105.ext E225; replace h38 := h38.ext E225; have l228 := h38.le; have S229 := S224.pull (F := F39) (Fr := [F171, F137, F106]) 3 rfl rfl; obtain ⟨H230, S231, E232, h233, z234⟩ := S229.frzRow h38; replace h170 := h170.ext E232; replace h136 := h136.ext E232; replace h105 := h105.ext E232; exact (laws_eqIntS.calls k w210 H230 t208 A213 c214 t31 A36 c37 (h226.ext E232) l222 h233 l228 S231.own0 t220 u221)) ?_
  rintro _ w235 ⟨rfl, C236⟩
  refine ⟨_, rfl, ?_⟩
  obtain ⟨S237, K238⟩ := S217.still C236
  replace h215 := h215.move (K238.at 0 rfl)
  replace h170 := h170.move (K238.at 1 rfl)
  replace h136 := h136.move (K238.at 2 rfl)
  replace h105 := h105.move (K238.at 3 rfl)
  replace h38 := h38.move (K238.at 4 rfl)
  refine lv (d := 60) rfl rfl (by kernel_rfl) (e_notv (c := t220) (by kernel_rfl)) ?_
  refine wpList_nil ?_
  refine then_n ?_
  by_cases q239 : ¬ (t220 = true)
  · replace M := ifp q239 M
    refine cond_t rfl (bt q239 (by kernel_rfl)) ?_
    refine wp_seq ?_
    refine wp_region_lit ?_
    refine lv (d := 2) rfl rfl (by kernel_rfl) (e_assign (v := .bool false) rfl) ?_
    refine wpList_nil ?_
    refine then_n ?_
    refine wp_ret ?_
    refine then_r ?_
    obtain rfl := Option.some.inj M
    exact ret1 rfl rfl  (show _ = .bool false from (by kernel_rfl)) ⟨rfl, S237.chg⟩
  replace M := ifn q239 M
  refine cond_f rfl (bf q239 (by kernel_rfl)) ?_
  refine wp_skip ?_
  refine then_n ?_
  refine wp_seq ?_
  refine wp_region_lit ?_
  refine lv (d := 9) rfl rfl (by kernel_rfl) (e_assign (v := .int .i64 1) rfl) ?_
  refine wpList_nil ?_
  refine then_n ?_
  refine wp_seq ?_
  refine wp_region_lit ?_
  refine lv (d := 61) rfl rfl (by kernel_rfl) (e_move (v := .slice A67 t62.length c68) (by kernel_rfl)) ?_
  refine lv (d := 62) rfl rfl (by kernel_rfl) (e_move (v := .int .i64 1) (by kernel_rfl)) ?_
  obtain ⟨t240, u241, M⟩ := bnd M
  refine lcall (d := 63) rfl rfl (by kernel_rfl) (e_call (l := [.tmp 61, .tmp 62]) (vs := [.slice A67 t62.length c68, .int .i64 1]) Try.func26 (by kernel_rfl) rfl (by kernel_rfl) rfl) (by have l242 := h170.le; have S243 := S237.pull (F := F171) (Fr := [F216, F137, F106, F39]) 1 rfl rfl; obtain ⟨H244, S245, E246, h247, z248⟩ := S243.frzRow h170; replace h215 := h215.ext E246; replace h136 := h136.ext E246; replace h105 := h105.ext E246; replace h38 := h38.ext E246; exact (by have q_ := (laws_heldIntS.calls k w235 H244 t165.2 A67 c68 1 h247 l242 S245.own0 t240 u241); rw [(show t165.2.length = t62.length from n172)] at q_; exact q_)) ?_
  rintro _ w249 ⟨rfl, C250⟩
  refine ⟨_, rfl, ?_⟩
  obtain ⟨S251, K252⟩ := S237.still C250
  replace h215 := h215.move (K252.at 0 rfl)
  replace h170 := h170.move (K252.at 1 rfl)
  replace h136 := h136.move (K252.at 2 rfl)
  replace h105 := h105.move (K252.at 3 rfl)
  replace h38 := h38.move (K252.at 4 rfl)
  refine lv (d := 9) rfl rfl (by kernel_rfl) (e_assign (v := .int .i64 t240) (by kernel_rfl)) ?_
  refine wpList_nil ?_
  refine then_n ?_
  refine wp_seq ?_
  refine wp_seq ?_
  refine wp_region_lit ?_
  refine lv (d := 64) rfl rfl (by kernel_rfl) (e_move (v := .int .i64 t240) (by kernel_rfl)) ?_
  refine lv (d := 65) rfl rfl (by kernel_rfl) (e_lss (k := .i64) (a := t240) (b := 0) (by kernel_rfl) rfl) ?_
  refine wpList_nil ?_
  refine then_n ?_
  by_cases q253 : t240 < 0
  · replace M := ifp q253 M
    refine cond_t rfl (bt q253 (by kernel_rfl)) ?_
    refine wp_seq ?_
    refine wp_region_lit ?_
    refine lv (d := 2) rfl rfl (by kernel_rfl) (e_assign (v := .bool false) rfl) ?_
    refine wpList_nil ?_
    refine then_n ?_
    refine wp_ret ?_
    refine then_r ?_
    obtain rfl := Option.some.inj M
    exact ret1 rfl rfl  (show _ = .bool false from (by kernel_rfl)) ⟨rfl, S251.chg⟩
  replace M := ifn q253 M
  refine cond_f rfl (bf q253 (by kernel_rfl)) ?_
  refine wp_skip ?_
  refine then_n ?_
  refine wp_seq ?_
  refine wp_seq ?_
  refine wp_region_lit ?_
  refine lv (d := 66) rfl rfl (by kernel_rfl) (e_move (v := .int .i64 t240) (by kernel_rfl)) ?_
  refine lv (d := 67) rfl rfl (by kernel_rfl) (e_move (v := .int .i64 t165.1) (by kernel_rfl)) ?_
  refine lv (d := 68) rfl rfl (by kernel_rfl) (e_neq (k := .i64) (a := t240) (b := t165.1) (by kernel_rfl) (by kernel_rfl)) ?_
  refine wpList_nil ?_
  refine then_n ?_
  by_cases q254 : t240 ≠ t165.1
  · replace M := ifp q254 M
    refine cond_t rfl (bt q254 (by kernel_rfl)) ?_
    refine wp_seq ?_
    refine wp_region_lit ?_
    refine lv (d := 2) rfl rfl (by kernel_rfl) (e_assign (v := .bool false) rfl) ?_
    refine wpList_nil ?_
    refine then_n ?_
    refine wp_ret ?_
    refine then_r ?_
    obtain rfl := Option.some.inj M
    exact ret1 rfl rfl  (show _ = .bool false from (by kernel_rfl)) ⟨rfl, S251.chg⟩
  replace M := ifn q254 M
  refine cond_f rfl (bf q254 (by kernel_rfl)) ?_
  refine wp_skip ?_
  refine then_n ?_
  refine wp_seq ?_
  refine wp_region_lit ?_
  refine lv (d := 2) rfl rfl (by kernel_rfl) (e_assign (v := .bool true) rfl) ?_
  refine wpList_nil ?_
  refine then_n ?_
  refine wp_ret ?_
  obtain rfl := Option.some.inj M
  exact ret1 rfl rfl  (show _ = .bool true from (by kernel_rfl)) ⟨rfl, S251.chg⟩
end Go.Proofs.Ytognefkopbbdnaa
