import Derived.Test.YtmmjeppmglmefaaWkTg3
namespace Go.Proofs.Ytmmjeppmglmefaa
open Go.Sx Go.Sy
attribute [local irreducible] Go.wpList Go.wpStill Go.wpQuiet Go.Code.wp
set_option maxRecDepth 100000
set_option maxHeartbeats 1000000
set_option linter.unusedVariables false
set_option linter.unusedSimpArgs false

/-! laws_FnExactTranslateGrammar -/
def laws_FnExactTranslateGrammar.f (k : Nat) (x1 : List Cell) : Option Bool := ((laws_szCellS.f k x1 1048576).bind fun t6 => (if t6 < 0 then some true else ((laws_toCellS.f k x1).bind fun t13 => ((spec_TranslateGrammar.f k t13).bind fun t31 => ((laws_toCellS.f k x1).bind fun t43 => ((impl_TranslateGrammar.f k t43).bind fun t62 => ((laws_eqCellS.f k t62.1 t31.1).bind fun t77 => (if ¬ (t77 = true) then some false else (if t62.2 ≠ t31.2 then some false else ((laws_toCellS.f k x1).bind fun t99 => ((laws_eqCellS.f k t43 t99).bind fun t111 => (if ¬ (t111 = true) then some false else ((laws_markCellS_2.f k t43 1).bind fun t132 => (if t132.1 < 0 then some false else ((laws_eqCellS.f k t62.1 t31.1).bind fun t144 => (if ¬ (t144 = true) then some false else ((laws_markCellS_2.f k t62.1 1).bind fun t166 => ((laws_heldCellS.f k t166.2 1).bind fun t177 => (if t177 < 0 then some false else (if t177 ≠ t166.1 then some false else ((laws_toCellS.f k x1).bind fun t191 => ((impl_TranslateGrammar.f k t191).bind fun t209 => ((laws_eqCellS.f k t209.1 t31.1).bind fun t221 => (if ¬ (t221 = true) then some false else (if t209.2 ≠ t31.2 then some false else ((laws_heldCellS.f k t166.2 1).bind fun t242 => (if t242 < 0 then some false else (if t242 ≠ t166.1 then some false else some true))))))))))))))))))))))))))))
theorem laws_FnExactTranslateGrammar.calls (k : Nat) (w : World) (H : Hp) (x1 : List Cell) (A2 : Option Addr) (c3 : Nat) (h4 : Rd st34 H A2 x1) (l5 : x1.length ≤ c3) (S : Own [] H w) (r : Bool) (M : laws_FnExactTranslateGrammar.f k x1 = some r) :
    Calls Try.prog 4 #[.slice A2 x1.length c3] w (fun e e_w => e = .returned (.bool r) ∧ Chg no w e_w) := by
  rw [laws_FnExactTranslateGrammar.f] at M
  refine enter (l := [.slice A2 x1.length c3]) 96 Try.func4 rfl rfl rfl ?_
  have S0_ := S.st
  refine wp_seq ?_
  refine wp_region_lit ?_
  refine lv (d := 2) rfl rfl (by kernel_rfl) (e_assign (v := .bool false) rfl) ?_
  refine wpList_nil ?_
  refine then_n ?_
  refine wp_seq ?_
  refine wp_region_lit ?_
  refine lv (d := 3) rfl rfl (by kernel_rfl) (e_assign (v := .int .i64 1048576) rfl) ?_
  refine wpList_nil ?_
  refine then_n ?_
  refine wp_seq ?_
  refine wp_region_lit ?_
  refine lv (d := 14) rfl rfl (by kernel_rfl) (e_move (v := .slice A2 x1.length c3) (by kernel_rfl)) ?_
  refine lv (d := 15) rfl rfl (by kernel_rfl) (e_move (v := .int .i64 1048576) (by kernel_rfl)) ?_
  obtain ⟨t6, u7, M⟩ := bnd M
  refine lcall (d := 16) rfl rfl (by kernel_rfl) (e_call (l := [.tmp 14, .tmp 15]) (vs := [.slice A2 x1.length c3, .int .i64 1048576]) Try.func5 (by kernel_rfl) rfl (by kernel_rfl) rfl) (laws_szCellS.calls k w H x1 A2 c3 1048576 h4 l5 S0_.own0 t6 u7) ?_
  rintro _ w8 ⟨rfl, C9⟩
  refine ⟨_, rfl, ?_⟩
  obtain ⟨S10, K11⟩ := S0_.still C9
  refine lv (d := 3) rfl rfl (by kernel_rfl) (e_assign (v := .int .i64 t6) (by kernel_rfl)) ?_
  refine wpList_nil ?_
  refine then_n ?_
  refine wp_seq ?_
  refine wp_seq ?_
  refine wp_region_lit ?_
  refine lv (d := 17) rfl rfl (by kernel_rfl) (e_move (v := .int .i64 t6) (by kernel_rfl)) ?_
  refine lv (d := 18) rfl rfl (by kernel_rfl) (e_lss (k := .i64) (a := t6) (b := 0) (by kernel_rfl) rfl) ?_
  refine wpList_nil ?_
  refine then_n ?_
  by_cases q12 : t6 < 0
  · replace M := ifp q12 M
    refine cond_t rfl (bt q12 (by kernel_rfl)) ?_
    refine wp_seq ?_
    refine wp_region_lit ?_
    refine lv (d := 2) rfl rfl (by kernel_rfl) (e_assign (v := .bool true) rfl) ?_
    refine wpList_nil ?_
    refine then_n ?_
    refine wp_ret ?_
    refine then_r ?_
    obtain rfl := Option.some.inj M
    exact ret1 rfl rfl  (show _ = .bool true from (by kernel_rfl)) ⟨rfl, S10.chg⟩
  replace M := ifn q12 M
  refine cond_f rfl (bf q12 (by kernel_rfl)) ?_
  refine wp_skip ?_
  refine then_n ?_
  refine wp_seq ?_
  refine wp_region_lit ?_
  refine lv (d := 20) rfl rfl (by kernel_rfl) (e_move (v := .slice A2 x1.length c3) (by kernel_rfl)) ?_
  obtain ⟨t13, u14, M⟩ := bnd M
  refine lcall (d := 21) rfl rfl (by kernel_rfl) (e_call (l := [.tmp 20]) (vs := [.slice A2 x1.length c3]) Try.func7 (by kernel_rfl) rfl (by kernel_rfl) rfl) (laws_toCellS.calls k w8 H x1 A2 c3 h4 l5 (St.own' (Fa := []) (Fr := []) S10) t13 u14) ?_
  rintro _ w15 ⟨A18, c19, F21, H16, rfl, h20, T17⟩
  refine ⟨_, rfl, ?_⟩
  obtain ⟨S22, K23⟩ := St.call (Fa := []) (Fr := []) S10 T17
  have E24 := T17.ext
  have l25 := h20.le
  obtain ⟨H26, S27, E28, h29, z30⟩ := S22.frzRow h20
  obtain ⟨t31, u32, M⟩ := bnd M
  refine lcall (d := 22) rfl rfl (by kernel_rfl) (e_call (l := [.tmp 21]) (vs := [.slice A18 t13.length c19]) Try.func12 (by kernel_rfl) rfl (by kernel_rfl) rfl) (spec_TranslateGrammar.calls k w15 H26 t13 A18 c19 h29 l25 (St.own' (Fa := []) (Fr := []) S27) t31 u32) ?_
  rintro _ w33 ⟨A36, c37, F39, H34, rfl, h38, T35⟩
  refine ⟨_, rfl, ?_⟩
  obtain ⟨S40, K41⟩ := St.call (Fa := []) (Fr := []) S27 T35
  have E42 := T35.ext
  refine lv (d := 19) rfl rfl (by kernel_rfl) (e_move (v := .tuple #[.slice A36 t31.1.length c37, .int .i64 t31.2]) (by kernel_rfl)) ?_
  refine lv (d := 23) rfl rfl (by kernel_rfl) (e_extract (vs := #[.slice A36 t31.1.length c37, .int .i64 t31.2]) (v := .slice A36 t31.1.length c37) (by kernel_rfl) rfl) ?_
  refine lv (d := 24) rfl rfl (by kernel_rfl) (e_extract (vs := #[.slice A36 t31.1.length c37, .int .i64 t31.2]) (v := .int .i64 t31.2) (by kernel_rfl) rfl) ?_
  refine lv (d := 4) rfl rfl (by kernel_rfl) (e_assign (v := .slice A36 t31.1.length c37) (by kernel_rfl)) ?_
  refine lv (d := 5) rfl rfl (by kernel_rfl) (e_assign (v := .int .i64 t31.2) (by kernel_rfl)) ?_
  refine wpList_nil ?_
  refine then_n ?_
  refine wp_seq ?_
  refine wp_region_lit ?_
  refine lv (d := 25) rfl rfl (by kernel_rfl) (e_move (v := .slice A2 x1.length c3) (by kernel_rfl)) ?_
  obtain ⟨t43, u44, M⟩ := bnd M
  refine lcall (d := 26) rfl rfl (by kernel_rfl) (e_call (l := [.tmp 25]) (vs := [.slice A2 x1.length c3]) Try.func7 (by kernel_rfl) rfl (by kernel_rfl) rfl) (laws_toCellS.calls k w33 H34 x1 A2 c3 (h4.ext ((E24.trans E28).trans E42)) l5 (St.own' (Fa := []) (Fr := [F39]) S40) t43 u44) ?_
  rintro _ w45 ⟨A48, c49, F51, H46, rfl, h50, T47⟩
  refine ⟨_, rfl, ?_⟩
  obtain ⟨S52, K53⟩ := St.call (Fa := []) (Fr := [F39]) S40 T47
  replace h38 := h38.move (K53.at 0 rfl)
  have E54 := T47.ext
  replace h38 := h38.ext E54
  refine lv (d := 6) rfl rfl (by kernel_rfl) (e_assign (v := .slice A48 t43.length c49) (by kernel_rfl)) ?_
  refine wpList_nil ?_
  refine then_n ?_
  refine wp_seq ?_
  refine wp_region_lit ?_
  refine lv (d := 28) rfl rfl (by kernel_rfl) (e_move (v := .slice A48 t43.length c49) (by kernel_rfl)) ?_
  have l55 := h50.le
  obtain ⟨H56, S57, E58, h59, z60⟩ := S52.frzRow h50
  have h61 := h38.ext E58
  obtain ⟨t62, u63, M⟩ := bnd M
  refine lcall (d := 29) rfl rfl (by kernel_rfl) (e_call (l := [.tmp 28]) (vs := [.slice A48 t43.length c49]) Try.func13 (by kernel_rfl) rfl (by kernel_rfl) rfl) (impl_TranslateGrammar.calls k w45 H56 t43 A48 c49 h59 l55 S57.own0 t62 u63) ?_
  rintro _ w64 ⟨A67, c68, F70, H65, rfl, h69, T66⟩
  refine ⟨_, rfl, ?_⟩
  obtain ⟨S71, K72⟩ := St.call (Fa := []) (Fr := [F39]) S57 T66
  replace h38 := h38.move (K72.at 0 rfl)
  obtain ⟨H73, S74, E75, v76⟩ := St.thaw S52 z60 S71 T66.ext E58 T66.size
  replace h50 := h50.move v76
  replace h50 := h50.ext E75
  replace h38 := h38.ext E75
  replace h69 := Row.free (H' := H73) (free_iso (free_pair (free_scal _ _) (free_pair (free_scal _ _) (free_slice (free_scal _ _))))) h69
  refine lv (d := 27) rfl rfl (by kernel_rfl) (e_move (v := .tuple #[.slice A67 t62.1.length c68, .int .i64 t62.2]) (by kernel_rfl)) ?_
  refine lv (d := 30) rfl rfl (by kernel_rfl) (e_extract (vs := #[.slice A67 t62.1.length c68, .int .i64 t62.2]) (v := .slice A67 t62.1.length c68) (by kernel_rfl) rfl) ?_
  refine lv (d := 31) rfl rfl (by kernel_rfl) (e_extract (vs := #[.slice A67 t62.1.length c68, .int .i64 t62.2]) (v := .int .i64 t62.2) (by kernel_rfl) rfl) ?_
  refine lv (d := 7) rfl rfl (by kernel_rfl) (e_assign (v := .slice A67 t62.1.length c68) (by kernel_rfl)) ?_
  refine lv (d := 8) rfl rfl (by kernel_rfl) (e_assign (v := .int .i64 t62.2) (by kernel_rfl)) ?_
  refine wpList_nil ?_
  refine then_n ?_
  refine wp_seq ?_
  refine wp_seq ?_
  refine wp_region_lit ?_
  refine lv (d := 32) rfl rfl (by kernel_rfl) (e_move (v := .slice A67 t62.1.length c68) (by kernel_rfl)) ?_
  refine lv (d := 33) rfl rfl (by kernel_rfl) (e_move (v := .slice A36 t31.1.length c37) (by kernel_rfl)) ?_
  obtain ⟨t77, u78, M⟩ := bnd M
  refine lcall (d := 34) rfl rfl (by kernel_rfl) (e_call (l := [.tmp 32, .tmp 33]) (vs := [.slice A67 t62.1.length c68, .slice A36 t31.1.length c37]) Try.func9 (by kernel_rfl) rfl (by kernel_rfl) rfl) (by have l79 := h69.le; have S80 := S74.pull (F := F70) (Fr := [F51, F39]) 1 rfl rfl; obtain ⟨H81, S82, E83, h84, z85⟩ := S80.frzRow h69; replace h50 := h50.ext E83; replace h38 := h38.ext E83; have l86 := h38.le; have S87 := S82.pull (F := F39) (Fr := [F51]) 1 rfl rfl; obtain ⟨H88, S89, E90, h91, z92⟩ := S87.frzRow h38; replace h50 := h50.ext E90; exact (laws_eqCellS.calls k w64 H88 t62.1 A67 c68 t31.1 A36 c37 (h84.ext E90) l79 h91 l86 S89.own0 t77 u78)) ?_
  rintro _ w93 ⟨rfl, C94⟩
  refine ⟨_, rfl, ?_⟩
  obtain ⟨S95, K96⟩ := S74.still C94
  replace h50 := h50.move (K96.at 0 rfl)
  replace h69 := h69.move (K96.at 1 rfl)
  replace h38 := h38.move (K96.at 2 rfl)
  refine lv (d := 35) rfl rfl (by kernel_rfl) (e_notv (c := t77) (by kernel_rfl)) ?_
  refine lv (d := 36) rfl rfl (by kernel_rfl) (e_move (v := .bool (decide (¬ (t77 = true)))) (by kernel_rfl)) ?_
  by_cases q97 : ¬ (t77 = true)
  · replace M := ifp q97 M
    refine lskip (t := 36) (c := true) rfl (by kernel_rfl) rfl (bt q97 (by kernel_rfl)) rfl rfl ?_
    refine lskip (t := 36) (c := true) rfl (by kernel_rfl) rfl (bt q97 (by kernel_rfl)) rfl rfl ?_
    refine lskip (t := 36) (c := true) rfl (by kernel_rfl) rfl (bt q97 (by kernel_rfl)) rfl rfl ?_
    refine lv (d := 40) rfl rfl (by kernel_rfl) (e_pick_t (v := .bool true) (bt q97 (by kernel_rfl)) rfl) ?_
    refine wpList_nil ?_
    refine then_n ?_
    refine cond_t rfl (by kernel_rfl) ?_
    refine wp_seq ?_
    refine wp_region_lit ?_
    refine lv (d := 2) rfl rfl (by kernel_rfl) (e_assign (v := .bool false) rfl) ?_
    refine wpList_nil ?_
    refine then_n ?_
    refine wp_ret ?_
    refine then_r ?_
    obtain rfl := Option.some.inj M
    exact ret1 rfl rfl  (show _ = .bool false from (by kernel_rfl)) ⟨rfl, S95.chg⟩
  replace M := ifn q97 M
  refine lvg (d := 37) (t := 36) rfl (by kernel_rfl) rfl (bf q97 (by kernel_rfl)) rfl (by kernel_rfl) (e_move (v := .int .i64 t62.2) (by kernel_rfl)) ?_
  refine lvg (d := 38) (t := 36) rfl (by kernel_rfl) rfl (bf q97 (by kernel_rfl)) rfl (by kernel_rfl) (e_move (v := .int .i64 t31.2) (by kernel_rfl)) ?_
  refine lvg (d := 39) (t := 36) rfl (by kernel_rfl) rfl (bf q97 (by kernel_rfl)) rfl (by kernel_rfl) (e_neq (k := .i64) (a := t62.2) (b := t31.2) (by kernel_rfl) (by kernel_rfl)) ?_
  refine lv (d := 40) rfl rfl (by kernel_rfl) (e_pick_f (v := .bool (decide (t62.2 ≠ t31.2))) (bf q97 (by kernel_rfl)) (by kernel_rfl)) ?_
  refine wpList_nil ?_
  refine then_n ?_
  by_cases q98 : t62.2 ≠ t31.2
  · replace M := ifp q98 M
    refine cond_t rfl (bt q98 (by kernel_rfl)) ?_
    refine wp_seq ?_
    refine wp_region_lit ?_
    refine lv (d := 2) rfl rfl (by kernel_rfl) (e_assign (v := .bool false) rfl) ?_
    refine wpList_nil ?_
    refine then_n ?_
    refine wp_ret ?_
    refine then_r ?_
    obtain rfl := Option.some.inj M
    exact ret1 rfl rfl  (show _ = .bool false from (by kernel_rfl)) ⟨rfl, S95.chg⟩
  replace M := ifn q98 M
  refine cond_f rfl (bf q98 (by kernel_rfl)) ?_
  refine wp_skip ?_
  refine then_n ?_
  refine wp_seq ?_
  refine wp_seq ?_
  refine wp_region_lit ?_
  refine lv (d := 41) rfl rfl (by kernel_rfl) (e_move (v := .slice A48 t43.length c49) (by kernel_rfl)) ?_
  refine lv (d := 42) rfl rfl (by kernel_rfl) (e_move (v := .slice A2 x1.length c3) (by kernel_rfl)) ?_
  obtain ⟨t99, u100, M⟩ := bnd M
  refine lcall (d := 43) rfl rfl (by kernel_rfl) (e_call (l := [.tmp 42]) (vs := [.slice A2 x1.length c3]) Try.func7 (by kernel_rfl) rfl (by kernel_rfl) rfl) (laws_toCellS.calls k w93 H73 x1 A2 c3 (h4.ext ((((E24.trans E28).trans E42).trans E54).trans E75)) l5 (St.own' (Fa := []) (Fr := [F51, F70, F39]) S95) t99 u100) ?_
  rintro _ w101 ⟨A104, c105, F107, H102, rfl, h106, T103⟩
  refine ⟨_, rfl, ?_⟩
  obtain ⟨S108, K109⟩ := St.call (Fa := []) (Fr := [F51, F70, F39]) S95 T103
  replace h50 := h50.move (K109.at 0 rfl)
  replace h69 := h69.move (K109.at 1 rfl)
  replace h38 := h38.move (K109.at 2 rfl)
  have E110 := T103.ext
  replace h50 := h50.ext E110
  replace h69 := h69.ext E110
  replace h38 := h38.ext E110
  obtain ⟨t111, u112, M⟩ := bnd M
  refine lcall (d := 44) rfl rfl (by kernel_rfl) (e_call (l := [.tmp 41, .tmp 43]) (vs := [.slice A48 t43.length c49, .slice A104 t99.length c105]) Try.func9 (by kernel_rfl) rfl (by kernel_rfl) rfl) (by have l113 := h50.le; have S114 := S108.pull (F := F51) (Fr := [F107, F70, F39]) 1 rfl rfl; obtain ⟨H115, S116, E117, h118, z119⟩ := S114.frzRow h50; replace h106 := h106.ext E117; replace h69 := h69.ext E117; replace h38 := h38.ext E117; have l120 := h106.le; obtain ⟨H121, S122, E123, h124, z125⟩ := S116.frzRow h106; replace h69 := h69.ext E123; replace h38 := h38.ext E123; exact (laws_eqCellS.calls k w101 H121 t43 A48 c49 t99 A104 c105 (h118.ext E123) l113 h124 l120 S122.own0 t111 u112)) ?_
  rintro _ w126 ⟨rfl, C127⟩
  refine ⟨_, rfl, ?_⟩
  obtain ⟨S128, K129⟩ := S108.still C127
  replace h106 := h106.move (K129.at 0 rfl)
  replace h50 := h50.move (K129.at 1 rfl)
  replace h69 := h69.move (K129.at 2 rfl)
  replace h38 := h38.move (K129.at 3 rfl)
  refine lv (d := 45) rfl rfl (by kernel_rfl) (e_notv (c := t111) (by kernel_rfl)) ?_
  refine wpList_nil ?_
  refine then_n ?_
  by_cases q130 : ¬ (t111 = true)
  · replace M := ifp q130 M
    refine cond_t rfl (bt q130 (by kernel_rfl)) ?_
    refine wp_seq ?_
    refine wp_region_lit ?_
    refine lv (d := 2) rfl rfl (by kernel_rfl) (e_assign (v := .bool false) rfl) ?_
    refine wpList_nil ?_
    refine then_n ?_
    refine wp_ret ?_
    refine then_r ?_
    obtain rfl := Option.some.inj M
    exact ret1 rfl rfl  (show _ = .bool false from (by kernel_rfl)) ⟨rfl, S128.chg⟩
  replace M := ifn q130 M
  refine cond_f rfl (bf q130 (by kernel_rfl)) ?_
  refine wp_skip ?_
  refine then_n ?_
  refine wp_seq ?_
  refine wp_region_lit ?_
  refine lv (d := 9) rfl rfl (by kernel_rfl) (e_assign (v := .int .i64 1) rfl) ?_
  refine wpList_nil ?_
  refine then_n ?_
  refine wp_seq ?_
  refine wp_region_lit ?_
  refine lv (d := 46) rfl rfl (by kernel_rfl) (e_move (v := .slice A48 t43.length c49) (by kernel_rfl)) ?_
  refine lv (d := 47) rfl rfl (by kernel_rfl) (e_move (v := .int .i64 1) (by kernel_rfl)) ?_
  have S131 := S128.pull (F := F51) (Fr := [F107, F70, F39]) 1 rfl rfl
  obtain ⟨t132, u133, M⟩ := bnd M
  refine lcall (d := 48) rfl rfl (by kernel_rfl) (e_call (l := [.tmp 46, .tmp 47]) (vs := [.slice A48 t43.length c49, .int .i64 1]) Try.func10 (by kernel_rfl) rfl (by kernel_rfl) rfl) (laws_markCellS_2.calls k w126 H102 t43 A48 c49 F51 1 h50 (St.own' (Fa := [F51]) (Fr := [F107, F70, F39]) S131) t132 u133) ?_
  rintro _ w134 ⟨F138, H135, rfl, n139, h137, T136⟩
  refine ⟨_, rfl, ?_⟩
  obtain ⟨S140, K141⟩ := St.call (Fa := [F51]) (Fr := [F107, F70, F39]) S131 T136
  replace h106 := h106.move (K141.at 0 rfl)
  replace h69 := h69.move (K141.at 1 rfl)
  replace h38 := h38.move (K141.at 2 rfl)
  have E142 := T136.ext
  replace h106 := h106.ext E142
  replace h69 := h69.ext E142
  replace h38 := h38.ext E142
  refine lv (d := 9) rfl rfl (by kernel_rfl) (e_assign (v := .int .i64 t132.1) (by kernel_rfl)) ?_
  refine wpList_nil ?_
  refine then_n ?_
  refine wp_seq ?_
  refine wp_seq ?_
  refine wp_region_lit ?_
  refine lv (d := 49) rfl rfl (by kernel_rfl) (e_move (v := .int .i64 t132.1) (by kernel_rfl)) ?_
  refine lv (d := 50) rfl rfl (by kernel_rfl) (e_lss (k := .i64) (a := t132.1) (b := 0) (by kernel_rfl) rfl) ?_
  refine lv (d := 51) rfl rfl (by kernel_rfl) (e_move (v := .bool (decide (t132.1 < 0))) (by kernel_rfl)) ?_
  by_cases q143 : t132.1 < 0
  · replace M := ifp q143 M
    refine lskip (t := 51) (c := true) rfl (by kernel_rfl) rfl (bt q143 (by kernel_rfl)) rfl rfl ?_
    refine lskip (t := 51) (c := true) rfl (by kernel_rfl) rfl (bt q143 (by kernel_rfl)) rfl rfl ?_
    refine lskip (t := 51) (c := true) rfl (by kernel_rfl) rfl (bt q143 (by kernel_rfl)) rfl rfl ?_
    refine lskip (t := 51) (c := true) rfl (by kernel_rfl) rfl (bt q143 (by kernel_rfl)) rfl rfl ?_
    refine lv (d := 56) rfl rfl (by kernel_rfl) (e_pick_t (v := .bool true) (bt q143 (by kernel_rfl)) rfl) ?_
    refine lv (d := 57) rfl rfl (by kernel_rfl) (e_move (v := .bool true) (by kernel_rfl)) ?_
    refine lskip (t := 57) (c := true) rfl (by kernel_rfl) rfl (by kernel_rfl) rfl rfl ?_
    refine lskip (t := 57) (c := true) rfl (by kernel_rfl) rfl (by kernel_rfl) rfl rfl ?_
    refine lskip (t := 57) (c := true) rfl (by kernel_rfl) rfl (by kernel_rfl) rfl rfl ?_
    refine lv (d := 61) rfl rfl (by kernel_rfl) (e_pick_t (v := .bool true) (by kernel_rfl) rfl) ?_
    refine wpList_nil ?_
    refine then_n ?_
    refine cond_t rfl (by kernel_rfl) ?_
    refine wp_seq ?_
    refine wp_region_lit ?_
    refine lv (d := 2) rfl rfl (by kernel_rfl) (e_assign (v := .bool false) rfl) ?_
    refine wpList_nil ?_
    refine then_n ?_
    refine wp_ret ?_
    refine then_r ?_
    obtain rfl := Option.some.inj M
    exact ret1 rfl rfl  (show _ = .bool false from (by kernel_rfl)) ⟨rfl, S140.chg⟩
  replace M := ifn q143 M
  refine lvg (d := 52) (t := 51) rfl (by kernel_rfl) rfl (bf q143 (by kernel_rfl)) rfl (by kernel_rfl) (e_move (v := .slice A67 t62.1.length c68) (by kernel_rfl)) ?_
  refine lvg (d := 53) (t := 51) rfl (by kernel_rfl) rfl (bf q143 (by kernel_rfl)) rfl (by kernel_rfl) (e_move (v := .slice A36 t31.1.length c37) (by kernel_rfl)) ?_
  obtain ⟨t144, u145, M⟩ := bnd M
  refine lcallg (d := 54) (t := 51) rfl (by kernel_rfl) rfl (bf q143 (by kernel_rfl)) rfl (by kernel_rfl) (e_call (l := [.tmp 52, .tmp 53]) (vs := [.slice A67 t62.1.length c68, .slice A36 t31.1.length c37]) Try.func9 (by kernel_rfl) rfl (by kernel_rfl) rfl) (by have l146 := h69.le; have S147 := S140.pull (F := F70) (Fr := [F138, F107, F39]) 2 rfl rfl; obtain ⟨H148, S149, E150, h151, z152⟩ := S147.frzRow h69; replace h137 := h137.ext E150; replace h106 := h106.ext E150; replace h38 := h38.ext E150; have l153 := h38.le; have S154 := S149.pull (F := F39) (Fr := [F138, F107]) 2 rfl rfl; obtain ⟨H155, S156, E157, h158, z159⟩ := S154.frzRow h38; replace h137 := h137.ext E157; replace h106 := h106.ext E157; exact (laws_eqCellS.calls k w134 H155 t62.1 A67 c68 t31.1 A36 c37 (h151.ext E157) l146 h158 l153 S156.own0 t144 u145)) ?_
  rintro _ w160 ⟨rfl, C161⟩
  refine ⟨_, rfl, ?_⟩
  obtain ⟨S162, K163⟩ := S140.still C161
  replace h137 := h137.move (K163.at 0 rfl)
  replace h106 := h106.move (K163.at 1 rfl)
  replace h69 := h69.move (K163.at 2 rfl)
  replace h38 := h38.move (K163.at 3 rfl)
  refine lvg (d := 55) (t := 51) rfl (by kernel_rfl) rfl (bf q143 (by kernel_rfl)) rfl (by kernel_rfl) (e_notv (c := t144) (by kernel_rfl)) ?_
  refine lv (d := 56) rfl rfl (by kernel_rfl) (e_pick_f (v := .bool (decide (¬ (t144 = true)))) (bf q143 (by kernel_rfl)) (by kernel_rfl)) ?_
  refine lv (d := 57) rfl rfl (by kernel_rfl) (e_move (v := .bool (decide (¬ (t144 = true)))) (by kernel_rfl)) ?_
  by_cases q164 : ¬ (t144 = true)
  · replace M := ifp q164 M
    refine lskip (t := 57) (c := true) rfl (by kernel_rfl) rfl (bt q164 (by kernel_rfl)) rfl rfl ?_
    refine lskip (t := 57) (c := true) rfl (by kernel_rfl) rfl (bt q164 (by kernel_rfl)) rfl rfl ?_
    refine lskip (t := 57) (c := true) rfl (by kernel_rfl) rfl (bt q164 (by kernel_rfl)) rfl rfl ?_
    refine lv (d := 61) rfl rfl (by kernel_rfl) (e_pick_t (v := .bool true) (bt q164 (by kernel_rfl)) rfl) ?_
    refine wpList_nil ?_
    refine then_n ?_
    refine cond_t rfl (by kernel_rfl) ?_
    refine wp_seq ?_
    refine wp_region_lit ?_
    refine lv (d := 2) rfl rfl (by kernel_rfl) (e_assign (v := .bool false) rfl) ?_
    refine wpList_nil ?_
    refine then_n ?_
    refine wp_ret ?_
    refine then_r ?_
    obtain rfl := Option.some.inj M
    exact ret1 rfl rfl  (show _ = .bool false from (by kernel_rfl)) ⟨rfl, S162.chg⟩
  replace M := ifn q164 M
  refine lvg (d := 58) (t := 57) rfl (by kernel_rfl) rfl (bf q164 (by kernel_rfl)) rfl (by kernel_rfl) (e_move (v := .int .i64 t62.2) (by kernel_rfl)) ?_
  refine lvg (d := 59) (t := 57) rfl (by kernel_rfl) rfl (bf q164 (by kernel_rfl)) rfl (by kernel_rfl) (e_move (v := .int .i64 t31.2) (by kernel_rfl)) ?_
  refine lvg (d := 60) (t := 57) rfl (by kernel_rfl) rfl (bf q164 (by kernel_rfl)) rfl (by kernel_rfl) (e_neq (k := .i64) (a := t62.2) (b := t31.2) (by kernel_rfl) (by kernel_rfl)) ?_
  refine lv (d := 61) rfl rfl (by kernel_rfl) (e_pick_f (v := .bool (decide (t62.2 ≠ t31.2))) (bf q164 (by kernel_rfl)) (by kernel_rfl)) ?_
  refine wpList_nil ?_
  refine then_n ?_
  refine cond_f rfl (bf q98 (by kernel_rfl)) ?_
  refine wp_skip ?_
  refine then_n ?_
  refine wp_seq ?_
  refine wp_region_lit ?_
  refine lv (d := 10) rfl rfl (by kernel_rfl) (e_assign (v := .int .i64 1) rfl) ?_
  refine wpList_nil ?_
  refine then_n ?_
  refine wp_seq ?_
  refine wp_region_lit ?_
  refine lv (d := 62) rfl rfl (by kernel_rfl) (e_move (v := .slice A67 t62.1.length c68) (by kernel_rfl)) ?_
  refine lv (d := 63) rfl rfl (by kernel_rfl) (e_move (v := .int .i64 1) (by kernel_rfl)) ?_
  have S165 := S162.pull (F := F70) (Fr := [F138, F107, F39]) 2 rfl rfl
  obtain ⟨t166, u167, M⟩ := bnd M
  refine lcall (d := 64) rfl rfl (by kernel_rfl) (e_call (l := [.tmp 62, .tmp 63]) (vs := [.slice A67 t62.1.length c68, .int .i64 1]) Try.func10 (by kernel_rfl) rfl (by kernel_rfl) rfl) (laws_markCellS_2.calls k w160 H135 t62.1 A67 c68 F70 1 h69 (St.own' (Fa := [F70]) (Fr := [F138, F107, F39]) S165) t166 u167) ?_
  rintro _ w168 ⟨F172, H169, rfl, n173, h171, T170⟩
  refine ⟨_, rfl, ?_⟩
  obtain ⟨S174, K175⟩ := St.call (Fa := [F70]) (Fr := [F138, F107, F39]) S165 T170
  replace h137 := h137.move (K175.at 0 rfl)
  replace h106 := h106.move (K175.at 1 rfl)
  replace h38 := h38.move (K175.at 2 rfl)
  have E176 := T170.ext
  replace h137 := h137.ext E176
  replace h106 := h106.ext E176
  replace h38 := h38.ext E176
  refine lv (d := 10) rfl rfl (by kernel_rfl) (e_assign (v := .int .i64 t166.1) (by kernel_rfl)) ?_
  refine wpList_nil ?_
  refine then_n ?_
  refine wp_seq ?_
  refine wp_region_lit ?_
  refine lv (d := 11) rfl rfl (by kernel_rfl) (e_assign (v := .int .i64 1) rfl) ?_
  refine wpList_nil ?_
  refine then_n ?_
  refine wp_seq ?_
  refine wp_region_lit ?_
  refine lv (d := 65) rfl rfl (by kernel_rfl) (e_move (v := .slice A67 t62.1.length c68) (by kernel_rfl)) ?_
  refine lv (d := 66) rfl rfl (by kernel_rfl) (e_move (v := .int .i64 1) (by kernel_rfl)) ?_
  obtain ⟨t177, u178, M⟩ := bnd M
  refine lcall (d := 67) rfl rfl (by kernel_rfl) (e_call (l := [.tmp 65, .tmp 66]) (vs := [.slice A67 t62.1.length c68, .int .i64 1]) Try.func11 (by kernel_rfl) rfl (by kernel_rfl) rfl) (by have l179 := h171.le; obtain ⟨H180, S181, E182, h183, z184⟩ := S174.frzRow h171; replace h137 := h137.ext E182; replace h106 := h106.ext E182; replace h38 := h38.ext E182; exact (by have q_ := (laws_heldCellS.calls k w168 H180 t166.2 A67 c68 1 h183 l179 S181.own0 t177 u178); rw [(show t166.2.length = t62.1.length from n173)] at q_; exact q_)) ?_
  rintro _ w185 ⟨rfl, C186⟩
  refine ⟨_, rfl, ?_⟩
  obtain ⟨S187, K188⟩ := S174.still C186
  replace h171 := h171.move (K188.at 0 rfl)
  replace h137 := h137.move (K188.at 1 rfl)
  replace h106 := h106.move (K188.at 2 rfl)
  replace h38 := h38.move (K188.at 3 rfl)
  refine lv (d := 11) rfl rfl (by kernel_rfl) (e_assign (v := .int .i64 t177) (by kernel_rfl)) ?_
  refine wpList_nil ?_
  refine then_n ?_
  refine wp_seq ?_
  refine wp_seq ?_
  refine wp_region_lit ?_
  refine lv (d := 68) rfl rfl (by kernel_rfl) (e_move (v := .int .i64 t177) (by kernel_rfl)) ?_
  refine lv (d := 69) rfl rfl (by kernel_rfl) (e_lss (k := .i64) (a := t177) (b := 0) (by kernel_rfl) rfl) ?_
  refine wpList_nil ?_
  refine then_n ?_
  by_cases q189 : t177 < 0
  · replace M := ifp q189 M
    refine cond_t rfl (bt q189 (by kernel_rfl)) ?_
    refine wp_seq ?_
    refine wp_region_lit ?_
    refine lv (d := 2) rfl rfl (by kernel_rfl) (e_assign (v := .bool false) rfl) ?_
    refine wpList_nil ?_
    refine then_n ?_
    refine wp_ret ?_
    refine then_r ?_
    obtain rfl := Option.some.inj M
    exact ret1 rfl rfl  (show _ = .bool false from (by kernel_rfl)) ⟨rfl, S187.chg⟩
  replace M := ifn q189 M
  refine cond_f rfl (bf q189 (by kernel_rfl)) ?_
  refine wp_skip ?_
  refine then_n ?_
  refine wp_seq ?_
  refine wp_seq ?_
  refine wp_region_lit ?_
  refine lv (d := 70) rfl rfl (by kernel_rfl) (e_move (v := .int .i64 t177) (by kernel_rfl)) ?_
  refine lv (d := 71) rfl rfl (by kernel_rfl) (e_move (v := .int .i64 t166.1) (by kernel_rfl)) ?_
  refine lv (d := 72) rfl rfl (by kernel_rfl) (e_neq (k := .i64) (a := t177) (b := t166.1) (by kernel_rfl) (by kernel_rfl)) ?_
  refine wpList_nil ?_
  refine then_n ?_
  by_cases q190 : t177 ≠ t166.1
  · replace M := ifp q190 M
    refine cond_t rfl (bt q190 (by kernel_rfl)) ?_
    refine wp_seq ?_
    refine wp_region_lit ?_
    refine lv (d := 2) rfl rfl (by kernel_rfl) (e_assign (v := .bool false) rfl) ?_
    refine wpList_nil ?_
    refine then_n ?_
    refine wp_ret ?_
    refine then_r ?_
    obtain rfl := Option.some.inj M
    exact ret1 rfl rfl  (show _ = .bool false from (by kernel_rfl)) ⟨rfl, S187.chg⟩
  replace M := ifn q190 M
  refine cond_f rfl (bf q190 (by kernel_rfl)) ?_
  refine wp_skip ?_
  refine then_n ?_
  refine wp_seq ?_
  refine wp_region_lit ?_
  refine lv (d := 74) rfl rfl (by kernel_rfl) (e_move (v := .slice A2 x1.length c3) (by kernel_rfl)) ?_
  obtain ⟨t191, u192, M⟩ := bnd M
  refine lcall (d := 75) rfl rfl (by kernel_rfl) (e_call (l := [.tmp 74]) (vs := [.slice A2 x1.length c3]) Try.func7 (by kernel_rfl) rfl (by kernel_rfl) rfl) (laws_toCellS.calls k w185 H169 x1 A2 c3 (h4.ext (((((((E24.trans E28).trans E42).trans E54).trans E75).trans E110).trans E142).trans E176)) l5 (St.own' (Fa := []) (Fr := [F172, F138, F107, F39]) S187) t191 u192) ?_
  rintro _ w193 ⟨A196, c197, F199, H194, rfl, h198, T195⟩
  refine ⟨_, rfl, ?_⟩
  obtain ⟨S200, K201⟩ := St.call (Fa := []) (Fr := [F172, F138, F107, F39]) S187 T195
  replace h171 := h171.move (K201.at 0 rfl)
  replace h137 := h137.move (K201.at 1 rfl)
  replace h106 := h106.move (K201.at 2 rfl)
  replace h38 := h38.move (K201.at 3 rfl)
  have E202 := T195.ext
  replace h171 := h171.ext E202
  replace h137 := h137.ext E202
  replace h106 := h106.ext E202
  replace h38 := h38.ext E202
  have l203 := h198.le
  obtain ⟨H204, S205, E206, h207, z208⟩ := S200.frzRow h198
  replace h171 := h171.ext E206
  replace h137 := h137.ext E206
  replace h106 := h106.ext E206
  replace h38 := h38.ext E206
  obtain ⟨t209, u210, M⟩ := bnd M
  refine lcall (d := 76) rfl rfl (by kernel_rfl) (e_call (l := [.tmp 75]) (vs := [.slice A196 t191.length c197]) Try.func13 (by kernel_rfl) rfl (by kernel_rfl) rfl) (impl_TranslateGrammar.calls k w193 H204 t191 A196 c197 h207 l203 (St.own' (Fa := []) (Fr := [F172, F138, F107, F39]) S205) t209 u210) ?_
  rintro _ w211 ⟨A214, c215, F217, H212, rfl, h216, T213⟩
  refine ⟨_, rfl, ?_⟩
  obtain ⟨S218, K219⟩ := St.call (Fa := []) (Fr := [F172, F138, F107, F39]) S205 T213
  replace h171 := h171.move (K219.at 0 rfl)
  replace h137 := h137.move (K219.at 1 rfl)
  replace h106 := h106.move (K219.at 2 rfl)
  replace h38 := h38.move (K219.at 3 rfl)
  have E220 := T213.ext
  replace h171 := h171.ext E220
  replace h137 := h137.ext E220
  replace h106 := h106.ext E220
  replace h38 := h38.ext E220
  refine lv (d := 73) rfl rfl (by kernel_rfl) (e_move (v := .tuple #[.slice A214 t209.1.length c215, .int .i64 t209.2]) (by kernel_rfl)) ?_
  refine lv (d := 77) rfl rfl (by kernel_rfl) (e_extract (vs := #[.slice A214 t209.1.length c215, .int .i64 t209.2]) (v := .slice A214 t209.1.length c215) (by kernel_rfl) rfl) ?_
  refine lv (d := 78) rfl rfl (by kernel_rfl) (e_extract (vs := #[.slice A214 t209.1.length c215, .int .i64 t209.2]) (v := .int .i64 t209.2) (by kernel_rfl) rfl) ?_
  refine lv (d := 12) rfl rfl (by kernel_rfl) (e_assign (v := .slice A214 t209.1.length c215) (by kernel_rfl)) ?_
  refine lv (d := 13) rfl rfl (by kernel_rfl) (e_assign (v := .int .i64 t209.2) (by kernel_rfl)) ?_
  refine wpList_nil ?_
  refine then_n ?_
  refine wp_seq ?_
  refine wp_seq ?_
  refine wp_region_lit ?_
  refine lv (d := 79) rfl rfl (by kernel_rfl) (e_move (v := .slice A214 t209.1.length c215) (by kernel_rfl)) ?_
  refine lv (d := 80) rfl rfl (by kernel_rfl) (e_move (v := .slice A36 t31.1.length c37) (by kernel_rfl)) ?_
  obtain ⟨t221, u222, M⟩ := bnd M
  refine lcall (d := 81) rfl rfl (by kernel_rfl) (e_call (l := [.tmp 79, .tmp 80]) (vs := [.slice A214 t209.1.length c215, .slice A36 t31.1.length c37]) Try.func9 (by kernel_rfl) rfl (by kernel_rfl) rfl) (by have l223 := h216.le; obtain ⟨H224, S225, E226, h227, z228⟩ := S218.frzRow h216; replace h171 := h171.ext E226; replace h137 := h137.ext E226; replace h106 := h106.ext E226; replace h38 := h38.ext E226; have l229 := h38.le; have S230 := S225.pull (F := F39) (Fr := [F172, F138, F107]) 3 rfl rfl; obtain ⟨H231, S232, E233, h234, z235⟩ := S230.frzRow h38; replace h171 := h171.ext E233; replace h137 := h137.ext E233; replace h106 := h106.ext E233; exact (laws_eqCellS.calls k w211 H231 t209.1 A214 c215 t31.1 A36 c37 (h227.ext E233) l223 h234 l229 S232.own0 t221 u222)) ?_
  rintro _ w236 ⟨rfl, C237⟩
  refine ⟨_, rfl, ?_⟩
  obtain ⟨S238, K239⟩ := S218.still C237
  replace h216 := h216.move (K239.at 0 rfl)
  replace h171 := h171.move (K239.at 1 rfl)
  replace h137 := h137.move (K239.at 2 rfl)
  replace h106 := h106.move (K239.at 3 rfl)
  replace h38 := h38.move (K239.at 4 rfl)
  refine lv (d := 82) rfl rfl (by kernel_rfl) (e_notv (c := t221) (by kernel_rfl)) ?_
  refine lv (d := 83) rfl rfl (by kernel_rfl) (e_move (v := .bool (decide (¬ (t221 = true)))) (by kernel_rfl)) ?_
  by_cases q240 : ¬ (t221 = true)
  · replace M := ifp q240 M
    refine lskip (t := 83) (c := true) rfl (by kernel_rfl) rfl (bt q240 (by kernel_rfl)) rfl rfl ?_
    refine lskip (t := 83) (c := true) rfl (by kernel_rfl) rfl (bt q240 (by kernel_rfl)) rfl rfl ?_
    refine lskip (t := 83) (c := true) rfl (by kernel_rfl) rfl (bt q240 (by kernel_rfl)) rfl rfl ?_
    refine lv (d := 87) rfl rfl (by kernel_rfl) (e_pick_t (v := .bool true) (bt q240 (by kernel_rfl)) rfl) ?_
    refine wpList_nil ?_
    refine then_n ?_
    refine cond_t rfl (by kernel_rfl) ?_
    refine wp_seq ?_
    refine wp_region_lit ?_
    refine lv (d := 2) rfl rfl (by kernel_rfl) (e_assign (v := .bool false) rfl) ?_
    refine wpList_nil ?_
    refine then_n ?_
    refine wp_ret ?_
    refine then_r ?_
    obtain rfl := Option.some.inj M
    exact ret1 rfl rfl  (show _ = .bool false from (by kernel_rfl)) ⟨rfl, S238.chg⟩
  replace M := ifn q240 M
  refine lvg (d := 84) (t := 83) rfl (by kernel_rfl) rfl (bf q240 (by kernel_rfl)) rfl (by kernel_rfl) (e_move (v := .int .i64 t209.2) (by kernel_rfl)) ?_
  refine lvg (d := 85) (t := 83) rfl (by kernel_rfl) rfl (bf q240 (by kernel_rfl)) rfl (by kernel_rfl) (e_move (v := .int .i64 t31.2) (by kernel_rfl)) ?_
  refine lvg (d := 86) (t := 83) rfl (by kernel_rfl) rfl (bf q240 (by kernel_rfl)) rfl (by kernel_rfl) (e_neq (k := .i64) (a := t209.2) (b := t31.2) (by kernel_rfl) (by kernel_rfl)) ?_
  refine lv (d := 87) rfl rfl (by kernel_rfl) (e_pick_f (v := .bool (decide (t209.2 ≠ t31.2))) (bf q240 (by kernel_rfl)) (by kernel_rfl)) ?_
  refine wpList_nil ?_
  refine then_n ?_
  by_cases q241 : t209.2 ≠ t31.2
  · replace M := ifp q241 M
    refine cond_t rfl (bt q241 (by kernel_rfl)) ?_
    refine wp_seq ?_
    refine wp_region_lit ?_
    refine lv (d := 2) rfl rfl (by kernel_rfl) (e_assign (v := .bool false) rfl) ?_
    refine wpList_nil ?_
    refine then_n ?_
    refine wp_ret ?_
    refine then_r ?_
    obtain rfl := Option.some.inj M
    exact ret1 rfl rfl  (show _ = .bool false from (by kernel_rfl)) ⟨rfl, S238.chg⟩
  replace M := ifn q241 M
  refine cond_f rfl (bf q241 (by kernel_rfl)) ?_
  refine wp_skip ?_
  refine then_n ?_
  refine wp_seq ?_
  refine wp_region_lit ?_
  refine lv (d := 11) rfl rfl (by kernel_rfl) (e_assign (v := .int .i64 1) rfl) ?_
  refine wpList_nil ?_
  refine then_n ?_
  refine wp_seq ?_
  refine wp_region_lit ?_
  refine lv (d := 88) rfl rfl (by kernel_rfl) (e_move (v := .slice A67 t62.1.length c68) (by kernel_rfl)) ?_
  refine lv (d := 89) rfl rfl (by kernel_rfl) (e_move (v := .int .i64 1) (by kernel_rfl)) ?_
  obtain ⟨t242, u243, M⟩ := bnd M
  refine lcall (d := 90) rfl rfl (by kernel_rfl) (e_call (l := [.tmp 88, .tmp 89]) (vs := [.slice A67 t62.1.length c68, .int .i64 1]) Try.func11 (by kernel_rfl) rfl (by kernel_rfl) rfl) (by have l244 := h171.le; have S245 := S238.pull (F := F172) (Fr := [F217, F138, F107, F39]) 1 rfl rfl; obtain ⟨H246, S247, E248, h249, z250⟩ := S245.frzRow h171; replace h216 := h216.ext E248; replace h137 := h137.ext E248; replace h106 := h106.ext E248; replace h38 := h38.ext E248; exact (by have q_ := (laws_heldCellS.calls k w236 H246 t166.2 A67 c68 1 h249 l244 S247.own0 t242 u243); rw [(show t166.2.length = t62.1.length from n173)] at q_; exact q_)) ?_
  rintro _ w251 ⟨rfl, C252⟩
  refine ⟨_, rfl, ?_⟩
  obtain ⟨S253, K254⟩ := S238.still C252
  replace h216 := h216.move (K254.at 0 rfl)
  replace h171 := h171.move (K254.at 1 rfl)
  replace h137 := h137.move (K254.at 2 rfl)
  replace h106 := h106.move (K254.at 3 rfl)
  replace h38 := h38.move (K254.at 4 rfl)
  refine lv (d := 11) rfl rfl (by kernel_rfl) (e_assign (v := .int .i64 t242) (by kernel_rfl)) ?_
  refine wpList_nil ?_
  refine then_n ?_
  refine wp_seq ?_
  refine wp_seq ?_
  refine wp_region_lit ?_
  refine lv (d := 91) rfl rfl (by kernel_rfl) (e_move (v := .int .i64 t242) (by kernel_rfl)) ?_
  refine lv (d := 92) rfl rfl (by kernel_rfl) (e_lss (k := .i64) (a := t242) (b := 0) (by kernel_rfl) rfl) ?_
  refine wpList_nil ?_
  refine then_n ?_
  by_cases q255 : t242 < 0
  · replace M := ifp q255 M
    refine cond_t rfl (bt q255 (by kernel_rfl)) ?_
    refine wp_seq ?_
    refine wp_region_lit ?_
    refine lv (d := 2) rfl rfl (by kernel_rfl) (e_assign (v := .bool false) rfl) ?_
    refine wpList_nil ?_
    refine then_n ?_
    refine wp_ret ?_
    refine then_r ?_
    obtain rfl := Option.some.inj M
    exact ret1 rfl rfl  (show _ = .bool false from (by kernel_rfl)) ⟨rfl, S253.chg⟩
  replace M := ifn q255 M
  refine cond_f rfl (bf q255 (by kernel_rfl)) ?_
  refine wp_skip ?_
  refine then_n ?_
  refine wp_seq ?_
  refine wp_seq ?_
  refine wp_region_lit ?_
  refine lv (d := 93) rfl rfl (by kernel_rfl) (e_move (v := .int .i64 t242) (by kernel_rfl)) ?_
  refine lv (d := 94) rfl rfl (by kernel_rfl) (e_move (v := .int .i64 t166.1) (by kernel_rfl)) ?_
  refine lv (d := 95) rfl rfl (by kernel_rfl) (e_neq (k := .i64) (a := t242) (b := t166.1) (by kernel_rfl) (by kernel_rfl)) ?_
  refine wpList_nil ?_
  refine then_n ?_
  by_cases q256 : t242 ≠ t166.1
  · replace M := ifp q256 M
    refine cond_t rfl (bt q256 (by kernel_rfl)) ?_
    refine wp_seq ?_
    refine wp_region_lit ?_
    refine lv (d := 2) rfl rfl (by kernel_rfl) (e_assign (v := .bool false) rfl) ?_
    refine wpList_nil ?_
    refine then_n ?_
    refine wp_ret ?_
    refine then_r ?_
    obtain rfl := Option.some.inj M
    exact ret1 rfl rfl  (show _ = .bool false from (by kernel_rfl)) ⟨rfl, S253.chg⟩
  replace M := ifn q256 M
  refine cond_f rfl (bf q256 (by kernel_rfl)) ?_
  refine wp_skip ?_
  refine then_n ?_
  refine wp_seq ?_
  refine wp_region_lit ?_
  refine lv (d := 2) rfl rfl (by kernel_rfl) (e_assign (v := .bool true) rfl) ?_
  refine wpList_nil ?_
  refine then_n ?_
  refine wp_ret ?_
  obtain rfl := Option.some.inj M
  exact ret1 rfl rfl  (show _ = .bool true from (by kernel_rfl)) ⟨rfl, S253.chg⟩
end Go.Proofs.Ytmmjeppmglmefaa
