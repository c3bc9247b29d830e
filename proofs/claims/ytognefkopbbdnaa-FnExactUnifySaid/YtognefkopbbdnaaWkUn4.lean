import Derived.Test.YtognefkopbbdnaaWkUn3
namespace Go.Proofs.Ytognefkopbbdnaa
open Go.Sx Go.Sy
attribute [local irreducible] Go.wpList Go.wpStill Go.wpQuiet Go.Code.wp
set_option maxRecDepth 100000
set_option maxHeartbeats 1000000
set_option linter.unusedVariables false
set_option linter.unusedSimpArgs false

/-! laws_FnExactUnify -/
def laws_FnExactUnify.f (k : Nat) (x1 : List Cell) (x6 : List Cell) : Option Bool := ((laws_szCellS.f k x1 1048576).bind fun t11 => (if t11 < 0 then some true else ((laws_szCellS.f k x6 t11).bind fun t18 => (if t18 < 0 then some true else ((laws_toCellS.f k x1).bind fun t25 => ((laws_toCellS.f k x6).bind fun t37 => ((spec_Unify.f k t25 t37).bind fun t62 => ((laws_toCellS.f k x1).bind fun t74 => ((laws_toCellS.f k x6).bind fun t86 => ((impl_Unify.f k t74 t86).bind fun t114 => ((laws_eqBindingS.f k t114.1 t62.1).bind fun t133 => (if ¬ (t133 = true) then some false else (if t114.2 ≠ t62.2 then some false else ((laws_toCellS.f k x1).bind fun t155 => ((laws_eqCellS.f k t74 t155).bind fun t167 => (if ¬ (t167 = true) then some false else ((laws_toCellS.f k x6).bind fun t187 => ((laws_eqCellS.f k t86 t187).bind fun t199 => (if ¬ (t199 = true) then some false else ((laws_markCellS_2.f k t74 1).bind fun t220 => ((laws_markCellS_2.f k t86 t220.1).bind fun t232 => (if t232.1 < 0 then some false else ((laws_eqBindingS.f k t114.1 t62.1).bind fun t244 => (if ¬ (t244 = true) then some false else ((laws_markBindingS_2.f k t114.1 1).bind fun t266 => ((laws_heldBindingS.f k t266.2 1).bind fun t277 => (if t277 < 0 then some false else (if t277 ≠ t266.1 then some false else ((laws_toCellS.f k x1).bind fun t291 => ((laws_toCellS.f k x6).bind fun t303 => ((impl_Unify.f k t291 t303).bind fun t328 => ((laws_eqBindingS.f k t328.1 t62.1).bind fun t340 => (if ¬ (t340 = true) then some false else (if t328.2 ≠ t62.2 then some false else ((laws_heldBindingS.f k t266.2 1).bind fun t361 => (if t361 < 0 then some false else (if t361 ≠ t266.1 then some false else some true)))))))))))))))))))))))))))))))))))))
theorem laws_FnExactUnify.calls (k : Nat) (w : World) (H : Hp) (x1 : List Cell) (A2 : Option Addr) (c3 : Nat) (x6 : List Cell) (A7 : Option Addr) (c8 : Nat) (h4 : Rd st68 H A2 x1) (l5 : x1.length ≤ c3) (h9 : Rd st68 H A7 x6) (l10 : x6.length ≤ c8) (S : Own [] H w) (r : Bool) (M : laws_FnExactUnify.f k x1 x6 = some r) :
    Calls Try.prog 12 #[.slice A2 x1.length c3, .slice A7 x6.length c8] w (fun e e_w => e = .returned (.bool r) ∧ Chg no w e_w) := by
  rw [laws_FnExactUnify.f] at M
  refine enter (l := [.slice A2 x1.length c3, .slice A7 x6.length c8]) 119 Try.func12 rfl rfl rfl ?_
  have S0_ := S.st
  refine wp_seq ?_
  refine wp_region_lit ?_
  refine lv (d := 4) rfl rfl (by kernel_rfl) (e_assign (v := .bool false) rfl) ?_
  refine wpList_nil ?_
  refine then_n ?_
  refine wp_seq ?_
  refine wp_region_lit ?_
  refine lv (d := 5) rfl rfl (by kernel_rfl) (e_assign (v := .int .i64 1048576) rfl) ?_
  refine wpList_nil ?_
  refine then_n ?_
  refine wp_seq ?_
  refine wp_region_lit ?_
  refine lv (d := 17) rfl rfl (by kernel_rfl) (e_move (v := .slice A2 x1.length c3) (by kernel_rfl)) ?_
  refine lv (d := 18) rfl rfl (by kernel_rfl) (e_move (v := .int .i64 1048576) (by kernel_rfl)) ?_
  obtain ⟨t11, u12, M⟩ := bnd M
  refine lcall (d := 19) rfl rfl (by kernel_rfl) (e_call (l := [.tmp 17, .tmp 18]) (vs := [.slice A2 x1.length c3, .int .i64 1048576]) Try.func14 (by kernel_rfl) rfl (by kernel_rfl) rfl) (laws_szCellS.calls k w H x1 A2 c3 1048576 h4 l5 S0_.own0 t11 u12) ?_
  rintro _ w13 ⟨rfl, C14⟩
  refine ⟨_, rfl, ?_⟩
  obtain ⟨S15, K16⟩ := S0_.still C14
  refine lv (d := 5) rfl rfl (by kernel_rfl) (e_assign (v := .int .i64 t11) (by kernel_rfl)) ?_
  refine wpList_nil ?_
  refine then_n ?_
  refine wp_seq ?_
  refine wp_seq ?_
  refine wp_region_lit ?_
  refine lv (d := 20) rfl rfl (by kernel_rfl) (e_move (v := .int .i64 t11) (by kernel_rfl)) ?_
  refine lv (d := 21) rfl rfl (by kernel_rfl) (e_lss (k := .i64) (a := t11) (b := 0) (by kernel_rfl) rfl) ?_
  refine wpList_nil ?_
  refine then_n ?_
  by_cases q17 : t11 < 0
  · replace M := ifp q17 M
    refine cond_t rfl (bt q17 (by kernel_rfl)) ?_
    refine wp_seq ?_
    refine wp_region_lit ?_
    refine lv (d := 4) rfl rfl (by kernel_rfl) (e_assign (v := .bool true) rfl) ?_
    refine wpList_nil ?_
    refine then_n ?_
    refine wp_ret ?_
    refine then_r ?_
    obtain rfl := Option.some.inj M
    exact ret1 rfl rfl  (show _ = .bool true from (by kernel_rfl)) ⟨rfl, S15.chg⟩
  replace M := ifn q17 M
  refine cond_f rfl (bf q17 (by kernel_rfl)) ?_
  refine wp_skip ?_
  refine then_n ?_
  refine wp_seq ?_
  refine wp_region_lit ?_
  refine lv (d := 22) rfl rfl (by kernel_rfl) (e_move (v := .slice A7 x6.length c8) (by kernel_rfl)) ?_
  refine lv (d := 23) rfl rfl (by kernel_rfl) (e_move (v := .int .i64 t11) (by kernel_rfl)) ?_
  obtain ⟨t18, u19, M⟩ := bnd M
  refine lcall (d := 24) rfl rfl (by kernel_rfl) (e_call (l := [.tmp 22, .tmp 23]) (vs := [.slice A7 x6.length c8, .int .i64 t11]) Try.func14 (by kernel_rfl) rfl (by kernel_rfl) rfl) (laws_szCellS.calls k w13 H x6 A7 c8 t11 h9 l10 S15.own0 t18 u19) ?_
  rintro _ w20 ⟨rfl, C21⟩
  refine ⟨_, rfl, ?_⟩
  obtain ⟨S22, K23⟩ := S15.still C21
  refine lv (d := 5) rfl rfl (by kernel_rfl) (e_assign (v := .int .i64 t18) (by kernel_rfl)) ?_
  refine wpList_nil ?_
  refine then_n ?_
  refine wp_seq ?_
  refine wp_seq ?_
  refine wp_region_lit ?_
  refine lv (d := 25) rfl rfl (by kernel_rfl) (e_move (v := .int .i64 t18) (by kernel_rfl)) ?_
  refine lv (d := 26) rfl rfl (by kernel_rfl) (e_lss (k := .i64) (a := t18) (b := 0) (by kernel_rfl) rfl) ?_
  refine wpList_nil ?_
  refine then_n ?_
  by_cases q24 : t18 < 0
  · replace M := ifp q24 M
    refine cond_t rfl (bt q24 (by kernel_rfl)) ?_
    refine wp_seq ?_
    refine wp_region_lit ?_
    refine lv (d := 4) rfl rfl (by kernel_rfl) (e_assign (v := .bool true) rfl) ?_
    refine wpList_nil ?_
    refine then_n ?_
    refine wp_ret ?_
    refine then_r ?_
    obtain rfl := Option.some.inj M
    exact ret1 rfl rfl  (show _ = .bool true from (by kernel_rfl)) ⟨rfl, S22.chg⟩
  replace M := ifn q24 M
  refine cond_f rfl (bf q24 (by kernel_rfl)) ?_
  refine wp_skip ?_
  refine then_n ?_
  refine wp_seq ?_
  refine wp_region_lit ?_
  refine lv (d := 28) rfl rfl (by kernel_rfl) (e_move (v := .slice A2 x1.length c3) (by kernel_rfl)) ?_
  obtain ⟨t25, u26, M⟩ := bnd M
  refine lcall (d := 29) rfl rfl (by kernel_rfl) (e_call (l := [.tmp 28]) (vs := [.slice A2 x1.length c3]) Try.func16 (by kernel_rfl) rfl (by kernel_rfl) rfl) (laws_toCellS.calls k w20 H x1 A2 c3 h4 l5 (St.own' (Fa := []) (Fr := []) S22) t25 u26) ?_
  rintro _ w27 ⟨A30, c31, F33, H28, rfl, h32, T29⟩
  refine ⟨_, rfl, ?_⟩
  obtain ⟨S34, K35⟩ := St.call (Fa := []) (Fr := []) S22 T29
  have E36 := T29.ext
  refine lv (d := 30) rfl rfl (by kernel_rfl) (e_move (v := .slice A7 x6.length c8) (by kernel_rfl)) ?_
  obtain ⟨t37, u38, M⟩ := bnd M
  refine lcall (d := 31) rfl rfl (by kernel_rfl) (e_call (l := [.tmp 30]) (vs := [.slice A7 x6.length c8]) Try.func16 (by kernel_rfl) rfl (by kernel_rfl) rfl) (laws_toCellS.calls k w27 H28 x6 A7 c8 (h9.ext E36) l10 (St.own' (Fa := []) (Fr := [F33]) S34) t37 u38) ?_
  rintro _ w39 ⟨A42, c43, F45, H40, rfl, h44, T41⟩
  refine ⟨_, rfl, ?_⟩
  obtain ⟨S46, K47⟩ := St.call (Fa := []) (Fr := [F33]) S34 T41
  replace h32 := h32.move (K47.at 0 rfl)
  have E48 := T41.ext
  replace h32 := h32.ext E48
  have l49 := h32.le
  have S50 := S46.pull (F := F33) (Fr := [F45]) 1 rfl rfl
  obtain ⟨H51, S52, E53, h54, z55⟩ := S50.frzRow h32
  replace h44 := h44.ext E53
  have l56 := h44.le
  obtain ⟨H57, S58, E59, h60, z61⟩ := S52.frzRow h44
  obtain ⟨t62, u63, M⟩ := bnd M
  refine lcall (d := 32) rfl rfl (by kernel_rfl) (e_call (l := [.tmp 29, .tmp 31]) (vs := [.slice A30 t25.length c31, .slice A42 t37.length c43]) Try.func49 (by kernel_rfl) rfl (by kernel_rfl) rfl) (spec_Unify.calls k w39 H57 t25 A30 c31 t37 A42 c43 (h54.ext E59) l49 h60 l56 (St.own' (Fa := []) (Fr := []) S58) t62 u63) ?_
  rintro _ w64 ⟨A67, c68, F70, H65, rfl, h69, T66⟩
  refine ⟨_, rfl, ?_⟩
  obtain ⟨S71, K72⟩ := St.call (Fa := []) (Fr := []) S58 T66
  have E73 := T66.ext
  refine lv (d := 27) rfl rfl (by kernel_rfl) (e_move (v := .tuple #[.slice A67 t62.1.length c68, .int .i64 t62.2]) (by kernel_rfl)) ?_
  refine lv (d := 33) rfl rfl (by kernel_rfl) (e_extract (vs := #[.slice A67 t62.1.length c68, .int .i64 t62.2]) (v := .slice A67 t62.1.length c68) (by kernel_rfl) rfl) ?_
  refine lv (d := 34) rfl rfl (by kernel_rfl) (e_extract (vs := #[.slice A67 t62.1.length c68, .int .i64 t62.2]) (v := .int .i64 t62.2) (by kernel_rfl) rfl) ?_
  refine lv (d := 6) rfl rfl (by kernel_rfl) (e_assign (v := .slice A67 t62.1.length c68) (by kernel_rfl)) ?_
  refine lv (d := 7) rfl rfl (by kernel_rfl) (e_assign (v := .int .i64 t62.2) (by kernel_rfl)) ?_
  refine wpList_nil ?_
  refine then_n ?_
  refine wp_seq ?_
  refine wp_region_lit ?_
  refine lv (d := 35) rfl rfl (by kernel_rfl) (e_move (v := .slice A2 x1.length c3) (by kernel_rfl)) ?_
  obtain ⟨t74, u75, M⟩ := bnd M
  refine lcall (d := 36) rfl rfl (by kernel_rfl) (e_call (l := [.tmp 35]) (vs := [.slice A2 x1.length c3]) Try.func16 (by kernel_rfl) rfl (by kernel_rfl) rfl) (laws_toCellS.calls k w64 H65 x1 A2 c3 (h4.ext ((((E36.trans E48).trans E53).trans E59).trans E73)) l5 (St.own' (Fa := []) (Fr := [F70]) S71) t74 u75) ?_
  rintro _ w76 ⟨A79, c80, F82, H77, rfl, h81, T78⟩
  refine ⟨_, rfl, ?_⟩
  obtain ⟨S83, K84⟩ := St.call (Fa := []) (Fr := [F70]) S71 T78
  replace h69 := h69.move (K84.at 0 rfl)
  have E85 := T78.ext
  replace h69 := h69.ext E85
  refine lv (d := 8) rfl rfl (by kernel_rfl) (e_assign (v := .slice A79 t74.length c80) (by kernel_rfl)) ?_
  refine wpList_nil ?_
  refine then_n ?_
  refine wp_seq ?_
  refine wp_region_lit ?_
  refine lv (d := 37) rfl rfl (by kernel_rfl) (e_move (v := .slice A7 x6.length c8) (by kernel_rfl)) ?_
  obtain ⟨t86, u87, M⟩ := bnd M
  refine lcall (d := 38) rfl rfl (by kernel_rfl) (e_call (l := [.tmp 37]) (vs := [.slice A7 x6.length c8]) Try.func16 (by kernel_rfl) rfl (by kernel_rfl) rfl) (laws_toCellS.calls k w76 H77 x6 A7 c8 (h9.ext (((((E36.trans E48).trans E53).trans E59).trans E73).trans E85)) l10 (St.own' (Fa := []) (Fr := [F82, F70]) S83) t86 u87) ?_
  rintro _ w88 ⟨A91, c92, F94, H89, rfl, h93, T90⟩
  refine ⟨_, rfl, ?_⟩
  obtain ⟨S95, K96⟩ := St.call (Fa := []) (Fr := [F82, F70]) S83 T90
  replace h81 := h81.move (K96.at 0 rfl)
  replace h69 := h69.move (K96.at 1 rfl)
  have E97 := T90.ext
  replace h81 := h81.ext E97
  replace h69 := h69.ext E97
  refine lv (d := 9) rfl rfl (by kernel_rfl) (e_assign (v := .slice A91 t86.length c92) (by kernel_rfl)) ?_
  refine wpList_nil ?_
  refine then_n ?_
  refine wp_seq ?_
  refine wp_region_lit ?_
  refine lv (d := 40) rfl rfl (by kernel_rfl) (e_move (v := .slice A79 t74.length c80) (by kernel_rfl)) ?_
  refine lv (d := 41) rfl rfl (by kernel_rfl) (e_move (v := .slice A91 t86.length c92) (by kernel_rfl)) ?_
  have S98 := S95.pull (F := F82) (Fr := [F94, F70]) 1 rfl rfl
  have l99 := h81.le
  obtain ⟨H100, S101, E102, h103, z104⟩ := S98.frzRow h81
  have h105 := h93.ext E102
  have h106 := h69.ext E102
  have l107 := h105.le
  obtain ⟨H108, S109, E110, h111, z112⟩ := S101.frzRow h105
  have h113 := h106.ext E110
  obtain ⟨t114, u115, M⟩ := bnd M
  refine lcall (d := 42) rfl rfl (by kernel_rfl) (e_call (l := [.tmp 40, .tmp 41]) (vs := [.slice A79 t74.length c80, .slice A91 t86.length c92]) Try.func50 (by kernel_rfl) rfl (by kernel_rfl) rfl) (impl_Unify.calls k w88 H108 t74 A79 c80 t86 A91 c92 (h103.ext E110) l99 h111 l107 S109.own0 t114 u115) ?_
  rintro _ w116 ⟨A119, c120, F122, H117, rfl, h121, T118⟩
  refine ⟨_, rfl, ?_⟩
  obtain ⟨S123, K124⟩ := St.call (Fa := []) (Fr := [F70]) S109 T118
  replace h69 := h69.move (K124.at 0 rfl)
  obtain ⟨H125, S126, E127, v128⟩ := St.thaw S101 z112 S123 T118.ext E110 T118.size
  replace h93 := h93.move v128
  obtain ⟨H129, S130, E131, v132⟩ := St.thaw S98 z104 S126 E127 E102 T118.size
  replace h81 := h81.move v132
  replace h81 := h81.ext E131
  replace h93 := h93.ext E131
  replace h69 := h69.ext E131
  replace h121 := Row.free (H' := H129) (free_iso (free_pair (free_scal _ _) (free_slice (free_iso (free_pair (free_scal _ _) (free_pair (free_scal _ _) (free_slice (free_scal _ _)))))))) h121
  refine lv (d := 39) rfl rfl (by kernel_rfl) (e_move (v := .tuple #[.slice A119 t114.1.length c120, .int .i64 t114.2]) (by kernel_rfl)) ?_
  refine lv (d := 43) rfl rfl (by kernel_rfl) (e_extract (vs := #[.slice A119 t114.1.length c120, .int .i64 t114.2]) (v := .slice A119 t114.1.length c120) (by kernel_rfl) rfl) ?_
  refine lv (d := 44) rfl rfl (by kernel_rfl) (e_extract (vs := #[.slice A119 t114.1.length c120, .int .i64 t114.2]) (v := .int .i64 t114.2) (by kernel_rfl) rfl) ?_
  refine lv (d := 10) rfl rfl (by kernel_rfl) (e_assign (v := .slice A119 t114.1.length c120) (by kernel_rfl)) ?_
  refine lv (d := 11) rfl rfl (by kernel_rfl) (e_assign (v := .int .i64 t114.2) (by kernel_rfl)) ?_
  refine wpList_nil ?_
  refine then_n ?_
  refine wp_seq ?_
  refine wp_seq ?_
  refine wp_region_lit ?_
  refine lv (d := 45) rfl rfl (by kernel_rfl) (e_move (v := .slice A119 t114.1.length c120) (by kernel_rfl)) ?_
  refine lv (d := 46) rfl rfl (by kernel_rfl) (e_move (v := .slice A67 t62.1.length c68) (by kernel_rfl)) ?_
  obtain ⟨t133, u134, M⟩ := bnd M
  refine lcall (d := 47) rfl rfl (by kernel_rfl) (e_call (l := [.tmp 45, .tmp 46]) (vs := [.slice A119 t114.1.length c120, .slice A67 t62.1.length c68]) Try.func47 (by kernel_rfl) rfl (by kernel_rfl) rfl) (by have l135 := h121.le; have S136 := S130.pull (F := F122) (Fr := [F82, F94, F70]) 2 rfl rfl; obtain ⟨H137, S138, E139, h140, z141⟩ := S136.frzRow h121; replace h81 := h81.ext E139; replace h93 := h93.ext E139; replace h69 := h69.ext E139; have l142 := h69.le; have S143 := S138.pull (F := F70) (Fr := [F82, F94]) 2 rfl rfl; obtain ⟨H144, S145, E146, h147, z148⟩ := S143.frzRow h69; replace h81 := h81.ext E146; replace h93 := h93.ext E146; exact (laws_eqBindingS.calls k w116 H144 t114.1 A119 c120 t62.1 A67 c68 (h140.ext E146) l135 h147 l142 S145.own0 t133 u134)) ?_
  rintro _ w149 ⟨rfl, C150⟩
  refine ⟨_, rfl, ?_⟩
  obtain ⟨S151, K152⟩ := S130.still C150
  replace h81 := h81.move (K152.at 0 rfl)
  replace h93 := h93.move (K152.at 1 rfl)
  replace h121 := h121.move (K152.at 2 rfl)
  replace h69 := h69.move (K152.at 3 rfl)
  refine lv (d := 48) rfl rfl (by kernel_rfl) (e_notv (c := t133) (by kernel_rfl)) ?_
  refine lv (d := 49) rfl rfl (by kernel_rfl) (e_move (v := .bool (decide (¬ (t133 = true)))) (by kernel_rfl)) ?_
  by_cases q153 : ¬ (t133 = true)
  · replace M := ifp q153 M
    refine lskip (t := 49) (c := true) rfl (by kernel_rfl) rfl (bt q153 (by kernel_rfl)) rfl rfl ?_
    refine lskip (t := 49) (c := true) rfl (by kernel_rfl) rfl (bt q153 (by kernel_rfl)) rfl rfl ?_
    refine lskip (t := 49) (c := true) rfl (by kernel_rfl) rfl (bt q153 (by kernel_rfl)) rfl rfl ?_
    refine lv (d := 53) rfl rfl (by kernel_rfl) (e_pick_t (v := .bool true) (bt q153 (by kernel_rfl)) rfl) ?_
    refine wpList_nil ?_
    refine then_n ?_
    refine cond_t rfl (by kernel_rfl) ?_
    refine wp_seq ?_
    refine wp_region_lit ?_
    refine lv (d := 4) rfl rfl (by kernel_rfl) (e_assign (v := .bool false) rfl) ?_
    refine wpList_nil ?_
    refine then_n ?_
    refine wp_ret ?_
    refine then_r ?_
    obtain rfl := Option.some.inj M
    exact ret1 rfl rfl  (show _ = .bool false from (by kernel_rfl)) ⟨rfl, S151.chg⟩
  replace M := ifn q153 M
  refine lvg (d := 50) (t := 49) rfl (by kernel_rfl) rfl (bf q153 (by kernel_rfl)) rfl (by kernel_rfl) (e_move (v := .int .i64 t114.2) (by kernel_rfl)) ?_
  refine lvg (d := 51) (t := 49) rfl (by kernel_rfl) rfl (bf q153 (by kernel_rfl)) rfl (by kernel_rfl) (e_move (v := .int .i64 t62.2) (by kernel_rfl)) ?_
  refine lvg (d := 52) (t := 49) rfl (by kernel_rfl) rfl (bf q153 (by kernel_rfl)) rfl (by kernel_rfl) (e_neq (k := .i64) (a := t114.2) (b := t62.2) (by kernel_rfl) (by kernel_rfl)) ?_
  refine lv (d := 53) rfl rfl (by kernel_rfl) (e_pick_f (v := .bool (decide (t114.2 ≠ t62.2))) (bf q153 (by kernel_rfl)) (by kernel_rfl)) ?_
  refine wpList_nil ?_
  refine then_n ?_
  by_cases q154 : t114.2 ≠ t62.2
  · replace M := ifp q154 M
    refine cond_t rfl (bt q154 (by kernel_rfl)) ?_
    refine wp_seq ?_
    refine wp_region_lit ?_
    refine lv (d := 4) rfl rfl (by kernel_rfl) (e_assign (v := .bool false) rfl) ?_
    refine wpList_nil ?_
    refine then_n ?_
    refine wp_ret ?_
    refine then_r ?_
    obtain rfl := Option.some.inj M
    exact ret1 rfl rfl  (show _ = .bool false from (by kernel_rfl)) ⟨rfl, S151.chg⟩
  replace M := ifn q154 M
  refine cond_f rfl (bf q154 (by kernel_rfl)) ?_
  refine wp_skip ?_
  refine then_n ?_
  refine wp_seq ?_
  refine wp_seq ?_
  refine wp_region_lit ?_
  refine lv (d := 54) rfl rfl (by kernel_rfl) (e_move (v := .slice A79 t74.length c80) (by kernel_rfl)) ?_
  refine lv (d := 55) rfl rfl (by kernel_rfl) (e_move (v := .slice A2 x1.length c3) (by kernel_rfl)) ?_
  obtain ⟨t155, u156, M⟩ := bnd M
  refine lcall (d := 56) rfl rfl (by kernel_rfl) (e_call (l := [.tmp 55]) (vs := [.slice A2 x1.length c3]) Try.func16 (by kernel_rfl) rfl (by kernel_rfl) rfl) (laws_toCellS.calls k w149 H129 x1 A2 c3 (h4.ext (((((((E36.trans E48).trans E53).trans E59).trans E73).trans E85).trans E97).trans E131)) l5 (St.own' (Fa := []) (Fr := [F82, F94, F122, F70]) S151) t155 u156) ?_
  rintro _ w157 ⟨A160, c161, F163, H158, rfl, h162, T159⟩
  refine ⟨_, rfl, ?_⟩
  obtain ⟨S164, K165⟩ := St.call (Fa := []) (Fr := [F82, F94, F122, F70]) S151 T159
  replace h81 := h81.move (K165.at 0 rfl)
  replace h93 := h93.move (K165.at 1 rfl)
  replace h121 := h121.move (K165.at 2 rfl)
  replace h69 := h69.move (K165.at 3 rfl)
  have E166 := T159.ext
  replace h81 := h81.ext E166
  replace h93 := h93.ext E166
  replace h121 := h121.ext E166
  replace h69 := h69.ext E166
  obtain ⟨t167, u168, M⟩ := bnd M
  refine lcall (d := 57) rfl rfl (by kernel_rfl) (e_call (l := [.tmp 54, .tmp 56]) (vs := [.slice A79 t74.length c80, .slice A160 t155.length c161]) Try.func18 (by kernel_rfl) rfl (by kernel_rfl) rfl) (by have l169 := h81.le; have S170 := S164.pull (F := F82) (Fr := [F163, F94, F122, F70]) 1 rfl rfl; obtain ⟨H171, S172, E173, h174, z175⟩ := S170.frzRow h81; replace h162 := h162.ext E173; replace h93 := h93.ext E173; replace h121 := h121.ext E173; replace h69 := h69.ext E173; have l176 := h162.le; obtain ⟨H177, S178, E179, h180, z181⟩ := S172.frzRow h162; replace h93 := h93.ext E179; replace h121 := h121.ext E179; replace h69 := h69.ext E179; exact (laws_eqCellS.calls k w157 H177 t74 A79 c80 t155 A160 c161 (h174.ext E179) l169 h180 l176 S178.own0 t167 u168)) ?_
  rintro _ w182 ⟨rfl, C183⟩
  refine ⟨_, rfl, ?_⟩
  obtain ⟨S184, K185⟩ := S164.still C183
  replace h162 := h162.move (K185.at 0 rfl)
  replace h81 := h81.move (K185.at 1 rfl)
  replace h93 := h93.move (K185.at 2 rfl)
  replace h121 := h121.move (K185.at 3 rfl)
  replace h69 := h69.move (K185.at 4 rfl)
  refine lv (d := 58) rfl rfl (by kernel_rfl) (e_notv (c := t167) (by kernel_rfl)) ?_
  refine wpList_nil ?_
  refine then_n ?_
  by_cases q186 : ¬ (t167 = true)
  · replace M := ifp q186 M
    refine cond_t rfl (bt q186 (by kernel_rfl)) ?_
    refine wp_seq ?_
    refine wp_region_lit ?_
    refine lv (d := 4) rfl rfl (by kernel_rfl) (e_assign (v := .bool false) rfl) ?_
    refine wpList_nil ?_
    refine then_n ?_
    refine wp_ret ?_
    refine then_r ?_
    obtain rfl := Option.some.inj M
    exact ret1 rfl rfl  (show _ = .bool false from (by kernel_rfl)) ⟨rfl, S184.chg⟩
  replace M := ifn q186 M
  refine cond_f rfl (bf q186 (by kernel_rfl)) ?_
  refine wp_skip ?_
  refine then_n ?_
  refine wp_seq ?_
  refine wp_seq ?_
  refine wp_region_lit ?_
  refine lv (d := 59) rfl rfl (by kernel_rfl) (e_move (v := .slice A91 t86.length c92) (by kernel_rfl)) ?_
  refine lv (d := 60) rfl rfl (by kernel_rfl) (e_move (v := .slice A7 x6.length c8) (by kernel_rfl)) ?_
  obtain ⟨t187, u188, M⟩ := bnd M
  refine lcall (d := 61) rfl rfl (by kernel_rfl) (e_call (l := [.tmp 60]) (vs := [.slice A7 x6.length c8]) Try.func16 (by kernel_rfl) rfl (by kernel_rfl) rfl) (laws_toCellS.calls k w182 H158 x6 A7 c8 (h9.ext ((((((((E36.trans E48).trans E53).trans E59).trans E73).trans E85).trans E97).trans E131).trans E166)) l10 (St.own' (Fa := []) (Fr := [F163, F82, F94, F122, F70]) S184) t187 u188) ?_
  rintro _ w189 ⟨A192, c193, F195, H190, rfl, h194, T191⟩
  refine ⟨_, rfl, ?_⟩
  obtain ⟨S196, K197⟩ := St.call (Fa := []) (Fr := [F163, F82, F94, F122, F70]) S184 T191
  replace h162 := h162.move (K197.at 0 rfl)
  replace h81 := h81.move (K197.at 1 rfl)
  replace h93 := h93.move (K197.at 2 rfl)
  replace h121 := h121.move (K197.at 3 rfl)
  replace h69 := h69.move (K197.at 4 rfl)
  have E198 := T191.ext
  replace h162 := h162.ext E198
  replace h81 := h81.ext E198
  replace h93 := h93.ext E198
  replace h121 := h121.ext E198
  replace h69 := h69.ext E198
  obtain ⟨t199, u200, M⟩ := bnd M
  refine lcall (d := 62) rfl rfl (by kernel_rfl) (e_call (l := [.tmp 59, .tmp 61]) (vs := [.slice A91 t86.length c92, .slice A192 t187.length c193]) Try.func18 (by kernel_rfl) rfl (by kernel_rfl) rfl) (by have l201 := h93.le; have S202 := S196.pull (F := F94) (Fr := [F195, F163, F82, F122, F70]) 3 rfl rfl; obtain ⟨H203, S204, E205, h206, z207⟩ := S202.frzRow h93; replace h194 := h194.ext E205; replace h162 := h162.ext E205; replace h81 := h81.ext E205; replace h121 := h121.ext E205; replace h69 := h69.ext E205; have l208 := h194.le; obtain ⟨H209, S210, E211, h212, z213⟩ := S204.frzRow h194; replace h162 := h162.ext E211; replace h81 := h81.ext E211; replace h121 := h121.ext E211; replace h69 := h69.ext E211; exact (laws_eqCellS.calls k w189 H209 t86 A91 c92 t187 A192 c193 (h206.ext E211) l201 h212 l208 S210.own0 t199 u200)) ?_
  rintro _ w214 ⟨rfl, C215⟩
  refine ⟨_, rfl, ?_⟩
  obtain ⟨S216, K217⟩ := S196.still C215
  replace h194 := h194.move (K217.at 0 rfl)
  replace h162 := h162.move (K217.at 1 rfl)
  replace h81 := h81.move (K217.at 2 rfl)
  replace h93 := h93.move (K217.at 3 rfl)
  replace h121 := h121.move (K217.at 4 rfl)
  replace h69 := h69.move (K217.at 5 rfl)
  refine lv (d := 63) rfl rfl (by kernel_rfl) (e_notv (c := t199) (by kernel_rfl)) ?_
  refine wpList_nil ?_
  refine then_n ?_
  by_cases q218 : ¬ (t199 = true)
  · replace M := ifp q218 M
    refine cond_t rfl (bt q218 (by kernel_rfl)) ?_
    refine wp_seq ?_
    refine wp_region_lit ?_
    refine lv (d := 4) rfl rfl (by kernel_rfl) (e_assign (v := .bool false) rfl) ?_
    refine wpList_nil ?_
    refine then_n ?_
    refine wp_ret ?_
    refine then_r ?_
    obtain rfl := Option.some.inj M
    exact ret1 rfl rfl  (show _ = .bool false from (by kernel_rfl)) ⟨rfl, S216.chg⟩
  replace M := ifn q218 M
  refine cond_f rfl (bf q218 (by kernel_rfl)) ?_
  refine wp_skip ?_
  refine then_n ?_
  refine wp_seq ?_
  refine wp_region_lit ?_
  refine lv (d := 12) rfl rfl (by kernel_rfl) (e_assign (v := .int .i64 1) rfl) ?_
  refine wpList_nil ?_
  refine then_n ?_
  refine wp_seq ?_
  refine wp_region_lit ?_
  refine lv (d := 64) rfl rfl (by kernel_rfl) (e_move (v := .slice A79 t74.length c80) (by kernel_rfl)) ?_
  refine lv (d := 65) rfl rfl (by kernel_rfl) (e_move (v := .int .i64 1) (by kernel_rfl)) ?_
  have S219 := S216.pull (F := F82) (Fr := [F195, F163, F94, F122, F70]) 2 rfl rfl
  obtain ⟨t220, u221, M⟩ := bnd M
  refine lcall (d := 66) rfl rfl (by kernel_rfl) (e_call (l := [.tmp 64, .tmp 65]) (vs := [.slice A79 t74.length c80, .int .i64 1]) Try.func24 (by kernel_rfl) rfl (by kernel_rfl) rfl) (laws_markCellS_2.calls k w214 H190 t74 A79 c80 F82 1 h81 (St.own' (Fa := [F82]) (Fr := [F195, F163, F94, F122, F70]) S219) t220 u221) ?_
  rintro _ w222 ⟨F226, H223, rfl, n227, h225, T224⟩
  refine ⟨_, rfl, ?_⟩
  obtain ⟨S228, K229⟩ := St.call (Fa := [F82]) (Fr := [F195, F163, F94, F122, F70]) S219 T224
  replace h194 := h194.move (K229.at 0 rfl)
  replace h162 := h162.move (K229.at 1 rfl)
  replace h93 := h93.move (K229.at 2 rfl)
  replace h121 := h121.move (K229.at 3 rfl)
  replace h69 := h69.move (K229.at 4 rfl)
  have E230 := T224.ext
  replace h194 := h194.ext E230
  replace h162 := h162.ext E230
  replace h93 := h93.ext E230
  replace h121 := h121.ext E230
  replace h69 := h69.ext E230
  refine lv (d := 12) rfl rfl (by kernel_rfl) (e_assign (v := .int .i64 t220.1) (by kernel_rfl)) ?_
  refine wpList_nil ?_
  refine then_n ?_
  refine wp_seq ?_
  refine wp_region_lit ?_
  refine lv (d := 67) rfl rfl (by kernel_rfl) (e_move (v := .slice A91 t86.length c92) (by kernel_rfl)) ?_
  refine lv (d := 68) rfl rfl (by kernel_rfl) (e_move (v := .int .i64 t220.1) (by kernel_rfl)) ?_
  have S231 := S228.pull (F := F94) (Fr := [F226, F195, F163, F122, F70]) 3 rfl rfl
  obtain ⟨t232, u233, M⟩ := bnd M
  refine lcall (d := 69) rfl rfl (by kernel_rfl) (e_call (l := [.tmp 67, .tmp 68]) (vs := [.slice A91 t86.length c92, .int .i64 t220.1]) Try.func24 (by kernel_rfl) rfl (by kernel_rfl) rfl) (laws_markCellS_2.calls k w222 H223 t86 A91 c92 F94 t220.1 h93 (St.own' (Fa := [F94]) (Fr := [F226, F195, F163, F122, F70]) S231) t232 u233) ?_
  rintro _ w234 ⟨F238, H235, rfl, n239, h237, T236⟩
  refine ⟨_, rfl, ?_⟩
  obtain ⟨S240, K241⟩ := St.call (Fa := [F94]) (Fr := [F226, F195, F163, F122, F70]) S231 T236
  replace h225 := h225.move (K241.at 0 rfl)
  replace h194 := h194.move (K241.at 1 rfl)
  replace h162 := h162.move (K241.at 2 rfl)
  replace h121 := h121.move (K241.at 3 rfl)
  replace h69 := h69.move (K241.at 4 rfl)
  have E242 := T236.ext
  replace h225 := h225.ext E242
  replace h194 := h194.ext E242
  replace h162 := h162.ext E242
  replace h121 := h121.ext E242
  replace h69 := h69.ext E242
  refine lv (d := 12) rfl rfl (by kernel_rfl) (e_assign (v := .int .i64 t232.1) (by kernel_rfl)) ?_
  refine wpList_nil ?_
  refine then_n ?_
  refine wp_seq ?_
  refine wp_seq ?_
  refine wp_region_lit ?_
  refine lv (d := 70) rfl rfl (by kernel_rfl) (e_move (v := .int .i64 t232.1) (by kernel_rfl)) ?_
  refine lv (d := 71) rfl rfl (by kernel_rfl) (e_lss (k := .i64) (a := t232.1) (b := 0) (by kernel_rfl) rfl) ?_
  refine lv (d := 72) rfl rfl (by kernel_rfl) (e_move (v := .bool (decide (t232.1 < 0))) (by kernel_rfl)) ?_
  by_cases q243 : t232.1 < 0
  · replace M := ifp q243 M
    refine lskip (t := 72) (c := true) rfl (by kernel_rfl) rfl (bt q243 (by kernel_rfl)) rfl rfl ?_
    refine lskip (t := 72) (c := true) rfl (by kernel_rfl) rfl (bt q243 (by kernel_rfl)) rfl rfl ?_
    refine lskip (t := 72) (c := true) rfl (by kernel_rfl) rfl (bt q243 (by kernel_rfl)) rfl rfl ?_
    refine lskip (t := 72) (c := true) rfl (by kernel_rfl) rfl (bt q243 (by kernel_rfl)) rfl rfl ?_
    refine lv (d := 77) rfl rfl (by kernel_rfl) (e_pick_t (v := .bool true) (bt q243 (by kernel_rfl)) rfl) ?_
    refine lv (d := 78) rfl rfl (by kernel_rfl) (e_move (v := .bool true) (by kernel_rfl)) ?_
    refine lskip (t := 78) (c := true) rfl (by kernel_rfl) rfl (by kernel_rfl) rfl rfl ?_
    refine lskip (t := 78) (c := true) rfl (by kernel_rfl) rfl (by kernel_rfl) rfl rfl ?_
    refine lskip (t := 78) (c := true) rfl (by kernel_rfl) rfl (by kernel_rfl) rfl rfl ?_
    refine lv (d := 82) rfl rfl (by kernel_rfl) (e_pick_t (v := .bool true) (by kernel_rfl) rfl) ?_
    refine wpList_nil ?_
    refine then_n ?_
    refine cond_t rfl (by kernel_rfl) ?_
    refine wp_seq ?_
    refine wp_region_lit ?_
    refine lv (d := 4) rfl rfl (by kernel_rfl) (e_assign (v := .bool false) rfl) ?_
    refine wpList_nil ?_
    refine then_n ?_
    refine wp_ret ?_
    refine then_r ?_
    obtain rfl := Option.some.inj M
    exact ret1 rfl rfl  (show _ = .bool false from (by kernel_rfl)) ⟨rfl, S240.chg⟩
  replace M := ifn q243 M
  refine lvg (d := 73) (t := 72) rfl (by kernel_rfl) rfl (bf q243 (by kernel_rfl)) rfl (by kernel_rfl) (e_move (v := .slice A119 t114.1.length c120) (by kernel_rfl)) ?_
  refine lvg (d := 74) (t := 72) rfl (by kernel_rfl) rfl (bf q243 (by kernel_rfl)) rfl (by kernel_rfl) (e_move (v := .slice A67 t62.1.length c68) (by kernel_rfl)) ?_
  obtain ⟨t244, u245, M⟩ := bnd M
  refine lcallg (d := 75) (t := 72) rfl (by kernel_rfl) rfl (bf q243 (by kernel_rfl)) rfl (by kernel_rfl) (e_call (l := [.tmp 73, .tmp 74]) (vs := [.slice A119 t114.1.length c120, .slice A67 t62.1.length c68]) Try.func47 (by kernel_rfl) rfl (by kernel_rfl) rfl) (by have l246 := h121.le; have S247 := S240.pull (F := F122) (Fr := [F238, F226, F195, F163, F70]) 4 rfl rfl; obtain ⟨H248, S249, E250, h251, z252⟩ := S247.frzRow h121; replace h237 := h237.ext E250; replace h225 := h225.ext E250; replace h194 := h194.ext E250; replace h162 := h162.ext E250; replace h69 := h69.ext E250; have l253 := h69.le; have S254 := S249.pull (F := F70) (Fr := [F238, F226, F195, F163]) 4 rfl rfl; obtain ⟨H255, S256, E257, h258, z259⟩ := S254.frzRow h69; replace h237 := h237.ext E257; replace h225 := h225.ext E257; replace h194 := h194.ext E257; replace h162 := h162.ext E257; exact (laws_eqBindingS.calls k w234 H255 t114.1 A119 c120 t62.1 A67 c68 (h251.ext E257) l246 h258 l253 S256.own0 t244 u245)) ?_
  rintro _ w260 ⟨rfl, C261⟩
  refine ⟨_, rfl, ?_⟩
  obtain ⟨S262, K263⟩ := S240.still C261
  replace h237 := h237.move (K263.at 0 rfl)
  replace h225 := h225.move (K263.at 1 rfl)
  replace h194 := h194.move (K263.at 2 rfl)
  replace h162 := h162.move (K263.at 3 rfl)
  replace h121 := h121.move (K263.at 4 rfl)
  replace h69 := h69.move (K263.at 5 rfl)
  refine lvg (d := 76) (t := 72) rfl (by kernel_rfl) rfl (bf q243 (by kernel_rfl)) rfl (by kernel_rfl) (e_notv (c := t244) (by kernel_rfl)) ?_
  refine lv (d := 77) rfl rfl (by kernel_rfl) (e_pick_f (v := .bool (decide (¬ (t244 = true)))) (bf q243 (by kernel_rfl)) (by kernel_rfl)) ?_
  refine lv (d := 78) rfl rfl (by kernel_rfl) (e_move (v := .bool (decide (¬ (t244 = true)))) (by kernel_rfl)) ?_
  by_cases q264 : ¬ (t244 = true)
  · replace M := ifp q264 M
    refine lskip (t := 78) (c := true) rfl (by kernel_rfl) rfl (bt q264 (by kernel_rfl)) rfl rfl ?_
    refine lskip (t := 78) (c := true) rfl (by kernel_rfl) rfl (bt q264 (by kernel_rfl)) rfl rfl ?_
    refine lskip (t := 78) (c := true) rfl (by kernel_rfl) rfl (bt q264 (by kernel_rfl)) rfl rfl ?_
    refine lv (d := 82) rfl rfl (by kernel_rfl) (e_pick_t (v := .bool true) (bt q264 (by kernel_rfl)) rfl) ?_
    refine wpList_nil ?_
    refine then_n ?_
    refine cond_t rfl (by kernel_rfl) ?_
    refine wp_seq ?_
    refine wp_region_lit ?_
    refine lv (d := 4) rfl rfl (by kernel_rfl) (e_assign (v := .bool false) rfl) ?_
    refine wpList_nil ?_
    refine then_n ?_
    refine wp_ret ?_
    refine then_r ?_
    obtain rfl := Option.some.inj M
    exact ret1 rfl rfl  (show _ = .bool false from (by kernel_rfl)) ⟨rfl, S262.chg⟩
  replace M := ifn q264 M
  refine lvg (d := 79) (t := 78) rfl (by kernel_rfl) rfl (bf q264 (by kernel_rfl)) rfl (by kernel_rfl) (e_move (v := .int .i64 t114.2) (by kernel_rfl)) ?_
  refine lvg (d := 80) (t := 78) rfl (by kernel_rfl) rfl (bf q264 (by kernel_rfl)) rfl (by kernel_rfl) (e_move (v := .int .i64 t62.2) (by kernel_rfl)) ?_
  refine lvg (d := 81) (t := 78) rfl (by kernel_rfl) rfl (bf q264 (by kernel_rfl)) rfl (by kernel_rfl) (e_neq (k := .i64) (a := t114.2) (b := t62.2) (by kernel_rfl) (by kernel_rfl)) ?_
  refine lv (d := 82) rfl rfl (by kernel_rfl) (e_pick_f (v := .bool (decide (t114.2 ≠ t62.2))) (bf q264 (by kernel_rfl)) (by kernel_rfl)) ?_
  refine wpList_nil ?_
  refine then_n ?_
  refine cond_f rfl (bf q154 (by kernel_rfl)) ?_
  refine wp_skip ?_
  refine then_n ?_
  refine wp_seq ?_
  refine wp_region_lit ?_
  refine lv (d := 13) rfl rfl (by kernel_rfl) (e_assign (v := .int .i64 1) rfl) ?_
  refine wpList_nil ?_
  refine then_n ?_
  refine wp_seq ?_
  refine wp_region_lit ?_
  refine lv (d := 83) rfl rfl (by kernel_rfl) (e_move (v := .slice A119 t114.1.length c120) (by kernel_rfl)) ?_
  refine lv (d := 84) rfl rfl (by kernel_rfl) (e_move (v := .int .i64 1) (by kernel_rfl)) ?_
  have S265 := S262.pull (F := F122) (Fr := [F238, F226, F195, F163, F70]) 4 rfl rfl
  obtain ⟨t266, u267, M⟩ := bnd M
  refine lcall (d := 85) rfl rfl (by kernel_rfl) (e_call (l := [.tmp 83, .tmp 84]) (vs := [.slice A119 t114.1.length c120, .int .i64 1]) Try.func48 (by kernel_rfl) rfl (by kernel_rfl) rfl) (laws_markBindingS_2.calls k w260 H235 t114.1 A119 c120 F122 1 h121 (St.own' (Fa := [F122]) (Fr := [F238, F226, F195, F163, F70]) S265) t266 u267) ?_
  rintro _ w268 ⟨F272, H269, rfl, n273, h271, T270⟩
  refine ⟨_, rfl, ?_⟩
  obtain ⟨S274, K275⟩ := St.call (Fa := [F122]) (Fr := [F238, F226, F195, F163, F70]) S265 T270
  replace h237 := h237.move (K275.at 0 rfl)
  replace h225 := h225.move (K275.at 1 rfl)
  replace h194 := h194.move (K275.at 2 rfl)
  replace h162 := h162.move (K275.at 3 rfl)
  replace h69 := h69.move (K275.at 4 rfl)
  have E276 := T270.ext
  replace h237 := h237.ext E276
  replace h225 := h225.ext E276
  replace h194 := h194.ext E276
  replace h162 := h162.ext E276
  replace h69 := h69.ext E276
  refine lv (d := 13) rfl rfl (by kernel_rfl) (e_assign (v := .int .i64 t266.1) (by kernel_rfl)) ?_
  refine wpList_nil ?_
  refine then_n ?_
  refine wp_seq ?_
  refine wp_region_lit ?_
  refine lv (d := 14) rfl rfl (by kernel_rfl) (e_assign (v := .int .i64 1) rfl) ?_
  refine wpList_nil ?_
  refine then_n ?_
  refine wp_seq ?_
  refine wp_region_lit ?_
  refine lv (d := 86) rfl rfl (by kernel_rfl) (e_move (v := .slice A119 t114.1.length c120) (by kernel_rfl)) ?_
  refine lv (d := 87) rfl rfl (by kernel_rfl) (e_move (v := .int .i64 1) (by kernel_rfl)) ?_
  obtain ⟨t277, u278, M⟩ := bnd M
  refine lcall (d := 88) rfl rfl (by kernel_rfl) (e_call (l := [.tmp 86, .tmp 87]) (vs := [.slice A119 t114.1.length c120, .int .i64 1]) Try.func51 (by kernel_rfl) rfl (by kernel_rfl) rfl) (by have l279 := h271.le; obtain ⟨H280, S281, E282, h283, z284⟩ := S274.frzRow h271; replace h237 := h237.ext E282; replace h225 := h225.ext E282; replace h194 := h194.ext E282; replace h162 := h162.ext E282; replace h69 := h69.ext E282; exact (by have q_ := (laws_heldBindingS.calls k w268 H280 t266.2 A119 c120 1 h283 l279 S281.own0 t277 u278); rw [(show t266.2.length = t114.1.length from n273)] at q_; exact q_)) ?_
  rintro _ w285 ⟨rfl, C286⟩
  refine ⟨_, rfl, ?_⟩
  obtain ⟨S287, K288⟩ := S274.still C286
  replace h271 := h271.move (K288.at 0 rfl)
  replace h237 := h237.move (K288.at 1 rfl)
  replace h225 := h225.move (K288.at 2 rfl)
  replace h194 := h194.move (K288.at 3 rfl)
  replace h162 := h162.move (K288.at 4 rfl)
  replace h69 := h69.move (K288.at 5 rfl)
  refine lv (d := 14) rfl rfl (by kernel_rfl) (e_assign (v := .int .i64 t277) (by kernel_rfl)) ?_
  refine wpList_nil ?_
  refine then_n ?_
  refine wp_seq ?_
  refine wp_seq ?_
  refine wp_region_lit ?_
  refine lv (d := 89) rfl rfl (by kernel_rfl) (e_move (v := .int .i64 t277) (by kernel_rfl)) ?_
  refine lv (d := 90) rfl rfl (by kernel_rfl) (e_lss (k := .i64) (a := t277) (b := 0) (by kernel_rfl) rfl) ?_
  refine wpList_nil ?_
  refine then_n ?_
  by_cases q289 : t277 < 0
  · replace M := ifp q289 M
    refine cond_t rfl (bt q289 (by kernel_rfl)) ?_
    refine wp_seq ?_
    refine wp_region_lit ?_
    refine lv (d := 4) rfl rfl (by kernel_rfl) (e_assign (v := .bool false) rfl) ?_
    refine wpList_nil ?_
    refine then_n ?_
    refine wp_ret ?_
    refine then_r ?_
    obtain rfl := Option.some.inj M
    exact ret1 rfl rfl  (show _ = .bool false from (by kernel_rfl)) ⟨rfl, S287.chg⟩
  replace M := ifn q289 M
  refine cond_f rfl (bf q289 (by kernel_rfl)) ?_
  refine wp_skip ?_
  refine then_n ?_
  refine wp_seq ?_
  refine wp_seq ?_
  refine wp_region_lit ?_
  refine lv (d := 91) rfl rfl (by kernel_rfl) (e_move (v := .int .i64 t277) (by kernel_rfl)) ?_
  refine lv (d := 92) rfl rfl (by kernel_rfl) (e_move (v := .int .i64 t266.1) (by kernel_rfl)) ?_
  refine lv (d := 93) rfl rfl (by kernel_rfl) (e_neq (k := .i64) (a := t277) (b := t266.1) (by kernel_rfl) (by kernel_rfl)) ?_
  refine wpList_nil ?_
  refine then_n ?_
  by_cases q290 : t277 ≠ t266.1
  · replace M := ifp q290 M
    refine cond_t rfl (bt q290 (by kernel_rfl)) ?_
    refine wp_seq ?_
    refine wp_region_lit ?_
    refine lv (d := 4) rfl rfl (by kernel_rfl) (e_assign (v := .bool false) rfl) ?_
    refine wpList_nil ?_
    refine then_n ?_
    refine wp_ret ?_
    refine then_r ?_
    obtain rfl := Option.some.inj M
    exact ret1 rfl rfl  (show _ = .bool false from (by kernel_rfl)) ⟨rfl, S287.chg⟩
  replace M := ifn q290 M
  refine cond_f rfl (bf q290 (by kernel_rfl)) ?_
  refine wp_skip ?_
  refine then_n ?_
  refine wp_seq ?_
  refine wp_region_lit ?_
  refine lv (d := 95) rfl rfl (by kernel_rfl) (e_move (v := .slice A2 x1.length c3) (by kernel_rfl)) ?_
  obtain ⟨t291, u292, M⟩ := bnd M
  refine lcall (d := 96) rfl rfl (by kernel_rfl) (e_call (l := [.tmp 95]) (vs := [.slice A2 x1.length c3]) Try.func16 (by kernel_rfl) rfl (by kernel_rfl) rfl) (laws_toCellS.calls k w285 H269 x1 A2 c3 (h4.ext ((((((((((((E36.trans E48).trans E53).trans E59).trans E73).trans E85).trans E97).trans E131).trans E166).trans E198).trans E230).trans E242).trans E276)) l5 (St.own' (Fa := []) (Fr := [F272, F238, F226, F195, F163, F70]) S287) t291 u292) ?_
  rintro _ w293 ⟨A296, c297, F299, H294, rfl, h298, T295⟩
  refine ⟨_, rfl, ?_⟩
  obtain ⟨S300, K301⟩ := St.call (Fa := []) (Fr := [F272, F238, F226, F195, F163, F70]) S287 T295
  replace h271 := h271.move (K301.at 0 rfl)
  replace h237 := h237.move (K301.at 1 rfl)
  replace h225 := h225.move (K301.at 2 rfl)
  replace h194 := h194.move (K301.at 3 rfl)
  replace h162 := h162.move (K301.at 4 rfl)
  replace h69 := h69.move (K301.at 5 rfl)
  have E302 := T295.ext
  replace h271 := h271.ext E302
  replace h237 := h237.ext E302
  replace h225 := h225.ext E302
  replace h194 := h194.ext E302
  replace h162 := h162.ext E302
  replace h69 := h69.ext E302
  refine lv (d := 97) rfl rfl (by kernel_rfl) (e_move (v := .slice A7 x6.length c8) (by kernel_rfl)) ?_
  obtain ⟨t303, u304, M⟩ := bnd M
  refine lcall (d := 98) rfl rfl (by kernel_rfl) (e_call (l := [.tmp 97]) (vs := [.slice A7 x6.length c8]) Try.func16 (by kernel_rfl) rfl (by kernel_rfl) rfl) (laws_toCellS.calls k w293 H294 x6 A7 c8 (h9.ext (((((((((((((E36.trans E48).trans E53).trans E59).trans E73).trans E85).trans E97).trans E131).trans E166).trans E198).trans E230).trans E242).trans E276).trans E302)) l10 (St.own' (Fa := []) (Fr := [F299, F272, F238, F226, F195, F163, F70]) S300) t303 u304) ?_
  rintro _ w305 ⟨A308, c309, F311, H306, rfl, h310, T307⟩
  refine ⟨_, rfl, ?_⟩
  obtain ⟨S312, K313⟩ := St.call (Fa := []) (Fr := [F299, F272, F238, F226, F195, F163, F70]) S300 T307
  replace h298 := h298.move (K313.at 0 rfl)
  replace h271 := h271.move (K313.at 1 rfl)
  replace h237 := h237.move (K313.at 2 rfl)
  replace h225 := h225.move (K313.at 3 rfl)
  replace h194 := h194.move (K313.at 4 rfl)
  replace h162 := h162.move (K313.at 5 rfl)
  replace h69 := h69.move (K313.at 6 rfl)
  have E314 := T307.ext
  replace h298 := h298.ext E314
  replace h271 := h271.ext E314
  replace h237 := h237.ext E314
  replace h225 := h225.ext E314
  replace h194 := h194.ext E314
  replace h162 := h162.ext E314
  replace h69 := h69.ext E314
  have l315 := h298.le
  have S316 := S312.pull (F := F299) (Fr := [F311, F272, F238, F226, F195, F163, F70]) 1 rfl rfl
  obtain ⟨H317, S318, E319, h320, z321⟩ := S316.frzRow h298
  replace h310 := h310.ext E319
  replace h271 := h271.ext E319
  replace h237 := h237.ext E319
  replace h225 := h225.ext E319
  replace h194 := h194.ext E319
  replace h162 := h162.ext E319
  replace h69 := h69.ext E319
  have l322 := h310.le
  obtain ⟨H323, S324, E325, h326, z327⟩ := S318.frzRow h310
  replace h271 := h271.ext E325
  replace h237 := h237.ext E325
  replace h225 := h225.ext E325
  replace h194 := h194.ext E325
  replace h162 := h162.ext E325
  replace h69 := h69.ext E325
  obtain ⟨t328, u329, M⟩ := bnd M
  refine lcall (d := 99) rfl rfl (by kernel_rfl) (e_call (l := [.tmp 96, .tmp 98]) (vs := [.slice A296 t291.length c297, .slice A308 t303.length c309]) Try.func50 (by kernel_rfl) rfl (by kernel_rfl) rfl) (impl_Unify.calls k w305 H323 t291 A296 c297 t303 A308 c309 (h320.ext E325) l315 h326 l322 (St.own' (Fa := []) (Fr := [F272, F238, F226, F195, F163, F70]) S324) t328 u329) ?_
  rintro _ w330 ⟨A333, c334, F336, H331, rfl, h335, T332⟩
  refine ⟨_, rfl, ?_⟩
  obtain ⟨S337, K338⟩ := St.call (Fa := []) (Fr := [F272, F238, F226, F195, F163, F70]) S324 T332
  replace h271 := h271.move (K338.at 0 rfl)
  replace h237 := h237.move (K338.at 1 rfl)
  replace h225 := h225.move (K338.at 2 rfl)
  replace h194 := h194.move (K338.at 3 rfl)
  replace h162 := h162.move (K338.at 4 rfl)
  replace h69 := h69.move (K338.at 5 rfl)
  have E339 := T332.ext
  replace h271 := h271.ext E339
  replace h237 := h237.ext E339
  replace h225 := h225.ext E339
  replace h194 := h194.ext E339
  replace h162 := h162.ext E339
  replace h69 := h69.ext E339
  refine lv (d := 94) rfl rfl (by kernel_rfl) (e_move (v := .tuple #[.slice A333 t328.1.length c334, .int .i64 t328.2]) (by kernel_rfl)) ?_
  refine lv (d := 100) rfl rfl (by kernel_rfl) (e_extract (vs := #[.slice A333 t328.1.length c334, .int .i64 t328.2]) (v := .slice A333 t328.1.length c334) (by kernel_rfl) rfl) ?_
  refine lv (d := 101) rfl rfl (by kernel_rfl) (e_extract (vs := #[.slice A333 t328.1.length c334, .int .i64 t328.2]) (v := .int .i64 t328.2) (by kernel_rfl) rfl) ?_
  refine lv (d := 15) rfl rfl (by kernel_rfl) (e_assign (v := .slice A333 t328.1.length c334) (by kernel_rfl)) ?_
  refine lv (d := 16) rfl rfl (by kernel_rfl) (e_assign (v := .int .i64 t328.2) (by kernel_rfl)) ?_
  refine wpList_nil ?_
  refine then_n ?_
  refine wp_seq ?_
  refine wp_seq ?_
  refine wp_region_lit ?_
  refine lv (d := 102) rfl rfl (by kernel_rfl) (e_move (v := .slice A333 t328.1.length c334) (by kernel_rfl)) ?_
  refine lv (d := 103) rfl rfl (by kernel_rfl) (e_move (v := .slice A67 t62.1.length c68) (by kernel_rfl)) ?_
  obtain ⟨t340, u341, M⟩ := bnd M
  refine lcall (d := 104) rfl rfl (by kernel_rfl) (e_call (l := [.tmp 102, .tmp 103]) (vs := [.slice A333 t328.1.length c334, .slice A67 t62.1.length c68]) Try.func47 (by kernel_rfl) rfl (by kernel_rfl) rfl) (by have l342 := h335.le; obtain ⟨H343, S344, E345, h346, z347⟩ := S337.frzRow h335; replace h271 := h271.ext E345; replace h237 := h237.ext E345; replace h225 := h225.ext E345; replace h194 := h194.ext E345; replace h162 := h162.ext E345; replace h69 := h69.ext E345; have l348 := h69.le; have S349 := S344.pull (F := F70) (Fr := [F272, F238, F226, F195, F163]) 5 rfl rfl; obtain ⟨H350, S351, E352, h353, z354⟩ := S349.frzRow h69; replace h271 := h271.ext E352; replace h237 := h237.ext E352; replace h225 := h225.ext E352; replace h194 := h194.ext E352; replace h162 := h162.ext E352; exact (laws_eqBindingS.calls k w330 H350 t328.1 A333 c334 t62.1 A67 c68 (h346.ext E352) l342 h353 l348 S351.own0 t340 u341)) ?_
  rintro _ w355 ⟨rfl, C356⟩
  refine ⟨_, rfl, ?_⟩
  obtain ⟨S357, K358⟩ := S337.still C356
  replace h335 := h335.move (K358.at 0 rfl)
  replace h271 := h271.move (K358.at 1 rfl)
  replace h237 := h237.move (K358.at 2 rfl)
  replace h225 := h225.move (K358.at 3 rfl)
  replace h194 := h194.move (K358.at 4 rfl)
  replace h162 := h162.move (K358.at 5 rfl)
  replace h69 := h69.move (K358.at 6 rfl)
  refine lv (d := 105) rfl rfl (by kernel_rfl) (e_notv (c := t340) (by kernel_rfl)) ?_
  refine lv (d := 106) rfl rfl (by kernel_rfl) (e_move (v := .bool (decide (¬ (t340 = true)))) (by kernel_rfl)) ?_
  by_cases q359 : ¬ (t340 = true)
  · replace M := ifp q359 M
    refine lskip (t := 106) (c := true) rfl (by kernel_rfl) rfl (bt q359 (by kernel_rfl)) rfl rfl ?_
    refine lskip (t := 106) (c := true) rfl (by kernel_rfl) rfl (bt q359 (by kernel_rfl)) rfl rfl ?_
    refine lskip (t := 106) (c := true) rfl (by kernel_rfl) rfl (bt q359 (by kernel_rfl)) rfl rfl ?_
    refine lv (d := 110) rfl rfl (by kernel_rfl) (e_pick_t (v := .bool true) (bt q359 (by kernel_rfl)) rfl) ?_
    refine wpList_nil ?_
    refine then_n ?_
    refine cond_t rfl (by kernel_rfl) ?_
    refine wp_seq ?_
    refine wp_region_lit ?_
    refine lv (d := 4) rfl rfl (by kernel_rfl) (e_assign (v := .bool false) rfl) ?_
    refine wpList_nil ?_
    refine then_n ?_
    refine wp_ret ?_
    refine then_r ?_
    obtain rfl := Option.some.inj M
    exact ret1 rfl rfl  (show _ = .bool false from (by kernel_rfl)) ⟨rfl, S357.chg⟩
  replace M := ifn q359 M
  refine lvg (d := 107) (t := 106) rfl (by kernel_rfl) rfl (bf q359 (by kernel_rfl)) rfl (by kernel_rfl) (e_move (v := .int .i64 t328.2) (by kernel_rfl)) ?_
  refine lvg (d := 108) (t := 106) rfl (by kernel_rfl) rfl (bf q359 (by kernel_rfl)) rfl (by kernel_rfl) (e_move (v := .int .i64 t62.2) (by kernel_rfl)) ?_
  refine lvg (d := 109) (t := 106) rfl (by kernel_rfl) rfl (bf q359 (by kernel_rfl)) rfl (by kernel_rfl) (e_neq (k := .i64) (a := t328.2) (b := t62.2) (by kernel_rfl) (by kernel_rfl)) ?_
  refine lv (d := 110) rfl rfl (by kernel_rfl) (e_pick_f (v := .bool (decide (t328.2 ≠ t62.2))) (bf q359 (by kernel_rfl)) (by kernel_rfl)) ?_
  refine wpList_nil ?_
  refine then_n ?_
  by_cases q360 : t328.2 ≠ t62.2
  · replace M := ifp q360 M
    refine cond_t rfl (bt q360 (by kernel_rfl)) ?_
    refine wp_seq ?_
    refine wp_region_lit ?_
    refine lv (d := 4) rfl rfl (by kernel_rfl) (e_assign (v := .bool false) rfl) ?_
    refine wpList_nil ?_
    refine then_n ?_
    refine wp_ret ?_
    refine then_r ?_
    obtain rfl := Option.some.inj M
    exact ret1 rfl rfl  (show _ = .bool false from (by kernel_rfl)) ⟨rfl, S357.chg⟩
  replace M := ifn q360 M
  refine cond_f rfl (bf q360 (by kernel_rfl)) ?_
  refine wp_skip ?_
  refine then_n ?_
  refine wp_seq ?_
  refine wp_region_lit ?_
  refine lv (d := 14) rfl rfl (by kernel_rfl) (e_assign (v := .int .i64 1) rfl) ?_
  refine wpList_nil ?_
  refine then_n ?_
  refine wp_seq ?_
  refine wp_region_lit ?_
  refine lv (d := 111) rfl rfl (by kernel_rfl) (e_move (v := .slice A119 t114.1.length c120) (by kernel_rfl)) ?_
  refine lv (d := 112) rfl rfl (by kernel_rfl) (e_move (v := .int .i64 1) (by kernel_rfl)) ?_
  obtain ⟨t361, u362, M⟩ := bnd M
  refine lcall (d := 113) rfl rfl (by kernel_rfl) (e_call (l := [.tmp 111, .tmp 112]) (vs := [.slice A119 t114.1.length c120, .int .i64 1]) Try.func51 (by kernel_rfl) rfl (by kernel_rfl) rfl) (by have l363 := h271.le; have S364 := S357.pull (F := F272) (Fr := [F336, F238, F226, F195, F163, F70]) 1 rfl rfl; obtain ⟨H365, S366, E367, h368, z369⟩ := S364.frzRow h271; replace h335 := h335.ext E367; replace h237 := h237.ext E367; replace h225 := h225.ext E367; replace h194 := h194.ext E367; replace h162 := h162.ext E367; replace h69 := h69.ext E367; exact (by have q_ := (laws_heldBindingS.calls k w355 H365 t266.2 A119 c120 1 h368 l363 S366.own0 t361 u362); rw [(show t266.2.length = t114.1.length from n273)] at q_; exact q_)) ?_
  rintro _ w370 ⟨rfl, C371⟩
  refine ⟨_, rfl, ?_⟩
  obtain ⟨S372, K373⟩ := S357.still C371
  replace h335 := h335.move (K373.at 0 rfl)
  replace h271 := h271.move (K373.at 1 rfl)
  replace h237 := h237.move (K373.at 2 rfl)
  replace h225 := h225.move (K373.at 3 rfl)
  replace h194 := h194.move (K373.at 4 rfl)
  replace h162 := h162.move (K373.at 5 rfl)
  replace h69 := h69.move (K373.at 6 rfl)
  refine lv (d := 14) rfl rfl (by kernel_rfl) (e_assign (v := .int .i64 t361) (by kernel_rfl)) ?_
  refine wpList_nil ?_
  refine then_n ?_
  refine wp_seq ?_
  refine wp_seq ?_
  refine wp_region_lit ?_
  refine lv (d := 114) rfl rfl (by kernel_rfl) (e_move (v := .int .i64 t361) (by kernel_rfl)) ?_
  refine lv (d := 115) rfl rfl (by kernel_rfl) (e_lss (k := .i64) (a := t361) (b := 0) (by kernel_rfl) rfl) ?_
  refine wpList_nil ?_
  refine then_n ?_
  by_cases q374 : t361 < 0
  · replace M := ifp q374 M
    refine cond_t rfl (bt q374 (by kernel_rfl)) ?_
    refine wp_seq ?_
    refine wp_region_lit ?_
    refine lv (d := 4) rfl rfl (by kernel_rfl) (e_assign (v := .bool false) rfl) ?_
    refine wpList_nil ?_
    refine then_n ?_
    refine wp_ret ?_
    refine then_r ?_
    obtain rfl := Option.some.inj M
    exact ret1 rfl rfl  (show _ = .bool false from (by kernel_rfl)) ⟨rfl, S372.chg⟩
  replace M := ifn q374 M
  refine cond_f rfl (bf q374 (by kernel_rfl)) ?_
  refine wp_skip ?_
  refine then_n ?_
  refine wp_seq ?_
  refine wp_seq ?_
  refine wp_region_lit ?_
  refine lv (d := 116) rfl rfl (by kernel_rfl) (e_move (v := .int .i64 t361) (by kernel_rfl)) ?_
  refine lv (d := 117) rfl rfl (by kernel_rfl) (e_move (v := .int .i64 t266.1) (by kernel_rfl)) ?_
  refine lv (d := 118) rfl rfl (by kernel_rfl) (e_neq (k := .i64) (a := t361) (b := t266.1) (by kernel_rfl) (by kernel_rfl)) ?_
  refine wpList_nil ?_
  refine then_n ?_
  by_cases q375 : t361 ≠ t266.1
  · replace M := ifp q375 M
    refine cond_t rfl (bt q375 (by kernel_rfl)) ?_
    refine wp_seq ?_
    refine wp_region_lit ?_
    refine lv (d := 4) rfl rfl (by kernel_rfl) (e_assign (v := .bool false) rfl) ?_
    refine wpList_nil ?_
    refine then_n ?_
    refine wp_ret ?_
    refine then_r ?_
    obtain rfl := Option.some.inj M
    exact ret1 rfl rfl  (show _ = .bool false from (by kernel_rfl)) ⟨rfl, S372.chg⟩
  replace M := ifn q375 M
  refine cond_f rfl (bf q375 (by kernel_rfl)) ?_
  refine wp_skip ?_
  refine then_n ?_
  refine wp_seq ?_
  refine wp_region_lit ?_
  refine lv (d := 4) rfl rfl (by kernel_rfl) (e_assign (v := .bool true) rfl) ?_
  refine wpList_nil ?_
  refine then_n ?_
  refine wp_ret ?_
  obtain rfl := Option.some.inj M
  exact ret1 rfl rfl  (show _ = .bool true from (by kernel_rfl)) ⟨rfl, S372.chg⟩
end Go.Proofs.Ytognefkopbbdnaa
