import Derived.Test.YtdkbfcmekppnmaaDoorWkQa1
namespace Go.Proofs.YtdkbfcmekppnmaaDoor
open Go.Sx Go.Sy
attribute [local irreducible] Go.wpList Go.wpStill Go.wpQuiet Go.Code.wp
set_option maxRecDepth 100000
set_option maxHeartbeats 1000000
set_option linter.unusedVariables false
set_option linter.unusedSimpArgs false

/-! laws_FnExactQuoteAtom -/
def laws_FnExactQuoteAtom.f (k : Nat) (x1 : List UInt8) : Option Bool := (if (x1.length : Int) > 1048576 then some true else ((laws_toByteS.f k x1).bind fun t7 => ((spec_QuoteAtom.f k t7).bind fun t25 => ((laws_toByteS.f k x1).bind fun t37 => ((impl_QuoteAtom.f k t37).bind fun t56 => ((laws_eqByteS.f k t56 t25).bind fun t71 => (if ¬ (t71 = true) then some false else ((laws_toByteS.f k x1).bind fun t92 => ((laws_eqByteS.f k t37 t92).bind fun t104 => (if ¬ (t104 = true) then some false else ((laws_markByteS_2.f k t37 1).bind fun t125 => (if t125.1 < 0 then some false else ((laws_eqByteS.f k t56 t25).bind fun t137 => (if ¬ (t137 = true) then some false else ((laws_markByteS_2.f k t56 1).bind fun t159 => ((laws_heldByteS.f k t159.2 1).bind fun t170 => (if t170 < 0 then some false else (if t170 ≠ t159.1 then some false else ((laws_toByteS.f k x1).bind fun t184 => ((impl_QuoteAtom.f k t184).bind fun t202 => ((laws_eqByteS.f k t202 t25).bind fun t214 => (if ¬ (t214 = true) then some false else ((laws_heldByteS.f k t159.2 1).bind fun t234 => (if t234 < 0 then some false else (if t234 ≠ t159.1 then some false else some true)))))))))))))))))))))))))
theorem laws_FnExactQuoteAtom.calls (k : Nat) (w : World) (H : Hp) (x1 : List UInt8) (A2 : Option Addr) (c3 : Nat) (h4 : Rd tByte H A2 x1) (l5 : x1.length ≤ c3) (hL_ : Laid H) (S : Own [] H w) (r : Bool) (M : laws_FnExactQuoteAtom.f k x1 = some r) :
    Calls Tryd.prog 3 #[.slice A2 x1.length c3] w (fun e e_w => e = .returned (.bool r) ∧ Chg no w e_w) := by
  rw [laws_FnExactQuoteAtom.f] at M
  refine enter (l := [.slice A2 x1.length c3]) 66 Tryd.func3 rfl rfl rfl ?_
  have S0_ := S.st
  refine wp_seq ?_
  refine wp_region_lit ?_
  refine lv (d := 2) rfl rfl (by kernel_rfl) (e_assign (v := .bool false) rfl) ?_
  refine wpList_nil ?_
  refine then_n ?_
  refine wp_seq ?_
  refine wp_seq ?_
  refine wp_region_lit ?_
  refine lv (d := 10) rfl rfl (by kernel_rfl) (e_move (v := .slice A2 x1.length c3) (by kernel_rfl)) ?_
  refine lv (d := 11) rfl rfl (by kernel_rfl) (e_len (A := A2) (n := x1.length) (c := c3) Tryd.underlying22 (by kernel_rfl)) ?_
  refine lv (d := 12) rfl rfl (by kernel_rfl) (e_gtr (k := .i64) (a := (x1.length : Int)) (b := 1048576) (by kernel_rfl) rfl) ?_
  refine wpList_nil ?_
  refine then_n ?_
  by_cases q6 : (x1.length : Int) > 1048576
  · replace M := ifp q6 M
    refine cond_t rfl (bt q6 (by kernel_rfl)) ?_
    refine wp_seq ?_
    refine wp_region_lit ?_
    refine lv (d := 2) rfl rfl (by kernel_rfl) (e_assign (v := .bool true) rfl) ?_
    refine wpList_nil ?_
    refine then_n ?_
    refine wp_ret ?_
    refine then_r ?_
    obtain rfl := Option.some.inj M
    exact ret1 rfl rfl  (show _ = .bool true from (by kernel_rfl)) ⟨rfl, S0_.chg⟩
  replace M := ifn q6 M
  refine cond_f rfl (bf q6 (by kernel_rfl)) ?_
  refine wp_skip ?_
  refine then_n ?_
  refine wp_seq ?_
  refine wp_region_lit ?_
  refine lv (d := 13) rfl rfl (by kernel_rfl) (e_move (v := .slice A2 x1.length c3) (by kernel_rfl)) ?_
  obtain ⟨t7, u8, M⟩ := bnd M
  refine lcall (d := 14) rfl rfl (by kernel_rfl) (e_call (l := [.tmp 13]) (vs := [.slice A2 x1.length c3]) Tryd.func5 (by kernel_rfl) rfl (by kernel_rfl) rfl) (laws_toByteS.calls k w H x1 A2 c3 h4 l5 (St.own' (Fa := []) (Fr := []) S0_) t7 u8) ?_
  rintro _ w9 ⟨A12, c13, F15, H10, rfl, h14, T11⟩
  refine ⟨_, rfl, ?_⟩
  obtain ⟨S16, K17⟩ := St.call (Fa := []) (Fr := []) S0_ T11
  have E18 := T11.ext
  have l19 := h14.le
  obtain ⟨H20, S21, E22, h23, z24⟩ := S16.frzRow h14
  obtain ⟨t25, u26, M⟩ := bnd M
  refine lcall (d := 15) rfl rfl (by kernel_rfl) (e_call (l := [.tmp 14]) (vs := [.slice A12 t7.length c13]) Tryd.func4 (by kernel_rfl) rfl (by kernel_rfl) rfl) (spec_QuoteAtom.calls k w9 H20 t7 A12 c13 h23 l19 (St.own' (Fa := []) (Fr := []) S21) t25 u26) ?_
  rintro _ w27 ⟨A30, c31, F33, H28, rfl, h32, T29⟩
  refine ⟨_, rfl, ?_⟩
  obtain ⟨S34, K35⟩ := St.call (Fa := []) (Fr := []) S21 T29
  have E36 := T29.ext
  refine lv (d := 3) rfl rfl (by kernel_rfl) (e_assign (v := .slice A30 t25.length c31) (by kernel_rfl)) ?_
  refine wpList_nil ?_
  refine then_n ?_
  refine wp_seq ?_
  refine wp_region_lit ?_
  refine lv (d := 16) rfl rfl (by kernel_rfl) (e_move (v := .slice A2 x1.length c3) (by kernel_rfl)) ?_
  obtain ⟨t37, u38, M⟩ := bnd M
  refine lcall (d := 17) rfl rfl (by kernel_rfl) (e_call (l := [.tmp 16]) (vs := [.slice A2 x1.length c3]) Tryd.func5 (by kernel_rfl) rfl (by kernel_rfl) rfl) (laws_toByteS.calls k w27 H28 x1 A2 c3 (h4.ext ((E18.trans E22).trans E36)) l5 (St.own' (Fa := []) (Fr := [F33]) S34) t37 u38) ?_
  rintro _ w39 ⟨A42, c43, F45, H40, rfl, h44, T41⟩
  refine ⟨_, rfl, ?_⟩
  obtain ⟨S46, K47⟩ := St.call (Fa := []) (Fr := [F33]) S34 T41
  replace h32 := h32.move (K47.at 0 rfl)
  have E48 := T41.ext
  replace h32 := h32.ext E48
  refine lv (d := 4) rfl rfl (by kernel_rfl) (e_assign (v := .slice A42 t37.length c43) (by kernel_rfl)) ?_
  refine wpList_nil ?_
  refine then_n ?_
  refine wp_seq ?_
  refine wp_region_lit ?_
  refine lv (d := 18) rfl rfl (by kernel_rfl) (e_move (v := .slice A42 t37.length c43) (by kernel_rfl)) ?_
  have l49 := h44.le
  obtain ⟨H50, S51, E52, h53, z54⟩ := S46.frzRow h44
  have h55 := h32.ext E52
  obtain ⟨t56, u57, M⟩ := bnd M
  refine lcall (d := 19) rfl rfl (by kernel_rfl) (e_call (l := [.tmp 18]) (vs := [.slice A42 t37.length c43]) Tryd.func6 (by kernel_rfl) rfl (by kernel_rfl) rfl) (impl_QuoteAtom.calls k w39 H50 t37 A42 c43 h53 l49 (hL_.ext ((((E18.trans E22).trans E36).trans E48).trans E52)) S51.own0 t56 u57) ?_
  rintro _ w58 ⟨A61, c62, F64, H59, rfl, h63, T60⟩
  refine ⟨_, rfl, ?_⟩
  obtain ⟨S65, K66⟩ := St.call (Fa := []) (Fr := [F33]) S51 T60
  replace h32 := h32.move (K66.at 0 rfl)
  obtain ⟨H67, S68, E69, v70⟩ := St.thaw S46 z54 S65 T60.ext E52 T60.size
  replace h44 := h44.move v70
  replace h44 := h44.ext E69
  replace h32 := h32.ext E69
  replace h63 := Row.free (H' := H67) (free_scal _ _) h63
  refine lv (d := 5) rfl rfl (by kernel_rfl) (e_assign (v := .slice A61 t56.length c62) (by kernel_rfl)) ?_
  refine wpList_nil ?_
  refine then_n ?_
  refine wp_seq ?_
  refine wp_seq ?_
  refine wp_region_lit ?_
  refine lv (d := 20) rfl rfl (by kernel_rfl) (e_move (v := .slice A61 t56.length c62) (by kernel_rfl)) ?_
  refine lv (d := 21) rfl rfl (by kernel_rfl) (e_move (v := .slice A30 t25.length c31) (by kernel_rfl)) ?_
  obtain ⟨t71, u72, M⟩ := bnd M
  refine lcall (d := 22) rfl rfl (by kernel_rfl) (e_call (l := [.tmp 20, .tmp 21]) (vs := [.slice A61 t56.length c62, .slice A30 t25.length c31]) Tryd.func7 (by kernel_rfl) rfl (by kernel_rfl) rfl) (by have l73 := h63.le; have S74 := S68.pull (F := F64) (Fr := [F45, F33]) 1 rfl rfl; obtain ⟨H75, S76, E77, h78, z79⟩ := S74.frzRow h63; replace h44 := h44.ext E77; replace h32 := h32.ext E77; have l80 := h32.le; have S81 := S76.pull (F := F33) (Fr := [F45]) 1 rfl rfl; obtain ⟨H82, S83, E84, h85, z86⟩ := S81.frzRow h32; replace h44 := h44.ext E84; exact (laws_eqByteS.calls k w58 H82 t56 A61 c62 t25 A30 c31 (h78.ext E84) l73 h85 l80 S83.own0 t71 u72)) ?_
  rintro _ w87 ⟨rfl, C88⟩
  refine ⟨_, rfl, ?_⟩
  obtain ⟨S89, K90⟩ := S68.still C88
  replace h44 := h44.move (K90.at 0 rfl)
  replace h63 := h63.move (K90.at 1 rfl)
  replace h32 := h32.move (K90.at 2 rfl)
  refine lv (d := 23) rfl rfl (by kernel_rfl) (e_notv (c := t71) (by kernel_rfl)) ?_
  refine wpList_nil ?_
  refine then_n ?_
  by_cases q91 : ¬ (t71 = true)
  · replace M := ifp q91 M
    refine cond_t rfl (bt q91 (by kernel_rfl)) ?_
    refine wp_seq ?_
    refine wp_region_lit ?_
    refine lv (d := 2) rfl rfl (by kernel_rfl) (e_assign (v := .bool false) rfl) ?_
    refine wpList_nil ?_
    refine then_n ?_
    refine wp_ret ?_
    refine then_r ?_
    obtain rfl := Option.some.inj M
    exact ret1 rfl rfl  (show _ = .bool false from (by kernel_rfl)) ⟨rfl, S89.chg⟩
  replace M := ifn q91 M
  refine cond_f rfl (bf q91 (by kernel_rfl)) ?_
  refine wp_skip ?_
  refine then_n ?_
  refine wp_seq ?_
  refine wp_seq ?_
  refine wp_region_lit ?_
  refine lv (d := 24) rfl rfl (by kernel_rfl) (e_move (v := .slice A42 t37.length c43) (by kernel_rfl)) ?_
  refine lv (d := 25) rfl rfl (by kernel_rfl) (e_move (v := .slice A2 x1.length c3) (by kernel_rfl)) ?_
  obtain ⟨t92, u93, M⟩ := bnd M
  refine lcall (d := 26) rfl rfl (by kernel_rfl) (e_call (l := [.tmp 25]) (vs := [.slice A2 x1.length c3]) Tryd.func5 (by kernel_rfl) rfl (by kernel_rfl) rfl) (laws_toByteS.calls k w87 H67 x1 A2 c3 (h4.ext ((((E18.trans E22).trans E36).trans E48).trans E69)) l5 (St.own' (Fa := []) (Fr := [F45, F64, F33]) S89) t92 u93) ?_
  rintro _ w94 ⟨A97, c98, F100, H95, rfl, h99, T96⟩
  refine ⟨_, rfl, ?_⟩
  obtain ⟨S101, K102⟩ := St.call (Fa := []) (Fr := [F45, F64, F33]) S89 T96
  replace h44 := h44.move (K102.at 0 rfl)
  replace h63 := h63.move (K102.at 1 rfl)
  replace h32 := h32.move (K102.at 2 rfl)
  have E103 := T96.ext
  replace h44 := h44.ext E103
  replace h63 := h63.ext E103
  replace h32 := h32.ext E103
  obtain ⟨t104, u105, M⟩ := bnd M
  refine lcall (d := 27) rfl rfl (by kernel_rfl) (e_call (l := [.tmp 24, .tmp 26]) (vs := [.slice A42 t37.length c43, .slice A97 t92.length c98]) Tryd.func7 (by kernel_rfl) rfl (by kernel_rfl) rfl) (by have l106 := h44.le; have S107 := S101.pull (F := F45) (Fr := [F100, F64, F33]) 1 rfl rfl; obtain ⟨H108, S109, E110, h111, z112⟩ := S107.frzRow h44; replace h99 := h99.ext E110; replace h63 := h63.ext E110; replace h32 := h32.ext E110; have l113 := h99.le; obtain ⟨H114, S115, E116, h117, z118⟩ := S109.frzRow h99; replace h63 := h63.ext E116; replace h32 := h32.ext E116; exact (laws_eqByteS.calls k w94 H114 t37 A42 c43 t92 A97 c98 (h111.ext E116) l106 h117 l113 S115.own0 t104 u105)) ?_
  rintro _ w119 ⟨rfl, C120⟩
  refine ⟨_, rfl, ?_⟩
  obtain ⟨S121, K122⟩ := S101.still C120
  replace h99 := h99.move (K122.at 0 rfl)
  replace h44 := h44.move (K122.at 1 rfl)
  replace h63 := h63.move (K122.at 2 rfl)
  replace h32 := h32.move (K122.at 3 rfl)
  refine lv (d := 28) rfl rfl (by kernel_rfl) (e_notv (c := t104) (by kernel_rfl)) ?_
  refine wpList_nil ?_
  refine then_n ?_
  by_cases q123 : ¬ (t104 = true)
  · replace M := ifp q123 M
    refine cond_t rfl (bt q123 (by kernel_rfl)) ?_
    refine wp_seq ?_
    refine wp_region_lit ?_
    refine lv (d := 2) rfl rfl (by kernel_rfl) (e_assign (v := .bool false) rfl) ?_
    refine wpList_nil ?_
    refine then_n ?_
    refine wp_ret ?_
    refine then_r ?_
    obtain rfl := Option.some.inj M
    exact ret1 rfl rfl  (show _ = .bool false from (by kernel_rfl)) ⟨rfl, S121.chg⟩
  replace M := ifn q123 M
  refine cond_f rfl (bf q123 (by kernel_rfl)) ?_
  refine wp_skip ?_
  refine then_n ?_
  refine wp_seq ?_
  refine wp_region_lit ?_
  refine lv (d := 6) rfl rfl (by kernel_rfl) (e_assign (v := .int .i64 1) rfl) ?_
  refine wpList_nil ?_
  refine then_n ?_
  refine wp_seq ?_
  refine wp_region_lit ?_
  refine lv (d := 29) rfl rfl (by kernel_rfl) (e_move (v := .slice A42 t37.length c43) (by kernel_rfl)) ?_
  refine lv (d := 30) rfl rfl (by kernel_rfl) (e_move (v := .int .i64 1) (by kernel_rfl)) ?_
  have S124 := S121.pull (F := F45) (Fr := [F100, F64, F33]) 1 rfl rfl
  obtain ⟨t125, u126, M⟩ := bnd M
  refine lcall (d := 31) rfl rfl (by kernel_rfl) (e_call (l := [.tmp 29, .tmp 30]) (vs := [.slice A42 t37.length c43, .int .i64 1]) Tryd.func8 (by kernel_rfl) rfl (by kernel_rfl) rfl) (laws_markByteS_2.calls k w119 H95 t37 A42 c43 F45 1 h44 (St.own' (Fa := [F45]) (Fr := [F100, F64, F33]) S124) t125 u126) ?_
  rintro _ w127 ⟨F131, H128, rfl, n132, h130, T129⟩
  refine ⟨_, rfl, ?_⟩
  obtain ⟨S133, K134⟩ := St.call (Fa := [F45]) (Fr := [F100, F64, F33]) S124 T129
  replace h99 := h99.move (K134.at 0 rfl)
  replace h63 := h63.move (K134.at 1 rfl)
  replace h32 := h32.move (K134.at 2 rfl)
  have E135 := T129.ext
  replace h99 := h99.ext E135
  replace h63 := h63.ext E135
  replace h32 := h32.ext E135
  refine lv (d := 6) rfl rfl (by kernel_rfl) (e_assign (v := .int .i64 t125.1) (by kernel_rfl)) ?_
  refine wpList_nil ?_
  refine then_n ?_
  refine wp_seq ?_
  refine wp_seq ?_
  refine wp_region_lit ?_
  refine lv (d := 32) rfl rfl (by kernel_rfl) (e_move (v := .int .i64 t125.1) (by kernel_rfl)) ?_
  refine lv (d := 33) rfl rfl (by kernel_rfl) (e_lss (k := .i64) (a := t125.1) (b := 0) (by kernel_rfl) rfl) ?_
  refine lv (d := 34) rfl rfl (by kernel_rfl) (e_move (v := .bool (decide (t125.1 < 0))) (by kernel_rfl)) ?_
  by_cases q136 : t125.1 < 0
  · replace M := ifp q136 M
    refine lskip (t := 34) (c := true) rfl (by kernel_rfl) rfl (bt q136 (by kernel_rfl)) rfl rfl ?_
    refine lskip (t := 34) (c := true) rfl (by kernel_rfl) rfl (bt q136 (by kernel_rfl)) rfl rfl ?_
    refine lskip (t := 34) (c := true) rfl (by kernel_rfl) rfl (bt q136 (by kernel_rfl)) rfl rfl ?_
    refine lskip (t := 34) (c := true) rfl (by kernel_rfl) rfl (bt q136 (by kernel_rfl)) rfl rfl ?_
    refine lv (d := 39) rfl rfl (by kernel_rfl) (e_pick_t (v := .bool true) (bt q136 (by kernel_rfl)) rfl) ?_
    refine wpList_nil ?_
    refine then_n ?_
    refine cond_t rfl (by kernel_rfl) ?_
    refine wp_seq ?_
    refine wp_region_lit ?_
    refine lv (d := 2) rfl rfl (by kernel_rfl) (e_assign (v := .bool false) rfl) ?_
    refine wpList_nil ?_
    refine then_n ?_
    refine wp_ret ?_
    refine then_r ?_
    obtain rfl := Option.some.inj M
    exact ret1 rfl rfl  (show _ = .bool false from (by kernel_rfl)) ⟨rfl, S133.chg⟩
  replace M := ifn q136 M
  refine lvg (d := 35) (t := 34) rfl (by kernel_rfl) rfl (bf q136 (by kernel_rfl)) rfl (by kernel_rfl) (e_move (v := .slice A61 t56.length c62) (by kernel_rfl)) ?_
  refine lvg (d := 36) (t := 34) rfl (by kernel_rfl) rfl (bf q136 (by kernel_rfl)) rfl (by kernel_rfl) (e_move (v := .slice A30 t25.length c31) (by kernel_rfl)) ?_
  obtain ⟨t137, u138, M⟩ := bnd M
  refine lcallg (d := 37) (t := 34) rfl (by kernel_rfl) rfl (bf q136 (by kernel_rfl)) rfl (by kernel_rfl) (e_call (l := [.tmp 35, .tmp 36]) (vs := [.slice A61 t56.length c62, .slice A30 t25.length c31]) Tryd.func7 (by kernel_rfl) rfl (by kernel_rfl) rfl) (by have l139 := h63.le; have S140 := S133.pull (F := F64) (Fr := [F131, F100, F33]) 2 rfl rfl; obtain ⟨H141, S142, E143, h144, z145⟩ := S140.frzRow h63; replace h130 := h130.ext E143; replace h99 := h99.ext E143; replace h32 := h32.ext E143; have l146 := h32.le; have S147 := S142.pull (F := F33) (Fr := [F131, F100]) 2 rfl rfl; obtain ⟨H148, S149, E150, h151, z152⟩ := S147.frzRow h32; replace h130 := h130.ext E150; replace h99 := h99.ext E150; exact (laws_eqByteS.calls k w127 H148 t56 A61 c62 t25 A30 c31 (h144.ext E150) l139 h151 l146 S149.own0 t137 u138)) ?_
  rintro _ w153 ⟨rfl, C154⟩
  refine ⟨_, rfl, ?_⟩
  obtain ⟨S155, K156⟩ := S133.still C154
  replace h130 := h130.move (K156.at 0 rfl)
  replace h99 := h99.move (K156.at 1 rfl)
  replace h63 := h63.move (K156.at 2 rfl)
  replace h32 := h32.move (K156.at 3 rfl)
  refine lvg (d := 38) (t := 34) rfl (by kernel_rfl) rfl (bf q136 (by kernel_rfl)) rfl (by kernel_rfl) (e_notv (c := t137) (by kernel_rfl)) ?_
  refine lv (d := 39) rfl rfl (by kernel_rfl) (e_pick_f (v := .bool (decide (¬ (t137 = true)))) (bf q136 (by kernel_rfl)) (by kernel_rfl)) ?_
  refine wpList_nil ?_
  refine then_n ?_
  by_cases q157 : ¬ (t137 = true)
  · replace M := ifp q157 M
    refine cond_t rfl (bt q157 (by kernel_rfl)) ?_
    refine wp_seq ?_
    refine wp_region_lit ?_
    refine lv (d := 2) rfl rfl (by kernel_rfl) (e_assign (v := .bool false) rfl) ?_
    refine wpList_nil ?_
    refine then_n ?_
    refine wp_ret ?_
    refine then_r ?_
    obtain rfl := Option.some.inj M
    exact ret1 rfl rfl  (show _ = .bool false from (by kernel_rfl)) ⟨rfl, S155.chg⟩
  replace M := ifn q157 M
  refine cond_f rfl (bf q157 (by kernel_rfl)) ?_
  refine wp_skip ?_
  refine then_n ?_
  refine wp_seq ?_
  refine wp_region_lit ?_
  refine lv (d := 7) rfl rfl (by kernel_rfl) (e_assign (v := .int .i64 1) rfl) ?_
  refine wpList_nil ?_
  refine then_n ?_
  refine wp_seq ?_
  refine wp_region_lit ?_
  refine lv (d := 40) rfl rfl (by kernel_rfl) (e_move (v := .slice A61 t56.length c62) (by kernel_rfl)) ?_
  refine lv (d := 41) rfl rfl (by kernel_rfl) (e_move (v := .int .i64 1) (by kernel_rfl)) ?_
  have S158 := S155.pull (F := F64) (Fr := [F131, F100, F33]) 2 rfl rfl
  obtain ⟨t159, u160, M⟩ := bnd M
  refine lcall (d := 42) rfl rfl (by kernel_rfl) (e_call (l := [.tmp 40, .tmp 41]) (vs := [.slice A61 t56.length c62, .int .i64 1]) Tryd.func8 (by kernel_rfl) rfl (by kernel_rfl) rfl) (laws_markByteS_2.calls k w153 H128 t56 A61 c62 F64 1 h63 (St.own' (Fa := [F64]) (Fr := [F131, F100, F33]) S158) t159 u160) ?_
  rintro _ w161 ⟨F165, H162, rfl, n166, h164, T163⟩
  refine ⟨_, rfl, ?_⟩
  obtain ⟨S167, K168⟩ := St.call (Fa := [F64]) (Fr := [F131, F100, F33]) S158 T163
  replace h130 := h130.move (K168.at 0 rfl)
  replace h99 := h99.move (K168.at 1 rfl)
  replace h32 := h32.move (K168.at 2 rfl)
  have E169 := T163.ext
  replace h130 := h130.ext E169
  replace h99 := h99.ext E169
  replace h32 := h32.ext E169
  refine lv (d := 7) rfl rfl (by kernel_rfl) (e_assign (v := .int .i64 t159.1) (by kernel_rfl)) ?_
  refine wpList_nil ?_
  refine then_n ?_
  refine wp_seq ?_
  refine wp_region_lit ?_
  refine lv (d := 8) rfl rfl (by kernel_rfl) (e_assign (v := .int .i64 1) rfl) ?_
  refine wpList_nil ?_
  refine then_n ?_
  refine wp_seq ?_
  refine wp_region_lit ?_
  refine lv (d := 43) rfl rfl (by kernel_rfl) (e_move (v := .slice A61 t56.length c62) (by kernel_rfl)) ?_
  refine lv (d := 44) rfl rfl (by kernel_rfl) (e_move (v := .int .i64 1) (by kernel_rfl)) ?_
  obtain ⟨t170, u171, M⟩ := bnd M
  refine lcall (d := 45) rfl rfl (by kernel_rfl) (e_call (l := [.tmp 43, .tmp 44]) (vs := [.slice A61 t56.length c62, .int .i64 1]) Tryd.func9 (by kernel_rfl) rfl (by kernel_rfl) rfl) (by have l172 := h164.le; obtain ⟨H173, S174, E175, h176, z177⟩ := S167.frzRow h164; replace h130 := h130.ext E175; replace h99 := h99.ext E175; replace h32 := h32.ext E175; exact (by have q_ := (laws_heldByteS.calls k w161 H173 t159.2 A61 c62 1 h176 l172 S174.own0 t170 u171); rw [(show t159.2.length = t56.length from n166)] at q_; exact q_)) ?_
  rintro _ w178 ⟨rfl, C179⟩
  refine ⟨_, rfl, ?_⟩
  obtain ⟨S180, K181⟩ := S167.still C179
  replace h164 := h164.move (K181.at 0 rfl)
  replace h130 := h130.move (K181.at 1 rfl)
  replace h99 := h99.move (K181.at 2 rfl)
  replace h32 := h32.move (K181.at 3 rfl)
  refine lv (d := 8) rfl rfl (by kernel_rfl) (e_assign (v := .int .i64 t170) (by kernel_rfl)) ?_
  refine wpList_nil ?_
  refine then_n ?_
  refine wp_seq ?_
  refine wp_seq ?_
  refine wp_region_lit ?_
  refine lv (d := 46) rfl rfl (by kernel_rfl) (e_move (v := .int .i64 t170) (by kernel_rfl)) ?_
  refine lv (d := 47) rfl rfl (by kernel_rfl) (e_lss (k := .i64) (a := t170) (b := 0) (by kernel_rfl) rfl) ?_
  refine wpList_nil ?_
  refine then_n ?_
  by_cases q182 : t170 < 0
  · replace M := ifp q182 M
    refine cond_t rfl (bt q182 (by kernel_rfl)) ?_
    refine wp_seq ?_
    refine wp_region_lit ?_
    refine lv (d := 2) rfl rfl (by kernel_rfl) (e_assign (v := .bool false) rfl) ?_
    refine wpList_nil ?_
    refine then_n ?_
    refine wp_ret ?_
    refine then_r ?_
    obtain rfl := Option.some.inj M
    exact ret1 rfl rfl  (show _ = .bool false from (by kernel_rfl)) ⟨rfl, S180.chg⟩
  replace M := ifn q182 M
  refine cond_f rfl (bf q182 (by kernel_rfl)) ?_
  refine wp_skip ?_
  refine then_n ?_
  refine wp_seq ?_
  refine wp_seq ?_
  refine wp_region_lit ?_
  refine lv (d := 48) rfl rfl (by kernel_rfl) (e_move (v := .int .i64 t170) (by kernel_rfl)) ?_
  refine lv (d := 49) rfl rfl (by kernel_rfl) (e_move (v := .int .i64 t159.1) (by kernel_rfl)) ?_
  refine lv (d := 50) rfl rfl (by kernel_rfl) (e_neq (k := .i64) (a := t170) (b := t159.1) (by kernel_rfl) (by kernel_rfl)) ?_
  refine wpList_nil ?_
  refine then_n ?_
  by_cases q183 : t170 ≠ t159.1
  · replace M := ifp q183 M
    refine cond_t rfl (bt q183 (by kernel_rfl)) ?_
    refine wp_seq ?_
    refine wp_region_lit ?_
    refine lv (d := 2) rfl rfl (by kernel_rfl) (e_assign (v := .bool false) rfl) ?_
    refine wpList_nil ?_
    refine then_n ?_
    refine wp_ret ?_
    refine then_r ?_
    obtain rfl := Option.some.inj M
    exact ret1 rfl rfl  (show _ = .bool false from (by kernel_rfl)) ⟨rfl, S180.chg⟩
  replace M := ifn q183 M
  refine cond_f rfl (bf q183 (by kernel_rfl)) ?_
  refine wp_skip ?_
  refine then_n ?_
  refine wp_seq ?_
  refine wp_region_lit ?_
  refine lv (d := 51) rfl rfl (by kernel_rfl) (e_move (v := .slice A2 x1.length c3) (by kernel_rfl)) ?_
  obtain ⟨t184, u185, M⟩ := bnd M
  refine lcall (d := 52) rfl rfl (by kernel_rfl) (e_call (l := [.tmp 51]) (vs := [.slice A2 x1.length c3]) Tryd.func5 (by kernel_rfl) rfl (by kernel_rfl) rfl) (laws_toByteS.calls k w178 H162 x1 A2 c3 (h4.ext (((((((E18.trans E22).trans E36).trans E48).trans E69).trans E103).trans E135).trans E169)) l5 (St.own' (Fa := []) (Fr := [F165, F131, F100, F33]) S180) t184 u185) ?_
  rintro _ w186 ⟨A189, c190, F192, H187, rfl, h191, T188⟩
  refine ⟨_, rfl, ?_⟩
  obtain ⟨S193, K194⟩ := St.call (Fa := []) (Fr := [F165, F131, F100, F33]) S180 T188
  replace h164 := h164.move (K194.at 0 rfl)
  replace h130 := h130.move (K194.at 1 rfl)
  replace h99 := h99.move (K194.at 2 rfl)
  replace h32 := h32.move (K194.at 3 rfl)
  have E195 := T188.ext
  replace h164 := h164.ext E195
  replace h130 := h130.ext E195
  replace h99 := h99.ext E195
  replace h32 := h32.ext E195
  have l196 := h191.le
  obtain ⟨H197, S198, E199, h200, z201⟩ := S193.frzRow h191
  replace h164 := h164.ext E199
  replace h130 := h130.ext E199
  replace h99 := h99.ext E199
  replace h32 := h32.ext E199
  obtain ⟨t202, u203, M⟩ := bnd M
  refine lcall (d := 53) rfl rfl (by kernel_rfl) (e_call (l := [.tmp 52]) (vs := [.slice A189 t184.length c190]) Tryd.func6 (by kernel_rfl) rfl (by kernel_rfl) rfl) (impl_QuoteAtom.calls k w186 H197 t184 A189 c190 h200 l196 (hL_.ext (((((((((E18.trans E22).trans E36).trans E48).trans E69).trans E103).trans E135).trans E169).trans E195).trans E199)) (St.own' (Fa := []) (Fr := [F165, F131, F100, F33]) S198) t202 u203) ?_
  rintro _ w204 ⟨A207, c208, F210, H205, rfl, h209, T206⟩
  refine ⟨_, rfl, ?_⟩
  obtain ⟨S211, K212⟩ := St.call (Fa := []) (Fr := [F165, F131, F100, F33]) S198 T206
  replace h164 := h164.move (K212.at 0 rfl)
  replace h130 := h130.move (K212.at 1 rfl)
  replace h99 := h99.move (K212.at 2 rfl)
  replace h32 := h32.move (K212.at 3 rfl)
  have E213 := T206.ext
  replace h164 := h164.ext E213
  replace h130 := h130.ext E213
  replace h99 := h99.ext E213
  replace h32 := h32.ext E213
  refine lv (d := 9) rfl rfl (by kernel_rfl) (e_assign (v := .slice A207 t202.length c208) (by kernel_rfl)) ?_
  refine wpList_nil ?_
  refine then_n ?_
  refine wp_seq ?_
  refine wp_seq ?_
  refine wp_region_lit ?_
  refine lv (d := 54) rfl rfl (by kernel_rfl) (e_move (v := .slice A207 t202.length c208) (by kernel_rfl)) ?_
  refine lv (d := 55) rfl rfl (by kernel_rfl) (e_move (v := .slice A30 t25.length c31) (by kernel_rfl)) ?_
  obtain ⟨t214, u215, M⟩ := bnd M
  refine lcall (d := 56) rfl rfl (by kernel_rfl) (e_call (l := [.tmp 54, .tmp 55]) (vs := [.slice A207 t202.length c208, .slice A30 t25.length c31]) Tryd.func7 (by kernel_rfl) rfl (by kernel_rfl) rfl) (by have l216 := h209.le; obtain ⟨H217, S218, E219, h220, z221⟩ := S211.frzRow h209; replace h164 := h164.ext E219; replace h130 := h130.ext E219; replace h99 := h99.ext E219; replace h32 := h32.ext E219; have l222 := h32.le; have S223 := S218.pull (F := F33) (Fr := [F165, F131, F100]) 3 rfl rfl; obtain ⟨H224, S225, E226, h227, z228⟩ := S223.frzRow h32; replace h164 := h164.ext E226; replace h130 := h130.ext E226; replace h99 := h99.ext E226; exact (laws_eqByteS.calls k w204 H224 t202 A207 c208 t25 A30 c31 (h220.ext E226) l216 h227 l222 S225.own0 t214 u215)) ?_
  rintro _ w229 ⟨rfl, C230⟩
  refine ⟨_, rfl, ?_⟩
  obtain ⟨S231, K232⟩ := S211.still C230
  replace h209 := h209.move (K232.at 0 rfl)
  replace h164 := h164.move (K232.at 1 rfl)
  replace h130 := h130.move (K232.at 2 rfl)
  replace h99 := h99.move (K232.at 3 rfl)
  replace h32 := h32.move (K232.at 4 rfl)
  refine lv (d := 57) rfl rfl (by kernel_rfl) (e_notv (c := t214) (by kernel_rfl)) ?_
  refine wpList_nil ?_
  refine then_n ?_
  by_cases q233 : ¬ (t214 = true)
  · replace M := ifp q233 M
    refine cond_t rfl (bt q233 (by kernel_rfl)) ?_
    refine wp_seq ?_
    refine wp_region_lit ?_
    refine lv (d := 2) rfl rfl (by kernel_rfl) (e_assign (v := .bool false) rfl) ?_
    refine wpList_nil ?_
    refine then_n ?_
    refine wp_ret ?_
    refine then_r ?_
    obtain rfl := Option.some.inj M
    exact ret1 rfl rfl  (show _ = .bool false from (by kernel_rfl)) ⟨rfl, S231.chg⟩
  replace M := ifn q233 M
  refine cond_f rfl (bf q233 (by kernel_rfl)) ?_
  refine wp_skip ?_
  refine then_n ?_
  refine wp_seq ?_
  refine wp_region_lit ?_
  refine lv (d := 8) rfl rfl (by kernel_rfl) (e_assign (v := .int .i64 1) rfl) ?_
  refine wpList_nil ?_
  refine then_n ?_
  refine wp_seq ?_
  refine wp_region_lit ?_
  refine lv (d := 58) rfl rfl (by kernel_rfl) (e_move (v := .slice A61 t56.length c62) (by kernel_rfl)) ?_
  refine lv (d := 59) rfl rfl (by kernel_rfl) (e_move (v := .int .i64 1) (by kernel_rfl)) ?_
  obtain ⟨t234, u235, M⟩ := bnd M
  refine lcall (d := 60) rfl rfl (by kernel_rfl) (e_call (l := [.tmp 58, .tmp 59]) (vs := [.slice A61 t56.length c62, .int .i64 1]) Tryd.func9 (by kernel_rfl) rfl (by kernel_rfl) rfl) (by have l236 := h164.le; have S237 := S231.pull (F := F165) (Fr := [F210, F131, F100, F33]) 1 rfl rfl; obtain ⟨H238, S239, E240, h241, z242⟩ := S237.frzRow h164; replace h209 := h209.ext E240; replace h130 := h130.ext E240; replace h99 := h99.ext E240; replace h32 := h32.ext E240; exact (by have q_ := (laws_heldByteS.calls k w229 H238 t159.2 A61 c62 1 h241 l236 S239.own0 t234 u235); rw [(show t159.2.length = t56.length from n166)] at q_; exact q_)) ?_
  rintro _ w243 ⟨rfl, C244⟩
  refine ⟨_, rfl, ?_⟩
  obtain ⟨S245, K246⟩ := S231.still C244
  replace h209 := h209.move (K246.at 0 rfl)
  replace h164 := h164.move (K246.at 1 rfl)
  replace h130 := h130.move (K246.at 2 rfl)
  replace h99 := h99.move (K246.at 3 rfl)
  replace h32 := h32.move (K246.at 4 rfl)
  refine lv (d := 8) rfl rfl (by kernel_rfl) (e_assign (v := .int .i64 t234) (by kernel_rfl)) ?_
  refine wpList_nil ?_
  refine then_n ?_
  refine wp_seq ?_
  refine wp_seq ?_
  refine wp_region_lit ?_
  refine lv (d := 61) rfl rfl (by kernel_rfl) (e_move (v := .int .i64 t234) (by kernel_rfl)) ?_
  refine lv (d := 62) rfl rfl (by kernel_rfl) (e_lss (k := .i64) (a := t234) (b := 0) (by kernel_rfl) rfl) ?_
  refine wpList_nil ?_
  refine then_n ?_
  by_cases q247 : t234 < 0
  · replace M := ifp q247 M
    refine cond_t rfl (bt q247 (by kernel_rfl)) ?_
    refine wp_seq ?_
    refine wp_region_lit ?_
    refine lv (d := 2) rfl rfl (by kernel_rfl) (e_assign (v := .bool false) rfl) ?_
    refine wpList_nil ?_
    refine then_n ?_
    refine wp_ret ?_
    refine then_r ?_
    obtain rfl := Option.some.inj M
    exact ret1 rfl rfl  (show _ = .bool false from (by kernel_rfl)) ⟨rfl, S245.chg⟩
  replace M := ifn q247 M
  refine cond_f rfl (bf q247 (by kernel_rfl)) ?_
  refine wp_skip ?_
  refine then_n ?_
  refine wp_seq ?_
  refine wp_seq ?_
  refine wp_region_lit ?_
  refine lv (d := 63) rfl rfl (by kernel_rfl) (e_move (v := .int .i64 t234) (by kernel_rfl)) ?_
  refine lv (d := 64) rfl rfl (by kernel_rfl) (e_move (v := .int .i64 t159.1) (by kernel_rfl)) ?_
  refine lv (d := 65) rfl rfl (by kernel_rfl) (e_neq (k := .i64) (a := t234) (b := t159.1) (by kernel_rfl) (by kernel_rfl)) ?_
  refine wpList_nil ?_
  refine then_n ?_
  by_cases q248 : t234 ≠ t159.1
  · replace M := ifp q248 M
    refine cond_t rfl (bt q248 (by kernel_rfl)) ?_
    refine wp_seq ?_
    refine wp_region_lit ?_
    refine lv (d := 2) rfl rfl (by kernel_rfl) (e_assign (v := .bool false) rfl) ?_
    refine wpList_nil ?_
    refine then_n ?_
    refine wp_ret ?_
    refine then_r ?_
    obtain rfl := Option.some.inj M
    exact ret1 rfl rfl  (show _ = .bool false from (by kernel_rfl)) ⟨rfl, S245.chg⟩
  replace M := ifn q248 M
  refine cond_f rfl (bf q248 (by kernel_rfl)) ?_
  refine wp_skip ?_
  refine then_n ?_
  refine wp_seq ?_
  refine wp_region_lit ?_
  refine lv (d := 2) rfl rfl (by kernel_rfl) (e_assign (v := .bool true) rfl) ?_
  refine wpList_nil ?_
  refine then_n ?_
  refine wp_ret ?_
  obtain rfl := Option.some.inj M
  exact ret1 rfl rfl  (show _ = .bool true from (by kernel_rfl)) ⟨rfl, S245.chg⟩
end Go.Proofs.YtdkbfcmekppnmaaDoor
