import Derived.Test.YtminnekeekhjcaaWkFo2
namespace Go.Proofs.Ytminnekeekhjcaa
open Go.Sx Go.Sy
attribute [local irreducible] Go.wpList Go.wpStill Go.wpQuiet Go.Code.wp
set_option maxRecDepth 100000
set_option maxHeartbeats 1000000
set_option linter.unusedVariables false
set_option linter.unusedSimpArgs false

/-! laws_FnOps -/
def laws_FnOps.f (k : Nat) (x1 : List UInt8) : Option Bool := (if (x1.length : Int) > 1048576 then some true else ((spec_DrawAddOp.f k x1).bind fun t7 => ((spec_AddOp.f k t7.1 t7.2.1 t7.2.2.1 t7.2.2.2).bind fun t35 => ((spec_DrawAddOp.f k x1).bind fun t47 => ((impl_AddOp.f k t47.1 t7.2.1 t7.2.2.1 t47.2.2.2).bind fun t78 => (if t78.2 ≠ t35.2 then some false else ((laws_sameOps.f k t78.1 t35.1).bind fun t98 => (if ¬ (t98 = true) then some false else ((impl_DefaultOps.f k ).bind fun t119 => ((impl_ValidOps.f k t119).bind fun t131 => (if ¬ (t131 = true) then some false else (if t35.2 ≠ 0 then some true else ((impl_AddOp.f k t78.1 t7.2.1 t7.2.2.1 t47.2.2.2).bind fun t166 => ((impl_AddOp.f k t78.1 0 t7.2.2.1 t47.2.2.2).bind fun t206 => ((impl_AddOp.f k t47.1 0 t7.2.2.1 t47.2.2.2).bind fun t239 => ((impl_ValidOps.f k t78.1).bind fun t251 => (if t251 = true then (if t166.2 = 0 then (if t206.2 = 0 then (if t239.2 = 0 then ((laws_sameOps.f k t166.1 t78.1).bind fun t268 => (if t268 = true then ((laws_sameOps.f k t206.1 t239.1).bind fun t289 => some t289) else some false)) else some false) else some false) else some false) else some false)))))))))))))))))
theorem laws_FnOps.calls (k : Nat) (w : World) (H : Hp) (x1 : List UInt8) (A2 : Option Addr) (c3 : Nat) (h4 : Rd tByte H A2 x1) (l5 : x1.length ≤ c3) (S : Own [] H w) (r : Bool) (M : laws_FnOps.f k x1 = some r) :
    Calls Try.prog 6 #[.slice A2 x1.length c3] w (fun e e_w => e = .returned (.bool r) ∧ Chg no w e_w) := by
  rw [laws_FnOps.f] at M
  refine enter (l := [.slice A2 x1.length c3]) 116 Try.func6 rfl rfl rfl ?_
  have S0_ := S.st
  refine wp_seq (wR (lV 2 (eA (.bool false)) (wN (then_n (wp_seq (wp_seq (wR ?_)))))))
  refine lV 21 (eM (.slice A2 x1.length c3)) (lV 22 (e_len (A := A2) (n := x1.length) (c := c3) Try.underlying32 (by kernel_rfl)) (lV 23 (e_gtr (k := .i64) (a := (x1.length : Int)) (b := 1048576) (by kernel_rfl) rfl) (wN (then_n ?_))))
  by_cases q6 : (x1.length : Int) > 1048576
  · replace M := ifp q6 M
    refine cT (bT q6) (wp_seq (wR (lV 2 (eA (.bool true)) (wN (then_n (wp_ret (then_r ?_)))))))
    obtain rfl := Option.some.inj M
    exact ret1 rfl rfl  (show _ = .bool true from (by kernel_rfl)) ⟨rfl, S0_.chg⟩
  replace M := ifn q6 M
  refine cF (bF q6) (wp_skip (then_n (wp_seq (wR (lV 25 (eM (.slice A2 x1.length c3)) ?_)))))
  obtain ⟨t7, u8, M⟩ := bnd M
  refine lC 26 (eC [.tmp 25] [.slice A2 x1.length c3] Try.func21) (spec_DrawAddOp.calls k w H x1 A2 c3 h4 l5 (St.own' (Fa := []) (Fr := []) S0_) t7 u8) ?_
  rintro _ w9 ⟨A12, c13, F15, A16, c17, F19, H10, rfl, h14, h18, T11⟩
  refine ⟨_, rfl, ?_⟩
  obtain ⟨S20, K21⟩ := St.call (Fa := []) (Fr := []) S0_ T11
  have E22 := T11.ext
  refine lV 24 (eM (.tuple #[.slice A12 t7.1.length c13, .int .i64 t7.2.1, .int .i64 t7.2.2.1, .slice A16 t7.2.2.2.length c17])) (lV 27 (e_extract (vs := #[.slice A12 t7.1.length c13, .int .i64 t7.2.1, .int .i64 t7.2.2.1, .slice A16 t7.2.2.2.length c17]) (v := .slice A12 t7.1.length c13) (by kernel_rfl) rfl) (lV 28 (e_extract (vs := #[.slice A12 t7.1.length c13, .int .i64 t7.2.1, .int .i64 t7.2.2.1, .slice A16 t7.2.2.2.length c17]) (v := .int .i64 t7.2.1) (by kernel_rfl) rfl) (lV 29 (e_extract (vs := #[.slice A12 t7.1.length c13, .int .i64 t7.2.1, .int .i64 t7.2.2.1, .slice A16 t7.2.2.2.length c17]) (v := .int .i64 t7.2.2.1) (by kernel_rfl) rfl) (lV 30 (e_extract (vs := #[.slice A12 t7.1.length c13, .int .i64 t7.2.1, .int .i64 t7.2.2.1, .slice A16 t7.2.2.2.length c17]) (v := .slice A16 t7.2.2.2.length c17) (by kernel_rfl) rfl) (lV 3 (eA (.slice A12 t7.1.length c13)) (lV 4 (eA (.int .i64 t7.2.1)) (lV 5 (eA (.int .i64 t7.2.2.1)) ?_)))))))
  refine lV 6 (eA (.slice A16 t7.2.2.2.length c17)) (wN (then_n (wp_seq (wR (lV 32 (eM (.slice A12 t7.1.length c13)) (lV 33 (eM (.int .i64 t7.2.1)) (lV 34 (eM (.int .i64 t7.2.2.1)) ?_)))))))
  refine lV 35 (eM (.slice A16 t7.2.2.2.length c17)) ?_
  have l23 := h14.le
  obtain ⟨H24, S25, E26, h27, z28⟩ := S20.frzRow h14
  replace h18 := h18.ext E26
  replace h27 := h27.unro
  have l29 := h18.le
  obtain ⟨H30, S31, E32, h33, z34⟩ := S25.frzRow h18
  obtain ⟨t35, u36, M⟩ := bnd M
  refine lC 36 (eC [.tmp 32, .tmp 33, .tmp 34, .tmp 35] [.slice A12 t7.1.length c13, .int .i64 t7.2.1, .int .i64 t7.2.2.1, .slice A16 t7.2.2.2.length c17] Try.func16) (spec_AddOp.calls k w9 H30 t7.1 A12 c13 t7.2.1 t7.2.2.1 t7.2.2.2 A16 c17 (h27.ext E32) l23 h33 l29 (St.own' (Fa := []) (Fr := []) S31) t35 u36) ?_
  rintro _ w37 ⟨A40, c41, F43, H38, rfl, h42, T39⟩
  refine ⟨_, rfl, ?_⟩
  obtain ⟨S44, K45⟩ := St.call (Fa := []) (Fr := []) S31 T39
  have E46 := T39.ext
  refine lV 31 (eM (.tuple #[.slice A40 t35.1.length c41, .int .i64 t35.2])) (lV 37 (e_extract (vs := #[.slice A40 t35.1.length c41, .int .i64 t35.2]) (v := .slice A40 t35.1.length c41) (by kernel_rfl) rfl) (lV 38 (e_extract (vs := #[.slice A40 t35.1.length c41, .int .i64 t35.2]) (v := .int .i64 t35.2) (by kernel_rfl) rfl) (lV 7 (eA (.slice A40 t35.1.length c41)) (lV 8 (eA (.int .i64 t35.2)) (wN (then_n (wp_seq ?_)))))))
  refine wR (lV 40 (eM (.slice A2 x1.length c3)) ?_)
  obtain ⟨t47, u48, M⟩ := bnd M
  refine lC 41 (eC [.tmp 40] [.slice A2 x1.length c3] Try.func21) (spec_DrawAddOp.calls k w37 H38 x1 A2 c3 (h4.ext (((E22.trans E26).trans E32).trans E46)) l5 (St.own' (Fa := []) (Fr := [F43]) S44) t47 u48) ?_
  rintro _ w49 ⟨A52, c53, F55, A56, c57, F59, H50, rfl, h54, h58, T51⟩
  refine ⟨_, rfl, ?_⟩
  obtain ⟨S60, K61⟩ := St.call (Fa := []) (Fr := [F43]) S44 T51
  replace h42 := h42.move (K61.at 0 rfl)
  have E62 := T51.ext
  replace h42 := h42.ext E62
  refine lV 39 (eM (.tuple #[.slice A52 t47.1.length c53, .int .i64 t47.2.1, .int .i64 t47.2.2.1, .slice A56 t47.2.2.2.length c57])) (lV 42 (e_extract (vs := #[.slice A52 t47.1.length c53, .int .i64 t47.2.1, .int .i64 t47.2.2.1, .slice A56 t47.2.2.2.length c57]) (v := .slice A52 t47.1.length c53) (by kernel_rfl) rfl) (lV 43 (e_extract (vs := #[.slice A52 t47.1.length c53, .int .i64 t47.2.1, .int .i64 t47.2.2.1, .slice A56 t47.2.2.2.length c57]) (v := .int .i64 t47.2.1) (by kernel_rfl) rfl) (lV 44 (e_extract (vs := #[.slice A52 t47.1.length c53, .int .i64 t47.2.1, .int .i64 t47.2.2.1, .slice A56 t47.2.2.2.length c57]) (v := .int .i64 t47.2.2.1) (by kernel_rfl) rfl) (lV 45 (e_extract (vs := #[.slice A52 t47.1.length c53, .int .i64 t47.2.1, .int .i64 t47.2.2.1, .slice A56 t47.2.2.2.length c57]) (v := .slice A56 t47.2.2.2.length c57) (by kernel_rfl) rfl) (lV 9 (eA (.slice A52 t47.1.length c53)) (lV 10 (eA (.int .i64 t47.2.1)) (lV 11 (eA (.int .i64 t47.2.2.1)) ?_)))))))
  refine lV 12 (eA (.slice A56 t47.2.2.2.length c57)) (wN (then_n (wp_seq (wR (lV 47 (eM (.slice A52 t47.1.length c53)) (lV 48 (eM (.int .i64 t7.2.1)) (lV 49 (eM (.int .i64 t7.2.2.1)) ?_)))))))
  refine lV 50 (eM (.slice A56 t47.2.2.2.length c57)) ?_
  have l63 := h54.le
  obtain ⟨H64, S65, E66, h67, z68⟩ := S60.frzRow h54
  have h69 := h58.ext E66
  have h70 := h42.ext E66
  replace h67 := h67.unro
  have l71 := h69.le
  obtain ⟨H72, S73, E74, h75, z76⟩ := S65.frzRow h69
  have h77 := h70.ext E74
  obtain ⟨t78, u79, M⟩ := bnd M
  refine lC 51 (eC [.tmp 47, .tmp 48, .tmp 49, .tmp 50] [.slice A52 t47.1.length c53, .int .i64 t7.2.1, .int .i64 t7.2.2.1, .slice A56 t47.2.2.2.length c57] Try.func18) (impl_AddOp.calls k w49 H72 t47.1 A52 c53 t7.2.1 t7.2.2.1 t47.2.2.2 A56 c57 (h67.ext E74) l63 h75 l71 S73.own0 t78 u79) ?_
  rintro _ w80 ⟨A83, c84, F86, H81, rfl, h85, T82⟩
  refine ⟨_, rfl, ?_⟩
  obtain ⟨S87, K88⟩ := St.call (Fa := []) (Fr := [F43]) S73 T82
  replace h42 := h42.move (K88.at 0 rfl)
  obtain ⟨H89, S90, E91, v92⟩ := St.thaw S65 z76 S87 T82.ext E74 T82.size
  replace h58 := h58.move v92
  obtain ⟨H93, S94, E95, v96⟩ := St.thaw S60 z68 S90 E91 E66 T82.size
  replace h54 := h54.move v96
  replace h54 := h54.ext E95
  replace h58 := h58.ext E95
  replace h42 := h42.ext E95
  replace h85 := Row.free (H' := H93) (free_iso (free_pair (free_slice (free_scal _ _)) (free_pair (free_scal _ _) (free_scal _ _)))) h85
  refine lV 46 (eM (.tuple #[.slice A83 t78.1.length c84, .int .i64 t78.2])) (lV 52 (e_extract (vs := #[.slice A83 t78.1.length c84, .int .i64 t78.2]) (v := .slice A83 t78.1.length c84) (by kernel_rfl) rfl) (lV 53 (e_extract (vs := #[.slice A83 t78.1.length c84, .int .i64 t78.2]) (v := .int .i64 t78.2) (by kernel_rfl) rfl) (lV 13 (eA (.slice A83 t78.1.length c84)) (lV 14 (eA (.int .i64 t78.2)) (wN (then_n (wp_seq ?_)))))))
  refine wp_seq (wR (lV 54 (eM (.int .i64 t78.2)) (lV 55 (eM (.int .i64 t35.2)) (lV 56 (eNe .i64 t78.2 t35.2) (lV 57 (eM (.bool (decide (t78.2 ≠ t35.2)))) ?_)))))
  by_cases q97 : t78.2 ≠ t35.2
  · replace M := ifp q97 M
    refine lK 57 true (bT q97) ?_
    refine lK 57 true (bT q97) ?_
    refine lK 57 true (bT q97) ?_
    refine lK 57 true (bT q97) ?_
    refine lV 62 (eT (.bool true) (bT q97)) (lV 63 (eM (.bool true)) ?_)
    refine lJ 63 true ?_
    refine lJ 63 true ?_
    refine lJ 63 true ?_
    refine lV 67 (eT (.bool true)) (wN (then_n (cond_t rfl (by kernel_rfl) (wp_seq (wR (lV 2 (eA (.bool false)) (wN ?_)))))))
    refine then_n (wp_ret (then_r ?_))
    obtain rfl := Option.some.inj M
    exact ret1 rfl rfl  (show _ = .bool false from (by kernel_rfl)) ⟨rfl, S94.chg⟩
  replace M := ifn q97 M
  refine lG 58 57 (bF q97) (eM (.slice A83 t78.1.length c84)) (lG 59 57 (bF q97) (eM (.slice A40 t35.1.length c41)) ?_)
  obtain ⟨t98, u99, M⟩ := bnd M
  refine lcallg (d := 60) (t := 57) rfl (by kernel_rfl) rfl (bF q97) rfl (by kernel_rfl) (eC [.tmp 58, .tmp 59] [.slice A83 t78.1.length c84, .slice A40 t35.1.length c41] Try.func22) (by have l100 := h85.le; have S101 := S94.pull (F := F86) (Fr := [F55, F59, F43]) 2 rfl rfl; obtain ⟨H102, S103, E104, h105, z106⟩ := S101.frzRow h85; replace h54 := h54.ext E104; replace h58 := h58.ext E104; replace h42 := h42.ext E104; have l107 := h42.le; have S108 := S103.pull (F := F43) (Fr := [F55, F59]) 2 rfl rfl; obtain ⟨H109, S110, E111, h112, z113⟩ := S108.frzRow h42; replace h54 := h54.ext E111; replace h58 := h58.ext E111; exact (laws_sameOps.calls k w80 H109 t78.1 A83 c84 t35.1 A40 c41 (h105.ext E111) l100 h112 l107 S110.own0 t98 u99)) ?_
  rintro _ w114 ⟨rfl, C115⟩
  refine ⟨_, rfl, ?_⟩
  obtain ⟨S116, K117⟩ := S94.still C115
  replace h54 := h54.move (K117.at 0 rfl)
  replace h58 := h58.move (K117.at 1 rfl)
  replace h85 := h85.move (K117.at 2 rfl)
  replace h42 := h42.move (K117.at 3 rfl)
  refine lG 61 57 (bF q97) (e_notv (c := t98) (by kernel_rfl)) (lV 62 (eF (.bool (decide (¬ (t98 = true)))) (bF q97)) (lV 63 (eM (.bool (decide (¬ (t98 = true))))) ?_))
  by_cases q118 : ¬ (t98 = true)
  · replace M := ifp q118 M
    refine lK 63 true (bT q118) ?_
    refine lK 63 true (bT q118) ?_
    refine lK 63 true (bT q118) ?_
    refine lV 67 (eT (.bool true) (bT q118)) (wN (then_n (cond_t rfl (by kernel_rfl) (wp_seq (wR (lV 2 (eA (.bool false)) (wN ?_)))))))
    refine then_n (wp_ret (then_r ?_))
    obtain rfl := Option.some.inj M
    exact ret1 rfl rfl  (show _ = .bool false from (by kernel_rfl)) ⟨rfl, S116.chg⟩
  replace M := ifn q118 M
  obtain ⟨t119, u120, M⟩ := bnd M
  refine lcall_w (wanted_t (d := 63) rfl rfl (by kernel_rfl) (bF q118)) (by kernel_rfl) (eC [] [] Try.func13) (impl_DefaultOps.calls k w114 H93   (St.own' (Fa := []) (Fr := [F55, F59, F86, F43]) S116) t119 u120) ?_
  rintro _ w121 ⟨A124, c125, F127, H122, rfl, h126, T123⟩
  refine ⟨_, rfl, ?_⟩
  obtain ⟨S128, K129⟩ := St.call (Fa := []) (Fr := [F55, F59, F86, F43]) S116 T123
  replace h54 := h54.move (K129.at 0 rfl)
  replace h58 := h58.move (K129.at 1 rfl)
  replace h85 := h85.move (K129.at 2 rfl)
  replace h42 := h42.move (K129.at 3 rfl)
  have E130 := T123.ext
  replace h54 := h54.ext E130
  replace h58 := h58.ext E130
  replace h85 := h85.ext E130
  replace h42 := h42.ext E130
  obtain ⟨t131, u132, M⟩ := bnd M
  refine lcallg (d := 65) (t := 63) rfl (by kernel_rfl) rfl (bF q118) rfl (by kernel_rfl) (eC [.tmp 64] [.slice A124 t119.length c125] Try.func10) (by have l133 := h126.le; obtain ⟨H134, S135, E136, h137, z138⟩ := S128.frzRow h126; replace h54 := h54.ext E136; replace h58 := h58.ext E136; replace h85 := h85.ext E136; replace h42 := h42.ext E136; exact (impl_ValidOps.calls k w121 H134 t119 A124 c125 h137 l133 S135.own0 t131 u132)) ?_
  rintro _ w139 ⟨rfl, C140⟩
  refine ⟨_, rfl, ?_⟩
  obtain ⟨S141, K142⟩ := S128.still C140
  replace h126 := h126.move (K142.at 0 rfl)
  replace h54 := h54.move (K142.at 1 rfl)
  replace h58 := h58.move (K142.at 2 rfl)
  replace h85 := h85.move (K142.at 3 rfl)
  replace h42 := h42.move (K142.at 4 rfl)
  refine lG 66 63 (bF q118) (e_notv (c := t131) (by kernel_rfl)) (lV 67 (eF (.bool (decide (¬ (t131 = true)))) (bF q118)) (wN (then_n ?_)))
  by_cases q143 : ¬ (t131 = true)
  · replace M := ifp q143 M
    refine cT (bT q143) (wp_seq (wR (lV 2 (eA (.bool false)) (wN (then_n (wp_ret (then_r ?_)))))))
    obtain rfl := Option.some.inj M
    exact ret1 rfl rfl  (show _ = .bool false from (by kernel_rfl)) ⟨rfl, S141.chg⟩
  replace M := ifn q143 M
  refine cF (bF q143) (wp_skip (then_n (wp_seq (wp_seq (wR (lV 68 (eM (.int .i64 t35.2)) (lV 69 (eNe .i64 t35.2 0) ?_)))))))
  refine wN (then_n ?_)
  by_cases q144 : t35.2 ≠ 0
  · replace M := ifp q144 M
    refine cT (bT q144) (wp_seq (wR (lV 2 (eA (.bool true)) (wN (then_n (wp_ret (then_r ?_)))))))
    obtain rfl := Option.some.inj M
    exact ret1 rfl rfl  (show _ = .bool true from (by kernel_rfl)) ⟨rfl, S141.chg⟩
  replace M := ifn q144 M
  refine cF (bF q144) (wp_skip (then_n (wp_seq (wR (lV 71 (eM (.slice A83 t78.1.length c84)) (lV 72 (eM (.int .i64 t7.2.1)) (lV 73 (eM (.int .i64 t7.2.2.1)) ?_)))))))
  refine lV 74 (eM (.slice A56 t47.2.2.2.length c57)) ?_
  have S145 := S141.pulls [F86, F127, F55, F59, F43] [3] rfl
  have l146 := h85.le
  obtain ⟨H147, S148, E149, h150, z151⟩ := S145.frzRow h85
  have h152 := h126.ext E149
  have h153 := h54.ext E149
  have h154 := h58.ext E149
  have h155 := h42.ext E149
  have S156 := S148.pulls [F59, F127, F55, F43] [2] rfl
  have l157 := h154.le
  obtain ⟨H158, S159, E160, h161, z162⟩ := S156.frzRow h154
  have h163 := h152.ext E160
  have h164 := h153.ext E160
  have h165 := h155.ext E160
  obtain ⟨t166, u167, M⟩ := bnd M
  refine lC 75 (eC [.tmp 71, .tmp 72, .tmp 73, .tmp 74] [.slice A83 t78.1.length c84, .int .i64 t7.2.1, .int .i64 t7.2.2.1, .slice A56 t47.2.2.2.length c57] Try.func18) (impl_AddOp.calls k w139 H158 t78.1 A83 c84 t7.2.1 t7.2.2.1 t47.2.2.2 A56 c57 (h150.ext E160) l146 h161 l157 S159.own0 t166 u167) ?_
  rintro _ w168 ⟨A171, c172, F174, H169, rfl, h173, T170⟩
  refine ⟨_, rfl, ?_⟩
  obtain ⟨S175, K176⟩ := St.call (Fa := []) (Fr := [F127, F55, F43]) S159 T170
  replace h126 := h126.move (K176.at 0 rfl)
  replace h54 := h54.move (K176.at 1 rfl)
  replace h42 := h42.move (K176.at 2 rfl)
  obtain ⟨H177, S178, E179, v180⟩ := St.thaw S156 z162 S175 T170.ext E160 T170.size
  replace h58 := h58.move v180
  obtain ⟨H181, S182, E183, v184⟩ := St.thaw S145 z151 S178 E179 E149 T170.size
  replace h85 := h85.move v184
  replace h85 := h85.ext E183
  replace h58 := h58.ext E183
  replace h126 := h126.ext E183
  replace h54 := h54.ext E183
  replace h42 := h42.ext E183
  replace h173 := Row.free (H' := H181) (free_iso (free_pair (free_slice (free_scal _ _)) (free_pair (free_scal _ _) (free_scal _ _)))) h173
  refine lV 70 (eM (.tuple #[.slice A171 t166.1.length c172, .int .i64 t166.2])) (lV 76 (e_extract (vs := #[.slice A171 t166.1.length c172, .int .i64 t166.2]) (v := .slice A171 t166.1.length c172) (by kernel_rfl) rfl) (lV 77 (e_extract (vs := #[.slice A171 t166.1.length c172, .int .i64 t166.2]) (v := .int .i64 t166.2) (by kernel_rfl) rfl) (lV 15 (eA (.slice A171 t166.1.length c172)) (lV 16 (eA (.int .i64 t166.2)) (wN (then_n (wp_seq ?_)))))))
  refine wR (lV 79 (eM (.slice A83 t78.1.length c84)) (lV 80 (eM (.int .i64 t7.2.2.1)) (lV 81 (eM (.slice A56 t47.2.2.2.length c57)) ?_)))
  have l185 := h85.le
  obtain ⟨H186, S187, E188, h189, z190⟩ := S182.frzRow h85
  have h191 := h58.ext E188
  have h192 := h173.ext E188
  have h193 := h126.ext E188
  have h194 := h54.ext E188
  have h195 := h42.ext E188
  have l196 := h191.le
  obtain ⟨H197, S198, E199, h200, z201⟩ := S187.frzRow h191
  have h202 := h192.ext E199
  have h203 := h193.ext E199
  have h204 := h194.ext E199
  have h205 := h195.ext E199
  obtain ⟨t206, u207, M⟩ := bnd M
  refine lC 82 (eC [.tmp 79, .const (.int .i64 0), .tmp 80, .tmp 81] [.slice A83 t78.1.length c84, .int .i64 0, .int .i64 t7.2.2.1, .slice A56 t47.2.2.2.length c57] Try.func18) (impl_AddOp.calls k w168 H197 t78.1 A83 c84 0 t7.2.2.1 t47.2.2.2 A56 c57 (h189.ext E199) l185 h200 l196 S198.own0 t206 u207) ?_
  rintro _ w208 ⟨A211, c212, F214, H209, rfl, h213, T210⟩
  refine ⟨_, rfl, ?_⟩
  obtain ⟨S215, K216⟩ := St.call (Fa := []) (Fr := [F174, F127, F55, F43]) S198 T210
  replace h173 := h173.move (K216.at 0 rfl)
  replace h126 := h126.move (K216.at 1 rfl)
  replace h54 := h54.move (K216.at 2 rfl)
  replace h42 := h42.move (K216.at 3 rfl)
  obtain ⟨H217, S218, E219, v220⟩ := St.thaw S187 z201 S215 T210.ext E199 T210.size
  replace h58 := h58.move v220
  obtain ⟨H221, S222, E223, v224⟩ := St.thaw S182 z190 S218 E219 E188 T210.size
  replace h85 := h85.move v224
  replace h85 := h85.ext E223
  replace h58 := h58.ext E223
  replace h173 := h173.ext E223
  replace h126 := h126.ext E223
  replace h54 := h54.ext E223
  replace h42 := h42.ext E223
  replace h213 := Row.free (H' := H221) (free_iso (free_pair (free_slice (free_scal _ _)) (free_pair (free_scal _ _) (free_scal _ _)))) h213
  refine lV 78 (eM (.tuple #[.slice A211 t206.1.length c212, .int .i64 t206.2])) (lV 83 (e_extract (vs := #[.slice A211 t206.1.length c212, .int .i64 t206.2]) (v := .slice A211 t206.1.length c212) (by kernel_rfl) rfl) (lV 84 (e_extract (vs := #[.slice A211 t206.1.length c212, .int .i64 t206.2]) (v := .int .i64 t206.2) (by kernel_rfl) rfl) (lV 17 (eA (.slice A211 t206.1.length c212)) (lV 18 (eA (.int .i64 t206.2)) (wN (then_n (wp_seq ?_)))))))
  refine wR (lV 86 (eM (.slice A52 t47.1.length c53)) (lV 87 (eM (.int .i64 t7.2.2.1)) (lV 88 (eM (.slice A56 t47.2.2.2.length c57)) ?_)))
  have l225 := h54.le
  have S226 := S222.pulls [F55, F86, F59, F214, F174, F127, F43] [5] rfl
  obtain ⟨H227, S228, E229, h230, z231⟩ := S226.frzRow h54
  replace h85 := h85.ext E229
  replace h58 := h58.ext E229
  replace h213 := h213.ext E229
  replace h173 := h173.ext E229
  replace h126 := h126.ext E229
  replace h42 := h42.ext E229
  replace h230 := h230.unro
  have l232 := h58.le
  have S233 := S228.pulls [F59, F86, F214, F174, F127, F43] [1] rfl
  obtain ⟨H234, S235, E236, h237, z238⟩ := S233.frzRow h58
  replace h85 := h85.ext E236
  replace h213 := h213.ext E236
  replace h173 := h173.ext E236
  replace h126 := h126.ext E236
  replace h42 := h42.ext E236
  obtain ⟨t239, u240, M⟩ := bnd M
  refine lC 89 (eC [.tmp 86, .const (.int .i64 0), .tmp 87, .tmp 88] [.slice A52 t47.1.length c53, .int .i64 0, .int .i64 t7.2.2.1, .slice A56 t47.2.2.2.length c57] Try.func18) (impl_AddOp.calls k w208 H234 t47.1 A52 c53 0 t7.2.2.1 t47.2.2.2 A56 c57 (h230.ext E236) l225 h237 l232 (St.own' (Fa := []) (Fr := [F86, F214, F174, F127, F43]) S235) t239 u240) ?_
  rintro _ w241 ⟨A244, c245, F247, H242, rfl, h246, T243⟩
  refine ⟨_, rfl, ?_⟩
  obtain ⟨S248, K249⟩ := St.call (Fa := []) (Fr := [F86, F214, F174, F127, F43]) S235 T243
  replace h85 := h85.move (K249.at 0 rfl)
  replace h213 := h213.move (K249.at 1 rfl)
  replace h173 := h173.move (K249.at 2 rfl)
  replace h126 := h126.move (K249.at 3 rfl)
  replace h42 := h42.move (K249.at 4 rfl)
  have E250 := T243.ext
  replace h85 := h85.ext E250
  replace h213 := h213.ext E250
  replace h173 := h173.ext E250
  replace h126 := h126.ext E250
  replace h42 := h42.ext E250
  refine lV 85 (eM (.tuple #[.slice A244 t239.1.length c245, .int .i64 t239.2])) (lV 90 (e_extract (vs := #[.slice A244 t239.1.length c245, .int .i64 t239.2]) (v := .slice A244 t239.1.length c245) (by kernel_rfl) rfl) (lV 91 (e_extract (vs := #[.slice A244 t239.1.length c245, .int .i64 t239.2]) (v := .int .i64 t239.2) (by kernel_rfl) rfl) (lV 19 (eA (.slice A244 t239.1.length c245)) (lV 20 (eA (.int .i64 t239.2)) (wN (then_n (wp_seq ?_)))))))
  refine wR (lV 92 (eM (.slice A83 t78.1.length c84)) ?_)
  obtain ⟨t251, u252, M⟩ := bnd M
  refine lC 93 (eC [.tmp 92] [.slice A83 t78.1.length c84] Try.func10) (by have l253 := h85.le; have S254 := S248.pull (F := F86) (Fr := [F247, F214, F174, F127, F43]) 1 rfl rfl; obtain ⟨H255, S256, E257, h258, z259⟩ := S254.frzRow h85; replace h246 := h246.ext E257; replace h213 := h213.ext E257; replace h173 := h173.ext E257; replace h126 := h126.ext E257; replace h42 := h42.ext E257; exact (impl_ValidOps.calls k w241 H255 t78.1 A83 c84 h258 l253 S256.own0 t251 u252)) ?_
  rintro _ w260 ⟨rfl, C261⟩
  refine ⟨_, rfl, ?_⟩
  obtain ⟨S262, K263⟩ := S248.still C261
  replace h246 := h246.move (K263.at 0 rfl)
  replace h85 := h85.move (K263.at 1 rfl)
  replace h213 := h213.move (K263.at 2 rfl)
  replace h173 := h173.move (K263.at 3 rfl)
  replace h126 := h126.move (K263.at 4 rfl)
  replace h42 := h42.move (K263.at 5 rfl)
  refine lV 94 (eM (.bool t251)) ?_
  by_cases q264 : t251 = true
  · replace M := ifp q264 M
    refine lG 95 94 (bvt q264 (by kernel_rfl)) (eM (.int .i64 t166.2)) (lG 96 94 (bvt q264 (by kernel_rfl)) (eEq .i64 t166.2 0) (lV 97 (eT (.bool (decide (t166.2 = 0))) (bvt q264 (by kernel_rfl))) (lV 98 (eM (.bool (decide (t166.2 = 0)))) ?_)))
    by_cases q265 : t166.2 = 0
    · replace M := ifp q265 M
      refine lG 99 98 (bT q265) (eM (.int .i64 t206.2)) (lG 100 98 (bT q265) (eEq .i64 t206.2 0) (lV 101 (eT (.bool (decide (t206.2 = 0))) (bT q265)) (lV 102 (eM (.bool (decide (t206.2 = 0)))) ?_)))
      by_cases q266 : t206.2 = 0
      · replace M := ifp q266 M
        refine lG 103 102 (bT q266) (eM (.int .i64 t239.2)) (lG 104 102 (bT q266) (eEq .i64 t239.2 0) (lV 105 (eT (.bool (decide (t239.2 = 0))) (bT q266)) (lV 106 (eM (.bool (decide (t239.2 = 0)))) ?_)))
        by_cases q267 : t239.2 = 0
        · replace M := ifp q267 M
          refine lG 107 106 (bT q267) (eM (.slice A171 t166.1.length c172)) (lG 108 106 (bT q267) (eM (.slice A83 t78.1.length c84)) ?_)
          obtain ⟨t268, u269, M⟩ := bnd M
          refine lcallg (d := 109) (t := 106) rfl (by kernel_rfl) rfl (bT q267) rfl (by kernel_rfl) (eC [.tmp 107, .tmp 108] [.slice A171 t166.1.length c172, .slice A83 t78.1.length c84] Try.func22) (by have l270 := h173.le; have S271 := S262.pull (F := F174) (Fr := [F247, F86, F214, F127, F43]) 3 rfl rfl; obtain ⟨H272, S273, E274, h275, z276⟩ := S271.frzRow h173; replace h246 := h246.ext E274; replace h85 := h85.ext E274; replace h213 := h213.ext E274; replace h126 := h126.ext E274; replace h42 := h42.ext E274; have l277 := h85.le; have S278 := S273.pull (F := F86) (Fr := [F247, F214, F127, F43]) 1 rfl rfl; obtain ⟨H279, S280, E281, h282, z283⟩ := S278.frzRow h85; replace h246 := h246.ext E281; replace h213 := h213.ext E281; replace h126 := h126.ext E281; replace h42 := h42.ext E281; exact (laws_sameOps.calls k w260 H279 t166.1 A171 c172 t78.1 A83 c84 (h275.ext E281) l270 h282 l277 S280.own0 t268 u269)) ?_
          rintro _ w284 ⟨rfl, C285⟩
          refine ⟨_, rfl, ?_⟩
          obtain ⟨S286, K287⟩ := S262.still C285
          replace h246 := h246.move (K287.at 0 rfl)
          replace h85 := h85.move (K287.at 1 rfl)
          replace h213 := h213.move (K287.at 2 rfl)
          replace h173 := h173.move (K287.at 3 rfl)
          replace h126 := h126.move (K287.at 4 rfl)
          replace h42 := h42.move (K287.at 5 rfl)
          refine lV 110 (eT (.bool t268) (bT q267)) (lV 111 (eM (.bool t268)) ?_)
          by_cases q288 : t268 = true
          · replace M := ifp q288 M
            refine lG 112 111 (bvt q288 (by kernel_rfl)) (eM (.slice A211 t206.1.length c212)) (lG 113 111 (bvt q288 (by kernel_rfl)) (eM (.slice A244 t239.1.length c245)) ?_)
            obtain ⟨t289, u290, M⟩ := bnd M
            refine lcallg (d := 114) (t := 111) rfl (by kernel_rfl) rfl (bvt q288 (by kernel_rfl)) rfl (by kernel_rfl) (eC [.tmp 112, .tmp 113] [.slice A211 t206.1.length c212, .slice A244 t239.1.length c245] Try.func22) (by have l291 := h213.le; have S292 := S286.pull (F := F214) (Fr := [F247, F86, F174, F127, F43]) 2 rfl rfl; obtain ⟨H293, S294, E295, h296, z297⟩ := S292.frzRow h213; replace h246 := h246.ext E295; replace h85 := h85.ext E295; replace h173 := h173.ext E295; replace h126 := h126.ext E295; replace h42 := h42.ext E295; have l298 := h246.le; obtain ⟨H299, S300, E301, h302, z303⟩ := S294.frzRow h246; replace h85 := h85.ext E301; replace h173 := h173.ext E301; replace h126 := h126.ext E301; replace h42 := h42.ext E301; exact (laws_sameOps.calls k w284 H299 t206.1 A211 c212 t239.1 A244 c245 (h296.ext E301) l291 h302 l298 S300.own0 t289 u290)) ?_
            rintro _ w304 ⟨rfl, C305⟩
            refine ⟨_, rfl, ?_⟩
            obtain ⟨S306, K307⟩ := S286.still C305
            refine lV 115 (eT (.bool t289) (bvt q288 (by kernel_rfl))) (lV 2 (eA (.bool t289)) (wN (then_n (wp_ret ?_))))
            obtain rfl := Option.some.inj M
            exact ret1 rfl rfl  (show _ = .bool t289 from (by kernel_rfl)) ⟨rfl, S306.chg⟩
          replace M := ifn q288 M
          refine lK 111 false (bvf q288 (by kernel_rfl)) ?_
          refine lK 111 false (bvf q288 (by kernel_rfl)) ?_
          refine lK 111 false (bvf q288 (by kernel_rfl)) ?_
          refine lV 115 (eF (.bool false) (bvf q288 (by kernel_rfl))) (lV 2 (eA (.bool false)) (wN (then_n (wp_ret ?_))))
          obtain rfl := Option.some.inj M
          exact ret1 rfl rfl  (show _ = .bool false from (by kernel_rfl)) ⟨rfl, S286.chg⟩
        replace M := ifn q267 M
        refine lK 106 false (bF q267) ?_
        refine lK 106 false (bF q267) ?_
        refine lK 106 false (bF q267) ?_
        refine lV 110 (eF (.bool false) (bF q267)) (lV 111 (eM (.bool false)) ?_)
        refine lJ 111 false ?_
        refine lJ 111 false ?_
        refine lJ 111 false ?_
        refine lV 115 (eF (.bool false)) (lV 2 (eA (.bool false)) (wN (then_n (wp_ret ?_))))
        obtain rfl := Option.some.inj M
        exact ret1 rfl rfl  (show _ = .bool false from (by kernel_rfl)) ⟨rfl, S262.chg⟩
      replace M := ifn q266 M
      refine lK 102 false (bF q266) ?_
      refine lK 102 false (bF q266) ?_
      refine lV 105 (eF (.bool false) (bF q266)) (lV 106 (eM (.bool false)) ?_)
      refine lJ 106 false ?_
      refine lJ 106 false ?_
      refine lJ 106 false ?_
      refine lV 110 (eF (.bool false)) (lV 111 (eM (.bool false)) ?_)
      refine lJ 111 false ?_
      refine lJ 111 false ?_
      refine lJ 111 false ?_
      refine lV 115 (eF (.bool false)) (lV 2 (eA (.bool false)) (wN (then_n (wp_ret ?_))))
      obtain rfl := Option.some.inj M
      exact ret1 rfl rfl  (show _ = .bool false from (by kernel_rfl)) ⟨rfl, S262.chg⟩
    replace M := ifn q265 M
    refine lK 98 false (bF q265) ?_
    refine lK 98 false (bF q265) ?_
    refine lV 101 (eF (.bool false) (bF q265)) (lV 102 (eM (.bool false)) ?_)
    refine lJ 102 false ?_
    refine lJ 102 false ?_
    refine lV 105 (eF (.bool false)) (lV 106 (eM (.bool false)) ?_)
    refine lJ 106 false ?_
    refine lJ 106 false ?_
    refine lJ 106 false ?_
    refine lV 110 (eF (.bool false)) (lV 111 (eM (.bool false)) ?_)
    refine lJ 111 false ?_
    refine lJ 111 false ?_
    refine lJ 111 false ?_
    refine lV 115 (eF (.bool false)) (lV 2 (eA (.bool false)) (wN (then_n (wp_ret ?_))))
    obtain rfl := Option.some.inj M
    exact ret1 rfl rfl  (show _ = .bool false from (by kernel_rfl)) ⟨rfl, S262.chg⟩
  replace M := ifn q264 M
  refine lK 94 false (bvf q264 (by kernel_rfl)) ?_
  refine lK 94 false (bvf q264 (by kernel_rfl)) ?_
  refine lV 97 (eF (.bool false) (bvf q264 (by kernel_rfl))) (lV 98 (eM (.bool false)) ?_)
  refine lJ 98 false ?_
  refine lJ 98 false ?_
  refine lV 101 (eF (.bool false)) (lV 102 (eM (.bool false)) ?_)
  refine lJ 102 false ?_
  refine lJ 102 false ?_
  refine lV 105 (eF (.bool false)) (lV 106 (eM (.bool false)) ?_)
  refine lJ 106 false ?_
  refine lJ 106 false ?_
  refine lJ 106 false ?_
  refine lV 110 (eF (.bool false)) (lV 111 (eM (.bool false)) ?_)
  refine lJ 111 false ?_
  refine lJ 111 false ?_
  refine lJ 111 false ?_
  refine lV 115 (eF (.bool false)) (lV 2 (eA (.bool false)) (wN (then_n (wp_ret ?_))))
  obtain rfl := Option.some.inj M
  exact ret1 rfl rfl  (show _ = .bool false from (by kernel_rfl)) ⟨rfl, S262.chg⟩
end Go.Proofs.Ytminnekeekhjcaa
