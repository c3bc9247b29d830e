import Derived.Test.YtognefkopbbdnaaWkFu1
namespace Go.Proofs.Ytognefkopbbdnaa
open Go.Sx Go.Sy IntKind Try
attribute [local irreducible] Go.wpList Go.wpStill Go.wpQuiet Go.Code.wp
set_option maxRecDepth 100000
set_option maxHeartbeats 1000000
set_option linter.unusedVariables false
set_option linter.unusedSimpArgs false

/-! spec_DrawUnify -/
def spec_DrawUnify.l0 : Nat → (Int × GL4rd) → (List (List Cell)) → (List (List Cell)) → Int → Option ((List Cell) × (List Cell))
  | 0, _, _, _, _ => none
  | k143 + 1, t106, x123, x128, x133 => (if x133 < (i64.wrap (5 + (Int.tmod t106.1 12))) then ((spec_l2var.f x133).bind fun t149 => (if x123.length + 1 ≤ 5864062014805 then ((spec_l2var.f (i64.wrap (x133 + 1))).bind fun t176 => ((spec_l2var.f (i64.wrap (x133 + 1))).bind fun t188 => ((spec_l2pair.f k143 ([102] : List UInt8) t176 t188).bind fun t213 => (if x128.length + 1 ≤ 5864062014805 then (spec_DrawUnify.l0 k143 t106 (x123 ++ [t149]) (x128 ++ [t213]) (i64.wrap (x133 + 1))) else none)))) else none)) else ((spec_l2atom.f ([91, 93] : List UInt8)).bind fun t242 => ((spec_l2list.f k143 x123 t242).bind fun t267 => ((spec_l2atom.f ([91, 93] : List UInt8)).bind fun t279 => ((spec_l2list.f k143 x128 t279).bind fun t304 => some (t267, t304))))))
def spec_DrawUnify.l1 : Nat → (Int × GL4rd) → (List (List Cell)) → (List (List Cell)) → Int → Option ((List Cell) × (List Cell))
  | 0, _, _, _, _ => none
  | k367 + 1, t330, x347, x352, x357 => (if x357 < (i64.wrap (8 + (Int.tmod t330.1 10))) then ((spec_l2var.f (i64.wrap (2 * x357))).bind fun t373 => ((spec_l2var.f (i64.wrap ((i64.wrap (2 * x357)) + 1))).bind fun t385 => (if x347.length + 2 ≤ 5864062014805 then ((spec_l2var.f (i64.wrap ((i64.wrap (2 * x357)) + 2))).bind fun t427 => ((spec_l2var.f (i64.wrap ((i64.wrap (2 * x357)) + 2))).bind fun t439 => ((spec_l2pair.f k367 ([102] : List UInt8) t427 t439).bind fun t464 => ((spec_l2var.f (i64.wrap ((i64.wrap (2 * x357)) + 3))).bind fun t476 => ((spec_l2var.f (i64.wrap ((i64.wrap (2 * x357)) + 3))).bind fun t488 => ((spec_l2pair.f k367 ([102] : List UInt8) t476 t488).bind fun t513 => (if x352.length + 2 ≤ 5864062014805 then (spec_DrawUnify.l1 k367 t330 (x347 ++ [t373, t385]) (x352 ++ [t464, t513]) (i64.wrap (x357 + 1))) else none))))))) else none))) else ((spec_l2var.f 0).bind fun t557 => (if x347.length + 1 ≤ 5864062014805 then ((spec_l2var.f 1).bind fun t592 => (if x352.length + 1 ≤ 5864062014805 then ((spec_l2atom.f ([91, 93] : List UInt8)).bind fun t627 => ((spec_l2list.f k367 (x347 ++ [t557]) t627).bind fun t652 => ((spec_l2atom.f ([91, 93] : List UInt8)).bind fun t664 => ((spec_l2list.f k367 (x352 ++ [t592]) t664).bind fun t689 => some (t652, t689))))) else none)) else none)))
def spec_DrawUnify.f (k : Nat) (x1 : List UInt8) : Option ((List Cell) × (List Cell)) := ((spec_l4open.f x1).bind fun t6 => ((spec_l4rd_next_2.f t6).bind fun t20 => ((spec_l4any.f k t20.2).bind fun t33 => (if (Int.tmod t20.1 4) = 0 then ((spec_l4any.f k t33.2).bind fun t51 => some (t33.1, t51.1)) else ((spec_ValidTerm.f k t33.1).bind fun t71 => (if ¬ (t71 = true) then ((spec_l4any.f k t33.2).bind fun t85 => some (t33.1, t85.1)) else (if t20.1 = 1 then ((spec_l4rd_next_2.f t33.2).bind fun t106 => (spec_DrawUnify.l0 k t106 [] [] 0)) else (if t20.1 = 5 then ((spec_l4rd_next_2.f t33.2).bind fun t330 => (spec_DrawUnify.l1 k t330 [] [] 0)) else ((spec_l13alike.f k t33.1 t33.2).bind fun t722 => some (t33.1, t722.1))))))))))
theorem spec_DrawUnify.calls (k : Nat) (w : World) (H : Hp) (x1 : List UInt8) (A2 : Option Addr) (c3 : Nat) (h4 : Rd tByte H A2 x1) (l5 : x1.length ≤ c3) (S : Own [] H w) (r : (List Cell) × (List Cell)) (M : spec_DrawUnify.f k x1 = some r) :
    Calls Try.prog 52 #[.slice A2 x1.length c3] w (fun e e_w => ∃ (A_1 : Option Addr) (c_1 : Nat) (F_1 : Foot) (A_2 : Option Addr) (c_2 : Nat) (F_2 : Foot) (H_ : Hp), e = .returned (.tuple #[.slice A_1 r.1.length c_1, .slice A_2 r.2.length c_2]) ∧ Row (ro st65) 65 H_ (hp e_w) F_1 A_1 c_1 r.1 ∧ Row (ro st65) 65 H_ (hp e_w) F_2 A_2 c_2 r.2 ∧ St (anyOf []) H w [F_1, F_2] H_ e_w) := by
  rw [spec_DrawUnify.f] at M
  refine enter (l := [.slice A2 x1.length c3]) 124 func52 rfl rfl rfl ?_
  have S0_ := S.st
  refine wQ (wR (lV 2 (eA (.slice none 0 0)) (lV 3 (eA (.slice none 0 0)) (wN (tN (wQ (wR (lV 15 (eM (.slice A2 x1.length c3)) ?_))))))))
  obtain ⟨t6, u7, M⟩ := bnd M
  refine lC 16 (eC [.tmp 15] [.slice A2 x1.length c3] func95) (spec_l4open.calls w H x1 A2 c3 h4 l5 (St.own' (Fa := []) (Fr := []) S0_) t6 u7) ?_
  rintro _ w8 ⟨g11, A13, c14, H9, rfl, h15, l16, b12, T10⟩
  refine ⟨_, rfl, ?_⟩
  obtain ⟨S17, K18⟩ := St.call (Fa := []) (Fr := []) S0_ T10
  have E19 := T10.ext
  refine lV 4 (eA (.pointer (some ⟨g11, 0, none⟩))) (wN (tN (wQ (wR (lV 17 (eM (.pointer (some ⟨g11, 0, none⟩))) ?_)))))
  obtain ⟨t20, u21, M⟩ := bnd M
  refine lC 18 (eC [.tmp 17] [.pointer (some ⟨g11, 0, none⟩)] func96) (spec_l4rd_next_2.calls w8 H9 t6 g11 A13 c14 h15 l16 b12 (St.own' (Fa := [(is g11)]) (Fr := []) S17) t20 u21) ?_
  rintro _ w22 ⟨A25, c26, H23, rfl, h27, l28, b29, T24⟩
  refine ⟨_, rfl, ?_⟩
  obtain ⟨S30, K31⟩ := St.call (Fa := [(is g11)]) (Fr := []) S17 T24
  have E32 := T24.ext
  refine lV 5 (eA (.int .i64 t20.1)) (wN (tN (wQ (wR (lV 19 (eM (.pointer (some ⟨g11, 0, none⟩))) ?_)))))
  obtain ⟨t33, u34, M⟩ := bnd M
  refine lC 20 (eC [.tmp 19] [.pointer (some ⟨g11, 0, none⟩)] func97) (spec_l4any.calls k w22 H23 t20.2 g11 A25 c26 h27 l28 b29 (St.own' (Fa := [(is g11)]) (Fr := []) S30) t33 u34) ?_
  rintro _ w35 ⟨A38, c39, A43, c44, F46, H36, rfl, h40, l41, b42, h45, T37⟩
  refine ⟨_, rfl, ?_⟩
  obtain ⟨S47, K48⟩ := St.call (Fa := [(is g11)]) (Fr := []) S30 T37
  have E49 := T37.ext
  refine lV 6 (eA (.slice A43 t33.1.length c44)) (wN (tN (wQ (wQ (wR (lV 21 (eM (.int .i64 t20.1)) (lV 22 (e_rem (k := .i64) (a := t20.1) (b := 4) kr rfl (by decide)) (lV 23 (eEq .i64 (Int.tmod t20.1 4) 0) (lV 24 (eM (.bool (decide ((Int.tmod t20.1 4) = 0)))) ?_)))))))))
  by_cases q50 : (Int.tmod t20.1 4) = 0
  · replace M := ifp q50 M
    refine lK 24 true (bT q50) ?_
    refine lK 24 true (bT q50) ?_
    refine lK 24 true (bT q50) ?_
    refine lV 28 (eT (.bool true) (bT q50)) (wN (tN (cond_t rfl kr (wQ (wR (lV 29 (eM (.slice A43 t33.1.length c44)) (lV 30 (eM (.pointer (some ⟨g11, 0, none⟩))) ?_)))))))
    obtain ⟨t51, u52, M⟩ := bnd M
    refine lC 31 (eC [.tmp 30] [.pointer (some ⟨g11, 0, none⟩)] func97) (spec_l4any.calls k w35 H36 t33.2 g11 A38 c39 h40 l41 b42 (St.own' (Fa := [(is g11)]) (Fr := [F46]) S47) t51 u52) ?_
    rintro _ w53 ⟨A56, c57, A61, c62, F64, H54, rfl, h58, l59, b60, h63, T55⟩
    refine ⟨_, rfl, ?_⟩
    obtain ⟨S65, K66⟩ := St.call (Fa := [(is g11)]) (Fr := [F46]) S47 T55
    replace h45 := h45.move (K66.at 0 rfl)
    have E67 := T55.ext
    replace h45 := h45.ext E67
    refine lV 2 (eA (.slice A43 t33.1.length c44)) (lV 3 (eA (.slice A61 t51.1.length c62)) (wN (tN (wT (tR ?_)))))
    obtain rfl := sj M
    have S69 := S65.pulls [F46, F64, (is g11)] [1, 2] rfl
    have S70 := St.first (Fa := [F46, F64]) (Fr := [(is g11)]) S69
    exact ret2 rfl rfl rfl (show _ = .slice A43 t33.1.length c44 from kr) (show _ = .slice A61 t51.1.length c62 from kr) ⟨A43, c44, F46, A61, c62, F64, H54, rfl, h45, h63, S70⟩
  replace M := ifn q50 M
  refine lG 25 24 (bF q50) (eM (.slice A43 t33.1.length c44)) ?_
  obtain ⟨t71, u72, M⟩ := bnd M
  refine lcallg (d := 26) (t := 24) rfl kr rfl (bF q50) rfl kr (eC [.tmp 25] [.slice A43 t33.1.length c44] func15) (by have l73 := h45.le; have S74 := S47.pull (F := F46) (Fr := [(is g11)]) 1 rfl rfl; obtain ⟨H75, S76, E77, h78, z79⟩ := S74.frzRow h45; replace h78 := h78.unro; exact (spec_ValidTerm.calls k w35 H75 t33.1 A43 c44 h78 l73 S76.own0 t71 u72)) ?_
  rintro _ w80 ⟨rfl, C81⟩
  refine ⟨_, rfl, ?_⟩
  obtain ⟨S82, K83⟩ := S47.still C81
  replace b42 := K83.blk 0 rfl b42
  replace h45 := h45.move (K83.at 1 rfl)
  refine lG 27 24 (bF q50) (e_notv (c := t71) kr) (lV 28 (eF (.bool (decide (¬ (t71 = true)))) (bF q50)) (wN (tN ?_)))
  by_cases q84 : ¬ (t71 = true)
  · replace M := ifp q84 M
    refine cT (bT q84) (wQ (wR (lV 29 (eM (.slice A43 t33.1.length c44)) (lV 30 (eM (.pointer (some ⟨g11, 0, none⟩))) ?_))))
    obtain ⟨t85, u86, M⟩ := bnd M
    refine lC 31 (eC [.tmp 30] [.pointer (some ⟨g11, 0, none⟩)] func97) (spec_l4any.calls k w80 H36 t33.2 g11 A38 c39 h40 l41 b42 (St.own' (Fa := [(is g11)]) (Fr := [F46]) S82) t85 u86) ?_
    rintro _ w87 ⟨A90, c91, A95, c96, F98, H88, rfl, h92, l93, b94, h97, T89⟩
    refine ⟨_, rfl, ?_⟩
    obtain ⟨S99, K100⟩ := St.call (Fa := [(is g11)]) (Fr := [F46]) S82 T89
    replace h45 := h45.move (K100.at 0 rfl)
    have E101 := T89.ext
    replace h45 := h45.ext E101
    refine lV 2 (eA (.slice A43 t33.1.length c44)) (lV 3 (eA (.slice A95 t85.1.length c96)) (wN (tN (wT (tR ?_)))))
    obtain rfl := sj M
    have S103 := S99.pulls [F46, F98, (is g11)] [1, 2] rfl
    have S104 := St.first (Fa := [F46, F98]) (Fr := [(is g11)]) S103
    exact ret2 rfl rfl rfl (show _ = .slice A43 t33.1.length c44 from kr) (show _ = .slice A95 t85.1.length c96 from kr) ⟨A43, c44, F46, A95, c96, F98, H88, rfl, h45, h97, S104⟩
  replace M := ifn q84 M
  refine cF (bF q84) (wK (tN (wQ (wQ (wR (lV 32 (eM (.int .i64 t20.1)) (lV 33 (eEq .i64 t20.1 1) (wN (tN ?_)))))))))
  by_cases q105 : t20.1 = 1
  · replace M := ifp q105 M
    refine cT (bT q105) (wQ (wR (lV 7 (eA (.slice none 0 0)) (wN (tN (wQ (wR (lV 8 (eA (.slice none 0 0)) (wN (tN (wQ (wR (lV 34 (eM (.pointer (some ⟨g11, 0, none⟩))) ?_)))))))))))))
    obtain ⟨t106, u107, M⟩ := bnd M
    refine lC 35 (eC [.tmp 34] [.pointer (some ⟨g11, 0, none⟩)] func96) (spec_l4rd_next_2.calls w80 H36 t33.2 g11 A38 c39 h40 l41 b42 (St.own' (Fa := [(is g11)]) (Fr := [F46]) S82) t106 u107) ?_
    rintro _ w108 ⟨A111, c112, H109, rfl, h113, l114, b115, T110⟩
    refine ⟨_, rfl, ?_⟩
    obtain ⟨S116, K117⟩ := St.call (Fa := [(is g11)]) (Fr := [F46]) S82 T110
    have E118 := T110.ext
    refine lV 36 (e_rem (k := .i64) (a := t106.1) (b := 12) kr rfl (by decide)) (lV 37 (eAdd .i64 5 (Int.tmod t106.1 12)) (lV 9 (eA (.int .i64 (i64.wrap (5 + (Int.tmod t106.1 12))))) (wN (tN (wQ (wQ (wR (lV 10 (eA (.int .i64 0)) (wN (tN (wp_block ?_)))))))))))
    have S144 := S116.unit
    have S145 := S144.unit
    have S146 := S145.pulls [no, no, (is g11), F46] [1] rfl
    have S147 := St.first (Fa := [no, no]) (Fr := [(is g11), F46]) S146
    refine wp_loop_g (fun k141 a142 w119 => ∃ (f120 : Nat → Value) (H121 : Hp) (x123 : List (List Cell)) (A124 : Option Addr) (c125 : Nat) (F126 : Foot) (x128 : List (List Cell)) (A129 : Option Addr) (c130 : Nat) (F131 : Foot) (x133 : Int), a142 = mk 124 f120 ∧ f120 7 = .slice A124 x123.length c125 ∧ f120 8 = .slice A129 x128.length c130 ∧ f120 9 = .int .i64 (i64.wrap (5 + (Int.tmod t106.1 12))) ∧ f120 10 = .int .i64 x133 ∧ Row sl65 25 H121 (hp w119) F126 A124 c125 x123 ∧ Row sl65 25 H121 (hp w119) F131 A129 c130 x128 ∧ Ext H109 H121 ∧ St (anyOf []) H w [F126, F131] H121 w119 ∧ spec_DrawUnify.l0 k141 t106 x123 x128 x133 = some r) k ⟨_, H109, [], none, 0, no, [], none, 0, no, 0, rfl, kr, kr, kr, kr, (Row.nil _ _ _ _ _), (Row.nil _ _ _ _ _), (Ext.refl _), S147, M⟩ ?_
    clear M
    rintro k141 a142 w119 ⟨f120, H121, x123, A124, c125, F126, x128, A129, c130, F131, x133, rfl, e134, e135, e136, e137, h127, h132, Y122, S138, M⟩
    rcases k141 with _ | k143
    · rw [spec_DrawUnify.l0] at M
      cases M
    rw [spec_DrawUnify.l0] at M
    refine wQ (wQ (wR (lV 38 (eM (.int .i64 x133) (by exact e137)) (lV 39 (eM (.int .i64 (i64.wrap (5 + (Int.tmod t106.1 12)))) (by exact e136)) (lV 40 (eLt .i64 x133 (i64.wrap (5 + (Int.tmod t106.1 12)))) (wN (tN ?_)))))))
    by_cases q148 : x133 < (i64.wrap (5 + (Int.tmod t106.1 12)))
    · replace M := ifp q148 M
      refine cT (bT q148) (wK (tN (wQ (wp_block (wQ (wR (lV 43 (eM (.slice A124 x123.length c125) (by exact e134)) (lV 44 (eM (.int .i64 x133) (by exact e137)) ?_))))))))
      obtain ⟨t149, u150, M⟩ := bnd M
      refine lC 45 (eC [.tmp 44] [.int .i64 x133] func98) (spec_l2var.calls w119 H121 x133  (St.own' (Fa := []) (Fr := [F126, F131]) S138) t149 u150) ?_
      rintro _ w151 ⟨A154, c155, F157, H152, rfl, h156, T153⟩
      refine ⟨_, rfl, ?_⟩
      obtain ⟨S158, K159⟩ := St.call (Fa := []) (Fr := [F126, F131]) S138 T153
      replace h127 := h127.move (K159.at 0 rfl)
      replace h132 := h132.move (K159.at 1 rfl)
      have E160 := T153.ext
      replace h127 := h127.ext E160
      replace h132 := h132.ext E160
      refine lW 46 (new_blk (v := fun g_ => .slice (some ⟨g_, 0, none⟩) 1 1) (cs := #[.slice A154 t149.length c155]) (t := 25) S158 kr) ?_
      rintro _ w161 ⟨g162, rfl, b163, S164, K165⟩
      replace h156 := h156.move (K165.at 0 rfl)
      replace h127 := h127.move (K165.at 1 rfl)
      replace h132 := h132.move (K165.at 2 rfl)
      obtain ⟨q166, M⟩ := chk M
      have S168 := S164.pulls [F126, F157, (is g162), F131] [1, 2] rfl
      refine lW 47 (e_append (d := sl65) (n := x123.length) (xs := x123) (cap := c125) (A := A124) (ys := [t149]) (A2 := (some ⟨g162, 0, none⟩)) (c2 := 1) (z := .slice none 0 0) (bytes := 24) S168 underlying38 kr rfl (by decide) kr rfl kr h127 (elsO_one1 ⟨A154, c155, rfl, h156⟩) (.inr (blk_news b163 rfl)) (show (x123.length + [t149].length) * 24 ≤ _ by first | omega | (simp only [List.length_cons, List.length_nil]; omega)) (by decide)) ?_
      rintro _ w169 ⟨A170, c171, F172, rfl, h173, S174, K175⟩
      replace h132 := h132.move (K175.at 1 rfl)
      refine lV 7 (eA (.slice A170 ((x123 ++ [t149]).length) c171)) (wN (tN (wR (lV 48 (eM (.slice A129 x128.length c130) (by exact e135)) (lV 49 (eM (.int .i64 x133) (by exact e137)) (lV 50 (eAdd .i64 x133 1) ?_))))))
      obtain ⟨t176, u177, M⟩ := bnd M
      refine lC 51 (eC [.tmp 50] [.int .i64 (i64.wrap (x133 + 1))] func98) (spec_l2var.calls w169 H152 (i64.wrap (x133 + 1))  (St.own' (Fa := []) (Fr := [F172, (is g162), F131]) S174) t176 u177) ?_
      rintro _ w178 ⟨A181, c182, F184, H179, rfl, h183, T180⟩
      refine ⟨_, rfl, ?_⟩
      obtain ⟨S185, K186⟩ := St.call (Fa := []) (Fr := [F172, (is g162), F131]) S174 T180
      replace h173 := h173.move (K186.at 0 rfl)
      replace h132 := h132.move (K186.at 2 rfl)
      have E187 := T180.ext
      replace h173 := h173.ext E187
      replace h132 := h132.ext E187
      refine lV 52 (eM (.int .i64 x133) (by exact e137)) (lV 53 (eAdd .i64 x133 1) ?_)
      obtain ⟨t188, u189, M⟩ := bnd M
      refine lC 54 (eC [.tmp 53] [.int .i64 (i64.wrap (x133 + 1))] func98) (spec_l2var.calls w178 H179 (i64.wrap (x133 + 1))  (St.own' (Fa := []) (Fr := [F184, F172, (is g162), F131]) S185) t188 u189) ?_
      rintro _ w190 ⟨A193, c194, F196, H191, rfl, h195, T192⟩
      refine ⟨_, rfl, ?_⟩
      obtain ⟨S197, K198⟩ := St.call (Fa := []) (Fr := [F184, F172, (is g162), F131]) S185 T192
      replace h183 := h183.move (K198.at 0 rfl)
      replace h173 := h173.move (K198.at 1 rfl)
      replace h132 := h132.move (K198.at 3 rfl)
      have E199 := T192.ext
      replace h183 := h183.ext E199
      replace h173 := h173.ext E199
      replace h132 := h132.ext E199
      have l200 := h183.le
      have S201 := S197.pulls [F184, F196, F172, (is g162), F131] [1] rfl
      obtain ⟨H202, S203, E204, h205, z206⟩ := S201.frzRow h183
      replace h195 := h195.ext E204
      replace h173 := h173.ext E204
      replace h132 := h132.ext E204
      have l207 := h195.le
      obtain ⟨H208, S209, E210, h211, z212⟩ := S203.frzRow h195
      replace h173 := h173.ext E210
      replace h132 := h132.ext E210
      obtain ⟨t213, u214, M⟩ := bnd M
      refine lC 55 (eC [.const (str ([102] : List UInt8)), .tmp 51, .tmp 54] [str ([102] : List UInt8), .slice A181 t176.length c182, .slice A193 t188.length c194] func99) (spec_l2pair.calls k143 w190 H208 ([102] : List UInt8) t176 A181 c182 t188 A193 c194 (h205.ext E210) l200 h211 l207 (St.own' (Fa := []) (Fr := [F172, (is g162), F131]) S209) t213 u214) ?_
      rintro _ w215 ⟨A218, c219, F221, H216, rfl, h220, T217⟩
      refine ⟨_, rfl, ?_⟩
      obtain ⟨S222, K223⟩ := St.call (Fa := []) (Fr := [F172, (is g162), F131]) S209 T217
      replace h173 := h173.move (K223.at 0 rfl)
      replace h132 := h132.move (K223.at 2 rfl)
      have E224 := T217.ext
      replace h173 := h173.ext E224
      replace h132 := h132.ext E224
      refine lW 56 (new_blk (v := fun g_ => .slice (some ⟨g_, 0, none⟩) 1 1) (cs := #[.slice A218 t213.length c219]) (t := 25) S222 kr) ?_
      rintro _ w225 ⟨g226, rfl, b227, S228, K229⟩
      replace h220 := h220.move (K229.at 0 rfl)
      replace h173 := h173.move (K229.at 1 rfl)
      replace h132 := h132.move (K229.at 3 rfl)
      obtain ⟨q230, M⟩ := chk M
      have S232 := S228.pulls [F131, F221, (is g226), F172, (is g162)] [1, 4] rfl
      refine lW 57 (e_append (d := sl65) (n := x128.length) (xs := x128) (cap := c130) (A := A129) (ys := [t213]) (A2 := (some ⟨g226, 0, none⟩)) (c2 := 1) (z := .slice none 0 0) (bytes := 24) S232 underlying38 kr rfl (by decide) kr rfl kr h132 (elsO_one1 ⟨A218, c219, rfl, h220⟩) (.inr (blk_news b227 rfl)) (show (x128.length + [t213].length) * 24 ≤ _ by first | omega | (simp only [List.length_cons, List.length_nil]; omega)) (by decide)) ?_
      rintro _ w233 ⟨A234, c235, F236, rfl, h237, S238, K239⟩
      replace h173 := h173.move (K239.at 1 rfl)
      refine lV 8 (eA (.slice A234 ((x128 ++ [t213]).length) c235)) (wN (inb_n (tN (wR (lV 41 (eM (.int .i64 x133) (by exact e137)) (lV 42 (eAdd .i64 x133 1) (lV 10 (eA (.int .i64 (i64.wrap (x133 + 1)))) (wN (tN ?_)))))))))
      have S240 := S238.pulls [F172, F236, (is g226), (is g162)] [2] rfl
      have S241 := St.first (Fa := [F172, F236]) (Fr := [(is g226), (is g162)]) S240
      exact ⟨k143, (by omega), _, H216, (x123 ++ [t149]), A170, c171, F172, (x128 ++ [t213]), A234, c235, F236, (i64.wrap (x133 + 1)), rfl, kr, kr, (by exact e136), kr, h173, h237, ((((((Y122.trans E160).trans E187).trans E199).trans E204).trans E210).trans E224), S241, M⟩
    replace M := ifn q148 M
    refine cF (bF q148) (wp_exit (tE (tE (inb_hit (tN (wQ (wR (lV 58 (eM (.slice A124 x123.length c125) (by exact e134)) ?_))))))))
    obtain ⟨t242, u243, M⟩ := bnd M
    refine lC 59 (eC [.const (str ([91, 93] : List UInt8))] [str ([91, 93] : List UInt8)] func79) (spec_l2atom.calls w119 H121 ([91, 93] : List UInt8)  (St.own' (Fa := []) (Fr := [F126, F131]) S138) t242 u243) ?_
    rintro _ w244 ⟨A247, c248, F250, H245, rfl, h249, T246⟩
    refine ⟨_, rfl, ?_⟩
    obtain ⟨S251, K252⟩ := St.call (Fa := []) (Fr := [F126, F131]) S138 T246
    replace h127 := h127.move (K252.at 0 rfl)
    replace h132 := h132.move (K252.at 1 rfl)
    have E253 := T246.ext
    replace h127 := h127.ext E253
    replace h132 := h132.ext E253
    have l254 := h127.le
    have S255 := S251.pulls [F126, F250, F131] [1] rfl
    obtain ⟨H256, S257, E258, h259, z260⟩ := S255.frzRow h127
    replace h249 := h249.ext E258
    replace h132 := h132.ext E258
    have l261 := h249.le
    obtain ⟨H262, S263, E264, h265, z266⟩ := S257.frzRow h249
    replace h132 := h132.ext E264
    obtain ⟨t267, u268, M⟩ := bnd M
    refine lC 60 (eC [.tmp 58, .tmp 59] [.slice A124 x123.length c125, .slice A247 t242.length c248] func78) (spec_l2list.calls k143 w244 H262 x123 A124 c125 t242 A247 c248 (h259.ext E264) l254 h265 l261 (St.own' (Fa := []) (Fr := [F131]) S263) t267 u268) ?_
    rintro _ w269 ⟨A272, c273, F275, H270, rfl, h274, T271⟩
    refine ⟨_, rfl, ?_⟩
    obtain ⟨S276, K277⟩ := St.call (Fa := []) (Fr := [F131]) S263 T271
    replace h132 := h132.move (K277.at 0 rfl)
    have E278 := T271.ext
    replace h132 := h132.ext E278
    refine lV 61 (eM (.slice A129 x128.length c130) (by exact e135)) ?_
    obtain ⟨t279, u280, M⟩ := bnd M
    refine lC 62 (eC [.const (str ([91, 93] : List UInt8))] [str ([91, 93] : List UInt8)] func79) (spec_l2atom.calls w269 H270 ([91, 93] : List UInt8)  (St.own' (Fa := []) (Fr := [F275, F131]) S276) t279 u280) ?_
    rintro _ w281 ⟨A284, c285, F287, H282, rfl, h286, T283⟩
    refine ⟨_, rfl, ?_⟩
    obtain ⟨S288, K289⟩ := St.call (Fa := []) (Fr := [F275, F131]) S276 T283
    replace h274 := h274.move (K289.at 0 rfl)
    replace h132 := h132.move (K289.at 1 rfl)
    have E290 := T283.ext
    replace h274 := h274.ext E290
    replace h132 := h132.ext E290
    have l291 := h132.le
    have S292 := S288.pulls [F131, F287, F275] [2] rfl
    obtain ⟨H293, S294, E295, h296, z297⟩ := S292.frzRow h132
    replace h286 := h286.ext E295
    replace h274 := h274.ext E295
    have l298 := h286.le
    obtain ⟨H299, S300, E301, h302, z303⟩ := S294.frzRow h286
    replace h274 := h274.ext E301
    obtain ⟨t304, u305, M⟩ := bnd M
    refine lC 63 (eC [.tmp 61, .tmp 62] [.slice A129 x128.length c130, .slice A284 t279.length c285] func78) (spec_l2list.calls k143 w281 H299 x128 A129 c130 t279 A284 c285 (h296.ext E301) l291 h302 l298 (St.own' (Fa := []) (Fr := [F275]) S300) t304 u305) ?_
    rintro _ w306 ⟨A309, c310, F312, H307, rfl, h311, T308⟩
    refine ⟨_, rfl, ?_⟩
    obtain ⟨S313, K314⟩ := St.call (Fa := []) (Fr := [F275]) S300 T308
    replace h274 := h274.move (K314.at 0 rfl)
    have E315 := T308.ext
    replace h274 := h274.ext E315
    refine lV 2 (eA (.slice A272 t267.length c273)) (lV 3 (eA (.slice A309 t304.length c310)) (wN (tN (wT (tR ?_)))))
    have S316 := S313.pulls [F275, F312] [1] rfl
    obtain ⟨H317, F318, S319, E320, h321⟩ := S316.share h274
    replace h311 := h311.ext E320
    have S322 := S319.pulls [F312, F318] [1] rfl
    obtain ⟨H323, F324, S325, E326, h327⟩ := S322.share h311
    replace h321 := h321.ext E326
    obtain rfl := sj M
    have S328 := S325.pulls [F318, F324] [1] rfl
    exact ret2 rfl rfl rfl (show _ = .slice A272 t267.length c273 from kr) (show _ = .slice A309 t304.length c310 from kr) ⟨A272, c273, F318, A309, c310, F324, H323, rfl, h321, h327, S328⟩
  replace M := ifn q105 M
  refine cF (bF q105) (wK (tN (wQ (wQ (wR (lV 64 (eM (.int .i64 t20.1)) (lV 65 (eEq .i64 t20.1 5) (wN (tN ?_)))))))))
  by_cases q329 : t20.1 = 5
  · replace M := ifp q329 M
    refine cT (bT q329) (wQ (wR (lV 11 (eA (.slice none 0 0)) (wN (tN (wQ (wR (lV 12 (eA (.slice none 0 0)) (wN (tN (wQ (wR (lV 66 (eM (.pointer (some ⟨g11, 0, none⟩))) ?_)))))))))))))
    obtain ⟨t330, u331, M⟩ := bnd M
    refine lC 67 (eC [.tmp 66] [.pointer (some ⟨g11, 0, none⟩)] func96) (spec_l4rd_next_2.calls w80 H36 t33.2 g11 A38 c39 h40 l41 b42 (St.own' (Fa := [(is g11)]) (Fr := [F46]) S82) t330 u331) ?_
    rintro _ w332 ⟨A335, c336, H333, rfl, h337, l338, b339, T334⟩
    refine ⟨_, rfl, ?_⟩
    obtain ⟨S340, K341⟩ := St.call (Fa := [(is g11)]) (Fr := [F46]) S82 T334
    have E342 := T334.ext
    refine lV 68 (e_rem (k := .i64) (a := t330.1) (b := 10) kr rfl (by decide)) (lV 69 (eAdd .i64 8 (Int.tmod t330.1 10)) (lV 13 (eA (.int .i64 (i64.wrap (8 + (Int.tmod t330.1 10))))) (wN (tN (wQ (wQ (wR (lV 14 (eA (.int .i64 0)) (wN (tN (wp_block ?_)))))))))))
    have S368 := S340.unit
    have S369 := S368.unit
    have S370 := S369.pulls [no, no, (is g11), F46] [1] rfl
    have S371 := St.first (Fa := [no, no]) (Fr := [(is g11), F46]) S370
    refine wp_loop_g (fun k365 a366 w343 => ∃ (f344 : Nat → Value) (H345 : Hp) (x347 : List (List Cell)) (A348 : Option Addr) (c349 : Nat) (F350 : Foot) (x352 : List (List Cell)) (A353 : Option Addr) (c354 : Nat) (F355 : Foot) (x357 : Int), a366 = mk 124 f344 ∧ f344 11 = .slice A348 x347.length c349 ∧ f344 12 = .slice A353 x352.length c354 ∧ f344 13 = .int .i64 (i64.wrap (8 + (Int.tmod t330.1 10))) ∧ f344 14 = .int .i64 x357 ∧ Row (ro sl65) 25 H345 (hp w343) F350 A348 c349 x347 ∧ Row (ro sl65) 25 H345 (hp w343) F355 A353 c354 x352 ∧ Ext H333 H345 ∧ St (anyOf []) H w [F350, F355] H345 w343 ∧ spec_DrawUnify.l1 k365 t330 x347 x352 x357 = some r) k ⟨_, H333, [], none, 0, no, [], none, 0, no, 0, rfl, kr, kr, kr, kr, (Row.nil _ _ _ _ _), (Row.nil _ _ _ _ _), (Ext.refl _), S371, M⟩ ?_
    clear M
    rintro k365 a366 w343 ⟨f344, H345, x347, A348, c349, F350, x352, A353, c354, F355, x357, rfl, e358, e359, e360, e361, h351, h356, Y346, S362, M⟩
    rcases k365 with _ | k367
    · rw [spec_DrawUnify.l1] at M
      cases M
    rw [spec_DrawUnify.l1] at M
    refine wQ (wQ (wR (lV 70 (eM (.int .i64 x357) (by exact e361)) (lV 71 (eM (.int .i64 (i64.wrap (8 + (Int.tmod t330.1 10)))) (by exact e360)) (lV 72 (eLt .i64 x357 (i64.wrap (8 + (Int.tmod t330.1 10)))) (wN (tN ?_)))))))
    by_cases q372 : x357 < (i64.wrap (8 + (Int.tmod t330.1 10)))
    · replace M := ifp q372 M
      refine cT (bT q372) (wK (tN (wQ (wp_block (wQ (wR (lV 75 (eM (.slice A348 x347.length c349) (by exact e358)) (lV 76 (eM (.int .i64 x357) (by exact e361)) (lV 77 (e_mul (k := .i64) (a := 2) (b := x357) rfl kr) ?_)))))))))
      obtain ⟨t373, u374, M⟩ := bnd M
      refine lC 78 (eC [.tmp 77] [.int .i64 (i64.wrap (2 * x357))] func98) (spec_l2var.calls w343 H345 (i64.wrap (2 * x357))  (St.own' (Fa := []) (Fr := [F350, F355]) S362) t373 u374) ?_
      rintro _ w375 ⟨A378, c379, F381, H376, rfl, h380, T377⟩
      refine ⟨_, rfl, ?_⟩
      obtain ⟨S382, K383⟩ := St.call (Fa := []) (Fr := [F350, F355]) S362 T377
      replace h351 := h351.move (K383.at 0 rfl)
      replace h356 := h356.move (K383.at 1 rfl)
      have E384 := T377.ext
      replace h351 := h351.ext E384
      replace h356 := h356.ext E384
      refine lV 79 (eM (.int .i64 x357) (by exact e361)) (lV 80 (e_mul (k := .i64) (a := 2) (b := x357) rfl kr) (lV 81 (eAdd .i64 (i64.wrap (2 * x357)) 1) ?_))
      obtain ⟨t385, u386, M⟩ := bnd M
      refine lC 82 (eC [.tmp 81] [.int .i64 (i64.wrap ((i64.wrap (2 * x357)) + 1))] func98) (spec_l2var.calls w375 H376 (i64.wrap ((i64.wrap (2 * x357)) + 1))  (St.own' (Fa := []) (Fr := [F381, F350, F355]) S382) t385 u386) ?_
      rintro _ w387 ⟨A390, c391, F393, H388, rfl, h392, T389⟩
      refine ⟨_, rfl, ?_⟩
      obtain ⟨S394, K395⟩ := St.call (Fa := []) (Fr := [F381, F350, F355]) S382 T389
      replace h380 := h380.move (K395.at 0 rfl)
      replace h351 := h351.move (K395.at 1 rfl)
      replace h356 := h356.move (K395.at 2 rfl)
      have E396 := T389.ext
      replace h380 := h380.ext E396
      replace h351 := h351.ext E396
      replace h356 := h356.ext E396
      refine lW 83 (new_blk (v := fun g_ => .slice (some ⟨g_, 0, none⟩) 2 2) (cs := #[.slice A378 t373.length c379, .slice A390 t385.length c391]) (t := 25) S394 kr) ?_
      rintro _ w397 ⟨g398, rfl, b399, S400, K401⟩
      replace h392 := h392.move (K401.at 0 rfl)
      replace h380 := h380.move (K401.at 1 rfl)
      replace h351 := h351.move (K401.at 2 rfl)
      replace h356 := h356.move (K401.at 3 rfl)
      have l402 := h380.le
      have S403 := S400.pulls [F381, (is g398), F393, F350, F355] [2] rfl
      obtain ⟨H404, S405, E406, h407, z408⟩ := S403.frzRow h380
      replace h392 := h392.ext E406
      replace h351 := h351.ext E406
      replace h356 := h356.ext E406
      have l409 := h392.le
      have S410 := S405.pulls [F393, (is g398), F350, F355] [1] rfl
      obtain ⟨H411, S412, E413, h414, z415⟩ := S410.frzRow h392
      replace h351 := h351.ext E413
      replace h356 := h356.ext E413
      obtain ⟨q416, M⟩ := chk M
      have S417 := S412.pulls [F350, (is g398), F355] [1] rfl
      have S418 := S417.unit
      have S419 := S418.pulls [F350, no, (is g398), F355] [1] rfl
      refine lW 84 (e_append (d := (ro sl65)) (n := x347.length) (xs := x347) (cap := c349) (A := A348) (ys := [t373, t385]) (A2 := (some ⟨g398, 0, none⟩)) (c2 := 2) (z := .slice none 0 0) (bytes := 24) S419 underlying38 kr rfl (by decide) kr rfl kr h351 (elsO_no (d := (ro sl65)) ⟨A378, c379, rfl, l402, (h407.ext E413)⟩ (elsO_no (d := (ro sl65)) ⟨A390, c391, rfl, l409, h414⟩ (elsO_nil _ _ _ no))) (.inr (blk_news b399 rfl)) (show (x347.length + [t373, t385].length) * 24 ≤ _ by first | omega | (simp only [List.length_cons, List.length_nil]; omega)) (by decide)) ?_
      rintro _ w420 ⟨A421, c422, F423, rfl, h424, S425, K426⟩
      replace h356 := h356.move (K426.at 1 rfl)
      refine lV 11 (eA (.slice A421 ((x347 ++ [t373, t385]).length) c422)) (wN (tN (wR (lV 85 (eM (.slice A353 x352.length c354) (by exact e359)) (lV 86 (eM (.int .i64 x357) (by exact e361)) (lV 87 (e_mul (k := .i64) (a := 2) (b := x357) rfl kr) (lV 88 (eAdd .i64 (i64.wrap (2 * x357)) 2) ?_)))))))
      obtain ⟨t427, u428, M⟩ := bnd M
      refine lC 89 (eC [.tmp 88] [.int .i64 (i64.wrap ((i64.wrap (2 * x357)) + 2))] func98) (spec_l2var.calls w420 H411 (i64.wrap ((i64.wrap (2 * x357)) + 2))  (St.own' (Fa := []) (Fr := [F423, (is g398), F355]) S425) t427 u428) ?_
      rintro _ w429 ⟨A432, c433, F435, H430, rfl, h434, T431⟩
      refine ⟨_, rfl, ?_⟩
      obtain ⟨S436, K437⟩ := St.call (Fa := []) (Fr := [F423, (is g398), F355]) S425 T431
      replace h424 := h424.move (K437.at 0 rfl)
      replace h356 := h356.move (K437.at 2 rfl)
      have E438 := T431.ext
      replace h424 := h424.ext E438
      replace h356 := h356.ext E438
      refine lV 90 (eM (.int .i64 x357) (by exact e361)) (lV 91 (e_mul (k := .i64) (a := 2) (b := x357) rfl kr) (lV 92 (eAdd .i64 (i64.wrap (2 * x357)) 2) ?_))
      obtain ⟨t439, u440, M⟩ := bnd M
      refine lC 93 (eC [.tmp 92] [.int .i64 (i64.wrap ((i64.wrap (2 * x357)) + 2))] func98) (spec_l2var.calls w429 H430 (i64.wrap ((i64.wrap (2 * x357)) + 2))  (St.own' (Fa := []) (Fr := [F435, F423, (is g398), F355]) S436) t439 u440) ?_
      rintro _ w441 ⟨A444, c445, F447, H442, rfl, h446, T443⟩
      refine ⟨_, rfl, ?_⟩
      obtain ⟨S448, K449⟩ := St.call (Fa := []) (Fr := [F435, F423, (is g398), F355]) S436 T443
      replace h434 := h434.move (K449.at 0 rfl)
      replace h424 := h424.move (K449.at 1 rfl)
      replace h356 := h356.move (K449.at 3 rfl)
      have E450 := T443.ext
      replace h434 := h434.ext E450
      replace h424 := h424.ext E450
      replace h356 := h356.ext E450
      have l451 := h434.le
      have S452 := S448.pulls [F435, F447, F423, (is g398), F355] [1] rfl
      obtain ⟨H453, S454, E455, h456, z457⟩ := S452.frzRow h434
      replace h446 := h446.ext E455
      replace h424 := h424.ext E455
      replace h356 := h356.ext E455
      have l458 := h446.le
      obtain ⟨H459, S460, E461, h462, z463⟩ := S454.frzRow h446
      replace h424 := h424.ext E461
      replace h356 := h356.ext E461
      obtain ⟨t464, u465, M⟩ := bnd M
      refine lC 94 (eC [.const (str ([102] : List UInt8)), .tmp 89, .tmp 93] [str ([102] : List UInt8), .slice A432 t427.length c433, .slice A444 t439.length c445] func99) (spec_l2pair.calls k367 w441 H459 ([102] : List UInt8) t427 A432 c433 t439 A444 c445 (h456.ext E461) l451 h462 l458 (St.own' (Fa := []) (Fr := [F423, (is g398), F355]) S460) t464 u465) ?_
      rintro _ w466 ⟨A469, c470, F472, H467, rfl, h471, T468⟩
      refine ⟨_, rfl, ?_⟩
      obtain ⟨S473, K474⟩ := St.call (Fa := []) (Fr := [F423, (is g398), F355]) S460 T468
      replace h424 := h424.move (K474.at 0 rfl)
      replace h356 := h356.move (K474.at 2 rfl)
      have E475 := T468.ext
      replace h424 := h424.ext E475
      replace h356 := h356.ext E475
      refine lV 95 (eM (.int .i64 x357) (by exact e361)) (lV 96 (e_mul (k := .i64) (a := 2) (b := x357) rfl kr) (lV 97 (eAdd .i64 (i64.wrap (2 * x357)) 3) ?_))
      obtain ⟨t476, u477, M⟩ := bnd M
      refine lC 98 (eC [.tmp 97] [.int .i64 (i64.wrap ((i64.wrap (2 * x357)) + 3))] func98) (spec_l2var.calls w466 H467 (i64.wrap ((i64.wrap (2 * x357)) + 3))  (St.own' (Fa := []) (Fr := [F472, F423, (is g398), F355]) S473) t476 u477) ?_
      rintro _ w478 ⟨A481, c482, F484, H479, rfl, h483, T480⟩
      refine ⟨_, rfl, ?_⟩
      obtain ⟨S485, K486⟩ := St.call (Fa := []) (Fr := [F472, F423, (is g398), F355]) S473 T480
      replace h471 := h471.move (K486.at 0 rfl)
      replace h424 := h424.move (K486.at 1 rfl)
      replace h356 := h356.move (K486.at 3 rfl)
      have E487 := T480.ext
      replace h471 := h471.ext E487
      replace h424 := h424.ext E487
      replace h356 := h356.ext E487
      refine lV 99 (eM (.int .i64 x357) (by exact e361)) (lV 100 (e_mul (k := .i64) (a := 2) (b := x357) rfl kr) (lV 101 (eAdd .i64 (i64.wrap (2 * x357)) 3) ?_))
      obtain ⟨t488, u489, M⟩ := bnd M
      refine lC 102 (eC [.tmp 101] [.int .i64 (i64.wrap ((i64.wrap (2 * x357)) + 3))] func98) (spec_l2var.calls w478 H479 (i64.wrap ((i64.wrap (2 * x357)) + 3))  (St.own' (Fa := []) (Fr := [F484, F472, F423, (is g398), F355]) S485) t488 u489) ?_
      rintro _ w490 ⟨A493, c494, F496, H491, rfl, h495, T492⟩
      refine ⟨_, rfl, ?_⟩
      obtain ⟨S497, K498⟩ := St.call (Fa := []) (Fr := [F484, F472, F423, (is g398), F355]) S485 T492
      replace h483 := h483.move (K498.at 0 rfl)
      replace h471 := h471.move (K498.at 1 rfl)
      replace h424 := h424.move (K498.at 2 rfl)
      replace h356 := h356.move (K498.at 4 rfl)
      have E499 := T492.ext
      replace h483 := h483.ext E499
      replace h471 := h471.ext E499
      replace h424 := h424.ext E499
      replace h356 := h356.ext E499
      have l500 := h483.le
      have S501 := S497.pulls [F484, F496, F472, F423, (is g398), F355] [1] rfl
      obtain ⟨H502, S503, E504, h505, z506⟩ := S501.frzRow h483
      replace h495 := h495.ext E504
      replace h471 := h471.ext E504
      replace h424 := h424.ext E504
      replace h356 := h356.ext E504
      have l507 := h495.le
      obtain ⟨H508, S509, E510, h511, z512⟩ := S503.frzRow h495
      replace h471 := h471.ext E510
      replace h424 := h424.ext E510
      replace h356 := h356.ext E510
      obtain ⟨t513, u514, M⟩ := bnd M
      refine lC 103 (eC [.const (str ([102] : List UInt8)), .tmp 98, .tmp 102] [str ([102] : List UInt8), .slice A481 t476.length c482, .slice A493 t488.length c494] func99) (spec_l2pair.calls k367 w490 H508 ([102] : List UInt8) t476 A481 c482 t488 A493 c494 (h505.ext E510) l500 h511 l507 (St.own' (Fa := []) (Fr := [F472, F423, (is g398), F355]) S509) t513 u514) ?_
      rintro _ w515 ⟨A518, c519, F521, H516, rfl, h520, T517⟩
      refine ⟨_, rfl, ?_⟩
      obtain ⟨S522, K523⟩ := St.call (Fa := []) (Fr := [F472, F423, (is g398), F355]) S509 T517
      replace h471 := h471.move (K523.at 0 rfl)
      replace h424 := h424.move (K523.at 1 rfl)
      replace h356 := h356.move (K523.at 3 rfl)
      have E524 := T517.ext
      replace h471 := h471.ext E524
      replace h424 := h424.ext E524
      replace h356 := h356.ext E524
      refine lW 104 (new_blk (v := fun g_ => .slice (some ⟨g_, 0, none⟩) 2 2) (cs := #[.slice A469 t464.length c470, .slice A518 t513.length c519]) (t := 25) S522 kr) ?_
      rintro _ w525 ⟨g526, rfl, b527, S528, K529⟩
      replace h520 := h520.move (K529.at 0 rfl)
      replace h471 := h471.move (K529.at 1 rfl)
      replace h424 := h424.move (K529.at 2 rfl)
      replace h356 := h356.move (K529.at 4 rfl)
      have l530 := h471.le
      have S531 := S528.pulls [F472, (is g526), F521, F423, (is g398), F355] [2] rfl
      obtain ⟨H532, S533, E534, h535, z536⟩ := S531.frzRow h471
      replace h520 := h520.ext E534
      replace h424 := h424.ext E534
      replace h356 := h356.ext E534
      have l537 := h520.le
      have S538 := S533.pulls [F521, (is g526), F423, (is g398), F355] [1] rfl
      obtain ⟨H539, S540, E541, h542, z543⟩ := S538.frzRow h520
      replace h424 := h424.ext E541
      replace h356 := h356.ext E541
      obtain ⟨q544, M⟩ := chk M
      have S545 := S540.pulls [F355, (is g526), F423, (is g398)] [3] rfl
      have S546 := S545.unit
      have S547 := S546.pulls [F355, no, (is g526), F423, (is g398)] [1] rfl
      refine lW 105 (e_append (d := (ro sl65)) (n := x352.length) (xs := x352) (cap := c354) (A := A353) (ys := [t464, t513]) (A2 := (some ⟨g526, 0, none⟩)) (c2 := 2) (z := .slice none 0 0) (bytes := 24) S547 underlying38 kr rfl (by decide) kr rfl kr h356 (elsO_no (d := (ro sl65)) ⟨A469, c470, rfl, l530, (h535.ext E541)⟩ (elsO_no (d := (ro sl65)) ⟨A518, c519, rfl, l537, h542⟩ (elsO_nil _ _ _ no))) (.inr (blk_news b527 rfl)) (show (x352.length + [t464, t513].length) * 24 ≤ _ by first | omega | (simp only [List.length_cons, List.length_nil]; omega)) (by decide)) ?_
      rintro _ w548 ⟨A549, c550, F551, rfl, h552, S553, K554⟩
      replace h424 := h424.move (K554.at 1 rfl)
      refine lV 12 (eA (.slice A549 ((x352 ++ [t464, t513]).length) c550)) (wN (inb_n (tN (wR (lV 73 (eM (.int .i64 x357) (by exact e361)) (lV 74 (eAdd .i64 x357 1) (lV 14 (eA (.int .i64 (i64.wrap (x357 + 1)))) (wN (tN ?_)))))))))
      have S555 := S553.pulls [F423, F551, (is g526), (is g398)] [2] rfl
      have S556 := St.first (Fa := [F423, F551]) (Fr := [(is g526), (is g398)]) S555
      exact ⟨k367, (by omega), _, H539, (x347 ++ [t373, t385]), A421, c422, F423, (x352 ++ [t464, t513]), A549, c550, F551, (i64.wrap (x357 + 1)), rfl, kr, kr, (by exact e360), kr, h424, h552, ((((((((((((((((Y346.trans E384).trans E396).trans E406).trans E413).trans E438).trans E450).trans E455).trans E461).trans E475).trans E487).trans E499).trans E504).trans E510).trans E524).trans E534).trans E541), S556, M⟩
    replace M := ifn q372 M
    refine cF (bF q372) (wp_exit (tE (tE (inb_hit (tN (wQ (wR (lV 106 (eM (.slice A348 x347.length c349) (by exact e358)) ?_))))))))
    obtain ⟨t557, u558, M⟩ := bnd M
    refine lC 107 (eC [.const (.int .i64 0)] [.int .i64 0] func98) (spec_l2var.calls w343 H345 0  (St.own' (Fa := []) (Fr := [F350, F355]) S362) t557 u558) ?_
    rintro _ w559 ⟨A562, c563, F565, H560, rfl, h564, T561⟩
    refine ⟨_, rfl, ?_⟩
    obtain ⟨S566, K567⟩ := St.call (Fa := []) (Fr := [F350, F355]) S362 T561
    replace h351 := h351.move (K567.at 0 rfl)
    replace h356 := h356.move (K567.at 1 rfl)
    have E568 := T561.ext
    replace h351 := h351.ext E568
    replace h356 := h356.ext E568
    refine lW 108 (new_blk (v := fun g_ => .slice (some ⟨g_, 0, none⟩) 1 1) (cs := #[.slice A562 t557.length c563]) (t := 25) S566 kr) ?_
    rintro _ w569 ⟨g570, rfl, b571, S572, K573⟩
    replace h564 := h564.move (K573.at 0 rfl)
    replace h351 := h351.move (K573.at 1 rfl)
    replace h356 := h356.move (K573.at 2 rfl)
    have l574 := h564.le
    have S575 := S572.pulls [F565, (is g570), F350, F355] [1] rfl
    obtain ⟨H576, S577, E578, h579, z580⟩ := S575.frzRow h564
    replace h351 := h351.ext E578
    replace h356 := h356.ext E578
    obtain ⟨q581, M⟩ := chk M
    have S582 := S577.pulls [F350, (is g570), F355] [1] rfl
    have S583 := S582.unit
    have S584 := S583.pulls [F350, no, (is g570), F355] [1] rfl
    refine lW 109 (e_append (d := (ro sl65)) (n := x347.length) (xs := x347) (cap := c349) (A := A348) (ys := [t557]) (A2 := (some ⟨g570, 0, none⟩)) (c2 := 1) (z := .slice none 0 0) (bytes := 24) S584 underlying38 kr rfl (by decide) kr rfl kr h351 (elsO_one1 ⟨A562, c563, rfl, l574, h579⟩) (.inr (blk_news b571 rfl)) (show (x347.length + [t557].length) * 24 ≤ _ by first | omega | (simp only [List.length_cons, List.length_nil]; omega)) (by decide)) ?_
    rintro _ w585 ⟨A586, c587, F588, rfl, h589, S590, K591⟩
    replace h356 := h356.move (K591.at 1 rfl)
    refine lV 11 (eA (.slice A586 ((x347 ++ [t557]).length) c587)) (wN (tN (wQ (wR (lV 110 (eM (.slice A353 x352.length c354) (by exact e359)) ?_)))))
    obtain ⟨t592, u593, M⟩ := bnd M
    refine lC 111 (eC [.const (.int .i64 1)] [.int .i64 1] func98) (spec_l2var.calls w585 H576 1  (St.own' (Fa := []) (Fr := [F588, (is g570), F355]) S590) t592 u593) ?_
    rintro _ w594 ⟨A597, c598, F600, H595, rfl, h599, T596⟩
    refine ⟨_, rfl, ?_⟩
    obtain ⟨S601, K602⟩ := St.call (Fa := []) (Fr := [F588, (is g570), F355]) S590 T596
    replace h589 := h589.move (K602.at 0 rfl)
    replace h356 := h356.move (K602.at 2 rfl)
    have E603 := T596.ext
    replace h589 := h589.ext E603
    replace h356 := h356.ext E603
    refine lW 112 (new_blk (v := fun g_ => .slice (some ⟨g_, 0, none⟩) 1 1) (cs := #[.slice A597 t592.length c598]) (t := 25) S601 kr) ?_
    rintro _ w604 ⟨g605, rfl, b606, S607, K608⟩
    replace h599 := h599.move (K608.at 0 rfl)
    replace h589 := h589.move (K608.at 1 rfl)
    replace h356 := h356.move (K608.at 3 rfl)
    have l609 := h599.le
    have S610 := S607.pulls [F600, (is g605), F588, (is g570), F355] [1] rfl
    obtain ⟨H611, S612, E613, h614, z615⟩ := S610.frzRow h599
    replace h589 := h589.ext E613
    replace h356 := h356.ext E613
    obtain ⟨q616, M⟩ := chk M
    have S617 := S612.pulls [F355, (is g605), F588, (is g570)] [3] rfl
    have S618 := S617.unit
    have S619 := S618.pulls [F355, no, (is g605), F588, (is g570)] [1] rfl
    refine lW 113 (e_append (d := (ro sl65)) (n := x352.length) (xs := x352) (cap := c354) (A := A353) (ys := [t592]) (A2 := (some ⟨g605, 0, none⟩)) (c2 := 1) (z := .slice none 0 0) (bytes := 24) S619 underlying38 kr rfl (by decide) kr rfl kr h356 (elsO_one1 ⟨A597, c598, rfl, l609, h614⟩) (.inr (blk_news b606 rfl)) (show (x352.length + [t592].length) * 24 ≤ _ by first | omega | (simp only [List.length_cons, List.length_nil]; omega)) (by decide)) ?_
    rintro _ w620 ⟨A621, c622, F623, rfl, h624, S625, K626⟩
    replace h589 := h589.move (K626.at 1 rfl)
    refine lV 12 (eA (.slice A621 ((x352 ++ [t592]).length) c622)) (wN (tN (wQ (wR (lV 114 (eM (.slice A586 ((x347 ++ [t557]).length) c587)) ?_)))))
    obtain ⟨t627, u628, M⟩ := bnd M
    refine lC 115 (eC [.const (str ([91, 93] : List UInt8))] [str ([91, 93] : List UInt8)] func79) (spec_l2atom.calls w620 H611 ([91, 93] : List UInt8)  (St.own' (Fa := []) (Fr := [F623, (is g605), F588, (is g570)]) S625) t627 u628) ?_
    rintro _ w629 ⟨A632, c633, F635, H630, rfl, h634, T631⟩
    refine ⟨_, rfl, ?_⟩
    obtain ⟨S636, K637⟩ := St.call (Fa := []) (Fr := [F623, (is g605), F588, (is g570)]) S625 T631
    replace h624 := h624.move (K637.at 0 rfl)
    replace h589 := h589.move (K637.at 2 rfl)
    have E638 := T631.ext
    replace h624 := h624.ext E638
    replace h589 := h589.ext E638
    have l639 := h589.le
    have S640 := S636.pulls [F588, F635, F623, (is g605), (is g570)] [3] rfl
    obtain ⟨H641, S642, E643, h644, z645⟩ := S640.frzRow h589
    replace h634 := h634.ext E643
    replace h624 := h624.ext E643
    replace h644 := h644.unro
    have l646 := h634.le
    obtain ⟨H647, S648, E649, h650, z651⟩ := S642.frzRow h634
    replace h624 := h624.ext E649
    obtain ⟨t652, u653, M⟩ := bnd M
    refine lC 116 (eC [.tmp 114, .tmp 115] [.slice A586 (x347 ++ [t557]).length c587, .slice A632 t627.length c633] func78) (spec_l2list.calls k367 w629 H647 (x347 ++ [t557]) A586 c587 t627 A632 c633 (h644.ext E649) l639 h650 l646 (St.own' (Fa := []) (Fr := [F623, (is g605), (is g570)]) S648) t652 u653) ?_
    rintro _ w654 ⟨A657, c658, F660, H655, rfl, h659, T656⟩
    refine ⟨_, rfl, ?_⟩
    obtain ⟨S661, K662⟩ := St.call (Fa := []) (Fr := [F623, (is g605), (is g570)]) S648 T656
    replace h624 := h624.move (K662.at 0 rfl)
    have E663 := T656.ext
    replace h624 := h624.ext E663
    refine lV 117 (eM (.slice A621 ((x352 ++ [t592]).length) c622)) ?_
    obtain ⟨t664, u665, M⟩ := bnd M
    refine lC 118 (eC [.const (str ([91, 93] : List UInt8))] [str ([91, 93] : List UInt8)] func79) (spec_l2atom.calls w654 H655 ([91, 93] : List UInt8)  (St.own' (Fa := []) (Fr := [F660, F623, (is g605), (is g570)]) S661) t664 u665) ?_
    rintro _ w666 ⟨A669, c670, F672, H667, rfl, h671, T668⟩
    refine ⟨_, rfl, ?_⟩
    obtain ⟨S673, K674⟩ := St.call (Fa := []) (Fr := [F660, F623, (is g605), (is g570)]) S661 T668
    replace h659 := h659.move (K674.at 0 rfl)
    replace h624 := h624.move (K674.at 1 rfl)
    have E675 := T668.ext
    replace h659 := h659.ext E675
    replace h624 := h624.ext E675
    have l676 := h624.le
    have S677 := S673.pulls [F623, F672, F660, (is g605), (is g570)] [2] rfl
    obtain ⟨H678, S679, E680, h681, z682⟩ := S677.frzRow h624
    replace h671 := h671.ext E680
    replace h659 := h659.ext E680
    replace h681 := h681.unro
    have l683 := h671.le
    obtain ⟨H684, S685, E686, h687, z688⟩ := S679.frzRow h671
    replace h659 := h659.ext E686
    obtain ⟨t689, u690, M⟩ := bnd M
    refine lC 119 (eC [.tmp 117, .tmp 118] [.slice A621 (x352 ++ [t592]).length c622, .slice A669 t664.length c670] func78) (spec_l2list.calls k367 w666 H684 (x352 ++ [t592]) A621 c622 t664 A669 c670 (h681.ext E686) l676 h687 l683 (St.own' (Fa := []) (Fr := [F660, (is g605), (is g570)]) S685) t689 u690) ?_
    rintro _ w691 ⟨A694, c695, F697, H692, rfl, h696, T693⟩
    refine ⟨_, rfl, ?_⟩
    obtain ⟨S698, K699⟩ := St.call (Fa := []) (Fr := [F660, (is g605), (is g570)]) S685 T693
    replace h659 := h659.move (K699.at 0 rfl)
    have E700 := T693.ext
    replace h659 := h659.ext E700
    refine lV 2 (eA (.slice A657 t652.length c658)) (lV 3 (eA (.slice A694 t689.length c695)) (wN (tN (wT (tR ?_)))))
    have S701 := S698.pulls [F660, F697, (is g605), (is g570)] [1] rfl
    obtain ⟨H702, F703, S704, E705, h706⟩ := S701.share h659
    replace h696 := h696.ext E705
    have S707 := S704.pulls [F697, F703, (is g605), (is g570)] [1] rfl
    obtain ⟨H708, F709, S710, E711, h712⟩ := S707.share h696
    replace h706 := h706.ext E711
    obtain rfl := sj M
    have S713 := S710.pulls [F703, F709, (is g605), (is g570)] [1] rfl
    have S714 := St.first (Fa := [F703, F709]) (Fr := [(is g605), (is g570)]) S713
    exact ret2 rfl rfl rfl (show _ = .slice A657 t652.length c658 from kr) (show _ = .slice A694 t689.length c695 from kr) ⟨A657, c658, F703, A694, c695, F709, H708, rfl, h706, h712, S714⟩
  replace M := ifn q329 M
  refine cF (bF q329) (wK (tN (wQ (wR (lV 120 (eM (.slice A43 t33.1.length c44)) (lV 121 (eM (.slice A43 t33.1.length c44)) (lV 122 (eM (.pointer (some ⟨g11, 0, none⟩))) ?_)))))))
  have S715 := S82.pulls [F46, (is g11)] [1] rfl
  have l716 := h45.le
  obtain ⟨H717, S718, E719, h720, z721⟩ := S715.frzRow h45
  replace h720 := h720.unro
  obtain ⟨t722, u723, M⟩ := bnd M
  refine lC 123 (eC [.tmp 121, .tmp 122] [.slice A43 t33.1.length c44, .pointer (some ⟨g11, 0, none⟩)] func100) (spec_l13alike.calls k w80 H717 t33.1 A43 c44 t33.2 g11 A38 c39 h720 l716 (h40.ext E719) l41 b42 (St.own' (Fa := [(is g11)]) (Fr := []) S718) t722 u723) ?_
  rintro _ w724 ⟨A727, c728, A732, c733, F735, H725, rfl, h729, l730, b731, h734, T726⟩
  refine ⟨_, rfl, ?_⟩
  obtain ⟨S736, K737⟩ := St.call (Fa := [(is g11)]) (Fr := []) S718 T726
  obtain ⟨H738, S739, E740, v741⟩ := St.thaw2 S715 z721 S736 T726.ext E719
  replace h45 := h45.move v741
  replace h45 := h45.ext E740
  replace h734 := Row.free (H' := H738) (free_iso (free_pair (free_scal _ _) (free_pair (free_scal _ _) (free_slice (free_scal _ _))))) h734
  refine lV 2 (eA (.slice A43 t33.1.length c44)) (lV 3 (eA (.slice A732 t722.1.length c733)) (wN (tN (wT ?_))))
  have S742 := S739.pulls [F735, F46, (is g11)] [2] rfl
  obtain ⟨H743, F744, S745, E746, h747⟩ := S742.share h734
  replace h45 := h45.ext E746
  obtain rfl := sj M
  have S748 := S745.pulls [F46, F744, (is g11)] [1] rfl
  have S749 := St.first (Fa := [F46, F744]) (Fr := [(is g11)]) S748
  exact ret2 rfl rfl rfl (show _ = .slice A43 t33.1.length c44 from kr) (show _ = .slice A732 t722.1.length c733 from kr) ⟨A43, c44, F46, A732, c733, F744, H743, rfl, h45, h747, S749⟩

/-! spec_l5index -/
structure GL5st where
  sub_ : List Binding
  pairs_ : Int
  deriving Inhabited
def st63 : Ty Binding := iso (pair tInt sl65) (fun x => (x.var, x.term))
theorem st63_open {H : Hp} {x : Binding} {cs : List Value} (h : st63.R H x cs) : ∃ (A1 : Option Addr) (c1 : Nat), cs = [.int .i64 x.var, .slice A1 x.term.length c1] ∧ x.term.length ≤ c1 ∧ Rd st65 H A1 x.term := by
  obtain ⟨_, _, rfl, rfl, ⟨A1, c1, rfl, l1, h1⟩⟩ := h
  exact ⟨A1, c1, rfl, l1, h1⟩
theorem st63_mkR {H : Hp} {x : Binding} {A1 : Option Addr} {c1 : Nat} (l1 : x.term.length ≤ c1) (h1 : Rd st65 H A1 x.term) : st63.R H x [.int .i64 x.var, .slice A1 x.term.length c1] := ⟨[.int .i64 x.var], [.slice A1 x.term.length c1], rfl, rfl, ⟨A1, c1, rfl, l1, h1⟩⟩
theorem st63_mkO {H X : Hp} {F1 : Foot} {x : Binding} {A1 : Option Addr} {c1 : Nat} (h1 : Row st65 65 H X F1 A1 c1 x.term) : st63.O H X F1 x [.int .i64 x.var, .slice A1 x.term.length c1] := (pairO0 (a := tInt) (b := sl65) (x := (x.var, x.term)) (c0 := [.int .i64 x.var]) (c1 := [.slice A1 x.term.length c1]) rfl ⟨A1, c1, rfl, h1⟩)
theorem st63_r0 {H : Hp} {x : Binding} {cs : List Value} (h : st63.R H x cs) : cs[0]? = some (.int .i64 x.var) := by obtain ⟨_, _, rfl, _, _⟩ := st63_open h; rfl
def z63 : Binding := ⟨(0 : Int), ([] : List Cell)⟩
def spec_l5index.l0 : Nat → (List Binding) → Int → Int → Int → Option Int
  | 0, _, _, _, _ => none
  | k20 + 1, x1, x6, x9, x10 => (if x9 < x10 then (if 0 ≤ (i64.wrap (Int.tdiv (i64.wrap (x9 + x10)) 2)) then (if (i64.wrap (Int.tdiv (i64.wrap (x9 + x10)) 2)) < (x1.length : Int) then (if ((x1.getD (((i64.wrap (Int.tdiv (i64.wrap (x9 + x10)) 2))).toNat) z63).var) < x6 then (spec_l5index.l0 k20 x1 x6 (i64.wrap ((i64.wrap (Int.tdiv (i64.wrap (x9 + x10)) 2)) + 1)) x10) else (spec_l5index.l0 k20 x1 x6 x9 (i64.wrap (Int.tdiv (i64.wrap (x9 + x10)) 2)))) else none) else none) else (if x9 < (x1.length : Int) then (if 0 ≤ x9 then (if ((x1.getD ((x9).toNat) z63).var) = x6 then some x9 else some (-1)) else none) else some (-1)))
def spec_l5index.f (k : Nat) (x1 : List Binding) (x6 : Int) : Option Int := (spec_l5index.l0 k x1 x6 0 (x1.length : Int))
theorem spec_l5index.calls (k : Nat) (w : World) (H : Hp) (x1 : List Binding) (A2 : Option Addr) (c3 : Nat) (x6 : Int) (h4 : Rd st63 H A2 x1) (l5 : x1.length ≤ c3) (S : Own [] H w) (r : Int) (M : spec_l5index.f k x1 x6 = some r) :
    Calls Try.prog 85 #[.slice A2 x1.length c3, .int .i64 x6] w (fun e e_w => e = .returned (.int .i64 r) ∧ Chg no w e_w) := by
  rw [spec_l5index.f] at M
  refine enter (l := [.slice A2 x1.length c3, .int .i64 x6]) 41 func85 rfl rfl rfl ?_
  have S0_ := S.st
  refine wQ (wR (lV 4 (eA (.int .i64 0)) (wN (tN (wQ (wR (lV 5 (eA (.int .i64 0)) (wN (tN (wQ (wR (lV 8 (eM (.slice A2 x1.length c3)) (lV 9 (e_len (A := A2) (n := x1.length) (c := c3) underlying52 kr) (lV 6 (eA (.int .i64 (x1.length : Int))) (wN (tN (wQ (wp_block ?_))))))))))))))))))
  refine wp_loop_g (fun k18 a19 w7 => ∃ (f8 : Nat → Value) (x9 : Int) (x10 : Int), a19 = mk 41 f8 ∧ f8 0 = .slice A2 x1.length c3 ∧ f8 1 = .int .i64 x6 ∧ f8 5 = .int .i64 x9 ∧ f8 6 = .int .i64 x10 ∧ St (anyOf []) H w [] H w7 ∧ spec_l5index.l0 k18 x1 x6 x9 x10 = some r) k ⟨_, 0, (x1.length : Int), rfl, kr, kr, kr, kr, S0_, M⟩ ?_
  clear M
  rintro k18 a19 w7 ⟨f8, x9, x10, rfl, e11, e12, e13, e14, S15, M⟩
  rcases k18 with _ | k20
  · rw [spec_l5index.l0] at M
    cases M
  rw [spec_l5index.l0] at M
  refine wQ (wQ (wR (lV 10 (eM (.int .i64 x9) (by exact e13)) (lV 11 (eM (.int .i64 x10) (by exact e14)) (lV 12 (eLt .i64 x9 x10) (wN (tN ?_)))))))
  by_cases q21 : x9 < x10
  · replace M := ifp q21 M
    refine cT (bT q21) (wK (tN (wp_block (wQ (wR (lV 13 (eM (.int .i64 x9) (by exact e13)) (lV 14 (eM (.int .i64 x10) (by exact e14)) (lV 15 (eAdd .i64 x9 x10) (lV 16 (e_quo (k := .i64) (a := (i64.wrap (x9 + x10))) (b := 2) kr rfl (by decide)) (lV 7 (eA (.int .i64 (i64.wrap (Int.tdiv (i64.wrap (x9 + x10)) 2)))) (wN (tN (wQ (wR (lV 17 (eM (.slice A2 x1.length c3) (by exact e11)) (lV 18 (eM (.int .i64 (i64.wrap (Int.tdiv (i64.wrap (x9 + x10)) 2)))) ?_))))))))))))))))
    obtain ⟨q22, M⟩ := chk M
    obtain ⟨q23, M⟩ := chk M
    obtain ⟨b24, o25, e26⟩ := Rd.addr h4 (show ((i64.wrap (Int.tdiv (i64.wrap (x9 + x10)) 2))).toNat < x1.length by omega)
    obtain ⟨y27, r28, k29⟩ := Rd.at h4 e26 (getD_some z63 (show ((i64.wrap (Int.tdiv (i64.wrap (x9 + x10)) 2))).toNat < x1.length by omega))
    obtain ⟨A30, c31, rfl, l32, h33⟩ := st63_open r28
    refine lV 19 (eI b24 o25 x1.length c3 2 (i64.wrap (Int.tdiv (i64.wrap (x9 + x10)) 2)) .i64 underlying52 e26 q22 q23) (lV 20 (eD b24 (o25 + ((i64.wrap (Int.tdiv (i64.wrap (x9 + x10)) 2)) : Int).toNat * 2) 0 1 underlying63) (lV 21 (eL ⟨b24, o25 + ((i64.wrap (Int.tdiv (i64.wrap (x9 + x10)) 2)) : Int).toNat * 2 + 0, none⟩ (.int .i64 ((x1.getD (((i64.wrap (Int.tdiv (i64.wrap (x9 + x10)) 2))).toNat) z63).var)) underlying3 (hpx (S15.inv.cell (k29 0 _ rfl)))) (lV 22 (eM (.int .i64 x6) (by exact e12)) (lV 23 (eLt .i64 (x1.getD (((i64.wrap (Int.tdiv (i64.wrap (x9 + x10)) 2))).toNat) z63).var x6) (wN (tN ?_))))))
    by_cases q34 : ((x1.getD (((i64.wrap (Int.tdiv (i64.wrap (x9 + x10)) 2))).toNat) z63).var) < x6
    · replace M := ifp q34 M
      refine cT (bT q34) (wR (lV 24 (eM (.int .i64 (i64.wrap (Int.tdiv (i64.wrap (x9 + x10)) 2)))) (lV 25 (eAdd .i64 (i64.wrap (Int.tdiv (i64.wrap (x9 + x10)) 2)) 1) (lV 5 (eA (.int .i64 (i64.wrap ((i64.wrap (Int.tdiv (i64.wrap (x9 + x10)) 2)) + 1)))) (wN (inb_n (tN ?_)))))))
      exact ⟨k20, (by omega), _, (i64.wrap ((i64.wrap (Int.tdiv (i64.wrap (x9 + x10)) 2)) + 1)), x10, rfl, (by exact e11), (by exact e12), kr, (by exact e14), S15, M⟩
    replace M := ifn q34 M
    refine cF (bF q34) (wR (lV 26 (eM (.int .i64 (i64.wrap (Int.tdiv (i64.wrap (x9 + x10)) 2)))) (lV 6 (eA (.int .i64 (i64.wrap (Int.tdiv (i64.wrap (x9 + x10)) 2)))) (wN (inb_n (tN ?_))))))
    exact ⟨k20, (by omega), _, x9, (i64.wrap (Int.tdiv (i64.wrap (x9 + x10)) 2)), rfl, (by exact e11), (by exact e12), (by exact e13), kr, S15, M⟩
  replace M := ifn q21 M
  refine cF (bF q21) (wp_exit (tE (tE (inb_hit (tN (wQ (wQ (wR (lV 27 (eM (.int .i64 x9) (by exact e13)) (lV 28 (eM (.slice A2 x1.length c3) (by exact e11)) (lV 29 (e_len (A := A2) (n := x1.length) (c := c3) underlying52 kr) (lV 30 (eLt .i64 x9 (x1.length : Int)) (lV 31 (eM (.bool (decide (x9 < (x1.length : Int))))) ?_)))))))))))))
  by_cases q35 : x9 < (x1.length : Int)
  · replace M := ifp q35 M
    refine lG 32 31 (bT q35) (eM (.slice A2 x1.length c3) (by exact e11)) (lG 33 31 (bT q35) (eM (.int .i64 x9) (by exact e13)) ?_)
    obtain ⟨q36, M⟩ := chk M
    obtain ⟨b37, o38, e39⟩ := Rd.addr h4 (show (x9).toNat < x1.length by omega)
    obtain ⟨y40, r41, k42⟩ := Rd.at h4 e39 (getD_some z63 (show (x9).toNat < x1.length by omega))
    obtain ⟨A43, c44, rfl, l45, h46⟩ := st63_open r41
    refine lG 34 31 (bT q35) (eI b37 o38 x1.length c3 2 x9 .i64 underlying52 e39 q36 q35) (lG 35 31 (bT q35) (eD b37 (o38 + (x9 : Int).toNat * 2) 0 1 underlying63) (lG 36 31 (bT q35) (eL ⟨b37, o38 + (x9 : Int).toNat * 2 + 0, none⟩ (.int .i64 ((x1.getD ((x9).toNat) z63).var)) underlying3 (hpx (S15.inv.cell (k42 0 _ rfl)))) (lG 37 31 (bT q35) (eM (.int .i64 x6) (by exact e12)) (lG 38 31 (bT q35) (eEq .i64 (x1.getD ((x9).toNat) z63).var x6) (lV 39 (eT (.bool (decide (((x1.getD ((x9).toNat) z63).var) = x6))) (bT q35)) (wN (tN ?_)))))))
    by_cases q47 : ((x1.getD ((x9).toNat) z63).var) = x6
    · replace M := ifp q47 M
      refine cT (bT q47) (wQ (wR (lV 40 (eM (.int .i64 x9) (by exact e13)) (lV 4 (eA (.int .i64 x9)) (wN (tN (wT (tR ?_))))))))
      obtain rfl := sj M
      exact ret1 rfl rfl  (show _ = .int .i64 x9 from kr) ⟨rfl, S15.chg⟩
    replace M := ifn q47 M
    refine cF (bF q47) (wK (tN (wQ (wR (lV 4 (eA (.int .i64 (-1))) (wN (tN (wT ?_))))))))
    obtain rfl := sj M
    exact ret1 rfl rfl  (show _ = .int .i64 (-1) from kr) ⟨rfl, S15.chg⟩
  replace M := ifn q35 M
  refine lK 31 false (bF q35) ?_
  refine lK 31 false (bF q35) ?_
  refine lK 31 false (bF q35) ?_
  refine lK 31 false (bF q35) ?_
  refine lK 31 false (bF q35) ?_
  refine lK 31 false (bF q35) ?_
  refine lK 31 false (bF q35) ?_
  refine lV 39 (eF (.bool false) (bF q35)) (wN (tN (cond_f rfl kr (wK (tN (wQ (wR (lV 4 (eA (.int .i64 (-1))) (wN (tN (wT ?_)))))))))))
  obtain rfl := sj M
  exact ret1 rfl rfl  (show _ = .int .i64 (-1) from kr) ⟨rfl, S15.chg⟩

/-! spec_l5walk -/
def spec_l5walk.l0 : Nat → GL5st → (List Cell) → Option (List Cell)
  | 0, _, _ => none
  | k27 + 1, x1, x15 => (if 0 < (x15.length : Int) then (if ((x15.getD 0 z65).kind) = 0 then ((spec_l5index.f k27 x1.sub_ ((x15.getD 0 z65).n)).bind fun t50 => (if t50 < 0 then some x15 else (if 0 ≤ t50 then (if t50 < (x1.sub_.length : Int) then (spec_l5walk.l0 k27 x1 ((x1.sub_.getD ((t50).toNat) z63).term)) else none) else none))) else some x15) else none)
def spec_l5walk.f (k : Nat) (x1 : GL5st) (x8 : List Cell) : Option (List Cell) := (spec_l5walk.l0 k x1 x8)
theorem spec_l5walk.calls (k : Nat) (w : World) (H : Hp) (x1 : GL5st) (g2 : Nat) (A4 : Option Addr) (c5 : Nat) (F7 : Foot) (x8 : List Cell) (A9 : Option Addr) (c10 : Nat) (h6 : Row (ro st63) 63 H (hp w) F7 A4 c5 x1.sub_) (b3 : w.heap[g2]? = some (.cells #[.slice A4 x1.sub_.length c5, .int .i64 x1.pairs_] 106 (0, 0))) (h11 : Rd st65 H A9 x8) (l12 : x8.length ≤ c10) (S : Own [F7, (is g2)] H w) (r : List Cell) (M : spec_l5walk.f k x1 x8 = some r) :
    Calls Try.prog 115 #[.pointer (some ⟨g2, 0, none⟩), .slice A9 x8.length c10] w (fun e e_w => ∃ (A_1 : Option Addr) (c_1 : Nat) (H_ : Hp), e = .returned (.slice A_1 r.length c_1) ∧ Row (ro st63) 63 H_ (hp e_w) F7 A4 c5 x1.sub_ ∧ e_w.heap[g2]? = some (.cells #[.slice A4 x1.sub_.length c5, .int .i64 x1.pairs_] 106 (0, 0)) ∧ Rd st65 H_ A_1 r ∧ r.length ≤ c_1 ∧ St (anyOf [F7, (is g2)]) H w [F7, (is g2)] H_ e_w) := by
  rw [spec_l5walk.f] at M
  refine enter (l := [.pointer (some ⟨g2, 0, none⟩), .slice A9 x8.length c10]) 32 func115 rfl rfl rfl ?_
  have S0_ := S.st
  refine wQ (wR (lV 4 (eA (.slice none 0 0)) (wN (tN (wQ (wp_block ?_))))))
  refine wp_loop_g (fun k25 a26 w13 => ∃ (f14 : Nat → Value) (x15 : List Cell) (A16 : Option Addr) (c17 : Nat), a26 = mk 32 f14 ∧ f14 0 = .pointer (some ⟨g2, 0, none⟩) ∧ f14 1 = .slice A16 x15.length c17 ∧ Row (ro st63) 63 H (hp w13) F7 A4 c5 x1.sub_ ∧ w13.heap[g2]? = some (.cells #[.slice A4 x1.sub_.length c5, .int .i64 x1.pairs_] 106 (0, 0)) ∧ Rd st65 H A16 x15 ∧ x15.length ≤ c17 ∧ St (anyOf [F7, (is g2)]) H w [F7, (is g2)] H w13 ∧ spec_l5walk.l0 k25 x1 x15 = some r) k ⟨_, x8, A9, c10, rfl, kr, kr, h6, b3, h11, l12, S0_, M⟩ ?_
  clear M
  rintro k25 a26 w13 ⟨f14, x15, A16, c17, rfl, e20, e21, h6, b3, h18, l19, S22, M⟩
  rcases k25 with _ | k27
  · rw [spec_l5walk.l0] at M
    cases M
  rw [spec_l5walk.l0] at M
  refine wQ (wQ (wR (lV 6 (eM (.slice A16 x15.length c17) (by exact e21)) ?_)))
  obtain ⟨q28, M⟩ := chk M
  obtain ⟨b29, o30, e31⟩ := Rd.addr h18 (show 0 < x15.length by omega)
  obtain ⟨y32, r33, k34⟩ := Rd.at h18 e31 (getD_some z65 (show 0 < x15.length by omega))
  obtain ⟨A35, c36, rfl, l37, h38⟩ := st65_open r33
  refine lV 7 (e_indexAddr (b := b29) (off := o30) (n := x15.length) (c := c17) (sz := 3) (i := 0) (k := .i64) underlying25 e31 kr kr rfl (by omega) q28) (lV 8 (eD b29 (o30 + (0 : Int).toNat * 3) 0 1 underlying65) (lV 9 (eL ⟨b29, o30 + (0 : Int).toNat * 3 + 0, none⟩ (.int .i64 ((x15.getD 0 z65).kind)) underlying3 (hpx (S22.inv.cell (k34 0 _ rfl)))) (lV 10 (eEq .i64 (x15.getD 0 z65).kind 0) (wN (tN ?_)))))
  by_cases q39 : ((x15.getD 0 z65).kind) = 0
  · replace M := ifp q39 M
    refine cT (bT q39) (wK (tN (wp_block (wQ ?_))))
    refine region_quiet kr kr (qV 11 (fun wq_ hq_ => eM (.pointer (some ⟨g2, 0, none⟩)) (by exact e20)) (qV 12 (fun wq_ hq_ => eN ⟨g2, 0, none⟩) (qV 13 (fun wq_ hq_ => eD g2 0 0 1 underlying106) (qV 14 (fun wq_ hq_ => eL ⟨g2, 0 + 0, none⟩ (.slice A4 x1.sub_.length c5) underlying52 (blk_cell ((S22.still hq_).2.blk 1 rfl b3) rfl)) (qV 15 (fun wq_ hq_ => eM (.slice A16 x15.length c17) (by exact e21)) ?_)))))
    obtain ⟨b40, o41, e42⟩ := Rd.addr h18 (show 0 < x15.length by omega)
    obtain ⟨y43, r44, k45⟩ := Rd.at h18 e42 (getD_some z65 (show 0 < x15.length by omega))
    obtain ⟨A46, c47, rfl, l48, h49⟩ := st65_open r44
    refine qV 16 (fun wq_ hq_ => e_indexAddr (b := b40) (off := o41) (n := x15.length) (c := c17) (sz := 3) (i := 0) (k := .i64) underlying25 e42 kr kr rfl (by omega) q28) (qV 17 (fun wq_ hq_ => eD b40 (o41 + (0 : Int).toNat * 3) 1 1 underlying65) (qV 18 (fun wq_ hq_ => eL ⟨b40, o41 + (0 : Int).toNat * 3 + 1, none⟩ (.int .i64 ((x15.getD 0 z65).n)) underlying3 (hpx ((S22.still hq_).1.inv.cell (k45 1 _ rfl)))) ?_))
    obtain ⟨t50, u51, M⟩ := bnd M
    refine qcall (v := .int .i64 t50) (d := 19) rfl rfl kr (fun w_ => eC [.tmp 14, .tmp 18] [.slice A4 x1.sub_.length c5, .int .i64 ((x15.getD 0 z65).n)] func85) (fun wq_ hq_ => (by obtain ⟨S_, K_⟩ := S22.still hq_; replace h6 := h6.move (K_.at 0 rfl); replace b3 := K_.blk 1 rfl b3; have l52 := h6.le; obtain ⟨H53, S54, E55, h56, z57⟩ := S_.frzRow h6; replace h56 := h56.unro; exact (spec_l5index.calls k27 wq_ H53 x1.sub_ A4 c5 ((x15.getD 0 z65).n) h56 l52 S54.own0 t50 u51))) (qV 5 (fun wq_ hq_ => eA (.int .i64 t50)) ?_)
    refine wpQuiet_nil ?_
    intro w58 C61
    obtain ⟨S59, K60⟩ := S22.still C61
    replace h6 := h6.move (K60.at 0 rfl)
    replace b3 := K60.blk 1 rfl b3
    refine tN (wQ (wQ (wR (lV 20 (eM (.int .i64 t50)) (lV 21 (eLt .i64 t50 0) (wN (tN ?_)))))))
    by_cases q62 : t50 < 0
    · replace M := ifp q62 M
      refine cT (bT q62) (wQ (wR (lV 22 (eM (.slice A16 x15.length c17) (by exact e21)) (lV 4 (eA (.slice A16 x15.length c17)) (wN (tN (wT (tR (inb_r (tR (inb_r (tR ?_))))))))))))
      obtain rfl := sj M
      exact ret1 rfl rfl  (show _ = .slice A16 x15.length c17 from kr) ⟨A16, c17, H, rfl, h6, b3, h18, l19, S59⟩
    replace M := ifn q62 M
    refine cF (bF q62) (wK (tN (wR (lV 23 (eM (.pointer (some ⟨g2, 0, none⟩)) (by exact e20)) (lV 24 (eN ⟨g2, 0, none⟩) (lV 25 (eD g2 0 0 1 underlying106) (lV 26 (eL ⟨g2, 0 + 0, none⟩ (.slice A4 x1.sub_.length c5) underlying52 (blk_cell b3 rfl)) (lV 27 (eM (.int .i64 t50)) ?_))))))))
    obtain ⟨q63, M⟩ := chk M
    obtain ⟨q64, M⟩ := chk M
    obtain ⟨b65, e67⟩ := Row.addr h6 (show (t50).toNat < x1.sub_.length by omega)
    refine lV 28 (eI b65 0 x1.sub_.length c5 2 t50 .i64 underlying52 e67 q63 q64) (lV 29 (eD b65 (0 + (t50 : Int).toNat * 2) 1 1 underlying63) ?_)
    obtain ⟨y68, F69, r70, s71, k72⟩ := Row.at h6 e67 (getD_some z63 (show (t50).toNat < x1.sub_.length by omega))
    obtain ⟨A73, c74, rfl, l75, h76⟩ := st63_open r70
    refine lV 30 (eL ⟨b65, 0 + (t50 : Int).toNat * 2 + 1, none⟩ (.slice A73 ((x1.sub_.getD ((t50).toNat) z63).term).length c74) underlying25 (hpx (k72 1 _ rfl))) (lV 1 (eA (.slice A73 ((x1.sub_.getD ((t50).toNat) z63).term).length c74)) (wN (inb_n (tN ?_))))
    exact ⟨k27, (by omega), _, ((x1.sub_.getD ((t50).toNat) z63).term), A73, c74, rfl, (by exact e20), kr, h6, b3, h76, l75, S59, M⟩
  replace M := ifn q39 M
  refine cF (bF q39) (wp_exit (tE (tE (inb_hit (tN (wQ (wR (lV 31 (eM (.slice A16 x15.length c17) (by exact e21)) (lV 4 (eA (.slice A16 x15.length c17)) (wN (tN (wT ?_))))))))))))
  obtain rfl := sj M
  exact ret1 rfl rfl  (show _ = .slice A16 x15.length c17 from kr) ⟨A16, c17, H, rfl, h6, b3, h18, l19, S22⟩

/-! spec_l5bind -/
def spec_l5bind.l0 : Nat → GL5st → Int → (List Cell) → Int → Option GL5st
  | 0, _, _, _, _ => none
  | k26 + 1, x1, x8, x9, x16 => (if x16 < (x1.sub_.length : Int) then (if 0 ≤ x16 then (if ((x1.sub_.getD ((x16).toNat) z63).var) < x8 then (spec_l5bind.l0 k26 x1 x8 x9 (i64.wrap (x16 + 1))) else (if x16 ≤ (x1.sub_.length : Int) then (if 0 + (x1.sub_.take ((x16 : Int).toNat)).length ≤ 4398046511104 then (if (x1.sub_.take ((x16 : Int).toNat)).length + 1 ≤ 4398046511104 then (if ((x1.sub_.take ((x16 : Int).toNat)) ++ [(⟨x8, x9⟩ : Binding)]).length + (x1.sub_.drop ((x16 : Int).toNat)).length ≤ 4398046511104 then some (⟨(((x1.sub_.take ((x16 : Int).toNat)) ++ [(⟨x8, x9⟩ : Binding)]) ++ (x1.sub_.drop ((x16 : Int).toNat))), x1.pairs_⟩ : GL5st) else none) else none) else none) else none)) else none) else (if 0 ≤ x16 then (if x16 ≤ (x1.sub_.length : Int) then (if 0 + (x1.sub_.take ((x16 : Int).toNat)).length ≤ 4398046511104 then (if (x1.sub_.take ((x16 : Int).toNat)).length + 1 ≤ 4398046511104 then (if ((x1.sub_.take ((x16 : Int).toNat)) ++ [(⟨x8, x9⟩ : Binding)]).length + (x1.sub_.drop ((x16 : Int).toNat)).length ≤ 4398046511104 then some (⟨(((x1.sub_.take ((x16 : Int).toNat)) ++ [(⟨x8, x9⟩ : Binding)]) ++ (x1.sub_.drop ((x16 : Int).toNat))), x1.pairs_⟩ : GL5st) else none) else none) else none) else none) else none))
def spec_l5bind.f (k : Nat) (x1 : GL5st) (x8 : Int) (x9 : List Cell) : Option GL5st := (spec_l5bind.l0 k x1 x8 x9 0)
theorem spec_l5bind.calls (k : Nat) (w : World) (H : Hp) (x1 : GL5st) (g2 : Nat) (A4 : Option Addr) (c5 : Nat) (F7 : Foot) (x8 : Int) (x9 : List Cell) (A10 : Option Addr) (c11 : Nat) (h6 : Row (ro st63) 63 H (hp w) F7 A4 c5 x1.sub_) (b3 : w.heap[g2]? = some (.cells #[.slice A4 x1.sub_.length c5, .int .i64 x1.pairs_] 106 (0, 0))) (h12 : Rd st65 H A10 x9) (l13 : x9.length ≤ c11) (S : Own [F7, (is g2)] H w) (r : GL5st) (M : spec_l5bind.f k x1 x8 x9 = some r) :
    Calls Try.prog 116 #[.pointer (some ⟨g2, 0, none⟩), .int .i64 x8, .slice A10 x9.length c11] w (fun e e_w => ∃ (A_1 : Option Addr) (c_1 : Nat) (F_1 : Foot) (H_ : Hp), e = .returned (.tuple #[]) ∧ Row (ro st63) 63 H_ (hp e_w) F_1 A_1 c_1 r.sub_ ∧ e_w.heap[g2]? = some (.cells #[.slice A_1 r.sub_.length c_1, .int .i64 r.pairs_] 106 (0, 0)) ∧ St (anyOf [F7, (is g2)]) H w [(is g2), F_1] H_ e_w) := by
  rw [spec_l5bind.f] at M
  refine enter (l := [.pointer (some ⟨g2, 0, none⟩), .int .i64 x8, .slice A10 x9.length c11]) 54 func116 rfl rfl rfl ?_
  have S0_ := S.st
  refine wQ (wR (lV 6 (eA (.int .i64 0)) (wN (tN (wQ (wp_block ?_))))))
  refine wp_loop_g (fun k24 a25 w14 => ∃ (f15 : Nat → Value) (x16 : Int), a25 = mk 54 f15 ∧ f15 0 = .pointer (some ⟨g2, 0, none⟩) ∧ f15 1 = .int .i64 x8 ∧ f15 2 = .slice A10 x9.length c11 ∧ f15 6 = .int .i64 x16 ∧ Row (ro st63) 63 H (hp w14) F7 A4 c5 x1.sub_ ∧ w14.heap[g2]? = some (.cells #[.slice A4 x1.sub_.length c5, .int .i64 x1.pairs_] 106 (0, 0)) ∧ St (anyOf [F7, (is g2)]) H w [F7, (is g2)] H w14 ∧ spec_l5bind.l0 k24 x1 x8 x9 x16 = some r) k ⟨_, 0, rfl, kr, kr, kr, kr, h6, b3, S0_, M⟩ ?_
  clear M
  rintro k24 a25 w14 ⟨f15, x16, rfl, e17, e18, e19, e20, h6, b3, S21, M⟩
  rcases k24 with _ | k26
  · rw [spec_l5bind.l0] at M
    cases M
  rw [spec_l5bind.l0] at M
  refine wQ (wQ (wR (lV 8 (eM (.int .i64 x16) (by exact e20)) (lV 9 (eM (.pointer (some ⟨g2, 0, none⟩)) (by exact e17)) (lV 10 (eN ⟨g2, 0, none⟩) (lV 11 (eD g2 0 0 1 underlying106) (lV 12 (eL ⟨g2, 0 + 0, none⟩ (.slice A4 x1.sub_.length c5) underlying52 (blk_cell b3 rfl)) (lV 13 (e_len (A := A4) (n := x1.sub_.length) (c := c5) underlying52 kr) (lV 14 (eLt .i64 x16 (x1.sub_.length : Int)) (lV 15 (eM (.bool (decide (x16 < (x1.sub_.length : Int))))) ?_))))))))))
  by_cases q27 : x16 < (x1.sub_.length : Int)
  · replace M := ifp q27 M
    refine lG 16 15 (bT q27) (eM (.pointer (some ⟨g2, 0, none⟩)) (by exact e17)) (lG 17 15 (bT q27) (eN ⟨g2, 0, none⟩) (lG 18 15 (bT q27) (eD g2 0 0 1 underlying106) (lG 19 15 (bT q27) (eL ⟨g2, 0 + 0, none⟩ (.slice A4 x1.sub_.length c5) underlying52 (blk_cell b3 rfl)) (lG 20 15 (bT q27) (eM (.int .i64 x16) (by exact e20)) ?_))))
    obtain ⟨q28, M⟩ := chk M
    obtain ⟨b29, e31⟩ := Row.addr h6 (show (x16).toNat < x1.sub_.length by omega)
    refine lG 21 15 (bT q27) (eI b29 0 x1.sub_.length c5 2 x16 .i64 underlying52 e31 q28 q27) (lG 22 15 (bT q27) (eD b29 (0 + (x16 : Int).toNat * 2) 0 1 underlying63) (lG 23 15 (bT q27) (eL ⟨b29, 0 + (x16 : Int).toNat * 2 + 0, none⟩ (.int .i64 ((x1.sub_.getD ((x16).toNat) z63).var)) underlying3 (hpx (Row.pick (j := 0) (u := .int .i64 ((x1.sub_.getD ((x16).toNat) z63).var)) h6 e31 (getD_some z63 (show (x16).toNat < x1.sub_.length by omega)) (fun _ _ o_ => st63_r0 o_)))) (lG 24 15 (bT q27) (eM (.int .i64 x8) (by exact e18)) (lG 25 15 (bT q27) (eLt .i64 (x1.sub_.getD ((x16).toNat) z63).var x8) (lV 26 (eT (.bool (decide (((x1.sub_.getD ((x16).toNat) z63).var) < x8))) (bT q27)) (wN (tN ?_)))))))
    by_cases q32 : ((x1.sub_.getD ((x16).toNat) z63).var) < x8
    · replace M := ifp q32 M
      refine cT (bT q32) (wK (tN (wp_block (wR (lV 27 (eM (.int .i64 x16) (by exact e20)) (lV 28 (eAdd .i64 x16 1) (lV 6 (eA (.int .i64 (i64.wrap (x16 + 1)))) (wN (inb_n (tN ?_))))))))))
      exact ⟨k26, (by omega), _, (i64.wrap (x16 + 1)), rfl, (by exact e17), (by exact e18), (by exact e19), kr, h6, b3, S21, M⟩
    replace M := ifn q32 M
    refine cF (bF q32) (wp_exit (tE (tE (inb_hit (tN (wQ (wR (lV 7 (eA (.slice none 0 0)) (wN (tN (wQ (wR (lV 29 (eM (.slice none 0 0)) (lV 30 (eM (.pointer (some ⟨g2, 0, none⟩)) (by exact e17)) (lV 31 (eN ⟨g2, 0, none⟩) (lV 32 (eD g2 0 0 1 underlying106) (lV 33 (eL ⟨g2, 0 + 0, none⟩ (.slice A4 x1.sub_.length c5) underlying52 (blk_cell b3 rfl)) (lV 34 (eM (.int .i64 x16) (by exact e20)) ?_))))))))))))))))))
    have l33 := h6.le
    obtain ⟨H34, S35, E36, h37, z38⟩ := S21.frzRow h6
    replace h37 := h37.unro
    obtain ⟨q39, M⟩ := chk M
    refine lV 35 (e_slice_h (xs := x1.sub_) (n := x1.sub_.length) (m := 2) (cap := c5) (A := A4) (b := x16) (k2 := .i64) underlying52 kr kr kr q28 q39 (by have := l33; have := (rfl : x1.sub_.length = x1.sub_.length); omega) (take_len q28 q39 rfl)) ?_
    have h40 := Rd.take (n := (x16 : Int).toNat) h37
    have l41 : (x1.sub_.take ((x16 : Int).toNat)).length ≤ c5 := by rw [List.length_take]; have := l33; omega
    obtain ⟨y42, h43, h44⟩ := Rd.news (d := (ro st63)) (ro_ro _) S35 (Rd.toro h40)
    obtain ⟨q45, M⟩ := chk M
    have S46 := S35.unit
    have S47 := S46.unit
    have S48 := S47.pulls [no, no, (is g2)] [1] rfl
    refine lW 36 (e_append (d := (ro st63)) (n := 0) (xs := []) (cap := 0) (A := none) (ys := (x1.sub_.take ((x16 : Int).toNat))) (A2 := A4) (c2 := c5) (z := .agg #[.int .i64 0, .slice none 0 0]) (bytes := 32) S48 underlying52 kr rfl (by decide) kr rfl kr (Row.nil _ _ _ _ no) h43 h44 (show (0 + (x1.sub_.take ((x16 : Int).toNat)).length) * 32 ≤ _ by first | omega | (simp only [List.length_cons, List.length_nil]; omega)) (by decide)) ?_
    rintro _ w49 ⟨A50, c51, F52, rfl, h53, S54, K55⟩
    replace b3 := K55.blk 0 rfl b3
    replace h53 : Row (ro st63) 63 H34 (hp w49) F52 A50 c51 (x1.sub_.take ((x16 : Int).toNat)) := h53
    refine lV 7 (eA (.slice A50 ((x1.sub_.take ((x16 : Int).toNat)).length) c51)) (wN (tN (wQ (wR (lV 37 (eM (.slice A50 ((x1.sub_.take ((x16 : Int).toNat)).length) c51)) (lV 38 (eM (.int .i64 x8) (by exact e18)) (lV 39 (eM (.slice A10 x9.length c11) (by exact e19)) (lV 40 (show _ = Result.ok (Next.value (.agg #[.int .i64 x8, .slice A10 x9.length c11])) w49 from by kernel_rfl) ?_))))))))
    refine lW 41 (new_blk (v := fun g_ => .slice (some ⟨g_, 0, none⟩) 1 1) (cs := #[.int .i64 x8, .slice A10 x9.length c11]) (t := 63) S54 kr) ?_
    rintro _ w56 ⟨g57, rfl, b58, S59, K60⟩
    replace h53 := h53.move (K60.at 0 rfl)
    replace b3 := K60.blk 1 rfl b3
    obtain ⟨q61, M⟩ := chk M
    have S62 := S59.pulls [F52, (is g57), (is g2)] [1] rfl
    have S63 := S62.unit
    have S64 := S63.pulls [F52, no, (is g57), (is g2)] [1] rfl
    refine lW 42 (e_append (d := (ro st63)) (n := (x1.sub_.take ((x16 : Int).toNat)).length) (xs := (x1.sub_.take ((x16 : Int).toNat))) (cap := c51) (A := A50) (ys := [(⟨x8, x9⟩ : Binding)]) (A2 := (some ⟨g57, 0, none⟩)) (c2 := 1) (z := .agg #[.int .i64 0, .slice none 0 0]) (bytes := 32) S64 underlying52 kr rfl (by decide) kr rfl kr h53 (elsO_one1 (st63_mkR (x := (⟨x8, x9⟩ : Binding)) l13 (h12.ext E36))) (.inr (blk_news b58 rfl)) (show ((x1.sub_.take ((x16 : Int).toNat)).length + [(⟨x8, x9⟩ : Binding)].length) * 32 ≤ _ by first | omega | (simp only [List.length_cons, List.length_nil]; omega)) (by decide)) ?_
    rintro _ w65 ⟨A66, c67, F68, rfl, h69, S70, K71⟩
    replace b3 := K71.blk 1 rfl b3
    refine lV 7 (eA (.slice A66 (((x1.sub_.take ((x16 : Int).toNat)) ++ [(⟨x8, x9⟩ : Binding)]).length) c67)) (wN (tN (wR (lV 43 (eM (.pointer (some ⟨g2, 0, none⟩)) (by exact e17)) (lV 44 (eM (.slice A66 (((x1.sub_.take ((x16 : Int).toNat)) ++ [(⟨x8, x9⟩ : Binding)]).length) c67)) (lV 45 (eM (.pointer (some ⟨g2, 0, none⟩)) (by exact e17)) (lV 46 (eN ⟨g2, 0, none⟩) (lV 47 (eD g2 0 0 1 underlying106) (lV 48 (eL ⟨g2, 0 + 0, none⟩ (.slice A4 x1.sub_.length c5) underlying52 (blk_cell b3 rfl)) (lV 49 (eM (.int .i64 x16) (by exact e20)) ?_))))))))))
    obtain ⟨A72, h75, l74, h73⟩ := Rd.sub1 (d := st63) (n := x1.sub_.length) (m := 2) (cap := c5) (a := x16) rfl h37 q28 q39 rfl l33
    refine lV 50 (e_slice_l (n := x1.sub_.length) (m := 2) (cap := c5) (A := A4) (a := x16) (k := .i64) underlying52 kr kr kr q28 q39 l33 h75) ?_
    obtain ⟨y76, h77, h78⟩ := Rd.news (d := (ro st63)) (ro_ro _) S70 (Rd.toro h73)
    obtain ⟨q79, M⟩ := chk M
    have S80 := S70.unit
    have S81 := S80.pulls [F68, no, (is g57), (is g2)] [1] rfl
    refine lW 51 (e_append (d := (ro st63)) (n := ((x1.sub_.take ((x16 : Int).toNat)) ++ [(⟨x8, x9⟩ : Binding)]).length) (xs := ((x1.sub_.take ((x16 : Int).toNat)) ++ [(⟨x8, x9⟩ : Binding)])) (cap := c67) (A := A66) (ys := (x1.sub_.drop ((x16 : Int).toNat))) (A2 := A72) (c2 := (c5 - ((x16 : Int).toNat))) (z := .agg #[.int .i64 0, .slice none 0 0]) (bytes := 32) S81 underlying52 kr rfl (by decide) kr rfl kr h69 h77 h78 (show (((x1.sub_.take ((x16 : Int).toNat)) ++ [(⟨x8, x9⟩ : Binding)]).length + (x1.sub_.drop ((x16 : Int).toNat)).length) * 32 ≤ _ by first | omega | (simp only [List.length_cons, List.length_nil]; omega)) (by decide)) ?_
    rintro _ w82 ⟨A83, c84, F85, rfl, h86, S87, K88⟩
    replace b3 := K88.blk 1 rfl b3
    refine lV 52 (eN ⟨g2, 0, none⟩) (lV 53 (eD g2 0 0 1 underlying106) ?_)
    have S89 := S87.pulls [(is g2), F85, (is g57)] [2] rfl
    refine lE (eS g2 (0 + 0) (.slice A83 ((((x1.sub_.take ((x16 : Int).toNat)) ++ [(⟨x8, x9⟩ : Binding)]) ++ (x1.sub_.drop ((x16 : Int).toNat))).length) c84) #[.slice A83 ((((x1.sub_.take ((x16 : Int).toNat)) ++ [(⟨x8, x9⟩ : Binding)]) ++ (x1.sub_.drop ((x16 : Int).toNat))).length) c84, .int .i64 x1.pairs_] [.slice A83 ((((x1.sub_.take ((x16 : Int).toNat)) ++ [(⟨x8, x9⟩ : Binding)]) ++ (x1.sub_.drop ((x16 : Int).toNat))).length) c84] S89 b3) ?_
    rintro w90 ⟨b91, S92, K93⟩
    replace h86 := h86.move (K93.at 0 rfl)
    clear b3
    refine wN ?_
    obtain rfl := sj M
    have S95 := S92.pulls [(is g2), F85, (is g57)] [1, 1] rfl
    have S96 := St.first (Fa := [(is g2), F85]) (Fr := [(is g57)]) S95
    exact end0 rfl ⟨A83, c84, F85, H34, rfl, h86, b91, S96⟩
  replace M := ifn q27 M
  refine lK 15 false (bF q27) ?_
  refine lK 15 false (bF q27) ?_
  refine lK 15 false (bF q27) ?_
  refine lK 15 false (bF q27) ?_
  refine lK 15 false (bF q27) ?_
  refine lK 15 false (bF q27) ?_
  refine lK 15 false (bF q27) ?_
  refine lK 15 false (bF q27) ?_
  refine lK 15 false (bF q27) ?_
  refine lK 15 false (bF q27) ?_
  refine lV 26 (eF (.bool false) (bF q27)) (wN (tN (cond_f rfl kr (wp_exit (tE (tE (inb_hit (tN (wQ (wR (lV 7 (eA (.slice none 0 0)) (wN (tN (wQ (wR (lV 29 (eM (.slice none 0 0)) (lV 30 (eM (.pointer (some ⟨g2, 0, none⟩)) (by exact e17)) (lV 31 (eN ⟨g2, 0, none⟩) (lV 32 (eD g2 0 0 1 underlying106) (lV 33 (eL ⟨g2, 0 + 0, none⟩ (.slice A4 x1.sub_.length c5) underlying52 (blk_cell b3 rfl)) (lV 34 (eM (.int .i64 x16) (by exact e20)) ?_)))))))))))))))))))))
  have l97 := h6.le
  obtain ⟨H98, S99, E100, h101, z102⟩ := S21.frzRow h6
  replace h101 := h101.unro
  obtain ⟨q103, M⟩ := chk M
  obtain ⟨q104, M⟩ := chk M
  refine lV 35 (e_slice_h (xs := x1.sub_) (n := x1.sub_.length) (m := 2) (cap := c5) (A := A4) (b := x16) (k2 := .i64) underlying52 kr kr kr q103 q104 (by have := l97; have := (rfl : x1.sub_.length = x1.sub_.length); omega) (take_len q103 q104 rfl)) ?_
  have h105 := Rd.take (n := (x16 : Int).toNat) h101
  have l106 : (x1.sub_.take ((x16 : Int).toNat)).length ≤ c5 := by rw [List.length_take]; have := l97; omega
  obtain ⟨y107, h108, h109⟩ := Rd.news (d := (ro st63)) (ro_ro _) S99 (Rd.toro h105)
  obtain ⟨q110, M⟩ := chk M
  have S111 := S99.unit
  have S112 := S111.unit
  have S113 := S112.pulls [no, no, (is g2)] [1] rfl
  refine lW 36 (e_append (d := (ro st63)) (n := 0) (xs := []) (cap := 0) (A := none) (ys := (x1.sub_.take ((x16 : Int).toNat))) (A2 := A4) (c2 := c5) (z := .agg #[.int .i64 0, .slice none 0 0]) (bytes := 32) S113 underlying52 kr rfl (by decide) kr rfl kr (Row.nil _ _ _ _ no) h108 h109 (show (0 + (x1.sub_.take ((x16 : Int).toNat)).length) * 32 ≤ _ by first | omega | (simp only [List.length_cons, List.length_nil]; omega)) (by decide)) ?_
  rintro _ w114 ⟨A115, c116, F117, rfl, h118, S119, K120⟩
  replace b3 := K120.blk 0 rfl b3
  replace h118 : Row (ro st63) 63 H98 (hp w114) F117 A115 c116 (x1.sub_.take ((x16 : Int).toNat)) := h118
  refine lV 7 (eA (.slice A115 ((x1.sub_.take ((x16 : Int).toNat)).length) c116)) (wN (tN (wQ (wR (lV 37 (eM (.slice A115 ((x1.sub_.take ((x16 : Int).toNat)).length) c116)) (lV 38 (eM (.int .i64 x8) (by exact e18)) (lV 39 (eM (.slice A10 x9.length c11) (by exact e19)) (lV 40 (show _ = Result.ok (Next.value (.agg #[.int .i64 x8, .slice A10 x9.length c11])) w114 from by kernel_rfl) ?_))))))))
  refine lW 41 (new_blk (v := fun g_ => .slice (some ⟨g_, 0, none⟩) 1 1) (cs := #[.int .i64 x8, .slice A10 x9.length c11]) (t := 63) S119 kr) ?_
  rintro _ w121 ⟨g122, rfl, b123, S124, K125⟩
  replace h118 := h118.move (K125.at 0 rfl)
  replace b3 := K125.blk 1 rfl b3
  obtain ⟨q126, M⟩ := chk M
  have S127 := S124.pulls [F117, (is g122), (is g2)] [1] rfl
  have S128 := S127.unit
  have S129 := S128.pulls [F117, no, (is g122), (is g2)] [1] rfl
  refine lW 42 (e_append (d := (ro st63)) (n := (x1.sub_.take ((x16 : Int).toNat)).length) (xs := (x1.sub_.take ((x16 : Int).toNat))) (cap := c116) (A := A115) (ys := [(⟨x8, x9⟩ : Binding)]) (A2 := (some ⟨g122, 0, none⟩)) (c2 := 1) (z := .agg #[.int .i64 0, .slice none 0 0]) (bytes := 32) S129 underlying52 kr rfl (by decide) kr rfl kr h118 (elsO_one1 (st63_mkR (x := (⟨x8, x9⟩ : Binding)) l13 (h12.ext E100))) (.inr (blk_news b123 rfl)) (show ((x1.sub_.take ((x16 : Int).toNat)).length + [(⟨x8, x9⟩ : Binding)].length) * 32 ≤ _ by first | omega | (simp only [List.length_cons, List.length_nil]; omega)) (by decide)) ?_
  rintro _ w130 ⟨A131, c132, F133, rfl, h134, S135, K136⟩
  replace b3 := K136.blk 1 rfl b3
  refine lV 7 (eA (.slice A131 (((x1.sub_.take ((x16 : Int).toNat)) ++ [(⟨x8, x9⟩ : Binding)]).length) c132)) (wN (tN (wR (lV 43 (eM (.pointer (some ⟨g2, 0, none⟩)) (by exact e17)) (lV 44 (eM (.slice A131 (((x1.sub_.take ((x16 : Int).toNat)) ++ [(⟨x8, x9⟩ : Binding)]).length) c132)) (lV 45 (eM (.pointer (some ⟨g2, 0, none⟩)) (by exact e17)) (lV 46 (eN ⟨g2, 0, none⟩) (lV 47 (eD g2 0 0 1 underlying106) (lV 48 (eL ⟨g2, 0 + 0, none⟩ (.slice A4 x1.sub_.length c5) underlying52 (blk_cell b3 rfl)) (lV 49 (eM (.int .i64 x16) (by exact e20)) ?_))))))))))
  obtain ⟨A137, h140, l139, h138⟩ := Rd.sub1 (d := st63) (n := x1.sub_.length) (m := 2) (cap := c5) (a := x16) rfl h101 q103 q104 rfl l97
  refine lV 50 (e_slice_l (n := x1.sub_.length) (m := 2) (cap := c5) (A := A4) (a := x16) (k := .i64) underlying52 kr kr kr q103 q104 l97 h140) ?_
  obtain ⟨y141, h142, h143⟩ := Rd.news (d := (ro st63)) (ro_ro _) S135 (Rd.toro h138)
  obtain ⟨q144, M⟩ := chk M
  have S145 := S135.unit
  have S146 := S145.pulls [F133, no, (is g122), (is g2)] [1] rfl
  refine lW 51 (e_append (d := (ro st63)) (n := ((x1.sub_.take ((x16 : Int).toNat)) ++ [(⟨x8, x9⟩ : Binding)]).length) (xs := ((x1.sub_.take ((x16 : Int).toNat)) ++ [(⟨x8, x9⟩ : Binding)])) (cap := c132) (A := A131) (ys := (x1.sub_.drop ((x16 : Int).toNat))) (A2 := A137) (c2 := (c5 - ((x16 : Int).toNat))) (z := .agg #[.int .i64 0, .slice none 0 0]) (bytes := 32) S146 underlying52 kr rfl (by decide) kr rfl kr h134 h142 h143 (show (((x1.sub_.take ((x16 : Int).toNat)) ++ [(⟨x8, x9⟩ : Binding)]).length + (x1.sub_.drop ((x16 : Int).toNat)).length) * 32 ≤ _ by first | omega | (simp only [List.length_cons, List.length_nil]; omega)) (by decide)) ?_
  rintro _ w147 ⟨A148, c149, F150, rfl, h151, S152, K153⟩
  replace b3 := K153.blk 1 rfl b3
  refine lV 52 (eN ⟨g2, 0, none⟩) (lV 53 (eD g2 0 0 1 underlying106) ?_)
  have S154 := S152.pulls [(is g2), F150, (is g122)] [2] rfl
  refine lE (eS g2 (0 + 0) (.slice A148 ((((x1.sub_.take ((x16 : Int).toNat)) ++ [(⟨x8, x9⟩ : Binding)]) ++ (x1.sub_.drop ((x16 : Int).toNat))).length) c149) #[.slice A148 ((((x1.sub_.take ((x16 : Int).toNat)) ++ [(⟨x8, x9⟩ : Binding)]) ++ (x1.sub_.drop ((x16 : Int).toNat))).length) c149, .int .i64 x1.pairs_] [.slice A148 ((((x1.sub_.take ((x16 : Int).toNat)) ++ [(⟨x8, x9⟩ : Binding)]) ++ (x1.sub_.drop ((x16 : Int).toNat))).length) c149] S154 b3) ?_
  rintro w155 ⟨b156, S157, K158⟩
  replace h151 := h151.move (K158.at 0 rfl)
  clear b3
  refine wN ?_
  obtain rfl := sj M
  have S160 := S157.pulls [(is g2), F150, (is g122)] [1, 1] rfl
  have S161 := St.first (Fa := [(is g2), F150]) (Fr := [(is g122)]) S160
  exact end0 rfl ⟨A148, c149, F150, H98, rfl, h151, b156, S161⟩

/-! spec_l5stands -/
mutual
def spec_l5stands.l0 : Nat → GL5st → Int → (List (List Cell)) → (List Bool) → Option Bool
  | 0, _, _, _, _ => none
  | k51 + 1, x1, x8, x34, x40 => (if (x34.length : Int) > 0 then (if 0 ≤ (i64.wrap ((x34.length : Int) - 1)) then (if (i64.wrap ((x34.length : Int) - 1)) < (x34.length : Int) then (if (i64.wrap ((x34.length : Int) - 1)) ≤ (x34.length : Int) then (spec_l5stands.l1 k51 x1 x8 x34 (x34.take (((i64.wrap ((x34.length : Int) - 1)) : Int).toNat)) 0 x40) else none) else none) else none) else some false)
def spec_l5stands.l1 : Nat → GL5st → Int → (List (List Cell)) → (List (List Cell)) → Int → (List Bool) → Option Bool
  | 0, _, _, _, _, _, _ => none
  | k92 + 1, x1, x8, x34, x72, x77, x79 => (if x77 < ((x34.getD (((i64.wrap ((x34.length : Int) - 1))).toNat) ([] : List Cell)).length : Int) then (if 0 ≤ x77 then (if (((x34.getD (((i64.wrap ((x34.length : Int) - 1))).toNat) ([] : List Cell)).getD ((x77).toNat) z65).kind) ≠ 0 then (spec_l5stands.l1 k92 x1 x8 x34 x72 (i64.wrap (x77 + 1)) x79) else (if (((x34.getD (((i64.wrap ((x34.length : Int) - 1))).toNat) ([] : List Cell)).getD ((x77).toNat) z65).n) = x8 then some true else ((spec_l5index.f k92 x1.sub_ (((x34.getD (((i64.wrap ((x34.length : Int) - 1))).toNat) ([] : List Cell)).getD ((x77).toNat) z65).n)).bind fun t127 => (if t127 ≥ 0 then (if 0 ≤ t127 then (if t127 < (((x1.sub_.length : Int)).toNat : Int) then (if ¬ ((x79.getD ((t127).toNat) false) = true) then (if t127 < (x1.sub_.length : Int) then (if x72.length + 1 ≤ 5864062014805 then (spec_l5stands.l1 k92 x1 x8 x34 (x72 ++ [(x1.sub_.getD ((t127).toNat) z63).term]) (i64.wrap (x77 + 1)) (x79.set ((t127).toNat) true)) else none) else none) else (spec_l5stands.l1 k92 x1 x8 x34 x72 (i64.wrap (x77 + 1)) x79)) else none) else none) else (spec_l5stands.l1 k92 x1 x8 x34 x72 (i64.wrap (x77 + 1)) x79))))) else none) else (spec_l5stands.l0 k92 x1 x8 x72 x79))
end
def spec_l5stands.f (k : Nat) (x1 : GL5st) (x8 : Int) (x9 : List Cell) : Option Bool := (if 0 ≤ (x1.sub_.length : Int) then (if ((x1.sub_.length : Int)).toNat ≤ 281474976710656 then (spec_l5stands.l0 k x1 x8 [x9] (List.replicate ((x1.sub_.length : Int)).toNat false)) else none) else none)
theorem spec_l5stands.calls (k : Nat) (w : World) (H : Hp) (x1 : GL5st) (g2 : Nat) (A4 : Option Addr) (c5 : Nat) (x8 : Int) (x9 : List Cell) (A10 : Option Addr) (c11 : Nat) (h6 : Rd st63 H A4 x1.sub_) (l7 : x1.sub_.length ≤ c5) (b3 : H g2 = some (.cells #[.slice A4 x1.sub_.length c5, .int .i64 x1.pairs_] 106 (0, 0))) (h12 : Rd st65 H A10 x9) (l13 : x9.length ≤ c11) (S : Own [] H w) (r : Bool) (M : spec_l5stands.f k x1 x8 x9 = some r) :
    Calls Try.prog 117 #[.pointer (some ⟨g2, 0, none⟩), .int .i64 x8, .slice A10 x9.length c11] w (fun e e_w => e = .returned (.bool r) ∧ Chg no w e_w) := by
  rw [spec_l5stands.f] at M
  refine enter (l := [.pointer (some ⟨g2, 0, none⟩), .int .i64 x8, .slice A10 x9.length c11]) 86 func117 rfl rfl rfl ?_
  have S0_ := S.st
  refine wQ (wR (lV 6 (eA (.bool false)) (wN (tN (wQ (wR (lV 12 (eM (.pointer (some ⟨g2, 0, none⟩))) (lV 13 (eN ⟨g2, 0, none⟩) (lV 14 (eD g2 0 0 1 underlying106) (lV 15 (eL ⟨g2, 0 + 0, none⟩ (.slice A4 x1.sub_.length c5) underlying52 (blk_cell (S0_.inv _ _ b3) rfl)) (lV 16 (e_len (A := A4) (n := x1.sub_.length) (c := c5) underlying52 kr) ?_)))))))))))
  obtain ⟨q14, M⟩ := chk M
  obtain ⟨q15, M⟩ := chk M
  refine lW 17 (e_make (d := tBool) (k := .i64) (k2 := .i64) (n := (x1.sub_.length : Int)) (z := .bool false) (zx := false) (bytes := 1) S0_ underlying156 kr rfl (by decide) (fun _ => rfl) kr kr q14 (by omega) (by omega)) ?_
  rintro _ w16 ⟨A17, c18, F19, rfl, h20, S21, K22⟩
  refine lV 7 (eA (.slice A17 (((x1.sub_.length : Int)).toNat) c18)) (wN (tN (wQ (wR (lV 18 (eM (.slice A10 x9.length c11)) ?_)))))
  refine lW 19 (new_blk (v := fun g_ => .slice (some ⟨g_, 0, none⟩) 1 1) (cs := #[.slice A10 x9.length c11]) (t := 25) S21 kr) ?_
  rintro _ w23 ⟨g24, rfl, b25, S26, K27⟩
  replace h20 := h20.move (K27.at 0 rfl)
  have S28 := S26.unit
  have S29 := S28.pulls [(is g24), no, F19] [1] rfl
  obtain ⟨h30, S31⟩ := row_lit (d := (ro sl65)) (xs := [x9]) S29 b25 rfl (elsO_one1 ⟨A10, c11, rfl, l13, h12⟩) (Nat.le_of_ble_eq_true rfl)
  refine lV 8 (eA (.slice (some ⟨g24, 0, none⟩) 1 1)) (wN (tN (wQ (wp_block ?_))))
  have S52 := S31.pulls [F19, (or2 (is g24) no)] [1] rfl
  refine wp_loop_g (fun k49 a50 w32 => ∃ (f33 : Nat → Value) (x34 : List (List Cell)) (A35 : Option Addr) (c36 : Nat) (F37 : Foot) (F39 : Foot) (x40 : List Bool), a50 = mk 86 f33 ∧ f33 0 = .pointer (some ⟨g2, 0, none⟩) ∧ f33 1 = .int .i64 x8 ∧ f33 7 = .slice A17 (((x1.sub_.length : Int)).toNat) c18 ∧ f33 8 = .slice A35 x34.length c36 ∧ Row tBool 4 H (hp w32) F39 A17 c18 x40 ∧ Row (ro sl65) 25 H (hp w32) F37 A35 c36 x34 ∧ x40.length = ((x1.sub_.length : Int)).toNat ∧ St (anyOf []) H w [F39, F37] H w32 ∧ spec_l5stands.l0 k49 x1 x8 x34 x40 = some r) k ⟨_, [x9], (some ⟨g24, 0, none⟩), 1, (or2 (is g24) no), F19, (List.replicate ((x1.sub_.length : Int)).toNat false), rfl, kr, kr, kr, kr, h20, h30, List.length_replicate, S52, M⟩ ?_
  clear M
  rintro k49 a50 w32 ⟨f33, x34, A35, c36, F37, F39, x40, rfl, e42, e43, e44, e45, h20, h38, n41, S46, M⟩
  rcases k49 with _ | k51
  · rw [spec_l5stands.l0] at M
    cases M
  rw [spec_l5stands.l0] at M
  refine wQ (wQ (wR (lV 20 (eM (.slice A35 x34.length c36) (by exact e45)) (lV 21 (e_len (A := A35) (n := x34.length) (c := c36) underlying38 kr) (lV 22 (e_gtr (k := .i64) (a := (x34.length : Int)) (b := 0) kr rfl) (wN (tN ?_)))))))
  by_cases q53 : (x34.length : Int) > 0
  · replace M := ifp q53 M
    refine cT (bT q53) (wK (tN (wp_block (wQ (wR (lV 23 (eM (.slice A35 x34.length c36) (by exact e45)) (lV 24 (eM (.slice A35 x34.length c36) (by exact e45)) (lV 25 (e_len (A := A35) (n := x34.length) (c := c36) underlying38 kr) (lV 26 (e_sub (k := .i64) (a := (x34.length : Int)) (b := 1) kr rfl) ?_)))))))))
    obtain ⟨q54, M⟩ := chk M
    obtain ⟨q55, M⟩ := chk M
    obtain ⟨b56, e58⟩ := Row.addr h38 (show ((i64.wrap ((x34.length : Int) - 1))).toNat < x34.length by omega)
    refine lV 27 (eI b56 0 x34.length c36 1 (i64.wrap ((x34.length : Int) - 1)) .i64 underlying38 e58 q54 q55) ?_
    obtain ⟨y59, F60, r61, s62, k63⟩ := Row.at h38 e58 (getD_some ([] : List Cell) (show ((i64.wrap ((x34.length : Int) - 1))).toNat < x34.length by omega))
    obtain ⟨A64, c65, rfl, l66, h67⟩ := r61
    refine lV 28 (eL ⟨b56, 0 + ((i64.wrap ((x34.length : Int) - 1)) : Int).toNat * 1, none⟩ (.slice A64 (x34.getD (((i64.wrap ((x34.length : Int) - 1))).toNat) ([] : List Cell)).length c65) underlying25 (hpx (k63 0 _ rfl))) (lV 9 (eA (.slice A64 (x34.getD (((i64.wrap ((x34.length : Int) - 1))).toNat) ([] : List Cell)).length c65)) (wN (tN (wQ (wR (lV 29 (eM (.slice A35 x34.length c36) (by exact e45)) (lV 30 (eM (.slice A35 x34.length c36) (by exact e45)) (lV 31 (e_len (A := A35) (n := x34.length) (c := c36) underlying38 kr) (lV 32 (e_sub (k := .i64) (a := (x34.length : Int)) (b := 1) kr rfl) ?_)))))))))
    obtain ⟨q68, M⟩ := chk M
    refine lV 33 (e_slice_h (xs := x34) (n := x34.length) (m := 1) (cap := c36) (A := A35) (b := (i64.wrap ((x34.length : Int) - 1))) (k2 := .i64) underlying38 kr kr kr q54 q68 (by have := h38.le; have := (rfl : x34.length = x34.length); omega) (take_len q54 q68 rfl)) ?_
    have h69 := h38.cut (n := ((i64.wrap ((x34.length : Int) - 1)) : Int).toNat) (by have := (rfl : x34.length = x34.length); omega)
    clear h38
    refine lV 8 (eA (.slice A35 ((x34.take (((i64.wrap ((x34.length : Int) - 1)) : Int).toNat)).length) c36)) (wN (tN (wQ (wR (lV 10 (eA (.int .i64 0)) (wN (tN ?_)))))))
    refine wp_block ?_
    refine wp_loop_g (fun k90 a91 w70 => ∃ (f71 : Nat → Value) (x72 : List (List Cell)) (A73 : Option Addr) (c74 : Nat) (F75 : Foot) (x77 : Int) (F78 : Foot) (x79 : List Bool), k90 ≤ k51 ∧ a91 = mk 86 f71 ∧ f71 0 = .pointer (some ⟨g2, 0, none⟩) ∧ f71 1 = .int .i64 x8 ∧ f71 7 = .slice A17 (((x1.sub_.length : Int)).toNat) c18 ∧ f71 8 = .slice A73 x72.length c74 ∧ f71 9 = .slice A64 (x34.getD (((i64.wrap ((x34.length : Int) - 1))).toNat) ([] : List Cell)).length c65 ∧ f71 10 = .int .i64 x77 ∧ Row tBool 4 H (hp w70) F78 A17 c18 x79 ∧ Row (ro sl65) 25 H (hp w70) F75 A73 c74 x72 ∧ x79.length = ((x1.sub_.length : Int)).toNat ∧ St (anyOf []) H w [F78, F75] H w70 ∧ spec_l5stands.l1 k90 x1 x8 x34 x72 x77 x79 = some r) k51 ⟨_, (x34.take (((i64.wrap ((x34.length : Int) - 1)) : Int).toNat)), A35, c36, F37, 0, F39, x40, (by omega), rfl, (by exact e42), (by exact e43), (by exact e44), kr, kr, kr, h20, h69, n41, S46, M⟩ ?_
    clear M
    rintro k90 a91 w70 ⟨f71, x72, A73, c74, F75, x77, F78, x79, z89, rfl, e81, e82, e83, e84, e85, e86, h20, h76, n80, S87, M⟩
    rcases k90 with _ | k92
    · rw [spec_l5stands.l1] at M
      cases M
    rw [spec_l5stands.l1] at M
    refine wQ (wQ (wR (lV 34 (eM (.int .i64 x77) (by exact e86)) (lV 35 (eM (.slice A64 (x34.getD (((i64.wrap ((x34.length : Int) - 1))).toNat) ([] : List Cell)).length c65) (by exact e85)) (lV 36 (e_len (A := A64) (n := (x34.getD (((i64.wrap ((x34.length : Int) - 1))).toNat) ([] : List Cell)).length) (c := c65) underlying25 kr) (lV 37 (eLt .i64 x77 ((x34.getD (((i64.wrap ((x34.length : Int) - 1))).toNat) ([] : List Cell)).length : Int)) (wN (tN ?_))))))))
    by_cases q93 : x77 < ((x34.getD (((i64.wrap ((x34.length : Int) - 1))).toNat) ([] : List Cell)).length : Int)
    · replace M := ifp q93 M
      refine cT (bT q93) (wK (tN (wQ (wp_block (wQ (wQ (wR (lV 40 (eM (.slice A64 (x34.getD (((i64.wrap ((x34.length : Int) - 1))).toNat) ([] : List Cell)).length c65) (by exact e85)) (lV 41 (eM (.int .i64 x77) (by exact e86)) ?_)))))))))
      obtain ⟨q94, M⟩ := chk M
      obtain ⟨b95, o96, e97⟩ := Rd.addr h67 (show (x77).toNat < (x34.getD (((i64.wrap ((x34.length : Int) - 1))).toNat) ([] : List Cell)).length by omega)
      obtain ⟨y98, r99, k100⟩ := Rd.at h67 e97 (getD_some z65 (show (x77).toNat < (x34.getD (((i64.wrap ((x34.length : Int) - 1))).toNat) ([] : List Cell)).length by omega))
      obtain ⟨A101, c102, rfl, l103, h104⟩ := st65_open r99
      refine lV 42 (eI b95 o96 (x34.getD (((i64.wrap ((x34.length : Int) - 1))).toNat) ([] : List Cell)).length c65 3 x77 .i64 underlying25 e97 q94 q93) (lV 43 (eD b95 (o96 + (x77 : Int).toNat * 3) 0 1 underlying65) (lV 44 (eL ⟨b95, o96 + (x77 : Int).toNat * 3 + 0, none⟩ (.int .i64 (((x34.getD (((i64.wrap ((x34.length : Int) - 1))).toNat) ([] : List Cell)).getD ((x77).toNat) z65).kind)) underlying3 (hpx (S87.inv.cell (k100 0 _ rfl)))) (lV 45 (eNe .i64 ((x34.getD (((i64.wrap ((x34.length : Int) - 1))).toNat) ([] : List Cell)).getD ((x77).toNat) z65).kind 0) (wN (tN ?_)))))
      by_cases q105 : (((x34.getD (((i64.wrap ((x34.length : Int) - 1))).toNat) ([] : List Cell)).getD ((x77).toNat) z65).kind) ≠ 0
      · replace M := ifp q105 M
        refine cT (bT q105) (wp_exit (tE (inb_hit (tN (wR (lV 38 (eM (.int .i64 x77) (by exact e86)) (lV 39 (eAdd .i64 x77 1) (lV 10 (eA (.int .i64 (i64.wrap (x77 + 1)))) (wN (tN ?_))))))))))
        exact ⟨k92, (by omega), _, x72, A73, c74, F75, (i64.wrap (x77 + 1)), F78, x79, (by omega), rfl, (by exact e81), (by exact e82), (by exact e83), (by exact e84), (by exact e85), kr, h20, h76, n80, S87, M⟩
      replace M := ifn q105 M
      refine cF (bF q105) (wK (tN (wQ (wQ (wR (lV 46 (eM (.slice A64 (x34.getD (((i64.wrap ((x34.length : Int) - 1))).toNat) ([] : List Cell)).length c65) (by exact e85)) (lV 47 (eM (.int .i64 x77) (by exact e86)) ?_)))))))
      obtain ⟨b106, o107, e108⟩ := Rd.addr h67 (show (x77).toNat < (x34.getD (((i64.wrap ((x34.length : Int) - 1))).toNat) ([] : List Cell)).length by omega)
      obtain ⟨y109, r110, k111⟩ := Rd.at h67 e108 (getD_some z65 (show (x77).toNat < (x34.getD (((i64.wrap ((x34.length : Int) - 1))).toNat) ([] : List Cell)).length by omega))
      obtain ⟨A112, c113, rfl, l114, h115⟩ := st65_open r110
      refine lV 48 (eI b106 o107 (x34.getD (((i64.wrap ((x34.length : Int) - 1))).toNat) ([] : List Cell)).length c65 3 x77 .i64 underlying25 e108 q94 q93) (lV 49 (eD b106 (o107 + (x77 : Int).toNat * 3) 1 1 underlying65) (lV 50 (eL ⟨b106, o107 + (x77 : Int).toNat * 3 + 1, none⟩ (.int .i64 (((x34.getD (((i64.wrap ((x34.length : Int) - 1))).toNat) ([] : List Cell)).getD ((x77).toNat) z65).n)) underlying3 (hpx (S87.inv.cell (k111 1 _ rfl)))) (lV 51 (eM (.int .i64 x8) (by exact e82)) (lV 52 (eEq .i64 ((x34.getD (((i64.wrap ((x34.length : Int) - 1))).toNat) ([] : List Cell)).getD ((x77).toNat) z65).n x8) (wN (tN ?_))))))
      by_cases q116 : (((x34.getD (((i64.wrap ((x34.length : Int) - 1))).toNat) ([] : List Cell)).getD ((x77).toNat) z65).n) = x8
      · replace M := ifp q116 M
        refine cT (bT q116) (wQ (wR (lV 6 (eA (.bool true)) (wN (tN (wT (tR ?_)))))))
        refine inb_r (tR (tR (inb_r (inb_r (tR (inb_r (tR ?_)))))))
        obtain rfl := sj M
        exact ret1 rfl rfl  (show _ = .bool true from kr) ⟨rfl, S87.chg⟩
      replace M := ifn q116 M
      refine cF (bF q116) (wK (tN (wQ ?_)))
      refine region_quiet kr kr (qV 53 (fun wq_ hq_ => eM (.pointer (some ⟨g2, 0, none⟩)) (by exact e81)) (qV 54 (fun wq_ hq_ => eN ⟨g2, 0, none⟩) (qV 55 (fun wq_ hq_ => eD g2 0 0 1 underlying106) (qV 56 (fun wq_ hq_ => eL ⟨g2, 0 + 0, none⟩ (.slice A4 x1.sub_.length c5) underlying52 (blk_cell ((S87.still hq_).1.inv _ _ b3) rfl)) (qV 57 (fun wq_ hq_ => eM (.slice A64 (x34.getD (((i64.wrap ((x34.length : Int) - 1))).toNat) ([] : List Cell)).length c65) (by exact e85)) (qV 58 (fun wq_ hq_ => eM (.int .i64 x77) (by exact e86)) ?_))))))
      obtain ⟨b117, o118, e119⟩ := Rd.addr h67 (show (x77).toNat < (x34.getD (((i64.wrap ((x34.length : Int) - 1))).toNat) ([] : List Cell)).length by omega)
      obtain ⟨y120, r121, k122⟩ := Rd.at h67 e119 (getD_some z65 (show (x77).toNat < (x34.getD (((i64.wrap ((x34.length : Int) - 1))).toNat) ([] : List Cell)).length by omega))
      obtain ⟨A123, c124, rfl, l125, h126⟩ := st65_open r121
      refine qV 59 (fun wq_ hq_ => eI b117 o118 (x34.getD (((i64.wrap ((x34.length : Int) - 1))).toNat) ([] : List Cell)).length c65 3 x77 .i64 underlying25 e119 q94 q93) (qV 60 (fun wq_ hq_ => eD b117 (o118 + (x77 : Int).toNat * 3) 1 1 underlying65) (qV 61 (fun wq_ hq_ => eL ⟨b117, o118 + (x77 : Int).toNat * 3 + 1, none⟩ (.int .i64 (((x34.getD (((i64.wrap ((x34.length : Int) - 1))).toNat) ([] : List Cell)).getD ((x77).toNat) z65).n)) underlying3 (hpx ((S87.still hq_).1.inv.cell (k122 1 _ rfl)))) ?_))
      obtain ⟨t127, u128, M⟩ := bnd M
      refine qcall (v := .int .i64 t127) (d := 62) rfl rfl kr (fun w_ => eC [.tmp 56, .tmp 61] [.slice A4 x1.sub_.length c5, .int .i64 (((x34.getD (((i64.wrap ((x34.length : Int) - 1))).toNat) ([] : List Cell)).getD ((x77).toNat) z65).n)] func85) (fun wq_ hq_ => (by obtain ⟨S_, K_⟩ := S87.still hq_; replace h20 := h20.move (K_.at 0 rfl); replace h76 := h76.move (K_.at 1 rfl); exact (spec_l5index.calls k92 wq_ H x1.sub_ A4 c5 (((x34.getD (((i64.wrap ((x34.length : Int) - 1))).toNat) ([] : List Cell)).getD ((x77).toNat) z65).n) h6 l7 S_.own0 t127 u128))) (qV 11 (fun wq_ hq_ => eA (.int .i64 t127)) ?_)
      refine wpQuiet_nil ?_
      intro w129 C132
      obtain ⟨S130, K131⟩ := S87.still C132
      replace h20 := h20.move (K131.at 0 rfl)
      replace h76 := h76.move (K131.at 1 rfl)
      refine tN (wQ (wR (lV 63 (eM (.int .i64 t127)) (lV 64 (e_geq (k := .i64) (a := t127) (b := 0) kr rfl) (lV 65 (eM (.bool (decide (t127 ≥ 0)))) ?_)))))
      by_cases q133 : t127 ≥ 0
      · replace M := ifp q133 M
        refine lG 66 65 (bT q133) (eM (.slice A17 (((x1.sub_.length : Int)).toNat) c18) (by exact e83)) (lG 67 65 (bT q133) (eM (.int .i64 t127)) ?_)
        obtain ⟨q134, M⟩ := chk M
        obtain ⟨q135, M⟩ := chk M
        obtain ⟨b136, e138⟩ := Row.addr h20 (show (t127).toNat < x79.length by have : x79.length = ((x1.sub_.length : Int)).toNat := n80; omega)
        refine lG 68 65 (bT q133) (eI b136 0 ((x1.sub_.length : Int)).toNat c18 1 t127 .i64 underlying156 e138 q134 q135) (lG 69 65 (bT q133) (eL ⟨b136, 0 + (t127 : Int).toNat * 1, none⟩ (.bool (x79.getD ((t127).toNat) false)) underlying4 (hpx (Row.pick (j := 0) (u := .bool (x79.getD ((t127).toNat) false)) h20 e138 (getD_some false (show (t127).toNat < x79.length by have : x79.length = ((x1.sub_.length : Int)).toNat := n80; omega)) (fun _ _ o_ => by rw [show _ = _ from o_]; rfl)))) (lG 70 65 (bT q133) (e_notv (c := (x79.getD ((t127).toNat) false)) kr) (lV 71 (eT (.bool (decide (¬ ((x79.getD ((t127).toNat) false) = true)))) (bT q133)) (wN (tN ?_)))))
        by_cases q139 : ¬ ((x79.getD ((t127).toNat) false) = true)
        · replace M := ifp q139 M
          refine cT (bT q139) (wQ (wR (lV 72 (eM (.slice A17 (((x1.sub_.length : Int)).toNat) c18) (by exact e83)) (lV 73 (eM (.int .i64 t127)) ?_))))
          obtain ⟨b140, e142⟩ := Row.addr h20 (show (t127).toNat < x79.length by have : x79.length = ((x1.sub_.length : Int)).toNat := n80; omega)
          refine lV 74 (eI b140 0 ((x1.sub_.length : Int)).toNat c18 1 t127 .i64 underlying156 e142 q134 q135) ?_
          have S143 := S130.unit
          have S144 := S143.pulls [F78, no, F75] [1] rfl
          refine lE (e_setel (d := tBool) (b := b140) (i := (t127).toNat) (v := .bool true) (vs := [.bool true]) (yv := true) S144 kr e142 rfl rfl kr h20 (show (t127).toNat < x79.length by have : x79.length = ((x1.sub_.length : Int)).toNat := n80; omega) rfl) ?_
          rintro w145 ⟨F147, h146, S148, K149⟩
          replace h76 := h76.move (K149.at 0 rfl)
          clear h20
          refine wN (tN (wR (lV 75 (eM (.slice A73 x72.length c74) (by exact e84)) (lV 76 (eM (.pointer (some ⟨g2, 0, none⟩)) (by exact e81)) (lV 77 (eN ⟨g2, 0, none⟩) (lV 78 (eD g2 0 0 1 underlying106) (lV 79 (eL ⟨g2, 0 + 0, none⟩ (.slice A4 x1.sub_.length c5) underlying52 (blk_cell (S148.inv _ _ b3) rfl)) (lV 80 (eM (.int .i64 t127)) ?_))))))))
          obtain ⟨q150, M⟩ := chk M
          obtain ⟨b151, o152, e153⟩ := Rd.addr h6 (show (t127).toNat < x1.sub_.length by omega)
          obtain ⟨y154, r155, k156⟩ := Rd.at h6 e153 (getD_some z63 (show (t127).toNat < x1.sub_.length by omega))
          obtain ⟨A157, c158, rfl, l159, h160⟩ := st63_open r155
          refine lV 81 (eI b151 o152 x1.sub_.length c5 2 t127 .i64 underlying52 e153 q134 q150) (lV 82 (eD b151 (o152 + (t127 : Int).toNat * 2) 1 1 underlying63) (lV 83 (eL ⟨b151, o152 + (t127 : Int).toNat * 2 + 1, none⟩ (.slice A157 ((x1.sub_.getD ((t127).toNat) z63).term).length c158) underlying25 (hpx (S148.inv.cell (k156 1 _ rfl)))) ?_))
          refine lW 84 (new_blk (v := fun g_ => .slice (some ⟨g_, 0, none⟩) 1 1) (cs := #[.slice A157 ((x1.sub_.getD ((t127).toNat) z63).term).length c158]) (t := 25) S148 kr) ?_
          rintro _ w161 ⟨g162, rfl, b163, S164, K165⟩
          replace h146 := h146.move (K165.at 0 rfl)
          replace h76 := h76.move (K165.at 1 rfl)
          obtain ⟨q166, M⟩ := chk M
          have S167 := S164.pulls [F75, (is g162), F147] [2] rfl
          have S168 := S167.unit
          have S169 := S168.pulls [F75, no, (is g162), F147] [1] rfl
          refine lW 85 (e_append (d := (ro sl65)) (n := x72.length) (xs := x72) (cap := c74) (A := A73) (ys := [(x1.sub_.getD ((t127).toNat) z63).term]) (A2 := (some ⟨g162, 0, none⟩)) (c2 := 1) (z := .slice none 0 0) (bytes := 24) S169 underlying38 kr rfl (by decide) kr rfl kr h76 (elsO_one1 ⟨A157, c158, rfl, l159, h160⟩) (.inr (blk_news b163 rfl)) (show (x72.length + [(x1.sub_.getD ((t127).toNat) z63).term].length) * 24 ≤ _ by first | omega | (simp only [List.length_cons, List.length_nil]; omega)) (by decide)) ?_
          rintro _ w170 ⟨A171, c172, F173, rfl, h174, S175, K176⟩
          replace h146 := h146.move (K176.at 1 rfl)
          refine lV 8 (eA (.slice A171 ((x72 ++ [(x1.sub_.getD ((t127).toNat) z63).term]).length) c172)) (wN (inb_n (tN (wR (lV 38 (eM (.int .i64 x77) (by exact e86)) (lV 39 (eAdd .i64 x77 1) (lV 10 (eA (.int .i64 (i64.wrap (x77 + 1)))) (wN (tN ?_)))))))))
          have S177 := S175.pulls [F147, F173, (is g162)] [2] rfl
          have S178 := St.first (Fa := [F147, F173]) (Fr := [(is g162)]) S177
          exact ⟨k92, (by omega), _, (x72 ++ [(x1.sub_.getD ((t127).toNat) z63).term]), A171, c172, F173, (i64.wrap (x77 + 1)), F147, (x79.set ((t127).toNat) true), (by omega), rfl, (by exact e81), (by exact e82), (by exact e83), kr, (by exact e85), kr, h146, h174, (List.length_set.trans n80), S178, M⟩
        replace M := ifn q139 M
        refine cF (bF q139) (wK (inb_n (tN (wR (lV 38 (eM (.int .i64 x77) (by exact e86)) (lV 39 (eAdd .i64 x77 1) (lV 10 (eA (.int .i64 (i64.wrap (x77 + 1)))) (wN (tN ?_)))))))))
        exact ⟨k92, (by omega), _, x72, A73, c74, F75, (i64.wrap (x77 + 1)), F78, x79, (by omega), rfl, (by exact e81), (by exact e82), (by exact e83), (by exact e84), (by exact e85), kr, h20, h76, n80, S130, M⟩
      replace M := ifn q133 M
      refine lK 65 false (bF q133) ?_
      refine lK 65 false (bF q133) ?_
      refine lK 65 false (bF q133) ?_
      refine lK 65 false (bF q133) ?_
      refine lK 65 false (bF q133) ?_
      refine lV 71 (eF (.bool false) (bF q133)) (wN (tN (cond_f rfl kr (wK (inb_n (tN (wR (lV 38 (eM (.int .i64 x77) (by exact e86)) (lV 39 (eAdd .i64 x77 1) (lV 10 (eA (.int .i64 (i64.wrap (x77 + 1)))) (wN (tN ?_))))))))))))
      exact ⟨k92, (by omega), _, x72, A73, c74, F75, (i64.wrap (x77 + 1)), F78, x79, (by omega), rfl, (by exact e81), (by exact e82), (by exact e83), (by exact e84), (by exact e85), kr, h20, h76, n80, S130, M⟩
    replace M := ifn q93 M
    refine cF (bF q93) (wp_exit (tE (tE (inb_hit (inb_n (tN ?_))))))
    exact ⟨k92, (by omega), _, x72, A73, c74, F75, F78, x79, rfl, (by exact e81), (by exact e82), (by exact e83), (by exact e84), h20, h76, n80, S87, M⟩
  replace M := ifn q53 M
  refine cF (bF q53) (wp_exit (tE (tE (inb_hit (tN (wQ (wR (lV 6 (eA (.bool false)) (wN (tN (wT ?_)))))))))))
  obtain rfl := sj M
  exact ret1 rfl rfl  (show _ = .bool false from kr) ⟨rfl, S46.chg⟩

/-! spec_l2args -/
def spec_l2args.l0 : Nat → (List Cell) → (List (List Cell)) → Int → Int → Option (List (List Cell))
  | 0, _, _, _, _ => none
  | k39 + 1, x1, x23, x28, x29 => (if x29 < ((x1.getD 0 z65).n) then ((spec_l2next.f k39 x1 x28).bind fun t52 => (if 0 ≤ x28 then (if x28 ≤ t52 then (if t52 ≤ (x1.length : Int) then (if x23.length + 1 ≤ 5864062014805 then (spec_l2args.l0 k39 x1 (x23 ++ [((x1.drop ((x28 : Int).toNat)).take ((t52 : Int).toNat - (x28 : Int).toNat))]) t52 (i64.wrap (x29 + 1))) else none) else none) else none) else none)) else some x23)
def spec_l2args.f (k : Nat) (x1 : List Cell) : Option (List (List Cell)) := (if (x1.length : Int) = 0 then some [] else (if 0 < (x1.length : Int) then (if ((x1.getD 0 z65).kind) ≠ 3 then some [] else (spec_l2args.l0 k x1 [] 1 0)) else none))
theorem spec_l2args.calls (k : Nat) (w : World) (H : Hp) (x1 : List Cell) (A2 : Option Addr) (c3 : Nat) (h4 : Rd st65 H A2 x1) (l5 : x1.length ≤ c3) (S : Own [] H w) (r : List (List Cell)) (M : spec_l2args.f k x1 = some r) :
    Calls Try.prog 118 #[.slice A2 x1.length c3] w (fun e e_w => ∃ (A_1 : Option Addr) (c_1 : Nat) (F_1 : Foot) (H_ : Hp), e = .returned (.slice A_1 r.length c_1) ∧ Row (ro sl65) 25 H_ (hp e_w) F_1 A_1 c_1 r ∧ St (anyOf []) H w [F_1] H_ e_w) := by
  rw [spec_l2args.f] at M
  refine enter (l := [.slice A2 x1.length c3]) 38 func118 rfl rfl rfl ?_
  have S0_ := S.st
  refine wQ (wR (lV 2 (eA (.slice none 0 0)) (wN (tN (wQ (wR (lV 3 (eA (.slice none 0 0)) (wN (tN (wQ (wQ (wR (lV 7 (eM (.slice A2 x1.length c3)) (lV 8 (e_len (A := A2) (n := x1.length) (c := c3) underlying25 kr) (lV 9 (eEq .i64 (x1.length : Int) 0) (lV 10 (eM (.bool (decide ((x1.length : Int) = 0)))) ?_))))))))))))))))
  by_cases q6 : (x1.length : Int) = 0
  · replace M := ifp q6 M
    refine lK 10 true (bT q6) ?_
    refine lK 10 true (bT q6) ?_
    refine lK 10 true (bT q6) ?_
    refine lK 10 true (bT q6) ?_
    refine lK 10 true (bT q6) ?_
    refine lV 16 (eT (.bool true) (bT q6)) (wN (tN (cond_t rfl kr (wQ (wR (lV 17 (eM (.slice none 0 0)) (lV 2 (eA (.slice none 0 0)) (wN (tN (wT (tR ?_)))))))))))
    obtain rfl := sj M
    have S7 := S0_.unit
    exact ret1 rfl rfl  (show _ = .slice none 0 0 from kr) ⟨none, 0, no, H, rfl, (Row.nil _ _ _ _ no), S7⟩
  replace M := ifn q6 M
  refine lG 11 10 (bF q6) (eM (.slice A2 x1.length c3)) ?_
  obtain ⟨q8, M⟩ := chk M
  obtain ⟨b9, o10, e11⟩ := Rd.addr h4 (show 0 < x1.length by omega)
  obtain ⟨y12, r13, k14⟩ := Rd.at h4 e11 (getD_some z65 (show 0 < x1.length by omega))
  obtain ⟨A15, c16, rfl, l17, h18⟩ := st65_open r13
  refine lG 12 10 (bF q6) (e_indexAddr (b := b9) (off := o10) (n := x1.length) (c := c3) (sz := 3) (i := 0) (k := .i64) underlying25 e11 kr kr rfl (by omega) q8) (lG 13 10 (bF q6) (eD b9 (o10 + (0 : Int).toNat * 3) 0 1 underlying65) (lG 14 10 (bF q6) (eL ⟨b9, o10 + (0 : Int).toNat * 3 + 0, none⟩ (.int .i64 ((x1.getD 0 z65).kind)) underlying3 (hpx (S0_.inv.cell (k14 0 _ rfl)))) (lG 15 10 (bF q6) (eNe .i64 (x1.getD 0 z65).kind 3) (lV 16 (eF (.bool (decide (((x1.getD 0 z65).kind) ≠ 3))) (bF q6)) (wN (tN ?_))))))
  by_cases q19 : ((x1.getD 0 z65).kind) ≠ 3
  · replace M := ifp q19 M
    refine cT (bT q19) (wQ (wR (lV 17 (eM (.slice none 0 0)) (lV 2 (eA (.slice none 0 0)) (wN (tN (wT (tR ?_))))))))
    obtain rfl := sj M
    have S20 := S0_.unit
    exact ret1 rfl rfl  (show _ = .slice none 0 0 from kr) ⟨none, 0, no, H, rfl, (Row.nil _ _ _ _ no), S20⟩
  replace M := ifn q19 M
  refine cF (bF q19) (wK (tN (wQ (wR (lV 4 (eA (.int .i64 1)) (wN (tN (wQ (wQ (wR (lV 5 (eA (.int .i64 0)) (wN (tN (wp_block ?_))))))))))))))
  have S40 := S0_.unit
  refine wp_loop_g (fun k37 a38 w21 => ∃ (f22 : Nat → Value) (x23 : List (List Cell)) (A24 : Option Addr) (c25 : Nat) (F26 : Foot) (x28 : Int) (x29 : Int), a38 = mk 38 f22 ∧ f22 0 = .slice A2 x1.length c3 ∧ f22 3 = .slice A24 x23.length c25 ∧ f22 4 = .int .i64 x28 ∧ f22 5 = .int .i64 x29 ∧ Row (ro sl65) 25 H (hp w21) F26 A24 c25 x23 ∧ St (anyOf []) H w [F26] H w21 ∧ spec_l2args.l0 k37 x1 x23 x28 x29 = some r) k ⟨_, [], none, 0, no, 1, 0, rfl, kr, kr, kr, kr, (Row.nil _ _ _ _ _), S40, M⟩ ?_
  clear M
  rintro k37 a38 w21 ⟨f22, x23, A24, c25, F26, x28, x29, rfl, e30, e31, e32, e33, h27, S34, M⟩
  rcases k37 with _ | k39
  · rw [spec_l2args.l0] at M
    cases M
  rw [spec_l2args.l0] at M
  refine wQ (wQ (wR (lV 18 (eM (.int .i64 x29) (by exact e33)) (lV 19 (eM (.slice A2 x1.length c3) (by exact e30)) ?_))))
  obtain ⟨b41, o42, e43⟩ := Rd.addr h4 (show 0 < x1.length by omega)
  obtain ⟨y44, r45, k46⟩ := Rd.at h4 e43 (getD_some z65 (show 0 < x1.length by omega))
  obtain ⟨A47, c48, rfl, l49, h50⟩ := st65_open r45
  refine lV 20 (e_indexAddr (b := b41) (off := o42) (n := x1.length) (c := c3) (sz := 3) (i := 0) (k := .i64) underlying25 e43 kr kr rfl (by omega) q8) (lV 21 (eD b41 (o42 + (0 : Int).toNat * 3) 1 1 underlying65) (lV 22 (eL ⟨b41, o42 + (0 : Int).toNat * 3 + 1, none⟩ (.int .i64 ((x1.getD 0 z65).n)) underlying3 (hpx (S34.inv.cell (k46 1 _ rfl)))) (lV 23 (eLt .i64 x29 (x1.getD 0 z65).n) (wN (tN ?_)))))
  by_cases q51 : x29 < ((x1.getD 0 z65).n)
  · replace M := ifp q51 M
    refine cT (bT q51) (wK (tN (wQ (wp_block (wQ (wR (lV 26 (eM (.slice A2 x1.length c3) (by exact e30)) (lV 27 (eM (.int .i64 x28) (by exact e32)) ?_))))))))
    obtain ⟨t52, u53, M⟩ := bnd M
    refine lC 28 (eC [.tmp 26, .tmp 27] [.slice A2 x1.length c3, .int .i64 x28] func70) (spec_l2next.calls k39 w21 H x1 A2 c3 x28 h4 l5 S34.own0 t52 u53) ?_
    rintro _ w54 ⟨rfl, C55⟩
    refine ⟨_, rfl, ?_⟩
    obtain ⟨S56, K57⟩ := S34.still C55
    replace h27 := h27.move (K57.at 0 rfl)
    refine lV 6 (eA (.int .i64 t52)) (wN (tN (wQ (wR (lV 29 (eM (.slice A24 x23.length c25) (by exact e31)) (lV 30 (eM (.slice A2 x1.length c3) (by exact e30)) (lV 31 (eM (.int .i64 x28) (by exact e32)) (lV 32 (eM (.int .i64 t52)) ?_))))))))
    obtain ⟨q58, M⟩ := chk M
    obtain ⟨q59, M⟩ := chk M
    obtain ⟨q60, M⟩ := chk M
    obtain ⟨A61, h64, l63, h62⟩ := Rd.sub2 (d := st65) (n := x1.length) (m := 3) (cap := c3) (a := x28) (b := t52) rfl h4 q58 q59 q60 rfl l5
    refine lV 33 (e_slice_lh (n := x1.length) (m := 3) (cap := c3) (A := A2) (a := x28) (b := t52) (k := .i64) (k2 := .i64) underlying25 kr kr kr kr q58 q59 q60 l5 h64) ?_
    refine lW 34 (new_blk (v := fun g_ => .slice (some ⟨g_, 0, none⟩) 1 1) (cs := #[.slice A61 ((x1.drop ((x28 : Int).toNat)).take ((t52 : Int).toNat - (x28 : Int).toNat)).length (c3 - ((x28 : Int).toNat))]) (t := 25) S56 kr) ?_
    rintro _ w65 ⟨g66, rfl, b67, S68, K69⟩
    replace h27 := h27.move (K69.at 0 rfl)
    obtain ⟨q70, M⟩ := chk M
    have S71 := S68.pulls [F26, (is g66)] [1] rfl
    have S72 := S71.unit
    have S73 := S72.pulls [F26, no, (is g66)] [1] rfl
    refine lW 35 (e_append (d := (ro sl65)) (n := x23.length) (xs := x23) (cap := c25) (A := A24) (ys := [((x1.drop ((x28 : Int).toNat)).take ((t52 : Int).toNat - (x28 : Int).toNat))]) (A2 := (some ⟨g66, 0, none⟩)) (c2 := 1) (z := .slice none 0 0) (bytes := 24) S73 underlying38 kr rfl (by decide) kr rfl kr h27 (elsO_one1 ⟨A61, (c3 - ((x28 : Int).toNat)), rfl, l63, h62⟩) (.inr (blk_news b67 rfl)) (show (x23.length + [((x1.drop ((x28 : Int).toNat)).take ((t52 : Int).toNat - (x28 : Int).toNat))].length) * 24 ≤ _ by first | omega | (simp only [List.length_cons, List.length_nil]; omega)) (by decide)) ?_
    rintro _ w74 ⟨A75, c76, F77, rfl, h78, S79, K80⟩
    refine lV 3 (eA (.slice A75 ((x23 ++ [((x1.drop ((x28 : Int).toNat)).take ((t52 : Int).toNat - (x28 : Int).toNat))]).length) c76)) (wN (tN (wR (lV 36 (eM (.int .i64 t52)) (lV 4 (eA (.int .i64 t52)) (wN (inb_n (tN (wR (lV 24 (eM (.int .i64 x29) (by exact e33)) (lV 25 (eAdd .i64 x29 1) (lV 5 (eA (.int .i64 (i64.wrap (x29 + 1)))) (wN (tN ?_))))))))))))))
    have S81 := St.first (Fa := [F77]) (Fr := [(is g66)]) S79
    exact ⟨k39, (by omega), _, (x23 ++ [((x1.drop ((x28 : Int).toNat)).take ((t52 : Int).toNat - (x28 : Int).toNat))]), A75, c76, F77, t52, (i64.wrap (x29 + 1)), rfl, (by exact e30), kr, kr, kr, h78, S81, M⟩
  replace M := ifn q51 M
  refine cF (bF q51) (wp_exit (tE (tE (inb_hit (tN (wQ (wR (lV 37 (eM (.slice A24 x23.length c25) (by exact e31)) (lV 2 (eA (.slice A24 x23.length c25)) (wN (tN (wT ?_))))))))))))
  obtain rfl := sj M
  exact ret1 rfl rfl  (show _ = .slice A24 x23.length c25 from kr) ⟨A24, c25, F26, H, rfl, h27, S34⟩

/-! spec_l5pair -/
mutual
def spec_l5pair_2.l0 : Nat → (List Binding) → Int → Option (Int × GL5st)
  | 0, _, _ => none
  | k112 + 1, x102, x107 => some (0, (⟨x102, x107⟩ : GL5st))
def spec_l5pair_2.l1 : Nat → GL5st → (List Cell) → (List Cell) → Int → Int → (List UInt8) → Int → Int → (List UInt8) → Option (Int × GL5st)
  | 0, _, _, _, _, _, _, _, _, _ => none
  | k232 + 1, x1, x199, x204, x209, x210, x211, x216, x217, x218 => (if x209 = 0 then ((spec_l5stands.f k232 (⟨x1.sub_, (i64.wrap (x1.pairs_ + 1))⟩ : GL5st) x210 x204).bind fun t266 => (if t266 = true then some (5, (⟨x1.sub_, (i64.wrap (x1.pairs_ + 1))⟩ : GL5st)) else ((spec_l5bind.f k232 (⟨x1.sub_, (i64.wrap (x1.pairs_ + 1))⟩ : GL5st) x210 x204).bind fun t291 => some (0, t291)))) else (if x209 ≠ x216 then some (4, (⟨x1.sub_, (i64.wrap (x1.pairs_ + 1))⟩ : GL5st)) else (if x210 ≠ x217 then some (4, (⟨x1.sub_, (i64.wrap (x1.pairs_ + 1))⟩ : GL5st)) else (if x211 ≠ x218 then some (4, (⟨x1.sub_, (i64.wrap (x1.pairs_ + 1))⟩ : GL5st)) else ((spec_l2args.f k232 x199).bind fun t319 => ((spec_l2args.f k232 x204).bind fun t331 => (spec_l5pair_2.l2 k232 t319 t331 0 x1.sub_ (i64.wrap (x1.pairs_ + 1)))))))))
def spec_l5pair_2.l2 : Nat → (List (List Cell)) → (List (List Cell)) → Int → (List Binding) → Int → Option (Int × GL5st)
  | 0, _, _, _, _, _ => none
  | k363 + 1, t319, t331, x347, x348, x353 => (if x347 < (t319.length : Int) then (if 0 ≤ x347 then (if x347 < (t331.length : Int) then ((spec_l5pair_2.f k363 (⟨x348, x353⟩ : GL5st) (t319.getD ((x347).toNat) ([] : List Cell)) (t331.getD ((x347).toNat) ([] : List Cell))).bind fun t422 => (if t422.1 ≠ 0 then some (t422.1, t422.2) else (spec_l5pair_2.l2 k363 t319 t331 (i64.wrap (x347 + 1)) t422.2.sub_ t422.2.pairs_))) else none) else none) else some (0, (⟨x348, x353⟩ : GL5st)))
def spec_l5pair_2.f : Nat → GL5st → (List Cell) → (List Cell) → Option (Int × GL5st)
  | 0, _, _, _ => none
  | k1_ + 1, x1, x8, x13 => (if x1.pairs_ ≥ 20000 then some (3, x1) else ((spec_l5walk.f k1_ (⟨x1.sub_, (i64.wrap (x1.pairs_ + 1))⟩ : GL5st) x8).bind fun t26 => ((spec_l5walk.f k1_ (⟨x1.sub_, (i64.wrap (x1.pairs_ + 1))⟩ : GL5st) x13).bind fun t42 => (if 0 < (t26.length : Int) then (if 0 < (t42.length : Int) then (if ((t26.getD 0 z65).kind) = 0 then (if ((t42.getD 0 z65).kind) = 0 then (if ((t26.getD 0 z65).n) > ((t42.getD 0 z65).n) then ((spec_l5bind.f k1_ (⟨x1.sub_, (i64.wrap (x1.pairs_ + 1))⟩ : GL5st) ((t26.getD 0 z65).n) t42).bind fun t117 => (spec_l5pair_2.l0 k1_ t117.sub_ t117.pairs_)) else (if ((t42.getD 0 z65).n) > ((t26.getD 0 z65).n) then ((spec_l5bind.f k1_ (⟨x1.sub_, (i64.wrap (x1.pairs_ + 1))⟩ : GL5st) ((t42.getD 0 z65).n) t26).bind fun t136 => (spec_l5pair_2.l0 k1_ t136.sub_ t136.pairs_)) else (spec_l5pair_2.l0 k1_ x1.sub_ (i64.wrap (x1.pairs_ + 1))))) else ((spec_l5stands.f k1_ (⟨x1.sub_, (i64.wrap (x1.pairs_ + 1))⟩ : GL5st) ((t26.getD 0 z65).n) t42).bind fun t156 => (if t156 = true then some (5, (⟨x1.sub_, (i64.wrap (x1.pairs_ + 1))⟩ : GL5st)) else ((spec_l5bind.f k1_ (⟨x1.sub_, (i64.wrap (x1.pairs_ + 1))⟩ : GL5st) ((t26.getD 0 z65).n) t42).bind fun t181 => some (0, t181))))) else (if ((t42.getD 0 z65).kind) = 0 then (spec_l5pair_2.l1 k1_ x1 t42 t26 ((t42.getD 0 z65).kind) ((t42.getD 0 z65).n) ((t42.getD 0 z65).text) ((t26.getD 0 z65).kind) ((t26.getD 0 z65).n) ((t26.getD 0 z65).text)) else (spec_l5pair_2.l1 k1_ x1 t26 t42 ((t26.getD 0 z65).kind) ((t26.getD 0 z65).n) ((t26.getD 0 z65).text) ((t42.getD 0 z65).kind) ((t42.getD 0 z65).n) ((t42.getD 0 z65).text)))) else none) else none))))
end
theorem spec_l5pair_2.all : ∀ (K : Nat), (∀ (k : Nat), k < K → ∀ (w : World) (H : Hp) (x1 : GL5st) (g2 : Nat) (A4 : Option Addr) (c5 : Nat) (F7 : Foot) (x8 : List Cell) (A9 : Option Addr) (c10 : Nat) (x13 : List Cell) (A14 : Option Addr) (c15 : Nat) (h6 : Row (ro st63) 63 H (hp w) F7 A4 c5 x1.sub_) (b3 : w.heap[g2]? = some (.cells #[.slice A4 x1.sub_.length c5, .int .i64 x1.pairs_] 106 (0, 0))) (h11 : Rd st65 H A9 x8) (l12 : x8.length ≤ c10) (h16 : Rd st65 H A14 x13) (l17 : x13.length ≤ c15) (S : Own [F7, (is g2)] H w) (r : Int × GL5st) (M : spec_l5pair_2.f k x1 x8 x13 = some r), Calls Try.prog 89 #[.pointer (some ⟨g2, 0, none⟩), .slice A9 x8.length c10, .slice A14 x13.length c15] w (fun e e_w => ∃ (A_1 : Option Addr) (c_1 : Nat) (F_1 : Foot) (H_ : Hp), e = .returned (.int .i64 r.1) ∧ Row (ro st63) 63 H_ (hp e_w) F_1 A_1 c_1 r.2.sub_ ∧ e_w.heap[g2]? = some (.cells #[.slice A_1 r.2.sub_.length c_1, .int .i64 r.2.pairs_] 106 (0, 0)) ∧ St (anyOf [F7, (is g2)]) H w [(is g2), F_1] H_ e_w)) := by
  intro K
  induction K with
  | zero => intro k hk; omega
  | succ K ih =>
    intro k hk w H x1 g2 A4 c5 F7 x8 A9 c10 x13 A14 c15 h6 b3 h11 l12 h16 l17 S r M
    rcases k with _ | k1_
    · rw [spec_l5pair_2.f] at M
      cases M
    rw [spec_l5pair_2.f] at M
    refine enter (l := [.pointer (some ⟨g2, 0, none⟩), .slice A9 x8.length c10, .slice A14 x13.length c15]) 135 func89 rfl rfl rfl ?_
    have S0_ := S.st
    refine wQ (wR (lV 6 (eA (.int .i64 0)) (wN (tN (wQ (wQ (wR (lV 14 (eM (.pointer (some ⟨g2, 0, none⟩))) (lV 15 (eN ⟨g2, 0, none⟩) (lV 16 (eD g2 0 1 1 underlying106) (lV 17 (eL ⟨g2, 0 + 1, none⟩ (.int .i64 x1.pairs_) underlying3 (blk_cell b3 rfl)) (lV 18 (e_geq (k := .i64) (a := x1.pairs_) (b := 20000) kr rfl) (wN (tN ?_))))))))))))))
    by_cases q18 : x1.pairs_ ≥ 20000
    · replace M := ifp q18 M
      refine cT (bT q18) (wQ (wR (lV 6 (eA (.int .i64 3)) (wN (tN (wT (tR ?_)))))))
      obtain rfl := sj M
      have S19 := S0_.pulls [(is g2), F7] [1] rfl
      exact ret1 rfl rfl  (show _ = .int .i64 3 from kr) ⟨A4, c5, F7, H, rfl, h6, b3, S19⟩
    replace M := ifn q18 M
    refine cF (bF q18) (wK (tN (wQ (wR (lV 19 (eM (.pointer (some ⟨g2, 0, none⟩))) (lV 20 (eN ⟨g2, 0, none⟩) (lV 21 (eD g2 0 1 1 underlying106) (lV 22 (eL ⟨g2, 0 + 1, none⟩ (.int .i64 x1.pairs_) underlying3 (blk_cell b3 rfl)) (lV 23 (eAdd .i64 x1.pairs_ 1) (lV 24 (eN ⟨g2, 0, none⟩) (lV 25 (eD g2 0 1 1 underlying106) ?_)))))))))))
    have S20 := S0_.pulls [(is g2), F7] [1] rfl
    refine lE (eS g2 (0 + 1) (.int .i64 (i64.wrap (x1.pairs_ + 1))) #[.slice A4 x1.sub_.length c5, .int .i64 (i64.wrap (x1.pairs_ + 1))] [.int .i64 (i64.wrap (x1.pairs_ + 1))] S20 b3) ?_
    rintro w21 ⟨b22, S23, K24⟩
    replace h6 := h6.move (K24.at 0 rfl)
    clear b3
    refine wN (tN (wQ (wR (lV 26 (eM (.pointer (some ⟨g2, 0, none⟩))) (lV 27 (eM (.slice A9 x8.length c10)) ?_)))))
    have S25 := S23.pulls [F7, (is g2)] [1] rfl
    obtain ⟨t26, u27, M⟩ := bnd M
    refine lC 28 (eC [.tmp 26, .tmp 27] [.pointer (some ⟨g2, 0, none⟩), .slice A9 x8.length c10] func115) (spec_l5walk.calls k1_ w21 H (⟨x1.sub_, (i64.wrap (x1.pairs_ + 1))⟩ : GL5st) g2 A4 c5 F7 x8 A9 c10 h6 b22 h11 l12 (St.own' (Fa := [F7, (is g2)]) (Fr := []) S25) t26 u27) ?_
    rintro _ w28 ⟨A33, c34, H29, rfl, h31, b32, h35, l36, T30⟩
    refine ⟨_, rfl, ?_⟩
    obtain ⟨S37, K38⟩ := St.call (Fa := [F7, (is g2)]) (Fr := []) S25 T30
    have E39 := T30.ext
    refine lV 1 (eA (.slice A33 t26.length c34)) (wN (tN (wQ (wR (lV 29 (eM (.pointer (some ⟨g2, 0, none⟩))) (lV 30 (eM (.slice A14 x13.length c15)) ?_))))))
    have S41 := S37.pulls [F7, (is g2)] [1, 1] rfl
    obtain ⟨t42, u43, M⟩ := bnd M
    refine lC 31 (eC [.tmp 29, .tmp 30] [.pointer (some ⟨g2, 0, none⟩), .slice A14 x13.length c15] func115) (spec_l5walk.calls k1_ w28 H29 (⟨x1.sub_, (i64.wrap (x1.pairs_ + 1))⟩ : GL5st) g2 A4 c5 F7 x13 A14 c15 h31 b32 (h16.ext E39) l17 (St.own' (Fa := [F7, (is g2)]) (Fr := []) S41) t42 u43) ?_
    rintro _ w44 ⟨A49, c50, H45, rfl, h47, b48, h51, l52, T46⟩
    refine ⟨_, rfl, ?_⟩
    obtain ⟨S53, K54⟩ := St.call (Fa := [F7, (is g2)]) (Fr := []) S41 T46
    have E55 := T46.ext
    refine lV 2 (eA (.slice A49 t42.length c50)) (wN (tN (wQ (wR (lV 32 (eM (.slice A33 t26.length c34)) ?_)))))
    obtain ⟨q56, M⟩ := chk M
    obtain ⟨b57, o58, e59⟩ := Rd.addr h35 (show 0 < t26.length by omega)
    obtain ⟨y60, r61, k62⟩ := Rd.at h35 e59 (getD_some z65 (show 0 < t26.length by omega))
    obtain ⟨A63, c64, rfl, l65, h66⟩ := st65_open r61
    refine lV 33 (e_indexAddr (b := b57) (off := o58) (n := t26.length) (c := c34) (sz := 3) (i := 0) (k := .i64) underlying25 e59 kr kr rfl (by omega) q56) (lV 34 (e_loadS (b := b57) (off := o58 + (0 : Int).toNat * 3) (cs := [.int .i64 ((t26.getD 0 z65).kind), .int .i64 ((t26.getD 0 z65).n), .slice A63 ((t26.getD 0 z65).text).length c64]) underlying65 rfl kr kr (fun j_ u_ e_ => (hpx (S53.inv.cell (E55.cell (k62 j_ u_ e_)))))) ?_)
    refine lW 7 (nB #[.int .i64 0, .int .i64 0, .slice none 0 0] 65 S53) ?_
    rintro _ w67 ⟨g68, rfl, b69, S70, K71⟩
    replace h47 := h47.move (K71.at 0 rfl)
    replace b48 := K71.blk 1 rfl b48
    refine lE (eSa g68 0 [.int .i64 ((t26.getD 0 z65).kind), .int .i64 ((t26.getD 0 z65).n), .slice A63 ((t26.getD 0 z65).text).length c64] S70 b69) ?_
    rintro w72 ⟨b73, S74, K75⟩
    replace h47 := h47.move (K75.at 0 rfl)
    replace b48 := K75.blk 1 rfl b48
    clear b69
    refine wN (tN (wQ (wR (lV 35 (eM (.slice A49 t42.length c50)) ?_))))
    obtain ⟨q76, M⟩ := chk M
    obtain ⟨b77, o78, e79⟩ := Rd.addr h51 (show 0 < t42.length by omega)
    obtain ⟨y80, r81, k82⟩ := Rd.at h51 e79 (getD_some z65 (show 0 < t42.length by omega))
    obtain ⟨A83, c84, rfl, l85, h86⟩ := st65_open r81
    refine lV 36 (e_indexAddr (b := b77) (off := o78) (n := t42.length) (c := c50) (sz := 3) (i := 0) (k := .i64) underlying25 e79 kr kr rfl (by omega) q76) (lV 37 (e_loadS (b := b77) (off := o78 + (0 : Int).toNat * 3) (cs := [.int .i64 ((t42.getD 0 z65).kind), .int .i64 ((t42.getD 0 z65).n), .slice A83 ((t42.getD 0 z65).text).length c84]) underlying65 rfl kr kr (fun j_ u_ e_ => (hpx (S74.inv.cell (k82 j_ u_ e_))))) ?_)
    refine lW 8 (nB #[.int .i64 0, .int .i64 0, .slice none 0 0] 65 S74) ?_
    rintro _ w87 ⟨g88, rfl, b89, S90, K91⟩
    replace b73 := K91.blk 0 rfl b73
    replace h47 := h47.move (K91.at 1 rfl)
    replace b48 := K91.blk 2 rfl b48
    refine lE (eSa g88 0 [.int .i64 ((t42.getD 0 z65).kind), .int .i64 ((t42.getD 0 z65).n), .slice A83 ((t42.getD 0 z65).text).length c84] S90 b89) ?_
    rintro w92 ⟨b93, S94, K95⟩
    replace b73 := K95.blk 0 rfl b73
    replace h47 := h47.move (K95.at 1 rfl)
    replace b48 := K95.blk 2 rfl b48
    clear b89
    refine wN (tN (wQ (wQ (wR (lV 38 (eD g68 0 0 1 underlying65) (lV 39 (eL ⟨g68, 0 + 0, none⟩ (.int .i64 ((t26.getD 0 z65).kind)) underlying3 (blk_cell b73 rfl)) (lV 40 (eEq .i64 (t26.getD 0 z65).kind 0) (lV 41 (eM (.bool (decide (((t26.getD 0 z65).kind) = 0)))) ?_))))))))
    by_cases q96 : ((t26.getD 0 z65).kind) = 0
    · replace M := ifp q96 M
      refine lG 42 41 (bT q96) (eD g88 0 0 1 underlying65) (lG 43 41 (bT q96) (eL ⟨g88, 0 + 0, none⟩ (.int .i64 ((t42.getD 0 z65).kind)) underlying3 (blk_cell b93 rfl)) (lG 44 41 (bT q96) (eEq .i64 (t42.getD 0 z65).kind 0) (lV 45 (eT (.bool (decide (((t42.getD 0 z65).kind) = 0))) (bT q96)) (wN (tN ?_)))))
      by_cases q97 : ((t42.getD 0 z65).kind) = 0
      · replace M := ifp q97 M
        refine cT (bT q97) ?_
        refine wp_seq_cut (fun a111 w98 => ∃ (k113 : Nat), k113 ≤ k1_ ∧ ∃ (f99 : Nat → Value) (H100 : Hp) (x102 : List Binding) (A103 : Option Addr) (c104 : Nat) (F105 : Foot) (x107 : Int), k113 < K ∧ a111 = mk 135 f99 ∧ w98.heap[g2]? = some (.cells #[.slice A103 x102.length c104, .int .i64 x107] 106 (0, 0)) ∧ Row (ro st63) 63 H100 (hp w98) F105 A103 c104 x102 ∧ Ext H45 H100 ∧ St (anyOf [F7, (is g2)]) H w [(is g2), F105] H100 w98 ∧ spec_l5pair_2.l0 k113 x102 x107 = some r) ?_ ?_
        · refine wQ (wR (lV 46 (eD g68 0 1 1 underlying65) (lV 47 (eL ⟨g68, 0 + 1, none⟩ (.int .i64 ((t26.getD 0 z65).n)) underlying3 (blk_cell b73 rfl)) (lV 48 (eD g88 0 1 1 underlying65) (lV 49 (eL ⟨g88, 0 + 1, none⟩ (.int .i64 ((t42.getD 0 z65).n)) underlying3 (blk_cell b93 rfl)) (lV 50 (e_gtr (k := .i64) (a := (t26.getD 0 z65).n) (b := (t42.getD 0 z65).n) kr kr) (wN (tN ?_))))))))
          by_cases q114 : ((t26.getD 0 z65).n) > ((t42.getD 0 z65).n)
          · replace M := ifp q114 M
            refine cT (bT q114) (wR (lV 51 (eM (.pointer (some ⟨g2, 0, none⟩))) (lV 52 (eD g68 0 1 1 underlying65) (lV 53 (eL ⟨g68, 0 + 1, none⟩ (.int .i64 ((t26.getD 0 z65).n)) underlying3 (blk_cell b73 rfl)) (lV 54 (eM (.slice A49 t42.length c50)) ?_)))))
            have S116 := S94.pulls [F7, (is g2), (is g88), (is g68)] [3, 3] rfl
            obtain ⟨t117, u118, M⟩ := bnd M
            refine lC 55 (eC [.tmp 51, .tmp 53, .tmp 54] [.pointer (some ⟨g2, 0, none⟩), .int .i64 ((t26.getD 0 z65).n), .slice A49 t42.length c50] func116) (spec_l5bind.calls k1_ w92 H45 (⟨x1.sub_, (i64.wrap (x1.pairs_ + 1))⟩ : GL5st) g2 A4 c5 F7 ((t26.getD 0 z65).n) t42 A49 c50 h47 b48 h51 l52 (St.own' (Fa := [F7, (is g2)]) (Fr := [(is g88), (is g68)]) S116) t117 u118) ?_
            rintro _ w119 ⟨A122, c123, F125, H120, rfl, h124, b126, T121⟩
            refine ⟨_, rfl, ?_⟩
            obtain ⟨S127, K128⟩ := St.call (Fa := [F7, (is g2)]) (Fr := [(is g88), (is g68)]) S116 T121
            have E129 := T121.ext
            refine wN (tN ?_)
            have S131 := S127.pulls [(is g2), F125, (is g88), (is g68)] [1, 1] rfl
            have S132 := St.first (Fa := [(is g2), F125]) (Fr := [(is g88), (is g68)]) S131
            exact ⟨k1_, (by omega), _, H120, t117.sub_, A122, c123, F125, t117.pairs_, (by omega), rfl, b126, h124, E129, S132, M⟩
          replace M := ifn q114 M
          refine cF (bF q114) (wQ (wR (lV 56 (eD g88 0 1 1 underlying65) (lV 57 (eL ⟨g88, 0 + 1, none⟩ (.int .i64 ((t42.getD 0 z65).n)) underlying3 (blk_cell b93 rfl)) (lV 58 (eD g68 0 1 1 underlying65) (lV 59 (eL ⟨g68, 0 + 1, none⟩ (.int .i64 ((t26.getD 0 z65).n)) underlying3 (blk_cell b73 rfl)) (lV 60 (e_gtr (k := .i64) (a := (t42.getD 0 z65).n) (b := (t26.getD 0 z65).n) kr kr) (wN (tN ?_)))))))))
          by_cases q133 : ((t42.getD 0 z65).n) > ((t26.getD 0 z65).n)
          · replace M := ifp q133 M
            refine cT (bT q133) (wR (lV 61 (eM (.pointer (some ⟨g2, 0, none⟩))) (lV 62 (eD g88 0 1 1 underlying65) (lV 63 (eL ⟨g88, 0 + 1, none⟩ (.int .i64 ((t42.getD 0 z65).n)) underlying3 (blk_cell b93 rfl)) (lV 64 (eM (.slice A33 t26.length c34)) ?_)))))
            have S135 := S94.pulls [F7, (is g2), (is g88), (is g68)] [3, 3] rfl
            obtain ⟨t136, u137, M⟩ := bnd M
            refine lC 65 (eC [.tmp 61, .tmp 63, .tmp 64] [.pointer (some ⟨g2, 0, none⟩), .int .i64 ((t42.getD 0 z65).n), .slice A33 t26.length c34] func116) (spec_l5bind.calls k1_ w92 H45 (⟨x1.sub_, (i64.wrap (x1.pairs_ + 1))⟩ : GL5st) g2 A4 c5 F7 ((t42.getD 0 z65).n) t26 A33 c34 h47 b48 (h35.ext E55) l36 (St.own' (Fa := [F7, (is g2)]) (Fr := [(is g88), (is g68)]) S135) t136 u137) ?_
            rintro _ w138 ⟨A141, c142, F144, H139, rfl, h143, b145, T140⟩
            refine ⟨_, rfl, ?_⟩
            obtain ⟨S146, K147⟩ := St.call (Fa := [F7, (is g2)]) (Fr := [(is g88), (is g68)]) S135 T140
            have E148 := T140.ext
            refine wN (tN ?_)
            have S150 := S146.pulls [(is g2), F144, (is g88), (is g68)] [1, 1] rfl
            have S151 := St.first (Fa := [(is g2), F144]) (Fr := [(is g88), (is g68)]) S150
            exact ⟨k1_, (by omega), _, H139, t136.sub_, A141, c142, F144, t136.pairs_, (by omega), rfl, b145, h143, E148, S151, M⟩
          replace M := ifn q133 M
          refine cF (bF q133) (wK (tN ?_))
          have S153 := S94.pulls [(is g2), F7, (is g88), (is g68)] [2, 3] rfl
          have S154 := St.first (Fa := [(is g2), F7]) (Fr := [(is g88), (is g68)]) S153
          exact ⟨k1_, (by omega), _, H45, x1.sub_, A4, c5, F7, (i64.wrap (x1.pairs_ + 1)), (by omega), rfl, b48, h47, (Ext.refl _), S154, M⟩
        clear M
        rintro a111 w98 ⟨k113, z155, f99, H100, x102, A103, c104, F105, x107, z109, rfl, b48, h106, Y101, S108, M⟩
        rcases k113 with _ | k112
        · rw [spec_l5pair_2.l0] at M
          cases M
        rw [spec_l5pair_2.l0] at M
        refine wQ (wR (lV 6 (eA (.int .i64 0)) (wN (tN (wT (tR ?_))))))
        obtain rfl := sj M
        exact ret1 rfl rfl  (show _ = .int .i64 0 from kr) ⟨A103, c104, F105, H100, rfl, h106, b48, S108⟩
      replace M := ifn q97 M
      refine cF (bF q97) (wK (tN (wQ (wQ (wR (lV 66 (eD g88 0 0 1 underlying65) (lV 67 (eL ⟨g88, 0 + 0, none⟩ (.int .i64 ((t42.getD 0 z65).kind)) underlying3 (blk_cell b93 rfl)) (lV 68 (eEq .i64 (t42.getD 0 z65).kind 0) (wN (tN (cF (bF q97) (wK (tN (wQ (wQ (wR (lV 78 (eD g68 0 0 1 underlying65) (lV 79 (eL ⟨g68, 0 + 0, none⟩ (.int .i64 ((t26.getD 0 z65).kind)) underlying3 (blk_cell b73 rfl)) (lV 80 (eEq .i64 (t26.getD 0 z65).kind 0) (wN (tN (cT (bT q96) (wQ (wQ (wR (lV 81 (eM (.pointer (some ⟨g2, 0, none⟩))) (lV 82 (eD g68 0 1 1 underlying65) (lV 83 (eL ⟨g68, 0 + 1, none⟩ (.int .i64 ((t26.getD 0 z65).n)) underlying3 (blk_cell b73 rfl)) (lV 84 (eM (.slice A49 t42.length c50)) ?_)))))))))))))))))))))))))))))
      obtain ⟨t156, u157, M⟩ := bnd M
      refine lC 85 (eC [.tmp 81, .tmp 83, .tmp 84] [.pointer (some ⟨g2, 0, none⟩), .int .i64 ((t26.getD 0 z65).n), .slice A49 t42.length c50] func117) (by have l158 := h47.le; have S159 := S94.pull (F := F7) (Fr := [(is g88), (is g68), (is g2)]) 2 rfl rfl; obtain ⟨H160, S161, E162, h163, z164⟩ := S159.frzRow h47; replace h163 := h163.unro; have S165 := S161.pull (F := (is g2)) (Fr := [(is g88), (is g68)]) 2 rfl rfl; obtain ⟨H166, S167, E168, h169, z170⟩ := S165.frzBlk b48; exact (spec_l5stands.calls k1_ w92 H166 (⟨x1.sub_, (i64.wrap (x1.pairs_ + 1))⟩ : GL5st) g2 A4 c5 ((t26.getD 0 z65).n) t42 A49 c50 (h163.ext E168) l158 h169 (h51.ext (E162.trans E168)) l52 S167.own0 t156 u157)) ?_
      rintro _ w171 ⟨rfl, C172⟩
      refine ⟨_, rfl, ?_⟩
      obtain ⟨S173, K174⟩ := S94.still C172
      replace b73 := K174.blk 1 rfl b73
      replace h47 := h47.move (K174.at 2 rfl)
      replace b48 := K174.blk 3 rfl b48
      refine wN (tN ?_)
      by_cases q175 : t156 = true
      · replace M := ifp q175 M
        refine cT (bvt q175 kr) (wQ (wR (lV 6 (eA (.int .i64 5)) (wN (tN (wT (tR (tR ?_))))))))
        obtain rfl := sj M
        have S177 := S173.pulls [(is g2), F7, (is g88), (is g68)] [2, 3] rfl
        have S178 := St.first (Fa := [(is g2), F7]) (Fr := [(is g88), (is g68)]) S177
        exact ret1 rfl rfl  (show _ = .int .i64 5 from kr) ⟨A4, c5, F7, H45, rfl, h47, b48, S178⟩
      replace M := ifn q175 M
      refine cF (bvf q175 kr) (wK (tN (wQ (wR (lV 86 (eM (.pointer (some ⟨g2, 0, none⟩))) (lV 87 (eD g68 0 1 1 underlying65) (lV 88 (eL ⟨g68, 0 + 1, none⟩ (.int .i64 ((t26.getD 0 z65).n)) underlying3 (blk_cell b73 rfl)) (lV 89 (eM (.slice A49 t42.length c50)) ?_))))))))
      have S180 := S173.pulls [F7, (is g2), (is g88), (is g68)] [3, 3] rfl
      obtain ⟨t181, u182, M⟩ := bnd M
      refine lC 90 (eC [.tmp 86, .tmp 88, .tmp 89] [.pointer (some ⟨g2, 0, none⟩), .int .i64 ((t26.getD 0 z65).n), .slice A49 t42.length c50] func116) (spec_l5bind.calls k1_ w171 H45 (⟨x1.sub_, (i64.wrap (x1.pairs_ + 1))⟩ : GL5st) g2 A4 c5 F7 ((t26.getD 0 z65).n) t42 A49 c50 h47 b48 h51 l52 (St.own' (Fa := [F7, (is g2)]) (Fr := [(is g88), (is g68)]) S180) t181 u182) ?_
      rintro _ w183 ⟨A186, c187, F189, H184, rfl, h188, b190, T185⟩
      refine ⟨_, rfl, ?_⟩
      obtain ⟨S191, K192⟩ := St.call (Fa := [F7, (is g2)]) (Fr := [(is g88), (is g68)]) S180 T185
      have E193 := T185.ext
      refine wN (tN (wQ (wR (lV 6 (eA (.int .i64 0)) (wN (tN (wT (tR ?_))))))))
      obtain rfl := sj M
      have S195 := S191.pulls [(is g2), F189, (is g88), (is g68)] [1, 1] rfl
      have S196 := St.first (Fa := [(is g2), F189]) (Fr := [(is g88), (is g68)]) S195
      exact ret1 rfl rfl  (show _ = .int .i64 0 from kr) ⟨A186, c187, F189, H184, rfl, h188, b190, S196⟩
    replace M := ifn q96 M
    refine lK 41 false (bF q96) ?_
    refine lK 41 false (bF q96) ?_
    refine lK 41 false (bF q96) ?_
    refine lV 45 (eF (.bool false) (bF q96)) (wN (tN (cond_f rfl kr (wK (tN ?_)))))
    refine wp_seq_cut (fun a231 w197 => ∃ (k233 : Nat), k233 ≤ k1_ ∧ ∃ (f198 : Nat → Value) (x199 : List Cell) (A200 : Option Addr) (c201 : Nat) (x204 : List Cell) (A205 : Option Addr) (c206 : Nat) (x209 : Int) (x210 : Int) (x211 : List UInt8) (A212 : Option Addr) (c213 : Nat) (x216 : Int) (x217 : Int) (x218 : List UInt8) (A219 : Option Addr) (c220 : Nat), k233 < K ∧ a231 = mk 135 f198 ∧ f198 0 = .pointer (some ⟨g2, 0, none⟩) ∧ f198 1 = .slice A200 x199.length c201 ∧ f198 2 = .slice A205 x204.length c206 ∧ f198 7 = .pointer (some ⟨g68, 0, none⟩) ∧ f198 8 = .pointer (some ⟨g88, 0, none⟩) ∧ w197.heap[g88]? = some (.cells #[.int .i64 x216, .int .i64 x217, .slice A219 x218.length c220] 65 (0, 0)) ∧ w197.heap[g68]? = some (.cells #[.int .i64 x209, .int .i64 x210, .slice A212 x211.length c213] 65 (0, 0)) ∧ Row (ro st63) 63 H45 (hp w197) F7 A4 c5 x1.sub_ ∧ w197.heap[g2]? = some (.cells #[.slice A4 x1.sub_.length c5, .int .i64 (i64.wrap (x1.pairs_ + 1))] 106 (0, 0)) ∧ Rd st65 H45 A200 x199 ∧ x199.length ≤ c201 ∧ Rd st65 H45 A205 x204 ∧ x204.length ≤ c206 ∧ Rd tByte H45 A212 x211 ∧ x211.length ≤ c213 ∧ Rd tByte H45 A219 x218 ∧ x218.length ≤ c220 ∧ St (anyOf [F7, (is g2)]) H w [(is g88), (is g68), F7, (is g2)] H45 w197 ∧ spec_l5pair_2.l1 k233 x1 x199 x204 x209 x210 x211 x216 x217 x218 = some r) ?_ ?_
    · refine wQ (wR (lV 66 (eD g88 0 0 1 underlying65) (lV 67 (eL ⟨g88, 0 + 0, none⟩ (.int .i64 ((t42.getD 0 z65).kind)) underlying3 (blk_cell b93 rfl)) (lV 68 (eEq .i64 (t42.getD 0 z65).kind 0) (wN (tN ?_))))))
      by_cases q234 : ((t42.getD 0 z65).kind) = 0
      · replace M := ifp q234 M
        refine cT (bT q234) (wQ (wR (lV 69 (eM (.slice A33 t26.length c34)) (lV 9 (eA (.slice A33 t26.length c34)) (wN (tN (wQ (wR (lV 70 (eM (.slice A49 t42.length c50)) (lV 1 (eA (.slice A49 t42.length c50)) (wN (tN (wQ (wR (lV 71 (eM (.slice A33 t26.length c34)) (lV 2 (eA (.slice A33 t26.length c34)) (wN (tN (wQ (wR (lV 72 (eM (.slice A49 t42.length c50)) ?_)))))))))))))))))))))
        obtain ⟨b235, o236, e237⟩ := Rd.addr h51 (show 0 < t42.length by omega)
        obtain ⟨y238, r239, k240⟩ := Rd.at h51 e237 (getD_some z65 (show 0 < t42.length by omega))
        obtain ⟨A241, c242, rfl, l243, h244⟩ := st65_open r239
        refine lV 73 (e_indexAddr (b := b235) (off := o236) (n := t42.length) (c := c50) (sz := 3) (i := 0) (k := .i64) underlying25 e237 kr kr rfl (by omega) q76) (lV 74 (e_loadS (b := b235) (off := o236 + (0 : Int).toNat * 3) (cs := [.int .i64 ((t42.getD 0 z65).kind), .int .i64 ((t42.getD 0 z65).n), .slice A241 ((t42.getD 0 z65).text).length c242]) underlying65 rfl kr kr (fun j_ u_ e_ => (hpx (S94.inv.cell (k240 j_ u_ e_))))) ?_)
        have S245 := S94.pulls [(is g68), (is g88), F7, (is g2)] [1] rfl
        refine lE (eSa g68 0 [.int .i64 ((t42.getD 0 z65).kind), .int .i64 ((t42.getD 0 z65).n), .slice A241 ((t42.getD 0 z65).text).length c242] S245 b73) ?_
        rintro w246 ⟨b247, S248, K249⟩
        replace b93 := K249.blk 0 rfl b93
        replace h47 := h47.move (K249.at 1 rfl)
        replace b48 := K249.blk 2 rfl b48
        clear b73
        refine wN (tN (wR (lV 75 (eM (.slice A33 t26.length c34)) ?_)))
        obtain ⟨b250, o251, e252⟩ := Rd.addr h35 (show 0 < t26.length by omega)
        obtain ⟨y253, r254, k255⟩ := Rd.at h35 e252 (getD_some z65 (show 0 < t26.length by omega))
        obtain ⟨A256, c257, rfl, l258, h259⟩ := st65_open r254
        refine lV 76 (e_indexAddr (b := b250) (off := o251) (n := t26.length) (c := c34) (sz := 3) (i := 0) (k := .i64) underlying25 e252 kr kr rfl (by omega) q56) (lV 77 (e_loadS (b := b250) (off := o251 + (0 : Int).toNat * 3) (cs := [.int .i64 ((t26.getD 0 z65).kind), .int .i64 ((t26.getD 0 z65).n), .slice A256 ((t26.getD 0 z65).text).length c257]) underlying65 rfl kr kr (fun j_ u_ e_ => (hpx (S248.inv.cell (E55.cell (k255 j_ u_ e_)))))) ?_)
        have S260 := S248.pulls [(is g88), (is g68), F7, (is g2)] [1] rfl
        refine lE (eSa g88 0 [.int .i64 ((t26.getD 0 z65).kind), .int .i64 ((t26.getD 0 z65).n), .slice A256 ((t26.getD 0 z65).text).length c257] S260 b93) ?_
        rintro w261 ⟨b262, S263, K264⟩
        replace b247 := K264.blk 0 rfl b247
        replace h47 := h47.move (K264.at 1 rfl)
        replace b48 := K264.blk 2 rfl b48
        clear b93
        refine wN (tN ?_)
        exact ⟨k1_, (by omega), _, t42, A49, c50, t26, A33, c34, ((t42.getD 0 z65).kind), ((t42.getD 0 z65).n), ((t42.getD 0 z65).text), A241, c242, ((t26.getD 0 z65).kind), ((t26.getD 0 z65).n), ((t26.getD 0 z65).text), A256, c257, (by omega), rfl, kr, kr, kr, kr, kr, b262, b247, h47, b48, h51, l52, (h35.ext E55), l36, h244, l243, (h259.ext E55), l258, S263, M⟩
      replace M := ifn q234 M
      refine cF (bF q234) (wK (tN ?_))
      exact ⟨k1_, (by omega), _, t26, A33, c34, t42, A49, c50, ((t26.getD 0 z65).kind), ((t26.getD 0 z65).n), ((t26.getD 0 z65).text), A63, c64, ((t42.getD 0 z65).kind), ((t42.getD 0 z65).n), ((t42.getD 0 z65).text), A83, c84, (by omega), rfl, kr, kr, kr, kr, kr, b93, b73, h47, b48, (h35.ext E55), l36, h51, l52, (h66.ext E55), l65, h86, l85, S94, M⟩
    clear M
    rintro a231 w197 ⟨k233, z450, f198, x199, A200, c201, x204, A205, c206, x209, x210, x211, A212, c213, x216, x217, x218, A219, c220, z229, rfl, e223, e224, e225, e226, e227, b93, b73, h47, b48, h202, l203, h207, l208, h214, l215, h221, l222, S228, M⟩
    rcases k233 with _ | k232
    · rw [spec_l5pair_2.l1] at M
      cases M
    rw [spec_l5pair_2.l1] at M
    refine wQ (wQ (wR (lV 78 (eD g68 0 0 1 underlying65 (by exact e226)) (lV 79 (eL ⟨g68, 0 + 0, none⟩ (.int .i64 x209) underlying3 (blk_cell b73 rfl)) (lV 80 (eEq .i64 x209 0) (wN (tN ?_)))))))
    by_cases q265 : x209 = 0
    · replace M := ifp q265 M
      refine cT (bT q265) (wQ (wQ (wR (lV 81 (eM (.pointer (some ⟨g2, 0, none⟩)) (by exact e223)) (lV 82 (eD g68 0 1 1 underlying65 (by exact e226)) (lV 83 (eL ⟨g68, 0 + 1, none⟩ (.int .i64 x210) underlying3 (blk_cell b73 rfl)) (lV 84 (eM (.slice A205 x204.length c206) (by exact e225)) ?_)))))))
      obtain ⟨t266, u267, M⟩ := bnd M
      refine lC 85 (eC [.tmp 81, .tmp 83, .tmp 84] [.pointer (some ⟨g2, 0, none⟩), .int .i64 x210, .slice A205 x204.length c206] func117) (by have l268 := h47.le; have S269 := S228.pull (F := F7) (Fr := [(is g88), (is g68), (is g2)]) 2 rfl rfl; obtain ⟨H270, S271, E272, h273, z274⟩ := S269.frzRow h47; replace h273 := h273.unro; have S275 := S271.pull (F := (is g2)) (Fr := [(is g88), (is g68)]) 2 rfl rfl; obtain ⟨H276, S277, E278, h279, z280⟩ := S275.frzBlk b48; exact (spec_l5stands.calls k232 w197 H276 (⟨x1.sub_, (i64.wrap (x1.pairs_ + 1))⟩ : GL5st) g2 A4 c5 x210 x204 A205 c206 (h273.ext E278) l268 h279 (h207.ext (E272.trans E278)) l208 S277.own0 t266 u267)) ?_
      rintro _ w281 ⟨rfl, C282⟩
      refine ⟨_, rfl, ?_⟩
      obtain ⟨S283, K284⟩ := S228.still C282
      replace b73 := K284.blk 1 rfl b73
      replace h47 := h47.move (K284.at 2 rfl)
      replace b48 := K284.blk 3 rfl b48
      refine wN (tN ?_)
      by_cases q285 : t266 = true
      · replace M := ifp q285 M
        refine cT (bvt q285 kr) (wQ (wR (lV 6 (eA (.int .i64 5)) (wN (tN (wT (tR (tR ?_))))))))
        obtain rfl := sj M
        have S287 := S283.pulls [(is g2), F7, (is g88), (is g68)] [2, 3] rfl
        have S288 := St.first (Fa := [(is g2), F7]) (Fr := [(is g88), (is g68)]) S287
        exact ret1 rfl rfl  (show _ = .int .i64 5 from kr) ⟨A4, c5, F7, H45, rfl, h47, b48, S288⟩
      replace M := ifn q285 M
      refine cF (bvf q285 kr) (wK (tN (wQ (wR (lV 86 (eM (.pointer (some ⟨g2, 0, none⟩)) (by exact e223)) (lV 87 (eD g68 0 1 1 underlying65 (by exact e226)) (lV 88 (eL ⟨g68, 0 + 1, none⟩ (.int .i64 x210) underlying3 (blk_cell b73 rfl)) (lV 89 (eM (.slice A205 x204.length c206) (by exact e225)) ?_))))))))
      have S290 := S283.pulls [F7, (is g2), (is g88), (is g68)] [3, 3] rfl
      obtain ⟨t291, u292, M⟩ := bnd M
      refine lC 90 (eC [.tmp 86, .tmp 88, .tmp 89] [.pointer (some ⟨g2, 0, none⟩), .int .i64 x210, .slice A205 x204.length c206] func116) (spec_l5bind.calls k232 w281 H45 (⟨x1.sub_, (i64.wrap (x1.pairs_ + 1))⟩ : GL5st) g2 A4 c5 F7 x210 x204 A205 c206 h47 b48 h207 l208 (St.own' (Fa := [F7, (is g2)]) (Fr := [(is g88), (is g68)]) S290) t291 u292) ?_
      rintro _ w293 ⟨A296, c297, F299, H294, rfl, h298, b300, T295⟩
      refine ⟨_, rfl, ?_⟩
      obtain ⟨S301, K302⟩ := St.call (Fa := [F7, (is g2)]) (Fr := [(is g88), (is g68)]) S290 T295
      have E303 := T295.ext
      refine wN (tN (wQ (wR (lV 6 (eA (.int .i64 0)) (wN (tN (wT (tR ?_))))))))
      obtain rfl := sj M
      have S305 := S301.pulls [(is g2), F299, (is g88), (is g68)] [1, 1] rfl
      have S306 := St.first (Fa := [(is g2), F299]) (Fr := [(is g88), (is g68)]) S305
      exact ret1 rfl rfl  (show _ = .int .i64 0 from kr) ⟨A296, c297, F299, H294, rfl, h298, b300, S306⟩
    replace M := ifn q265 M
    refine cF (bF q265) (wK (tN (wQ (wQ (wR (lV 91 (eD g68 0 0 1 underlying65 (by exact e226)) (lV 92 (eL ⟨g68, 0 + 0, none⟩ (.int .i64 x209) underlying3 (blk_cell b73 rfl)) (lV 93 (eD g88 0 0 1 underlying65 (by exact e227)) (lV 94 (eL ⟨g88, 0 + 0, none⟩ (.int .i64 x216) underlying3 (blk_cell b93 rfl)) (lV 95 (eNe .i64 x209 x216) (lV 96 (eM (.bool (decide (x209 ≠ x216)))) ?_)))))))))))
    by_cases q307 : x209 ≠ x216
    · replace M := ifp q307 M
      refine lK 96 true (bT q307) ?_
      refine lK 96 true (bT q307) ?_
      refine lK 96 true (bT q307) ?_
      refine lK 96 true (bT q307) ?_
      refine lK 96 true (bT q307) ?_
      refine lV 102 (eT (.bool true) (bT q307)) (lV 103 (eM (.bool true)) (lJ 103 true ?_))
      refine lJ 103 true ?_
      refine lJ 103 true ?_
      refine lJ 103 true ?_
      refine lJ 103 true ?_
      refine lJ 103 true ?_
      refine lJ 103 true ?_
      refine lV 111 (eT (.bool true)) (wN (tN (cond_t rfl kr (wQ (wR (lV 6 (eA (.int .i64 4)) (wN (tN (wT (tR ?_))))))))))
      obtain rfl := sj M
      have S309 := S228.pulls [(is g2), F7, (is g88), (is g68)] [2, 3] rfl
      have S310 := St.first (Fa := [(is g2), F7]) (Fr := [(is g88), (is g68)]) S309
      exact ret1 rfl rfl  (show _ = .int .i64 4 from kr) ⟨A4, c5, F7, H45, rfl, h47, b48, S310⟩
    replace M := ifn q307 M
    refine lG 97 96 (bF q307) (eD g68 0 1 1 underlying65 (by exact e226)) (lG 98 96 (bF q307) (eL ⟨g68, 0 + 1, none⟩ (.int .i64 x210) underlying3 (blk_cell b73 rfl)) (lG 99 96 (bF q307) (eD g88 0 1 1 underlying65 (by exact e227)) (lG 100 96 (bF q307) (eL ⟨g88, 0 + 1, none⟩ (.int .i64 x217) underlying3 (blk_cell b93 rfl)) (lG 101 96 (bF q307) (eNe .i64 x210 x217) (lV 102 (eF (.bool (decide (x210 ≠ x217))) (bF q307)) (lV 103 (eM (.bool (decide (x210 ≠ x217)))) ?_))))))
    by_cases q311 : x210 ≠ x217
    · replace M := ifp q311 M
      refine lK 103 true (bT q311) ?_
      refine lK 103 true (bT q311) ?_
      refine lK 103 true (bT q311) ?_
      refine lK 103 true (bT q311) ?_
      refine lK 103 true (bT q311) ?_
      refine lK 103 true (bT q311) ?_
      refine lK 103 true (bT q311) ?_
      refine lV 111 (eT (.bool true) (bT q311)) (wN (tN (cond_t rfl kr (wQ (wR (lV 6 (eA (.int .i64 4)) (wN (tN (wT (tR ?_))))))))))
      obtain rfl := sj M
      have S313 := S228.pulls [(is g2), F7, (is g88), (is g68)] [2, 3] rfl
      have S314 := St.first (Fa := [(is g2), F7]) (Fr := [(is g88), (is g68)]) S313
      exact ret1 rfl rfl  (show _ = .int .i64 4 from kr) ⟨A4, c5, F7, H45, rfl, h47, b48, S314⟩
    replace M := ifn q311 M
    refine lG 104 103 (bF q311) (eD g68 0 2 1 underlying65 (by exact e226)) (lG 105 103 (bF q311) (eL ⟨g68, 0 + 2, none⟩ (.slice A212 x211.length c213) underlying59 (blk_cell b73 rfl)) (lG 106 103 (bF q311) (e_conv_bs (A := A212) (n := x211.length) (c := c213) (xs := x211) underlying59 underlying5 underlying9 kr rfl (Rd.bytesE S228.inv h214)) (lG 107 103 (bF q311) (eD g88 0 2 1 underlying65 (by exact e227)) (lG 108 103 (bF q311) (eL ⟨g88, 0 + 2, none⟩ (.slice A219 x218.length c220) underlying59 (blk_cell b93 rfl)) (lG 109 103 (bF q311) (e_conv_bs (A := A219) (n := x218.length) (c := c220) (xs := x218) underlying59 underlying5 underlying9 kr rfl (Rd.bytesE S228.inv h221)) (lG 110 103 (bF q311) (e_sneq (p := x211) (q := x218) kr kr) (lV 111 (eF (.bool (decide (x211 ≠ x218))) (bF q311)) (wN (tN ?_)))))))))
    by_cases q315 : x211 ≠ x218
    · replace M := ifp q315 M
      refine cT (bT q315) (wQ (wR (lV 6 (eA (.int .i64 4)) (wN (tN (wT (tR ?_)))))))
      obtain rfl := sj M
      have S317 := S228.pulls [(is g2), F7, (is g88), (is g68)] [2, 3] rfl
      have S318 := St.first (Fa := [(is g2), F7]) (Fr := [(is g88), (is g68)]) S317
      exact ret1 rfl rfl  (show _ = .int .i64 4 from kr) ⟨A4, c5, F7, H45, rfl, h47, b48, S318⟩
    replace M := ifn q315 M
    refine cF (bF q315) (wK (tN (wQ (wR (lV 112 (eM (.slice A200 x199.length c201) (by exact e224)) ?_)))))
    obtain ⟨t319, u320, M⟩ := bnd M
    refine lC 113 (eC [.tmp 112] [.slice A200 x199.length c201] func118) (spec_l2args.calls k232 w197 H45 x199 A200 c201 h202 l203 (St.own' (Fa := []) (Fr := [(is g88), (is g68), F7, (is g2)]) S228) t319 u320) ?_
    rintro _ w321 ⟨A324, c325, F327, H322, rfl, h326, T323⟩
    refine ⟨_, rfl, ?_⟩
    obtain ⟨S328, K329⟩ := St.call (Fa := []) (Fr := [(is g88), (is g68), F7, (is g2)]) S228 T323
    replace h47 := h47.move (K329.at 2 rfl)
    replace b48 := K329.blk 3 rfl b48
    have E330 := T323.ext
    replace h47 := h47.ext E330
    refine lV 10 (eA (.slice A324 t319.length c325)) (wN (tN (wQ (wR (lV 114 (eM (.slice A205 x204.length c206) (by exact e225)) ?_)))))
    obtain ⟨t331, u332, M⟩ := bnd M
    refine lC 115 (eC [.tmp 114] [.slice A205 x204.length c206] func118) (spec_l2args.calls k232 w321 H322 x204 A205 c206 (h207.ext E330) l208 (St.own' (Fa := []) (Fr := [F327, (is g88), (is g68), F7, (is g2)]) S328) t331 u332) ?_
    rintro _ w333 ⟨A336, c337, F339, H334, rfl, h338, T335⟩
    refine ⟨_, rfl, ?_⟩
    obtain ⟨S340, K341⟩ := St.call (Fa := []) (Fr := [F327, (is g88), (is g68), F7, (is g2)]) S328 T335
    replace h326 := h326.move (K341.at 0 rfl)
    replace h47 := h47.move (K341.at 3 rfl)
    replace b48 := K341.blk 4 rfl b48
    have E342 := T335.ext
    replace h326 := h326.ext E342
    replace h47 := h47.ext E342
    refine lV 11 (eA (.slice A336 t331.length c337)) (wN (tN (wQ (wQ (wR (lV 12 (eA (.int .i64 0)) (wN (tN (wp_block ?_)))))))))
    have S367 := S340.pulls [F339, F327, (is g2), F7, (is g88), (is g68)] [4, 5, 3, 3] rfl
    have S368 := St.first (Fa := [F339, F327, (is g2), F7]) (Fr := [(is g88), (is g68)]) S367
    refine wp_loop_g (fun k361 a362 w343 => ∃ (f344 : Nat → Value) (H345 : Hp) (x347 : Int) (x348 : List Binding) (A349 : Option Addr) (c350 : Nat) (F351 : Foot) (x353 : Int), k361 < K ∧ a362 = mk 135 f344 ∧ f344 0 = .pointer (some ⟨g2, 0, none⟩) ∧ f344 10 = .slice A324 t319.length c325 ∧ f344 11 = .slice A336 t331.length c337 ∧ f344 12 = .int .i64 x347 ∧ Row (ro sl65) 25 H345 (hp w343) F339 A336 c337 t331 ∧ Row (ro sl65) 25 H345 (hp w343) F327 A324 c325 t319 ∧ w343.heap[g2]? = some (.cells #[.slice A349 x348.length c350, .int .i64 x353] 106 (0, 0)) ∧ Row (ro st63) 63 H345 (hp w343) F351 A349 c350 x348 ∧ Ext H334 H345 ∧ St (anyOf [F7, (is g2)]) H w [F339, F327, (is g2), F351] H345 w343 ∧ spec_l5pair_2.l2 k361 t319 t331 x347 x348 x353 = some r) k232 ⟨_, H334, 0, x1.sub_, A4, c5, F7, (i64.wrap (x1.pairs_ + 1)), (by omega), rfl, (by exact e223), kr, kr, kr, h338, h326, b48, h47, (Ext.refl _), S368, M⟩ ?_
    clear M
    rintro k361 a362 w343 ⟨f344, H345, x347, x348, A349, c350, F351, x353, z359, rfl, e354, e355, e356, e357, h338, h326, b48, h352, Y346, S358, M⟩
    rcases k361 with _ | k363
    · rw [spec_l5pair_2.l2] at M
      cases M
    rw [spec_l5pair_2.l2] at M
    refine wQ (wQ (wR (lV 116 (eM (.int .i64 x347) (by exact e357)) (lV 117 (eM (.slice A324 t319.length c325) (by exact e355)) (lV 118 (e_len (A := A324) (n := t319.length) (c := c325) underlying38 kr) (lV 119 (eLt .i64 x347 (t319.length : Int)) (wN (tN ?_))))))))
    by_cases q369 : x347 < (t319.length : Int)
    · replace M := ifp q369 M
      refine cT (bT q369) (wK (tN (wQ (wp_block (wQ ?_)))))
      refine region_mix (S := (fun (L_ : Array Bool) (w_ : World) => Ext H345 (hp w_) ∧ (∀ b_, F327 b_ → hp w_ b_ = hp w343 b_))) kr S358 ?_
      intro w370 S371 K372 hc373
      have o374 := h326
      have hs375 : (fun (L_ : Array Bool) (w_ : World) => Ext H345 (hp w_) ∧ (∀ b_, F327 b_ → hp w_ b_ = hp w343 b_)) (Array.replicate 11 false) w370 := ⟨S371.inv, (fun b_ h_ => K372.at 1 rfl b_ h_)⟩
      replace h338 := h338.move (K372.at 0 rfl)
      replace h326 := h326.move (K372.at 1 rfl)
      replace b48 := K372.blk 2 rfl b48
      replace h352 := h352.move (K372.at 3 rfl)
      refine xV 0 122 rfl hc373 hs375 (fun L_ w_ hc_ hu_ hs_ => eM (.pointer (some ⟨g2, 0, none⟩)) (by exact e354)) ?_; intro hc376 hs377
      refine xV 1 123 rfl hc376 hs377 (fun L_ w_ hc_ hu_ hs_ => eM (.slice A324 t319.length c325) (by exact e355)) ?_; intro hc378 hs379
      refine xV 2 124 rfl hc378 hs379 (fun L_ w_ hc_ hu_ hs_ => eM (.int .i64 x347) (by exact e357)) ?_; intro hc380 hs381
      obtain ⟨q382, M⟩ := chk M
      obtain ⟨b383, e385⟩ := Row.addr h326 (show (x347).toNat < t319.length by omega)
      refine xV 3 125 rfl hc380 hs381 (fun L_ w_ hc_ hu_ hs_ => eI b383 0 t319.length c325 1 x347 .i64 underlying38 e385 q382 q369) ?_; intro hc386 hs387
      obtain ⟨y388, F389, r390, s391, k392⟩ := Row.at o374 e385 (getD_some ([] : List Cell) (show (x347).toNat < t319.length by omega))
      obtain ⟨A393, c394, rfl, l395, h396⟩ := r390
      refine xV 4 126 rfl hc386 hs387 (fun L_ w_ hc_ hu_ hs_ => eL ⟨b383, 0 + (x347 : Int).toNat * 1, none⟩ (.slice A393 (t319.getD ((x347).toNat) ([] : List Cell)).length c394) underlying25 (hpx (cell_same (hs_.2 _ (Row.foot o374 e385)) (k392 0 _ rfl)))) ?_; intro hc397 hs398
      refine xV 5 127 rfl hc397 hs398 (fun L_ w_ hc_ hu_ hs_ => eM (.slice A336 t331.length c337) (by exact e356)) ?_; intro hc399 hs400
      refine xO 6 hc399 ?_
      refine yO 6 128 rfl hs400 (eM (.int .i64 x347) (by exact e357)) ?_; intro hc401 hs402
      obtain ⟨q403, M⟩ := chk M
      obtain ⟨b404, e406⟩ := Row.addr h338 (show (x347).toNat < t331.length by omega)
      refine xO 7 hc401 ?_
      refine yO 7 129 rfl hs402 (eI b404 0 t331.length c337 1 x347 .i64 underlying38 e406 q382 q403) ?_; intro hc407 hs408
      obtain ⟨y409, F410, r411, s412, k413⟩ := Row.at h338 e406 (getD_some ([] : List Cell) (show (x347).toNat < t331.length by omega))
      obtain ⟨A414, c415, rfl, l416, h417⟩ := r411
      refine xO 8 hc407 ?_
      refine yO 8 130 rfl hs408 (eL ⟨b404, 0 + (x347 : Int).toNat * 1, none⟩ (.slice A414 (t331.getD ((x347).toNat) ([] : List Cell)).length c415) underlying25 (hpx (k413 0 _ rfl))) ?_; intro hc418 hs419
      have S421 := S371.pulls [F351, (is g2), F339, F327] [2, 3] rfl
      obtain ⟨t422, u423, M⟩ := bnd M
      refine xO 9 hc418 ?_
      refine yC 9 rfl (eC [.tmp 122, .tmp 126, .tmp 130] [.pointer (some ⟨g2, 0, none⟩), .slice A393 (t319.getD ((x347).toNat) ([] : List Cell)).length c394, .slice A414 (t331.getD ((x347).toNat) ([] : List Cell)).length c415] func89) (ih k363 (by omega) w370 H345 (⟨x348, x353⟩ : GL5st) g2 A349 c350 F351 (t319.getD ((x347).toNat) ([] : List Cell)) A393 c394 (t331.getD ((x347).toNat) ([] : List Cell)) A414 c415 h352 b48 h396 l395 h417 l416 (St.own' (Fa := [F351, (is g2)]) (Fr := [F339, F327]) S421) t422 u423) ?_
      rintro hc432 _ w424 ⟨A427, c428, F430, H425, rfl, h429, b431, T426⟩
      refine ⟨_, rfl, ?_⟩
      obtain ⟨S433, K434⟩ := St.call (Fa := [F351, (is g2)]) (Fr := [F339, F327]) S421 T426
      replace h338 := h338.move (K434.at 0 rfl)
      replace h326 := h326.move (K434.at 1 rfl)
      have E435 := T426.ext
      replace h338 := h338.ext E435
      replace h326 := h326.ext E435
      refine ⟨⟨(Ext.trans E435 S433.inv), (fun b_ h_ => (K434.at 1 rfl b_ h_).trans (hs419.2 b_ h_))⟩, fun hs436 => ?_⟩
      refine xO 10 hc432 ?_
      refine yO 10 13 rfl hs436 (eA (.int .i64 t422.1)) ?_; intro hc437 hs438
      refine xn kr ?_ _
      refine tN (wQ (wR (lV 132 (eM (.int .i64 t422.1)) (lV 133 (eNe .i64 t422.1 0) (wN (tN ?_))))))
      by_cases q439 : t422.1 ≠ 0
      · replace M := ifp q439 M
        refine cT (bT q439) (wQ (wR (lV 134 (eM (.int .i64 t422.1)) (lV 6 (eA (.int .i64 t422.1)) (wN (tN (wT ?_)))))))
        refine inb_r (tR (tR (inb_r (tR ?_))))
        obtain rfl := sj M
        have S441 := S433.pulls [(is g2), F430, F339, F327] [1, 1] rfl
        have S442 := St.first (Fa := [(is g2), F430]) (Fr := [F339, F327]) S441
        exact ret1 rfl rfl  (show _ = .int .i64 t422.1 from kr) ⟨A427, c428, F430, H425, rfl, h429, b431, S442⟩
      replace M := ifn q439 M
      refine cF (bF q439) (wK (inb_n (tN (wR (lV 120 (eM (.int .i64 x347) (by exact e357)) (lV 121 (eAdd .i64 x347 1) (lV 12 (eA (.int .i64 (i64.wrap (x347 + 1)))) (wN (tN ?_)))))))))
      have S446 := S433.pulls [F339, F327, (is g2), F430] [1, 1, 3, 3] rfl
      exact ⟨k363, (by omega), _, H425, (i64.wrap (x347 + 1)), t422.2.sub_, A427, c428, F430, t422.2.pairs_, (by omega), rfl, (by exact e354), (by exact e355), (by exact e356), kr, h338, h326, b431, h429, (Y346.trans E435), S446, M⟩
    replace M := ifn q369 M
    refine cF (bF q369) (wp_exit (tE (tE (inb_hit (tN (wQ (wR (lV 6 (eA (.int .i64 0)) (wN (tN (wT ?_)))))))))))
    obtain rfl := sj M
    have S448 := S358.pulls [(is g2), F351, F339, F327] [3, 3] rfl
    have S449 := St.first (Fa := [(is g2), F351]) (Fr := [F339, F327]) S448
    exact ret1 rfl rfl  (show _ = .int .i64 0 from kr) ⟨A349, c350, F351, H345, rfl, h352, b48, S449⟩
theorem spec_l5pair_2.calls (k : Nat) (w : World) (H : Hp) (x1 : GL5st) (g2 : Nat) (A4 : Option Addr) (c5 : Nat) (F7 : Foot) (x8 : List Cell) (A9 : Option Addr) (c10 : Nat) (x13 : List Cell) (A14 : Option Addr) (c15 : Nat) (h6 : Row (ro st63) 63 H (hp w) F7 A4 c5 x1.sub_) (b3 : w.heap[g2]? = some (.cells #[.slice A4 x1.sub_.length c5, .int .i64 x1.pairs_] 106 (0, 0))) (h11 : Rd st65 H A9 x8) (l12 : x8.length ≤ c10) (h16 : Rd st65 H A14 x13) (l17 : x13.length ≤ c15) (S : Own [F7, (is g2)] H w) (r : Int × GL5st) (M : spec_l5pair_2.f k x1 x8 x13 = some r) :
    Calls Try.prog 89 #[.pointer (some ⟨g2, 0, none⟩), .slice A9 x8.length c10, .slice A14 x13.length c15] w (fun e e_w => ∃ (A_1 : Option Addr) (c_1 : Nat) (F_1 : Foot) (H_ : Hp), e = .returned (.int .i64 r.1) ∧ Row (ro st63) 63 H_ (hp e_w) F_1 A_1 c_1 r.2.sub_ ∧ e_w.heap[g2]? = some (.cells #[.slice A_1 r.2.sub_.length c_1, .int .i64 r.2.pairs_] 106 (0, 0)) ∧ St (anyOf [F7, (is g2)]) H w [(is g2), F_1] H_ e_w) := (spec_l5pair_2.all (k + 1)) k (Nat.lt_succ_self k) w H x1 g2 A4 c5 F7 x8 A9 c10 x13 A14 c15 h6 b3 h11 l12 h16 l17 S r M

/-! spec_l5whole -/
mutual
def spec_l5whole_2.l0 : Nat → GL5st → (List Cell) → (List Cell) → Int → Option ((List Cell) × Bool)
  | 0, _, _, _, _ => none
  | k37 + 1, x1, x8, x22, x27 => (if x27 < (x8.length : Int) then (if 0 ≤ x27 then (if ((x8.getD ((x27).toNat) z65).kind) = 0 then ((spec_l5index.f k37 x1.sub_ ((x8.getD ((x27).toNat) z65).n)).bind fun t75 => (spec_l5whole_2.l1 k37 x1 x8 x22 x27 t75)) else (spec_l5whole_2.l1 k37 x1 x8 x22 x27 (-1))) else none) else some (x22, true))
def spec_l5whole_2.l1 : Nat → GL5st → (List Cell) → (List Cell) → Int → Int → Option ((List Cell) × Bool)
  | 0, _, _, _, _, _ => none
  | k51 + 1, x1, x8, x22, x27, x41 => (if x41 ≥ 0 then (if 0 ≤ x41 then (if x41 < (x1.sub_.length : Int) then ((spec_l5whole_2.f k51 x1 ((x1.sub_.getD ((x41).toNat) z63).term) x22).bind fun t126 => (spec_l5whole_2.l2 k51 x1 x8 x27 t126.1 t126.2)) else none) else none) else (if 0 ≤ x27 then (if x27 ≤ (i64.wrap (x27 + 1)) then (if (i64.wrap (x27 + 1)) ≤ (x8.length : Int) then ((spec_l2copy.f k51 ((x8.drop ((x27 : Int).toNat)).take (((i64.wrap (x27 + 1)) : Int).toNat - (x27 : Int).toNat))).bind fun t147 => (if x22.length + t147.length ≤ 3518437208883 then (spec_l5whole_2.l2 k51 x1 x8 x27 (x22 ++ t147) true) else none)) else none) else none) else none))
def spec_l5whole_2.l2 : Nat → GL5st → (List Cell) → Int → (List Cell) → Bool → Option ((List Cell) × Bool)
  | 0, _, _, _, _, _ => none
  | k106 + 1, x1, x8, x27, x91, x96 => (if ¬ (x96 = true) then some ([], false) else (if (x91.length : Int) > 2000 then some ([], false) else (spec_l5whole_2.l0 k106 x1 x8 x91 (i64.wrap (x27 + 1)))))
def spec_l5whole_2.f : Nat → GL5st → (List Cell) → (List Cell) → Option ((List Cell) × Bool)
  | 0, _, _, _ => none
  | k1_ + 1, x1, x8, x13 => (spec_l5whole_2.l0 k1_ x1 x8 x13 0)
end
theorem spec_l5whole_2.all : ∀ (K : Nat), (∀ (k : Nat), k < K → ∀ (w : World) (H : Hp) (x1 : GL5st) (g2 : Nat) (A4 : Option Addr) (c5 : Nat) (F7 : Foot) (x8 : List Cell) (A9 : Option Addr) (c10 : Nat) (x13 : List Cell) (A14 : Option Addr) (c15 : Nat) (F17 : Foot) (h6 : Row (ro st63) 63 H (hp w) F7 A4 c5 x1.sub_) (b3 : w.heap[g2]? = some (.cells #[.slice A4 x1.sub_.length c5, .int .i64 x1.pairs_] 106 (0, 0))) (h11 : Rd st65 H A9 x8) (l12 : x8.length ≤ c10) (h16 : Row st65 65 H (hp w) F17 A14 c15 x13) (S : Own [F7, (is g2), F17] H w) (r : (List Cell) × Bool) (M : spec_l5whole_2.f k x1 x8 x13 = some r), Calls Try.prog 90 #[.pointer (some ⟨g2, 0, none⟩), .slice A9 x8.length c10, .slice A14 x13.length c15] w (fun e e_w => ∃ (A_1 : Option Addr) (c_1 : Nat) (F_1 : Foot) (H_ : Hp), e = .returned (.tuple #[.slice A_1 r.1.length c_1, .bool r.2]) ∧ Row (ro st63) 63 H_ (hp e_w) F7 A4 c5 x1.sub_ ∧ e_w.heap[g2]? = some (.cells #[.slice A4 x1.sub_.length c5, .int .i64 x1.pairs_] 106 (0, 0)) ∧ Row st65 65 H_ (hp e_w) F_1 A_1 c_1 r.1 ∧ St (anyOf [F7, (is g2), F17]) H w [F7, (is g2), F_1] H_ e_w)) := by
  intro K
  induction K with
  | zero => intro k hk; omega
  | succ K ih =>
    intro k hk w H x1 g2 A4 c5 F7 x8 A9 c10 x13 A14 c15 F17 h6 b3 h11 l12 h16 S r M
    rcases k with _ | k1_
    · rw [spec_l5whole_2.f] at M
      cases M
    rw [spec_l5whole_2.f] at M
    refine enter (l := [.pointer (some ⟨g2, 0, none⟩), .slice A9 x8.length c10, .slice A14 x13.length c15]) 65 func90 rfl rfl rfl ?_
    have S0_ := S.st
    refine wQ (wR (lV 6 (eA (.slice none 0 0)) (lV 7 (eA (.bool false)) (wN (tN (wQ (wQ (wR (lV 8 (eA (.int .i64 0)) (wN (tN (wp_block ?_))))))))))))
    refine wp_loop_g (fun k35 a36 w18 => ∃ (f19 : Nat → Value) (H20 : Hp) (x22 : List Cell) (A23 : Option Addr) (c24 : Nat) (F25 : Foot) (x27 : Int), k35 < K ∧ a36 = mk 65 f19 ∧ f19 0 = .pointer (some ⟨g2, 0, none⟩) ∧ f19 1 = .slice A9 x8.length c10 ∧ f19 2 = .slice A23 x22.length c24 ∧ f19 8 = .int .i64 x27 ∧ Row (ro st63) 63 H20 (hp w18) F7 A4 c5 x1.sub_ ∧ w18.heap[g2]? = some (.cells #[.slice A4 x1.sub_.length c5, .int .i64 x1.pairs_] 106 (0, 0)) ∧ Row st65 65 H20 (hp w18) F25 A23 c24 x22 ∧ Ext H H20 ∧ St (anyOf [F7, (is g2), F17]) H w [F7, (is g2), F25] H20 w18 ∧ spec_l5whole_2.l0 k35 x1 x8 x22 x27 = some r) k1_ ⟨_, H, x13, A14, c15, F17, 0, (by omega), rfl, kr, kr, kr, kr, h6, b3, h16, (Ext.refl _), S0_, M⟩ ?_
    clear M
    rintro k35 a36 w18 ⟨f19, H20, x22, A23, c24, F25, x27, z33, rfl, e28, e29, e30, e31, h6, b3, h26, Y21, S32, M⟩
    rcases k35 with _ | k37
    · rw [spec_l5whole_2.l0] at M
      cases M
    rw [spec_l5whole_2.l0] at M
    refine wQ (wQ (wR (lV 11 (eM (.int .i64 x27) (by exact e31)) (lV 12 (eM (.slice A9 x8.length c10) (by exact e29)) (lV 13 (e_len (A := A9) (n := x8.length) (c := c10) underlying25 kr) (lV 14 (eLt .i64 x27 (x8.length : Int)) (wN (tN ?_))))))))
    by_cases q38 : x27 < (x8.length : Int)
    · replace M := ifp q38 M
      refine cT (bT q38) (wK (tN (wQ (wp_block (wQ (wR (lV 9 (eA (.int .i64 (-1))) (wN (tN ?_)))))))))
      refine wp_seq_cut (fun a50 w39 => ∃ (k52 : Nat), k52 ≤ k37 ∧ ∃ (f40 : Nat → Value) (x41 : Int), k52 < K ∧ a50 = mk 65 f40 ∧ f40 0 = .pointer (some ⟨g2, 0, none⟩) ∧ f40 1 = .slice A9 x8.length c10 ∧ f40 2 = .slice A23 x22.length c24 ∧ f40 8 = .int .i64 x27 ∧ f40 9 = .int .i64 x41 ∧ Row (ro st63) 63 H20 (hp w39) F7 A4 c5 x1.sub_ ∧ w39.heap[g2]? = some (.cells #[.slice A4 x1.sub_.length c5, .int .i64 x1.pairs_] 106 (0, 0)) ∧ Row st65 65 H20 (hp w39) F25 A23 c24 x22 ∧ St (anyOf [F7, (is g2), F17]) H w [F7, (is g2), F25] H20 w39 ∧ spec_l5whole_2.l1 k52 x1 x8 x22 x27 x41 = some r) ?_ ?_
      · refine wQ (wR (lV 17 (eM (.slice A9 x8.length c10) (by exact e29)) (lV 18 (eM (.int .i64 x27) (by exact e31)) ?_)))
        obtain ⟨q53, M⟩ := chk M
        obtain ⟨b54, o55, e56⟩ := Rd.addr h11 (show (x27).toNat < x8.length by omega)
        obtain ⟨y57, r58, k59⟩ := Rd.at h11 e56 (getD_some z65 (show (x27).toNat < x8.length by omega))
        obtain ⟨A60, c61, rfl, l62, h63⟩ := st65_open r58
        refine lV 19 (eI b54 o55 x8.length c10 3 x27 .i64 underlying25 e56 q53 q38) (lV 20 (eD b54 (o55 + (x27 : Int).toNat * 3) 0 1 underlying65) (lV 21 (eL ⟨b54, o55 + (x27 : Int).toNat * 3 + 0, none⟩ (.int .i64 ((x8.getD ((x27).toNat) z65).kind)) underlying3 (hpx (S32.inv.cell (Y21.cell (k59 0 _ rfl))))) (lV 22 (eEq .i64 (x8.getD ((x27).toNat) z65).kind 0) (wN (tN ?_)))))
        by_cases q64 : ((x8.getD ((x27).toNat) z65).kind) = 0
        · replace M := ifp q64 M
          refine cT (bT q64) ?_
          refine region_quiet kr kr (qV 23 (fun wq_ hq_ => eM (.pointer (some ⟨g2, 0, none⟩)) (by exact e28)) (qV 24 (fun wq_ hq_ => eN ⟨g2, 0, none⟩) (qV 25 (fun wq_ hq_ => eD g2 0 0 1 underlying106) (qV 26 (fun wq_ hq_ => eL ⟨g2, 0 + 0, none⟩ (.slice A4 x1.sub_.length c5) underlying52 (blk_cell ((S32.still hq_).2.blk 1 rfl b3) rfl)) (qV 27 (fun wq_ hq_ => eM (.slice A9 x8.length c10) (by exact e29)) (qV 28 (fun wq_ hq_ => eM (.int .i64 x27) (by exact e31)) ?_))))))
          obtain ⟨b65, o66, e67⟩ := Rd.addr h11 (show (x27).toNat < x8.length by omega)
          obtain ⟨y68, r69, k70⟩ := Rd.at h11 e67 (getD_some z65 (show (x27).toNat < x8.length by omega))
          obtain ⟨A71, c72, rfl, l73, h74⟩ := st65_open r69
          refine qV 29 (fun wq_ hq_ => eI b65 o66 x8.length c10 3 x27 .i64 underlying25 e67 q53 q38) (qV 30 (fun wq_ hq_ => eD b65 (o66 + (x27 : Int).toNat * 3) 1 1 underlying65) (qV 31 (fun wq_ hq_ => eL ⟨b65, o66 + (x27 : Int).toNat * 3 + 1, none⟩ (.int .i64 ((x8.getD ((x27).toNat) z65).n)) underlying3 (hpx ((S32.still hq_).1.inv.cell (Y21.cell (k70 1 _ rfl))))) ?_))
          obtain ⟨t75, u76, M⟩ := bnd M
          refine qcall (v := .int .i64 t75) (d := 32) rfl rfl kr (fun w_ => eC [.tmp 26, .tmp 31] [.slice A4 x1.sub_.length c5, .int .i64 ((x8.getD ((x27).toNat) z65).n)] func85) (fun wq_ hq_ => (by obtain ⟨S_, K_⟩ := S32.still hq_; replace h6 := h6.move (K_.at 0 rfl); replace b3 := K_.blk 1 rfl b3; replace h26 := h26.move (K_.at 2 rfl); have l77 := h6.le; obtain ⟨H78, S79, E80, h81, z82⟩ := S_.frzRow h6; replace h26 := h26.ext E80; replace h81 := h81.unro; exact (spec_l5index.calls k37 wq_ H78 x1.sub_ A4 c5 ((x8.getD ((x27).toNat) z65).n) h81 l77 S79.own0 t75 u76))) (qV 9 (fun wq_ hq_ => eA (.int .i64 t75)) ?_)
          refine wpQuiet_nil ?_
          intro w83 C86
          obtain ⟨S84, K85⟩ := S32.still C86
          replace h6 := h6.move (K85.at 0 rfl)
          replace b3 := K85.blk 1 rfl b3
          replace h26 := h26.move (K85.at 2 rfl)
          refine tN ?_
          exact ⟨k37, (by omega), _, t75, (by omega), rfl, (by exact e28), (by exact e29), (by exact e30), (by exact e31), kr, h6, b3, h26, S84, M⟩
        replace M := ifn q64 M
        refine cF (bF q64) (wK (tN ?_))
        exact ⟨k37, (by omega), _, (-1), (by omega), rfl, (by exact e28), (by exact e29), (by exact e30), (by exact e31), kr, h6, b3, h26, S32, M⟩
      clear M
      rintro a50 w39 ⟨k52, z184, f40, x41, z48, rfl, e42, e43, e44, e45, e46, h6, b3, h26, S47, M⟩
      rcases k52 with _ | k51
      · rw [spec_l5whole_2.l1] at M
        cases M
      rw [spec_l5whole_2.l1] at M
      refine wQ (wR (lV 10 (eA (.bool true)) (wN (tN ?_))))
      refine wp_seq_cut (fun a105 w87 => ∃ (k107 : Nat), k107 ≤ k51 ∧ ∃ (f88 : Nat → Value) (H89 : Hp) (x91 : List Cell) (A92 : Option Addr) (c93 : Nat) (F94 : Foot) (x96 : Bool), k107 < K ∧ a105 = mk 65 f88 ∧ f88 0 = .pointer (some ⟨g2, 0, none⟩) ∧ f88 1 = .slice A9 x8.length c10 ∧ f88 2 = .slice A92 x91.length c93 ∧ f88 8 = .int .i64 x27 ∧ f88 10 = .bool x96 ∧ Row (ro st63) 63 H89 (hp w87) F7 A4 c5 x1.sub_ ∧ w87.heap[g2]? = some (.cells #[.slice A4 x1.sub_.length c5, .int .i64 x1.pairs_] 106 (0, 0)) ∧ Row st65 65 H89 (hp w87) F94 A92 c93 x91 ∧ Ext H20 H89 ∧ St (anyOf [F7, (is g2), F17]) H w [F7, (is g2), F94] H89 w87 ∧ spec_l5whole_2.l2 k107 x1 x8 x27 x91 x96 = some r) ?_ ?_
      · refine wQ (wR (lV 33 (eM (.int .i64 x41) (by exact e46)) (lV 34 (e_geq (k := .i64) (a := x41) (b := 0) kr rfl) (wN (tN ?_)))))
        by_cases q108 : x41 ≥ 0
        · replace M := ifp q108 M
          refine cT (bT q108) (wR (lV 36 (eM (.pointer (some ⟨g2, 0, none⟩)) (by exact e42)) (lV 37 (eM (.pointer (some ⟨g2, 0, none⟩)) (by exact e42)) (lV 38 (eN ⟨g2, 0, none⟩) (lV 39 (eD g2 0 0 1 underlying106) (lV 40 (eL ⟨g2, 0 + 0, none⟩ (.slice A4 x1.sub_.length c5) underlying52 (blk_cell b3 rfl)) (lV 41 (eM (.int .i64 x41) (by exact e46)) ?_)))))))
          obtain ⟨q109, M⟩ := chk M
          obtain ⟨q110, M⟩ := chk M
          obtain ⟨b111, e113⟩ := Row.addr h6 (show (x41).toNat < x1.sub_.length by omega)
          refine lV 42 (eI b111 0 x1.sub_.length c5 2 x41 .i64 underlying52 e113 q109 q110) (lV 43 (eD b111 (0 + (x41 : Int).toNat * 2) 1 1 underlying63) ?_)
          obtain ⟨y114, F115, r116, s117, k118⟩ := Row.at h6 e113 (getD_some z63 (show (x41).toNat < x1.sub_.length by omega))
          obtain ⟨A119, c120, rfl, l121, h122⟩ := st63_open r116
          refine lV 44 (eL ⟨b111, 0 + (x41 : Int).toNat * 2 + 1, none⟩ (.slice A119 ((x1.sub_.getD ((x41).toNat) z63).term).length c120) underlying25 (hpx (k118 1 _ rfl))) (lV 45 (eM (.slice A23 x22.length c24) (by exact e44)) ?_)
          have S125 := S47.pulls [F7, (is g2), F25] [2, 2, 2] rfl
          obtain ⟨t126, u127, M⟩ := bnd M
          refine lC 46 (eC [.tmp 36, .tmp 44, .tmp 45] [.pointer (some ⟨g2, 0, none⟩), .slice A119 ((x1.sub_.getD ((x41).toNat) z63).term).length c120, .slice A23 x22.length c24] func90) (ih k51 (by omega) w39 H20 x1 g2 A4 c5 F7 ((x1.sub_.getD ((x41).toNat) z63).term) A119 c120 x22 A23 c24 F25 h6 b3 h122 l121 h26 (St.own' (Fa := [F7, (is g2), F25]) (Fr := []) S125) t126 u127) ?_
          rintro _ w128 ⟨A133, c134, F136, H129, rfl, h131, b132, h135, T130⟩
          refine ⟨_, rfl, ?_⟩
          obtain ⟨S137, K138⟩ := St.call (Fa := [F7, (is g2), F25]) (Fr := []) S125 T130
          have E139 := T130.ext
          refine lV 35 (eM (.tuple #[.slice A133 t126.1.length c134, .bool t126.2])) (lV 47 (e_extract (vs := #[.slice A133 t126.1.length c134, .bool t126.2]) (v := .slice A133 t126.1.length c134) kr rfl) (lV 48 (e_extract (vs := #[.slice A133 t126.1.length c134, .bool t126.2]) (v := .bool t126.2) kr rfl) (lV 2 (eA (.slice A133 t126.1.length c134)) (lV 10 (eA (.bool t126.2)) (wN (tN ?_))))))
          exact ⟨k51, (by omega), _, H129, t126.1, A133, c134, F136, t126.2, (by omega), rfl, (by exact e42), (by exact e43), kr, (by exact e45), kr, h131, b132, h135, E139, S137, M⟩
        replace M := ifn q108 M
        refine cF (bF q108) (wR (lV 49 (eM (.slice A23 x22.length c24) (by exact e44)) (lV 50 (eM (.slice A9 x8.length c10) (by exact e43)) (lV 51 (eM (.int .i64 x27) (by exact e45)) (lV 52 (eM (.int .i64 x27) (by exact e45)) (lV 53 (eAdd .i64 x27 1) ?_))))))
        obtain ⟨q140, M⟩ := chk M
        obtain ⟨q141, M⟩ := chk M
        obtain ⟨q142, M⟩ := chk M
        obtain ⟨A143, h146, l145, h144⟩ := Rd.sub2 (d := st65) (n := x8.length) (m := 3) (cap := c10) (a := x27) (b := (i64.wrap (x27 + 1))) rfl (h11.ext Y21) q140 q141 q142 rfl l12
        refine lV 54 (e_slice_lh (n := x8.length) (m := 3) (cap := c10) (A := A9) (a := x27) (b := (i64.wrap (x27 + 1))) (k := .i64) (k2 := .i64) underlying25 kr kr kr kr q140 q141 q142 l12 h146) ?_
        obtain ⟨t147, u148, M⟩ := bnd M
        refine lC 55 (eC [.tmp 54] [.slice A143 ((x8.drop ((x27 : Int).toNat)).take (((i64.wrap (x27 + 1)) : Int).toNat - (x27 : Int).toNat)).length (c10 - ((x27 : Int).toNat))] func75) (spec_l2copy.calls k51 w39 H20 ((x8.drop ((x27 : Int).toNat)).take (((i64.wrap (x27 + 1)) : Int).toNat - (x27 : Int).toNat)) A143 (c10 - ((x27 : Int).toNat)) h144 l145 (St.own' (Fa := []) (Fr := [F7, (is g2), F25]) S47) t147 u148) ?_
        rintro _ w149 ⟨A152, c153, F155, H150, rfl, h154, T151⟩
        refine ⟨_, rfl, ?_⟩
        obtain ⟨S156, K157⟩ := St.call (Fa := []) (Fr := [F7, (is g2), F25]) S47 T151
        replace h6 := h6.move (K157.at 0 rfl)
        replace b3 := K157.blk 1 rfl b3
        replace h26 := h26.move (K157.at 2 rfl)
        have E158 := T151.ext
        replace h6 := h6.ext E158
        replace h26 := h26.ext E158
        obtain ⟨y159, h160, h161⟩ := Row.news h154
        obtain ⟨q162, M⟩ := chk M
        have S163 := S156.pulls [F25, F155, F7, (is g2)] [3] rfl
        refine lW 56 (e_append (d := st65) (n := x22.length) (xs := x22) (cap := c24) (A := A23) (ys := t147) (A2 := A152) (c2 := c153) (z := .agg #[.int .i64 0, .int .i64 0, .slice none 0 0]) (bytes := 40) S163 underlying25 kr rfl (by decide) kr rfl kr h26 h160 h161 (show (x22.length + t147.length) * 40 ≤ _ by first | omega | (simp only [List.length_cons, List.length_nil]; omega)) (by decide)) ?_
        rintro _ w164 ⟨A165, c166, F167, rfl, h168, S169, K170⟩
        replace h6 := h6.move (K170.at 0 rfl)
        replace b3 := K170.blk 1 rfl b3
        refine lV 2 (eA (.slice A165 ((x22 ++ t147).length) c166)) (wN (tN ?_))
        have S172 := S169.pulls [F7, (is g2), F167] [2, 2] rfl
        exact ⟨k51, (by omega), _, H150, (x22 ++ t147), A165, c166, F167, true, (by omega), rfl, (by exact e42), (by exact e43), kr, (by exact e45), kr, h6, b3, h168, E158, S172, M⟩
      clear M
      rintro a105 w87 ⟨k107, z183, f88, H89, x91, A92, c93, F94, x96, z103, rfl, e97, e98, e99, e100, e101, h6, b3, h95, Y90, S102, M⟩
      rcases k107 with _ | k106
      · rw [spec_l5whole_2.l2] at M
        cases M
      rw [spec_l5whole_2.l2] at M
      refine wQ (wR (lV 57 (eM (.bool x96) (by exact e101)) (lV 58 (e_notv (c := x96) kr) (lV 59 (eM (.bool (decide (¬ (x96 = true))))) ?_))))
      by_cases q173 : ¬ (x96 = true)
      · replace M := ifp q173 M
        refine lK 59 true (bT q173) ?_
        refine lK 59 true (bT q173) ?_
        refine lK 59 true (bT q173) ?_
        refine lV 63 (eT (.bool true) (bT q173)) (wN (tN (cond_t rfl kr (wQ (wR (lV 6 (eA (.slice none 0 0)) (lV 7 (eA (.bool false)) (wN (tN (wT (inb_r (tR (tR (inb_r (tR ?_)))))))))))))))
        obtain rfl := sj M
        have S174 := S102.unit
        have S176 := S174.pulls [F7, (is g2), no, F94] [2, 2] rfl
        have S177 := St.first (Fa := [F7, (is g2), no]) (Fr := [F94]) S176
        exact ret2 rfl rfl rfl (show _ = .slice none 0 0 from kr) (show _ = .bool false from kr) ⟨none, 0, no, H89, rfl, h6, b3, (Row.nil _ _ _ _ no), S177⟩
      replace M := ifn q173 M
      refine lG 60 59 (bF q173) (eM (.slice A92 x91.length c93) (by exact e99)) (lG 61 59 (bF q173) (e_len (A := A92) (n := x91.length) (c := c93) underlying25 kr) (lG 62 59 (bF q173) (e_gtr (k := .i64) (a := (x91.length : Int)) (b := 2000) kr rfl) (lV 63 (eF (.bool (decide ((x91.length : Int) > 2000))) (bF q173)) (wN (tN ?_)))))
      by_cases q178 : (x91.length : Int) > 2000
      · replace M := ifp q178 M
        refine cT (bT q178) (wQ (wR (lV 6 (eA (.slice none 0 0)) (lV 7 (eA (.bool false)) (wN (tN (wT ?_)))))))
        refine inb_r (tR (tR (inb_r (tR ?_))))
        obtain rfl := sj M
        have S179 := S102.unit
        have S181 := S179.pulls [F7, (is g2), no, F94] [2, 2] rfl
        have S182 := St.first (Fa := [F7, (is g2), no]) (Fr := [F94]) S181
        exact ret2 rfl rfl rfl (show _ = .slice none 0 0 from kr) (show _ = .bool false from kr) ⟨none, 0, no, H89, rfl, h6, b3, (Row.nil _ _ _ _ no), S182⟩
      replace M := ifn q178 M
      refine cF (bF q178) (wK (inb_n (tN (wR (lV 15 (eM (.int .i64 x27) (by exact e100)) (lV 16 (eAdd .i64 x27 1) (lV 8 (eA (.int .i64 (i64.wrap (x27 + 1)))) (wN (tN ?_)))))))))
      exact ⟨k106, (by omega), _, H89, x91, A92, c93, F94, (i64.wrap (x27 + 1)), (by omega), rfl, (by exact e97), (by exact e98), (by exact e99), kr, h6, b3, h95, (Y21.trans Y90), S102, M⟩
    replace M := ifn q38 M
    refine cF (bF q38) (wp_exit (tE (tE (inb_hit (tN (wQ (wR (lV 64 (eM (.slice A23 x22.length c24) (by exact e30)) (lV 6 (eA (.slice A23 x22.length c24)) (lV 7 (eA (.bool true)) (wN (tN (wT ?_)))))))))))))
    obtain rfl := sj M
    exact ret2 rfl rfl rfl (show _ = .slice A23 x22.length c24 from kr) (show _ = .bool true from kr) ⟨A23, c24, F25, H20, rfl, h6, b3, h26, S32⟩
theorem spec_l5whole_2.calls (k : Nat) (w : World) (H : Hp) (x1 : GL5st) (g2 : Nat) (A4 : Option Addr) (c5 : Nat) (F7 : Foot) (x8 : List Cell) (A9 : Option Addr) (c10 : Nat) (x13 : List Cell) (A14 : Option Addr) (c15 : Nat) (F17 : Foot) (h6 : Row (ro st63) 63 H (hp w) F7 A4 c5 x1.sub_) (b3 : w.heap[g2]? = some (.cells #[.slice A4 x1.sub_.length c5, .int .i64 x1.pairs_] 106 (0, 0))) (h11 : Rd st65 H A9 x8) (l12 : x8.length ≤ c10) (h16 : Row st65 65 H (hp w) F17 A14 c15 x13) (S : Own [F7, (is g2), F17] H w) (r : (List Cell) × Bool) (M : spec_l5whole_2.f k x1 x8 x13 = some r) :
    Calls Try.prog 90 #[.pointer (some ⟨g2, 0, none⟩), .slice A9 x8.length c10, .slice A14 x13.length c15] w (fun e e_w => ∃ (A_1 : Option Addr) (c_1 : Nat) (F_1 : Foot) (H_ : Hp), e = .returned (.tuple #[.slice A_1 r.1.length c_1, .bool r.2]) ∧ Row (ro st63) 63 H_ (hp e_w) F7 A4 c5 x1.sub_ ∧ e_w.heap[g2]? = some (.cells #[.slice A4 x1.sub_.length c5, .int .i64 x1.pairs_] 106 (0, 0)) ∧ Row st65 65 H_ (hp e_w) F_1 A_1 c_1 r.1 ∧ St (anyOf [F7, (is g2), F17]) H w [F7, (is g2), F_1] H_ e_w) := (spec_l5whole_2.all (k + 1)) k (Nat.lt_succ_self k) w H x1 g2 A4 c5 F7 x8 A9 c10 x13 A14 c15 F17 h6 b3 h11 l12 h16 S r M

/-! spec_Unify -/
def spec_Unify.l0 : Nat → (Int × GL5st) → (List Binding) → Int → Option ((List Binding) × Int)
  | 0, _, _, _ => none
  | k72 + 1, t35, x58, x63 => (if x63 < (t35.2.sub_.length : Int) then (if 0 ≤ x63 then ((spec_l5whole_2.f k72 t35.2 ((t35.2.sub_.getD ((x63).toNat) z63).term) []).bind fun t93 => (if ¬ (t93.2 = true) then some ([], 3) else (if x58.length + 1 ≤ 4398046511104 then (spec_Unify.l0 k72 t35 (x58 ++ [(⟨(t35.2.sub_.getD ((x63).toNat) z63).var, t93.1⟩ : Binding)]) (i64.wrap (x63 + 1))) else none))) else none) else some (x58, 0))
def spec_Unify.f (k : Nat) (x1 : List Cell) (x6 : List Cell) : Option ((List Binding) × Int) := ((spec_ValidTerm.f k x1).bind fun t11 => (if ¬ (t11 = true) then some ([], 1) else ((spec_ValidTerm.f k x6).bind fun t19 => (if ¬ (t19 = true) then some ([], 1) else ((spec_l5pair_2.f k (⟨[], 0⟩ : GL5st) x1 x6).bind fun t35 => (if t35.1 ≠ 0 then some ([], t35.1) else (if (t35.2.sub_.length : Int) > 1000 then some ([], 3) else (spec_Unify.l0 k t35 [] 0))))))))
theorem spec_Unify.calls (k : Nat) (w : World) (H : Hp) (x1 : List Cell) (A2 : Option Addr) (c3 : Nat) (x6 : List Cell) (A7 : Option Addr) (c8 : Nat) (h4 : Rd st65 H A2 x1) (l5 : x1.length ≤ c3) (h9 : Rd st65 H A7 x6) (l10 : x6.length ≤ c8) (S : Own [] H w) (r : (List Binding) × Int) (M : spec_Unify.f k x1 x6 = some r) :
    Calls Try.prog 49 #[.slice A2 x1.length c3, .slice A7 x6.length c8] w (fun e e_w => ∃ (A_1 : Option Addr) (c_1 : Nat) (F_1 : Foot) (H_ : Hp), e = .returned (.tuple #[.slice A_1 r.1.length c_1, .int .i64 r.2]) ∧ Row st63 63 H_ (hp e_w) F_1 A_1 c_1 r.1 ∧ St (anyOf []) H w [F_1] H_ e_w) := by
  rw [spec_Unify.f] at M
  refine enter (l := [.slice A2 x1.length c3, .slice A7 x6.length c8]) 73 func49 rfl rfl rfl ?_
  have S0_ := S.st
  refine wQ (wR (lV 4 (eA (.slice none 0 0)) (lV 5 (eA (.int .i64 0)) (wN (tN (wQ (wQ (wR (lV 12 (eM (.slice A2 x1.length c3)) ?_)))))))))
  obtain ⟨t11, u12, M⟩ := bnd M
  refine lC 13 (eC [.tmp 12] [.slice A2 x1.length c3] func15) (spec_ValidTerm.calls k w H x1 A2 c3 h4 l5 S0_.own0 t11 u12) ?_
  rintro _ w13 ⟨rfl, C14⟩
  refine ⟨_, rfl, ?_⟩
  obtain ⟨S15, K16⟩ := S0_.still C14
  refine lV 14 (e_notv (c := t11) kr) (lV 15 (eM (.bool (decide (¬ (t11 = true))))) ?_)
  by_cases q17 : ¬ (t11 = true)
  · replace M := ifp q17 M
    refine lK 15 true (bT q17) ?_
    refine lK 15 true (bT q17) ?_
    refine lK 15 true (bT q17) ?_
    refine lV 19 (eT (.bool true) (bT q17)) (wN (tN (cond_t rfl kr (wQ (wR (lV 4 (eA (.slice none 0 0)) (lV 5 (eA (.int .i64 1)) (wN (tN (wT (tR ?_)))))))))))
    obtain rfl := sj M
    have S18 := S15.unit
    exact ret2 rfl rfl rfl (show _ = .slice none 0 0 from kr) (show _ = .int .i64 1 from kr) ⟨none, 0, no, H, rfl, (Row.nil _ _ _ _ no), S18⟩
  replace M := ifn q17 M
  refine lG 16 15 (bF q17) (eM (.slice A7 x6.length c8)) ?_
  obtain ⟨t19, u20, M⟩ := bnd M
  refine lcallg (d := 17) (t := 15) rfl kr rfl (bF q17) rfl kr (eC [.tmp 16] [.slice A7 x6.length c8] func15) (spec_ValidTerm.calls k w13 H x6 A7 c8 h9 l10 S15.own0 t19 u20) ?_
  rintro _ w21 ⟨rfl, C22⟩
  refine ⟨_, rfl, ?_⟩
  obtain ⟨S23, K24⟩ := S15.still C22
  refine lG 18 15 (bF q17) (e_notv (c := t19) kr) (lV 19 (eF (.bool (decide (¬ (t19 = true)))) (bF q17)) (wN (tN ?_)))
  by_cases q25 : ¬ (t19 = true)
  · replace M := ifp q25 M
    refine cT (bT q25) (wQ (wR (lV 4 (eA (.slice none 0 0)) (lV 5 (eA (.int .i64 1)) (wN (tN (wT (tR ?_))))))))
    obtain rfl := sj M
    have S26 := S23.unit
    exact ret2 rfl rfl rfl (show _ = .slice none 0 0 from kr) (show _ = .int .i64 1 from kr) ⟨none, 0, no, H, rfl, (Row.nil _ _ _ _ no), S26⟩
  replace M := ifn q25 M
  refine cF (bF q25) (wK (tN (wQ (wR (lV 20 (show _ = Result.ok (Next.value (.agg #[.slice none 0 0, .int .i64 0])) w21 from by kernel_rfl) ?_)))))
  refine lW 21 (nB #[.slice none 0 0, .int .i64 0] 106 S23) ?_
  rintro _ w27 ⟨g28, rfl, b29, S30, K31⟩
  refine lV 6 (eA (.pointer (some ⟨g28, 0, none⟩))) (wN (tN (wQ (wR (lV 22 (eM (.pointer (some ⟨g28, 0, none⟩))) (lV 23 (eM (.slice A2 x1.length c3)) (lV 24 (eM (.slice A7 x6.length c8)) ?_)))))))
  have S32 := S30.unit
  have S34 := S32.pulls [no, (is g28)] [1, 1] rfl
  obtain ⟨t35, u36, M⟩ := bnd M
  refine lC 25 (eC [.tmp 22, .tmp 23, .tmp 24] [.pointer (some ⟨g28, 0, none⟩), .slice A2 x1.length c3, .slice A7 x6.length c8] func89) (spec_l5pair_2.calls k w27 H (⟨[], 0⟩ : GL5st) g28 none 0 no x1 A2 c3 x6 A7 c8 (Row.nil _ _ _ _ no) b29 h4 l5 h9 l10 (St.own' (Fa := [no, (is g28)]) (Fr := []) S34) t35 u36) ?_
  rintro _ w37 ⟨A40, c41, F43, H38, rfl, h42, b44, T39⟩
  refine ⟨_, rfl, ?_⟩
  obtain ⟨S45, K46⟩ := St.call (Fa := [no, (is g28)]) (Fr := []) S34 T39
  have E47 := T39.ext
  refine lV 7 (eA (.int .i64 t35.1)) (wN (tN (wQ (wQ (wR (lV 26 (eM (.int .i64 t35.1)) (lV 27 (eNe .i64 t35.1 0) (wN (tN ?_)))))))))
  by_cases q48 : t35.1 ≠ 0
  · replace M := ifp q48 M
    refine cT (bT q48) (wQ (wR (lV 28 (eM (.int .i64 t35.1)) (lV 4 (eA (.slice none 0 0)) (lV 5 (eA (.int .i64 t35.1)) (wN (tN (wT (tR ?_)))))))))
    obtain rfl := sj M
    have S49 := S45.unit
    have S50 := St.first (Fa := [no]) (Fr := [(is g28), F43]) S49
    exact ret2 rfl rfl rfl (show _ = .slice none 0 0 from kr) (show _ = .int .i64 t35.1 from kr) ⟨none, 0, no, H38, rfl, (Row.nil _ _ _ _ no), S50⟩
  replace M := ifn q48 M
  refine cF (bF q48) (wK (tN (wQ (wQ (wR (lV 29 (eM (.pointer (some ⟨g28, 0, none⟩))) (lV 30 (eN ⟨g28, 0, none⟩) (lV 31 (eD g28 0 0 1 underlying106) (lV 32 (eL ⟨g28, 0 + 0, none⟩ (.slice A40 t35.2.sub_.length c41) underlying52 (blk_cell b44 rfl)) (lV 33 (e_len (A := A40) (n := t35.2.sub_.length) (c := c41) underlying52 kr) (lV 34 (e_gtr (k := .i64) (a := (t35.2.sub_.length : Int)) (b := 1000) kr rfl) (wN (tN ?_)))))))))))))
  by_cases q51 : (t35.2.sub_.length : Int) > 1000
  · replace M := ifp q51 M
    refine cT (bT q51) (wQ (wR (lV 4 (eA (.slice none 0 0)) (lV 5 (eA (.int .i64 3)) (wN (tN (wT (tR ?_))))))))
    obtain rfl := sj M
    have S52 := S45.unit
    have S53 := St.first (Fa := [no]) (Fr := [(is g28), F43]) S52
    exact ret2 rfl rfl rfl (show _ = .slice none 0 0 from kr) (show _ = .int .i64 3 from kr) ⟨none, 0, no, H38, rfl, (Row.nil _ _ _ _ no), S53⟩
  replace M := ifn q51 M
  refine cF (bF q51) (wK (tN (wQ (wR (lV 8 (eA (.slice none 0 0)) (wN (tN (wQ (wQ (wR (lV 9 (eA (.int .i64 0)) (wN (tN (wp_block ?_))))))))))))))
  have S73 := S45.unit
  have S75 := S73.pulls [(is g28), F43, no] [2, 2] rfl
  refine wp_loop_g (fun k70 a71 w54 => ∃ (f55 : Nat → Value) (H56 : Hp) (x58 : List Binding) (A59 : Option Addr) (c60 : Nat) (F61 : Foot) (x63 : Int), a71 = mk 73 f55 ∧ f55 6 = .pointer (some ⟨g28, 0, none⟩) ∧ f55 8 = .slice A59 x58.length c60 ∧ f55 9 = .int .i64 x63 ∧ w54.heap[g28]? = some (.cells #[.slice A40 t35.2.sub_.length c41, .int .i64 t35.2.pairs_] 106 (0, 0)) ∧ Row (ro st63) 63 H56 (hp w54) F43 A40 c41 t35.2.sub_ ∧ Row st63 63 H56 (hp w54) F61 A59 c60 x58 ∧ Ext H38 H56 ∧ St (anyOf []) H w [(is g28), F43, F61] H56 w54 ∧ spec_Unify.l0 k70 t35 x58 x63 = some r) k ⟨_, H38, [], none, 0, no, 0, rfl, kr, kr, kr, b44, h42, (Row.nil _ _ _ _ _), (Ext.refl _), S75, M⟩ ?_
  clear M
  rintro k70 a71 w54 ⟨f55, H56, x58, A59, c60, F61, x63, rfl, e64, e65, e66, b44, h42, h62, Y57, S67, M⟩
  rcases k70 with _ | k72
  · rw [spec_Unify.l0] at M
    cases M
  rw [spec_Unify.l0] at M
  refine wQ (wQ (wR (lV 35 (eM (.int .i64 x63) (by exact e66)) (lV 36 (eM (.pointer (some ⟨g28, 0, none⟩)) (by exact e64)) (lV 37 (eN ⟨g28, 0, none⟩) (lV 38 (eD g28 0 0 1 underlying106) (lV 39 (eL ⟨g28, 0 + 0, none⟩ (.slice A40 t35.2.sub_.length c41) underlying52 (blk_cell b44 rfl)) (lV 40 (e_len (A := A40) (n := t35.2.sub_.length) (c := c41) underlying52 kr) (lV 41 (eLt .i64 x63 (t35.2.sub_.length : Int)) (wN (tN ?_)))))))))))
  by_cases q76 : x63 < (t35.2.sub_.length : Int)
  · replace M := ifp q76 M
    refine cT (bT q76) (wK (tN (wQ (wp_block (wQ (wR (lV 45 (eM (.pointer (some ⟨g28, 0, none⟩)) (by exact e64)) (lV 46 (eM (.pointer (some ⟨g28, 0, none⟩)) (by exact e64)) (lV 47 (eN ⟨g28, 0, none⟩) (lV 48 (eD g28 0 0 1 underlying106) (lV 49 (eL ⟨g28, 0 + 0, none⟩ (.slice A40 t35.2.sub_.length c41) underlying52 (blk_cell b44 rfl)) (lV 50 (eM (.int .i64 x63) (by exact e66)) ?_))))))))))))
    obtain ⟨q77, M⟩ := chk M
    obtain ⟨b78, e80⟩ := Row.addr h42 (show (x63).toNat < t35.2.sub_.length by omega)
    refine lV 51 (eI b78 0 t35.2.sub_.length c41 2 x63 .i64 underlying52 e80 q77 q76) (lV 52 (eD b78 (0 + (x63 : Int).toNat * 2) 1 1 underlying63) ?_)
    obtain ⟨y81, F82, r83, s84, k85⟩ := Row.at h42 e80 (getD_some z63 (show (x63).toNat < t35.2.sub_.length by omega))
    obtain ⟨A86, c87, rfl, l88, h89⟩ := st63_open r83
    refine lV 53 (eL ⟨b78, 0 + (x63 : Int).toNat * 2 + 1, none⟩ (.slice A86 ((t35.2.sub_.getD ((x63).toNat) z63).term).length c87) underlying25 (hpx (k85 1 _ rfl))) ?_
    have S90 := S67.unit
    have S92 := S90.pulls [F43, (is g28), no, F61] [1, 2] rfl
    obtain ⟨t93, u94, M⟩ := bnd M
    refine lC 54 (eC [.tmp 45, .tmp 53, .const (.slice none 0 0)] [.pointer (some ⟨g28, 0, none⟩), .slice A86 ((t35.2.sub_.getD ((x63).toNat) z63).term).length c87, .slice none 0 0] func90) (spec_l5whole_2.calls k72 w54 H56 t35.2 g28 A40 c41 F43 ((t35.2.sub_.getD ((x63).toNat) z63).term) A86 c87 [] none 0 no h42 b44 h89 l88 (Row.nil _ _ _ _ no) (St.own' (Fa := [F43, (is g28), no]) (Fr := [F61]) S92) t93 u94) ?_
    rintro _ w95 ⟨A100, c101, F103, H96, rfl, h98, b99, h102, T97⟩
    refine ⟨_, rfl, ?_⟩
    obtain ⟨S104, K105⟩ := St.call (Fa := [F43, (is g28), no]) (Fr := [F61]) S92 T97
    replace h62 := h62.move (K105.at 0 rfl)
    have E106 := T97.ext
    replace h62 := h62.ext E106
    refine lV 44 (eM (.tuple #[.slice A100 t93.1.length c101, .bool t93.2])) (lV 55 (e_extract (vs := #[.slice A100 t93.1.length c101, .bool t93.2]) (v := .slice A100 t93.1.length c101) kr rfl) (lV 56 (e_extract (vs := #[.slice A100 t93.1.length c101, .bool t93.2]) (v := .bool t93.2) kr rfl) (lV 10 (eA (.slice A100 t93.1.length c101)) (lV 11 (eA (.bool t93.2)) (wN (tN (wQ (wQ (wR (lV 57 (eM (.bool t93.2)) (lV 58 (e_notv (c := t93.2) kr) (wN (tN ?_)))))))))))))
    by_cases q107 : ¬ (t93.2 = true)
    · replace M := ifp q107 M
      refine cT (bT q107) (wQ (wR (lV 4 (eA (.slice none 0 0)) (lV 5 (eA (.int .i64 3)) (wN (tN (wT (tR (inb_r (tR (tR (inb_r (tR ?_)))))))))))))
      obtain rfl := sj M
      have S108 := S104.unit
      have S109 := St.first (Fa := [no]) (Fr := [F43, (is g28), F103, F61]) S108
      exact ret2 rfl rfl rfl (show _ = .slice none 0 0 from kr) (show _ = .int .i64 3 from kr) ⟨none, 0, no, H96, rfl, (Row.nil _ _ _ _ no), S109⟩
    replace M := ifn q107 M
    refine cF (bF q107) (wK (tN (wR (lV 59 (eM (.slice A59 x58.length c60) (by exact e65)) (lV 60 (eM (.pointer (some ⟨g28, 0, none⟩)) (by exact e64)) (lV 61 (eN ⟨g28, 0, none⟩) (lV 62 (eD g28 0 0 1 underlying106) (lV 63 (eL ⟨g28, 0 + 0, none⟩ (.slice A40 t35.2.sub_.length c41) underlying52 (blk_cell b99 rfl)) (lV 64 (eM (.int .i64 x63) (by exact e66)) ?_)))))))))
    obtain ⟨b110, e112⟩ := Row.addr h98 (show (x63).toNat < t35.2.sub_.length by omega)
    refine lV 65 (eI b110 0 t35.2.sub_.length c41 2 x63 .i64 underlying52 e112 q77 q76) (lV 66 (eD b110 (0 + (x63 : Int).toNat * 2) 0 1 underlying63) (lV 67 (eL ⟨b110, 0 + (x63 : Int).toNat * 2 + 0, none⟩ (.int .i64 ((t35.2.sub_.getD ((x63).toNat) z63).var)) underlying3 (hpx (Row.pick (j := 0) (u := .int .i64 ((t35.2.sub_.getD ((x63).toNat) z63).var)) h98 e112 (getD_some z63 (show (x63).toNat < t35.2.sub_.length by omega)) (fun _ _ o_ => st63_r0 o_)))) (lV 68 (eM (.slice A100 t93.1.length c101)) (lV 69 (show _ = Result.ok (Next.value (.agg #[.int .i64 ((t35.2.sub_.getD ((x63).toNat) z63).var), .slice A100 t93.1.length c101])) w95 from by kernel_rfl) ?_))))
    refine lW 70 (new_blk (v := fun g_ => .slice (some ⟨g_, 0, none⟩) 1 1) (cs := #[.int .i64 ((t35.2.sub_.getD ((x63).toNat) z63).var), .slice A100 t93.1.length c101]) (t := 63) S104 kr) ?_
    rintro _ w113 ⟨g114, rfl, b115, S116, K117⟩
    replace h98 := h98.move (K117.at 0 rfl)
    replace b99 := K117.blk 1 rfl b99
    replace h102 := h102.move (K117.at 2 rfl)
    replace h62 := h62.move (K117.at 3 rfl)
    obtain ⟨q118, M⟩ := chk M
    have S120 := S116.pulls [F61, F103, (is g114), F43, (is g28)] [3, 4] rfl
    refine lW 71 (e_append (d := st63) (n := x58.length) (xs := x58) (cap := c60) (A := A59) (ys := [(⟨(t35.2.sub_.getD ((x63).toNat) z63).var, t93.1⟩ : Binding)]) (A2 := (some ⟨g114, 0, none⟩)) (c2 := 1) (z := .agg #[.int .i64 0, .slice none 0 0]) (bytes := 32) S120 underlying52 kr rfl (by decide) kr rfl kr h62 (elsO_one1 (st63_mkO (x := (⟨(t35.2.sub_.getD ((x63).toNat) z63).var, t93.1⟩ : Binding)) h102)) (.inr (blk_news b115 rfl)) (show (x58.length + [(⟨(t35.2.sub_.getD ((x63).toNat) z63).var, t93.1⟩ : Binding)].length) * 32 ≤ _ by first | omega | (simp only [List.length_cons, List.length_nil]; omega)) (by decide)) ?_
    rintro _ w121 ⟨A122, c123, F124, rfl, h125, S126, K127⟩
    replace h98 := h98.move (K127.at 1 rfl)
    replace b99 := K127.blk 2 rfl b99
    refine lV 8 (eA (.slice A122 ((x58 ++ [(⟨(t35.2.sub_.getD ((x63).toNat) z63).var, t93.1⟩ : Binding)]).length) c123)) (wN (inb_n (tN (wR (lV 42 (eM (.int .i64 x63) (by exact e66)) (lV 43 (eAdd .i64 x63 1) (lV 9 (eA (.int .i64 (i64.wrap (x63 + 1)))) (wN (tN ?_)))))))))
    have S129 := S126.pulls [(is g28), F43, F124, (is g114)] [2, 3] rfl
    have S130 := St.first (Fa := [(is g28), F43, F124]) (Fr := [(is g114)]) S129
    exact ⟨k72, (by omega), _, H96, (x58 ++ [(⟨(t35.2.sub_.getD ((x63).toNat) z63).var, t93.1⟩ : Binding)]), A122, c123, F124, (i64.wrap (x63 + 1)), rfl, (by exact e64), kr, kr, b99, h98, h125, (Y57.trans E106), S130, M⟩
  replace M := ifn q76 M
  refine cF (bF q76) (wp_exit (tE (tE (inb_hit (tN (wQ (wR (lV 72 (eM (.slice A59 x58.length c60) (by exact e65)) (lV 4 (eA (.slice A59 x58.length c60)) (lV 5 (eA (.int .i64 0)) (wN (tN (wT ?_)))))))))))))
  obtain rfl := sj M
  have S131 := S67.pulls [F61, (is g28), F43] [2] rfl
  have S132 := St.first (Fa := [F61]) (Fr := [(is g28), F43]) S131
  exact ret2 rfl rfl rfl (show _ = .slice A59 x58.length c60 from kr) (show _ = .int .i64 0 from kr) ⟨A59, c60, F61, H56, rfl, h62, S132⟩

/-! impl_cellOk -/
def impl_cellOk.f (x1 : Cell) : Option Bool := (if x1.kind = 0 then (if x1.n ≥ 0 then (if x1.n ≤ 1000000 then some (decide ((x1.text.length : Int) = 0)) else some false) else some false) else (if x1.kind = 1 then (if x1.n ≥ (-1000000000000000) then (if x1.n ≤ 1000000000000000 then some (decide ((x1.text.length : Int) = 0)) else some false) else some false) else (if x1.kind = 2 then (if x1.n = 0 then some (decide ((x1.text.length : Int) ≤ 100)) else some false) else (if x1.kind = 3 then (if x1.n ≥ 1 then (if x1.n ≤ 20 then some (decide ((x1.text.length : Int) ≤ 100)) else some false) else some false) else some false))))
theorem impl_cellOk.calls (w : World) (H : Hp) (x1 : Cell) (A2 : Option Addr) (c3 : Nat) (h4 : Rd tByte H A2 x1.text) (l5 : x1.text.length ≤ c3) (S : Own [] H w) (r : Bool) (M : impl_cellOk.f x1 = some r) :
    Calls Try.prog 58 #[.agg #[.int .i64 x1.kind, .int .i64 x1.n, .slice A2 x1.text.length c3]] w (fun e e_w => e = .returned (.bool r) ∧ Chg no w e_w) := by
  rw [impl_cellOk.f] at M
  refine enter (l := [.agg #[.int .i64 x1.kind, .int .i64 x1.n, .slice A2 x1.text.length c3]]) 64 func58 rfl rfl rfl ?_
  have S0_ := S.st
  refine wQ (wR ?_)
  refine lW 1 (nB #[.int .i64 x1.kind, .int .i64 x1.n, .slice A2 x1.text.length c3] 65 S0_) ?_
  rintro _ w6 ⟨g7, rfl, b9, S10, K11⟩
  refine lV 2 (eA (.bool false)) (wN (tN (wQ (wQ (wR (lV 3 (eD g7 0 0 1 underlying65) (lV 4 (eL ⟨g7, 0 + 0, none⟩ (.int .i64 x1.kind) underlying3 (blk_cell b9 rfl)) (wN (tN (wp_block (wQ (wR (lV 6 (eEq .i64 x1.kind 0) (lV 5 (eA (.bool (decide (x1.kind = 0)))) (wN (tN ?_))))))))))))))))
  by_cases q12 : x1.kind = 0
  · replace M := ifp q12 M
    refine cT (bT q12) (wQ (wR (lV 7 (eD g7 0 1 1 underlying65) (lV 8 (eL ⟨g7, 0 + 1, none⟩ (.int .i64 x1.n) underlying3 (blk_cell b9 rfl)) (lV 9 (e_geq (k := .i64) (a := x1.n) (b := 0) kr rfl) (lV 10 (eM (.bool (decide (x1.n ≥ 0)))) ?_))))))
    by_cases q13 : x1.n ≥ 0
    · replace M := ifp q13 M
      refine lG 11 10 (bT q13) (eD g7 0 1 1 underlying65) (lG 12 10 (bT q13) (eL ⟨g7, 0 + 1, none⟩ (.int .i64 x1.n) underlying3 (blk_cell b9 rfl)) (lG 13 10 (bT q13) (e_leq (k := .i64) (a := x1.n) (b := 1000000) kr rfl) (lV 14 (eT (.bool (decide (x1.n ≤ 1000000))) (bT q13)) (lV 15 (eM (.bool (decide (x1.n ≤ 1000000)))) ?_))))
      by_cases q14 : x1.n ≤ 1000000
      · replace M := ifp q14 M
        refine lG 16 15 (bT q14) (eD g7 0 2 1 underlying65) (lG 17 15 (bT q14) (eL ⟨g7, 0 + 2, none⟩ (.slice A2 x1.text.length c3) underlying59 (blk_cell b9 rfl)) (lG 18 15 (bT q14) (e_len (A := A2) (n := x1.text.length) (c := c3) underlying59 kr) (lG 19 15 (bT q14) (eEq .i64 (x1.text.length : Int) 0) (lV 20 (eT (.bool (decide ((x1.text.length : Int) = 0))) (bT q14)) (lV 2 (eA (.bool (decide ((x1.text.length : Int) = 0)))) (wN (tN (wT (inb_r (tR ?_))))))))))
        obtain rfl := sj M
        exact ret1 rfl rfl  (show _ = .bool (decide ((x1.text.length : Int) = 0)) from kr) ⟨rfl, S10.chg⟩
      replace M := ifn q14 M
      refine lK 15 false (bF q14) ?_
      refine lK 15 false (bF q14) ?_
      refine lK 15 false (bF q14) ?_
      refine lK 15 false (bF q14) ?_
      refine lV 20 (eF (.bool false) (bF q14)) (lV 2 (eA (.bool false)) (wN (tN (wT (inb_r (tR ?_))))))
      obtain rfl := sj M
      exact ret1 rfl rfl  (show _ = .bool false from kr) ⟨rfl, S10.chg⟩
    replace M := ifn q13 M
    refine lK 10 false (bF q13) ?_
    refine lK 10 false (bF q13) ?_
    refine lK 10 false (bF q13) ?_
    refine lV 14 (eF (.bool false) (bF q13)) (lV 15 (eM (.bool false)) (lJ 15 false ?_))
    refine lJ 15 false ?_
    refine lJ 15 false ?_
    refine lJ 15 false ?_
    refine lV 20 (eF (.bool false)) (lV 2 (eA (.bool false)) (wN (tN (wT (inb_r (tR ?_))))))
    obtain rfl := sj M
    exact ret1 rfl rfl  (show _ = .bool false from kr) ⟨rfl, S10.chg⟩
  replace M := ifn q12 M
  refine cF (bF q12) (wQ (wR (lV 22 (eEq .i64 x1.kind 1) (lV 21 (eA (.bool (decide (x1.kind = 1)))) (wN (tN ?_))))))
  by_cases q15 : x1.kind = 1
  · replace M := ifp q15 M
    refine cT (bT q15) (wQ (wR (lV 23 (eD g7 0 1 1 underlying65) (lV 24 (eL ⟨g7, 0 + 1, none⟩ (.int .i64 x1.n) underlying3 (blk_cell b9 rfl)) (lV 25 (e_geq (k := .i64) (a := x1.n) (b := (-1000000000000000)) kr rfl) (lV 26 (eM (.bool (decide (x1.n ≥ (-1000000000000000))))) ?_))))))
    by_cases q16 : x1.n ≥ (-1000000000000000)
    · replace M := ifp q16 M
      refine lG 27 26 (bT q16) (eD g7 0 1 1 underlying65) (lG 28 26 (bT q16) (eL ⟨g7, 0 + 1, none⟩ (.int .i64 x1.n) underlying3 (blk_cell b9 rfl)) (lG 29 26 (bT q16) (e_leq (k := .i64) (a := x1.n) (b := 1000000000000000) kr rfl) (lV 30 (eT (.bool (decide (x1.n ≤ 1000000000000000))) (bT q16)) (lV 31 (eM (.bool (decide (x1.n ≤ 1000000000000000)))) ?_))))
      by_cases q17 : x1.n ≤ 1000000000000000
      · replace M := ifp q17 M
        refine lG 32 31 (bT q17) (eD g7 0 2 1 underlying65) (lG 33 31 (bT q17) (eL ⟨g7, 0 + 2, none⟩ (.slice A2 x1.text.length c3) underlying59 (blk_cell b9 rfl)) (lG 34 31 (bT q17) (e_len (A := A2) (n := x1.text.length) (c := c3) underlying59 kr) (lG 35 31 (bT q17) (eEq .i64 (x1.text.length : Int) 0) (lV 36 (eT (.bool (decide ((x1.text.length : Int) = 0))) (bT q17)) (lV 2 (eA (.bool (decide ((x1.text.length : Int) = 0)))) (wN (tN (wT (inb_r (tR ?_))))))))))
        obtain rfl := sj M
        exact ret1 rfl rfl  (show _ = .bool (decide ((x1.text.length : Int) = 0)) from kr) ⟨rfl, S10.chg⟩
      replace M := ifn q17 M
      refine lK 31 false (bF q17) ?_
      refine lK 31 false (bF q17) ?_
      refine lK 31 false (bF q17) ?_
      refine lK 31 false (bF q17) ?_
      refine lV 36 (eF (.bool false) (bF q17)) (lV 2 (eA (.bool false)) (wN (tN (wT (inb_r (tR ?_))))))
      obtain rfl := sj M
      exact ret1 rfl rfl  (show _ = .bool false from kr) ⟨rfl, S10.chg⟩
    replace M := ifn q16 M
    refine lK 26 false (bF q16) ?_
    refine lK 26 false (bF q16) ?_
    refine lK 26 false (bF q16) ?_
    refine lV 30 (eF (.bool false) (bF q16)) (lV 31 (eM (.bool false)) (lJ 31 false ?_))
    refine lJ 31 false ?_
    refine lJ 31 false ?_
    refine lJ 31 false ?_
    refine lV 36 (eF (.bool false)) (lV 2 (eA (.bool false)) (wN (tN (wT (inb_r (tR ?_))))))
    obtain rfl := sj M
    exact ret1 rfl rfl  (show _ = .bool false from kr) ⟨rfl, S10.chg⟩
  replace M := ifn q15 M
  refine cF (bF q15) (wQ (wR (lV 38 (eEq .i64 x1.kind 2) (lV 37 (eA (.bool (decide (x1.kind = 2)))) (wN (tN ?_))))))
  by_cases q18 : x1.kind = 2
  · replace M := ifp q18 M
    refine cT (bT q18) (wQ (wR (lV 39 (eD g7 0 1 1 underlying65) (lV 40 (eL ⟨g7, 0 + 1, none⟩ (.int .i64 x1.n) underlying3 (blk_cell b9 rfl)) (lV 41 (eEq .i64 x1.n 0) (lV 42 (eM (.bool (decide (x1.n = 0)))) ?_))))))
    by_cases q19 : x1.n = 0
    · replace M := ifp q19 M
      refine lG 43 42 (bT q19) (eD g7 0 2 1 underlying65) (lG 44 42 (bT q19) (eL ⟨g7, 0 + 2, none⟩ (.slice A2 x1.text.length c3) underlying59 (blk_cell b9 rfl)) (lG 45 42 (bT q19) (e_len (A := A2) (n := x1.text.length) (c := c3) underlying59 kr) (lG 46 42 (bT q19) (e_leq (k := .i64) (a := (x1.text.length : Int)) (b := 100) kr rfl) (lV 47 (eT (.bool (decide ((x1.text.length : Int) ≤ 100))) (bT q19)) (lV 2 (eA (.bool (decide ((x1.text.length : Int) ≤ 100)))) (wN (tN (wT (inb_r (tR ?_))))))))))
      obtain rfl := sj M
      exact ret1 rfl rfl  (show _ = .bool (decide ((x1.text.length : Int) ≤ 100)) from kr) ⟨rfl, S10.chg⟩
    replace M := ifn q19 M
    refine lK 42 false (bF q19) ?_
    refine lK 42 false (bF q19) ?_
    refine lK 42 false (bF q19) ?_
    refine lK 42 false (bF q19) ?_
    refine lV 47 (eF (.bool false) (bF q19)) (lV 2 (eA (.bool false)) (wN (tN (wT (inb_r (tR ?_))))))
    obtain rfl := sj M
    exact ret1 rfl rfl  (show _ = .bool false from kr) ⟨rfl, S10.chg⟩
  replace M := ifn q18 M
  refine cF (bF q18) (wQ (wR (lV 49 (eEq .i64 x1.kind 3) (lV 48 (eA (.bool (decide (x1.kind = 3)))) (wN (tN ?_))))))
  by_cases q20 : x1.kind = 3
  · replace M := ifp q20 M
    refine cT (bT q20) (wQ (wR (lV 50 (eD g7 0 1 1 underlying65) (lV 51 (eL ⟨g7, 0 + 1, none⟩ (.int .i64 x1.n) underlying3 (blk_cell b9 rfl)) (lV 52 (e_geq (k := .i64) (a := x1.n) (b := 1) kr rfl) (lV 53 (eM (.bool (decide (x1.n ≥ 1)))) ?_))))))
    by_cases q21 : x1.n ≥ 1
    · replace M := ifp q21 M
      refine lG 54 53 (bT q21) (eD g7 0 1 1 underlying65) (lG 55 53 (bT q21) (eL ⟨g7, 0 + 1, none⟩ (.int .i64 x1.n) underlying3 (blk_cell b9 rfl)) (lG 56 53 (bT q21) (e_leq (k := .i64) (a := x1.n) (b := 20) kr rfl) (lV 57 (eT (.bool (decide (x1.n ≤ 20))) (bT q21)) (lV 58 (eM (.bool (decide (x1.n ≤ 20)))) ?_))))
      by_cases q22 : x1.n ≤ 20
      · replace M := ifp q22 M
        refine lG 59 58 (bT q22) (eD g7 0 2 1 underlying65) (lG 60 58 (bT q22) (eL ⟨g7, 0 + 2, none⟩ (.slice A2 x1.text.length c3) underlying59 (blk_cell b9 rfl)) (lG 61 58 (bT q22) (e_len (A := A2) (n := x1.text.length) (c := c3) underlying59 kr) (lG 62 58 (bT q22) (e_leq (k := .i64) (a := (x1.text.length : Int)) (b := 100) kr rfl) (lV 63 (eT (.bool (decide ((x1.text.length : Int) ≤ 100))) (bT q22)) (lV 2 (eA (.bool (decide ((x1.text.length : Int) ≤ 100)))) (wN (tN (wT (inb_r (tR ?_))))))))))
        obtain rfl := sj M
        exact ret1 rfl rfl  (show _ = .bool (decide ((x1.text.length : Int) ≤ 100)) from kr) ⟨rfl, S10.chg⟩
      replace M := ifn q22 M
      refine lK 58 false (bF q22) ?_
      refine lK 58 false (bF q22) ?_
      refine lK 58 false (bF q22) ?_
      refine lK 58 false (bF q22) ?_
      refine lV 63 (eF (.bool false) (bF q22)) (lV 2 (eA (.bool false)) (wN (tN (wT (inb_r (tR ?_))))))
      obtain rfl := sj M
      exact ret1 rfl rfl  (show _ = .bool false from kr) ⟨rfl, S10.chg⟩
    replace M := ifn q21 M
    refine lK 53 false (bF q21) ?_
    refine lK 53 false (bF q21) ?_
    refine lK 53 false (bF q21) ?_
    refine lV 57 (eF (.bool false) (bF q21)) (lV 58 (eM (.bool false)) (lJ 58 false ?_))
    refine lJ 58 false ?_
    refine lJ 58 false ?_
    refine lJ 58 false ?_
    refine lV 63 (eF (.bool false)) (lV 2 (eA (.bool false)) (wN (tN (wT (inb_r (tR ?_))))))
    obtain rfl := sj M
    exact ret1 rfl rfl  (show _ = .bool false from kr) ⟨rfl, S10.chg⟩
  replace M := ifn q20 M
  refine cF (bF q20) (wK (inb_n (tN (wQ (wR (lV 2 (eA (.bool false)) (wN (tN (wT ?_)))))))))
  obtain rfl := sj M
  exact ret1 rfl rfl  (show _ = .bool false from kr) ⟨rfl, S10.chg⟩

/-! impl_ValidTerm -/
def impl_ValidTerm.l0 : Nat → (List Cell) → Int → Int → Option Bool
  | 0, _, _, _ => none
  | k20 + 1, x1, x9, x10 => (if x10 < (x1.length : Int) then (if 0 ≤ x10 then (if x9 = 0 then some false else ((impl_cellOk.f (x1.getD ((x10).toNat) z65)).bind fun t43 => (if ¬ (t43 = true) then some false else (if ((x1.getD ((x10).toNat) z65).kind) = 3 then (impl_ValidTerm.l0 k20 x1 (i64.wrap ((i64.wrap (x9 - 1)) + ((x1.getD ((x10).toNat) z65).n))) (i64.wrap (x10 + 1))) else (impl_ValidTerm.l0 k20 x1 (i64.wrap (x9 - 1)) (i64.wrap (x10 + 1))))))) else none) else some (decide (x9 = 0)))
def impl_ValidTerm.f (k : Nat) (x1 : List Cell) : Option Bool := (if (x1.length : Int) > 2000 then some false else (impl_ValidTerm.l0 k x1 1 0))
theorem impl_ValidTerm.calls (k : Nat) (w : World) (H : Hp) (x1 : List Cell) (A2 : Option Addr) (c3 : Nat) (h4 : Rd st65 H A2 x1) (l5 : x1.length ≤ c3) (S : Own [] H w) (r : Bool) (M : impl_ValidTerm.f k x1 = some r) :
    Calls Try.prog 17 #[.slice A2 x1.length c3] w (fun e e_w => e = .returned (.bool r) ∧ Chg no w e_w) := by
  rw [impl_ValidTerm.f] at M
  refine enter (l := [.slice A2 x1.length c3]) 34 func17 rfl rfl rfl ?_
  have S0_ := S.st
  refine wQ (wR (lV 2 (eA (.bool false)) (wN (tN (wQ (wQ (wR (lV 6 (eM (.slice A2 x1.length c3)) (lV 7 (e_len (A := A2) (n := x1.length) (c := c3) underlying25 kr) (lV 8 (e_gtr (k := .i64) (a := (x1.length : Int)) (b := 2000) kr rfl) (wN (tN ?_))))))))))))
  by_cases q6 : (x1.length : Int) > 2000
  · replace M := ifp q6 M
    refine cT (bT q6) (wQ (wR (lV 2 (eA (.bool false)) (wN (tN (wT (tR ?_)))))))
    obtain rfl := sj M
    exact ret1 rfl rfl  (show _ = .bool false from kr) ⟨rfl, S0_.chg⟩
  replace M := ifn q6 M
  refine cF (bF q6) (wK (tN (wQ (wR (lV 3 (eA (.int .i64 1)) (wN (tN (wQ (wQ (wR (lV 9 (eM (.slice A2 x1.length c3)) (lV 10 (e_len (A := A2) (n := x1.length) (c := c3) underlying25 kr) (lV 11 (eM (.int .i64 0)) (wN (tN ?_)))))))))))))))
  refine wp_block ?_
  refine wp_loop_g (fun k18 a19 w7 => ∃ (f8 : Nat → Value) (x9 : Int) (x10 : Int), a19 = mk 34 f8 ∧ f8 3 = .int .i64 x9 ∧ f8 9 = .slice A2 x1.length c3 ∧ f8 10 = .int .i64 (x1.length : Int) ∧ f8 11 = .int .i64 x10 ∧ St (anyOf []) H w [] H w7 ∧ impl_ValidTerm.l0 k18 x1 x9 x10 = some r) k ⟨_, 1, 0, rfl, kr, kr, kr, kr, S0_, M⟩ ?_
  clear M
  rintro k18 a19 w7 ⟨f8, x9, x10, rfl, e11, e12, e13, e14, S15, M⟩
  rcases k18 with _ | k20
  · rw [impl_ValidTerm.l0] at M
    cases M
  rw [impl_ValidTerm.l0] at M
  refine wQ (wR (lV 12 (eLt .i64 x10 (x1.length : Int) (by exact e14) (by exact e13)) (wN (tN (wQ ?_)))))
  by_cases q21 : x10 < (x1.length : Int)
  · replace M := ifp q21 M
    refine cT (bT q21) (wK (tN (wQ (wp_block (wQ (wR ?_))))))
    obtain ⟨q22, M⟩ := chk M
    obtain ⟨b23, o24, e25⟩ := Rd.addr h4 (show (x10).toNat < x1.length by omega)
    obtain ⟨y26, r27, k28⟩ := Rd.at h4 e25 (getD_some z65 (show (x10).toNat < x1.length by omega))
    obtain ⟨A29, c30, rfl, l31, h32⟩ := st65_open r27
    refine lV 13 (e_indexAddr (b := b23) (off := o24) (n := x1.length) (c := c3) (sz := 3) (i := x10) (k := .i64) underlying25 e25 kr (by exact e12) (by exact e14) q22 q21) (lV 14 (e_loadS (b := b23) (off := o24 + (x10 : Int).toNat * 3) (cs := [.int .i64 ((x1.getD ((x10).toNat) z65).kind), .int .i64 ((x1.getD ((x10).toNat) z65).n), .slice A29 ((x1.getD ((x10).toNat) z65).text).length c30]) underlying65 rfl kr kr (fun j_ u_ e_ => (hpx (S15.inv.cell (k28 j_ u_ e_))))) ?_)
    refine lW 5 (nB #[.int .i64 0, .int .i64 0, .slice none 0 0] 65 S15) ?_
    rintro _ w33 ⟨g34, rfl, b35, S36, K37⟩
    refine lE (eSa g34 0 [.int .i64 ((x1.getD ((x10).toNat) z65).kind), .int .i64 ((x1.getD ((x10).toNat) z65).n), .slice A29 ((x1.getD ((x10).toNat) z65).text).length c30] S36 b35) ?_
    rintro w38 ⟨b39, S40, K41⟩
    clear b35
    refine wN (tN (wQ (wQ (wR (lV 15 (eM (.int .i64 x9) (by exact e11)) (lV 16 (eEq .i64 x9 0) (lV 17 (eM (.bool (decide (x9 = 0)))) ?_)))))))
    by_cases q42 : x9 = 0
    · replace M := ifp q42 M
      refine lK 17 true (bT q42) ?_
      refine lK 17 true (bT q42) ?_
      refine lK 17 true (bT q42) ?_
      refine lV 21 (eT (.bool true) (bT q42)) (wN (tN (cond_t rfl kr (wQ (wR (lV 2 (eA (.bool false)) (wN (tN (wT (tR (inb_r (tR (tR (inb_r (tR ?_)))))))))))))))
      obtain rfl := sj M
      exact ret1 rfl rfl  (show _ = .bool false from kr) ⟨rfl, S40.chg⟩
    replace M := ifn q42 M
    refine lG 18 17 (bF q42) (e_loadS (b := g34) (off := 0) (cs := [.int .i64 ((x1.getD ((x10).toNat) z65).kind), .int .i64 ((x1.getD ((x10).toNat) z65).n), .slice A29 ((x1.getD ((x10).toNat) z65).text).length c30]) underlying65 rfl kr kr (blk_cells b39 rfl)) ?_
    obtain ⟨t43, u44, M⟩ := bnd M
    refine lcallg (d := 19) (t := 17) rfl kr rfl (bF q42) rfl kr (eC [.tmp 18] [.agg #[.int .i64 ((x1.getD ((x10).toNat) z65).kind), .int .i64 ((x1.getD ((x10).toNat) z65).n), .slice A29 ((x1.getD ((x10).toNat) z65).text).length c30]] func58) (impl_cellOk.calls w38 H (x1.getD ((x10).toNat) z65) A29 c30 h32 l31 S40.own0 t43 u44) ?_
    rintro _ w45 ⟨rfl, C46⟩
    refine ⟨_, rfl, ?_⟩
    obtain ⟨S47, K48⟩ := S40.still C46
    replace b39 := K48.blk 0 rfl b39
    refine lG 20 17 (bF q42) (e_notv (c := t43) kr) (lV 21 (eF (.bool (decide (¬ (t43 = true)))) (bF q42)) (wN (tN ?_)))
    by_cases q49 : ¬ (t43 = true)
    · replace M := ifp q49 M
      refine cT (bT q49) (wQ (wR (lV 2 (eA (.bool false)) (wN (tN (wT (tR ?_)))))))
      refine inb_r (tR (tR (inb_r (tR ?_))))
      obtain rfl := sj M
      exact ret1 rfl rfl  (show _ = .bool false from kr) ⟨rfl, S47.chg⟩
    replace M := ifn q49 M
    refine cF (bF q49) (wK (tN (wQ (wR (lV 22 (eM (.int .i64 x9) (by exact e11)) (lV 23 (e_sub (k := .i64) (a := x9) (b := 1) kr rfl) (lV 3 (eA (.int .i64 (i64.wrap (x9 - 1)))) (wN (tN (wQ (wR (lV 24 (eD g34 0 0 1 underlying65) (lV 25 (eL ⟨g34, 0 + 0, none⟩ (.int .i64 ((x1.getD ((x10).toNat) z65).kind)) underlying3 (blk_cell b39 rfl)) (lV 26 (eEq .i64 (x1.getD ((x10).toNat) z65).kind 3) (wN (tN ?_))))))))))))))))
    by_cases q50 : ((x1.getD ((x10).toNat) z65).kind) = 3
    · replace M := ifp q50 M
      refine cT (bT q50) (wR (lV 27 (eM (.int .i64 (i64.wrap (x9 - 1)))) (lV 28 (eD g34 0 1 1 underlying65) (lV 29 (eL ⟨g34, 0 + 1, none⟩ (.int .i64 ((x1.getD ((x10).toNat) z65).n)) underlying3 (blk_cell b39 rfl)) (lV 30 (eAdd .i64 (i64.wrap (x9 - 1)) (x1.getD ((x10).toNat) z65).n) (lV 3 (eA (.int .i64 (i64.wrap ((i64.wrap (x9 - 1)) + ((x1.getD ((x10).toNat) z65).n))))) (wN ?_)))))))
      refine inb_n (tN (wR (lV 31 (eAdd .i64 x10 1 (by exact e14)) (lV 11 (eM (.int .i64 (i64.wrap (x10 + 1)))) (wN (tN ?_))))))
      have S51 := St.first (Fa := []) (Fr := [(is g34)]) S47
      exact ⟨k20, (by omega), _, (i64.wrap ((i64.wrap (x9 - 1)) + ((x1.getD ((x10).toNat) z65).n))), (i64.wrap (x10 + 1)), rfl, kr, (by exact e12), (by exact e13), kr, S51, M⟩
    replace M := ifn q50 M
    refine cF (bF q50) (wK (inb_n (tN (wR (lV 31 (eAdd .i64 x10 1 (by exact e14)) (lV 11 (eM (.int .i64 (i64.wrap (x10 + 1)))) (wN (tN ?_))))))))
    have S52 := St.first (Fa := []) (Fr := [(is g34)]) S47
    exact ⟨k20, (by omega), _, (i64.wrap (x9 - 1)), (i64.wrap (x10 + 1)), rfl, kr, (by exact e12), (by exact e13), kr, S52, M⟩
  replace M := ifn q21 M
  refine cF (bF q21) (wp_exit (tE (tE (inb_hit (tN (wQ (wR (lV 32 (eM (.int .i64 x9) (by exact e11)) (lV 33 (eEq .i64 x9 0) (lV 2 (eA (.bool (decide (x9 = 0)))) (wN (tN (wT ?_)))))))))))))
  obtain rfl := sj M
  exact ret1 rfl rfl  (show _ = .bool (decide (x9 = 0)) from kr) ⟨rfl, S15.chg⟩

/-! impl_fromCells -/
mutual
def impl_fromCells.l0 : Nat → (List Cell) → (List Cell) → Int → (List Tm) → Option (Tm × (List Cell))
  | 0, _, _, _, _ => none
  | k61 + 1, x1, x41, x46, x47 => (if x46 < ((x1.getD 0 z65).n) then ((impl_fromCells.f k61 x41).bind fun t66 => (if x47.length + 1 ≤ 17592186044416 then (impl_fromCells.l0 k61 x1 t66.2 (i64.wrap (x46 + 1)) (x47 ++ [t66.1])) else none)) else some ((Tm.mk ((x1.getD 0 z65).kind) ((x1.getD 0 z65).n) ((x1.getD 0 z65).text) x47), x41))
def impl_fromCells.f : Nat → (List Cell) → Option (Tm × (List Cell))
  | 0, _ => none
  | k1_ + 1, x1 => (if 0 < (x1.length : Int) then (if 1 ≤ (x1.length : Int) then (if ((x1.getD 0 z65).kind) = 3 then (impl_fromCells.l0 k1_ x1 (x1.drop ((1 : Int).toNat)) 0 []) else some ((Tm.mk ((x1.getD 0 z65).kind) ((x1.getD 0 z65).n) ((x1.getD 0 z65).text) []), (x1.drop ((1 : Int).toNat)))) else none) else none)
end
theorem impl_fromCells.all : ∀ (K : Nat), (∀ (k : Nat), k < K → ∀ (w : World) (H : Hp) (x1 : List Cell) (A2 : Option Addr) (c3 : Nat) (h4 : Rd st65 H A2 x1) (l5 : x1.length ≤ c3) (S : Own [] H w) (r : Tm × (List Cell)) (M : impl_fromCells.f k x1 = some r), Calls Try.prog 108 #[.slice A2 x1.length c3] w (fun e e_w => ∃ (g_1 : Nat) (A_1 : Option Addr) (c_1 : Nat) (H_ : Hp), e = .returned (.tuple #[.pointer (some ⟨g_1, 0, none⟩), .slice A_1 r.2.length c_1]) ∧ NodeR 125 H_ r.1 (.pointer (some ⟨g_1, 0, none⟩)) ∧ Rd st65 H_ A_1 r.2 ∧ r.2.length ≤ c_1 ∧ St (anyOf []) H w [] H_ e_w)) := by
  intro K
  induction K with
  | zero => intro k hk; omega
  | succ K ih =>
    intro k hk w H x1 A2 c3 h4 l5 S r M
    rcases k with _ | k1_
    · rw [impl_fromCells.f] at M
      cases M
    rw [impl_fromCells.f] at M
    refine enter (l := [.slice A2 x1.length c3]) 48 func108 rfl rfl rfl ?_
    have S0_ := S.st
    refine wQ (wR (lV 2 (eA (.pointer none)) (lV 3 (eA (.slice none 0 0)) (wN (tN (wQ (wR (lV 8 (eM (.slice A2 x1.length c3)) ?_))))))))
    obtain ⟨q6, M⟩ := chk M
    obtain ⟨b7, o8, e9⟩ := Rd.addr h4 (show 0 < x1.length by omega)
    obtain ⟨y10, r11, k12⟩ := Rd.at h4 e9 (getD_some z65 (show 0 < x1.length by omega))
    obtain ⟨A13, c14, rfl, l15, h16⟩ := st65_open r11
    refine lV 9 (e_indexAddr (b := b7) (off := o8) (n := x1.length) (c := c3) (sz := 3) (i := 0) (k := .i64) underlying25 e9 kr kr rfl (by omega) q6) (lV 10 (e_loadS (b := b7) (off := o8 + (0 : Int).toNat * 3) (cs := [.int .i64 ((x1.getD 0 z65).kind), .int .i64 ((x1.getD 0 z65).n), .slice A13 ((x1.getD 0 z65).text).length c14]) underlying65 rfl kr kr (fun j_ u_ e_ => (hpx (S0_.inv.cell (k12 j_ u_ e_))))) ?_)
    refine lW 4 (nB #[.int .i64 0, .int .i64 0, .slice none 0 0] 65 S0_) ?_
    rintro _ w17 ⟨g18, rfl, b19, S20, K21⟩
    refine lE (eSa g18 0 [.int .i64 ((x1.getD 0 z65).kind), .int .i64 ((x1.getD 0 z65).n), .slice A13 ((x1.getD 0 z65).text).length c14] S20 b19) ?_
    rintro w22 ⟨b23, S24, K25⟩
    clear b19
    refine wN (tN (wQ (wR (lV 11 (eM (.slice A2 x1.length c3)) ?_))))
    obtain ⟨q26, M⟩ := chk M
    obtain ⟨A27, h30, l29, h28⟩ := Rd.sub1 (d := st65) (n := x1.length) (m := 3) (cap := c3) (a := 1) rfl h4 (by decide) q26 rfl l5
    refine lV 12 (e_slice_l (n := x1.length) (m := 3) (cap := c3) (A := A2) (a := 1) (k := .i64) underlying25 kr kr rfl (by decide) q26 l5 h30) (lV 0 (eA (.slice A27 (x1.drop ((1 : Int).toNat)).length (c3 - ((1 : Int).toNat)))) (wN (tN (wQ (wR (lV 13 (eD g18 0 0 1 underlying65) (lV 14 (eL ⟨g18, 0 + 0, none⟩ (.int .i64 ((x1.getD 0 z65).kind)) underlying3 (blk_cell b23 rfl)) (lV 15 (eD g18 0 1 1 underlying65) (lV 16 (eL ⟨g18, 0 + 1, none⟩ (.int .i64 ((x1.getD 0 z65).n)) underlying3 (blk_cell b23 rfl)) (lV 17 (eD g18 0 2 1 underlying65) (lV 18 (eL ⟨g18, 0 + 2, none⟩ (.slice A13 ((x1.getD 0 z65).text).length c14) underlying59 (blk_cell b23 rfl)) (lV 19 (e_conv_bs (A := A13) (n := ((x1.getD 0 z65).text).length) (c := c14) (xs := (x1.getD 0 z65).text) underlying59 underlying5 underlying9 kr rfl (Rd.bytesE S24.inv h16)) (lV 20 (show _ = Result.ok (Next.value (.agg #[.int .i64 ((x1.getD 0 z65).kind), .int .i64 ((x1.getD 0 z65).n), str ((x1.getD 0 z65).text), .slice none 0 0])) w22 from by kernel_rfl) ?_)))))))))))))
    refine lW 21 (nB #[.int .i64 ((x1.getD 0 z65).kind), .int .i64 ((x1.getD 0 z65).n), str ((x1.getD 0 z65).text), .slice none 0 0] 125 S24) ?_
    rintro _ w31 ⟨g32, rfl, b33, S34, K35⟩
    replace b23 := K35.blk 0 rfl b23
    refine lV 5 (eA (.pointer (some ⟨g32, 0, none⟩))) (wN (tN (wQ (wQ (wR (lV 22 (eD g18 0 0 1 underlying65) (lV 23 (eL ⟨g18, 0 + 0, none⟩ (.int .i64 ((x1.getD 0 z65).kind)) underlying3 (blk_cell b23 rfl)) (lV 24 (eEq .i64 (x1.getD 0 z65).kind 3) (wN (tN ?_))))))))))
    by_cases q36 : ((x1.getD 0 z65).kind) = 3
    · replace M := ifp q36 M
      refine cT (bT q36) (wQ (wR (lV 6 (eA (.int .i64 0)) (wN (tN (wp_block ?_))))))
      have S62 := S34.unit
      have S64 := S62.pulls [(is g32), (is g18), no] [2, 2] rfl
      refine wp_loop_g (fun k59 a60 w37 => ∃ (f38 : Nat → Value) (H39 : Hp) (x41 : List Cell) (A42 : Option Addr) (c43 : Nat) (x46 : Int) (x47 : List Tm) (A48 : Option Addr) (c49 : Nat) (F50 : Foot), k59 < K ∧ a60 = mk 48 f38 ∧ f38 0 = .slice A42 x41.length c43 ∧ f38 4 = .pointer (some ⟨g18, 0, none⟩) ∧ f38 5 = .pointer (some ⟨g32, 0, none⟩) ∧ f38 6 = .int .i64 x46 ∧ w37.heap[g32]? = some (.cells #[.int .i64 ((x1.getD 0 z65).kind), .int .i64 ((x1.getD 0 z65).n), str ((x1.getD 0 z65).text), .slice A48 x47.length c49] 125 (0, 0)) ∧ w37.heap[g18]? = some (.cells #[.int .i64 ((x1.getD 0 z65).kind), .int .i64 ((x1.getD 0 z65).n), .slice A13 ((x1.getD 0 z65).text).length c14] 65 (0, 0)) ∧ Row (node 125) 74 H39 (hp w37) F50 A48 c49 x47 ∧ Rd st65 H39 A42 x41 ∧ x41.length ≤ c43 ∧ Ext H H39 ∧ St (anyOf []) H w [(is g32), (is g18), F50] H39 w37 ∧ impl_fromCells.l0 k59 x1 x41 x46 x47 = some r) k1_ ⟨_, H, (x1.drop ((1 : Int).toNat)), A27, (c3 - ((1 : Int).toNat)), 0, [], none, 0, no, (by omega), rfl, kr, kr, kr, kr, b33, b23, (Row.nil _ _ _ _ _), h28, l29, (Ext.refl _), S64, M⟩ ?_
      clear M
      rintro k59 a60 w37 ⟨f38, H39, x41, A42, c43, x46, x47, A48, c49, F50, z57, rfl, e52, e53, e54, e55, b33, b23, h51, h44, l45, Y40, S56, M⟩
      rcases k59 with _ | k61
      · rw [impl_fromCells.l0] at M
        cases M
      rw [impl_fromCells.l0] at M
      refine wQ (wQ (wR (lV 25 (eM (.int .i64 x46) (by exact e55)) (lV 26 (eD g18 0 1 1 underlying65 (by exact e53)) (lV 27 (eL ⟨g18, 0 + 1, none⟩ (.int .i64 ((x1.getD 0 z65).n)) underlying3 (blk_cell b23 rfl)) (lV 28 (eLt .i64 x46 (x1.getD 0 z65).n) (wN (tN ?_))))))))
      by_cases q65 : x46 < ((x1.getD 0 z65).n)
      · replace M := ifp q65 M
        refine cT (bT q65) (wK (tN (wQ (wp_block (wQ (wR (lV 7 (eA (.pointer none)) (wN (tN (wQ (wR (lV 32 (eM (.slice A42 x41.length c43) (by exact e52)) ?_))))))))))))
        obtain ⟨t66, u67, M⟩ := bnd M
        refine lC 33 (eC [.tmp 32] [.slice A42 x41.length c43] func108) (ih k61 (by omega) w37 H39 x41 A42 c43 h44 l45 (St.own' (Fa := []) (Fr := [(is g32), (is g18), F50]) S56) t66 u67) ?_
        rintro _ w68 ⟨g71, A73, c74, H69, rfl, h72, h75, l76, T70⟩
        refine ⟨_, rfl, ?_⟩
        obtain ⟨S77, K78⟩ := St.call (Fa := []) (Fr := [(is g32), (is g18), F50]) S56 T70
        replace b33 := K78.blk 0 rfl b33
        replace b23 := K78.blk 1 rfl b23
        replace h51 := h51.move (K78.at 2 rfl)
        have E79 := T70.ext
        replace h51 := h51.ext E79
        refine lV 31 (eM (.tuple #[.pointer (some ⟨g71, 0, none⟩), .slice A73 t66.2.length c74])) (lV 34 (e_extract (vs := #[.pointer (some ⟨g71, 0, none⟩), .slice A73 t66.2.length c74]) (v := .pointer (some ⟨g71, 0, none⟩)) kr rfl) (lV 35 (e_extract (vs := #[.pointer (some ⟨g71, 0, none⟩), .slice A73 t66.2.length c74]) (v := .slice A73 t66.2.length c74) kr rfl) (lV 7 (eA (.pointer (some ⟨g71, 0, none⟩))) (lV 0 (eA (.slice A73 t66.2.length c74)) (wN (tN (wR (lV 36 (eM (.pointer (some ⟨g32, 0, none⟩)) (by exact e54)) (lV 37 (eM (.pointer (some ⟨g32, 0, none⟩)) (by exact e54)) (lV 38 (eN ⟨g32, 0, none⟩) (lV 39 (eD g32 0 3 1 underlying125) (lV 40 (eL ⟨g32, 0 + 3, none⟩ (.slice A48 x47.length c49) underlying87 (blk_cell b33 rfl)) (lV 41 (eM (.pointer (some ⟨g71, 0, none⟩))) ?_)))))))))))))
        refine lW 42 (new_blk (v := fun g_ => .slice (some ⟨g_, 0, none⟩) 1 1) (cs := #[.pointer (some ⟨g71, 0, none⟩)]) (t := 74) S77 kr) ?_
        rintro _ w80 ⟨g81, rfl, b82, S83, K84⟩
        replace b33 := K84.blk 0 rfl b33
        replace b23 := K84.blk 1 rfl b23
        replace h51 := h51.move (K84.at 2 rfl)
        obtain ⟨q85, M⟩ := chk M
        have S86 := S83.pulls [F50, (is g81), (is g32), (is g18)] [3] rfl
        have S87 := S86.unit
        have S88 := S87.pulls [F50, no, (is g81), (is g32), (is g18)] [1] rfl
        refine lW 43 (e_append (d := (node 125)) (n := x47.length) (xs := x47) (cap := c49) (A := A48) (ys := [t66.1]) (A2 := (some ⟨g81, 0, none⟩)) (c2 := 1) (z := .pointer none) (bytes := 8) S88 underlying87 kr rfl (by decide) kr rfl kr h51 (elsO_one1 ⟨_, rfl, h72⟩) (.inr (blk_news b82 rfl)) (show (x47.length + [t66.1].length) * 8 ≤ _ by first | omega | (simp only [List.length_cons, List.length_nil]; omega)) (by decide)) ?_
        rintro _ w89 ⟨A90, c91, F92, rfl, h93, S94, K95⟩
        replace b33 := K95.blk 1 rfl b33
        replace b23 := K95.blk 2 rfl b23
        refine lV 44 (eN ⟨g32, 0, none⟩) (lV 45 (eD g32 0 3 1 underlying125) ?_)
        have S96 := S94.pulls [(is g32), F92, (is g81), (is g18)] [2] rfl
        refine lE (eS g32 (0 + 3) (.slice A90 ((x47 ++ [t66.1]).length) c91) #[.int .i64 ((x1.getD 0 z65).kind), .int .i64 ((x1.getD 0 z65).n), str ((x1.getD 0 z65).text), .slice A90 ((x47 ++ [t66.1]).length) c91] [.slice A90 ((x47 ++ [t66.1]).length) c91] S96 b33) ?_
        rintro w97 ⟨b98, S99, K100⟩
        replace h93 := h93.move (K100.at 0 rfl)
        replace b23 := K100.blk 2 rfl b23
        clear b33
        refine wN (inb_n (tN (wR (lV 29 (eM (.int .i64 x46) (by exact e55)) (lV 30 (eAdd .i64 x46 1) (lV 6 (eA (.int .i64 (i64.wrap (x46 + 1)))) (wN (tN ?_))))))))
        have S103 := S99.pulls [(is g32), (is g18), F92, (is g81)] [1, 3, 2] rfl
        have S104 := St.first (Fa := [(is g32), (is g18), F92]) (Fr := [(is g81)]) S103
        exact ⟨k61, (by omega), _, H69, t66.2, A73, c74, (i64.wrap (x46 + 1)), (x47 ++ [t66.1]), A90, c91, F92, (by omega), rfl, kr, (by exact e53), (by exact e54), kr, b98, b23, h93, h75, l76, (Y40.trans E79), S104, M⟩
      replace M := ifn q65 M
      refine cF (bF q65) (wp_exit (tE (tE (inb_hit (tN (wQ (wR (lV 46 (eM (.pointer (some ⟨g32, 0, none⟩)) (by exact e54)) (lV 47 (eM (.slice A42 x41.length c43) (by exact e52)) (lV 2 (eA (.pointer (some ⟨g32, 0, none⟩))) (lV 3 (eA (.slice A42 x41.length c43)) (wN (tN (wT ?_))))))))))))))
      have l105 := h51.le
      have S106 := S56.pulls [F50, (is g32), (is g18)] [2] rfl
      obtain ⟨H107, S108, E109, h110, z111⟩ := S106.frzRow h51
      obtain ⟨H112, S113, E114, h115, z116⟩ := S108.frzBlk b33
      have h117 : NodeR 125 H112 (Tm.mk ((x1.getD 0 z65).kind) ((x1.getD 0 z65).n) ((x1.getD 0 z65).text) x47) (.pointer (some ⟨g32, 0, none⟩)) := node_mk (A := A48) (c := c49) h115 rfl l105 (h110.ext E114)
      obtain rfl := sj M
      have S118 := St.first (Fa := []) (Fr := [(is g18)]) S113
      exact ret2 rfl rfl rfl (show _ = .pointer (some ⟨g32, 0, none⟩) from kr) (show _ = .slice A42 x41.length c43 from kr) ⟨g32, A42, c43, H112, rfl, h117, (h44.ext (E109.trans E114)), l45, S118⟩
    replace M := ifn q36 M
    refine cF (bF q36) (wK (tN (wQ (wR (lV 46 (eM (.pointer (some ⟨g32, 0, none⟩))) (lV 47 (eM (.slice A27 (x1.drop ((1 : Int).toNat)).length (c3 - ((1 : Int).toNat)))) (lV 2 (eA (.pointer (some ⟨g32, 0, none⟩))) (lV 3 (eA (.slice A27 (x1.drop ((1 : Int).toNat)).length (c3 - ((1 : Int).toNat)))) (wN (tN (wT ?_)))))))))))
    obtain ⟨H119, S120, E121, h122, z123⟩ := S34.frzBlk b33
    have h124 : NodeR 125 H119 (Tm.mk ((x1.getD 0 z65).kind) ((x1.getD 0 z65).n) ((x1.getD 0 z65).text) []) (.pointer (some ⟨g32, 0, none⟩)) := node_mk (A := none) (c := 0) h122 rfl (Nat.le_refl _) (Rd.nil _ _ _)
    obtain rfl := sj M
    have S125 := St.first (Fa := []) (Fr := [(is g18)]) S120
    exact ret2 rfl rfl rfl (show _ = .pointer (some ⟨g32, 0, none⟩) from kr) (show _ = .slice A27 (x1.drop ((1 : Int).toNat)).length (c3 - ((1 : Int).toNat)) from kr) ⟨g32, A27, (c3 - ((1 : Int).toNat)), H119, rfl, h124, (h28.ext E121), l29, S125⟩
theorem impl_fromCells.calls (k : Nat) (w : World) (H : Hp) (x1 : List Cell) (A2 : Option Addr) (c3 : Nat) (h4 : Rd st65 H A2 x1) (l5 : x1.length ≤ c3) (S : Own [] H w) (r : Tm × (List Cell)) (M : impl_fromCells.f k x1 = some r) :
    Calls Try.prog 108 #[.slice A2 x1.length c3] w (fun e e_w => ∃ (g_1 : Nat) (A_1 : Option Addr) (c_1 : Nat) (H_ : Hp), e = .returned (.tuple #[.pointer (some ⟨g_1, 0, none⟩), .slice A_1 r.2.length c_1]) ∧ NodeR 125 H_ r.1 (.pointer (some ⟨g_1, 0, none⟩)) ∧ Rd st65 H_ A_1 r.2 ∧ r.2.length ≤ c_1 ∧ St (anyOf []) H w [] H_ e_w) := (impl_fromCells.all (k + 1)) k (Nat.lt_succ_self k) w H x1 A2 c3 h4 l5 S r M

/-! impl_tree -/
def impl_tree.f (k : Nat) (x1 : List Cell) : Option Tm := ((impl_fromCells.f k x1).bind fun t6 => some t6.1)
theorem impl_tree.calls (k : Nat) (w : World) (H : Hp) (x1 : List Cell) (A2 : Option Addr) (c3 : Nat) (h4 : Rd st65 H A2 x1) (l5 : x1.length ≤ c3) (S : Own [] H w) (r : Tm) (M : impl_tree.f k x1 = some r) :
    Calls Try.prog 62 #[.slice A2 x1.length c3] w (fun e e_w => ∃ (g_1 : Nat) (H_ : Hp), e = .returned (.pointer (some ⟨g_1, 0, none⟩)) ∧ NodeR 125 H_ r (.pointer (some ⟨g_1, 0, none⟩)) ∧ St (anyOf []) H w [] H_ e_w) := by
  rw [impl_tree.f] at M
  refine enter (l := [.slice A2 x1.length c3]) 11 func62 rfl rfl rfl ?_
  have S0_ := S.st
  refine wQ (wR (lV 2 (eA (.pointer none)) (wN (tN (wQ (wR (lV 6 (eM (.slice A2 x1.length c3)) ?_)))))))
  obtain ⟨t6, u7, M⟩ := bnd M
  refine lC 7 (eC [.tmp 6] [.slice A2 x1.length c3] func108) (impl_fromCells.calls k w H x1 A2 c3 h4 l5 (St.own' (Fa := []) (Fr := []) S0_) t6 u7) ?_
  rintro _ w8 ⟨g11, A13, c14, H9, rfl, h12, h15, l16, T10⟩
  refine ⟨_, rfl, ?_⟩
  obtain ⟨S17, K18⟩ := St.call (Fa := []) (Fr := []) S0_ T10
  have E19 := T10.ext
  refine lV 5 (eM (.tuple #[.pointer (some ⟨g11, 0, none⟩), .slice A13 t6.2.length c14])) (lV 8 (e_extract (vs := #[.pointer (some ⟨g11, 0, none⟩), .slice A13 t6.2.length c14]) (v := .pointer (some ⟨g11, 0, none⟩)) kr rfl) (lV 9 (e_extract (vs := #[.pointer (some ⟨g11, 0, none⟩), .slice A13 t6.2.length c14]) (v := .slice A13 t6.2.length c14) kr rfl) (lV 3 (eA (.pointer (some ⟨g11, 0, none⟩))) (lV 4 (eA (.slice A13 t6.2.length c14)) (wN (tN (wQ (wR (lV 10 (eM (.pointer (some ⟨g11, 0, none⟩))) (lV 2 (eA (.pointer (some ⟨g11, 0, none⟩))) (wN (tN (wT ?_)))))))))))))
  obtain rfl := sj M
  exact ret1 rfl rfl  (show _ = .pointer (some ⟨g11, 0, none⟩) from kr) ⟨g11, H9, rfl, h12, S17⟩

/-! impl_bindings_get -/
structure GPair where
  x_ : Tm
  y_ : Tm
  deriving Inhabited
def st143 : Ty GPair := iso (pair (node 125) (node 125)) (fun x => (x.x_, x.y_))
theorem st143_mkO {H X : Hp} {x : GPair} {g0 : Nat} {g1 : Nat} (h0 : NodeR 125 H x.x_ (.pointer (some ⟨g0, 0, none⟩))) (h1 : NodeR 125 H x.y_ (.pointer (some ⟨g1, 0, none⟩))) : st143.O H X no x [.pointer (some ⟨g0, 0, none⟩), .pointer (some ⟨g1, 0, none⟩)] := (pairO0 (a := (node 125)) (b := (node 125)) (x := (x.x_, x.y_)) (c0 := [.pointer (some ⟨g0, 0, none⟩)]) (c1 := [.pointer (some ⟨g1, 0, none⟩)]) (F := no) ⟨_, rfl, h0⟩ ⟨_, rfl, h1⟩)
theorem st143_openO {H X : Hp} {F : Foot} {x : GPair} {cs : List Value} (h : st143.O H X F x cs) : ∃ (g0 : Nat) (g1 : Nat), cs = [.pointer (some ⟨g0, 0, none⟩), .pointer (some ⟨g1, 0, none⟩)] ∧ NodeR 125 H x.x_ (.pointer (some ⟨g0, 0, none⟩)) ∧ NodeR 125 H x.y_ (.pointer (some ⟨g1, 0, none⟩)) := by
  obtain ⟨_, _, K0, L0, rfl, ⟨v0, rfl, h0⟩, ⟨v1, rfl, h1⟩, d0, s0⟩ := h
  obtain ⟨g0, rfl⟩ := node_ptr h0
  obtain ⟨g1, rfl⟩ := node_ptr h1
  exact ⟨g0, g1, rfl, h0, h1⟩
def impl_bindings_get.f (x1 : List (Int × Tm)) (x4 : Int) : Option (Option Tm) := (if (mget x1 x4).isSome = true then some (some ((mget x1 x4).getD (Tm.mk 0 0 [] []))) else some none)
theorem impl_bindings_get.calls (w : World) (H : Hp) (x1 : List (Int × Tm)) (g2 : Nat) (x4 : Int) (h3 : MapO encI (node 125) H (hp w) g2 x1) (S : Own [(is g2)] H w) (r : Option Tm) (M : impl_bindings_get.f x1 x4 = some r) :
    Calls Try.prog 169 #[.map (some g2), .int .i64 x4] w (fun e e_w => ∃ (p_1 : Option Addr) (H_ : Hp), e = .returned (.pointer p_1) ∧ MapO encI (node 125) H_ (hp e_w) g2 x1 ∧ NodeQ 125 H_ r (.pointer p_1) ∧ St (anyOf [(is g2)]) H w [(is g2)] H_ e_w) := by
  rw [impl_bindings_get.f] at M
  refine enter (l := [.map (some g2), .int .i64 x4]) 8 func169 rfl rfl rfl ?_
  have S0_ := S.st
  refine wQ (wR (lV 4 (eA (.pointer none)) (wN (tN (wQ (wR (lV 5 (eM (.map (some g2))) (lV 6 (eM (.int .i64 x4)) ?_))))))))
  by_cases q5 : (mget x1 x4).isSome = true
  · replace M := ifp q5 M
    obtain ⟨v6, r7, k8⟩ := MapO.look h3 keyI (some_getD q5 (Tm.mk 0 0 [] []))
    obtain ⟨v9, e10, h11⟩ := r7
    obtain rfl := cons1 e10
    obtain ⟨g12, rfl⟩ := node_ptr h11
    refine lV 7 (e_look1v (k := x4) k8 keyI underlying109 underlying3 kr kr (.pointer none) kr) (lV 4 (eA (.pointer (some ⟨g12, 0, none⟩))) (wN (tN (wT ?_))))
    obtain rfl := sj M
    exact ret1 rfl rfl  (show _ = .pointer (some ⟨g12, 0, none⟩) from kr) ⟨(some ⟨g12, 0, none⟩), H, rfl, h3, (NodeQ.of h11), S0_⟩
  replace M := ifn q5 M
  refine lV 7 (e_look1_f (k := x4) h3 keyI underlying109 underlying3 kr kr (is_none q5) (.pointer none) kr) (lV 4 (eA (.pointer none)) (wN (tN (wT ?_))))
  obtain rfl := sj M
  exact ret1 rfl rfl  (show _ = .pointer none from kr) ⟨none, H, rfl, h3, NodeQ.nil, S0_⟩

/-! impl_walk -/
def impl_walk.l0 : Nat → (List (Int × Tm)) → (Option Tm) → Option Tm
  | 0, _, _ => none
  | k21 + 1, x1, x11 => (if x11.isSome = true then (if ((x11.getD (Tm.mk 0 0 [] [])).kind) = 0 then ((impl_bindings_get.f x1 ((x11.getD (Tm.mk 0 0 [] [])).n)).bind fun t56 => (if ¬ (t56.isSome = true) then some (x11.getD (Tm.mk 0 0 [] [])) else (impl_walk.l0 k21 x1 t56))) else some (x11.getD (Tm.mk 0 0 [] []))) else none)
def impl_walk.f (k : Nat) (x1 : List (Int × Tm)) (x4 : Tm) : Option Tm := (impl_walk.l0 k x1 (some x4))
theorem impl_walk.calls (k : Nat) (w : World) (H : Hp) (x1 : List (Int × Tm)) (g2 : Nat) (x4 : Tm) (g5 : Nat) (h3 : MapO encI (node 125) H (hp w) g2 x1) (h6 : NodeR 125 H x4 (.pointer (some ⟨g5, 0, none⟩))) (S : Own [(is g2)] H w) (r : Tm) (M : impl_walk.f k x1 x4 = some r) :
    Calls Try.prog 119 #[.iface 109 (.map (some g2)), .pointer (some ⟨g5, 0, none⟩)] w (fun e e_w => ∃ (g_1 : Nat) (H_ : Hp), e = .returned (.pointer (some ⟨g_1, 0, none⟩)) ∧ MapO encI (node 125) H_ (hp e_w) g2 x1 ∧ NodeR 125 H_ r (.pointer (some ⟨g_1, 0, none⟩)) ∧ St (anyOf [(is g2)]) H w [(is g2)] H_ e_w) := by
  rw [impl_walk.f] at M
  refine enter (l := [.iface 109 (.map (some g2)), .pointer (some ⟨g5, 0, none⟩)]) 25 func119 rfl rfl rfl ?_
  have S0_ := S.st
  refine wQ (wR (lV 4 (eA (.pointer none)) (wN (tN (wQ (wp_block ?_))))))
  refine wp_loop_g (fun k19 a20 w7 => ∃ (f8 : Nat → Value) (H9 : Hp) (x11 : Option Tm) (p12 : Option Addr), a20 = mk 25 f8 ∧ f8 0 = .iface 109 (.map (some g2)) ∧ f8 1 = .pointer p12 ∧ MapO encI (node 125) H9 (hp w7) g2 x1 ∧ NodeQ 125 H9 x11 (.pointer p12) ∧ Ext H H9 ∧ St (anyOf [(is g2)]) H w [(is g2)] H9 w7 ∧ impl_walk.l0 k19 x1 x11 = some r) k ⟨_, H, (some x4), (some ⟨g5, 0, none⟩), rfl, kr, kr, h3, (NodeQ.of h6), (Ext.refl _), S0_, M⟩ ?_
  clear M
  rintro k19 a20 w7 ⟨f8, H9, x11, p12, rfl, e14, e15, h3, h13, Y10, S16, M⟩
  rcases k19 with _ | k21
  · rw [impl_walk.l0] at M
    cases M
  rw [impl_walk.l0] at M
  refine wQ (wQ (wR (lV 6 (eM (.pointer p12) (by exact e15)) ?_)))
  obtain ⟨q22, M⟩ := chk M
  obtain ⟨g23, e24, h25⟩ := NodeQ.get h13 q22 (Tm.mk 0 0 [] [])
  subst e24
  refine lV 7 (eN ⟨g23, 0, none⟩) (lV 8 (eD g23 0 0 1 underlying125) ?_)
  obtain ⟨A26, c27, y28, q29, h30, h31, l32, h33⟩ := node_open h25
  refine lV 9 (eL ⟨g23, 0 + 0, none⟩ (.int .i64 (x11.getD (Tm.mk 0 0 [] [])).kind) underlying3 (blk_cells (S16.inv _ _ h30) h31 0 _ rfl)) (lV 10 (eEq .i64 (x11.getD (Tm.mk 0 0 [] [])).kind 0) (wN (tN ?_)))
  by_cases q34 : ((x11.getD (Tm.mk 0 0 [] [])).kind) = 0
  · replace M := ifp q34 M
    refine cT (bT q34) (wK (tN (wp_block (wQ ?_))))
    refine region_mix (S := (fun (L_ : Array Bool) (w_ : World) => Ext H9 (hp w_) ∧ True)) kr S16 ?_
    intro w35 S36 K37 hc38
    have hs39 : (fun (L_ : Array Bool) (w_ : World) => Ext H9 (hp w_) ∧ True) (Array.replicate 10 false) w35 := ⟨S36.inv, trivial⟩
    replace h3 := h3.move (K37.at 0 rfl)
    refine xV 0 11 rfl hc38 hs39 (fun L_ w_ hc_ hu_ hs_ => eM (.iface 109 (.map (some g2))) (by exact e14)) ?_; intro hc40 hs41
    refine xV 1 12 rfl hc40 hs41 (fun L_ w_ hc_ hu_ hs_ => eM (.pointer (some ⟨g23, 0, none⟩)) (by exact e15)) ?_; intro hc42 hs43
    refine xV 2 13 rfl hc42 hs43 (fun L_ w_ hc_ hu_ hs_ => eN ⟨g23, 0, none⟩) ?_; intro hc44 hs45
    refine xV 3 14 rfl hc44 hs45 (fun L_ w_ hc_ hu_ hs_ => eD g23 0 1 1 underlying125) ?_; intro hc46 hs47
    refine xV 4 15 rfl hc46 hs47 (fun L_ w_ hc_ hu_ hs_ => eL ⟨g23, 0 + 1, none⟩ (.int .i64 (x11.getD (Tm.mk 0 0 [] [])).n) underlying3 (blk_cells (hs_.1 _ _ h30) h31 1 _ rfl)) ?_; intro hc48 hs49
    refine xO 5 hc48 ?_
    refine yO 5 16 rfl hs49 (e_makeFuncM (n := "loop.example/s00095/impl.get") (v := .iface 109 (.map (some g2))) kr) ?_; intro hc50 hs51
    refine xO 6 hc50 ?_
    refine yO 6 17 rfl hs51 (e_nilCheckM (n := "loop.example/s00095/impl.get") (t := 109) (v := .map (some g2)) kr kr) ?_; intro hc52 hs53
    refine xO 7 hc52 ?_
    refine yO 7 18 rfl hs53 (eM (.iface 109 (.map (some g2)))) ?_; intro hc54 hs55
    obtain ⟨t56, u57, M⟩ := bnd M
    refine xO 8 hc54 ?_
    refine yC 8 rfl (e_invoke (f := 169) (t := 109) (n := "loop.example/s00095/impl.get") (l := [.tmp 15]) (vs := [.int .i64 (x11.getD (Tm.mk 0 0 [] [])).n]) kr kr kr) (impl_bindings_get.calls w35 H9 x1 g2 ((x11.getD (Tm.mk 0 0 [] [])).n) h3 (St.own' (Fa := [(is g2)]) (Fr := []) S36) t56 u57) ?_
    rintro hc64 _ w58 ⟨p62, H59, rfl, h61, h63, T60⟩
    refine ⟨_, rfl, ?_⟩
    obtain ⟨S65, K66⟩ := St.call (Fa := [(is g2)]) (Fr := []) S36 T60
    have E67 := T60.ext
    refine ⟨⟨(Ext.trans E67 S65.inv), trivial⟩, fun hs68 => ?_⟩
    refine xO 9 hc64 ?_
    refine yO 9 5 rfl hs68 (eA (.pointer p62)) ?_; intro hc69 hs70
    refine xn kr ?_ _
    refine tN (wQ (wQ (wR (lV 20 (eM (.pointer p62)) (lV 21 (e_qeql (p := p62) h63 underlying74 kr rfl) (wN (tN ?_)))))))
    by_cases q71 : ¬ (t56.isSome = true)
    · replace M := ifp q71 M
      refine cT (bT q71) (wQ (wR (lV 22 (eM (.pointer (some ⟨g23, 0, none⟩)) (by exact e15)) (lV 4 (eA (.pointer (some ⟨g23, 0, none⟩))) (wN (tN (wT (tR (inb_r (tR (inb_r (tR ?_))))))))))))
      obtain rfl := sj M
      exact ret1 rfl rfl  (show _ = .pointer (some ⟨g23, 0, none⟩) from kr) ⟨g23, H59, rfl, h61, (h25.ext' E67), S65⟩
    replace M := ifn q71 M
    refine cF (bF q71) (wK (tN (wR (lV 23 (eM (.pointer p62)) (lV 1 (eA (.pointer p62)) (wN (inb_n (tN ?_))))))))
    exact ⟨k21, (by omega), _, H59, t56, p62, rfl, (by exact e14), kr, h61, h63, (Y10.trans E67), S65, M⟩
  replace M := ifn q34 M
  refine cF (bF q34) (wp_exit (tE (tE (inb_hit (tN (wQ (wR (lV 24 (eM (.pointer (some ⟨g23, 0, none⟩)) (by exact e15)) (lV 4 (eA (.pointer (some ⟨g23, 0, none⟩))) (wN (tN (wT ?_))))))))))))
  obtain rfl := sj M
  exact ret1 rfl rfl  (show _ = .pointer (some ⟨g23, 0, none⟩) from kr) ⟨g23, H9, rfl, h3, h25, S16⟩

/-! impl_bindings_set -/
def impl_bindings_set.f (x1 : List (Int × Tm)) (x4 : Int) (x5 : Tm) : Option (List (Int × Tm)) := some (mset x1 x4 x5)
theorem impl_bindings_set.calls (w : World) (H : Hp) (x1 : List (Int × Tm)) (g2 : Nat) (x4 : Int) (x5 : Tm) (g6 : Nat) (h3 : MapO encI (node 125) H (hp w) g2 x1) (h7 : NodeR 125 H x5 (.pointer (some ⟨g6, 0, none⟩))) (S : Own [(is g2)] H w) (r : List (Int × Tm)) (M : impl_bindings_set.f x1 x4 x5 = some r) :
    Calls Try.prog 170 #[.map (some g2), .int .i64 x4, .pointer (some ⟨g6, 0, none⟩)] w (fun e e_w => ∃ (H_ : Hp), e = .returned (.tuple #[]) ∧ MapO encI (node 125) H_ (hp e_w) g2 r ∧ St (anyOf [(is g2)]) H w [(is g2)] H_ e_w) := by
  rw [impl_bindings_set.f] at M
  refine enter (l := [.map (some g2), .int .i64 x4, .pointer (some ⟨g6, 0, none⟩)]) 9 func170 rfl rfl rfl ?_
  have S0_ := S.st
  refine wR (lV 6 (eM (.map (some g2))) (lV 7 (eM (.int .i64 x4)) (lV 8 (eM (.pointer (some ⟨g6, 0, none⟩))) ?_)))
  refine lE (e_mapUpdate (k := x4) (a := x5) S0_ h3 keyI underlying109 underlying3 kr kr kr ⟨_, rfl, h7⟩) ?_
  rintro w8 ⟨h9, S10, K11⟩
  clear h3
  refine wN ?_
  obtain rfl := sj M
  exact end0 rfl ⟨H, rfl, h9, S10⟩
end Go.Proofs.Ytognefkopbbdnaa
