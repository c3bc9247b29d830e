import Derived.Test.YtnigifmkjmbfiaaWkUs5
namespace Go.Proofs.Ytnigifmkjmbfiaa
open Go.Sx Go.Sy
attribute [local irreducible] Go.wpList Go.wpStill Go.wpQuiet Go.Code.wp
set_option maxRecDepth 100000
set_option maxHeartbeats 1000000
set_option linter.unusedVariables false
set_option linter.unusedSimpArgs false

/-! laws_FnExactUnifyStore -/
def laws_FnExactUnifyStore.l1 (k : Nat) (x62 : List Cell) (x67 : List Int) (x72 : Int) (t1014 : Int × (List Cell) × (List Int)) (x1054 : List Cell) (x1059 : List Int) (x1064 : Int) : Option Bool := ((laws_eqStore.f k (⟨x1054, x1059⟩ : Store) (⟨x62, x67⟩ : Store)).bind fun t1603 => (if ¬ (t1603 = true) then some false else (if x1064 ≠ x72 then some false else ((laws_heldStore.f k (⟨t1014.2.1, t1014.2.2⟩ : Store) 1).bind fun t1639 => (if t1639 < 0 then some false else (if t1639 ≠ t1014.1 then some false else some true))))))
def laws_FnExactUnifyStore.l0 (k : Nat) (x1 : Store) (x10 : Cell) (x15 : Cell) (x62 : List Cell) (x67 : List Int) (x72 : Int) : Option Bool := ((laws_toStore.f k x1).bind fun t590 => ((laws_toCell.f k x10).bind fun t615 => ((laws_toCell.f k x15).bind fun t636 => ((impl_UnifyStore.f k t590 t615 t636).bind fun t699 => ((laws_eqStore.f k t699.1 (⟨x62, x67⟩ : Store)).bind fun t739 => (if ¬ (t739 = true) then some false else (if t699.2 ≠ x72 then some false else ((laws_toStore.f k x1).bind fun t785 => ((laws_eqStore.f k t590 t785).bind fun t803 => (if ¬ (t803 = true) then some false else ((laws_toCell.f k x10).bind fun t850 => ((laws_eqCell.f k t615 t850).bind fun t864 => (if ¬ (t864 = true) then some false else ((laws_toCell.f k x15).bind fun t898 => ((laws_eqCell.f k t636 t898).bind fun t912 => (if ¬ (t912 = true) then some false else ((laws_markStore_2.f k t590 1).bind fun t938 => ((laws_markCell_2.f k t615 t938.1).bind fun t953 => ((laws_markCell_2.f k t636 t953.1).bind fun t965 => (if t965.1 < 0 then some false else ((laws_eqStore.f k t699.1 (⟨x62, x67⟩ : Store)).bind fun t977 => (if ¬ (t977 = true) then some false else ((laws_markStore_2.f k t699.1 1).bind fun t1014 => ((laws_heldStore.f k (⟨t1014.2.1, t1014.2.2⟩ : Store) 1).bind fun t1028 => (if t1028 < 0 then some false else (if t1028 ≠ t1014.1 then some false else ((laws_toStore.f k x1).bind fun t1089 => ((laws_toCell.f k x10).bind fun t1107 => ((laws_toCell.f k x15).bind fun t1121 => ((impl_UnifyStore.f k t1089 t1107 t1121).bind fun t1162 => (laws_FnExactUnifyStore.l1 k x62 x67 x72 t1014 t1162.1.cells t1162.1.trail t1162.2)))))))))))))))))))))))))))))))
def laws_FnExactUnifyStore.f (k : Nat) (x1 : Store) (x10 : Cell) (x15 : Cell) : Option Bool := ((laws_szStore.f k x1 1048576).bind fun t35 => (if t35 < 0 then some true else ((laws_szCell.f x10 t35).bind fun t42 => (if t42 < 0 then some true else ((laws_szCell.f x15 t42).bind fun t49 => (if t49 < 0 then some true else ((laws_toStore.f k x1).bind fun t96 => ((laws_toCell.f k x10).bind fun t114 => ((laws_toCell.f k x15).bind fun t128 => ((spec_UnifyStore.f k t96 t114 t128).bind fun t169 => (laws_FnExactUnifyStore.l0 k x1 x10 x15 t169.1.cells t169.1.trail t169.2)))))))))))
theorem laws_FnExactUnifyStore.calls (k : Nat) (w : World) (H : Hp) (x1 : Store) (A2 : Option Addr) (c3 : Nat) (A6 : Option Addr) (c7 : Nat) (x10 : Cell) (A11 : Option Addr) (c12 : Nat) (x15 : Cell) (A16 : Option Addr) (c17 : Nat) (h4 : Rd st28 H A2 x1.cells) (l5 : x1.cells.length ≤ c3) (h8 : Rd tInt H A6 x1.trail) (l9 : x1.trail.length ≤ c7) (h13 : Rd tByte H A11 x10.text) (l14 : x10.text.length ≤ c12) (h18 : Rd tByte H A16 x15.text) (l19 : x15.text.length ≤ c17) (S : Own [] H w) (r : Bool) (M : laws_FnExactUnifyStore.f k x1 x10 x15 = some r) :
    Calls Try.prog 8 #[.agg #[.slice A2 x1.cells.length c3, .slice A6 x1.trail.length c7], .agg #[.int .i64 x10.kind, .int .i64 x10.n, .slice A11 x10.text.length c12], .agg #[.int .i64 x15.kind, .int .i64 x15.n, .slice A16 x15.text.length c17]] w (fun e e_w => e = .returned (.bool r) ∧ Chg no w e_w) := by
  rw [laws_FnExactUnifyStore.f] at M
  refine enter (l := [.agg #[.slice A2 x1.cells.length c3, .slice A6 x1.trail.length c7], .agg #[.int .i64 x10.kind, .int .i64 x10.n, .slice A11 x10.text.length c12], .agg #[.int .i64 x15.kind, .int .i64 x15.n, .slice A16 x15.text.length c17]]) 142 Try.func8 rfl rfl rfl ?_
  have S0_ := S.st
  refine wp_seq (wR ?_)
  refine lW 3 (nB #[.slice A2 x1.cells.length c3, .slice A6 x1.trail.length c7] 25 S0_) ?_
  rintro _ w20 ⟨g21, rfl, b22, S23, K24⟩
  refine lW 4 (nB #[.int .i64 x10.kind, .int .i64 x10.n, .slice A11 x10.text.length c12] 28 S23) ?_
  rintro _ w25 ⟨g26, rfl, b27, S28, K29⟩
  replace b22 := K29.blk 0 rfl b22
  refine lW 5 (nB #[.int .i64 x15.kind, .int .i64 x15.n, .slice A16 x15.text.length c17] 28 S28) ?_
  rintro _ w30 ⟨g31, rfl, b32, S33, K34⟩
  replace b27 := K34.blk 0 rfl b27
  replace b22 := K34.blk 1 rfl b22
  refine lV 6 (eA (.bool false)) (wN (then_n (wp_seq (wR (lV 7 (eA (.int .i64 1048576)) (wN (then_n ?_)))))))
  refine wp_seq (wR (lV 20 (e_loadS (b := g21) (off := 0) (cs := [.slice A2 x1.cells.length c3, .slice A6 x1.trail.length c7]) Try.underlying25 rfl (by kernel_rfl) (by kernel_rfl) (blk_cells b22 rfl)) (lV 21 (eM (.int .i64 1048576)) ?_)))
  obtain ⟨t35, u36, M⟩ := bnd M
  refine lC 22 (eC [.tmp 20, .tmp 21] [.agg #[.slice A2 x1.cells.length c3, .slice A6 x1.trail.length c7], .int .i64 1048576] Try.func9) (laws_szStore.calls k w30 H x1 A2 c3 A6 c7 1048576 h4 l5 h8 l9 S33.own0 t35 u36) ?_
  rintro _ w37 ⟨rfl, C38⟩
  refine ⟨_, rfl, ?_⟩
  obtain ⟨S39, K40⟩ := S33.still C38
  replace b32 := K40.blk 0 rfl b32
  replace b27 := K40.blk 1 rfl b27
  replace b22 := K40.blk 2 rfl b22
  refine lV 7 (eA (.int .i64 t35)) (wN (then_n (wp_seq (wp_seq (wR (lV 23 (eM (.int .i64 t35)) (lV 24 (eLt .i64 t35 0) ?_)))))))
  refine wN (then_n ?_)
  by_cases q41 : t35 < 0
  · replace M := ifp q41 M
    refine cT (bT q41) (wp_seq (wR (lV 6 (eA (.bool true)) (wN (then_n (wp_ret (then_r ?_)))))))
    obtain rfl := Option.some.inj M
    exact ret1 rfl rfl  (show _ = .bool true from (by kernel_rfl)) ⟨rfl, S39.chg⟩
  replace M := ifn q41 M
  refine cF (bF q41) (wp_skip (then_n (wp_seq (wR (lV 25 (e_loadS (b := g26) (off := 0) (cs := [.int .i64 x10.kind, .int .i64 x10.n, .slice A11 x10.text.length c12]) Try.underlying28 rfl (by kernel_rfl) (by kernel_rfl) (blk_cells b27 rfl)) (lV 26 (eM (.int .i64 t35)) ?_))))))
  obtain ⟨t42, u43, M⟩ := bnd M
  refine lC 27 (eC [.tmp 25, .tmp 26] [.agg #[.int .i64 x10.kind, .int .i64 x10.n, .slice A11 x10.text.length c12], .int .i64 t35] Try.func10) (laws_szCell.calls w37 H x10 A11 c12 t35 h13 l14 S39.own0 t42 u43) ?_
  rintro _ w44 ⟨rfl, C45⟩
  refine ⟨_, rfl, ?_⟩
  obtain ⟨S46, K47⟩ := S39.still C45
  replace b32 := K47.blk 0 rfl b32
  replace b27 := K47.blk 1 rfl b27
  replace b22 := K47.blk 2 rfl b22
  refine lV 7 (eA (.int .i64 t42)) (wN (then_n (wp_seq (wp_seq (wR (lV 28 (eM (.int .i64 t42)) (lV 29 (eLt .i64 t42 0) ?_)))))))
  refine wN (then_n ?_)
  by_cases q48 : t42 < 0
  · replace M := ifp q48 M
    refine cT (bT q48) (wp_seq (wR (lV 6 (eA (.bool true)) (wN (then_n (wp_ret (then_r ?_)))))))
    obtain rfl := Option.some.inj M
    exact ret1 rfl rfl  (show _ = .bool true from (by kernel_rfl)) ⟨rfl, S46.chg⟩
  replace M := ifn q48 M
  refine cF (bF q48) (wp_skip (then_n (wp_seq (wR (lV 30 (e_loadS (b := g31) (off := 0) (cs := [.int .i64 x15.kind, .int .i64 x15.n, .slice A16 x15.text.length c17]) Try.underlying28 rfl (by kernel_rfl) (by kernel_rfl) (blk_cells b32 rfl)) (lV 31 (eM (.int .i64 t42)) ?_))))))
  obtain ⟨t49, u50, M⟩ := bnd M
  refine lC 32 (eC [.tmp 30, .tmp 31] [.agg #[.int .i64 x15.kind, .int .i64 x15.n, .slice A16 x15.text.length c17], .int .i64 t42] Try.func10) (laws_szCell.calls w44 H x15 A16 c17 t42 h18 l19 S46.own0 t49 u50) ?_
  rintro _ w51 ⟨rfl, C52⟩
  refine ⟨_, rfl, ?_⟩
  obtain ⟨S53, K54⟩ := S46.still C52
  replace b32 := K54.blk 0 rfl b32
  replace b27 := K54.blk 1 rfl b27
  replace b22 := K54.blk 2 rfl b22
  refine lV 7 (eA (.int .i64 t49)) (wN (then_n (wp_seq (wp_seq (wR (lV 33 (eM (.int .i64 t49)) (lV 34 (eLt .i64 t49 0) ?_)))))))
  refine wN (then_n ?_)
  by_cases q55 : t49 < 0
  · replace M := ifp q55 M
    refine cT (bT q55) (wp_seq (wR (lV 6 (eA (.bool true)) (wN (then_n (wp_ret (then_r ?_)))))))
    obtain rfl := Option.some.inj M
    exact ret1 rfl rfl  (show _ = .bool true from (by kernel_rfl)) ⟨rfl, S53.chg⟩
  replace M := ifn q55 M
  refine cF (bF q55) (wp_skip (then_n (wp_seq ?_)))
  refine wp_cut (fun a81 w56 => ∃ (f57 : Nat → Value) (H58 : Hp) (g60 : Nat) (x62 : List Cell) (A63 : Option Addr) (c64 : Nat) (F65 : Foot) (x67 : List Int) (A68 : Option Addr) (c69 : Nat) (F70 : Foot) (x72 : Int), a81 = mk 142 f57 ∧ f57 3 = .pointer (some ⟨g21, 0, none⟩) ∧ f57 4 = .pointer (some ⟨g26, 0, none⟩) ∧ f57 5 = .pointer (some ⟨g31, 0, none⟩) ∧ f57 8 = .pointer (some ⟨g60, 0, none⟩) ∧ f57 9 = .int .i64 x72 ∧ w56.heap[g31]? = some (.cells #[.int .i64 x15.kind, .int .i64 x15.n, .slice A16 x15.text.length c17] 28 (0, 0)) ∧ w56.heap[g26]? = some (.cells #[.int .i64 x10.kind, .int .i64 x10.n, .slice A11 x10.text.length c12] 28 (0, 0)) ∧ w56.heap[g21]? = some (.cells #[.slice A2 x1.cells.length c3, .slice A6 x1.trail.length c7] 25 (0, 0)) ∧ Row st36 36 H58 (hp w56) F65 A63 c64 x62 ∧ Row tInt 3 H58 (hp w56) F70 A68 c69 x67 ∧ w56.heap[g60]? = some (.cells #[.slice A63 x62.length c64, .slice A68 x67.length c69] 34 (0, 0)) ∧ Ext H H58 ∧ St (anyOf []) H w [(is g31), (is g26), (is g21), F65, F70, (is g60)] H58 w56 ∧ laws_FnExactUnifyStore.l0 k x1 x10 x15 x62 x67 x72 = some r) ?_ ?_
  · refine region_mix (S := (fun (L_ : Array Bool) (w_ : World) => Ext H (hp w_) ∧ (∀ b_, (is g31) b_ → hp w_ b_ = hp w51 b_) ∧ (∀ b_, (is g26) b_ → hp w_ b_ = hp w51 b_) ∧ (∀ b_, (is g21) b_ → hp w_ b_ = hp w51 b_))) (by kernel_rfl) S53 ?_
    intro w82 S83 K84 hc85
    have o86 := b32
    have o87 := b27
    have o88 := b22
    have hs89 : (fun (L_ : Array Bool) (w_ : World) => Ext H (hp w_) ∧ (∀ b_, (is g31) b_ → hp w_ b_ = hp w51 b_) ∧ (∀ b_, (is g26) b_ → hp w_ b_ = hp w51 b_) ∧ (∀ b_, (is g21) b_ → hp w_ b_ = hp w51 b_)) (Array.replicate 13 false) w82 := ⟨S83.inv, (fun b_ h_ => K84.at 0 rfl b_ h_), (fun b_ h_ => K84.at 1 rfl b_ h_), (fun b_ h_ => K84.at 2 rfl b_ h_)⟩
    replace b32 := K84.blk 0 rfl b32
    replace b27 := K84.blk 1 rfl b27
    replace b22 := K84.blk 2 rfl b22
    refine xV 0 36 rfl hc85 hs89 (fun L_ w_ hc_ hu_ hs_ => e_loadS (b := g21) (off := 0) (cs := [.slice A2 x1.cells.length c3, .slice A6 x1.trail.length c7]) Try.underlying25 rfl (by kernel_rfl) (by kernel_rfl) (blk_cells ((hs_.2.2.2 _ rfl).trans o88) rfl)) ?_; intro hc90 hs91
    refine xV 2 38 rfl hc90 hs91 (fun L_ w_ hc_ hu_ hs_ => e_loadS (b := g26) (off := 0) (cs := [.int .i64 x10.kind, .int .i64 x10.n, .slice A11 x10.text.length c12]) Try.underlying28 rfl (by kernel_rfl) (by kernel_rfl) (blk_cells ((hs_.2.2.1 _ rfl).trans o87) rfl)) ?_; intro hc92 hs93
    refine xV 4 40 rfl hc92 hs93 (fun L_ w_ hc_ hu_ hs_ => e_loadS (b := g31) (off := 0) (cs := [.int .i64 x15.kind, .int .i64 x15.n, .slice A16 x15.text.length c17]) Try.underlying28 rfl (by kernel_rfl) (by kernel_rfl) (blk_cells ((hs_.2.1 _ rfl).trans o86) rfl)) ?_; intro hc94 hs95
    refine xall [1, 10] (by kernel_rfl) (by decide) hc94 (List.forall_mem_cons.2 ⟨?_, List.forall_mem_cons.2 ⟨?_, fun _ h_ => by cases h_⟩⟩)
    · obtain ⟨t96, u97, M⟩ := bnd M
      refine yC 1 rfl (eC [.tmp 36] [.agg #[.slice A2 x1.cells.length c3, .slice A6 x1.trail.length c7]] Try.func12) (laws_toStore.calls k w82 H x1 A2 c3 A6 c7 h4 l5 h8 l9 (St.own' (Fa := []) (Fr := [(is g31), (is g26), (is g21)]) S83) t96 u97) ?_
      rintro hc109 _ w98 ⟨A101, c102, F104, A105, c106, F108, H99, rfl, h103, h107, T100⟩
      refine ⟨_, rfl, ?_⟩
      obtain ⟨S110, K111⟩ := St.call (Fa := []) (Fr := [(is g31), (is g26), (is g21)]) S83 T100
      replace b32 := K111.blk 0 rfl b32
      replace b27 := K111.blk 1 rfl b27
      replace b22 := K111.blk 2 rfl b22
      have E112 := T100.ext
      refine ⟨⟨(Ext.trans E112 S110.inv), (fun b_ h_ => (K111.at 0 rfl b_ h_).trans (hs95.2.1 b_ h_)), (fun b_ h_ => (K111.at 1 rfl b_ h_).trans (hs95.2.2.1 b_ h_)), (fun b_ h_ => (K111.at 2 rfl b_ h_).trans (hs95.2.2.2 b_ h_))⟩, fun hs113 => ?_⟩
      refine xall [3, 10] (by kernel_rfl) (by decide) hc109 (List.forall_mem_cons.2 ⟨?_, List.forall_mem_cons.2 ⟨?_, fun _ h_ => by cases h_⟩⟩)
      · obtain ⟨t114, u115, M⟩ := bnd M
        refine yC 3 rfl (eC [.tmp 38] [.agg #[.int .i64 x10.kind, .int .i64 x10.n, .slice A11 x10.text.length c12]] Try.func13) (laws_toCell.calls k w98 H99 x10 A11 c12 (h13.ext E112) l14 (St.own' (Fa := []) (Fr := [F104, F108, (is g31), (is g26), (is g21)]) S110) t114 u115) ?_
        rintro hc123 _ w116 ⟨A119, c120, F122, H117, rfl, h121, T118⟩
        refine ⟨_, rfl, ?_⟩
        obtain ⟨S124, K125⟩ := St.call (Fa := []) (Fr := [F104, F108, (is g31), (is g26), (is g21)]) S110 T118
        replace h103 := h103.move (K125.at 0 rfl)
        replace h107 := h107.move (K125.at 1 rfl)
        replace b32 := K125.blk 2 rfl b32
        replace b27 := K125.blk 3 rfl b27
        replace b22 := K125.blk 4 rfl b22
        have E126 := T118.ext
        replace h103 := h103.ext E126
        replace h107 := h107.ext E126
        refine ⟨⟨(Ext.trans (E112.trans E126) S124.inv), (fun b_ h_ => (K125.at 2 rfl b_ h_).trans (hs113.2.1 b_ h_)), (fun b_ h_ => (K125.at 3 rfl b_ h_).trans (hs113.2.2.1 b_ h_)), (fun b_ h_ => (K125.at 4 rfl b_ h_).trans (hs113.2.2.2 b_ h_))⟩, fun hs127 => ?_⟩
        refine xall [5, 10] (by kernel_rfl) (by decide) hc123 (List.forall_mem_cons.2 ⟨?_, List.forall_mem_cons.2 ⟨?_, fun _ h_ => by cases h_⟩⟩)
        · obtain ⟨t128, u129, M⟩ := bnd M
          refine yC 5 rfl (eC [.tmp 40] [.agg #[.int .i64 x15.kind, .int .i64 x15.n, .slice A16 x15.text.length c17]] Try.func13) (laws_toCell.calls k w116 H117 x15 A16 c17 (h18.ext (E112.trans E126)) l19 (St.own' (Fa := []) (Fr := [F122, F104, F108, (is g31), (is g26), (is g21)]) S124) t128 u129) ?_
          rintro hc137 _ w130 ⟨A133, c134, F136, H131, rfl, h135, T132⟩
          refine ⟨_, rfl, ?_⟩
          obtain ⟨S138, K139⟩ := St.call (Fa := []) (Fr := [F122, F104, F108, (is g31), (is g26), (is g21)]) S124 T132
          replace h121 := h121.move (K139.at 0 rfl)
          replace h103 := h103.move (K139.at 1 rfl)
          replace h107 := h107.move (K139.at 2 rfl)
          replace b32 := K139.blk 3 rfl b32
          replace b27 := K139.blk 4 rfl b27
          replace b22 := K139.blk 5 rfl b22
          have E140 := T132.ext
          replace h121 := h121.ext E140
          replace h103 := h103.ext E140
          replace h107 := h107.ext E140
          refine ⟨⟨(Ext.trans ((E112.trans E126).trans E140) S138.inv), (fun b_ h_ => (K139.at 3 rfl b_ h_).trans (hs127.2.1 b_ h_)), (fun b_ h_ => (K139.at 4 rfl b_ h_).trans (hs127.2.2.1 b_ h_)), (fun b_ h_ => (K139.at 5 rfl b_ h_).trans (hs127.2.2.2 b_ h_))⟩, fun hs141 => ?_⟩
          refine xall [6, 10] (by kernel_rfl) (by decide) hc137 (List.forall_mem_cons.2 ⟨?_, List.forall_mem_cons.2 ⟨?_, fun _ h_ => by cases h_⟩⟩)
          · have l142 := h103.le
            have S143 := S138.pulls [F104, F136, F122, F108, (is g31), (is g26), (is g21)] [2] rfl
            obtain ⟨H144, S145, E146, h147, z148⟩ := S143.frzRow h103
            replace h135 := h135.ext E146
            replace h121 := h121.ext E146
            replace h107 := h107.ext E146
            have l149 := h107.le
            have S150 := S145.pulls [F108, F136, F122, (is g31), (is g26), (is g21)] [2] rfl
            obtain ⟨H151, S152, E153, h154, z155⟩ := S150.frzRow h107
            replace h135 := h135.ext E153
            replace h121 := h121.ext E153
            have l156 := h121.le
            have S157 := S152.pulls [F122, F136, (is g31), (is g26), (is g21)] [1] rfl
            obtain ⟨H158, S159, E160, h161, z162⟩ := S157.frzRow h121
            replace h135 := h135.ext E160
            have l163 := h135.le
            obtain ⟨H164, S165, E166, h167, z168⟩ := S159.frzRow h135
            obtain ⟨t169, u170, M⟩ := bnd M
            refine yC 6 rfl (eC [.tmp 37, .tmp 39, .tmp 41] [.agg #[.slice A101 t96.cells.length c102, .slice A105 t96.trail.length c106], .agg #[.int .i64 t114.kind, .int .i64 t114.n, .slice A119 t114.text.length c120], .agg #[.int .i64 t128.kind, .int .i64 t128.n, .slice A133 t128.text.length c134]] Try.func32) (spec_UnifyStore.calls k w130 H164 t96 A101 c102 A105 c106 t114 A119 c120 t128 A133 c134 (h147.ext ((E153.trans E160).trans E166)) l142 (h154.ext (E160.trans E166)) l149 (h161.ext E166) l156 h167 l163 (St.own' (Fa := []) (Fr := [(is g31), (is g26), (is g21)]) S165) t169 u170) ?_
            rintro hc182 _ w171 ⟨A174, c175, F177, A178, c179, F181, H172, rfl, h176, h180, T173⟩
            refine ⟨_, rfl, ?_⟩
            obtain ⟨S183, K184⟩ := St.call (Fa := []) (Fr := [(is g31), (is g26), (is g21)]) S165 T173
            replace b32 := K184.blk 0 rfl b32
            replace b27 := K184.blk 1 rfl b27
            replace b22 := K184.blk 2 rfl b22
            have E185 := T173.ext
            refine ⟨⟨(Ext.trans (((((((E112.trans E126).trans E140).trans E146).trans E153).trans E160).trans E166).trans E185) S183.inv), (fun b_ h_ => (K184.at 0 rfl b_ h_).trans (hs141.2.1 b_ h_)), (fun b_ h_ => (K184.at 1 rfl b_ h_).trans (hs141.2.2.1 b_ h_)), (fun b_ h_ => (K184.at 2 rfl b_ h_).trans (hs141.2.2.2 b_ h_))⟩, fun hs186 => ?_⟩
            refine xV 7 35 rfl hc182 hs186 (fun L_ w_ hc_ hu_ hs_ => eM (.tuple #[.agg #[.slice A174 t169.1.cells.length c175, .slice A178 t169.1.trail.length c179], .int .i64 t169.2])) ?_; intro hc187 hs188
            refine xV 8 43 rfl hc187 hs188 (fun L_ w_ hc_ hu_ hs_ => e_extract (vs := #[.agg #[.slice A174 t169.1.cells.length c175, .slice A178 t169.1.trail.length c179], .int .i64 t169.2]) (v := .agg #[.slice A174 t169.1.cells.length c175, .slice A178 t169.1.trail.length c179]) (by kernel_rfl) rfl) ?_; intro hc189 hs190
            refine xV 9 44 rfl hc189 hs190 (fun L_ w_ hc_ hu_ hs_ => e_extract (vs := #[.agg #[.slice A174 t169.1.cells.length c175, .slice A178 t169.1.trail.length c179], .int .i64 t169.2]) (v := .int .i64 t169.2) (by kernel_rfl) rfl) ?_; intro hc191 hs192
            refine xO 10 hc191 ?_
            refine yE 10 8 rfl (nB #[.slice none 0 0, .slice none 0 0] 34 S183) ?_
            rintro hc198 _ w193 ⟨g194, rfl, b195, S196, K197⟩
            replace h176 := h176.move (K197.at 0 rfl)
            replace h180 := h180.move (K197.at 1 rfl)
            replace b32 := K197.blk 2 rfl b32
            replace b27 := K197.blk 3 rfl b27
            replace b22 := K197.blk 4 rfl b22
            refine ⟨⟨(Ext.trans (((((((E112.trans E126).trans E140).trans E146).trans E153).trans E160).trans E166).trans E185) S196.inv), (fun b_ h_ => (K197.at 2 rfl b_ h_).trans (hs192.2.1 b_ h_)), (fun b_ h_ => (K197.at 3 rfl b_ h_).trans (hs192.2.2.1 b_ h_)), (fun b_ h_ => (K197.at 4 rfl b_ h_).trans (hs192.2.2.2 b_ h_))⟩, fun hs199 => ?_⟩
            refine xO 11 hc198 ?_
            refine yS 11 rfl (eSa g194 0 [.slice A174 t169.1.cells.length c175, .slice A178 t169.1.trail.length c179] S196 b195) ?_
            rintro hc204 w200 ⟨b201, S202, K203⟩
            replace h176 := h176.move (K203.at 0 rfl)
            replace h180 := h180.move (K203.at 1 rfl)
            replace b32 := K203.blk 2 rfl b32
            replace b27 := K203.blk 3 rfl b27
            replace b22 := K203.blk 4 rfl b22
            refine ⟨⟨(Ext.trans (((((((E112.trans E126).trans E140).trans E146).trans E153).trans E160).trans E166).trans E185) S202.inv), (fun b_ h_ => (K203.at 2 rfl b_ h_).trans (hs199.2.1 b_ h_)), (fun b_ h_ => (K203.at 3 rfl b_ h_).trans (hs199.2.2.1 b_ h_)), (fun b_ h_ => (K203.at 4 rfl b_ h_).trans (hs199.2.2.2 b_ h_))⟩, fun hs205 => ?_⟩
            clear b195
            refine xO 12 hc204 ?_
            refine yO 12 9 rfl hs205 (eA (.int .i64 t169.2)) ?_; intro hc206 hs207
            refine xn (by kernel_rfl) ?_ _
            have S212 := S202.pulls [(is g31), (is g26), (is g21), F177, F181, (is g194)] [2, 2, 5, 5, 5] rfl
            exact ⟨rfl, _, H172, g194, t169.1.cells, A174, c175, F177, t169.1.trail, A178, c179, F181, t169.2, rfl, (by kernel_rfl), (by kernel_rfl), (by kernel_rfl), (by kernel_rfl), (by kernel_rfl), b32, b27, b22, h176, h180, b201, (((((((E112.trans E126).trans E140).trans E146).trans E153).trans E160).trans E166).trans E185), S212, M⟩
          refine yE 10 8 rfl (nB #[.slice none 0 0, .slice none 0 0] 34 S138) ?_
          rintro hc218 _ w213 ⟨g214, rfl, b215, S216, K217⟩
          replace h135 := h135.move (K217.at 0 rfl)
          replace h121 := h121.move (K217.at 1 rfl)
          replace h103 := h103.move (K217.at 2 rfl)
          replace h107 := h107.move (K217.at 3 rfl)
          replace b32 := K217.blk 4 rfl b32
          replace b27 := K217.blk 5 rfl b27
          replace b22 := K217.blk 6 rfl b22
          refine ⟨⟨(Ext.trans ((E112.trans E126).trans E140) S216.inv), (fun b_ h_ => (K217.at 4 rfl b_ h_).trans (hs141.2.1 b_ h_)), (fun b_ h_ => (K217.at 5 rfl b_ h_).trans (hs141.2.2.1 b_ h_)), (fun b_ h_ => (K217.at 6 rfl b_ h_).trans (hs141.2.2.2 b_ h_))⟩, fun hs219 => ?_⟩
          have l220 := h103.le
          have S221 := S216.pulls [F104, (is g214), F136, F122, F108, (is g31), (is g26), (is g21)] [3] rfl
          obtain ⟨H222, S223, E224, h225, z226⟩ := S221.frzRow h103
          replace h135 := h135.ext E224
          replace h121 := h121.ext E224
          replace h107 := h107.ext E224
          have l227 := h107.le
          have S228 := S223.pulls [F108, (is g214), F136, F122, (is g31), (is g26), (is g21)] [3] rfl
          obtain ⟨H229, S230, E231, h232, z233⟩ := S228.frzRow h107
          replace h135 := h135.ext E231
          replace h121 := h121.ext E231
          have l234 := h121.le
          have S235 := S230.pulls [F122, (is g214), F136, (is g31), (is g26), (is g21)] [2] rfl
          obtain ⟨H236, S237, E238, h239, z240⟩ := S235.frzRow h121
          replace h135 := h135.ext E238
          have l241 := h135.le
          have S242 := S237.pulls [F136, (is g214), (is g31), (is g26), (is g21)] [1] rfl
          obtain ⟨H243, S244, E245, h246, z247⟩ := S242.frzRow h135
          obtain ⟨t248, u249, M⟩ := bnd M
          refine xO 6 hc218 ?_
          refine yC 6 rfl (eC [.tmp 37, .tmp 39, .tmp 41] [.agg #[.slice A101 t96.cells.length c102, .slice A105 t96.trail.length c106], .agg #[.int .i64 t114.kind, .int .i64 t114.n, .slice A119 t114.text.length c120], .agg #[.int .i64 t128.kind, .int .i64 t128.n, .slice A133 t128.text.length c134]] Try.func32) (spec_UnifyStore.calls k w213 H243 t96 A101 c102 A105 c106 t114 A119 c120 t128 A133 c134 (h225.ext ((E231.trans E238).trans E245)) l220 (h232.ext (E238.trans E245)) l227 (h239.ext E245) l234 h246 l241 (St.own' (Fa := []) (Fr := [(is g214), (is g31), (is g26), (is g21)]) S244) t248 u249) ?_
          rintro hc261 _ w250 ⟨A253, c254, F256, A257, c258, F260, H251, rfl, h255, h259, T252⟩
          refine ⟨_, rfl, ?_⟩
          obtain ⟨S262, K263⟩ := St.call (Fa := []) (Fr := [(is g214), (is g31), (is g26), (is g21)]) S244 T252
          replace b215 := K263.blk 0 rfl b215
          replace b32 := K263.blk 1 rfl b32
          replace b27 := K263.blk 2 rfl b27
          replace b22 := K263.blk 3 rfl b22
          have E264 := T252.ext
          refine ⟨⟨(Ext.trans (((((((E112.trans E126).trans E140).trans E224).trans E231).trans E238).trans E245).trans E264) S262.inv), (fun b_ h_ => (K263.at 1 rfl b_ h_).trans (hs219.2.1 b_ h_)), (fun b_ h_ => (K263.at 2 rfl b_ h_).trans (hs219.2.2.1 b_ h_)), (fun b_ h_ => (K263.at 3 rfl b_ h_).trans (hs219.2.2.2 b_ h_))⟩, fun hs265 => ?_⟩
          refine xO 7 hc261 ?_
          refine yO 7 35 rfl hs265 (eM (.tuple #[.agg #[.slice A253 t248.1.cells.length c254, .slice A257 t248.1.trail.length c258], .int .i64 t248.2])) ?_; intro hc266 hs267
          refine xV 8 43 rfl hc266 hs267 (fun L_ w_ hc_ hu_ hs_ => e_extract (vs := #[.agg #[.slice A253 t248.1.cells.length c254, .slice A257 t248.1.trail.length c258], .int .i64 t248.2]) (v := .agg #[.slice A253 t248.1.cells.length c254, .slice A257 t248.1.trail.length c258]) (by kernel_rfl) rfl) ?_; intro hc268 hs269
          refine xV 9 44 rfl hc268 hs269 (fun L_ w_ hc_ hu_ hs_ => e_extract (vs := #[.agg #[.slice A253 t248.1.cells.length c254, .slice A257 t248.1.trail.length c258], .int .i64 t248.2]) (v := .int .i64 t248.2) (by kernel_rfl) rfl) ?_; intro hc270 hs271
          have S272 := S262.pulls [(is g214), F256, F260, (is g31), (is g26), (is g21)] [2] rfl
          refine xO 11 hc270 ?_
          refine yS 11 rfl (eSa g214 0 [.slice A253 t248.1.cells.length c254, .slice A257 t248.1.trail.length c258] S272 b215) ?_
          rintro hc277 w273 ⟨b274, S275, K276⟩
          replace h255 := h255.move (K276.at 0 rfl)
          replace h259 := h259.move (K276.at 1 rfl)
          replace b32 := K276.blk 2 rfl b32
          replace b27 := K276.blk 3 rfl b27
          replace b22 := K276.blk 4 rfl b22
          refine ⟨⟨(Ext.trans (((((((E112.trans E126).trans E140).trans E224).trans E231).trans E238).trans E245).trans E264) S275.inv), (fun b_ h_ => (K276.at 2 rfl b_ h_).trans (hs271.2.1 b_ h_)), (fun b_ h_ => (K276.at 3 rfl b_ h_).trans (hs271.2.2.1 b_ h_)), (fun b_ h_ => (K276.at 4 rfl b_ h_).trans (hs271.2.2.2 b_ h_))⟩, fun hs278 => ?_⟩
          clear b215
          refine xO 12 hc277 ?_
          refine yO 12 9 rfl hs278 (eA (.int .i64 t248.2)) ?_; intro hc279 hs280
          refine xn (by kernel_rfl) ?_ _
          have S285 := S275.pulls [(is g31), (is g26), (is g21), F256, F260, (is g214)] [2, 2, 5, 5, 5] rfl
          exact ⟨rfl, _, H251, g214, t248.1.cells, A253, c254, F256, t248.1.trail, A257, c258, F260, t248.2, rfl, (by kernel_rfl), (by kernel_rfl), (by kernel_rfl), (by kernel_rfl), (by kernel_rfl), b32, b27, b22, h255, h259, b274, (((((((E112.trans E126).trans E140).trans E224).trans E231).trans E238).trans E245).trans E264), S285, M⟩
        refine yE 10 8 rfl (nB #[.slice none 0 0, .slice none 0 0] 34 S124) ?_
        rintro hc291 _ w286 ⟨g287, rfl, b288, S289, K290⟩
        replace h121 := h121.move (K290.at 0 rfl)
        replace h103 := h103.move (K290.at 1 rfl)
        replace h107 := h107.move (K290.at 2 rfl)
        replace b32 := K290.blk 3 rfl b32
        replace b27 := K290.blk 4 rfl b27
        replace b22 := K290.blk 5 rfl b22
        refine ⟨⟨(Ext.trans (E112.trans E126) S289.inv), (fun b_ h_ => (K290.at 3 rfl b_ h_).trans (hs127.2.1 b_ h_)), (fun b_ h_ => (K290.at 4 rfl b_ h_).trans (hs127.2.2.1 b_ h_)), (fun b_ h_ => (K290.at 5 rfl b_ h_).trans (hs127.2.2.2 b_ h_))⟩, fun hs292 => ?_⟩
        obtain ⟨t293, u294, M⟩ := bnd M
        refine xO 5 hc291 ?_
        refine yC 5 rfl (eC [.tmp 40] [.agg #[.int .i64 x15.kind, .int .i64 x15.n, .slice A16 x15.text.length c17]] Try.func13) (laws_toCell.calls k w286 H117 x15 A16 c17 (h18.ext (E112.trans E126)) l19 (St.own' (Fa := []) (Fr := [(is g287), F122, F104, F108, (is g31), (is g26), (is g21)]) S289) t293 u294) ?_
        rintro hc302 _ w295 ⟨A298, c299, F301, H296, rfl, h300, T297⟩
        refine ⟨_, rfl, ?_⟩
        obtain ⟨S303, K304⟩ := St.call (Fa := []) (Fr := [(is g287), F122, F104, F108, (is g31), (is g26), (is g21)]) S289 T297
        replace b288 := K304.blk 0 rfl b288
        replace h121 := h121.move (K304.at 1 rfl)
        replace h103 := h103.move (K304.at 2 rfl)
        replace h107 := h107.move (K304.at 3 rfl)
        replace b32 := K304.blk 4 rfl b32
        replace b27 := K304.blk 5 rfl b27
        replace b22 := K304.blk 6 rfl b22
        have E305 := T297.ext
        replace h121 := h121.ext E305
        replace h103 := h103.ext E305
        replace h107 := h107.ext E305
        refine ⟨⟨(Ext.trans ((E112.trans E126).trans E305) S303.inv), (fun b_ h_ => (K304.at 4 rfl b_ h_).trans (hs292.2.1 b_ h_)), (fun b_ h_ => (K304.at 5 rfl b_ h_).trans (hs292.2.2.1 b_ h_)), (fun b_ h_ => (K304.at 6 rfl b_ h_).trans (hs292.2.2.2 b_ h_))⟩, fun hs306 => ?_⟩
        have l307 := h103.le
        have S308 := S303.pulls [F104, F301, (is g287), F122, F108, (is g31), (is g26), (is g21)] [3] rfl
        obtain ⟨H309, S310, E311, h312, z313⟩ := S308.frzRow h103
        replace h300 := h300.ext E311
        replace h121 := h121.ext E311
        replace h107 := h107.ext E311
        have l314 := h107.le
        have S315 := S310.pulls [F108, F301, (is g287), F122, (is g31), (is g26), (is g21)] [3] rfl
        obtain ⟨H316, S317, E318, h319, z320⟩ := S315.frzRow h107
        replace h300 := h300.ext E318
        replace h121 := h121.ext E318
        have l321 := h121.le
        have S322 := S317.pulls [F122, F301, (is g287), (is g31), (is g26), (is g21)] [2] rfl
        obtain ⟨H323, S324, E325, h326, z327⟩ := S322.frzRow h121
        replace h300 := h300.ext E325
        have l328 := h300.le
        obtain ⟨H329, S330, E331, h332, z333⟩ := S324.frzRow h300
        obtain ⟨t334, u335, M⟩ := bnd M
        refine xO 6 hc302 ?_
        refine yC 6 rfl (eC [.tmp 37, .tmp 39, .tmp 41] [.agg #[.slice A101 t96.cells.length c102, .slice A105 t96.trail.length c106], .agg #[.int .i64 t114.kind, .int .i64 t114.n, .slice A119 t114.text.length c120], .agg #[.int .i64 t293.kind, .int .i64 t293.n, .slice A298 t293.text.length c299]] Try.func32) (spec_UnifyStore.calls k w295 H329 t96 A101 c102 A105 c106 t114 A119 c120 t293 A298 c299 (h312.ext ((E318.trans E325).trans E331)) l307 (h319.ext (E325.trans E331)) l314 (h326.ext E331) l321 h332 l328 (St.own' (Fa := []) (Fr := [(is g287), (is g31), (is g26), (is g21)]) S330) t334 u335) ?_
        rintro hc347 _ w336 ⟨A339, c340, F342, A343, c344, F346, H337, rfl, h341, h345, T338⟩
        refine ⟨_, rfl, ?_⟩
        obtain ⟨S348, K349⟩ := St.call (Fa := []) (Fr := [(is g287), (is g31), (is g26), (is g21)]) S330 T338
        replace b288 := K349.blk 0 rfl b288
        replace b32 := K349.blk 1 rfl b32
        replace b27 := K349.blk 2 rfl b27
        replace b22 := K349.blk 3 rfl b22
        have E350 := T338.ext
        refine ⟨⟨(Ext.trans (((((((E112.trans E126).trans E305).trans E311).trans E318).trans E325).trans E331).trans E350) S348.inv), (fun b_ h_ => (K349.at 1 rfl b_ h_).trans (hs306.2.1 b_ h_)), (fun b_ h_ => (K349.at 2 rfl b_ h_).trans (hs306.2.2.1 b_ h_)), (fun b_ h_ => (K349.at 3 rfl b_ h_).trans (hs306.2.2.2 b_ h_))⟩, fun hs351 => ?_⟩
        refine xO 7 hc347 ?_
        refine yO 7 35 rfl hs351 (eM (.tuple #[.agg #[.slice A339 t334.1.cells.length c340, .slice A343 t334.1.trail.length c344], .int .i64 t334.2])) ?_; intro hc352 hs353
        refine xV 8 43 rfl hc352 hs353 (fun L_ w_ hc_ hu_ hs_ => e_extract (vs := #[.agg #[.slice A339 t334.1.cells.length c340, .slice A343 t334.1.trail.length c344], .int .i64 t334.2]) (v := .agg #[.slice A339 t334.1.cells.length c340, .slice A343 t334.1.trail.length c344]) (by kernel_rfl) rfl) ?_; intro hc354 hs355
        refine xV 9 44 rfl hc354 hs355 (fun L_ w_ hc_ hu_ hs_ => e_extract (vs := #[.agg #[.slice A339 t334.1.cells.length c340, .slice A343 t334.1.trail.length c344], .int .i64 t334.2]) (v := .int .i64 t334.2) (by kernel_rfl) rfl) ?_; intro hc356 hs357
        have S358 := S348.pulls [(is g287), F342, F346, (is g31), (is g26), (is g21)] [2] rfl
        refine xO 11 hc356 ?_
        refine yS 11 rfl (eSa g287 0 [.slice A339 t334.1.cells.length c340, .slice A343 t334.1.trail.length c344] S358 b288) ?_
        rintro hc363 w359 ⟨b360, S361, K362⟩
        replace h341 := h341.move (K362.at 0 rfl)
        replace h345 := h345.move (K362.at 1 rfl)
        replace b32 := K362.blk 2 rfl b32
        replace b27 := K362.blk 3 rfl b27
        replace b22 := K362.blk 4 rfl b22
        refine ⟨⟨(Ext.trans (((((((E112.trans E126).trans E305).trans E311).trans E318).trans E325).trans E331).trans E350) S361.inv), (fun b_ h_ => (K362.at 2 rfl b_ h_).trans (hs357.2.1 b_ h_)), (fun b_ h_ => (K362.at 3 rfl b_ h_).trans (hs357.2.2.1 b_ h_)), (fun b_ h_ => (K362.at 4 rfl b_ h_).trans (hs357.2.2.2 b_ h_))⟩, fun hs364 => ?_⟩
        clear b288
        refine xO 12 hc363 ?_
        refine yO 12 9 rfl hs364 (eA (.int .i64 t334.2)) ?_; intro hc365 hs366
        refine xn (by kernel_rfl) ?_ _
        have S371 := S361.pulls [(is g31), (is g26), (is g21), F342, F346, (is g287)] [2, 2, 5, 5, 5] rfl
        exact ⟨rfl, _, H337, g287, t334.1.cells, A339, c340, F342, t334.1.trail, A343, c344, F346, t334.2, rfl, (by kernel_rfl), (by kernel_rfl), (by kernel_rfl), (by kernel_rfl), (by kernel_rfl), b32, b27, b22, h341, h345, b360, (((((((E112.trans E126).trans E305).trans E311).trans E318).trans E325).trans E331).trans E350), S371, M⟩
      refine yE 10 8 rfl (nB #[.slice none 0 0, .slice none 0 0] 34 S110) ?_
      rintro hc377 _ w372 ⟨g373, rfl, b374, S375, K376⟩
      replace h103 := h103.move (K376.at 0 rfl)
      replace h107 := h107.move (K376.at 1 rfl)
      replace b32 := K376.blk 2 rfl b32
      replace b27 := K376.blk 3 rfl b27
      replace b22 := K376.blk 4 rfl b22
      refine ⟨⟨(Ext.trans E112 S375.inv), (fun b_ h_ => (K376.at 2 rfl b_ h_).trans (hs113.2.1 b_ h_)), (fun b_ h_ => (K376.at 3 rfl b_ h_).trans (hs113.2.2.1 b_ h_)), (fun b_ h_ => (K376.at 4 rfl b_ h_).trans (hs113.2.2.2 b_ h_))⟩, fun hs378 => ?_⟩
      obtain ⟨t379, u380, M⟩ := bnd M
      refine xO 3 hc377 ?_
      refine yC 3 rfl (eC [.tmp 38] [.agg #[.int .i64 x10.kind, .int .i64 x10.n, .slice A11 x10.text.length c12]] Try.func13) (laws_toCell.calls k w372 H99 x10 A11 c12 (h13.ext E112) l14 (St.own' (Fa := []) (Fr := [(is g373), F104, F108, (is g31), (is g26), (is g21)]) S375) t379 u380) ?_
      rintro hc388 _ w381 ⟨A384, c385, F387, H382, rfl, h386, T383⟩
      refine ⟨_, rfl, ?_⟩
      obtain ⟨S389, K390⟩ := St.call (Fa := []) (Fr := [(is g373), F104, F108, (is g31), (is g26), (is g21)]) S375 T383
      replace b374 := K390.blk 0 rfl b374
      replace h103 := h103.move (K390.at 1 rfl)
      replace h107 := h107.move (K390.at 2 rfl)
      replace b32 := K390.blk 3 rfl b32
      replace b27 := K390.blk 4 rfl b27
      replace b22 := K390.blk 5 rfl b22
      have E391 := T383.ext
      replace h103 := h103.ext E391
      replace h107 := h107.ext E391
      refine ⟨⟨(Ext.trans (E112.trans E391) S389.inv), (fun b_ h_ => (K390.at 3 rfl b_ h_).trans (hs378.2.1 b_ h_)), (fun b_ h_ => (K390.at 4 rfl b_ h_).trans (hs378.2.2.1 b_ h_)), (fun b_ h_ => (K390.at 5 rfl b_ h_).trans (hs378.2.2.2 b_ h_))⟩, fun hs392 => ?_⟩
      obtain ⟨t393, u394, M⟩ := bnd M
      refine xO 5 hc388 ?_
      refine yC 5 rfl (eC [.tmp 40] [.agg #[.int .i64 x15.kind, .int .i64 x15.n, .slice A16 x15.text.length c17]] Try.func13) (laws_toCell.calls k w381 H382 x15 A16 c17 (h18.ext (E112.trans E391)) l19 (St.own' (Fa := []) (Fr := [F387, (is g373), F104, F108, (is g31), (is g26), (is g21)]) S389) t393 u394) ?_
      rintro hc402 _ w395 ⟨A398, c399, F401, H396, rfl, h400, T397⟩
      refine ⟨_, rfl, ?_⟩
      obtain ⟨S403, K404⟩ := St.call (Fa := []) (Fr := [F387, (is g373), F104, F108, (is g31), (is g26), (is g21)]) S389 T397
      replace h386 := h386.move (K404.at 0 rfl)
      replace b374 := K404.blk 1 rfl b374
      replace h103 := h103.move (K404.at 2 rfl)
      replace h107 := h107.move (K404.at 3 rfl)
      replace b32 := K404.blk 4 rfl b32
      replace b27 := K404.blk 5 rfl b27
      replace b22 := K404.blk 6 rfl b22
      have E405 := T397.ext
      replace h386 := h386.ext E405
      replace h103 := h103.ext E405
      replace h107 := h107.ext E405
      refine ⟨⟨(Ext.trans ((E112.trans E391).trans E405) S403.inv), (fun b_ h_ => (K404.at 4 rfl b_ h_).trans (hs392.2.1 b_ h_)), (fun b_ h_ => (K404.at 5 rfl b_ h_).trans (hs392.2.2.1 b_ h_)), (fun b_ h_ => (K404.at 6 rfl b_ h_).trans (hs392.2.2.2 b_ h_))⟩, fun hs406 => ?_⟩
      have l407 := h103.le
      have S408 := S403.pulls [F104, F401, F387, (is g373), F108, (is g31), (is g26), (is g21)] [3] rfl
      obtain ⟨H409, S410, E411, h412, z413⟩ := S408.frzRow h103
      replace h400 := h400.ext E411
      replace h386 := h386.ext E411
      replace h107 := h107.ext E411
      have l414 := h107.le
      have S415 := S410.pulls [F108, F401, F387, (is g373), (is g31), (is g26), (is g21)] [3] rfl
      obtain ⟨H416, S417, E418, h419, z420⟩ := S415.frzRow h107
      replace h400 := h400.ext E418
      replace h386 := h386.ext E418
      have l421 := h386.le
      have S422 := S417.pulls [F387, F401, (is g373), (is g31), (is g26), (is g21)] [1] rfl
      obtain ⟨H423, S424, E425, h426, z427⟩ := S422.frzRow h386
      replace h400 := h400.ext E425
      have l428 := h400.le
      obtain ⟨H429, S430, E431, h432, z433⟩ := S424.frzRow h400
      obtain ⟨t434, u435, M⟩ := bnd M
      refine xO 6 hc402 ?_
      refine yC 6 rfl (eC [.tmp 37, .tmp 39, .tmp 41] [.agg #[.slice A101 t96.cells.length c102, .slice A105 t96.trail.length c106], .agg #[.int .i64 t379.kind, .int .i64 t379.n, .slice A384 t379.text.length c385], .agg #[.int .i64 t393.kind, .int .i64 t393.n, .slice A398 t393.text.length c399]] Try.func32) (spec_UnifyStore.calls k w395 H429 t96 A101 c102 A105 c106 t379 A384 c385 t393 A398 c399 (h412.ext ((E418.trans E425).trans E431)) l407 (h419.ext (E425.trans E431)) l414 (h426.ext E431) l421 h432 l428 (St.own' (Fa := []) (Fr := [(is g373), (is g31), (is g26), (is g21)]) S430) t434 u435) ?_
      rintro hc447 _ w436 ⟨A439, c440, F442, A443, c444, F446, H437, rfl, h441, h445, T438⟩
      refine ⟨_, rfl, ?_⟩
      obtain ⟨S448, K449⟩ := St.call (Fa := []) (Fr := [(is g373), (is g31), (is g26), (is g21)]) S430 T438
      replace b374 := K449.blk 0 rfl b374
      replace b32 := K449.blk 1 rfl b32
      replace b27 := K449.blk 2 rfl b27
      replace b22 := K449.blk 3 rfl b22
      have E450 := T438.ext
      refine ⟨⟨(Ext.trans (((((((E112.trans E391).trans E405).trans E411).trans E418).trans E425).trans E431).trans E450) S448.inv), (fun b_ h_ => (K449.at 1 rfl b_ h_).trans (hs406.2.1 b_ h_)), (fun b_ h_ => (K449.at 2 rfl b_ h_).trans (hs406.2.2.1 b_ h_)), (fun b_ h_ => (K449.at 3 rfl b_ h_).trans (hs406.2.2.2 b_ h_))⟩, fun hs451 => ?_⟩
      refine xO 7 hc447 ?_
      refine yO 7 35 rfl hs451 (eM (.tuple #[.agg #[.slice A439 t434.1.cells.length c440, .slice A443 t434.1.trail.length c444], .int .i64 t434.2])) ?_; intro hc452 hs453
      refine xV 8 43 rfl hc452 hs453 (fun L_ w_ hc_ hu_ hs_ => e_extract (vs := #[.agg #[.slice A439 t434.1.cells.length c440, .slice A443 t434.1.trail.length c444], .int .i64 t434.2]) (v := .agg #[.slice A439 t434.1.cells.length c440, .slice A443 t434.1.trail.length c444]) (by kernel_rfl) rfl) ?_; intro hc454 hs455
      refine xV 9 44 rfl hc454 hs455 (fun L_ w_ hc_ hu_ hs_ => e_extract (vs := #[.agg #[.slice A439 t434.1.cells.length c440, .slice A443 t434.1.trail.length c444], .int .i64 t434.2]) (v := .int .i64 t434.2) (by kernel_rfl) rfl) ?_; intro hc456 hs457
      have S458 := S448.pulls [(is g373), F442, F446, (is g31), (is g26), (is g21)] [2] rfl
      refine xO 11 hc456 ?_
      refine yS 11 rfl (eSa g373 0 [.slice A439 t434.1.cells.length c440, .slice A443 t434.1.trail.length c444] S458 b374) ?_
      rintro hc463 w459 ⟨b460, S461, K462⟩
      replace h441 := h441.move (K462.at 0 rfl)
      replace h445 := h445.move (K462.at 1 rfl)
      replace b32 := K462.blk 2 rfl b32
      replace b27 := K462.blk 3 rfl b27
      replace b22 := K462.blk 4 rfl b22
      refine ⟨⟨(Ext.trans (((((((E112.trans E391).trans E405).trans E411).trans E418).trans E425).trans E431).trans E450) S461.inv), (fun b_ h_ => (K462.at 2 rfl b_ h_).trans (hs457.2.1 b_ h_)), (fun b_ h_ => (K462.at 3 rfl b_ h_).trans (hs457.2.2.1 b_ h_)), (fun b_ h_ => (K462.at 4 rfl b_ h_).trans (hs457.2.2.2 b_ h_))⟩, fun hs464 => ?_⟩
      clear b374
      refine xO 12 hc463 ?_
      refine yO 12 9 rfl hs464 (eA (.int .i64 t434.2)) ?_; intro hc465 hs466
      refine xn (by kernel_rfl) ?_ _
      have S471 := S461.pulls [(is g31), (is g26), (is g21), F442, F446, (is g373)] [2, 2, 5, 5, 5] rfl
      exact ⟨rfl, _, H437, g373, t434.1.cells, A439, c440, F442, t434.1.trail, A443, c444, F446, t434.2, rfl, (by kernel_rfl), (by kernel_rfl), (by kernel_rfl), (by kernel_rfl), (by kernel_rfl), b32, b27, b22, h441, h445, b460, (((((((E112.trans E391).trans E405).trans E411).trans E418).trans E425).trans E431).trans E450), S471, M⟩
    refine yE 10 8 rfl (nB #[.slice none 0 0, .slice none 0 0] 34 S83) ?_
    rintro hc477 _ w472 ⟨g473, rfl, b474, S475, K476⟩
    replace b32 := K476.blk 0 rfl b32
    replace b27 := K476.blk 1 rfl b27
    replace b22 := K476.blk 2 rfl b22
    refine ⟨⟨S475.inv, (fun b_ h_ => (K476.at 0 rfl b_ h_).trans (hs95.2.1 b_ h_)), (fun b_ h_ => (K476.at 1 rfl b_ h_).trans (hs95.2.2.1 b_ h_)), (fun b_ h_ => (K476.at 2 rfl b_ h_).trans (hs95.2.2.2 b_ h_))⟩, fun hs478 => ?_⟩
    obtain ⟨t479, u480, M⟩ := bnd M
    refine xO 1 hc477 ?_
    refine yC 1 rfl (eC [.tmp 36] [.agg #[.slice A2 x1.cells.length c3, .slice A6 x1.trail.length c7]] Try.func12) (laws_toStore.calls k w472 H x1 A2 c3 A6 c7 h4 l5 h8 l9 (St.own' (Fa := []) (Fr := [(is g473), (is g31), (is g26), (is g21)]) S475) t479 u480) ?_
    rintro hc492 _ w481 ⟨A484, c485, F487, A488, c489, F491, H482, rfl, h486, h490, T483⟩
    refine ⟨_, rfl, ?_⟩
    obtain ⟨S493, K494⟩ := St.call (Fa := []) (Fr := [(is g473), (is g31), (is g26), (is g21)]) S475 T483
    replace b474 := K494.blk 0 rfl b474
    replace b32 := K494.blk 1 rfl b32
    replace b27 := K494.blk 2 rfl b27
    replace b22 := K494.blk 3 rfl b22
    have E495 := T483.ext
    refine ⟨⟨(Ext.trans E495 S493.inv), (fun b_ h_ => (K494.at 1 rfl b_ h_).trans (hs478.2.1 b_ h_)), (fun b_ h_ => (K494.at 2 rfl b_ h_).trans (hs478.2.2.1 b_ h_)), (fun b_ h_ => (K494.at 3 rfl b_ h_).trans (hs478.2.2.2 b_ h_))⟩, fun hs496 => ?_⟩
    obtain ⟨t497, u498, M⟩ := bnd M
    refine xO 3 hc492 ?_
    refine yC 3 rfl (eC [.tmp 38] [.agg #[.int .i64 x10.kind, .int .i64 x10.n, .slice A11 x10.text.length c12]] Try.func13) (laws_toCell.calls k w481 H482 x10 A11 c12 (h13.ext E495) l14 (St.own' (Fa := []) (Fr := [F487, F491, (is g473), (is g31), (is g26), (is g21)]) S493) t497 u498) ?_
    rintro hc506 _ w499 ⟨A502, c503, F505, H500, rfl, h504, T501⟩
    refine ⟨_, rfl, ?_⟩
    obtain ⟨S507, K508⟩ := St.call (Fa := []) (Fr := [F487, F491, (is g473), (is g31), (is g26), (is g21)]) S493 T501
    replace h486 := h486.move (K508.at 0 rfl)
    replace h490 := h490.move (K508.at 1 rfl)
    replace b474 := K508.blk 2 rfl b474
    replace b32 := K508.blk 3 rfl b32
    replace b27 := K508.blk 4 rfl b27
    replace b22 := K508.blk 5 rfl b22
    have E509 := T501.ext
    replace h486 := h486.ext E509
    replace h490 := h490.ext E509
    refine ⟨⟨(Ext.trans (E495.trans E509) S507.inv), (fun b_ h_ => (K508.at 3 rfl b_ h_).trans (hs496.2.1 b_ h_)), (fun b_ h_ => (K508.at 4 rfl b_ h_).trans (hs496.2.2.1 b_ h_)), (fun b_ h_ => (K508.at 5 rfl b_ h_).trans (hs496.2.2.2 b_ h_))⟩, fun hs510 => ?_⟩
    obtain ⟨t511, u512, M⟩ := bnd M
    refine xO 5 hc506 ?_
    refine yC 5 rfl (eC [.tmp 40] [.agg #[.int .i64 x15.kind, .int .i64 x15.n, .slice A16 x15.text.length c17]] Try.func13) (laws_toCell.calls k w499 H500 x15 A16 c17 (h18.ext (E495.trans E509)) l19 (St.own' (Fa := []) (Fr := [F505, F487, F491, (is g473), (is g31), (is g26), (is g21)]) S507) t511 u512) ?_
    rintro hc520 _ w513 ⟨A516, c517, F519, H514, rfl, h518, T515⟩
    refine ⟨_, rfl, ?_⟩
    obtain ⟨S521, K522⟩ := St.call (Fa := []) (Fr := [F505, F487, F491, (is g473), (is g31), (is g26), (is g21)]) S507 T515
    replace h504 := h504.move (K522.at 0 rfl)
    replace h486 := h486.move (K522.at 1 rfl)
    replace h490 := h490.move (K522.at 2 rfl)
    replace b474 := K522.blk 3 rfl b474
    replace b32 := K522.blk 4 rfl b32
    replace b27 := K522.blk 5 rfl b27
    replace b22 := K522.blk 6 rfl b22
    have E523 := T515.ext
    replace h504 := h504.ext E523
    replace h486 := h486.ext E523
    replace h490 := h490.ext E523
    refine ⟨⟨(Ext.trans ((E495.trans E509).trans E523) S521.inv), (fun b_ h_ => (K522.at 4 rfl b_ h_).trans (hs510.2.1 b_ h_)), (fun b_ h_ => (K522.at 5 rfl b_ h_).trans (hs510.2.2.1 b_ h_)), (fun b_ h_ => (K522.at 6 rfl b_ h_).trans (hs510.2.2.2 b_ h_))⟩, fun hs524 => ?_⟩
    have l525 := h486.le
    have S526 := S521.pulls [F487, F519, F505, F491, (is g473), (is g31), (is g26), (is g21)] [2] rfl
    obtain ⟨H527, S528, E529, h530, z531⟩ := S526.frzRow h486
    replace h518 := h518.ext E529
    replace h504 := h504.ext E529
    replace h490 := h490.ext E529
    have l532 := h490.le
    have S533 := S528.pulls [F491, F519, F505, (is g473), (is g31), (is g26), (is g21)] [2] rfl
    obtain ⟨H534, S535, E536, h537, z538⟩ := S533.frzRow h490
    replace h518 := h518.ext E536
    replace h504 := h504.ext E536
    have l539 := h504.le
    have S540 := S535.pulls [F505, F519, (is g473), (is g31), (is g26), (is g21)] [1] rfl
    obtain ⟨H541, S542, E543, h544, z545⟩ := S540.frzRow h504
    replace h518 := h518.ext E543
    have l546 := h518.le
    obtain ⟨H547, S548, E549, h550, z551⟩ := S542.frzRow h518
    obtain ⟨t552, u553, M⟩ := bnd M
    refine xO 6 hc520 ?_
    refine yC 6 rfl (eC [.tmp 37, .tmp 39, .tmp 41] [.agg #[.slice A484 t479.cells.length c485, .slice A488 t479.trail.length c489], .agg #[.int .i64 t497.kind, .int .i64 t497.n, .slice A502 t497.text.length c503], .agg #[.int .i64 t511.kind, .int .i64 t511.n, .slice A516 t511.text.length c517]] Try.func32) (spec_UnifyStore.calls k w513 H547 t479 A484 c485 A488 c489 t497 A502 c503 t511 A516 c517 (h530.ext ((E536.trans E543).trans E549)) l525 (h537.ext (E543.trans E549)) l532 (h544.ext E549) l539 h550 l546 (St.own' (Fa := []) (Fr := [(is g473), (is g31), (is g26), (is g21)]) S548) t552 u553) ?_
    rintro hc565 _ w554 ⟨A557, c558, F560, A561, c562, F564, H555, rfl, h559, h563, T556⟩
    refine ⟨_, rfl, ?_⟩
    obtain ⟨S566, K567⟩ := St.call (Fa := []) (Fr := [(is g473), (is g31), (is g26), (is g21)]) S548 T556
    replace b474 := K567.blk 0 rfl b474
    replace b32 := K567.blk 1 rfl b32
    replace b27 := K567.blk 2 rfl b27
    replace b22 := K567.blk 3 rfl b22
    have E568 := T556.ext
    refine ⟨⟨(Ext.trans (((((((E495.trans E509).trans E523).trans E529).trans E536).trans E543).trans E549).trans E568) S566.inv), (fun b_ h_ => (K567.at 1 rfl b_ h_).trans (hs524.2.1 b_ h_)), (fun b_ h_ => (K567.at 2 rfl b_ h_).trans (hs524.2.2.1 b_ h_)), (fun b_ h_ => (K567.at 3 rfl b_ h_).trans (hs524.2.2.2 b_ h_))⟩, fun hs569 => ?_⟩
    refine xO 7 hc565 ?_
    refine yO 7 35 rfl hs569 (eM (.tuple #[.agg #[.slice A557 t552.1.cells.length c558, .slice A561 t552.1.trail.length c562], .int .i64 t552.2])) ?_; intro hc570 hs571
    refine xV 8 43 rfl hc570 hs571 (fun L_ w_ hc_ hu_ hs_ => e_extract (vs := #[.agg #[.slice A557 t552.1.cells.length c558, .slice A561 t552.1.trail.length c562], .int .i64 t552.2]) (v := .agg #[.slice A557 t552.1.cells.length c558, .slice A561 t552.1.trail.length c562]) (by kernel_rfl) rfl) ?_; intro hc572 hs573
    refine xV 9 44 rfl hc572 hs573 (fun L_ w_ hc_ hu_ hs_ => e_extract (vs := #[.agg #[.slice A557 t552.1.cells.length c558, .slice A561 t552.1.trail.length c562], .int .i64 t552.2]) (v := .int .i64 t552.2) (by kernel_rfl) rfl) ?_; intro hc574 hs575
    have S576 := S566.pulls [(is g473), F560, F564, (is g31), (is g26), (is g21)] [2] rfl
    refine xO 11 hc574 ?_
    refine yS 11 rfl (eSa g473 0 [.slice A557 t552.1.cells.length c558, .slice A561 t552.1.trail.length c562] S576 b474) ?_
    rintro hc581 w577 ⟨b578, S579, K580⟩
    replace h559 := h559.move (K580.at 0 rfl)
    replace h563 := h563.move (K580.at 1 rfl)
    replace b32 := K580.blk 2 rfl b32
    replace b27 := K580.blk 3 rfl b27
    replace b22 := K580.blk 4 rfl b22
    refine ⟨⟨(Ext.trans (((((((E495.trans E509).trans E523).trans E529).trans E536).trans E543).trans E549).trans E568) S579.inv), (fun b_ h_ => (K580.at 2 rfl b_ h_).trans (hs575.2.1 b_ h_)), (fun b_ h_ => (K580.at 3 rfl b_ h_).trans (hs575.2.2.1 b_ h_)), (fun b_ h_ => (K580.at 4 rfl b_ h_).trans (hs575.2.2.2 b_ h_))⟩, fun hs582 => ?_⟩
    clear b474
    refine xO 12 hc581 ?_
    refine yO 12 9 rfl hs582 (eA (.int .i64 t552.2)) ?_; intro hc583 hs584
    refine xn (by kernel_rfl) ?_ _
    have S589 := S579.pulls [(is g31), (is g26), (is g21), F560, F564, (is g473)] [2, 2, 5, 5, 5] rfl
    exact ⟨rfl, _, H555, g473, t552.1.cells, A557, c558, F560, t552.1.trail, A561, c562, F564, t552.2, rfl, (by kernel_rfl), (by kernel_rfl), (by kernel_rfl), (by kernel_rfl), (by kernel_rfl), b32, b27, b22, h559, h563, b578, (((((((E495.trans E509).trans E523).trans E529).trans E536).trans E543).trans E549).trans E568), S589, M⟩
  clear M
  rintro a81 w56 ⟨f57, H58, g60, x62, A63, c64, F65, x67, A68, c69, F70, x72, rfl, e73, e74, e75, e76, e77, b32, b27, b22, h66, h71, b61, Y59, S78, M⟩
  rw [laws_FnExactUnifyStore.l0] at M
  refine then_n (wp_seq (wR (lV 45 (e_loadS (b := g21) (off := 0) (cs := [.slice A2 x1.cells.length c3, .slice A6 x1.trail.length c7]) Try.underlying25 rfl (by kernel_rfl) (by exact e73) (blk_cells b22 rfl)) ?_)))
  obtain ⟨t590, u591, M⟩ := bnd M
  refine lC 46 (eC [.tmp 45] [.agg #[.slice A2 x1.cells.length c3, .slice A6 x1.trail.length c7]] Try.func12) (laws_toStore.calls k w56 H58 x1 A2 c3 A6 c7 (h4.ext Y59) l5 (h8.ext Y59) l9 (St.own' (Fa := []) (Fr := [(is g31), (is g26), (is g21), F65, F70, (is g60)]) S78) t590 u591) ?_
  rintro _ w592 ⟨A595, c596, F598, A599, c600, F602, H593, rfl, h597, h601, T594⟩
  refine ⟨_, rfl, ?_⟩
  obtain ⟨S603, K604⟩ := St.call (Fa := []) (Fr := [(is g31), (is g26), (is g21), F65, F70, (is g60)]) S78 T594
  replace b32 := K604.blk 0 rfl b32
  replace b27 := K604.blk 1 rfl b27
  replace b22 := K604.blk 2 rfl b22
  replace h66 := h66.move (K604.at 3 rfl)
  replace h71 := h71.move (K604.at 4 rfl)
  replace b61 := K604.blk 5 rfl b61
  have E605 := T594.ext
  replace h66 := h66.ext E605
  replace h71 := h71.ext E605
  refine lW 10 (nB #[.slice none 0 0, .slice none 0 0] 34 S603) ?_
  rintro _ w606 ⟨g607, rfl, b608, S609, K610⟩
  replace h597 := h597.move (K610.at 0 rfl)
  replace h601 := h601.move (K610.at 1 rfl)
  replace b32 := K610.blk 2 rfl b32
  replace b27 := K610.blk 3 rfl b27
  replace b22 := K610.blk 4 rfl b22
  replace h66 := h66.move (K610.at 5 rfl)
  replace h71 := h71.move (K610.at 6 rfl)
  replace b61 := K610.blk 7 rfl b61
  refine lE (eSa g607 0 [.slice A595 t590.cells.length c596, .slice A599 t590.trail.length c600] S609 b608) ?_
  rintro w611 ⟨b612, S613, K614⟩
  replace h597 := h597.move (K614.at 0 rfl)
  replace h601 := h601.move (K614.at 1 rfl)
  replace b32 := K614.blk 2 rfl b32
  replace b27 := K614.blk 3 rfl b27
  replace b22 := K614.blk 4 rfl b22
  replace h66 := h66.move (K614.at 5 rfl)
  replace h71 := h71.move (K614.at 6 rfl)
  replace b61 := K614.blk 7 rfl b61
  clear b608
  refine wN (then_n (wp_seq (wR (lV 47 (e_loadS (b := g26) (off := 0) (cs := [.int .i64 x10.kind, .int .i64 x10.n, .slice A11 x10.text.length c12]) Try.underlying28 rfl (by kernel_rfl) (by exact e74) (blk_cells b27 rfl)) ?_))))
  obtain ⟨t615, u616, M⟩ := bnd M
  refine lC 48 (eC [.tmp 47] [.agg #[.int .i64 x10.kind, .int .i64 x10.n, .slice A11 x10.text.length c12]] Try.func13) (laws_toCell.calls k w611 H593 x10 A11 c12 (h13.ext (Y59.trans E605)) l14 (St.own' (Fa := []) (Fr := [(is g607), F598, F602, (is g31), (is g26), (is g21), F65, F70, (is g60)]) S613) t615 u616) ?_
  rintro _ w617 ⟨A620, c621, F623, H618, rfl, h622, T619⟩
  refine ⟨_, rfl, ?_⟩
  obtain ⟨S624, K625⟩ := St.call (Fa := []) (Fr := [(is g607), F598, F602, (is g31), (is g26), (is g21), F65, F70, (is g60)]) S613 T619
  replace b612 := K625.blk 0 rfl b612
  replace h597 := h597.move (K625.at 1 rfl)
  replace h601 := h601.move (K625.at 2 rfl)
  replace b32 := K625.blk 3 rfl b32
  replace b27 := K625.blk 4 rfl b27
  replace b22 := K625.blk 5 rfl b22
  replace h66 := h66.move (K625.at 6 rfl)
  replace h71 := h71.move (K625.at 7 rfl)
  replace b61 := K625.blk 8 rfl b61
  have E626 := T619.ext
  replace h597 := h597.ext E626
  replace h601 := h601.ext E626
  replace h66 := h66.ext E626
  replace h71 := h71.ext E626
  refine lW 11 (nB #[.int .i64 0, .int .i64 0, .slice none 0 0] 36 S624) ?_
  rintro _ w627 ⟨g628, rfl, b629, S630, K631⟩
  replace h622 := h622.move (K631.at 0 rfl)
  replace b612 := K631.blk 1 rfl b612
  replace h597 := h597.move (K631.at 2 rfl)
  replace h601 := h601.move (K631.at 3 rfl)
  replace b32 := K631.blk 4 rfl b32
  replace b27 := K631.blk 5 rfl b27
  replace b22 := K631.blk 6 rfl b22
  replace h66 := h66.move (K631.at 7 rfl)
  replace h71 := h71.move (K631.at 8 rfl)
  replace b61 := K631.blk 9 rfl b61
  refine lE (eSa g628 0 [.int .i64 t615.kind, .int .i64 t615.n, .slice A620 t615.text.length c621] S630 b629) ?_
  rintro w632 ⟨b633, S634, K635⟩
  replace h622 := h622.move (K635.at 0 rfl)
  replace b612 := K635.blk 1 rfl b612
  replace h597 := h597.move (K635.at 2 rfl)
  replace h601 := h601.move (K635.at 3 rfl)
  replace b32 := K635.blk 4 rfl b32
  replace b27 := K635.blk 5 rfl b27
  replace b22 := K635.blk 6 rfl b22
  replace h66 := h66.move (K635.at 7 rfl)
  replace h71 := h71.move (K635.at 8 rfl)
  replace b61 := K635.blk 9 rfl b61
  clear b629
  refine wN (then_n (wp_seq (wR (lV 49 (e_loadS (b := g31) (off := 0) (cs := [.int .i64 x15.kind, .int .i64 x15.n, .slice A16 x15.text.length c17]) Try.underlying28 rfl (by kernel_rfl) (by exact e75) (blk_cells b32 rfl)) ?_))))
  obtain ⟨t636, u637, M⟩ := bnd M
  refine lC 50 (eC [.tmp 49] [.agg #[.int .i64 x15.kind, .int .i64 x15.n, .slice A16 x15.text.length c17]] Try.func13) (laws_toCell.calls k w632 H618 x15 A16 c17 (h18.ext ((Y59.trans E605).trans E626)) l19 (St.own' (Fa := []) (Fr := [(is g628), F623, (is g607), F598, F602, (is g31), (is g26), (is g21), F65, F70, (is g60)]) S634) t636 u637) ?_
  rintro _ w638 ⟨A641, c642, F644, H639, rfl, h643, T640⟩
  refine ⟨_, rfl, ?_⟩
  obtain ⟨S645, K646⟩ := St.call (Fa := []) (Fr := [(is g628), F623, (is g607), F598, F602, (is g31), (is g26), (is g21), F65, F70, (is g60)]) S634 T640
  replace b633 := K646.blk 0 rfl b633
  replace h622 := h622.move (K646.at 1 rfl)
  replace b612 := K646.blk 2 rfl b612
  replace h597 := h597.move (K646.at 3 rfl)
  replace h601 := h601.move (K646.at 4 rfl)
  replace b32 := K646.blk 5 rfl b32
  replace b27 := K646.blk 6 rfl b27
  replace b22 := K646.blk 7 rfl b22
  replace h66 := h66.move (K646.at 8 rfl)
  replace h71 := h71.move (K646.at 9 rfl)
  replace b61 := K646.blk 10 rfl b61
  have E647 := T640.ext
  replace h622 := h622.ext E647
  replace h597 := h597.ext E647
  replace h601 := h601.ext E647
  replace h66 := h66.ext E647
  replace h71 := h71.ext E647
  refine lW 12 (nB #[.int .i64 0, .int .i64 0, .slice none 0 0] 36 S645) ?_
  rintro _ w648 ⟨g649, rfl, b650, S651, K652⟩
  replace h643 := h643.move (K652.at 0 rfl)
  replace b633 := K652.blk 1 rfl b633
  replace h622 := h622.move (K652.at 2 rfl)
  replace b612 := K652.blk 3 rfl b612
  replace h597 := h597.move (K652.at 4 rfl)
  replace h601 := h601.move (K652.at 5 rfl)
  replace b32 := K652.blk 6 rfl b32
  replace b27 := K652.blk 7 rfl b27
  replace b22 := K652.blk 8 rfl b22
  replace h66 := h66.move (K652.at 9 rfl)
  replace h71 := h71.move (K652.at 10 rfl)
  replace b61 := K652.blk 11 rfl b61
  refine lE (eSa g649 0 [.int .i64 t636.kind, .int .i64 t636.n, .slice A641 t636.text.length c642] S651 b650) ?_
  rintro w653 ⟨b654, S655, K656⟩
  replace h643 := h643.move (K656.at 0 rfl)
  replace b633 := K656.blk 1 rfl b633
  replace h622 := h622.move (K656.at 2 rfl)
  replace b612 := K656.blk 3 rfl b612
  replace h597 := h597.move (K656.at 4 rfl)
  replace h601 := h601.move (K656.at 5 rfl)
  replace b32 := K656.blk 6 rfl b32
  replace b27 := K656.blk 7 rfl b27
  replace b22 := K656.blk 8 rfl b22
  replace h66 := h66.move (K656.at 9 rfl)
  replace h71 := h71.move (K656.at 10 rfl)
  replace b61 := K656.blk 11 rfl b61
  clear b650
  refine wN (then_n (wp_seq (wR (lV 52 (e_loadS (b := g607) (off := 0) (cs := [.slice A595 t590.cells.length c596, .slice A599 t590.trail.length c600]) Try.underlying34 rfl (by kernel_rfl) (by kernel_rfl) (blk_cells b612 rfl)) (lV 53 (e_loadS (b := g628) (off := 0) (cs := [.int .i64 t615.kind, .int .i64 t615.n, .slice A620 t615.text.length c621]) Try.underlying36 rfl (by kernel_rfl) (by kernel_rfl) (blk_cells b633 rfl)) (lV 54 (e_loadS (b := g649) (off := 0) (cs := [.int .i64 t636.kind, .int .i64 t636.n, .slice A641 t636.text.length c642]) Try.underlying36 rfl (by kernel_rfl) (by kernel_rfl) (blk_cells b654 rfl)) ?_))))))
  have S657 := S655.pulls [F598, (is g649), F644, (is g628), F623, (is g607), F602, (is g31), (is g26), (is g21), F65, F70, (is g60)] [5] rfl
  have l658 := h597.le
  obtain ⟨H659, S660, E661, h662, z663⟩ := S657.frzRow h597
  have h664 := h643.ext E661
  have h665 := h622.ext E661
  have h666 := h601.ext E661
  have h667 := h66.ext E661
  have h668 := h71.ext E661
  have S669 := S660.pulls [F602, (is g649), F644, (is g628), F623, (is g607), (is g31), (is g26), (is g21), F65, F70, (is g60)] [5] rfl
  have l670 := h666.le
  obtain ⟨H671, S672, E673, h674, z675⟩ := S669.frzRow h666
  have h676 := h664.ext E673
  have h677 := h665.ext E673
  have h678 := h667.ext E673
  have h679 := h668.ext E673
  have S680 := S672.pulls [F623, (is g649), F644, (is g628), (is g607), (is g31), (is g26), (is g21), F65, F70, (is g60)] [3] rfl
  have l681 := h677.le
  obtain ⟨H682, S683, E684, h685, z686⟩ := S680.frzRow h677
  have h687 := h676.ext E684
  have h688 := h678.ext E684
  have h689 := h679.ext E684
  have S690 := S683.pulls [F644, (is g649), (is g628), (is g607), (is g31), (is g26), (is g21), F65, F70, (is g60)] [1] rfl
  have l691 := h687.le
  obtain ⟨H692, S693, E694, h695, z696⟩ := S690.frzRow h687
  have h697 := h688.ext E694
  have h698 := h689.ext E694
  obtain ⟨t699, u700, M⟩ := bnd M
  refine lC 55 (eC [.tmp 52, .tmp 53, .tmp 54] [.agg #[.slice A595 t590.cells.length c596, .slice A599 t590.trail.length c600], .agg #[.int .i64 t615.kind, .int .i64 t615.n, .slice A620 t615.text.length c621], .agg #[.int .i64 t636.kind, .int .i64 t636.n, .slice A641 t636.text.length c642]] Try.func33) (impl_UnifyStore.calls k w653 H692 t590 A595 c596 A599 c600 t615 A620 c621 t636 A641 c642 (h662.ext ((E673.trans E684).trans E694)) l658 (h674.ext (E684.trans E694)) l670 (h685.ext E694) l681 h695 l691 S693.own0 t699 u700) ?_
  rintro _ w701 ⟨A704, c705, F707, A708, c709, F711, H702, rfl, h706, h710, T703⟩
  refine ⟨_, rfl, ?_⟩
  obtain ⟨S712, K713⟩ := St.call (Fa := []) (Fr := [(is g649), (is g628), (is g607), (is g31), (is g26), (is g21), F65, F70, (is g60)]) S693 T703
  replace b654 := K713.blk 0 rfl b654
  replace b633 := K713.blk 1 rfl b633
  replace b612 := K713.blk 2 rfl b612
  replace b32 := K713.blk 3 rfl b32
  replace b27 := K713.blk 4 rfl b27
  replace b22 := K713.blk 5 rfl b22
  replace h66 := h66.move (K713.at 6 rfl)
  replace h71 := h71.move (K713.at 7 rfl)
  replace b61 := K713.blk 8 rfl b61
  obtain ⟨H714, S715, E716, v717⟩ := St.thaw S690 z696 S712 T703.ext E694 T703.size
  replace h643 := h643.move v717
  obtain ⟨H718, S719, E720, v721⟩ := St.thaw S680 z686 S715 E716 E684 T703.size
  replace h622 := h622.move v721
  obtain ⟨H722, S723, E724, v725⟩ := St.thaw S669 z675 S719 E720 E673 T703.size
  replace h601 := h601.move v725
  obtain ⟨H726, S727, E728, v729⟩ := St.thaw S657 z663 S723 E724 E661 T703.size
  replace h597 := h597.move v729
  replace h597 := h597.ext E728
  replace h601 := h601.ext E728
  replace h622 := h622.ext E728
  replace h643 := h643.ext E728
  replace h66 := h66.ext E728
  replace h71 := h71.ext E728
  replace h706 := Row.free (H' := H726) (free_iso (free_pair (free_scal _ _) (free_pair (free_scal _ _) (free_slice (free_scal _ _))))) h706
  replace h710 := Row.free (H' := H726) (free_scal _ _) h710
  refine lV 51 (eM (.tuple #[.agg #[.slice A704 t699.1.cells.length c705, .slice A708 t699.1.trail.length c709], .int .i64 t699.2])) (lV 56 (e_extract (vs := #[.agg #[.slice A704 t699.1.cells.length c705, .slice A708 t699.1.trail.length c709], .int .i64 t699.2]) (v := .agg #[.slice A704 t699.1.cells.length c705, .slice A708 t699.1.trail.length c709]) (by kernel_rfl) rfl) (lV 57 (e_extract (vs := #[.agg #[.slice A704 t699.1.cells.length c705, .slice A708 t699.1.trail.length c709], .int .i64 t699.2]) (v := .int .i64 t699.2) (by kernel_rfl) rfl) ?_))
  refine lW 13 (nB #[.slice none 0 0, .slice none 0 0] 34 S727) ?_
  rintro _ w730 ⟨g731, rfl, b732, S733, K734⟩
  replace h597 := h597.move (K734.at 0 rfl)
  replace h601 := h601.move (K734.at 1 rfl)
  replace h622 := h622.move (K734.at 2 rfl)
  replace h643 := h643.move (K734.at 3 rfl)
  replace h706 := h706.move (K734.at 4 rfl)
  replace h710 := h710.move (K734.at 5 rfl)
  replace b654 := K734.blk 6 rfl b654
  replace b633 := K734.blk 7 rfl b633
  replace b612 := K734.blk 8 rfl b612
  replace b32 := K734.blk 9 rfl b32
  replace b27 := K734.blk 10 rfl b27
  replace b22 := K734.blk 11 rfl b22
  replace h66 := h66.move (K734.at 12 rfl)
  replace h71 := h71.move (K734.at 13 rfl)
  replace b61 := K734.blk 14 rfl b61
  refine lE (eSa g731 0 [.slice A704 t699.1.cells.length c705, .slice A708 t699.1.trail.length c709] S733 b732) ?_
  rintro w735 ⟨b736, S737, K738⟩
  replace h597 := h597.move (K738.at 0 rfl)
  replace h601 := h601.move (K738.at 1 rfl)
  replace h622 := h622.move (K738.at 2 rfl)
  replace h643 := h643.move (K738.at 3 rfl)
  replace h706 := h706.move (K738.at 4 rfl)
  replace h710 := h710.move (K738.at 5 rfl)
  replace b654 := K738.blk 6 rfl b654
  replace b633 := K738.blk 7 rfl b633
  replace b612 := K738.blk 8 rfl b612
  replace b32 := K738.blk 9 rfl b32
  replace b27 := K738.blk 10 rfl b27
  replace b22 := K738.blk 11 rfl b22
  replace h66 := h66.move (K738.at 12 rfl)
  replace h71 := h71.move (K738.at 13 rfl)
  replace b61 := K738.blk 14 rfl b61
  clear b732
  refine lV 14 (eA (.int .i64 t699.2)) (wN (then_n (wp_seq (wp_seq (wR (lV 58 (e_loadS (b := g731) (off := 0) (cs := [.slice A704 t699.1.cells.length c705, .slice A708 t699.1.trail.length c709]) Try.underlying34 rfl (by kernel_rfl) (by kernel_rfl) (blk_cells b736 rfl)) (lV 59 (e_loadS (b := g60) (off := 0) (cs := [.slice A63 x62.length c64, .slice A68 x67.length c69]) Try.underlying34 rfl (by kernel_rfl) (by exact e76) (blk_cells b61 rfl)) ?_)))))))
  obtain ⟨t739, u740, M⟩ := bnd M
  refine lC 60 (eC [.tmp 58, .tmp 59] [.agg #[.slice A704 t699.1.cells.length c705, .slice A708 t699.1.trail.length c709], .agg #[.slice A63 x62.length c64, .slice A68 x67.length c69]] Try.func15) (by have l741 := h706.le; have S742 := S737.pull (F := F707) (Fr := [(is g731), F598, F602, F623, F644, F711, (is g649), (is g628), (is g607), (is g31), (is g26), (is g21), F65, F70, (is g60)]) 5 rfl rfl; obtain ⟨H743, S744, E745, h746, z747⟩ := S742.frzRow h706; replace h597 := h597.ext E745; replace h601 := h601.ext E745; replace h622 := h622.ext E745; replace h643 := h643.ext E745; replace h710 := h710.ext E745; replace h66 := h66.ext E745; replace h71 := h71.ext E745; have l748 := h710.le; have S749 := S744.pull (F := F711) (Fr := [(is g731), F598, F602, F623, F644, (is g649), (is g628), (is g607), (is g31), (is g26), (is g21), F65, F70, (is g60)]) 5 rfl rfl; obtain ⟨H750, S751, E752, h753, z754⟩ := S749.frzRow h710; replace h597 := h597.ext E752; replace h601 := h601.ext E752; replace h622 := h622.ext E752; replace h643 := h643.ext E752; replace h66 := h66.ext E752; replace h71 := h71.ext E752; have l755 := h66.le; have S756 := S751.pull (F := F65) (Fr := [(is g731), F598, F602, F623, F644, (is g649), (is g628), (is g607), (is g31), (is g26), (is g21), F70, (is g60)]) 11 rfl rfl; obtain ⟨H757, S758, E759, h760, z761⟩ := S756.frzRow h66; replace h597 := h597.ext E759; replace h601 := h601.ext E759; replace h622 := h622.ext E759; replace h643 := h643.ext E759; replace h71 := h71.ext E759; have l762 := h71.le; have S763 := S758.pull (F := F70) (Fr := [(is g731), F598, F602, F623, F644, (is g649), (is g628), (is g607), (is g31), (is g26), (is g21), (is g60)]) 11 rfl rfl; obtain ⟨H764, S765, E766, h767, z768⟩ := S763.frzRow h71; replace h597 := h597.ext E766; replace h601 := h601.ext E766; replace h622 := h622.ext E766; replace h643 := h643.ext E766; exact (laws_eqStore.calls k w735 H764 t699.1 A704 c705 A708 c709 (⟨x62, x67⟩ : Store) A63 c64 A68 c69 (h746.ext ((E752.trans E759).trans E766)) l741 (h753.ext (E759.trans E766)) l748 (h760.ext E766) l755 h767 l762 S765.own0 t739 u740)) ?_
  rintro _ w769 ⟨rfl, C770⟩
  refine ⟨_, rfl, ?_⟩
  obtain ⟨S771, K772⟩ := S737.still C770
  replace b736 := K772.blk 0 rfl b736
  replace h597 := h597.move (K772.at 1 rfl)
  replace h601 := h601.move (K772.at 2 rfl)
  replace h622 := h622.move (K772.at 3 rfl)
  replace h643 := h643.move (K772.at 4 rfl)
  replace h706 := h706.move (K772.at 5 rfl)
  replace h710 := h710.move (K772.at 6 rfl)
  replace b654 := K772.blk 7 rfl b654
  replace b633 := K772.blk 8 rfl b633
  replace b612 := K772.blk 9 rfl b612
  replace b32 := K772.blk 10 rfl b32
  replace b27 := K772.blk 11 rfl b27
  replace b22 := K772.blk 12 rfl b22
  replace h66 := h66.move (K772.at 13 rfl)
  replace h71 := h71.move (K772.at 14 rfl)
  replace b61 := K772.blk 15 rfl b61
  refine lV 61 (e_notv (c := t739) (by kernel_rfl)) (lV 62 (eM (.bool (decide (¬ (t739 = true))))) ?_)
  by_cases q773 : ¬ (t739 = true)
  · replace M := ifp q773 M
    refine lK 62 true (bT q773) ?_
    refine lK 62 true (bT q773) ?_
    refine lK 62 true (bT q773) ?_
    refine lV 66 (eT (.bool true) (bT q773)) (wN (then_n (cond_t rfl (by kernel_rfl) (wp_seq (wR (lV 6 (eA (.bool false)) (wN ?_)))))))
    refine then_n (wp_ret (then_r ?_))
    obtain rfl := Option.some.inj M
    exact ret1 rfl rfl  (show _ = .bool false from (by kernel_rfl)) ⟨rfl, S771.chg⟩
  replace M := ifn q773 M
  refine lG 63 62 (bF q773) (eM (.int .i64 t699.2)) (lG 64 62 (bF q773) (eM (.int .i64 x72) (by exact e77)) (lG 65 62 (bF q773) (eNe .i64 t699.2 x72) (lV 66 (eF (.bool (decide (t699.2 ≠ x72))) (bF q773)) (wN (then_n ?_)))))
  by_cases q774 : t699.2 ≠ x72
  · replace M := ifp q774 M
    refine cT (bT q774) (wp_seq (wR (lV 6 (eA (.bool false)) (wN (then_n (wp_ret (then_r ?_)))))))
    obtain rfl := Option.some.inj M
    exact ret1 rfl rfl  (show _ = .bool false from (by kernel_rfl)) ⟨rfl, S771.chg⟩
  replace M := ifn q774 M
  refine cF (bF q774) (wp_skip (then_n (wp_seq (wp_seq ?_))))
  refine region_mix (S := (fun (L_ : Array Bool) (w_ : World) => Ext H726 (hp w_) ∧ (∀ b_, (is g607) b_ → hp w_ b_ = hp w769 b_))) (by kernel_rfl) S771 ?_
  intro w775 S776 K777 hc778
  have o779 := b612
  have hs780 : (fun (L_ : Array Bool) (w_ : World) => Ext H726 (hp w_) ∧ (∀ b_, (is g607) b_ → hp w_ b_ = hp w769 b_)) (Array.replicate 5 false) w775 := ⟨S776.inv, (fun b_ h_ => K777.at 9 rfl b_ h_)⟩
  replace b736 := K777.blk 0 rfl b736
  replace h597 := h597.move (K777.at 1 rfl)
  replace h601 := h601.move (K777.at 2 rfl)
  replace h622 := h622.move (K777.at 3 rfl)
  replace h643 := h643.move (K777.at 4 rfl)
  replace h706 := h706.move (K777.at 5 rfl)
  replace h710 := h710.move (K777.at 6 rfl)
  replace b654 := K777.blk 7 rfl b654
  replace b633 := K777.blk 8 rfl b633
  replace b612 := K777.blk 9 rfl b612
  replace b32 := K777.blk 10 rfl b32
  replace b27 := K777.blk 11 rfl b27
  replace b22 := K777.blk 12 rfl b22
  replace h66 := h66.move (K777.at 13 rfl)
  replace h71 := h71.move (K777.at 14 rfl)
  replace b61 := K777.blk 15 rfl b61
  refine xV 0 67 rfl hc778 hs780 (fun L_ w_ hc_ hu_ hs_ => e_loadS (b := g607) (off := 0) (cs := [.slice A595 t590.cells.length c596, .slice A599 t590.trail.length c600]) Try.underlying34 rfl (by kernel_rfl) (by kernel_rfl) (blk_cells ((hs_.2 _ rfl).trans o779) rfl)) ?_; intro hc781 hs782
  refine xO 1 hc781 ?_
  refine yO 1 68 rfl hs782 (e_loadS (b := g21) (off := 0) (cs := [.slice A2 x1.cells.length c3, .slice A6 x1.trail.length c7]) Try.underlying25 rfl (by kernel_rfl) (by exact e73) (blk_cells b22 rfl)) ?_; intro hc783 hs784
  obtain ⟨t785, u786, M⟩ := bnd M
  refine xO 2 hc783 ?_
  refine yC 2 rfl (eC [.tmp 68] [.agg #[.slice A2 x1.cells.length c3, .slice A6 x1.trail.length c7]] Try.func12) (laws_toStore.calls k w775 H726 x1 A2 c3 A6 c7 (h4.ext ((((Y59.trans E605).trans E626).trans E647).trans E728)) l5 (h8.ext ((((Y59.trans E605).trans E626).trans E647).trans E728)) l9 (St.own' (Fa := []) (Fr := [(is g731), F598, F602, F623, F644, F707, F711, (is g649), (is g628), (is g607), (is g31), (is g26), (is g21), F65, F70, (is g60)]) S776) t785 u786) ?_
  rintro hc798 _ w787 ⟨A790, c791, F793, A794, c795, F797, H788, rfl, h792, h796, T789⟩
  refine ⟨_, rfl, ?_⟩
  obtain ⟨S799, K800⟩ := St.call (Fa := []) (Fr := [(is g731), F598, F602, F623, F644, F707, F711, (is g649), (is g628), (is g607), (is g31), (is g26), (is g21), F65, F70, (is g60)]) S776 T789
  replace b736 := K800.blk 0 rfl b736
  replace h597 := h597.move (K800.at 1 rfl)
  replace h601 := h601.move (K800.at 2 rfl)
  replace h622 := h622.move (K800.at 3 rfl)
  replace h643 := h643.move (K800.at 4 rfl)
  replace h706 := h706.move (K800.at 5 rfl)
  replace h710 := h710.move (K800.at 6 rfl)
  replace b654 := K800.blk 7 rfl b654
  replace b633 := K800.blk 8 rfl b633
  replace b612 := K800.blk 9 rfl b612
  replace b32 := K800.blk 10 rfl b32
  replace b27 := K800.blk 11 rfl b27
  replace b22 := K800.blk 12 rfl b22
  replace h66 := h66.move (K800.at 13 rfl)
  replace h71 := h71.move (K800.at 14 rfl)
  replace b61 := K800.blk 15 rfl b61
  have E801 := T789.ext
  replace h597 := h597.ext E801
  replace h601 := h601.ext E801
  replace h622 := h622.ext E801
  replace h643 := h643.ext E801
  replace h706 := h706.ext E801
  replace h710 := h710.ext E801
  replace h66 := h66.ext E801
  replace h71 := h71.ext E801
  refine ⟨⟨(Ext.trans E801 S799.inv), (fun b_ h_ => (K800.at 9 rfl b_ h_).trans (hs784.2 b_ h_))⟩, fun hs802 => ?_⟩
  obtain ⟨t803, u804, M⟩ := bnd M
  refine xO 3 hc798 ?_
  refine yC 3 rfl (eC [.tmp 67, .tmp 69] [.agg #[.slice A595 t590.cells.length c596, .slice A599 t590.trail.length c600], .agg #[.slice A790 t785.cells.length c791, .slice A794 t785.trail.length c795]] Try.func15) (by have l805 := h597.le; have S806 := S799.pull (F := F598) (Fr := [F793, F797, (is g731), F602, F623, F644, F707, F711, (is g649), (is g628), (is g607), (is g31), (is g26), (is g21), F65, F70, (is g60)]) 3 rfl rfl; obtain ⟨H807, S808, E809, h810, z811⟩ := S806.frzRow h597; replace h792 := h792.ext E809; replace h796 := h796.ext E809; replace h601 := h601.ext E809; replace h622 := h622.ext E809; replace h643 := h643.ext E809; replace h706 := h706.ext E809; replace h710 := h710.ext E809; replace h66 := h66.ext E809; replace h71 := h71.ext E809; have l812 := h601.le; have S813 := S808.pull (F := F602) (Fr := [F793, F797, (is g731), F623, F644, F707, F711, (is g649), (is g628), (is g607), (is g31), (is g26), (is g21), F65, F70, (is g60)]) 3 rfl rfl; obtain ⟨H814, S815, E816, h817, z818⟩ := S813.frzRow h601; replace h792 := h792.ext E816; replace h796 := h796.ext E816; replace h622 := h622.ext E816; replace h643 := h643.ext E816; replace h706 := h706.ext E816; replace h710 := h710.ext E816; replace h66 := h66.ext E816; replace h71 := h71.ext E816; have l819 := h792.le; obtain ⟨H820, S821, E822, h823, z824⟩ := S815.frzRow h792; replace h796 := h796.ext E822; replace h622 := h622.ext E822; replace h643 := h643.ext E822; replace h706 := h706.ext E822; replace h710 := h710.ext E822; replace h66 := h66.ext E822; replace h71 := h71.ext E822; have l825 := h796.le; obtain ⟨H826, S827, E828, h829, z830⟩ := S821.frzRow h796; replace h622 := h622.ext E828; replace h643 := h643.ext E828; replace h706 := h706.ext E828; replace h710 := h710.ext E828; replace h66 := h66.ext E828; replace h71 := h71.ext E828; exact (laws_eqStore.calls k w787 H826 t590 A595 c596 A599 c600 t785 A790 c791 A794 c795 (h810.ext ((E816.trans E822).trans E828)) l805 (h817.ext (E822.trans E828)) l812 (h823.ext E828) l819 h829 l825 S827.own0 t803 u804)) ?_
  rintro hc833 _ w831 ⟨rfl, C832⟩
  refine ⟨_, rfl, ?_⟩
  obtain ⟨S834, K835⟩ := S799.still C832
  replace h792 := h792.move (K835.at 0 rfl)
  replace h796 := h796.move (K835.at 1 rfl)
  replace b736 := K835.blk 2 rfl b736
  replace h597 := h597.move (K835.at 3 rfl)
  replace h601 := h601.move (K835.at 4 rfl)
  replace h622 := h622.move (K835.at 5 rfl)
  replace h643 := h643.move (K835.at 6 rfl)
  replace h706 := h706.move (K835.at 7 rfl)
  replace h710 := h710.move (K835.at 8 rfl)
  replace b654 := K835.blk 9 rfl b654
  replace b633 := K835.blk 10 rfl b633
  replace b612 := K835.blk 11 rfl b612
  replace b32 := K835.blk 12 rfl b32
  replace b27 := K835.blk 13 rfl b27
  replace b22 := K835.blk 14 rfl b22
  replace h66 := h66.move (K835.at 15 rfl)
  replace h71 := h71.move (K835.at 16 rfl)
  replace b61 := K835.blk 17 rfl b61
  refine ⟨⟨(Ext.trans E801 S834.inv), (fun b_ h_ => (K835.at 11 rfl b_ h_).trans (hs802.2 b_ h_))⟩, fun hs836 => ?_⟩
  refine xO 4 hc833 ?_
  refine yO 4 71 rfl hs836 (e_notv (c := t803) (by kernel_rfl)) ?_; intro hc837 hs838
  refine xn (by kernel_rfl) ?_ _
  refine then_n ?_
  by_cases q839 : ¬ (t803 = true)
  · replace M := ifp q839 M
    refine cT (bT q839) (wp_seq (wR (lV 6 (eA (.bool false)) (wN (then_n (wp_ret (then_r ?_)))))))
    obtain rfl := Option.some.inj M
    exact ret1 rfl rfl  (show _ = .bool false from (by kernel_rfl)) ⟨rfl, S834.chg⟩
  replace M := ifn q839 M
  refine cF (bF q839) (wp_skip (then_n (wp_seq (wp_seq ?_))))
  refine region_mix (S := (fun (L_ : Array Bool) (w_ : World) => Ext H788 (hp w_) ∧ (∀ b_, (is g628) b_ → hp w_ b_ = hp w831 b_))) (by kernel_rfl) S834 ?_
  intro w840 S841 K842 hc843
  have o844 := b633
  have hs845 : (fun (L_ : Array Bool) (w_ : World) => Ext H788 (hp w_) ∧ (∀ b_, (is g628) b_ → hp w_ b_ = hp w831 b_)) (Array.replicate 5 false) w840 := ⟨S841.inv, (fun b_ h_ => K842.at 10 rfl b_ h_)⟩
  replace h792 := h792.move (K842.at 0 rfl)
  replace h796 := h796.move (K842.at 1 rfl)
  replace b736 := K842.blk 2 rfl b736
  replace h597 := h597.move (K842.at 3 rfl)
  replace h601 := h601.move (K842.at 4 rfl)
  replace h622 := h622.move (K842.at 5 rfl)
  replace h643 := h643.move (K842.at 6 rfl)
  replace h706 := h706.move (K842.at 7 rfl)
  replace h710 := h710.move (K842.at 8 rfl)
  replace b654 := K842.blk 9 rfl b654
  replace b633 := K842.blk 10 rfl b633
  replace b612 := K842.blk 11 rfl b612
  replace b32 := K842.blk 12 rfl b32
  replace b27 := K842.blk 13 rfl b27
  replace b22 := K842.blk 14 rfl b22
  replace h66 := h66.move (K842.at 15 rfl)
  replace h71 := h71.move (K842.at 16 rfl)
  replace b61 := K842.blk 17 rfl b61
  refine xV 0 72 rfl hc843 hs845 (fun L_ w_ hc_ hu_ hs_ => e_loadS (b := g628) (off := 0) (cs := [.int .i64 t615.kind, .int .i64 t615.n, .slice A620 t615.text.length c621]) Try.underlying36 rfl (by kernel_rfl) (by kernel_rfl) (blk_cells ((hs_.2 _ rfl).trans o844) rfl)) ?_; intro hc846 hs847
  refine xO 1 hc846 ?_
  refine yO 1 73 rfl hs847 (e_loadS (b := g26) (off := 0) (cs := [.int .i64 x10.kind, .int .i64 x10.n, .slice A11 x10.text.length c12]) Try.underlying28 rfl (by kernel_rfl) (by exact e74) (blk_cells b27 rfl)) ?_; intro hc848 hs849
  obtain ⟨t850, u851, M⟩ := bnd M
  refine xO 2 hc848 ?_
  refine yC 2 rfl (eC [.tmp 73] [.agg #[.int .i64 x10.kind, .int .i64 x10.n, .slice A11 x10.text.length c12]] Try.func13) (laws_toCell.calls k w840 H788 x10 A11 c12 (h13.ext (((((Y59.trans E605).trans E626).trans E647).trans E728).trans E801)) l14 (St.own' (Fa := []) (Fr := [F793, F797, (is g731), F598, F602, F623, F644, F707, F711, (is g649), (is g628), (is g607), (is g31), (is g26), (is g21), F65, F70, (is g60)]) S841) t850 u851) ?_
  rintro hc859 _ w852 ⟨A855, c856, F858, H853, rfl, h857, T854⟩
  refine ⟨_, rfl, ?_⟩
  obtain ⟨S860, K861⟩ := St.call (Fa := []) (Fr := [F793, F797, (is g731), F598, F602, F623, F644, F707, F711, (is g649), (is g628), (is g607), (is g31), (is g26), (is g21), F65, F70, (is g60)]) S841 T854
  replace h792 := h792.move (K861.at 0 rfl)
  replace h796 := h796.move (K861.at 1 rfl)
  replace b736 := K861.blk 2 rfl b736
  replace h597 := h597.move (K861.at 3 rfl)
  replace h601 := h601.move (K861.at 4 rfl)
  replace h622 := h622.move (K861.at 5 rfl)
  replace h643 := h643.move (K861.at 6 rfl)
  replace h706 := h706.move (K861.at 7 rfl)
  replace h710 := h710.move (K861.at 8 rfl)
  replace b654 := K861.blk 9 rfl b654
  replace b633 := K861.blk 10 rfl b633
  replace b612 := K861.blk 11 rfl b612
  replace b32 := K861.blk 12 rfl b32
  replace b27 := K861.blk 13 rfl b27
  replace b22 := K861.blk 14 rfl b22
  replace h66 := h66.move (K861.at 15 rfl)
  replace h71 := h71.move (K861.at 16 rfl)
  replace b61 := K861.blk 17 rfl b61
  have E862 := T854.ext
  replace h792 := h792.ext E862
  replace h796 := h796.ext E862
  replace h597 := h597.ext E862
  replace h601 := h601.ext E862
  replace h622 := h622.ext E862
  replace h643 := h643.ext E862
  replace h706 := h706.ext E862
  replace h710 := h710.ext E862
  replace h66 := h66.ext E862
  replace h71 := h71.ext E862
  refine ⟨⟨(Ext.trans E862 S860.inv), (fun b_ h_ => (K861.at 10 rfl b_ h_).trans (hs849.2 b_ h_))⟩, fun hs863 => ?_⟩
  obtain ⟨t864, u865, M⟩ := bnd M
  refine xO 3 hc859 ?_
  refine yC 3 rfl (eC [.tmp 72, .tmp 74] [.agg #[.int .i64 t615.kind, .int .i64 t615.n, .slice A620 t615.text.length c621], .agg #[.int .i64 t850.kind, .int .i64 t850.n, .slice A855 t850.text.length c856]] Try.func16) (by have l866 := h622.le; have S867 := S860.pull (F := F623) (Fr := [F858, F793, F797, (is g731), F598, F602, F644, F707, F711, (is g649), (is g628), (is g607), (is g31), (is g26), (is g21), F65, F70, (is g60)]) 6 rfl rfl; obtain ⟨H868, S869, E870, h871, z872⟩ := S867.frzRow h622; replace h857 := h857.ext E870; replace h792 := h792.ext E870; replace h796 := h796.ext E870; replace h597 := h597.ext E870; replace h601 := h601.ext E870; replace h643 := h643.ext E870; replace h706 := h706.ext E870; replace h710 := h710.ext E870; replace h66 := h66.ext E870; replace h71 := h71.ext E870; have l873 := h857.le; obtain ⟨H874, S875, E876, h877, z878⟩ := S869.frzRow h857; replace h792 := h792.ext E876; replace h796 := h796.ext E876; replace h597 := h597.ext E876; replace h601 := h601.ext E876; replace h643 := h643.ext E876; replace h706 := h706.ext E876; replace h710 := h710.ext E876; replace h66 := h66.ext E876; replace h71 := h71.ext E876; exact (laws_eqCell.calls k w852 H874 t615 A620 c621 t850 A855 c856 (h871.ext E876) l866 h877 l873 S875.own0 t864 u865)) ?_
  rintro hc881 _ w879 ⟨rfl, C880⟩
  refine ⟨_, rfl, ?_⟩
  obtain ⟨S882, K883⟩ := S860.still C880
  replace h857 := h857.move (K883.at 0 rfl)
  replace h792 := h792.move (K883.at 1 rfl)
  replace h796 := h796.move (K883.at 2 rfl)
  replace b736 := K883.blk 3 rfl b736
  replace h597 := h597.move (K883.at 4 rfl)
  replace h601 := h601.move (K883.at 5 rfl)
  replace h622 := h622.move (K883.at 6 rfl)
  replace h643 := h643.move (K883.at 7 rfl)
  replace h706 := h706.move (K883.at 8 rfl)
  replace h710 := h710.move (K883.at 9 rfl)
  replace b654 := K883.blk 10 rfl b654
  replace b633 := K883.blk 11 rfl b633
  replace b612 := K883.blk 12 rfl b612
  replace b32 := K883.blk 13 rfl b32
  replace b27 := K883.blk 14 rfl b27
  replace b22 := K883.blk 15 rfl b22
  replace h66 := h66.move (K883.at 16 rfl)
  replace h71 := h71.move (K883.at 17 rfl)
  replace b61 := K883.blk 18 rfl b61
  refine ⟨⟨(Ext.trans E862 S882.inv), (fun b_ h_ => (K883.at 11 rfl b_ h_).trans (hs863.2 b_ h_))⟩, fun hs884 => ?_⟩
  refine xO 4 hc881 ?_
  refine yO 4 76 rfl hs884 (e_notv (c := t864) (by kernel_rfl)) ?_; intro hc885 hs886
  refine xn (by kernel_rfl) ?_ _
  refine then_n ?_
  by_cases q887 : ¬ (t864 = true)
  · replace M := ifp q887 M
    refine cT (bT q887) (wp_seq (wR (lV 6 (eA (.bool false)) (wN (then_n (wp_ret (then_r ?_)))))))
    obtain rfl := Option.some.inj M
    exact ret1 rfl rfl  (show _ = .bool false from (by kernel_rfl)) ⟨rfl, S882.chg⟩
  replace M := ifn q887 M
  refine cF (bF q887) (wp_skip (then_n (wp_seq (wp_seq ?_))))
  refine region_mix (S := (fun (L_ : Array Bool) (w_ : World) => Ext H853 (hp w_) ∧ (∀ b_, (is g649) b_ → hp w_ b_ = hp w879 b_))) (by kernel_rfl) S882 ?_
  intro w888 S889 K890 hc891
  have o892 := b654
  have hs893 : (fun (L_ : Array Bool) (w_ : World) => Ext H853 (hp w_) ∧ (∀ b_, (is g649) b_ → hp w_ b_ = hp w879 b_)) (Array.replicate 5 false) w888 := ⟨S889.inv, (fun b_ h_ => K890.at 10 rfl b_ h_)⟩
  replace h857 := h857.move (K890.at 0 rfl)
  replace h792 := h792.move (K890.at 1 rfl)
  replace h796 := h796.move (K890.at 2 rfl)
  replace b736 := K890.blk 3 rfl b736
  replace h597 := h597.move (K890.at 4 rfl)
  replace h601 := h601.move (K890.at 5 rfl)
  replace h622 := h622.move (K890.at 6 rfl)
  replace h643 := h643.move (K890.at 7 rfl)
  replace h706 := h706.move (K890.at 8 rfl)
  replace h710 := h710.move (K890.at 9 rfl)
  replace b654 := K890.blk 10 rfl b654
  replace b633 := K890.blk 11 rfl b633
  replace b612 := K890.blk 12 rfl b612
  replace b32 := K890.blk 13 rfl b32
  replace b27 := K890.blk 14 rfl b27
  replace b22 := K890.blk 15 rfl b22
  replace h66 := h66.move (K890.at 16 rfl)
  replace h71 := h71.move (K890.at 17 rfl)
  replace b61 := K890.blk 18 rfl b61
  refine xV 0 77 rfl hc891 hs893 (fun L_ w_ hc_ hu_ hs_ => e_loadS (b := g649) (off := 0) (cs := [.int .i64 t636.kind, .int .i64 t636.n, .slice A641 t636.text.length c642]) Try.underlying36 rfl (by kernel_rfl) (by kernel_rfl) (blk_cells ((hs_.2 _ rfl).trans o892) rfl)) ?_; intro hc894 hs895
  refine xO 1 hc894 ?_
  refine yO 1 78 rfl hs895 (e_loadS (b := g31) (off := 0) (cs := [.int .i64 x15.kind, .int .i64 x15.n, .slice A16 x15.text.length c17]) Try.underlying28 rfl (by kernel_rfl) (by exact e75) (blk_cells b32 rfl)) ?_; intro hc896 hs897
  obtain ⟨t898, u899, M⟩ := bnd M
  refine xO 2 hc896 ?_
  refine yC 2 rfl (eC [.tmp 78] [.agg #[.int .i64 x15.kind, .int .i64 x15.n, .slice A16 x15.text.length c17]] Try.func13) (laws_toCell.calls k w888 H853 x15 A16 c17 (h18.ext ((((((Y59.trans E605).trans E626).trans E647).trans E728).trans E801).trans E862)) l19 (St.own' (Fa := []) (Fr := [F858, F793, F797, (is g731), F598, F602, F623, F644, F707, F711, (is g649), (is g628), (is g607), (is g31), (is g26), (is g21), F65, F70, (is g60)]) S889) t898 u899) ?_
  rintro hc907 _ w900 ⟨A903, c904, F906, H901, rfl, h905, T902⟩
  refine ⟨_, rfl, ?_⟩
  obtain ⟨S908, K909⟩ := St.call (Fa := []) (Fr := [F858, F793, F797, (is g731), F598, F602, F623, F644, F707, F711, (is g649), (is g628), (is g607), (is g31), (is g26), (is g21), F65, F70, (is g60)]) S889 T902
  replace h857 := h857.move (K909.at 0 rfl)
  replace h792 := h792.move (K909.at 1 rfl)
  replace h796 := h796.move (K909.at 2 rfl)
  replace b736 := K909.blk 3 rfl b736
  replace h597 := h597.move (K909.at 4 rfl)
  replace h601 := h601.move (K909.at 5 rfl)
  replace h622 := h622.move (K909.at 6 rfl)
  replace h643 := h643.move (K909.at 7 rfl)
  replace h706 := h706.move (K909.at 8 rfl)
  replace h710 := h710.move (K909.at 9 rfl)
  replace b654 := K909.blk 10 rfl b654
  replace b633 := K909.blk 11 rfl b633
  replace b612 := K909.blk 12 rfl b612
  replace b32 := K909.blk 13 rfl b32
  replace b27 := K909.blk 14 rfl b27
  replace b22 := K909.blk 15 rfl b22
  replace h66 := h66.move (K909.at 16 rfl)
  replace h71 := h71.move (K909.at 17 rfl)
  replace b61 := K909.blk 18 rfl b61
  have E910 := T902.ext
  replace h857 := h857.ext E910
  replace h792 := h792.ext E910
  replace h796 := h796.ext E910
  replace h597 := h597.ext E910
  replace h601 := h601.ext E910
  replace h622 := h622.ext E910
  replace h643 := h643.ext E910
  replace h706 := h706.ext E910
  replace h710 := h710.ext E910
  replace h66 := h66.ext E910
  replace h71 := h71.ext E910
  refine ⟨⟨(Ext.trans E910 S908.inv), (fun b_ h_ => (K909.at 10 rfl b_ h_).trans (hs897.2 b_ h_))⟩, fun hs911 => ?_⟩
  obtain ⟨t912, u913, M⟩ := bnd M
  refine xO 3 hc907 ?_
  refine yC 3 rfl (eC [.tmp 77, .tmp 79] [.agg #[.int .i64 t636.kind, .int .i64 t636.n, .slice A641 t636.text.length c642], .agg #[.int .i64 t898.kind, .int .i64 t898.n, .slice A903 t898.text.length c904]] Try.func16) (by have l914 := h643.le; have S915 := S908.pull (F := F644) (Fr := [F906, F858, F793, F797, (is g731), F598, F602, F623, F707, F711, (is g649), (is g628), (is g607), (is g31), (is g26), (is g21), F65, F70, (is g60)]) 8 rfl rfl; obtain ⟨H916, S917, E918, h919, z920⟩ := S915.frzRow h643; replace h905 := h905.ext E918; replace h857 := h857.ext E918; replace h792 := h792.ext E918; replace h796 := h796.ext E918; replace h597 := h597.ext E918; replace h601 := h601.ext E918; replace h622 := h622.ext E918; replace h706 := h706.ext E918; replace h710 := h710.ext E918; replace h66 := h66.ext E918; replace h71 := h71.ext E918; have l921 := h905.le; obtain ⟨H922, S923, E924, h925, z926⟩ := S917.frzRow h905; replace h857 := h857.ext E924; replace h792 := h792.ext E924; replace h796 := h796.ext E924; replace h597 := h597.ext E924; replace h601 := h601.ext E924; replace h622 := h622.ext E924; replace h706 := h706.ext E924; replace h710 := h710.ext E924; replace h66 := h66.ext E924; replace h71 := h71.ext E924; exact (laws_eqCell.calls k w900 H922 t636 A641 c642 t898 A903 c904 (h919.ext E924) l914 h925 l921 S923.own0 t912 u913)) ?_
  rintro hc929 _ w927 ⟨rfl, C928⟩
  refine ⟨_, rfl, ?_⟩
  obtain ⟨S930, K931⟩ := S908.still C928
  replace h905 := h905.move (K931.at 0 rfl)
  replace h857 := h857.move (K931.at 1 rfl)
  replace h792 := h792.move (K931.at 2 rfl)
  replace h796 := h796.move (K931.at 3 rfl)
  replace b736 := K931.blk 4 rfl b736
  replace h597 := h597.move (K931.at 5 rfl)
  replace h601 := h601.move (K931.at 6 rfl)
  replace h622 := h622.move (K931.at 7 rfl)
  replace h643 := h643.move (K931.at 8 rfl)
  replace h706 := h706.move (K931.at 9 rfl)
  replace h710 := h710.move (K931.at 10 rfl)
  replace b654 := K931.blk 11 rfl b654
  replace b633 := K931.blk 12 rfl b633
  replace b612 := K931.blk 13 rfl b612
  replace b32 := K931.blk 14 rfl b32
  replace b27 := K931.blk 15 rfl b27
  replace b22 := K931.blk 16 rfl b22
  replace h66 := h66.move (K931.at 17 rfl)
  replace h71 := h71.move (K931.at 18 rfl)
  replace b61 := K931.blk 19 rfl b61
  refine ⟨⟨(Ext.trans E910 S930.inv), (fun b_ h_ => (K931.at 11 rfl b_ h_).trans (hs911.2 b_ h_))⟩, fun hs932 => ?_⟩
  refine xO 4 hc929 ?_
  refine yO 4 81 rfl hs932 (e_notv (c := t912) (by kernel_rfl)) ?_; intro hc933 hs934
  refine xn (by kernel_rfl) ?_ _
  refine then_n ?_
  by_cases q935 : ¬ (t912 = true)
  · replace M := ifp q935 M
    refine cT (bT q935) (wp_seq (wR (lV 6 (eA (.bool false)) (wN (then_n (wp_ret (then_r ?_)))))))
    obtain rfl := Option.some.inj M
    exact ret1 rfl rfl  (show _ = .bool false from (by kernel_rfl)) ⟨rfl, S930.chg⟩
  replace M := ifn q935 M
  refine cF (bF q935) (wp_skip (then_n (wp_seq (wR (lV 15 (eA (.int .i64 1)) (wN (then_n ?_)))))))
  refine wp_seq (wR (lV 82 (e_loadS (b := g607) (off := 0) (cs := [.slice A595 t590.cells.length c596, .slice A599 t590.trail.length c600]) Try.underlying34 rfl (by kernel_rfl) (by kernel_rfl) (blk_cells b612 rfl)) (lV 83 (eM (.int .i64 1)) ?_)))
  have S937 := S930.pulls [F598, F602, F906, F858, F793, F797, (is g731), F623, F644, F707, F711, (is g649), (is g628), (is g607), (is g31), (is g26), (is g21), F65, F70, (is g60)] [6, 6] rfl
  obtain ⟨t938, u939, M⟩ := bnd M
  refine lC 84 (eC [.tmp 82, .tmp 83] [.agg #[.slice A595 t590.cells.length c596, .slice A599 t590.trail.length c600], .int .i64 1] Try.func19) (laws_markStore_2.calls k w927 H901 t590 A595 c596 F598 A599 c600 F602 1 h597 h601 (St.own' (Fa := [F598, F602]) (Fr := [F906, F858, F793, F797, (is g731), F623, F644, F707, F711, (is g649), (is g628), (is g607), (is g31), (is g26), (is g21), F65, F70, (is g60)]) S937) t938 u939) ?_
  rintro _ w940 ⟨F944, F947, H941, rfl, n945, h943, n948, h946, T942⟩
  refine ⟨_, rfl, ?_⟩
  obtain ⟨S949, K950⟩ := St.call (Fa := [F598, F602]) (Fr := [F906, F858, F793, F797, (is g731), F623, F644, F707, F711, (is g649), (is g628), (is g607), (is g31), (is g26), (is g21), F65, F70, (is g60)]) S937 T942
  replace h905 := h905.move (K950.at 0 rfl)
  replace h857 := h857.move (K950.at 1 rfl)
  replace h792 := h792.move (K950.at 2 rfl)
  replace h796 := h796.move (K950.at 3 rfl)
  replace b736 := K950.blk 4 rfl b736
  replace h622 := h622.move (K950.at 5 rfl)
  replace h643 := h643.move (K950.at 6 rfl)
  replace h706 := h706.move (K950.at 7 rfl)
  replace h710 := h710.move (K950.at 8 rfl)
  replace b654 := K950.blk 9 rfl b654
  replace b633 := K950.blk 10 rfl b633
  replace b32 := K950.blk 12 rfl b32
  replace b27 := K950.blk 13 rfl b27
  replace b22 := K950.blk 14 rfl b22
  replace h66 := h66.move (K950.at 15 rfl)
  replace h71 := h71.move (K950.at 16 rfl)
  replace b61 := K950.blk 17 rfl b61
  have E951 := T942.ext
  replace h905 := h905.ext E951
  replace h857 := h857.ext E951
  replace h792 := h792.ext E951
  replace h796 := h796.ext E951
  replace h622 := h622.ext E951
  replace h643 := h643.ext E951
  replace h706 := h706.ext E951
  replace h710 := h710.ext E951
  replace h66 := h66.ext E951
  replace h71 := h71.ext E951
  refine lV 15 (eA (.int .i64 t938.1)) (wN (then_n (wp_seq (wR (lV 85 (e_loadS (b := g628) (off := 0) (cs := [.int .i64 t615.kind, .int .i64 t615.n, .slice A620 t615.text.length c621]) Try.underlying36 rfl (by kernel_rfl) (by kernel_rfl) (blk_cells b633 rfl)) (lV 86 (eM (.int .i64 t938.1)) ?_))))))
  have S952 := S949.pulls [F623, F944, F947, F906, F858, F793, F797, (is g731), F644, F707, F711, (is g649), (is g628), (is g607), (is g31), (is g26), (is g21), F65, F70, (is g60)] [7] rfl
  obtain ⟨t953, u954, M⟩ := bnd M
  refine lC 87 (eC [.tmp 85, .tmp 86] [.agg #[.int .i64 t615.kind, .int .i64 t615.n, .slice A620 t615.text.length c621], .int .i64 t938.1] Try.func20) (laws_markCell_2.calls k w940 H941 t615 A620 c621 F623 t938.1 h622 (St.own' (Fa := [F623]) (Fr := [F944, F947, F906, F858, F793, F797, (is g731), F644, F707, F711, (is g649), (is g628), (is g607), (is g31), (is g26), (is g21), F65, F70, (is g60)]) S952) t953 u954) ?_
  rintro _ w955 ⟨F959, H956, rfl, n960, h958, T957⟩
  refine ⟨_, rfl, ?_⟩
  obtain ⟨S961, K962⟩ := St.call (Fa := [F623]) (Fr := [F944, F947, F906, F858, F793, F797, (is g731), F644, F707, F711, (is g649), (is g628), (is g607), (is g31), (is g26), (is g21), F65, F70, (is g60)]) S952 T957
  replace h943 := h943.move (K962.at 0 rfl)
  replace h946 := h946.move (K962.at 1 rfl)
  replace h905 := h905.move (K962.at 2 rfl)
  replace h857 := h857.move (K962.at 3 rfl)
  replace h792 := h792.move (K962.at 4 rfl)
  replace h796 := h796.move (K962.at 5 rfl)
  replace b736 := K962.blk 6 rfl b736
  replace h643 := h643.move (K962.at 7 rfl)
  replace h706 := h706.move (K962.at 8 rfl)
  replace h710 := h710.move (K962.at 9 rfl)
  replace b654 := K962.blk 10 rfl b654
  replace b32 := K962.blk 13 rfl b32
  replace b27 := K962.blk 14 rfl b27
  replace b22 := K962.blk 15 rfl b22
  replace h66 := h66.move (K962.at 16 rfl)
  replace h71 := h71.move (K962.at 17 rfl)
  replace b61 := K962.blk 18 rfl b61
  have E963 := T957.ext
  replace h943 := h943.ext E963
  replace h946 := h946.ext E963
  replace h905 := h905.ext E963
  replace h857 := h857.ext E963
  replace h792 := h792.ext E963
  replace h796 := h796.ext E963
  replace h643 := h643.ext E963
  replace h706 := h706.ext E963
  replace h710 := h710.ext E963
  replace h66 := h66.ext E963
  replace h71 := h71.ext E963
  refine lV 15 (eA (.int .i64 t953.1)) (wN (then_n (wp_seq (wR (lV 88 (e_loadS (b := g649) (off := 0) (cs := [.int .i64 t636.kind, .int .i64 t636.n, .slice A641 t636.text.length c642]) Try.underlying36 rfl (by kernel_rfl) (by kernel_rfl) (blk_cells b654 rfl)) (lV 89 (eM (.int .i64 t953.1)) ?_))))))
  have S964 := S961.pulls [F644, F959, F944, F947, F906, F858, F793, F797, (is g731), F707, F711, (is g649), (is g628), (is g607), (is g31), (is g26), (is g21), F65, F70, (is g60)] [8] rfl
  obtain ⟨t965, u966, M⟩ := bnd M
  refine lC 90 (eC [.tmp 88, .tmp 89] [.agg #[.int .i64 t636.kind, .int .i64 t636.n, .slice A641 t636.text.length c642], .int .i64 t953.1] Try.func20) (laws_markCell_2.calls k w955 H956 t636 A641 c642 F644 t953.1 h643 (St.own' (Fa := [F644]) (Fr := [F959, F944, F947, F906, F858, F793, F797, (is g731), F707, F711, (is g649), (is g628), (is g607), (is g31), (is g26), (is g21), F65, F70, (is g60)]) S964) t965 u966) ?_
  rintro _ w967 ⟨F971, H968, rfl, n972, h970, T969⟩
  refine ⟨_, rfl, ?_⟩
  obtain ⟨S973, K974⟩ := St.call (Fa := [F644]) (Fr := [F959, F944, F947, F906, F858, F793, F797, (is g731), F707, F711, (is g649), (is g628), (is g607), (is g31), (is g26), (is g21), F65, F70, (is g60)]) S964 T969
  replace h958 := h958.move (K974.at 0 rfl)
  replace h943 := h943.move (K974.at 1 rfl)
  replace h946 := h946.move (K974.at 2 rfl)
  replace h905 := h905.move (K974.at 3 rfl)
  replace h857 := h857.move (K974.at 4 rfl)
  replace h792 := h792.move (K974.at 5 rfl)
  replace h796 := h796.move (K974.at 6 rfl)
  replace b736 := K974.blk 7 rfl b736
  replace h706 := h706.move (K974.at 8 rfl)
  replace h710 := h710.move (K974.at 9 rfl)
  replace b32 := K974.blk 13 rfl b32
  replace b27 := K974.blk 14 rfl b27
  replace b22 := K974.blk 15 rfl b22
  replace h66 := h66.move (K974.at 16 rfl)
  replace h71 := h71.move (K974.at 17 rfl)
  replace b61 := K974.blk 18 rfl b61
  have E975 := T969.ext
  replace h958 := h958.ext E975
  replace h943 := h943.ext E975
  replace h946 := h946.ext E975
  replace h905 := h905.ext E975
  replace h857 := h857.ext E975
  replace h792 := h792.ext E975
  replace h796 := h796.ext E975
  replace h706 := h706.ext E975
  replace h710 := h710.ext E975
  replace h66 := h66.ext E975
  replace h71 := h71.ext E975
  refine lV 15 (eA (.int .i64 t965.1)) (wN (then_n (wp_seq (wp_seq (wR (lV 91 (eM (.int .i64 t965.1)) (lV 92 (eLt .i64 t965.1 0) ?_)))))))
  refine lV 93 (eM (.bool (decide (t965.1 < 0)))) ?_
  by_cases q976 : t965.1 < 0
  · replace M := ifp q976 M
    refine lK 93 true (bT q976) ?_
    refine lK 93 true (bT q976) ?_
    refine lK 93 true (bT q976) ?_
    refine lK 93 true (bT q976) ?_
    refine lV 98 (eT (.bool true) (bT q976)) (lV 99 (eM (.bool true)) ?_)
    refine lJ 99 true ?_
    refine lJ 99 true ?_
    refine lJ 99 true ?_
    refine lV 103 (eT (.bool true)) (wN (then_n (cond_t rfl (by kernel_rfl) (wp_seq (wR (lV 6 (eA (.bool false)) (wN ?_)))))))
    refine then_n (wp_ret (then_r ?_))
    obtain rfl := Option.some.inj M
    exact ret1 rfl rfl  (show _ = .bool false from (by kernel_rfl)) ⟨rfl, S973.chg⟩
  replace M := ifn q976 M
  refine lG 94 93 (bF q976) (e_loadS (b := g731) (off := 0) (cs := [.slice A704 t699.1.cells.length c705, .slice A708 t699.1.trail.length c709]) Try.underlying34 rfl (by kernel_rfl) (by kernel_rfl) (blk_cells b736 rfl)) (lG 95 93 (bF q976) (e_loadS (b := g60) (off := 0) (cs := [.slice A63 x62.length c64, .slice A68 x67.length c69]) Try.underlying34 rfl (by kernel_rfl) (by exact e76) (blk_cells b61 rfl)) ?_)
  obtain ⟨t977, u978, M⟩ := bnd M
  refine lcallg (d := 96) (t := 93) rfl (by kernel_rfl) rfl (bF q976) rfl (by kernel_rfl) (eC [.tmp 94, .tmp 95] [.agg #[.slice A704 t699.1.cells.length c705, .slice A708 t699.1.trail.length c709], .agg #[.slice A63 x62.length c64, .slice A68 x67.length c69]] Try.func15) (by have l979 := h706.le; have S980 := S973.pull (F := F707) (Fr := [F971, F959, F944, F947, F906, F858, F793, F797, (is g731), F711, (is g649), (is g628), (is g607), (is g31), (is g26), (is g21), F65, F70, (is g60)]) 9 rfl rfl; obtain ⟨H981, S982, E983, h984, z985⟩ := S980.frzRow h706; replace h970 := h970.ext E983; replace h958 := h958.ext E983; replace h943 := h943.ext E983; replace h946 := h946.ext E983; replace h905 := h905.ext E983; replace h857 := h857.ext E983; replace h792 := h792.ext E983; replace h796 := h796.ext E983; replace h710 := h710.ext E983; replace h66 := h66.ext E983; replace h71 := h71.ext E983; have l986 := h710.le; have S987 := S982.pull (F := F711) (Fr := [F971, F959, F944, F947, F906, F858, F793, F797, (is g731), (is g649), (is g628), (is g607), (is g31), (is g26), (is g21), F65, F70, (is g60)]) 9 rfl rfl; obtain ⟨H988, S989, E990, h991, z992⟩ := S987.frzRow h710; replace h970 := h970.ext E990; replace h958 := h958.ext E990; replace h943 := h943.ext E990; replace h946 := h946.ext E990; replace h905 := h905.ext E990; replace h857 := h857.ext E990; replace h792 := h792.ext E990; replace h796 := h796.ext E990; replace h66 := h66.ext E990; replace h71 := h71.ext E990; have l993 := h66.le; have S994 := S989.pull (F := F65) (Fr := [F971, F959, F944, F947, F906, F858, F793, F797, (is g731), (is g649), (is g628), (is g607), (is g31), (is g26), (is g21), F70, (is g60)]) 15 rfl rfl; obtain ⟨H995, S996, E997, h998, z999⟩ := S994.frzRow h66; replace h970 := h970.ext E997; replace h958 := h958.ext E997; replace h943 := h943.ext E997; replace h946 := h946.ext E997; replace h905 := h905.ext E997; replace h857 := h857.ext E997; replace h792 := h792.ext E997; replace h796 := h796.ext E997; replace h71 := h71.ext E997; have l1000 := h71.le; have S1001 := S996.pull (F := F70) (Fr := [F971, F959, F944, F947, F906, F858, F793, F797, (is g731), (is g649), (is g628), (is g607), (is g31), (is g26), (is g21), (is g60)]) 15 rfl rfl; obtain ⟨H1002, S1003, E1004, h1005, z1006⟩ := S1001.frzRow h71; replace h970 := h970.ext E1004; replace h958 := h958.ext E1004; replace h943 := h943.ext E1004; replace h946 := h946.ext E1004; replace h905 := h905.ext E1004; replace h857 := h857.ext E1004; replace h792 := h792.ext E1004; replace h796 := h796.ext E1004; exact (laws_eqStore.calls k w967 H1002 t699.1 A704 c705 A708 c709 (⟨x62, x67⟩ : Store) A63 c64 A68 c69 (h984.ext ((E990.trans E997).trans E1004)) l979 (h991.ext (E997.trans E1004)) l986 (h998.ext E1004) l993 h1005 l1000 S1003.own0 t977 u978)) ?_
  rintro _ w1007 ⟨rfl, C1008⟩
  refine ⟨_, rfl, ?_⟩
  obtain ⟨S1009, K1010⟩ := S973.still C1008
  replace h970 := h970.move (K1010.at 0 rfl)
  replace h958 := h958.move (K1010.at 1 rfl)
  replace h943 := h943.move (K1010.at 2 rfl)
  replace h946 := h946.move (K1010.at 3 rfl)
  replace h905 := h905.move (K1010.at 4 rfl)
  replace h857 := h857.move (K1010.at 5 rfl)
  replace h792 := h792.move (K1010.at 6 rfl)
  replace h796 := h796.move (K1010.at 7 rfl)
  replace b736 := K1010.blk 8 rfl b736
  replace h706 := h706.move (K1010.at 9 rfl)
  replace h710 := h710.move (K1010.at 10 rfl)
  replace b32 := K1010.blk 14 rfl b32
  replace b27 := K1010.blk 15 rfl b27
  replace b22 := K1010.blk 16 rfl b22
  replace h66 := h66.move (K1010.at 17 rfl)
  replace h71 := h71.move (K1010.at 18 rfl)
  replace b61 := K1010.blk 19 rfl b61
  refine lG 97 93 (bF q976) (e_notv (c := t977) (by kernel_rfl)) (lV 98 (eF (.bool (decide (¬ (t977 = true)))) (bF q976)) (lV 99 (eM (.bool (decide (¬ (t977 = true))))) ?_))
  by_cases q1011 : ¬ (t977 = true)
  · replace M := ifp q1011 M
    refine lK 99 true (bT q1011) ?_
    refine lK 99 true (bT q1011) ?_
    refine lK 99 true (bT q1011) ?_
    refine lV 103 (eT (.bool true) (bT q1011)) (wN (then_n (cond_t rfl (by kernel_rfl) (wp_seq (wR (lV 6 (eA (.bool false)) (wN ?_)))))))
    refine then_n (wp_ret (then_r ?_))
    obtain rfl := Option.some.inj M
    exact ret1 rfl rfl  (show _ = .bool false from (by kernel_rfl)) ⟨rfl, S1009.chg⟩
  replace M := ifn q1011 M
  refine lG 100 99 (bF q1011) (eM (.int .i64 t699.2)) (lG 101 99 (bF q1011) (eM (.int .i64 x72) (by exact e77)) (lG 102 99 (bF q1011) (eNe .i64 t699.2 x72) (lV 103 (eF (.bool (decide (t699.2 ≠ x72))) (bF q1011)) (wN (then_n (cF (bF q774) (wp_skip ?_)))))))
  refine then_n (wp_seq (wR (lV 16 (eA (.int .i64 1)) (wN (then_n (wp_seq (wR ?_)))))))
  refine lV 104 (e_loadS (b := g731) (off := 0) (cs := [.slice A704 t699.1.cells.length c705, .slice A708 t699.1.trail.length c709]) Try.underlying34 rfl (by kernel_rfl) (by kernel_rfl) (blk_cells b736 rfl)) (lV 105 (eM (.int .i64 1)) ?_)
  have S1013 := S1009.pulls [F707, F711, F971, F959, F944, F947, F906, F858, F793, F797, (is g731), (is g649), (is g628), (is g607), (is g31), (is g26), (is g21), F65, F70, (is g60)] [10, 10] rfl
  obtain ⟨t1014, u1015, M⟩ := bnd M
  refine lC 106 (eC [.tmp 104, .tmp 105] [.agg #[.slice A704 t699.1.cells.length c705, .slice A708 t699.1.trail.length c709], .int .i64 1] Try.func19) (laws_markStore_2.calls k w1007 H968 t699.1 A704 c705 F707 A708 c709 F711 1 h706 h710 (St.own' (Fa := [F707, F711]) (Fr := [F971, F959, F944, F947, F906, F858, F793, F797, (is g731), (is g649), (is g628), (is g607), (is g31), (is g26), (is g21), F65, F70, (is g60)]) S1013) t1014 u1015) ?_
  rintro _ w1016 ⟨F1020, F1023, H1017, rfl, n1021, h1019, n1024, h1022, T1018⟩
  refine ⟨_, rfl, ?_⟩
  obtain ⟨S1025, K1026⟩ := St.call (Fa := [F707, F711]) (Fr := [F971, F959, F944, F947, F906, F858, F793, F797, (is g731), (is g649), (is g628), (is g607), (is g31), (is g26), (is g21), F65, F70, (is g60)]) S1013 T1018
  replace h970 := h970.move (K1026.at 0 rfl)
  replace h958 := h958.move (K1026.at 1 rfl)
  replace h943 := h943.move (K1026.at 2 rfl)
  replace h946 := h946.move (K1026.at 3 rfl)
  replace h905 := h905.move (K1026.at 4 rfl)
  replace h857 := h857.move (K1026.at 5 rfl)
  replace h792 := h792.move (K1026.at 6 rfl)
  replace h796 := h796.move (K1026.at 7 rfl)
  replace b736 := K1026.blk 8 rfl b736
  replace b32 := K1026.blk 12 rfl b32
  replace b27 := K1026.blk 13 rfl b27
  replace b22 := K1026.blk 14 rfl b22
  replace h66 := h66.move (K1026.at 15 rfl)
  replace h71 := h71.move (K1026.at 16 rfl)
  replace b61 := K1026.blk 17 rfl b61
  have E1027 := T1018.ext
  replace h970 := h970.ext E1027
  replace h958 := h958.ext E1027
  replace h943 := h943.ext E1027
  replace h946 := h946.ext E1027
  replace h905 := h905.ext E1027
  replace h857 := h857.ext E1027
  replace h792 := h792.ext E1027
  replace h796 := h796.ext E1027
  replace h66 := h66.ext E1027
  replace h71 := h71.ext E1027
  refine lV 16 (eA (.int .i64 t1014.1)) (wN (then_n (wp_seq (wR (lV 17 (eA (.int .i64 1)) (wN (then_n ?_)))))))
  refine wp_seq (wR (lV 107 (e_loadS (b := g731) (off := 0) (cs := [.slice A704 t699.1.cells.length c705, .slice A708 t699.1.trail.length c709]) Try.underlying34 rfl (by kernel_rfl) (by kernel_rfl) (blk_cells b736 rfl)) (lV 108 (eM (.int .i64 1)) ?_)))
  obtain ⟨t1028, u1029, M⟩ := bnd M
  refine lC 109 (eC [.tmp 107, .tmp 108] [.agg #[.slice A704 t699.1.cells.length c705, .slice A708 t699.1.trail.length c709], .int .i64 1] Try.func29) (by have l1030 := h1019.le; obtain ⟨H1031, S1032, E1033, h1034, z1035⟩ := S1025.frzRow h1019; replace h1022 := h1022.ext E1033; replace h970 := h970.ext E1033; replace h958 := h958.ext E1033; replace h943 := h943.ext E1033; replace h946 := h946.ext E1033; replace h905 := h905.ext E1033; replace h857 := h857.ext E1033; replace h792 := h792.ext E1033; replace h796 := h796.ext E1033; replace h66 := h66.ext E1033; replace h71 := h71.ext E1033; have l1036 := h1022.le; obtain ⟨H1037, S1038, E1039, h1040, z1041⟩ := S1032.frzRow h1022; replace h970 := h970.ext E1039; replace h958 := h958.ext E1039; replace h943 := h943.ext E1039; replace h946 := h946.ext E1039; replace h905 := h905.ext E1039; replace h857 := h857.ext E1039; replace h792 := h792.ext E1039; replace h796 := h796.ext E1039; replace h66 := h66.ext E1039; replace h71 := h71.ext E1039; exact (by have q_ := (laws_heldStore.calls k w1016 H1037 (⟨t1014.2.1, t1014.2.2⟩ : Store) A704 c705 A708 c709 1 (h1034.ext E1039) l1030 h1040 l1036 S1038.own0 t1028 u1029); rw [(show t1014.2.1.length = t699.1.cells.length from n1021), (show t1014.2.2.length = t699.1.trail.length from n1024)] at q_; exact q_)) ?_
  rintro _ w1042 ⟨rfl, C1043⟩
  refine ⟨_, rfl, ?_⟩
  obtain ⟨S1044, K1045⟩ := S1025.still C1043
  replace h1019 := h1019.move (K1045.at 0 rfl)
  replace h1022 := h1022.move (K1045.at 1 rfl)
  replace b736 := K1045.blk 10 rfl b736
  replace b32 := K1045.blk 14 rfl b32
  replace b27 := K1045.blk 15 rfl b27
  replace b22 := K1045.blk 16 rfl b22
  replace h66 := h66.move (K1045.at 17 rfl)
  replace h71 := h71.move (K1045.at 18 rfl)
  replace b61 := K1045.blk 19 rfl b61
  refine lV 17 (eA (.int .i64 t1028)) (wN (then_n (wp_seq (wp_seq (wR (lV 110 (eM (.int .i64 t1028)) (lV 111 (eLt .i64 t1028 0) ?_)))))))
  refine wN (then_n ?_)
  by_cases q1046 : t1028 < 0
  · replace M := ifp q1046 M
    refine cT (bT q1046) (wp_seq (wR (lV 6 (eA (.bool false)) (wN (then_n (wp_ret (then_r ?_)))))))
    obtain rfl := Option.some.inj M
    exact ret1 rfl rfl  (show _ = .bool false from (by kernel_rfl)) ⟨rfl, S1044.chg⟩
  replace M := ifn q1046 M
  refine cF (bF q1046) (wp_skip (then_n (wp_seq (wp_seq (wR (lV 112 (eM (.int .i64 t1028)) (lV 113 (eM (.int .i64 t1014.1)) ?_)))))))
  refine lV 114 (eNe .i64 t1028 t1014.1) (wN (then_n ?_))
  by_cases q1047 : t1028 ≠ t1014.1
  · replace M := ifp q1047 M
    refine cT (bT q1047) (wp_seq (wR (lV 6 (eA (.bool false)) (wN (then_n (wp_ret (then_r ?_)))))))
    obtain rfl := Option.some.inj M
    exact ret1 rfl rfl  (show _ = .bool false from (by kernel_rfl)) ⟨rfl, S1044.chg⟩
  replace M := ifn q1047 M
  refine cF (bF q1047) (wp_skip (then_n (wp_seq ?_)))
  refine wp_cut (fun a1074 w1048 => ∃ (f1049 : Nat → Value) (H1050 : Hp) (g1052 : Nat) (x1054 : List Cell) (A1055 : Option Addr) (c1056 : Nat) (F1057 : Foot) (x1059 : List Int) (A1060 : Option Addr) (c1061 : Nat) (F1062 : Foot) (x1064 : Int), a1074 = mk 142 f1049 ∧ f1049 8 = .pointer (some ⟨g60, 0, none⟩) ∧ f1049 9 = .int .i64 x72 ∧ f1049 13 = .pointer (some ⟨g731, 0, none⟩) ∧ f1049 16 = .int .i64 t1014.1 ∧ f1049 18 = .pointer (some ⟨g1052, 0, none⟩) ∧ f1049 19 = .int .i64 x1064 ∧ Row st36 36 H1050 (hp w1048) F1020 A704 c705 t1014.2.1 ∧ Row tInt 3 H1050 (hp w1048) F1023 A708 c709 t1014.2.2 ∧ w1048.heap[g731]? = some (.cells #[.slice A704 t699.1.cells.length c705, .slice A708 t699.1.trail.length c709] 34 (0, 0)) ∧ Row st36 36 H1050 (hp w1048) F65 A63 c64 x62 ∧ Row tInt 3 H1050 (hp w1048) F70 A68 c69 x67 ∧ w1048.heap[g60]? = some (.cells #[.slice A63 x62.length c64, .slice A68 x67.length c69] 34 (0, 0)) ∧ Row st36 36 H1050 (hp w1048) F1057 A1055 c1056 x1054 ∧ Row tInt 3 H1050 (hp w1048) F1062 A1060 c1061 x1059 ∧ w1048.heap[g1052]? = some (.cells #[.slice A1055 x1054.length c1056, .slice A1060 x1059.length c1061] 34 (0, 0)) ∧ Ext H1017 H1050 ∧ St (anyOf []) H w [F1020, F1023, (is g731), F65, F70, (is g60), F1057, F1062, (is g1052)] H1050 w1048 ∧ laws_FnExactUnifyStore.l1 k x62 x67 x72 t1014 x1054 x1059 x1064 = some r) ?_ ?_
  · refine region_mix (S := (fun (L_ : Array Bool) (w_ : World) => Ext H1017 (hp w_) ∧ (∀ b_, (is g31) b_ → hp w_ b_ = hp w1042 b_) ∧ (∀ b_, (is g26) b_ → hp w_ b_ = hp w1042 b_) ∧ (∀ b_, (is g21) b_ → hp w_ b_ = hp w1042 b_))) (by kernel_rfl) S1044 ?_
    intro w1075 S1076 K1077 hc1078
    have o1079 := b32
    have o1080 := b27
    have o1081 := b22
    have hs1082 : (fun (L_ : Array Bool) (w_ : World) => Ext H1017 (hp w_) ∧ (∀ b_, (is g31) b_ → hp w_ b_ = hp w1042 b_) ∧ (∀ b_, (is g26) b_ → hp w_ b_ = hp w1042 b_) ∧ (∀ b_, (is g21) b_ → hp w_ b_ = hp w1042 b_)) (Array.replicate 13 false) w1075 := ⟨S1076.inv, (fun b_ h_ => K1077.at 14 rfl b_ h_), (fun b_ h_ => K1077.at 15 rfl b_ h_), (fun b_ h_ => K1077.at 16 rfl b_ h_)⟩
    replace h1019 := h1019.move (K1077.at 0 rfl)
    replace h1022 := h1022.move (K1077.at 1 rfl)
    replace b736 := K1077.blk 10 rfl b736
    replace h66 := h66.move (K1077.at 17 rfl)
    replace h71 := h71.move (K1077.at 18 rfl)
    replace b61 := K1077.blk 19 rfl b61
    refine xV 0 116 rfl hc1078 hs1082 (fun L_ w_ hc_ hu_ hs_ => e_loadS (b := g21) (off := 0) (cs := [.slice A2 x1.cells.length c3, .slice A6 x1.trail.length c7]) Try.underlying25 rfl (by kernel_rfl) (by exact e73) (blk_cells ((hs_.2.2.2 _ rfl).trans o1081) rfl)) ?_; intro hc1083 hs1084
    refine xV 2 118 rfl hc1083 hs1084 (fun L_ w_ hc_ hu_ hs_ => e_loadS (b := g26) (off := 0) (cs := [.int .i64 x10.kind, .int .i64 x10.n, .slice A11 x10.text.length c12]) Try.underlying28 rfl (by kernel_rfl) (by exact e74) (blk_cells ((hs_.2.2.1 _ rfl).trans o1080) rfl)) ?_; intro hc1085 hs1086
    refine xV 4 120 rfl hc1085 hs1086 (fun L_ w_ hc_ hu_ hs_ => e_loadS (b := g31) (off := 0) (cs := [.int .i64 x15.kind, .int .i64 x15.n, .slice A16 x15.text.length c17]) Try.underlying28 rfl (by kernel_rfl) (by exact e75) (blk_cells ((hs_.2.1 _ rfl).trans o1079) rfl)) ?_; intro hc1087 hs1088
    refine xall [1, 10] (by kernel_rfl) (by decide) hc1087 (List.forall_mem_cons.2 ⟨?_, List.forall_mem_cons.2 ⟨?_, fun _ h_ => by cases h_⟩⟩)
    · obtain ⟨t1089, u1090, M⟩ := bnd M
      refine yC 1 rfl (eC [.tmp 116] [.agg #[.slice A2 x1.cells.length c3, .slice A6 x1.trail.length c7]] Try.func12) (laws_toStore.calls k w1075 H1017 x1 A2 c3 A6 c7 (h4.ext (((((((((((Y59.trans E605).trans E626).trans E647).trans E728).trans E801).trans E862).trans E910).trans E951).trans E963).trans E975).trans E1027)) l5 (h8.ext (((((((((((Y59.trans E605).trans E626).trans E647).trans E728).trans E801).trans E862).trans E910).trans E951).trans E963).trans E975).trans E1027)) l9 (St.own' (Fa := []) (Fr := [F1020, F1023, F971, F959, F944, F947, F906, F858, F793, F797, (is g731), (is g649), (is g628), (is g607), (is g31), (is g26), (is g21), F65, F70, (is g60)]) S1076) t1089 u1090) ?_
      rintro hc1102 _ w1091 ⟨A1094, c1095, F1097, A1098, c1099, F1101, H1092, rfl, h1096, h1100, T1093⟩
      refine ⟨_, rfl, ?_⟩
      obtain ⟨S1103, K1104⟩ := St.call (Fa := []) (Fr := [F1020, F1023, F971, F959, F944, F947, F906, F858, F793, F797, (is g731), (is g649), (is g628), (is g607), (is g31), (is g26), (is g21), F65, F70, (is g60)]) S1076 T1093
      replace h1019 := h1019.move (K1104.at 0 rfl)
      replace h1022 := h1022.move (K1104.at 1 rfl)
      replace b736 := K1104.blk 10 rfl b736
      replace h66 := h66.move (K1104.at 17 rfl)
      replace h71 := h71.move (K1104.at 18 rfl)
      replace b61 := K1104.blk 19 rfl b61
      have E1105 := T1093.ext
      replace h1019 := h1019.ext E1105
      replace h1022 := h1022.ext E1105
      replace h66 := h66.ext E1105
      replace h71 := h71.ext E1105
      refine ⟨⟨(Ext.trans E1105 S1103.inv), (fun b_ h_ => (K1104.at 14 rfl b_ h_).trans (hs1088.2.1 b_ h_)), (fun b_ h_ => (K1104.at 15 rfl b_ h_).trans (hs1088.2.2.1 b_ h_)), (fun b_ h_ => (K1104.at 16 rfl b_ h_).trans (hs1088.2.2.2 b_ h_))⟩, fun hs1106 => ?_⟩
      refine xall [3, 10] (by kernel_rfl) (by decide) hc1102 (List.forall_mem_cons.2 ⟨?_, List.forall_mem_cons.2 ⟨?_, fun _ h_ => by cases h_⟩⟩)
      · obtain ⟨t1107, u1108, M⟩ := bnd M
        refine yC 3 rfl (eC [.tmp 118] [.agg #[.int .i64 x10.kind, .int .i64 x10.n, .slice A11 x10.text.length c12]] Try.func13) (laws_toCell.calls k w1091 H1092 x10 A11 c12 (h13.ext ((((((((((((Y59.trans E605).trans E626).trans E647).trans E728).trans E801).trans E862).trans E910).trans E951).trans E963).trans E975).trans E1027).trans E1105)) l14 (St.own' (Fa := []) (Fr := [F1097, F1101, F1020, F1023, F971, F959, F944, F947, F906, F858, F793, F797, (is g731), (is g649), (is g628), (is g607), (is g31), (is g26), (is g21), F65, F70, (is g60)]) S1103) t1107 u1108) ?_
        rintro hc1116 _ w1109 ⟨A1112, c1113, F1115, H1110, rfl, h1114, T1111⟩
        refine ⟨_, rfl, ?_⟩
        obtain ⟨S1117, K1118⟩ := St.call (Fa := []) (Fr := [F1097, F1101, F1020, F1023, F971, F959, F944, F947, F906, F858, F793, F797, (is g731), (is g649), (is g628), (is g607), (is g31), (is g26), (is g21), F65, F70, (is g60)]) S1103 T1111
        replace h1096 := h1096.move (K1118.at 0 rfl)
        replace h1100 := h1100.move (K1118.at 1 rfl)
        replace h1019 := h1019.move (K1118.at 2 rfl)
        replace h1022 := h1022.move (K1118.at 3 rfl)
        replace b736 := K1118.blk 12 rfl b736
        replace h66 := h66.move (K1118.at 19 rfl)
        replace h71 := h71.move (K1118.at 20 rfl)
        replace b61 := K1118.blk 21 rfl b61
        have E1119 := T1111.ext
        replace h1096 := h1096.ext E1119
        replace h1100 := h1100.ext E1119
        replace h1019 := h1019.ext E1119
        replace h1022 := h1022.ext E1119
        replace h66 := h66.ext E1119
        replace h71 := h71.ext E1119
        refine ⟨⟨(Ext.trans (E1105.trans E1119) S1117.inv), (fun b_ h_ => (K1118.at 16 rfl b_ h_).trans (hs1106.2.1 b_ h_)), (fun b_ h_ => (K1118.at 17 rfl b_ h_).trans (hs1106.2.2.1 b_ h_)), (fun b_ h_ => (K1118.at 18 rfl b_ h_).trans (hs1106.2.2.2 b_ h_))⟩, fun hs1120 => ?_⟩
        refine xall [5, 10] (by kernel_rfl) (by decide) hc1116 (List.forall_mem_cons.2 ⟨?_, List.forall_mem_cons.2 ⟨?_, fun _ h_ => by cases h_⟩⟩)
        · obtain ⟨t1121, u1122, M⟩ := bnd M
          refine yC 5 rfl (eC [.tmp 120] [.agg #[.int .i64 x15.kind, .int .i64 x15.n, .slice A16 x15.text.length c17]] Try.func13) (laws_toCell.calls k w1109 H1110 x15 A16 c17 (h18.ext (((((((((((((Y59.trans E605).trans E626).trans E647).trans E728).trans E801).trans E862).trans E910).trans E951).trans E963).trans E975).trans E1027).trans E1105).trans E1119)) l19 (St.own' (Fa := []) (Fr := [F1115, F1097, F1101, F1020, F1023, F971, F959, F944, F947, F906, F858, F793, F797, (is g731), (is g649), (is g628), (is g607), (is g31), (is g26), (is g21), F65, F70, (is g60)]) S1117) t1121 u1122) ?_
          rintro hc1130 _ w1123 ⟨A1126, c1127, F1129, H1124, rfl, h1128, T1125⟩
          refine ⟨_, rfl, ?_⟩
          obtain ⟨S1131, K1132⟩ := St.call (Fa := []) (Fr := [F1115, F1097, F1101, F1020, F1023, F971, F959, F944, F947, F906, F858, F793, F797, (is g731), (is g649), (is g628), (is g607), (is g31), (is g26), (is g21), F65, F70, (is g60)]) S1117 T1125
          replace h1114 := h1114.move (K1132.at 0 rfl)
          replace h1096 := h1096.move (K1132.at 1 rfl)
          replace h1100 := h1100.move (K1132.at 2 rfl)
          replace h1019 := h1019.move (K1132.at 3 rfl)
          replace h1022 := h1022.move (K1132.at 4 rfl)
          replace b736 := K1132.blk 13 rfl b736
          replace h66 := h66.move (K1132.at 20 rfl)
          replace h71 := h71.move (K1132.at 21 rfl)
          replace b61 := K1132.blk 22 rfl b61
          have E1133 := T1125.ext
          replace h1114 := h1114.ext E1133
          replace h1096 := h1096.ext E1133
          replace h1100 := h1100.ext E1133
          replace h1019 := h1019.ext E1133
          replace h1022 := h1022.ext E1133
          replace h66 := h66.ext E1133
          replace h71 := h71.ext E1133
          refine ⟨⟨(Ext.trans ((E1105.trans E1119).trans E1133) S1131.inv), (fun b_ h_ => (K1132.at 17 rfl b_ h_).trans (hs1120.2.1 b_ h_)), (fun b_ h_ => (K1132.at 18 rfl b_ h_).trans (hs1120.2.2.1 b_ h_)), (fun b_ h_ => (K1132.at 19 rfl b_ h_).trans (hs1120.2.2.2 b_ h_))⟩, fun hs1134 => ?_⟩
          refine xall [6, 10] (by kernel_rfl) (by decide) hc1130 (List.forall_mem_cons.2 ⟨?_, List.forall_mem_cons.2 ⟨?_, fun _ h_ => by cases h_⟩⟩)
          · have l1135 := h1096.le
            have S1136 := S1131.pulls [F1097, F1129, F1115, F1101, F1020, F1023, F971, F959, F944, F947, F906, F858, F793, F797, (is g731), (is g649), (is g628), (is g607), (is g31), (is g26), (is g21), F65, F70, (is g60)] [2] rfl
            obtain ⟨H1137, S1138, E1139, h1140, z1141⟩ := S1136.frzRow h1096
            replace h1128 := h1128.ext E1139
            replace h1114 := h1114.ext E1139
            replace h1100 := h1100.ext E1139
            replace h1019 := h1019.ext E1139
            replace h1022 := h1022.ext E1139
            replace h66 := h66.ext E1139
            replace h71 := h71.ext E1139
            have l1142 := h1100.le
            have S1143 := S1138.pulls [F1101, F1129, F1115, F1020, F1023, F971, F959, F944, F947, F906, F858, F793, F797, (is g731), (is g649), (is g628), (is g607), (is g31), (is g26), (is g21), F65, F70, (is g60)] [2] rfl
            obtain ⟨H1144, S1145, E1146, h1147, z1148⟩ := S1143.frzRow h1100
            replace h1128 := h1128.ext E1146
            replace h1114 := h1114.ext E1146
            replace h1019 := h1019.ext E1146
            replace h1022 := h1022.ext E1146
            replace h66 := h66.ext E1146
            replace h71 := h71.ext E1146
            have l1149 := h1114.le
            have S1150 := S1145.pulls [F1115, F1129, F1020, F1023, F971, F959, F944, F947, F906, F858, F793, F797, (is g731), (is g649), (is g628), (is g607), (is g31), (is g26), (is g21), F65, F70, (is g60)] [1] rfl
            obtain ⟨H1151, S1152, E1153, h1154, z1155⟩ := S1150.frzRow h1114
            replace h1128 := h1128.ext E1153
            replace h1019 := h1019.ext E1153
            replace h1022 := h1022.ext E1153
            replace h66 := h66.ext E1153
            replace h71 := h71.ext E1153
            have l1156 := h1128.le
            obtain ⟨H1157, S1158, E1159, h1160, z1161⟩ := S1152.frzRow h1128
            replace h1019 := h1019.ext E1159
            replace h1022 := h1022.ext E1159
            replace h66 := h66.ext E1159
            replace h71 := h71.ext E1159
            obtain ⟨t1162, u1163, M⟩ := bnd M
            refine yC 6 rfl (eC [.tmp 117, .tmp 119, .tmp 121] [.agg #[.slice A1094 t1089.cells.length c1095, .slice A1098 t1089.trail.length c1099], .agg #[.int .i64 t1107.kind, .int .i64 t1107.n, .slice A1112 t1107.text.length c1113], .agg #[.int .i64 t1121.kind, .int .i64 t1121.n, .slice A1126 t1121.text.length c1127]] Try.func33) (impl_UnifyStore.calls k w1123 H1157 t1089 A1094 c1095 A1098 c1099 t1107 A1112 c1113 t1121 A1126 c1127 (h1140.ext ((E1146.trans E1153).trans E1159)) l1135 (h1147.ext (E1153.trans E1159)) l1142 (h1154.ext E1159) l1149 h1160 l1156 (St.own' (Fa := []) (Fr := [F1020, F1023, F971, F959, F944, F947, F906, F858, F793, F797, (is g731), (is g649), (is g628), (is g607), (is g31), (is g26), (is g21), F65, F70, (is g60)]) S1158) t1162 u1163) ?_
            rintro hc1175 _ w1164 ⟨A1167, c1168, F1170, A1171, c1172, F1174, H1165, rfl, h1169, h1173, T1166⟩
            refine ⟨_, rfl, ?_⟩
            obtain ⟨S1176, K1177⟩ := St.call (Fa := []) (Fr := [F1020, F1023, F971, F959, F944, F947, F906, F858, F793, F797, (is g731), (is g649), (is g628), (is g607), (is g31), (is g26), (is g21), F65, F70, (is g60)]) S1158 T1166
            replace h1019 := h1019.move (K1177.at 0 rfl)
            replace h1022 := h1022.move (K1177.at 1 rfl)
            replace b736 := K1177.blk 10 rfl b736
            replace h66 := h66.move (K1177.at 17 rfl)
            replace h71 := h71.move (K1177.at 18 rfl)
            replace b61 := K1177.blk 19 rfl b61
            have E1178 := T1166.ext
            replace h1019 := h1019.ext E1178
            replace h1022 := h1022.ext E1178
            replace h66 := h66.ext E1178
            replace h71 := h71.ext E1178
            refine ⟨⟨(Ext.trans (((((((E1105.trans E1119).trans E1133).trans E1139).trans E1146).trans E1153).trans E1159).trans E1178) S1176.inv), (fun b_ h_ => (K1177.at 14 rfl b_ h_).trans (hs1134.2.1 b_ h_)), (fun b_ h_ => (K1177.at 15 rfl b_ h_).trans (hs1134.2.2.1 b_ h_)), (fun b_ h_ => (K1177.at 16 rfl b_ h_).trans (hs1134.2.2.2 b_ h_))⟩, fun hs1179 => ?_⟩
            refine xV 7 115 rfl hc1175 hs1179 (fun L_ w_ hc_ hu_ hs_ => eM (.tuple #[.agg #[.slice A1167 t1162.1.cells.length c1168, .slice A1171 t1162.1.trail.length c1172], .int .i64 t1162.2])) ?_; intro hc1180 hs1181
            refine xV 8 123 rfl hc1180 hs1181 (fun L_ w_ hc_ hu_ hs_ => e_extract (vs := #[.agg #[.slice A1167 t1162.1.cells.length c1168, .slice A1171 t1162.1.trail.length c1172], .int .i64 t1162.2]) (v := .agg #[.slice A1167 t1162.1.cells.length c1168, .slice A1171 t1162.1.trail.length c1172]) (by kernel_rfl) rfl) ?_; intro hc1182 hs1183
            refine xV 9 124 rfl hc1182 hs1183 (fun L_ w_ hc_ hu_ hs_ => e_extract (vs := #[.agg #[.slice A1167 t1162.1.cells.length c1168, .slice A1171 t1162.1.trail.length c1172], .int .i64 t1162.2]) (v := .int .i64 t1162.2) (by kernel_rfl) rfl) ?_; intro hc1184 hs1185
            refine xO 10 hc1184 ?_
            refine yE 10 18 rfl (nB #[.slice none 0 0, .slice none 0 0] 34 S1176) ?_
            rintro hc1191 _ w1186 ⟨g1187, rfl, b1188, S1189, K1190⟩
            replace h1169 := h1169.move (K1190.at 0 rfl)
            replace h1173 := h1173.move (K1190.at 1 rfl)
            replace h1019 := h1019.move (K1190.at 2 rfl)
            replace h1022 := h1022.move (K1190.at 3 rfl)
            replace b736 := K1190.blk 12 rfl b736
            replace h66 := h66.move (K1190.at 19 rfl)
            replace h71 := h71.move (K1190.at 20 rfl)
            replace b61 := K1190.blk 21 rfl b61
            refine ⟨⟨(Ext.trans (((((((E1105.trans E1119).trans E1133).trans E1139).trans E1146).trans E1153).trans E1159).trans E1178) S1189.inv), (fun b_ h_ => (K1190.at 16 rfl b_ h_).trans (hs1185.2.1 b_ h_)), (fun b_ h_ => (K1190.at 17 rfl b_ h_).trans (hs1185.2.2.1 b_ h_)), (fun b_ h_ => (K1190.at 18 rfl b_ h_).trans (hs1185.2.2.2 b_ h_))⟩, fun hs1192 => ?_⟩
            refine xO 11 hc1191 ?_
            refine yS 11 rfl (eSa g1187 0 [.slice A1167 t1162.1.cells.length c1168, .slice A1171 t1162.1.trail.length c1172] S1189 b1188) ?_
            rintro hc1197 w1193 ⟨b1194, S1195, K1196⟩
            replace h1169 := h1169.move (K1196.at 0 rfl)
            replace h1173 := h1173.move (K1196.at 1 rfl)
            replace h1019 := h1019.move (K1196.at 2 rfl)
            replace h1022 := h1022.move (K1196.at 3 rfl)
            replace b736 := K1196.blk 12 rfl b736
            replace h66 := h66.move (K1196.at 19 rfl)
            replace h71 := h71.move (K1196.at 20 rfl)
            replace b61 := K1196.blk 21 rfl b61
            refine ⟨⟨(Ext.trans (((((((E1105.trans E1119).trans E1133).trans E1139).trans E1146).trans E1153).trans E1159).trans E1178) S1195.inv), (fun b_ h_ => (K1196.at 16 rfl b_ h_).trans (hs1192.2.1 b_ h_)), (fun b_ h_ => (K1196.at 17 rfl b_ h_).trans (hs1192.2.2.1 b_ h_)), (fun b_ h_ => (K1196.at 18 rfl b_ h_).trans (hs1192.2.2.2 b_ h_))⟩, fun hs1198 => ?_⟩
            clear b1188
            refine xO 12 hc1197 ?_
            refine yO 12 19 rfl hs1198 (eA (.int .i64 t1162.2)) ?_; intro hc1199 hs1200
            refine xn (by kernel_rfl) ?_ _
            have S1208 := S1195.pulls [F1020, F1023, (is g731), F65, F70, (is g60), F1170, F1174, (is g1187), F971, F959, F944, F947, F906, F858, F793, F797, (is g649), (is g628), (is g607), (is g31), (is g26), (is g21)] [2, 2, 22, 22, 22, 16, 8, 8] rfl
            have S1209 := St.first (Fa := [F1020, F1023, (is g731), F65, F70, (is g60), F1170, F1174, (is g1187)]) (Fr := [F971, F959, F944, F947, F906, F858, F793, F797, (is g649), (is g628), (is g607), (is g31), (is g26), (is g21)]) S1208
            exact ⟨rfl, _, H1165, g1187, t1162.1.cells, A1167, c1168, F1170, t1162.1.trail, A1171, c1172, F1174, t1162.2, rfl, (by exact e76), (by exact e77), (by kernel_rfl), (by kernel_rfl), (by kernel_rfl), (by kernel_rfl), h1019, h1022, b736, h66, h71, b61, h1169, h1173, b1194, (((((((E1105.trans E1119).trans E1133).trans E1139).trans E1146).trans E1153).trans E1159).trans E1178), S1209, M⟩
          refine yE 10 18 rfl (nB #[.slice none 0 0, .slice none 0 0] 34 S1131) ?_
          rintro hc1215 _ w1210 ⟨g1211, rfl, b1212, S1213, K1214⟩
          replace h1128 := h1128.move (K1214.at 0 rfl)
          replace h1114 := h1114.move (K1214.at 1 rfl)
          replace h1096 := h1096.move (K1214.at 2 rfl)
          replace h1100 := h1100.move (K1214.at 3 rfl)
          replace h1019 := h1019.move (K1214.at 4 rfl)
          replace h1022 := h1022.move (K1214.at 5 rfl)
          replace b736 := K1214.blk 14 rfl b736
          replace h66 := h66.move (K1214.at 21 rfl)
          replace h71 := h71.move (K1214.at 22 rfl)
          replace b61 := K1214.blk 23 rfl b61
          refine ⟨⟨(Ext.trans ((E1105.trans E1119).trans E1133) S1213.inv), (fun b_ h_ => (K1214.at 18 rfl b_ h_).trans (hs1134.2.1 b_ h_)), (fun b_ h_ => (K1214.at 19 rfl b_ h_).trans (hs1134.2.2.1 b_ h_)), (fun b_ h_ => (K1214.at 20 rfl b_ h_).trans (hs1134.2.2.2 b_ h_))⟩, fun hs1216 => ?_⟩
          have l1217 := h1096.le
          have S1218 := S1213.pulls [F1097, (is g1211), F1129, F1115, F1101, F1020, F1023, F971, F959, F944, F947, F906, F858, F793, F797, (is g731), (is g649), (is g628), (is g607), (is g31), (is g26), (is g21), F65, F70, (is g60)] [3] rfl
          obtain ⟨H1219, S1220, E1221, h1222, z1223⟩ := S1218.frzRow h1096
          replace h1128 := h1128.ext E1221
          replace h1114 := h1114.ext E1221
          replace h1100 := h1100.ext E1221
          replace h1019 := h1019.ext E1221
          replace h1022 := h1022.ext E1221
          replace h66 := h66.ext E1221
          replace h71 := h71.ext E1221
          have l1224 := h1100.le
          have S1225 := S1220.pulls [F1101, (is g1211), F1129, F1115, F1020, F1023, F971, F959, F944, F947, F906, F858, F793, F797, (is g731), (is g649), (is g628), (is g607), (is g31), (is g26), (is g21), F65, F70, (is g60)] [3] rfl
          obtain ⟨H1226, S1227, E1228, h1229, z1230⟩ := S1225.frzRow h1100
          replace h1128 := h1128.ext E1228
          replace h1114 := h1114.ext E1228
          replace h1019 := h1019.ext E1228
          replace h1022 := h1022.ext E1228
          replace h66 := h66.ext E1228
          replace h71 := h71.ext E1228
          have l1231 := h1114.le
          have S1232 := S1227.pulls [F1115, (is g1211), F1129, F1020, F1023, F971, F959, F944, F947, F906, F858, F793, F797, (is g731), (is g649), (is g628), (is g607), (is g31), (is g26), (is g21), F65, F70, (is g60)] [2] rfl
          obtain ⟨H1233, S1234, E1235, h1236, z1237⟩ := S1232.frzRow h1114
          replace h1128 := h1128.ext E1235
          replace h1019 := h1019.ext E1235
          replace h1022 := h1022.ext E1235
          replace h66 := h66.ext E1235
          replace h71 := h71.ext E1235
          have l1238 := h1128.le
          have S1239 := S1234.pulls [F1129, (is g1211), F1020, F1023, F971, F959, F944, F947, F906, F858, F793, F797, (is g731), (is g649), (is g628), (is g607), (is g31), (is g26), (is g21), F65, F70, (is g60)] [1] rfl
          obtain ⟨H1240, S1241, E1242, h1243, z1244⟩ := S1239.frzRow h1128
          replace h1019 := h1019.ext E1242
          replace h1022 := h1022.ext E1242
          replace h66 := h66.ext E1242
          replace h71 := h71.ext E1242
          obtain ⟨t1245, u1246, M⟩ := bnd M
          refine xO 6 hc1215 ?_
          refine yC 6 rfl (eC [.tmp 117, .tmp 119, .tmp 121] [.agg #[.slice A1094 t1089.cells.length c1095, .slice A1098 t1089.trail.length c1099], .agg #[.int .i64 t1107.kind, .int .i64 t1107.n, .slice A1112 t1107.text.length c1113], .agg #[.int .i64 t1121.kind, .int .i64 t1121.n, .slice A1126 t1121.text.length c1127]] Try.func33) (impl_UnifyStore.calls k w1210 H1240 t1089 A1094 c1095 A1098 c1099 t1107 A1112 c1113 t1121 A1126 c1127 (h1222.ext ((E1228.trans E1235).trans E1242)) l1217 (h1229.ext (E1235.trans E1242)) l1224 (h1236.ext E1242) l1231 h1243 l1238 (St.own' (Fa := []) (Fr := [(is g1211), F1020, F1023, F971, F959, F944, F947, F906, F858, F793, F797, (is g731), (is g649), (is g628), (is g607), (is g31), (is g26), (is g21), F65, F70, (is g60)]) S1241) t1245 u1246) ?_
          rintro hc1258 _ w1247 ⟨A1250, c1251, F1253, A1254, c1255, F1257, H1248, rfl, h1252, h1256, T1249⟩
          refine ⟨_, rfl, ?_⟩
          obtain ⟨S1259, K1260⟩ := St.call (Fa := []) (Fr := [(is g1211), F1020, F1023, F971, F959, F944, F947, F906, F858, F793, F797, (is g731), (is g649), (is g628), (is g607), (is g31), (is g26), (is g21), F65, F70, (is g60)]) S1241 T1249
          replace b1212 := K1260.blk 0 rfl b1212
          replace h1019 := h1019.move (K1260.at 1 rfl)
          replace h1022 := h1022.move (K1260.at 2 rfl)
          replace b736 := K1260.blk 11 rfl b736
          replace h66 := h66.move (K1260.at 18 rfl)
          replace h71 := h71.move (K1260.at 19 rfl)
          replace b61 := K1260.blk 20 rfl b61
          have E1261 := T1249.ext
          replace h1019 := h1019.ext E1261
          replace h1022 := h1022.ext E1261
          replace h66 := h66.ext E1261
          replace h71 := h71.ext E1261
          refine ⟨⟨(Ext.trans (((((((E1105.trans E1119).trans E1133).trans E1221).trans E1228).trans E1235).trans E1242).trans E1261) S1259.inv), (fun b_ h_ => (K1260.at 15 rfl b_ h_).trans (hs1216.2.1 b_ h_)), (fun b_ h_ => (K1260.at 16 rfl b_ h_).trans (hs1216.2.2.1 b_ h_)), (fun b_ h_ => (K1260.at 17 rfl b_ h_).trans (hs1216.2.2.2 b_ h_))⟩, fun hs1262 => ?_⟩
          refine xO 7 hc1258 ?_
          refine yO 7 115 rfl hs1262 (eM (.tuple #[.agg #[.slice A1250 t1245.1.cells.length c1251, .slice A1254 t1245.1.trail.length c1255], .int .i64 t1245.2])) ?_; intro hc1263 hs1264
          refine xV 8 123 rfl hc1263 hs1264 (fun L_ w_ hc_ hu_ hs_ => e_extract (vs := #[.agg #[.slice A1250 t1245.1.cells.length c1251, .slice A1254 t1245.1.trail.length c1255], .int .i64 t1245.2]) (v := .agg #[.slice A1250 t1245.1.cells.length c1251, .slice A1254 t1245.1.trail.length c1255]) (by kernel_rfl) rfl) ?_; intro hc1265 hs1266
          refine xV 9 124 rfl hc1265 hs1266 (fun L_ w_ hc_ hu_ hs_ => e_extract (vs := #[.agg #[.slice A1250 t1245.1.cells.length c1251, .slice A1254 t1245.1.trail.length c1255], .int .i64 t1245.2]) (v := .int .i64 t1245.2) (by kernel_rfl) rfl) ?_; intro hc1267 hs1268
          have S1269 := S1259.pulls [(is g1211), F1253, F1257, F1020, F1023, F971, F959, F944, F947, F906, F858, F793, F797, (is g731), (is g649), (is g628), (is g607), (is g31), (is g26), (is g21), F65, F70, (is g60)] [2] rfl
          refine xO 11 hc1267 ?_
          refine yS 11 rfl (eSa g1211 0 [.slice A1250 t1245.1.cells.length c1251, .slice A1254 t1245.1.trail.length c1255] S1269 b1212) ?_
          rintro hc1274 w1270 ⟨b1271, S1272, K1273⟩
          replace h1252 := h1252.move (K1273.at 0 rfl)
          replace h1256 := h1256.move (K1273.at 1 rfl)
          replace h1019 := h1019.move (K1273.at 2 rfl)
          replace h1022 := h1022.move (K1273.at 3 rfl)
          replace b736 := K1273.blk 12 rfl b736
          replace h66 := h66.move (K1273.at 19 rfl)
          replace h71 := h71.move (K1273.at 20 rfl)
          replace b61 := K1273.blk 21 rfl b61
          refine ⟨⟨(Ext.trans (((((((E1105.trans E1119).trans E1133).trans E1221).trans E1228).trans E1235).trans E1242).trans E1261) S1272.inv), (fun b_ h_ => (K1273.at 16 rfl b_ h_).trans (hs1268.2.1 b_ h_)), (fun b_ h_ => (K1273.at 17 rfl b_ h_).trans (hs1268.2.2.1 b_ h_)), (fun b_ h_ => (K1273.at 18 rfl b_ h_).trans (hs1268.2.2.2 b_ h_))⟩, fun hs1275 => ?_⟩
          clear b1212
          refine xO 12 hc1274 ?_
          refine yO 12 19 rfl hs1275 (eA (.int .i64 t1245.2)) ?_; intro hc1276 hs1277
          refine xn (by kernel_rfl) ?_ _
          have S1285 := S1272.pulls [F1020, F1023, (is g731), F65, F70, (is g60), F1253, F1257, (is g1211), F971, F959, F944, F947, F906, F858, F793, F797, (is g649), (is g628), (is g607), (is g31), (is g26), (is g21)] [2, 2, 22, 22, 22, 16, 8, 8] rfl
          have S1286 := St.first (Fa := [F1020, F1023, (is g731), F65, F70, (is g60), F1253, F1257, (is g1211)]) (Fr := [F971, F959, F944, F947, F906, F858, F793, F797, (is g649), (is g628), (is g607), (is g31), (is g26), (is g21)]) S1285
          exact ⟨rfl, _, H1248, g1211, t1245.1.cells, A1250, c1251, F1253, t1245.1.trail, A1254, c1255, F1257, t1245.2, rfl, (by exact e76), (by exact e77), (by kernel_rfl), (by kernel_rfl), (by kernel_rfl), (by kernel_rfl), h1019, h1022, b736, h66, h71, b61, h1252, h1256, b1271, (((((((E1105.trans E1119).trans E1133).trans E1221).trans E1228).trans E1235).trans E1242).trans E1261), S1286, M⟩
        refine yE 10 18 rfl (nB #[.slice none 0 0, .slice none 0 0] 34 S1117) ?_
        rintro hc1292 _ w1287 ⟨g1288, rfl, b1289, S1290, K1291⟩
        replace h1114 := h1114.move (K1291.at 0 rfl)
        replace h1096 := h1096.move (K1291.at 1 rfl)
        replace h1100 := h1100.move (K1291.at 2 rfl)
        replace h1019 := h1019.move (K1291.at 3 rfl)
        replace h1022 := h1022.move (K1291.at 4 rfl)
        replace b736 := K1291.blk 13 rfl b736
        replace h66 := h66.move (K1291.at 20 rfl)
        replace h71 := h71.move (K1291.at 21 rfl)
        replace b61 := K1291.blk 22 rfl b61
        refine ⟨⟨(Ext.trans (E1105.trans E1119) S1290.inv), (fun b_ h_ => (K1291.at 17 rfl b_ h_).trans (hs1120.2.1 b_ h_)), (fun b_ h_ => (K1291.at 18 rfl b_ h_).trans (hs1120.2.2.1 b_ h_)), (fun b_ h_ => (K1291.at 19 rfl b_ h_).trans (hs1120.2.2.2 b_ h_))⟩, fun hs1293 => ?_⟩
        obtain ⟨t1294, u1295, M⟩ := bnd M
        refine xO 5 hc1292 ?_
        refine yC 5 rfl (eC [.tmp 120] [.agg #[.int .i64 x15.kind, .int .i64 x15.n, .slice A16 x15.text.length c17]] Try.func13) (laws_toCell.calls k w1287 H1110 x15 A16 c17 (h18.ext (((((((((((((Y59.trans E605).trans E626).trans E647).trans E728).trans E801).trans E862).trans E910).trans E951).trans E963).trans E975).trans E1027).trans E1105).trans E1119)) l19 (St.own' (Fa := []) (Fr := [(is g1288), F1115, F1097, F1101, F1020, F1023, F971, F959, F944, F947, F906, F858, F793, F797, (is g731), (is g649), (is g628), (is g607), (is g31), (is g26), (is g21), F65, F70, (is g60)]) S1290) t1294 u1295) ?_
        rintro hc1303 _ w1296 ⟨A1299, c1300, F1302, H1297, rfl, h1301, T1298⟩
        refine ⟨_, rfl, ?_⟩
        obtain ⟨S1304, K1305⟩ := St.call (Fa := []) (Fr := [(is g1288), F1115, F1097, F1101, F1020, F1023, F971, F959, F944, F947, F906, F858, F793, F797, (is g731), (is g649), (is g628), (is g607), (is g31), (is g26), (is g21), F65, F70, (is g60)]) S1290 T1298
        replace b1289 := K1305.blk 0 rfl b1289
        replace h1114 := h1114.move (K1305.at 1 rfl)
        replace h1096 := h1096.move (K1305.at 2 rfl)
        replace h1100 := h1100.move (K1305.at 3 rfl)
        replace h1019 := h1019.move (K1305.at 4 rfl)
        replace h1022 := h1022.move (K1305.at 5 rfl)
        replace b736 := K1305.blk 14 rfl b736
        replace h66 := h66.move (K1305.at 21 rfl)
        replace h71 := h71.move (K1305.at 22 rfl)
        replace b61 := K1305.blk 23 rfl b61
        have E1306 := T1298.ext
        replace h1114 := h1114.ext E1306
        replace h1096 := h1096.ext E1306
        replace h1100 := h1100.ext E1306
        replace h1019 := h1019.ext E1306
        replace h1022 := h1022.ext E1306
        replace h66 := h66.ext E1306
        replace h71 := h71.ext E1306
        refine ⟨⟨(Ext.trans ((E1105.trans E1119).trans E1306) S1304.inv), (fun b_ h_ => (K1305.at 18 rfl b_ h_).trans (hs1293.2.1 b_ h_)), (fun b_ h_ => (K1305.at 19 rfl b_ h_).trans (hs1293.2.2.1 b_ h_)), (fun b_ h_ => (K1305.at 20 rfl b_ h_).trans (hs1293.2.2.2 b_ h_))⟩, fun hs1307 => ?_⟩
        have l1308 := h1096.le
        have S1309 := S1304.pulls [F1097, F1302, (is g1288), F1115, F1101, F1020, F1023, F971, F959, F944, F947, F906, F858, F793, F797, (is g731), (is g649), (is g628), (is g607), (is g31), (is g26), (is g21), F65, F70, (is g60)] [3] rfl
        obtain ⟨H1310, S1311, E1312, h1313, z1314⟩ := S1309.frzRow h1096
        replace h1301 := h1301.ext E1312
        replace h1114 := h1114.ext E1312
        replace h1100 := h1100.ext E1312
        replace h1019 := h1019.ext E1312
        replace h1022 := h1022.ext E1312
        replace h66 := h66.ext E1312
        replace h71 := h71.ext E1312
        have l1315 := h1100.le
        have S1316 := S1311.pulls [F1101, F1302, (is g1288), F1115, F1020, F1023, F971, F959, F944, F947, F906, F858, F793, F797, (is g731), (is g649), (is g628), (is g607), (is g31), (is g26), (is g21), F65, F70, (is g60)] [3] rfl
        obtain ⟨H1317, S1318, E1319, h1320, z1321⟩ := S1316.frzRow h1100
        replace h1301 := h1301.ext E1319
        replace h1114 := h1114.ext E1319
        replace h1019 := h1019.ext E1319
        replace h1022 := h1022.ext E1319
        replace h66 := h66.ext E1319
        replace h71 := h71.ext E1319
        have l1322 := h1114.le
        have S1323 := S1318.pulls [F1115, F1302, (is g1288), F1020, F1023, F971, F959, F944, F947, F906, F858, F793, F797, (is g731), (is g649), (is g628), (is g607), (is g31), (is g26), (is g21), F65, F70, (is g60)] [2] rfl
        obtain ⟨H1324, S1325, E1326, h1327, z1328⟩ := S1323.frzRow h1114
        replace h1301 := h1301.ext E1326
        replace h1019 := h1019.ext E1326
        replace h1022 := h1022.ext E1326
        replace h66 := h66.ext E1326
        replace h71 := h71.ext E1326
        have l1329 := h1301.le
        obtain ⟨H1330, S1331, E1332, h1333, z1334⟩ := S1325.frzRow h1301
        replace h1019 := h1019.ext E1332
        replace h1022 := h1022.ext E1332
        replace h66 := h66.ext E1332
        replace h71 := h71.ext E1332
        obtain ⟨t1335, u1336, M⟩ := bnd M
        refine xO 6 hc1303 ?_
        refine yC 6 rfl (eC [.tmp 117, .tmp 119, .tmp 121] [.agg #[.slice A1094 t1089.cells.length c1095, .slice A1098 t1089.trail.length c1099], .agg #[.int .i64 t1107.kind, .int .i64 t1107.n, .slice A1112 t1107.text.length c1113], .agg #[.int .i64 t1294.kind, .int .i64 t1294.n, .slice A1299 t1294.text.length c1300]] Try.func33) (impl_UnifyStore.calls k w1296 H1330 t1089 A1094 c1095 A1098 c1099 t1107 A1112 c1113 t1294 A1299 c1300 (h1313.ext ((E1319.trans E1326).trans E1332)) l1308 (h1320.ext (E1326.trans E1332)) l1315 (h1327.ext E1332) l1322 h1333 l1329 (St.own' (Fa := []) (Fr := [(is g1288), F1020, F1023, F971, F959, F944, F947, F906, F858, F793, F797, (is g731), (is g649), (is g628), (is g607), (is g31), (is g26), (is g21), F65, F70, (is g60)]) S1331) t1335 u1336) ?_
        rintro hc1348 _ w1337 ⟨A1340, c1341, F1343, A1344, c1345, F1347, H1338, rfl, h1342, h1346, T1339⟩
        refine ⟨_, rfl, ?_⟩
        obtain ⟨S1349, K1350⟩ := St.call (Fa := []) (Fr := [(is g1288), F1020, F1023, F971, F959, F944, F947, F906, F858, F793, F797, (is g731), (is g649), (is g628), (is g607), (is g31), (is g26), (is g21), F65, F70, (is g60)]) S1331 T1339
        replace b1289 := K1350.blk 0 rfl b1289
        replace h1019 := h1019.move (K1350.at 1 rfl)
        replace h1022 := h1022.move (K1350.at 2 rfl)
        replace b736 := K1350.blk 11 rfl b736
        replace h66 := h66.move (K1350.at 18 rfl)
        replace h71 := h71.move (K1350.at 19 rfl)
        replace b61 := K1350.blk 20 rfl b61
        have E1351 := T1339.ext
        replace h1019 := h1019.ext E1351
        replace h1022 := h1022.ext E1351
        replace h66 := h66.ext E1351
        replace h71 := h71.ext E1351
        refine ⟨⟨(Ext.trans (((((((E1105.trans E1119).trans E1306).trans E1312).trans E1319).trans E1326).trans E1332).trans E1351) S1349.inv), (fun b_ h_ => (K1350.at 15 rfl b_ h_).trans (hs1307.2.1 b_ h_)), (fun b_ h_ => (K1350.at 16 rfl b_ h_).trans (hs1307.2.2.1 b_ h_)), (fun b_ h_ => (K1350.at 17 rfl b_ h_).trans (hs1307.2.2.2 b_ h_))⟩, fun hs1352 => ?_⟩
        refine xO 7 hc1348 ?_
        refine yO 7 115 rfl hs1352 (eM (.tuple #[.agg #[.slice A1340 t1335.1.cells.length c1341, .slice A1344 t1335.1.trail.length c1345], .int .i64 t1335.2])) ?_; intro hc1353 hs1354
        refine xV 8 123 rfl hc1353 hs1354 (fun L_ w_ hc_ hu_ hs_ => e_extract (vs := #[.agg #[.slice A1340 t1335.1.cells.length c1341, .slice A1344 t1335.1.trail.length c1345], .int .i64 t1335.2]) (v := .agg #[.slice A1340 t1335.1.cells.length c1341, .slice A1344 t1335.1.trail.length c1345]) (by kernel_rfl) rfl) ?_; intro hc1355 hs1356
        refine xV 9 124 rfl hc1355 hs1356 (fun L_ w_ hc_ hu_ hs_ => e_extract (vs := #[.agg #[.slice A1340 t1335.1.cells.length c1341, .slice A1344 t1335.1.trail.length c1345], .int .i64 t1335.2]) (v := .int .i64 t1335.2) (by kernel_rfl) rfl) ?_; intro hc1357 hs1358
        have S1359 := S1349.pulls [(is g1288), F1343, F1347, F1020, F1023, F971, F959, F944, F947, F906, F858, F793, F797, (is g731), (is g649), (is g628), (is g607), (is g31), (is g26), (is g21), F65, F70, (is g60)] [2] rfl
        refine xO 11 hc1357 ?_
        refine yS 11 rfl (eSa g1288 0 [.slice A1340 t1335.1.cells.length c1341, .slice A1344 t1335.1.trail.length c1345] S1359 b1289) ?_
        rintro hc1364 w1360 ⟨b1361, S1362, K1363⟩
        replace h1342 := h1342.move (K1363.at 0 rfl)
        replace h1346 := h1346.move (K1363.at 1 rfl)
        replace h1019 := h1019.move (K1363.at 2 rfl)
        replace h1022 := h1022.move (K1363.at 3 rfl)
        replace b736 := K1363.blk 12 rfl b736
        replace h66 := h66.move (K1363.at 19 rfl)
        replace h71 := h71.move (K1363.at 20 rfl)
        replace b61 := K1363.blk 21 rfl b61
        refine ⟨⟨(Ext.trans (((((((E1105.trans E1119).trans E1306).trans E1312).trans E1319).trans E1326).trans E1332).trans E1351) S1362.inv), (fun b_ h_ => (K1363.at 16 rfl b_ h_).trans (hs1358.2.1 b_ h_)), (fun b_ h_ => (K1363.at 17 rfl b_ h_).trans (hs1358.2.2.1 b_ h_)), (fun b_ h_ => (K1363.at 18 rfl b_ h_).trans (hs1358.2.2.2 b_ h_))⟩, fun hs1365 => ?_⟩
        clear b1289
        refine xO 12 hc1364 ?_
        refine yO 12 19 rfl hs1365 (eA (.int .i64 t1335.2)) ?_; intro hc1366 hs1367
        refine xn (by kernel_rfl) ?_ _
        have S1375 := S1362.pulls [F1020, F1023, (is g731), F65, F70, (is g60), F1343, F1347, (is g1288), F971, F959, F944, F947, F906, F858, F793, F797, (is g649), (is g628), (is g607), (is g31), (is g26), (is g21)] [2, 2, 22, 22, 22, 16, 8, 8] rfl
        have S1376 := St.first (Fa := [F1020, F1023, (is g731), F65, F70, (is g60), F1343, F1347, (is g1288)]) (Fr := [F971, F959, F944, F947, F906, F858, F793, F797, (is g649), (is g628), (is g607), (is g31), (is g26), (is g21)]) S1375
        exact ⟨rfl, _, H1338, g1288, t1335.1.cells, A1340, c1341, F1343, t1335.1.trail, A1344, c1345, F1347, t1335.2, rfl, (by exact e76), (by exact e77), (by kernel_rfl), (by kernel_rfl), (by kernel_rfl), (by kernel_rfl), h1019, h1022, b736, h66, h71, b61, h1342, h1346, b1361, (((((((E1105.trans E1119).trans E1306).trans E1312).trans E1319).trans E1326).trans E1332).trans E1351), S1376, M⟩
      refine yE 10 18 rfl (nB #[.slice none 0 0, .slice none 0 0] 34 S1103) ?_
      rintro hc1382 _ w1377 ⟨g1378, rfl, b1379, S1380, K1381⟩
      replace h1096 := h1096.move (K1381.at 0 rfl)
      replace h1100 := h1100.move (K1381.at 1 rfl)
      replace h1019 := h1019.move (K1381.at 2 rfl)
      replace h1022 := h1022.move (K1381.at 3 rfl)
      replace b736 := K1381.blk 12 rfl b736
      replace h66 := h66.move (K1381.at 19 rfl)
      replace h71 := h71.move (K1381.at 20 rfl)
      replace b61 := K1381.blk 21 rfl b61
      refine ⟨⟨(Ext.trans E1105 S1380.inv), (fun b_ h_ => (K1381.at 16 rfl b_ h_).trans (hs1106.2.1 b_ h_)), (fun b_ h_ => (K1381.at 17 rfl b_ h_).trans (hs1106.2.2.1 b_ h_)), (fun b_ h_ => (K1381.at 18 rfl b_ h_).trans (hs1106.2.2.2 b_ h_))⟩, fun hs1383 => ?_⟩
      obtain ⟨t1384, u1385, M⟩ := bnd M
      refine xO 3 hc1382 ?_
      refine yC 3 rfl (eC [.tmp 118] [.agg #[.int .i64 x10.kind, .int .i64 x10.n, .slice A11 x10.text.length c12]] Try.func13) (laws_toCell.calls k w1377 H1092 x10 A11 c12 (h13.ext ((((((((((((Y59.trans E605).trans E626).trans E647).trans E728).trans E801).trans E862).trans E910).trans E951).trans E963).trans E975).trans E1027).trans E1105)) l14 (St.own' (Fa := []) (Fr := [(is g1378), F1097, F1101, F1020, F1023, F971, F959, F944, F947, F906, F858, F793, F797, (is g731), (is g649), (is g628), (is g607), (is g31), (is g26), (is g21), F65, F70, (is g60)]) S1380) t1384 u1385) ?_
      rintro hc1393 _ w1386 ⟨A1389, c1390, F1392, H1387, rfl, h1391, T1388⟩
      refine ⟨_, rfl, ?_⟩
      obtain ⟨S1394, K1395⟩ := St.call (Fa := []) (Fr := [(is g1378), F1097, F1101, F1020, F1023, F971, F959, F944, F947, F906, F858, F793, F797, (is g731), (is g649), (is g628), (is g607), (is g31), (is g26), (is g21), F65, F70, (is g60)]) S1380 T1388
      replace b1379 := K1395.blk 0 rfl b1379
      replace h1096 := h1096.move (K1395.at 1 rfl)
      replace h1100 := h1100.move (K1395.at 2 rfl)
      replace h1019 := h1019.move (K1395.at 3 rfl)
      replace h1022 := h1022.move (K1395.at 4 rfl)
      replace b736 := K1395.blk 13 rfl b736
      replace h66 := h66.move (K1395.at 20 rfl)
      replace h71 := h71.move (K1395.at 21 rfl)
      replace b61 := K1395.blk 22 rfl b61
      have E1396 := T1388.ext
      replace h1096 := h1096.ext E1396
      replace h1100 := h1100.ext E1396
      replace h1019 := h1019.ext E1396
      replace h1022 := h1022.ext E1396
      replace h66 := h66.ext E1396
      replace h71 := h71.ext E1396
      refine ⟨⟨(Ext.trans (E1105.trans E1396) S1394.inv), (fun b_ h_ => (K1395.at 17 rfl b_ h_).trans (hs1383.2.1 b_ h_)), (fun b_ h_ => (K1395.at 18 rfl b_ h_).trans (hs1383.2.2.1 b_ h_)), (fun b_ h_ => (K1395.at 19 rfl b_ h_).trans (hs1383.2.2.2 b_ h_))⟩, fun hs1397 => ?_⟩
      obtain ⟨t1398, u1399, M⟩ := bnd M
      refine xO 5 hc1393 ?_
      refine yC 5 rfl (eC [.tmp 120] [.agg #[.int .i64 x15.kind, .int .i64 x15.n, .slice A16 x15.text.length c17]] Try.func13) (laws_toCell.calls k w1386 H1387 x15 A16 c17 (h18.ext (((((((((((((Y59.trans E605).trans E626).trans E647).trans E728).trans E801).trans E862).trans E910).trans E951).trans E963).trans E975).trans E1027).trans E1105).trans E1396)) l19 (St.own' (Fa := []) (Fr := [F1392, (is g1378), F1097, F1101, F1020, F1023, F971, F959, F944, F947, F906, F858, F793, F797, (is g731), (is g649), (is g628), (is g607), (is g31), (is g26), (is g21), F65, F70, (is g60)]) S1394) t1398 u1399) ?_
      rintro hc1407 _ w1400 ⟨A1403, c1404, F1406, H1401, rfl, h1405, T1402⟩
      refine ⟨_, rfl, ?_⟩
      obtain ⟨S1408, K1409⟩ := St.call (Fa := []) (Fr := [F1392, (is g1378), F1097, F1101, F1020, F1023, F971, F959, F944, F947, F906, F858, F793, F797, (is g731), (is g649), (is g628), (is g607), (is g31), (is g26), (is g21), F65, F70, (is g60)]) S1394 T1402
      replace h1391 := h1391.move (K1409.at 0 rfl)
      replace b1379 := K1409.blk 1 rfl b1379
      replace h1096 := h1096.move (K1409.at 2 rfl)
      replace h1100 := h1100.move (K1409.at 3 rfl)
      replace h1019 := h1019.move (K1409.at 4 rfl)
      replace h1022 := h1022.move (K1409.at 5 rfl)
      replace b736 := K1409.blk 14 rfl b736
      replace h66 := h66.move (K1409.at 21 rfl)
      replace h71 := h71.move (K1409.at 22 rfl)
      replace b61 := K1409.blk 23 rfl b61
      have E1410 := T1402.ext
      replace h1391 := h1391.ext E1410
      replace h1096 := h1096.ext E1410
      replace h1100 := h1100.ext E1410
      replace h1019 := h1019.ext E1410
      replace h1022 := h1022.ext E1410
      replace h66 := h66.ext E1410
      replace h71 := h71.ext E1410
      refine ⟨⟨(Ext.trans ((E1105.trans E1396).trans E1410) S1408.inv), (fun b_ h_ => (K1409.at 18 rfl b_ h_).trans (hs1397.2.1 b_ h_)), (fun b_ h_ => (K1409.at 19 rfl b_ h_).trans (hs1397.2.2.1 b_ h_)), (fun b_ h_ => (K1409.at 20 rfl b_ h_).trans (hs1397.2.2.2 b_ h_))⟩, fun hs1411 => ?_⟩
      have l1412 := h1096.le
      have S1413 := S1408.pulls [F1097, F1406, F1392, (is g1378), F1101, F1020, F1023, F971, F959, F944, F947, F906, F858, F793, F797, (is g731), (is g649), (is g628), (is g607), (is g31), (is g26), (is g21), F65, F70, (is g60)] [3] rfl
      obtain ⟨H1414, S1415, E1416, h1417, z1418⟩ := S1413.frzRow h1096
      replace h1405 := h1405.ext E1416
      replace h1391 := h1391.ext E1416
      replace h1100 := h1100.ext E1416
      replace h1019 := h1019.ext E1416
      replace h1022 := h1022.ext E1416
      replace h66 := h66.ext E1416
      replace h71 := h71.ext E1416
      have l1419 := h1100.le
      have S1420 := S1415.pulls [F1101, F1406, F1392, (is g1378), F1020, F1023, F971, F959, F944, F947, F906, F858, F793, F797, (is g731), (is g649), (is g628), (is g607), (is g31), (is g26), (is g21), F65, F70, (is g60)] [3] rfl
      obtain ⟨H1421, S1422, E1423, h1424, z1425⟩ := S1420.frzRow h1100
      replace h1405 := h1405.ext E1423
      replace h1391 := h1391.ext E1423
      replace h1019 := h1019.ext E1423
      replace h1022 := h1022.ext E1423
      replace h66 := h66.ext E1423
      replace h71 := h71.ext E1423
      have l1426 := h1391.le
      have S1427 := S1422.pulls [F1392, F1406, (is g1378), F1020, F1023, F971, F959, F944, F947, F906, F858, F793, F797, (is g731), (is g649), (is g628), (is g607), (is g31), (is g26), (is g21), F65, F70, (is g60)] [1] rfl
      obtain ⟨H1428, S1429, E1430, h1431, z1432⟩ := S1427.frzRow h1391
      replace h1405 := h1405.ext E1430
      replace h1019 := h1019.ext E1430
      replace h1022 := h1022.ext E1430
      replace h66 := h66.ext E1430
      replace h71 := h71.ext E1430
      have l1433 := h1405.le
      obtain ⟨H1434, S1435, E1436, h1437, z1438⟩ := S1429.frzRow h1405
      replace h1019 := h1019.ext E1436
      replace h1022 := h1022.ext E1436
      replace h66 := h66.ext E1436
      replace h71 := h71.ext E1436
      obtain ⟨t1439, u1440, M⟩ := bnd M
      refine xO 6 hc1407 ?_
      refine yC 6 rfl (eC [.tmp 117, .tmp 119, .tmp 121] [.agg #[.slice A1094 t1089.cells.length c1095, .slice A1098 t1089.trail.length c1099], .agg #[.int .i64 t1384.kind, .int .i64 t1384.n, .slice A1389 t1384.text.length c1390], .agg #[.int .i64 t1398.kind, .int .i64 t1398.n, .slice A1403 t1398.text.length c1404]] Try.func33) (impl_UnifyStore.calls k w1400 H1434 t1089 A1094 c1095 A1098 c1099 t1384 A1389 c1390 t1398 A1403 c1404 (h1417.ext ((E1423.trans E1430).trans E1436)) l1412 (h1424.ext (E1430.trans E1436)) l1419 (h1431.ext E1436) l1426 h1437 l1433 (St.own' (Fa := []) (Fr := [(is g1378), F1020, F1023, F971, F959, F944, F947, F906, F858, F793, F797, (is g731), (is g649), (is g628), (is g607), (is g31), (is g26), (is g21), F65, F70, (is g60)]) S1435) t1439 u1440) ?_
      rintro hc1452 _ w1441 ⟨A1444, c1445, F1447, A1448, c1449, F1451, H1442, rfl, h1446, h1450, T1443⟩
      refine ⟨_, rfl, ?_⟩
      obtain ⟨S1453, K1454⟩ := St.call (Fa := []) (Fr := [(is g1378), F1020, F1023, F971, F959, F944, F947, F906, F858, F793, F797, (is g731), (is g649), (is g628), (is g607), (is g31), (is g26), (is g21), F65, F70, (is g60)]) S1435 T1443
      replace b1379 := K1454.blk 0 rfl b1379
      replace h1019 := h1019.move (K1454.at 1 rfl)
      replace h1022 := h1022.move (K1454.at 2 rfl)
      replace b736 := K1454.blk 11 rfl b736
      replace h66 := h66.move (K1454.at 18 rfl)
      replace h71 := h71.move (K1454.at 19 rfl)
      replace b61 := K1454.blk 20 rfl b61
      have E1455 := T1443.ext
      replace h1019 := h1019.ext E1455
      replace h1022 := h1022.ext E1455
      replace h66 := h66.ext E1455
      replace h71 := h71.ext E1455
      refine ⟨⟨(Ext.trans (((((((E1105.trans E1396).trans E1410).trans E1416).trans E1423).trans E1430).trans E1436).trans E1455) S1453.inv), (fun b_ h_ => (K1454.at 15 rfl b_ h_).trans (hs1411.2.1 b_ h_)), (fun b_ h_ => (K1454.at 16 rfl b_ h_).trans (hs1411.2.2.1 b_ h_)), (fun b_ h_ => (K1454.at 17 rfl b_ h_).trans (hs1411.2.2.2 b_ h_))⟩, fun hs1456 => ?_⟩
      refine xO 7 hc1452 ?_
      refine yO 7 115 rfl hs1456 (eM (.tuple #[.agg #[.slice A1444 t1439.1.cells.length c1445, .slice A1448 t1439.1.trail.length c1449], .int .i64 t1439.2])) ?_; intro hc1457 hs1458
      refine xV 8 123 rfl hc1457 hs1458 (fun L_ w_ hc_ hu_ hs_ => e_extract (vs := #[.agg #[.slice A1444 t1439.1.cells.length c1445, .slice A1448 t1439.1.trail.length c1449], .int .i64 t1439.2]) (v := .agg #[.slice A1444 t1439.1.cells.length c1445, .slice A1448 t1439.1.trail.length c1449]) (by kernel_rfl) rfl) ?_; intro hc1459 hs1460
      refine xV 9 124 rfl hc1459 hs1460 (fun L_ w_ hc_ hu_ hs_ => e_extract (vs := #[.agg #[.slice A1444 t1439.1.cells.length c1445, .slice A1448 t1439.1.trail.length c1449], .int .i64 t1439.2]) (v := .int .i64 t1439.2) (by kernel_rfl) rfl) ?_; intro hc1461 hs1462
      have S1463 := S1453.pulls [(is g1378), F1447, F1451, F1020, F1023, F971, F959, F944, F947, F906, F858, F793, F797, (is g731), (is g649), (is g628), (is g607), (is g31), (is g26), (is g21), F65, F70, (is g60)] [2] rfl
      refine xO 11 hc1461 ?_
      refine yS 11 rfl (eSa g1378 0 [.slice A1444 t1439.1.cells.length c1445, .slice A1448 t1439.1.trail.length c1449] S1463 b1379) ?_
      rintro hc1468 w1464 ⟨b1465, S1466, K1467⟩
      replace h1446 := h1446.move (K1467.at 0 rfl)
      replace h1450 := h1450.move (K1467.at 1 rfl)
      replace h1019 := h1019.move (K1467.at 2 rfl)
      replace h1022 := h1022.move (K1467.at 3 rfl)
      replace b736 := K1467.blk 12 rfl b736
      replace h66 := h66.move (K1467.at 19 rfl)
      replace h71 := h71.move (K1467.at 20 rfl)
      replace b61 := K1467.blk 21 rfl b61
      refine ⟨⟨(Ext.trans (((((((E1105.trans E1396).trans E1410).trans E1416).trans E1423).trans E1430).trans E1436).trans E1455) S1466.inv), (fun b_ h_ => (K1467.at 16 rfl b_ h_).trans (hs1462.2.1 b_ h_)), (fun b_ h_ => (K1467.at 17 rfl b_ h_).trans (hs1462.2.2.1 b_ h_)), (fun b_ h_ => (K1467.at 18 rfl b_ h_).trans (hs1462.2.2.2 b_ h_))⟩, fun hs1469 => ?_⟩
      clear b1379
      refine xO 12 hc1468 ?_
      refine yO 12 19 rfl hs1469 (eA (.int .i64 t1439.2)) ?_; intro hc1470 hs1471
      refine xn (by kernel_rfl) ?_ _
      have S1479 := S1466.pulls [F1020, F1023, (is g731), F65, F70, (is g60), F1447, F1451, (is g1378), F971, F959, F944, F947, F906, F858, F793, F797, (is g649), (is g628), (is g607), (is g31), (is g26), (is g21)] [2, 2, 22, 22, 22, 16, 8, 8] rfl
      have S1480 := St.first (Fa := [F1020, F1023, (is g731), F65, F70, (is g60), F1447, F1451, (is g1378)]) (Fr := [F971, F959, F944, F947, F906, F858, F793, F797, (is g649), (is g628), (is g607), (is g31), (is g26), (is g21)]) S1479
      exact ⟨rfl, _, H1442, g1378, t1439.1.cells, A1444, c1445, F1447, t1439.1.trail, A1448, c1449, F1451, t1439.2, rfl, (by exact e76), (by exact e77), (by kernel_rfl), (by kernel_rfl), (by kernel_rfl), (by kernel_rfl), h1019, h1022, b736, h66, h71, b61, h1446, h1450, b1465, (((((((E1105.trans E1396).trans E1410).trans E1416).trans E1423).trans E1430).trans E1436).trans E1455), S1480, M⟩
    refine yE 10 18 rfl (nB #[.slice none 0 0, .slice none 0 0] 34 S1076) ?_
    rintro hc1486 _ w1481 ⟨g1482, rfl, b1483, S1484, K1485⟩
    replace h1019 := h1019.move (K1485.at 0 rfl)
    replace h1022 := h1022.move (K1485.at 1 rfl)
    replace b736 := K1485.blk 10 rfl b736
    replace h66 := h66.move (K1485.at 17 rfl)
    replace h71 := h71.move (K1485.at 18 rfl)
    replace b61 := K1485.blk 19 rfl b61
    refine ⟨⟨S1484.inv, (fun b_ h_ => (K1485.at 14 rfl b_ h_).trans (hs1088.2.1 b_ h_)), (fun b_ h_ => (K1485.at 15 rfl b_ h_).trans (hs1088.2.2.1 b_ h_)), (fun b_ h_ => (K1485.at 16 rfl b_ h_).trans (hs1088.2.2.2 b_ h_))⟩, fun hs1487 => ?_⟩
    obtain ⟨t1488, u1489, M⟩ := bnd M
    refine xO 1 hc1486 ?_
    refine yC 1 rfl (eC [.tmp 116] [.agg #[.slice A2 x1.cells.length c3, .slice A6 x1.trail.length c7]] Try.func12) (laws_toStore.calls k w1481 H1017 x1 A2 c3 A6 c7 (h4.ext (((((((((((Y59.trans E605).trans E626).trans E647).trans E728).trans E801).trans E862).trans E910).trans E951).trans E963).trans E975).trans E1027)) l5 (h8.ext (((((((((((Y59.trans E605).trans E626).trans E647).trans E728).trans E801).trans E862).trans E910).trans E951).trans E963).trans E975).trans E1027)) l9 (St.own' (Fa := []) (Fr := [(is g1482), F1020, F1023, F971, F959, F944, F947, F906, F858, F793, F797, (is g731), (is g649), (is g628), (is g607), (is g31), (is g26), (is g21), F65, F70, (is g60)]) S1484) t1488 u1489) ?_
    rintro hc1501 _ w1490 ⟨A1493, c1494, F1496, A1497, c1498, F1500, H1491, rfl, h1495, h1499, T1492⟩
    refine ⟨_, rfl, ?_⟩
    obtain ⟨S1502, K1503⟩ := St.call (Fa := []) (Fr := [(is g1482), F1020, F1023, F971, F959, F944, F947, F906, F858, F793, F797, (is g731), (is g649), (is g628), (is g607), (is g31), (is g26), (is g21), F65, F70, (is g60)]) S1484 T1492
    replace b1483 := K1503.blk 0 rfl b1483
    replace h1019 := h1019.move (K1503.at 1 rfl)
    replace h1022 := h1022.move (K1503.at 2 rfl)
    replace b736 := K1503.blk 11 rfl b736
    replace h66 := h66.move (K1503.at 18 rfl)
    replace h71 := h71.move (K1503.at 19 rfl)
    replace b61 := K1503.blk 20 rfl b61
    have E1504 := T1492.ext
    replace h1019 := h1019.ext E1504
    replace h1022 := h1022.ext E1504
    replace h66 := h66.ext E1504
    replace h71 := h71.ext E1504
    refine ⟨⟨(Ext.trans E1504 S1502.inv), (fun b_ h_ => (K1503.at 15 rfl b_ h_).trans (hs1487.2.1 b_ h_)), (fun b_ h_ => (K1503.at 16 rfl b_ h_).trans (hs1487.2.2.1 b_ h_)), (fun b_ h_ => (K1503.at 17 rfl b_ h_).trans (hs1487.2.2.2 b_ h_))⟩, fun hs1505 => ?_⟩
    obtain ⟨t1506, u1507, M⟩ := bnd M
    refine xO 3 hc1501 ?_
    refine yC 3 rfl (eC [.tmp 118] [.agg #[.int .i64 x10.kind, .int .i64 x10.n, .slice A11 x10.text.length c12]] Try.func13) (laws_toCell.calls k w1490 H1491 x10 A11 c12 (h13.ext ((((((((((((Y59.trans E605).trans E626).trans E647).trans E728).trans E801).trans E862).trans E910).trans E951).trans E963).trans E975).trans E1027).trans E1504)) l14 (St.own' (Fa := []) (Fr := [F1496, F1500, (is g1482), F1020, F1023, F971, F959, F944, F947, F906, F858, F793, F797, (is g731), (is g649), (is g628), (is g607), (is g31), (is g26), (is g21), F65, F70, (is g60)]) S1502) t1506 u1507) ?_
    rintro hc1515 _ w1508 ⟨A1511, c1512, F1514, H1509, rfl, h1513, T1510⟩
    refine ⟨_, rfl, ?_⟩
    obtain ⟨S1516, K1517⟩ := St.call (Fa := []) (Fr := [F1496, F1500, (is g1482), F1020, F1023, F971, F959, F944, F947, F906, F858, F793, F797, (is g731), (is g649), (is g628), (is g607), (is g31), (is g26), (is g21), F65, F70, (is g60)]) S1502 T1510
    replace h1495 := h1495.move (K1517.at 0 rfl)
    replace h1499 := h1499.move (K1517.at 1 rfl)
    replace b1483 := K1517.blk 2 rfl b1483
    replace h1019 := h1019.move (K1517.at 3 rfl)
    replace h1022 := h1022.move (K1517.at 4 rfl)
    replace b736 := K1517.blk 13 rfl b736
    replace h66 := h66.move (K1517.at 20 rfl)
    replace h71 := h71.move (K1517.at 21 rfl)
    replace b61 := K1517.blk 22 rfl b61
    have E1518 := T1510.ext
    replace h1495 := h1495.ext E1518
    replace h1499 := h1499.ext E1518
    replace h1019 := h1019.ext E1518
    replace h1022 := h1022.ext E1518
    replace h66 := h66.ext E1518
    replace h71 := h71.ext E1518
    refine ⟨⟨(Ext.trans (E1504.trans E1518) S1516.inv), (fun b_ h_ => (K1517.at 17 rfl b_ h_).trans (hs1505.2.1 b_ h_)), (fun b_ h_ => (K1517.at 18 rfl b_ h_).trans (hs1505.2.2.1 b_ h_)), (fun b_ h_ => (K1517.at 19 rfl b_ h_).trans (hs1505.2.2.2 b_ h_))⟩, fun hs1519 => ?_⟩
    obtain ⟨t1520, u1521, M⟩ := bnd M
    refine xO 5 hc1515 ?_
    refine yC 5 rfl (eC [.tmp 120] [.agg #[.int .i64 x15.kind, .int .i64 x15.n, .slice A16 x15.text.length c17]] Try.func13) (laws_toCell.calls k w1508 H1509 x15 A16 c17 (h18.ext (((((((((((((Y59.trans E605).trans E626).trans E647).trans E728).trans E801).trans E862).trans E910).trans E951).trans E963).trans E975).trans E1027).trans E1504).trans E1518)) l19 (St.own' (Fa := []) (Fr := [F1514, F1496, F1500, (is g1482), F1020, F1023, F971, F959, F944, F947, F906, F858, F793, F797, (is g731), (is g649), (is g628), (is g607), (is g31), (is g26), (is g21), F65, F70, (is g60)]) S1516) t1520 u1521) ?_
    rintro hc1529 _ w1522 ⟨A1525, c1526, F1528, H1523, rfl, h1527, T1524⟩
    refine ⟨_, rfl, ?_⟩
    obtain ⟨S1530, K1531⟩ := St.call (Fa := []) (Fr := [F1514, F1496, F1500, (is g1482), F1020, F1023, F971, F959, F944, F947, F906, F858, F793, F797, (is g731), (is g649), (is g628), (is g607), (is g31), (is g26), (is g21), F65, F70, (is g60)]) S1516 T1524
    replace h1513 := h1513.move (K1531.at 0 rfl)
    replace h1495 := h1495.move (K1531.at 1 rfl)
    replace h1499 := h1499.move (K1531.at 2 rfl)
    replace b1483 := K1531.blk 3 rfl b1483
    replace h1019 := h1019.move (K1531.at 4 rfl)
    replace h1022 := h1022.move (K1531.at 5 rfl)
    replace b736 := K1531.blk 14 rfl b736
    replace h66 := h66.move (K1531.at 21 rfl)
    replace h71 := h71.move (K1531.at 22 rfl)
    replace b61 := K1531.blk 23 rfl b61
    have E1532 := T1524.ext
    replace h1513 := h1513.ext E1532
    replace h1495 := h1495.ext E1532
    replace h1499 := h1499.ext E1532
    replace h1019 := h1019.ext E1532
    replace h1022 := h1022.ext E1532
    replace h66 := h66.ext E1532
    replace h71 := h71.ext E1532
    refine ⟨⟨(Ext.trans ((E1504.trans E1518).trans E1532) S1530.inv), (fun b_ h_ => (K1531.at 18 rfl b_ h_).trans (hs1519.2.1 b_ h_)), (fun b_ h_ => (K1531.at 19 rfl b_ h_).trans (hs1519.2.2.1 b_ h_)), (fun b_ h_ => (K1531.at 20 rfl b_ h_).trans (hs1519.2.2.2 b_ h_))⟩, fun hs1533 => ?_⟩
    have l1534 := h1495.le
    have S1535 := S1530.pulls [F1496, F1528, F1514, F1500, (is g1482), F1020, F1023, F971, F959, F944, F947, F906, F858, F793, F797, (is g731), (is g649), (is g628), (is g607), (is g31), (is g26), (is g21), F65, F70, (is g60)] [2] rfl
    obtain ⟨H1536, S1537, E1538, h1539, z1540⟩ := S1535.frzRow h1495
    replace h1527 := h1527.ext E1538
    replace h1513 := h1513.ext E1538
    replace h1499 := h1499.ext E1538
    replace h1019 := h1019.ext E1538
    replace h1022 := h1022.ext E1538
    replace h66 := h66.ext E1538
    replace h71 := h71.ext E1538
    have l1541 := h1499.le
    have S1542 := S1537.pulls [F1500, F1528, F1514, (is g1482), F1020, F1023, F971, F959, F944, F947, F906, F858, F793, F797, (is g731), (is g649), (is g628), (is g607), (is g31), (is g26), (is g21), F65, F70, (is g60)] [2] rfl
    obtain ⟨H1543, S1544, E1545, h1546, z1547⟩ := S1542.frzRow h1499
    replace h1527 := h1527.ext E1545
    replace h1513 := h1513.ext E1545
    replace h1019 := h1019.ext E1545
    replace h1022 := h1022.ext E1545
    replace h66 := h66.ext E1545
    replace h71 := h71.ext E1545
    have l1548 := h1513.le
    have S1549 := S1544.pulls [F1514, F1528, (is g1482), F1020, F1023, F971, F959, F944, F947, F906, F858, F793, F797, (is g731), (is g649), (is g628), (is g607), (is g31), (is g26), (is g21), F65, F70, (is g60)] [1] rfl
    obtain ⟨H1550, S1551, E1552, h1553, z1554⟩ := S1549.frzRow h1513
    replace h1527 := h1527.ext E1552
    replace h1019 := h1019.ext E1552
    replace h1022 := h1022.ext E1552
    replace h66 := h66.ext E1552
    replace h71 := h71.ext E1552
    have l1555 := h1527.le
    obtain ⟨H1556, S1557, E1558, h1559, z1560⟩ := S1551.frzRow h1527
    replace h1019 := h1019.ext E1558
    replace h1022 := h1022.ext E1558
    replace h66 := h66.ext E1558
    replace h71 := h71.ext E1558
    obtain ⟨t1561, u1562, M⟩ := bnd M
    refine xO 6 hc1529 ?_
    refine yC 6 rfl (eC [.tmp 117, .tmp 119, .tmp 121] [.agg #[.slice A1493 t1488.cells.length c1494, .slice A1497 t1488.trail.length c1498], .agg #[.int .i64 t1506.kind, .int .i64 t1506.n, .slice A1511 t1506.text.length c1512], .agg #[.int .i64 t1520.kind, .int .i64 t1520.n, .slice A1525 t1520.text.length c1526]] Try.func33) (impl_UnifyStore.calls k w1522 H1556 t1488 A1493 c1494 A1497 c1498 t1506 A1511 c1512 t1520 A1525 c1526 (h1539.ext ((E1545.trans E1552).trans E1558)) l1534 (h1546.ext (E1552.trans E1558)) l1541 (h1553.ext E1558) l1548 h1559 l1555 (St.own' (Fa := []) (Fr := [(is g1482), F1020, F1023, F971, F959, F944, F947, F906, F858, F793, F797, (is g731), (is g649), (is g628), (is g607), (is g31), (is g26), (is g21), F65, F70, (is g60)]) S1557) t1561 u1562) ?_
    rintro hc1574 _ w1563 ⟨A1566, c1567, F1569, A1570, c1571, F1573, H1564, rfl, h1568, h1572, T1565⟩
    refine ⟨_, rfl, ?_⟩
    obtain ⟨S1575, K1576⟩ := St.call (Fa := []) (Fr := [(is g1482), F1020, F1023, F971, F959, F944, F947, F906, F858, F793, F797, (is g731), (is g649), (is g628), (is g607), (is g31), (is g26), (is g21), F65, F70, (is g60)]) S1557 T1565
    replace b1483 := K1576.blk 0 rfl b1483
    replace h1019 := h1019.move (K1576.at 1 rfl)
    replace h1022 := h1022.move (K1576.at 2 rfl)
    replace b736 := K1576.blk 11 rfl b736
    replace h66 := h66.move (K1576.at 18 rfl)
    replace h71 := h71.move (K1576.at 19 rfl)
    replace b61 := K1576.blk 20 rfl b61
    have E1577 := T1565.ext
    replace h1019 := h1019.ext E1577
    replace h1022 := h1022.ext E1577
    replace h66 := h66.ext E1577
    replace h71 := h71.ext E1577
    refine ⟨⟨(Ext.trans (((((((E1504.trans E1518).trans E1532).trans E1538).trans E1545).trans E1552).trans E1558).trans E1577) S1575.inv), (fun b_ h_ => (K1576.at 15 rfl b_ h_).trans (hs1533.2.1 b_ h_)), (fun b_ h_ => (K1576.at 16 rfl b_ h_).trans (hs1533.2.2.1 b_ h_)), (fun b_ h_ => (K1576.at 17 rfl b_ h_).trans (hs1533.2.2.2 b_ h_))⟩, fun hs1578 => ?_⟩
    refine xO 7 hc1574 ?_
    refine yO 7 115 rfl hs1578 (eM (.tuple #[.agg #[.slice A1566 t1561.1.cells.length c1567, .slice A1570 t1561.1.trail.length c1571], .int .i64 t1561.2])) ?_; intro hc1579 hs1580
    refine xV 8 123 rfl hc1579 hs1580 (fun L_ w_ hc_ hu_ hs_ => e_extract (vs := #[.agg #[.slice A1566 t1561.1.cells.length c1567, .slice A1570 t1561.1.trail.length c1571], .int .i64 t1561.2]) (v := .agg #[.slice A1566 t1561.1.cells.length c1567, .slice A1570 t1561.1.trail.length c1571]) (by kernel_rfl) rfl) ?_; intro hc1581 hs1582
    refine xV 9 124 rfl hc1581 hs1582 (fun L_ w_ hc_ hu_ hs_ => e_extract (vs := #[.agg #[.slice A1566 t1561.1.cells.length c1567, .slice A1570 t1561.1.trail.length c1571], .int .i64 t1561.2]) (v := .int .i64 t1561.2) (by kernel_rfl) rfl) ?_; intro hc1583 hs1584
    have S1585 := S1575.pulls [(is g1482), F1569, F1573, F1020, F1023, F971, F959, F944, F947, F906, F858, F793, F797, (is g731), (is g649), (is g628), (is g607), (is g31), (is g26), (is g21), F65, F70, (is g60)] [2] rfl
    refine xO 11 hc1583 ?_
    refine yS 11 rfl (eSa g1482 0 [.slice A1566 t1561.1.cells.length c1567, .slice A1570 t1561.1.trail.length c1571] S1585 b1483) ?_
    rintro hc1590 w1586 ⟨b1587, S1588, K1589⟩
    replace h1568 := h1568.move (K1589.at 0 rfl)
    replace h1572 := h1572.move (K1589.at 1 rfl)
    replace h1019 := h1019.move (K1589.at 2 rfl)
    replace h1022 := h1022.move (K1589.at 3 rfl)
    replace b736 := K1589.blk 12 rfl b736
    replace h66 := h66.move (K1589.at 19 rfl)
    replace h71 := h71.move (K1589.at 20 rfl)
    replace b61 := K1589.blk 21 rfl b61
    refine ⟨⟨(Ext.trans (((((((E1504.trans E1518).trans E1532).trans E1538).trans E1545).trans E1552).trans E1558).trans E1577) S1588.inv), (fun b_ h_ => (K1589.at 16 rfl b_ h_).trans (hs1584.2.1 b_ h_)), (fun b_ h_ => (K1589.at 17 rfl b_ h_).trans (hs1584.2.2.1 b_ h_)), (fun b_ h_ => (K1589.at 18 rfl b_ h_).trans (hs1584.2.2.2 b_ h_))⟩, fun hs1591 => ?_⟩
    clear b1483
    refine xO 12 hc1590 ?_
    refine yO 12 19 rfl hs1591 (eA (.int .i64 t1561.2)) ?_; intro hc1592 hs1593
    refine xn (by kernel_rfl) ?_ _
    have S1601 := S1588.pulls [F1020, F1023, (is g731), F65, F70, (is g60), F1569, F1573, (is g1482), F971, F959, F944, F947, F906, F858, F793, F797, (is g649), (is g628), (is g607), (is g31), (is g26), (is g21)] [2, 2, 22, 22, 22, 16, 8, 8] rfl
    have S1602 := St.first (Fa := [F1020, F1023, (is g731), F65, F70, (is g60), F1569, F1573, (is g1482)]) (Fr := [F971, F959, F944, F947, F906, F858, F793, F797, (is g649), (is g628), (is g607), (is g31), (is g26), (is g21)]) S1601
    exact ⟨rfl, _, H1564, g1482, t1561.1.cells, A1566, c1567, F1569, t1561.1.trail, A1570, c1571, F1573, t1561.2, rfl, (by exact e76), (by exact e77), (by kernel_rfl), (by kernel_rfl), (by kernel_rfl), (by kernel_rfl), h1019, h1022, b736, h66, h71, b61, h1568, h1572, b1587, (((((((E1504.trans E1518).trans E1532).trans E1538).trans E1545).trans E1552).trans E1558).trans E1577), S1602, M⟩
  clear M
  rintro a1074 w1048 ⟨f1049, H1050, g1052, x1054, A1055, c1056, F1057, x1059, A1060, c1061, F1062, x1064, rfl, e1065, e1066, e1067, e1068, e1069, e1070, h1019, h1022, b736, h66, h71, b61, h1058, h1063, b1053, Y1051, S1071, M⟩
  rw [laws_FnExactUnifyStore.l1] at M
  refine then_n (wp_seq (wp_seq (wR (lV 125 (e_loadS (b := g1052) (off := 0) (cs := [.slice A1055 x1054.length c1056, .slice A1060 x1059.length c1061]) Try.underlying34 rfl (by kernel_rfl) (by exact e1069) (blk_cells b1053 rfl)) (lV 126 (e_loadS (b := g60) (off := 0) (cs := [.slice A63 x62.length c64, .slice A68 x67.length c69]) Try.underlying34 rfl (by kernel_rfl) (by exact e1065) (blk_cells b61 rfl)) ?_)))))
  obtain ⟨t1603, u1604, M⟩ := bnd M
  refine lC 127 (eC [.tmp 125, .tmp 126] [.agg #[.slice A1055 x1054.length c1056, .slice A1060 x1059.length c1061], .agg #[.slice A63 x62.length c64, .slice A68 x67.length c69]] Try.func15) (by have l1605 := h1058.le; have S1606 := S1071.pull (F := F1057) (Fr := [F1020, F1023, (is g731), F65, F70, (is g60), F1062, (is g1052)]) 6 rfl rfl; obtain ⟨H1607, S1608, E1609, h1610, z1611⟩ := S1606.frzRow h1058; replace h1019 := h1019.ext E1609; replace h1022 := h1022.ext E1609; replace h66 := h66.ext E1609; replace h71 := h71.ext E1609; replace h1063 := h1063.ext E1609; have l1612 := h1063.le; have S1613 := S1608.pull (F := F1062) (Fr := [F1020, F1023, (is g731), F65, F70, (is g60), (is g1052)]) 6 rfl rfl; obtain ⟨H1614, S1615, E1616, h1617, z1618⟩ := S1613.frzRow h1063; replace h1019 := h1019.ext E1616; replace h1022 := h1022.ext E1616; replace h66 := h66.ext E1616; replace h71 := h71.ext E1616; have l1619 := h66.le; have S1620 := S1615.pull (F := F65) (Fr := [F1020, F1023, (is g731), F70, (is g60), (is g1052)]) 3 rfl rfl; obtain ⟨H1621, S1622, E1623, h1624, z1625⟩ := S1620.frzRow h66; replace h1019 := h1019.ext E1623; replace h1022 := h1022.ext E1623; replace h71 := h71.ext E1623; have l1626 := h71.le; have S1627 := S1622.pull (F := F70) (Fr := [F1020, F1023, (is g731), (is g60), (is g1052)]) 3 rfl rfl; obtain ⟨H1628, S1629, E1630, h1631, z1632⟩ := S1627.frzRow h71; replace h1019 := h1019.ext E1630; replace h1022 := h1022.ext E1630; exact (laws_eqStore.calls k w1048 H1628 (⟨x1054, x1059⟩ : Store) A1055 c1056 A1060 c1061 (⟨x62, x67⟩ : Store) A63 c64 A68 c69 (h1610.ext ((E1616.trans E1623).trans E1630)) l1605 (h1617.ext (E1623.trans E1630)) l1612 (h1624.ext E1630) l1619 h1631 l1626 S1629.own0 t1603 u1604)) ?_
  rintro _ w1633 ⟨rfl, C1634⟩
  refine ⟨_, rfl, ?_⟩
  obtain ⟨S1635, K1636⟩ := S1071.still C1634
  replace h1019 := h1019.move (K1636.at 0 rfl)
  replace h1022 := h1022.move (K1636.at 1 rfl)
  replace b736 := K1636.blk 2 rfl b736
  replace h66 := h66.move (K1636.at 3 rfl)
  replace h71 := h71.move (K1636.at 4 rfl)
  replace h1058 := h1058.move (K1636.at 6 rfl)
  replace h1063 := h1063.move (K1636.at 7 rfl)
  refine lV 128 (e_notv (c := t1603) (by kernel_rfl)) (lV 129 (eM (.bool (decide (¬ (t1603 = true))))) ?_)
  by_cases q1637 : ¬ (t1603 = true)
  · replace M := ifp q1637 M
    refine lK 129 true (bT q1637) ?_
    refine lK 129 true (bT q1637) ?_
    refine lK 129 true (bT q1637) ?_
    refine lV 133 (eT (.bool true) (bT q1637)) (wN (then_n (cond_t rfl (by kernel_rfl) (wp_seq (wR (lV 6 (eA (.bool false)) (wN ?_)))))))
    refine then_n (wp_ret (then_r ?_))
    obtain rfl := Option.some.inj M
    exact ret1 rfl rfl  (show _ = .bool false from (by kernel_rfl)) ⟨rfl, S1635.chg⟩
  replace M := ifn q1637 M
  refine lG 130 129 (bF q1637) (eM (.int .i64 x1064) (by exact e1070)) (lG 131 129 (bF q1637) (eM (.int .i64 x72) (by exact e1066)) (lG 132 129 (bF q1637) (eNe .i64 x1064 x72) (lV 133 (eF (.bool (decide (x1064 ≠ x72))) (bF q1637)) (wN (then_n ?_)))))
  by_cases q1638 : x1064 ≠ x72
  · replace M := ifp q1638 M
    refine cT (bT q1638) (wp_seq (wR (lV 6 (eA (.bool false)) (wN (then_n (wp_ret (then_r ?_)))))))
    obtain rfl := Option.some.inj M
    exact ret1 rfl rfl  (show _ = .bool false from (by kernel_rfl)) ⟨rfl, S1635.chg⟩
  replace M := ifn q1638 M
  refine cF (bF q1638) (wp_skip (then_n (wp_seq (wR (lV 17 (eA (.int .i64 1)) (wN (then_n ?_)))))))
  refine wp_seq (wR (lV 134 (e_loadS (b := g731) (off := 0) (cs := [.slice A704 t699.1.cells.length c705, .slice A708 t699.1.trail.length c709]) Try.underlying34 rfl (by kernel_rfl) (by exact e1067) (blk_cells b736 rfl)) (lV 135 (eM (.int .i64 1)) ?_)))
  obtain ⟨t1639, u1640, M⟩ := bnd M
  refine lC 136 (eC [.tmp 134, .tmp 135] [.agg #[.slice A704 t699.1.cells.length c705, .slice A708 t699.1.trail.length c709], .int .i64 1] Try.func29) (by have l1641 := h1019.le; obtain ⟨H1642, S1643, E1644, h1645, z1646⟩ := S1635.frzRow h1019; replace h1022 := h1022.ext E1644; replace h66 := h66.ext E1644; replace h71 := h71.ext E1644; replace h1058 := h1058.ext E1644; replace h1063 := h1063.ext E1644; have l1647 := h1022.le; obtain ⟨H1648, S1649, E1650, h1651, z1652⟩ := S1643.frzRow h1022; replace h66 := h66.ext E1650; replace h71 := h71.ext E1650; replace h1058 := h1058.ext E1650; replace h1063 := h1063.ext E1650; exact (by have q_ := (laws_heldStore.calls k w1633 H1648 (⟨t1014.2.1, t1014.2.2⟩ : Store) A704 c705 A708 c709 1 (h1645.ext E1650) l1641 h1651 l1647 S1649.own0 t1639 u1640); rw [(show t1014.2.1.length = t699.1.cells.length from n1021), (show t1014.2.2.length = t699.1.trail.length from n1024)] at q_; exact q_)) ?_
  rintro _ w1653 ⟨rfl, C1654⟩
  refine ⟨_, rfl, ?_⟩
  obtain ⟨S1655, K1656⟩ := S1635.still C1654
  refine lV 17 (eA (.int .i64 t1639)) (wN (then_n (wp_seq (wp_seq (wR (lV 137 (eM (.int .i64 t1639)) (lV 138 (eLt .i64 t1639 0) ?_)))))))
  refine wN (then_n ?_)
  by_cases q1657 : t1639 < 0
  · replace M := ifp q1657 M
    refine cT (bT q1657) (wp_seq (wR (lV 6 (eA (.bool false)) (wN (then_n (wp_ret (then_r ?_)))))))
    obtain rfl := Option.some.inj M
    exact ret1 rfl rfl  (show _ = .bool false from (by kernel_rfl)) ⟨rfl, S1655.chg⟩
  replace M := ifn q1657 M
  refine cF (bF q1657) (wp_skip (then_n (wp_seq (wp_seq (wR (lV 139 (eM (.int .i64 t1639)) (lV 140 (eM (.int .i64 t1014.1) (by exact e1068)) ?_)))))))
  refine lV 141 (eNe .i64 t1639 t1014.1) (wN (then_n ?_))
  by_cases q1658 : t1639 ≠ t1014.1
  · replace M := ifp q1658 M
    refine cT (bT q1658) (wp_seq (wR (lV 6 (eA (.bool false)) (wN (then_n (wp_ret (then_r ?_)))))))
    obtain rfl := Option.some.inj M
    exact ret1 rfl rfl  (show _ = .bool false from (by kernel_rfl)) ⟨rfl, S1655.chg⟩
  replace M := ifn q1658 M
  refine cF (bF q1658) (wp_skip (then_n (wp_seq (wR (lV 6 (eA (.bool true)) (wN (then_n ?_)))))))
  refine wp_ret ?_
  obtain rfl := Option.some.inj M
  exact ret1 rfl rfl  (show _ = .bool true from (by kernel_rfl)) ⟨rfl, S1655.chg⟩
end Go.Proofs.Ytnigifmkjmbfiaa
