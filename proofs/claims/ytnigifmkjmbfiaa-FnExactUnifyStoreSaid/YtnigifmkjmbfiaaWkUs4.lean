import Derived.Test.YtnigifmkjmbfiaaWkUs3
namespace Go.Proofs.Ytnigifmkjmbfiaa
open Go.Sx Go.Sy
attribute [local irreducible] Go.wpList Go.wpStill Go.wpQuiet Go.Code.wp
set_option maxRecDepth 100000
set_option maxHeartbeats 1000000
set_option linter.unusedVariables false
set_option linter.unusedSimpArgs false

/-! impl_Store_bind -/
def impl_Store_bind_2.l0 (_k : Nat) (x1 : Store) (x27 : Int) (x28 : Int) (x29 : Int) (x30 : List UInt8) : Option (Int × Store) := (if (x1.trail.length : Int) ≥ 20000 then some (10, x1) else (if 0 ≤ x27 then (if x27 < (x1.cells.length : Int) then (if x1.trail.length + 1 ≤ 17592186044416 then some (0, (⟨(x1.cells.set ((x27).toNat) (⟨x28, x29, x30⟩ : Cell)), (x1.trail ++ [x27])⟩ : Store)) else none) else none) else none))
def impl_Store_bind_2.f (k : Nat) (x1 : Store) (x12 : Int) (x13 : Cell) : Option (Int × Store) := (if x13.kind = 0 then (if x13.n > x12 then ((impl_ref.f x12).bind fun t56 => (impl_Store_bind_2.l0 0 x1 x13.n t56.kind t56.n t56.text)) else (if x13.kind ≠ 0 then ((impl_Store_within.f k x1 x12 x13 []).bind fun t116 => (if t116.1 = true then some (5, x1) else (impl_Store_bind_2.l0 0 x1 x12 x13.kind x13.n x13.text))) else (impl_Store_bind_2.l0 0 x1 x12 x13.kind x13.n x13.text))) else (if x13.kind ≠ 0 then ((impl_Store_within.f k x1 x12 x13 []).bind fun t176 => (if t176.1 = true then some (5, x1) else (impl_Store_bind_2.l0 0 x1 x12 x13.kind x13.n x13.text))) else (impl_Store_bind_2.l0 0 x1 x12 x13.kind x13.n x13.text)))
theorem impl_Store_bind_2.calls (k : Nat) (w : World) (H : Hp) (x1 : Store) (g2 : Nat) (A4 : Option Addr) (c5 : Nat) (F7 : Foot) (A8 : Option Addr) (c9 : Nat) (F11 : Foot) (x12 : Int) (x13 : Cell) (A14 : Option Addr) (c15 : Nat) (h6 : Row (ro st36) 36 H (hp w) F7 A4 c5 x1.cells) (h10 : Row tInt 3 H (hp w) F11 A8 c9 x1.trail) (b3 : w.heap[g2]? = some (.cells #[.slice A4 x1.cells.length c5, .slice A8 x1.trail.length c9] 34 (0, 0))) (h16 : Rd tByte H A14 x13.text) (l17 : x13.text.length ≤ c15) (S : Own [F7, F11, (is g2)] H w) (r : Int × Store) (M : impl_Store_bind_2.f k x1 x12 x13 = some r) :
    Calls Try.prog 62 #[.pointer (some ⟨g2, 0, none⟩), .int .i64 x12, .agg #[.int .i64 x13.kind, .int .i64 x13.n, .slice A14 x13.text.length c15]] w (fun e e_w => ∃ (A_1 : Option Addr) (c_1 : Nat) (F_1 : Foot) (A_2 : Option Addr) (c_2 : Nat) (F_2 : Foot) (H_ : Hp), e = .returned (.int .i64 r.1) ∧ Row (ro st36) 36 H_ (hp e_w) F_1 A_1 c_1 r.2.cells ∧ Row tInt 3 H_ (hp e_w) F_2 A_2 c_2 r.2.trail ∧ e_w.heap[g2]? = some (.cells #[.slice A_1 r.2.cells.length c_1, .slice A_2 r.2.trail.length c_2] 34 (0, 0)) ∧ St (anyOf [F7, F11, (is g2)]) H w [(is g2), F_1, F_2] H_ e_w) := by
  rw [impl_Store_bind_2.f] at M
  refine enter (l := [.pointer (some ⟨g2, 0, none⟩), .int .i64 x12, .agg #[.int .i64 x13.kind, .int .i64 x13.n, .slice A14 x13.text.length c15]]) 57 Try.func62 rfl rfl rfl ?_
  have S0_ := S.st
  refine wp_seq (wR ?_)
  refine lW 5 (nB #[.int .i64 x13.kind, .int .i64 x13.n, .slice A14 x13.text.length c15] 36 S0_) ?_
  rintro _ w18 ⟨g19, rfl, b20, S21, K22⟩
  replace h6 := h6.move (K22.at 0 rfl)
  replace h10 := h10.move (K22.at 1 rfl)
  replace b3 := K22.blk 2 rfl b3
  refine lV 6 (eA (.int .i64 0)) (wN (then_n (wp_seq (wR (lV 8 (eM (.int .i64 x12)) (lV 7 (eA (.int .i64 x12)) (wN ?_)))))))
  refine then_n ?_
  refine wp_seq_cut (fun a41 w23 => ∃ (f24 : Nat → Value) (H25 : Hp) (x27 : Int) (x28 : Int) (x29 : Int) (x30 : List UInt8) (A31 : Option Addr) (c32 : Nat), a41 = mk 57 f24 ∧ f24 0 = .pointer (some ⟨g2, 0, none⟩) ∧ f24 5 = .pointer (some ⟨g19, 0, none⟩) ∧ f24 7 = .int .i64 x27 ∧ w23.heap[g19]? = some (.cells #[.int .i64 x28, .int .i64 x29, .slice A31 x30.length c32] 36 (0, 0)) ∧ Row (ro st36) 36 H25 (hp w23) F7 A4 c5 x1.cells ∧ Row tInt 3 H25 (hp w23) F11 A8 c9 x1.trail ∧ w23.heap[g2]? = some (.cells #[.slice A4 x1.cells.length c5, .slice A8 x1.trail.length c9] 34 (0, 0)) ∧ Rd tByte H25 A31 x30 ∧ x30.length ≤ c32 ∧ Ext H H25 ∧ St (anyOf [F7, F11, (is g2)]) H w [(is g19), F7, F11, (is g2)] H25 w23 ∧ impl_Store_bind_2.l0 0 x1 x27 x28 x29 x30 = some r) ?_ ?_
  · refine wp_block (wp_seq (wR (lV 10 (eD g19 0 0 1 Try.underlying36) (lV 11 (eL ⟨g19, 0 + 0, none⟩ (.int .i64 x13.kind) Try.underlying3 (blk_cell b20 rfl)) (lV 12 (eEq .i64 x13.kind 0) (lV 13 (eM (.bool (decide (x13.kind = 0)))) ?_))))))
    by_cases q42 : x13.kind = 0
    · replace M := ifp q42 M
      refine lG 14 13 (bT q42) (eD g19 0 1 1 Try.underlying36) (lG 15 13 (bT q42) (eL ⟨g19, 0 + 1, none⟩ (.int .i64 x13.n) Try.underlying3 (blk_cell b20 rfl)) (lG 16 13 (bT q42) (eM (.int .i64 x12)) (lG 17 13 (bT q42) (e_gtr (k := .i64) (a := x13.n) (b := x12) (by kernel_rfl) (by kernel_rfl)) (lV 18 (eT (.bool (decide (x13.n > x12))) (bT q42)) (lV 9 (eA (.bool (decide (x13.n > x12)))) (wN (then_n ?_)))))))
      by_cases q43 : x13.n > x12
      · replace M := ifp q43 M
        refine cT (bT q43) ?_
        refine region_mix (S := (fun (L_ : Array Bool) (w_ : World) => Ext H (hp w_) ∧ (L_.getD 5 true = false → (∀ b_, (is g19) b_ → hp w_ b_ = hp w18 b_)))) (by kernel_rfl) S21 ?_
        intro w44 S45 K46 hc47
        have o48 := b20
        have hs49 : (fun (L_ : Array Bool) (w_ : World) => Ext H (hp w_) ∧ (L_.getD 5 true = false → (∀ b_, (is g19) b_ → hp w_ b_ = hp w18 b_))) (Array.replicate 6 false) w44 := ⟨S45.inv, (fun _ => (fun b_ h_ => K46.at 0 rfl b_ h_))⟩
        replace b20 := K46.blk 0 rfl b20
        replace h6 := h6.move (K46.at 1 rfl)
        replace h10 := h10.move (K46.at 2 rfl)
        replace b3 := K46.blk 3 rfl b3
        refine xW 0 19 rfl (fun L_ w_ => by simp only [getD_set_ne true (show (0 : Nat) ≠ 5 by decide)]) hc47 hs49 (fun L_ w_ hc_ hu_ hs_ => eD g19 0 1 1 Try.underlying36) ?_; intro hc50 hs51
        refine xW 1 20 rfl (fun L_ w_ => by simp only [getD_set_ne true (show (1 : Nat) ≠ 5 by decide)]) hc50 hs51 (fun L_ w_ hc_ hu_ hs_ => eL ⟨g19, 0 + 1, none⟩ (.int .i64 x13.n) Try.underlying3 (blk_cell (((hs_.2 (unl 9 5 1 hc_ hu_ (by kernel_rfl))) _ rfl).trans o48) rfl)) ?_; intro hc52 hs53
        refine xO 2 hc52 ?_
        refine yP 2 21 rfl (fun L_ w_ => by simp only [getD_set_ne true (show (2 : Nat) ≠ 5 by decide)]) hs53 (eM (.int .i64 x12)) ?_; intro hc54 hs55
        obtain ⟨t56, u57, M⟩ := bnd M
        refine xO 3 hc54 ?_
        refine yC 3 rfl (eC [.tmp 21] [.int .i64 x12] Try.func69) (impl_ref.calls w44 H x12  (St.own' (Fa := []) (Fr := [(is g19), F7, F11, (is g2)]) S45) t56 u57) ?_
        rintro hc65 _ w58 ⟨A61, c62, F64, H59, rfl, h63, T60⟩
        refine ⟨_, rfl, ?_⟩
        obtain ⟨S66, K67⟩ := St.call (Fa := []) (Fr := [(is g19), F7, F11, (is g2)]) S45 T60
        replace b20 := K67.blk 0 rfl b20
        replace h6 := h6.move (K67.at 1 rfl)
        replace h10 := h10.move (K67.at 2 rfl)
        replace b3 := K67.blk 3 rfl b3
        have E68 := T60.ext
        replace h6 := h6.ext E68
        replace h10 := h10.ext E68
        refine ⟨⟨(Ext.trans E68 S66.inv), (fun q_ => (fun b_ h_ => (K67.at 0 rfl b_ h_).trans ((hs55.2 (by decide +kernel)) b_ h_)))⟩, fun hs69 => ?_⟩
        refine xO 4 hc65 ?_
        refine yP 4 7 rfl (fun L_ w_ => by simp only [getD_set_ne true (show (4 : Nat) ≠ 5 by decide)]) hs69 (eA (.int .i64 x13.n)) ?_; intro hc70 hs71
        have S72 := S66.pulls [(is g19), F64, F7, F11, (is g2)] [1] rfl
        refine xO 5 hc70 ?_
        refine yS 5 rfl (eSa g19 0 [.int .i64 t56.kind, .int .i64 t56.n, .slice A61 t56.text.length c62] S72 b20) ?_
        rintro hc77 w73 ⟨b74, S75, K76⟩
        replace h63 := h63.move (K76.at 0 rfl)
        replace h6 := h6.move (K76.at 1 rfl)
        replace h10 := h10.move (K76.at 2 rfl)
        replace b3 := K76.blk 3 rfl b3
        refine ⟨⟨(Ext.trans E68 S75.inv), (fun q_ => absurd q_ (by decide +kernel))⟩, fun hs78 => ?_⟩
        clear b20
        refine xn (by kernel_rfl) ?_ _
        refine inb_n (then_n ?_)
        have l79 := h63.le
        have S80 := S75.pulls [F64, (is g19), F7, F11, (is g2)] [1] rfl
        obtain ⟨H81, S82, E83, h84, z85⟩ := S80.frzRow h63
        replace h6 := h6.ext E83
        replace h10 := h10.ext E83
        exact ⟨_, H81, x13.n, t56.kind, t56.n, t56.text, A61, c62, rfl, (by kernel_rfl), (by kernel_rfl), (by kernel_rfl), b74, h6, h10, b3, h84, l79, (E68.trans E83), S82, M⟩
      replace M := ifn q43 M
      refine cF (bF q43) (wp_seq (wR (lV 24 (eD g19 0 0 1 Try.underlying36) (lV 25 (eL ⟨g19, 0 + 0, none⟩ (.int .i64 x13.kind) Try.underlying3 (blk_cell b20 rfl)) (lV 26 (eNe .i64 x13.kind 0) (lV 27 (eM (.bool (decide (x13.kind ≠ 0)))) ?_))))))
      by_cases q86 : x13.kind ≠ 0
      · replace M := ifp q86 M
        refine lG 28 27 (bT q86) (eM (.pointer (some ⟨g2, 0, none⟩))) (lG 29 27 (bT q86) (eM (.int .i64 x12)) (lG 30 27 (bT q86) (e_loadS (b := g19) (off := 0) (cs := [.int .i64 x13.kind, .int .i64 x13.n, .slice A14 x13.text.length c15]) Try.underlying36 rfl (by kernel_rfl) (by kernel_rfl) (blk_cells b20 rfl)) ?_))
        refine lveg (d := 31) (wanted_t (d := 27) rfl rfl (by kernel_rfl) (bT q86)) rfl (by kernel_rfl) (e_makeMap S21 encI tBool) ?_
        rintro _ w87 ⟨g88, rfl, h89, S90, K91⟩
        replace b20 := K91.blk 0 rfl b20
        replace h6 := h6.move (K91.at 1 rfl)
        replace h10 := h10.move (K91.at 2 rfl)
        replace b3 := K91.blk 3 rfl b3
        have S92 := S90.pulls [F7, (is g88), (is g19), F11, (is g2)] [2] rfl
        have l93 := h6.le
        obtain ⟨H94, S95, E96, h97, z98⟩ := S92.frzRow h6
        have h99 := h89.ext E96
        have h100 := h10.ext E96
        replace h97 := h97.unro
        have S101 := S95.pulls [F11, (is g88), (is g19), (is g2)] [2] rfl
        have l102 := h100.le
        obtain ⟨H103, S104, E105, h106, z107⟩ := S101.frzRow h100
        have h108 := h99.ext E105
        have S109 := S104.pulls [(is g2), (is g88), (is g19)] [2] rfl
        obtain ⟨H110, S111, E112, h113, z114⟩ := S109.frzBlk b3
        have h115 := h108.ext E112
        obtain ⟨t116, u117, M⟩ := bnd M
        refine lcall_w (wanted_t (d := 27) rfl rfl (by kernel_rfl) (bT q86)) (by kernel_rfl) (eC [.tmp 28, .tmp 29, .tmp 30, .tmp 31] [.pointer (some ⟨g2, 0, none⟩), .int .i64 x12, .agg #[.int .i64 x13.kind, .int .i64 x13.n, .slice A14 x13.text.length c15], .map (some g88)] Try.func72) (impl_Store_within.calls k w87 H110 x1 g2 A4 c5 A8 c9 x12 x13 A14 c15 [] g88 (h97.ext (E105.trans E112)) l93 (h106.ext E112) l102 h113 (h16.ext ((E96.trans E105).trans E112)) l17 h115 (St.own' (Fa := [(is g88)]) (Fr := [(is g19)]) S111) t116 u117) ?_
        rintro _ w118 ⟨H119, rfl, h121, T120⟩
        refine ⟨_, rfl, ?_⟩
        obtain ⟨S122, K123⟩ := St.call (Fa := [(is g88)]) (Fr := [(is g19)]) S111 T120
        replace b20 := K123.blk 0 rfl b20
        obtain ⟨H124, S125, E126, v127⟩ := St.thaw2 S109 z114 S122 T120.ext E112
        replace b3 := (v127 _ rfl).trans b3
        obtain ⟨H128, S129, E130, v131⟩ := St.thaw2 S101 z107 S125 E126 E105
        replace h10 := h10.move v131
        obtain ⟨H132, S133, E134, v135⟩ := St.thaw2 S92 z98 S129 E130 E96
        replace h6 := h6.move v135
        replace h6 := h6.ext E134
        replace h10 := h10.ext E134
        refine lV 33 (eT (.bool t116.1) (bT q86)) (lV 23 (eA (.bool t116.1)) (wN (then_n ?_)))
        by_cases q136 : t116.1 = true
        · replace M := ifp q136 M
          refine cT (bvt q136 (by kernel_rfl)) (wp_seq (wR (lV 6 (eA (.int .i64 5)) (wN (then_n (wp_ret (inb_r ?_)))))))
          refine then_r ?_
          obtain rfl := Option.some.inj M
          have S139 := S133.pulls [(is g2), F7, F11, (is g88), (is g19)] [1, 1, 2] rfl
          have S140 := St.first (Fa := [(is g2), F7, F11]) (Fr := [(is g88), (is g19)]) S139
          exact ret1 rfl rfl  (show _ = .int .i64 5 from (by kernel_rfl)) ⟨A4, c5, F7, A8, c9, F11, H132, rfl, h6, h10, b3, S140⟩
        replace M := ifn q136 M
        refine cF (bvf q136 (by kernel_rfl)) (wp_skip (inb_n (then_n ?_)))
        have S144 := S133.pulls [(is g19), F7, F11, (is g2), (is g88)] [2, 2, 2, 4] rfl
        have S145 := St.first (Fa := [(is g19), F7, F11, (is g2)]) (Fr := [(is g88)]) S144
        exact ⟨_, H132, x12, x13.kind, x13.n, x13.text, A14, c15, rfl, (by kernel_rfl), (by kernel_rfl), (by kernel_rfl), b20, h6, h10, b3, (h16.ext E134), l17, E134, S145, M⟩
      replace M := ifn q86 M
      refine lK 27 false (bF q86) ?_
      refine lK 27 false (bF q86) ?_
      refine lK 27 false (bF q86) ?_
      refine lK 27 false (bF q86) ?_
      refine lK 27 false (bF q86) ?_
      refine lV 33 (eF (.bool false) (bF q86)) (lV 23 (eA (.bool false)) (wN (then_n (cond_f rfl (by kernel_rfl) (wp_skip (inb_n (then_n ?_)))))))
      exact ⟨_, H, x12, x13.kind, x13.n, x13.text, A14, c15, rfl, (by kernel_rfl), (by kernel_rfl), (by kernel_rfl), b20, h6, h10, b3, h16, l17, (Ext.refl _), S21, M⟩
    replace M := ifn q42 M
    refine lK 13 false (bF q42) ?_
    refine lK 13 false (bF q42) ?_
    refine lK 13 false (bF q42) ?_
    refine lK 13 false (bF q42) ?_
    refine lV 18 (eF (.bool false) (bF q42)) (lV 9 (eA (.bool false)) (wN (then_n (cond_f rfl (by kernel_rfl) (wp_seq (wR (lV 24 (eD g19 0 0 1 Try.underlying36) ?_)))))))
    refine lV 25 (eL ⟨g19, 0 + 0, none⟩ (.int .i64 x13.kind) Try.underlying3 (blk_cell b20 rfl)) (lV 26 (eNe .i64 x13.kind 0) (lV 27 (eM (.bool (decide (x13.kind ≠ 0)))) ?_))
    by_cases q146 : x13.kind ≠ 0
    · replace M := ifp q146 M
      refine lG 28 27 (bT q146) (eM (.pointer (some ⟨g2, 0, none⟩))) (lG 29 27 (bT q146) (eM (.int .i64 x12)) (lG 30 27 (bT q146) (e_loadS (b := g19) (off := 0) (cs := [.int .i64 x13.kind, .int .i64 x13.n, .slice A14 x13.text.length c15]) Try.underlying36 rfl (by kernel_rfl) (by kernel_rfl) (blk_cells b20 rfl)) ?_))
      refine lveg (d := 31) (wanted_t (d := 27) rfl rfl (by kernel_rfl) (bT q146)) rfl (by kernel_rfl) (e_makeMap S21 encI tBool) ?_
      rintro _ w147 ⟨g148, rfl, h149, S150, K151⟩
      replace b20 := K151.blk 0 rfl b20
      replace h6 := h6.move (K151.at 1 rfl)
      replace h10 := h10.move (K151.at 2 rfl)
      replace b3 := K151.blk 3 rfl b3
      have S152 := S150.pulls [F7, (is g148), (is g19), F11, (is g2)] [2] rfl
      have l153 := h6.le
      obtain ⟨H154, S155, E156, h157, z158⟩ := S152.frzRow h6
      have h159 := h149.ext E156
      have h160 := h10.ext E156
      replace h157 := h157.unro
      have S161 := S155.pulls [F11, (is g148), (is g19), (is g2)] [2] rfl
      have l162 := h160.le
      obtain ⟨H163, S164, E165, h166, z167⟩ := S161.frzRow h160
      have h168 := h159.ext E165
      have S169 := S164.pulls [(is g2), (is g148), (is g19)] [2] rfl
      obtain ⟨H170, S171, E172, h173, z174⟩ := S169.frzBlk b3
      have h175 := h168.ext E172
      obtain ⟨t176, u177, M⟩ := bnd M
      refine lcall_w (wanted_t (d := 27) rfl rfl (by kernel_rfl) (bT q146)) (by kernel_rfl) (eC [.tmp 28, .tmp 29, .tmp 30, .tmp 31] [.pointer (some ⟨g2, 0, none⟩), .int .i64 x12, .agg #[.int .i64 x13.kind, .int .i64 x13.n, .slice A14 x13.text.length c15], .map (some g148)] Try.func72) (impl_Store_within.calls k w147 H170 x1 g2 A4 c5 A8 c9 x12 x13 A14 c15 [] g148 (h157.ext (E165.trans E172)) l153 (h166.ext E172) l162 h173 (h16.ext ((E156.trans E165).trans E172)) l17 h175 (St.own' (Fa := [(is g148)]) (Fr := [(is g19)]) S171) t176 u177) ?_
      rintro _ w178 ⟨H179, rfl, h181, T180⟩
      refine ⟨_, rfl, ?_⟩
      obtain ⟨S182, K183⟩ := St.call (Fa := [(is g148)]) (Fr := [(is g19)]) S171 T180
      replace b20 := K183.blk 0 rfl b20
      obtain ⟨H184, S185, E186, v187⟩ := St.thaw2 S169 z174 S182 T180.ext E172
      replace b3 := (v187 _ rfl).trans b3
      obtain ⟨H188, S189, E190, v191⟩ := St.thaw2 S161 z167 S185 E186 E165
      replace h10 := h10.move v191
      obtain ⟨H192, S193, E194, v195⟩ := St.thaw2 S152 z158 S189 E190 E156
      replace h6 := h6.move v195
      replace h6 := h6.ext E194
      replace h10 := h10.ext E194
      refine lV 33 (eT (.bool t176.1) (bT q146)) (lV 23 (eA (.bool t176.1)) (wN (then_n ?_)))
      by_cases q196 : t176.1 = true
      · replace M := ifp q196 M
        refine cT (bvt q196 (by kernel_rfl)) (wp_seq (wR (lV 6 (eA (.int .i64 5)) (wN (then_n (wp_ret (inb_r ?_)))))))
        refine then_r ?_
        obtain rfl := Option.some.inj M
        have S199 := S193.pulls [(is g2), F7, F11, (is g148), (is g19)] [1, 1, 2] rfl
        have S200 := St.first (Fa := [(is g2), F7, F11]) (Fr := [(is g148), (is g19)]) S199
        exact ret1 rfl rfl  (show _ = .int .i64 5 from (by kernel_rfl)) ⟨A4, c5, F7, A8, c9, F11, H192, rfl, h6, h10, b3, S200⟩
      replace M := ifn q196 M
      refine cF (bvf q196 (by kernel_rfl)) (wp_skip (inb_n (then_n ?_)))
      have S204 := S193.pulls [(is g19), F7, F11, (is g2), (is g148)] [2, 2, 2, 4] rfl
      have S205 := St.first (Fa := [(is g19), F7, F11, (is g2)]) (Fr := [(is g148)]) S204
      exact ⟨_, H192, x12, x13.kind, x13.n, x13.text, A14, c15, rfl, (by kernel_rfl), (by kernel_rfl), (by kernel_rfl), b20, h6, h10, b3, (h16.ext E194), l17, E194, S205, M⟩
    replace M := ifn q146 M
    refine lK 27 false (bF q146) ?_
    refine lK 27 false (bF q146) ?_
    refine lK 27 false (bF q146) ?_
    refine lK 27 false (bF q146) ?_
    refine lK 27 false (bF q146) ?_
    refine lV 33 (eF (.bool false) (bF q146)) (lV 23 (eA (.bool false)) (wN (then_n (cond_f rfl (by kernel_rfl) (wp_skip (inb_n (then_n ?_)))))))
    exact ⟨_, H, x12, x13.kind, x13.n, x13.text, A14, c15, rfl, (by kernel_rfl), (by kernel_rfl), (by kernel_rfl), b20, h6, h10, b3, h16, l17, (Ext.refl _), S21, M⟩
  clear M
  rintro a41 w23 ⟨f24, H25, x27, x28, x29, x30, A31, c32, rfl, e35, e36, e37, b20, h6, h10, b3, h33, l34, Y26, S38, M⟩
  rw [impl_Store_bind_2.l0] at M
  refine wp_seq (wp_seq (wR (lV 34 (eM (.pointer (some ⟨g2, 0, none⟩)) (by exact e35)) (lV 35 (eN ⟨g2, 0, none⟩) (lV 36 (eD g2 0 1 1 Try.underlying34) (lV 37 (eL ⟨g2, 0 + 1, none⟩ (.slice A8 x1.trail.length c9) Try.underlying23 (blk_cell b3 rfl)) (lV 38 (e_len (A := A8) (n := x1.trail.length) (c := c9) Try.underlying23 (by kernel_rfl)) ?_)))))))
  refine lV 39 (e_geq (k := .i64) (a := (x1.trail.length : Int)) (b := 20000) (by kernel_rfl) rfl) (wN (then_n ?_))
  by_cases q206 : (x1.trail.length : Int) ≥ 20000
  · replace M := ifp q206 M
    refine cT (bT q206) (wp_seq (wR (lV 6 (eA (.int .i64 10)) (wN (then_n (wp_ret (then_r ?_)))))))
    obtain rfl := Option.some.inj M
    have S209 := S38.pulls [(is g2), F7, F11, (is g19)] [2, 2, 3] rfl
    have S210 := St.first (Fa := [(is g2), F7, F11]) (Fr := [(is g19)]) S209
    exact ret1 rfl rfl  (show _ = .int .i64 10 from (by kernel_rfl)) ⟨A4, c5, F7, A8, c9, F11, H25, rfl, h6, h10, b3, S210⟩
  replace M := ifn q206 M
  refine cF (bF q206) (wp_skip (then_n (wp_seq ?_)))
  refine region_mix (S := (fun (L_ : Array Bool) (w_ : World) => Ext H25 (hp w_) ∧ (∀ b_, (is g2) b_ → hp w_ b_ = hp w23 b_))) (by kernel_rfl) S38 ?_
  intro w211 S212 K213 hc214
  have o215 := b3
  have hs216 : (fun (L_ : Array Bool) (w_ : World) => Ext H25 (hp w_) ∧ (∀ b_, (is g2) b_ → hp w_ b_ = hp w23 b_)) (Array.replicate 8 false) w211 := ⟨S212.inv, (fun b_ h_ => K213.at 3 rfl b_ h_)⟩
  replace b20 := K213.blk 0 rfl b20
  replace h6 := h6.move (K213.at 1 rfl)
  replace h10 := h10.move (K213.at 2 rfl)
  replace b3 := K213.blk 3 rfl b3
  refine xV 0 40 rfl hc214 hs216 (fun L_ w_ hc_ hu_ hs_ => eM (.pointer (some ⟨g2, 0, none⟩)) (by exact e35)) ?_; intro hc217 hs218
  refine xV 1 41 rfl hc217 hs218 (fun L_ w_ hc_ hu_ hs_ => eN ⟨g2, 0, none⟩) ?_; intro hc219 hs220
  refine xV 2 42 rfl hc219 hs220 (fun L_ w_ hc_ hu_ hs_ => eD g2 0 0 1 Try.underlying34) ?_; intro hc221 hs222
  refine xV 3 43 rfl hc221 hs222 (fun L_ w_ hc_ hu_ hs_ => eL ⟨g2, 0 + 0, none⟩ (.slice A4 x1.cells.length c5) Try.underlying32 (blk_cell ((hs_.2 _ rfl).trans o215) rfl)) ?_; intro hc223 hs224
  refine xV 4 44 rfl hc223 hs224 (fun L_ w_ hc_ hu_ hs_ => eM (.int .i64 x27) (by exact e37)) ?_; intro hc225 hs226
  refine xO 5 hc225 ?_
  refine yO 5 45 rfl hs226 (e_loadS (b := g19) (off := 0) (cs := [.int .i64 x28, .int .i64 x29, .slice A31 x30.length c32]) Try.underlying36 rfl (by kernel_rfl) (by exact e36) (blk_cells b20 rfl)) ?_; intro hc227 hs228
  obtain ⟨q229, M⟩ := chk M
  obtain ⟨q230, M⟩ := chk M
  obtain ⟨b231, e233⟩ := Row.addr h6 (show (x27).toNat < x1.cells.length by omega)
  refine xO 6 hc227 ?_
  refine yO 6 46 rfl hs228 (eI b231 0 x1.cells.length c5 3 x27 .i64 Try.underlying32 e233 q229 q230) ?_; intro hc234 hs235
  have S236 := S212.pulls [F7, (is g19), F11, (is g2)] [1] rfl
  have S237 := S236.unit
  have S238 := S237.pulls [F7, no, (is g19), F11, (is g2)] [1] rfl
  refine xO 7 hc234 ?_
  refine yS 7 rfl (e_setel (d := (ro st36)) (b := b231) (i := (x27).toNat) (v := .agg #[.int .i64 x28, .int .i64 x29, .slice A31 x30.length c32]) (vs := [.int .i64 x28, .int .i64 x29, .slice A31 x30.length c32]) (yv := (⟨x28, x29, x30⟩ : Cell)) S238 (by kernel_rfl) e233 (by kernel_rfl) rfl (by kernel_rfl) h6 (show (x27).toNat < x1.cells.length by omega) (st36_mkR (x := (⟨x28, x29, x30⟩ : Cell)) l34 h33)) ?_
  rintro hc244 w239 ⟨F241, h240, S242, K243⟩
  replace h10 := h10.move (K243.at 1 rfl)
  replace b3 := K243.blk 2 rfl b3
  refine ⟨⟨S242.inv, (fun b_ h_ => (K243.at 2 rfl b_ h_).trans (hs235.2 b_ h_))⟩, fun hs245 => ?_⟩
  clear h6
  refine xn (by kernel_rfl) ?_ _
  refine then_n (wp_seq (wR (lV 47 (eM (.pointer (some ⟨g2, 0, none⟩)) (by exact e35)) (lV 48 (eM (.pointer (some ⟨g2, 0, none⟩)) (by exact e35)) (lV 49 (eN ⟨g2, 0, none⟩) (lV 50 (eD g2 0 1 1 Try.underlying34) (lV 51 (eL ⟨g2, 0 + 1, none⟩ (.slice A8 x1.trail.length c9) Try.underlying23 (blk_cell b3 rfl)) ?_)))))))
  refine lV 52 (eM (.int .i64 x27) (by exact e37)) ?_
  refine lW 53 (new_blk (v := fun g_ => .slice (some ⟨g_, 0, none⟩) 1 1) (cs := #[.int .i64 x27]) (t := 3) S242 (by kernel_rfl)) ?_
  rintro _ w246 ⟨g247, rfl, b248, S249, K250⟩
  replace h240 := h240.move (K250.at 0 rfl)
  replace h10 := h10.move (K250.at 2 rfl)
  replace b3 := K250.blk 3 rfl b3
  obtain ⟨q251, M⟩ := chk M
  have S252 := S249.pulls [F11, (is g247), F241, (is g19), (is g2)] [3] rfl
  have S253 := S252.unit
  have S254 := S253.pulls [F11, no, (is g247), F241, (is g19), (is g2)] [1] rfl
  refine lW 54 (e_append (d := tInt) (n := x1.trail.length) (xs := x1.trail) (cap := c9) (A := A8) (ys := [x27]) (A2 := (some ⟨g247, 0, none⟩)) (c2 := 1) (z := .int .i64 0) (bytes := 8) S254 Try.underlying23 (by kernel_rfl) rfl (by decide) (by kernel_rfl) rfl (by kernel_rfl) h10 (elsO_one1 rfl) (.inr (blk_news b248 rfl)) (show (x1.trail.length + [x27].length) * 8 ≤ _ by first | omega | (simp only [List.length_cons, List.length_nil]; omega)) (by decide)) ?_
  rintro _ w255 ⟨A256, c257, F258, rfl, h259, S260, K261⟩
  replace h240 := h240.move (K261.at 1 rfl)
  replace b3 := K261.blk 3 rfl b3
  refine lV 55 (eN ⟨g2, 0, none⟩) (lV 56 (eD g2 0 1 1 Try.underlying34) ?_)
  have S262 := S260.pulls [(is g2), F258, (is g247), F241, (is g19)] [4] rfl
  refine lE (eS g2 (0 + 1) (.slice A256 ((x1.trail ++ [x27]).length) c257) #[.slice A4 x1.cells.length c5, .slice A256 ((x1.trail ++ [x27]).length) c257] [.slice A256 ((x1.trail ++ [x27]).length) c257] S262 b3) ?_
  rintro w263 ⟨b264, S265, K266⟩
  replace h259 := h259.move (K266.at 0 rfl)
  replace h240 := h240.move (K266.at 2 rfl)
  clear b3
  refine wN (then_n (wp_seq (wR (lV 6 (eA (.int .i64 0)) (wN (then_n (wp_ret ?_)))))))
  obtain rfl := Option.some.inj M
  have S269 := S265.pulls [(is g2), F241, F258, (is g247), (is g19)] [1, 3, 2] rfl
  have S270 := St.first (Fa := [(is g2), F241, F258]) (Fr := [(is g247), (is g19)]) S269
  exact ret1 rfl rfl  (show _ = .int .i64 0 from (by kernel_rfl)) ⟨A4, c5, F241, A256, c257, F258, H25, rfl, h240, h259, (by have q_ := b264; rw [← (show (x1.cells.set ((x27).toNat) (⟨x28, x29, x30⟩ : Cell)).length = x1.cells.length from (List.length_set.trans rfl))] at q_; exact q_), S270⟩

/-! impl_sameCell -/
def impl_sameCell.f (x1 : Cell) (x6 : Cell) : Option Bool := (if x1.kind = x6.kind then (if x1.n = x6.n then some (decide (x1.text = x6.text)) else some false) else some false)
theorem impl_sameCell.calls (w : World) (H : Hp) (x1 : Cell) (A2 : Option Addr) (c3 : Nat) (x6 : Cell) (A7 : Option Addr) (c8 : Nat) (h4 : Rd tByte H A2 x1.text) (l5 : x1.text.length ≤ c3) (h9 : Rd tByte H A7 x6.text) (l10 : x6.text.length ≤ c8) (S : Own [] H w) (r : Bool) (M : impl_sameCell.f x1 x6 = some r) :
    Calls Try.prog 73 #[.agg #[.int .i64 x1.kind, .int .i64 x1.n, .slice A2 x1.text.length c3], .agg #[.int .i64 x6.kind, .int .i64 x6.n, .slice A7 x6.text.length c8]] w (fun e e_w => e = .returned (.bool r) ∧ Chg no w e_w) := by
  rw [impl_sameCell.f] at M
  refine enter (l := [.agg #[.int .i64 x1.kind, .int .i64 x1.n, .slice A2 x1.text.length c3], .agg #[.int .i64 x6.kind, .int .i64 x6.n, .slice A7 x6.text.length c8]]) 26 Try.func73 rfl rfl rfl ?_
  have S0_ := S.st
  refine wp_seq (wR ?_)
  refine lW 2 (nB #[.int .i64 x1.kind, .int .i64 x1.n, .slice A2 x1.text.length c3] 36 S0_) ?_
  rintro _ w11 ⟨g12, rfl, b13, S14, K15⟩
  refine lW 3 (nB #[.int .i64 x6.kind, .int .i64 x6.n, .slice A7 x6.text.length c8] 36 S14) ?_
  rintro _ w16 ⟨g17, rfl, b18, S19, K20⟩
  replace b13 := K20.blk 0 rfl b13
  refine lV 4 (eA (.bool false)) (wN (then_n (wp_seq (wR (lV 5 (eD g12 0 0 1 Try.underlying36) (lV 6 (eL ⟨g12, 0 + 0, none⟩ (.int .i64 x1.kind) Try.underlying3 (blk_cell b13 rfl)) (lV 7 (eD g17 0 0 1 Try.underlying36) ?_)))))))
  refine lV 8 (eL ⟨g17, 0 + 0, none⟩ (.int .i64 x6.kind) Try.underlying3 (blk_cell b18 rfl)) (lV 9 (eEq .i64 x1.kind x6.kind) (lV 10 (eM (.bool (decide (x1.kind = x6.kind)))) ?_))
  by_cases q21 : x1.kind = x6.kind
  · replace M := ifp q21 M
    refine lG 11 10 (bT q21) (eD g12 0 1 1 Try.underlying36) (lG 12 10 (bT q21) (eL ⟨g12, 0 + 1, none⟩ (.int .i64 x1.n) Try.underlying3 (blk_cell b13 rfl)) (lG 13 10 (bT q21) (eD g17 0 1 1 Try.underlying36) (lG 14 10 (bT q21) (eL ⟨g17, 0 + 1, none⟩ (.int .i64 x6.n) Try.underlying3 (blk_cell b18 rfl)) (lG 15 10 (bT q21) (eEq .i64 x1.n x6.n) (lV 16 (eT (.bool (decide (x1.n = x6.n))) (bT q21)) (lV 17 (eM (.bool (decide (x1.n = x6.n)))) ?_))))))
    by_cases q22 : x1.n = x6.n
    · replace M := ifp q22 M
      refine lG 18 17 (bT q22) (eD g12 0 2 1 Try.underlying36) (lG 19 17 (bT q22) (eL ⟨g12, 0 + 2, none⟩ (.slice A2 x1.text.length c3) Try.underlying26 (blk_cell b13 rfl)) (lG 20 17 (bT q22) (e_conv_bs (A := A2) (n := x1.text.length) (c := c3) (xs := x1.text) Try.underlying26 Try.underlying5 Try.underlying9 (by kernel_rfl) rfl (Rd.bytesE S19.inv h4)) (lG 21 17 (bT q22) (eD g17 0 2 1 Try.underlying36) (lG 22 17 (bT q22) (eL ⟨g17, 0 + 2, none⟩ (.slice A7 x6.text.length c8) Try.underlying26 (blk_cell b18 rfl)) (lG 23 17 (bT q22) (e_conv_bs (A := A7) (n := x6.text.length) (c := c8) (xs := x6.text) Try.underlying26 Try.underlying5 Try.underlying9 (by kernel_rfl) rfl (Rd.bytesE S19.inv h9)) (lG 24 17 (bT q22) (e_seql (p := x1.text) (q := x6.text) (by kernel_rfl) (by kernel_rfl)) (lV 25 (eT (.bool (decide (x1.text = x6.text))) (bT q22)) ?_)))))))
      refine lV 4 (eA (.bool (decide (x1.text = x6.text)))) (wN (then_n (wp_ret ?_)))
      obtain rfl := Option.some.inj M
      exact ret1 rfl rfl  (show _ = .bool (decide (x1.text = x6.text)) from (by kernel_rfl)) ⟨rfl, S19.chg⟩
    replace M := ifn q22 M
    refine lK 17 false (bF q22) ?_
    refine lK 17 false (bF q22) ?_
    refine lK 17 false (bF q22) ?_
    refine lK 17 false (bF q22) ?_
    refine lK 17 false (bF q22) ?_
    refine lK 17 false (bF q22) ?_
    refine lK 17 false (bF q22) ?_
    refine lV 25 (eF (.bool false) (bF q22)) (lV 4 (eA (.bool false)) (wN (then_n (wp_ret ?_))))
    obtain rfl := Option.some.inj M
    exact ret1 rfl rfl  (show _ = .bool false from (by kernel_rfl)) ⟨rfl, S19.chg⟩
  replace M := ifn q21 M
  refine lK 10 false (bF q21) ?_
  refine lK 10 false (bF q21) ?_
  refine lK 10 false (bF q21) ?_
  refine lK 10 false (bF q21) ?_
  refine lK 10 false (bF q21) ?_
  refine lV 16 (eF (.bool false) (bF q21)) (lV 17 (eM (.bool false)) ?_)
  refine lJ 17 false ?_
  refine lJ 17 false ?_
  refine lJ 17 false ?_
  refine lJ 17 false ?_
  refine lJ 17 false ?_
  refine lJ 17 false ?_
  refine lJ 17 false ?_
  refine lV 25 (eF (.bool false)) (lV 4 (eA (.bool false)) (wN (then_n (wp_ret ?_))))
  obtain rfl := Option.some.inj M
  exact ret1 rfl rfl  (show _ = .bool false from (by kernel_rfl)) ⟨rfl, S19.chg⟩

/-! impl_Store_unify -/
mutual
def impl_Store_unify_2.l0 : Nat → (List GT97) → Int → (List Cell) → (List Int) → Option (Int × Store)
  | 0, _, _, _, _ => none
  | k69 + 1, x45, x50, x51, x56 => (if (x45.length : Int) > 0 then (if x50 = 20000 then some (3, (⟨x51, x56⟩ : Store)) else (if 0 ≤ (IntKind.i64.wrap ((x45.length : Int) - 1)) then (if (IntKind.i64.wrap ((x45.length : Int) - 1)) < (x45.length : Int) then (if (IntKind.i64.wrap ((x45.length : Int) - 1)) ≤ (x45.length : Int) then ((impl_Store_deref_2.f k69 (⟨x51, x56⟩ : Store) ((x45.getD (((IntKind.i64.wrap ((x45.length : Int) - 1))).toNat) z97).p0_)).bind fun t164 => ((impl_Store_deref_2.f k69 (⟨x51, x56⟩ : Store) ((x45.getD (((IntKind.i64.wrap ((x45.length : Int) - 1))).toNat) z97).p1_)).bind fun t184 => (impl_Store_unify_2.l1 k69 x45 x50 x51 x56 t164.kind t164.n t164.text t184.kind t184.n t184.text))) else none) else none) else none)) else some (0, (⟨x51, x56⟩ : Store)))
def impl_Store_unify_2.l1 : Nat → (List GT97) → Int → (List Cell) → (List Int) → Int → Int → (List UInt8) → Int → Int → (List UInt8) → Option (Int × Store)
  | 0, _, _, _, _, _, _, _, _, _, _ => none
  | k141 + 1, x45, x50, x51, x56, x116, x117, x118, x125, x126, x127 => (if x125 = 0 then (if x116 ≠ 0 then (impl_Store_unify_2.l2 k141 x45 x50 x51 x56 x125 x126 x127 x116 x117 x118) else (impl_Store_unify_2.l2 k141 x45 x50 x51 x56 x116 x117 x118 x125 x126 x127)) else (impl_Store_unify_2.l2 k141 x45 x50 x51 x56 x116 x117 x118 x125 x126 x127))
def impl_Store_unify_2.l2 : Nat → (List GT97) → Int → (List Cell) → (List Int) → Int → Int → (List UInt8) → Int → Int → (List UInt8) → Option (Int × Store)
  | 0, _, _, _, _, _, _, _, _, _, _ => none
  | k869 + 1, x45, x50, x51, x56, x846, x847, x848, x853, x854, x855 => (if x846 = 0 then (if x853 = 0 then (if x847 = x854 then (impl_Store_unify_2.l0 k869 (x45.take (((IntKind.i64.wrap ((x45.length : Int) - 1)) : Int).toNat)) (IntKind.i64.wrap (x50 + 1)) x51 x56) else ((impl_Store_bind_2.f k869 (⟨x51, x56⟩ : Store) x847 (⟨x853, x854, x855⟩ : Cell)).bind fun t898 => (if t898.1 ≠ 0 then some (t898.1, t898.2) else (impl_Store_unify_2.l0 k869 (x45.take (((IntKind.i64.wrap ((x45.length : Int) - 1)) : Int).toNat)) (IntKind.i64.wrap (x50 + 1)) t898.2.cells t898.2.trail)))) else ((impl_Store_bind_2.f k869 (⟨x51, x56⟩ : Store) x847 (⟨x853, x854, x855⟩ : Cell)).bind fun t927 => (if t927.1 ≠ 0 then some (t927.1, t927.2) else (impl_Store_unify_2.l0 k869 (x45.take (((IntKind.i64.wrap ((x45.length : Int) - 1)) : Int).toNat)) (IntKind.i64.wrap (x50 + 1)) t927.2.cells t927.2.trail)))) else (if x846 ≠ x853 then some (4, (⟨x51, x56⟩ : Store)) else (if x846 ≠ 4 then ((impl_sameCell.f (⟨x846, x847, x848⟩ : Cell) (⟨x853, x854, x855⟩ : Cell)).bind fun t960 => (if ¬ (t960 = true) then some (4, (⟨x51, x56⟩ : Store)) else (impl_Store_unify_2.l0 k869 (x45.take (((IntKind.i64.wrap ((x45.length : Int) - 1)) : Int).toNat)) (IntKind.i64.wrap (x50 + 1)) x51 x56))) else (if 0 ≤ x847 then (if x847 < (x51.length : Int) then (if 0 ≤ x854 then (if x854 < (x51.length : Int) then (impl_Store_unify_2.l3 k869 x45 x50 x51 x56 x847 x854 ((x51.getD ((x847).toNat) z36).kind) ((x51.getD ((x847).toNat) z36).n) ((x51.getD ((x847).toNat) z36).text) ((x51.getD ((x854).toNat) z36).kind) ((x51.getD ((x854).toNat) z36).n) ((x51.getD ((x854).toNat) z36).text)) else none) else none) else none) else none))))
def impl_Store_unify_2.l3 : Nat → (List GT97) → Int → (List Cell) → (List Int) → Int → Int → Int → Int → (List UInt8) → Int → Int → (List UInt8) → Option (Int × Store)
  | 0, _, _, _, _, _, _, _, _, _, _, _, _ => none
  | k1007 + 1, x45, x50, x51, x56, x847, x854, x980, x981, x982, x989, x990, x991 => ((impl_sameCell.f (⟨x980, x981, x982⟩ : Cell) (⟨x989, x990, x991⟩ : Cell)).bind fun t1147 => (if ¬ (t1147 = true) then some (4, (⟨x51, x56⟩ : Store)) else (impl_Store_unify_2.l4 k1007 x50 x51 x56 x847 x854 (x45.take (((IntKind.i64.wrap ((x45.length : Int) - 1)) : Int).toNat)) x981)))
def impl_Store_unify_2.l4 : Nat → Int → (List Cell) → (List Int) → Int → Int → (List GT97) → Int → Option (Int × Store)
  | 0, _, _, _, _, _, _, _ => none
  | k1177 + 1, x50, x51, x56, x847, x854, x1160, x1165 => (if x1165 ≥ 1 then (if 0 ≤ (IntKind.i64.wrap (x847 + x1165)) then (if (IntKind.i64.wrap (x847 + x1165)) < (x51.length : Int) then (if 0 ≤ (IntKind.i64.wrap (x854 + x1165)) then (if (IntKind.i64.wrap (x854 + x1165)) < (x51.length : Int) then (if x1160.length + 1 ≤ 1759218604441 then (impl_Store_unify_2.l4 k1177 x50 x51 x56 x847 x854 (x1160 ++ [(⟨(x51.getD (((IntKind.i64.wrap (x847 + x1165))).toNat) z36), (x51.getD (((IntKind.i64.wrap (x854 + x1165))).toNat) z36)⟩ : GT97)]) (IntKind.i64.wrap (x1165 - 1))) else none) else none) else none) else none) else none) else (impl_Store_unify_2.l0 k1177 x1160 (IntKind.i64.wrap (x50 + 1)) x51 x56))
end
def impl_Store_unify_2.f (k : Nat) (x1 : Store) (x12 : Cell) (x17 : Cell) : Option (Int × Store) := (impl_Store_unify_2.l0 k [(⟨x12, x17⟩ : GT97)] 0 x1.cells x1.trail)
theorem impl_Store_unify_2.calls (k : Nat) (w : World) (H : Hp) (x1 : Store) (g2 : Nat) (A4 : Option Addr) (c5 : Nat) (F7 : Foot) (A8 : Option Addr) (c9 : Nat) (F11 : Foot) (x12 : Cell) (A13 : Option Addr) (c14 : Nat) (x17 : Cell) (A18 : Option Addr) (c19 : Nat) (h6 : Row (ro st36) 36 H (hp w) F7 A4 c5 x1.cells) (h10 : Row tInt 3 H (hp w) F11 A8 c9 x1.trail) (b3 : w.heap[g2]? = some (.cells #[.slice A4 x1.cells.length c5, .slice A8 x1.trail.length c9] 34 (0, 0))) (h15 : Rd tByte H A13 x12.text) (l16 : x12.text.length ≤ c14) (h20 : Rd tByte H A18 x17.text) (l21 : x17.text.length ≤ c19) (S : Own [F7, F11, (is g2)] H w) (r : Int × Store) (M : impl_Store_unify_2.f k x1 x12 x17 = some r) :
    Calls Try.prog 64 #[.pointer (some ⟨g2, 0, none⟩), .agg #[.int .i64 x12.kind, .int .i64 x12.n, .slice A13 x12.text.length c14], .agg #[.int .i64 x17.kind, .int .i64 x17.n, .slice A18 x17.text.length c19]] w (fun e e_w => ∃ (A_1 : Option Addr) (c_1 : Nat) (F_1 : Foot) (A_2 : Option Addr) (c_2 : Nat) (F_2 : Foot) (H_ : Hp), e = .returned (.int .i64 r.1) ∧ Row (ro st36) 36 H_ (hp e_w) F_1 A_1 c_1 r.2.cells ∧ Row tInt 3 H_ (hp e_w) F_2 A_2 c_2 r.2.trail ∧ e_w.heap[g2]? = some (.cells #[.slice A_1 r.2.cells.length c_1, .slice A_2 r.2.trail.length c_2] 34 (0, 0)) ∧ St (anyOf [F7, F11, (is g2)]) H w [(is g2), F_1, F_2] H_ e_w) := by
  rw [impl_Store_unify_2.f] at M
  refine enter (l := [.pointer (some ⟨g2, 0, none⟩), .agg #[.int .i64 x12.kind, .int .i64 x12.n, .slice A13 x12.text.length c14], .agg #[.int .i64 x17.kind, .int .i64 x17.n, .slice A18 x17.text.length c19]]) 142 Try.func64 rfl rfl rfl ?_
  have S0_ := S.st
  refine wp_seq (wR ?_)
  refine lW 4 (nB #[.int .i64 x12.kind, .int .i64 x12.n, .slice A13 x12.text.length c14] 36 S0_) ?_
  rintro _ w22 ⟨g23, rfl, b24, S25, K26⟩
  replace h6 := h6.move (K26.at 0 rfl)
  replace h10 := h10.move (K26.at 1 rfl)
  replace b3 := K26.blk 2 rfl b3
  refine lW 5 (nB #[.int .i64 x17.kind, .int .i64 x17.n, .slice A18 x17.text.length c19] 36 S25) ?_
  rintro _ w27 ⟨g28, rfl, b29, S30, K31⟩
  replace b24 := K31.blk 0 rfl b24
  replace h6 := h6.move (K31.at 1 rfl)
  replace h10 := h10.move (K31.at 2 rfl)
  replace b3 := K31.blk 3 rfl b3
  refine lV 6 (eA (.int .i64 0)) (wN (then_n (wp_seq (wR (lV 16 (e_loadS (b := g23) (off := 0) (cs := [.int .i64 x12.kind, .int .i64 x12.n, .slice A13 x12.text.length c14]) Try.underlying36 rfl (by kernel_rfl) (by kernel_rfl) (blk_cells b24 rfl)) (lV 17 (e_loadS (b := g28) (off := 0) (cs := [.int .i64 x17.kind, .int .i64 x17.n, .slice A18 x17.text.length c19]) Try.underlying36 rfl (by kernel_rfl) (by kernel_rfl) (blk_cells b29 rfl)) (lV 18 (show _ = Result.ok (Next.value (.agg #[.int .i64 x12.kind, .int .i64 x12.n, .slice A13 x12.text.length c14, .int .i64 x17.kind, .int .i64 x17.n, .slice A18 x17.text.length c19])) w27 from by kernel_rfl) ?_)))))))
  refine lW 19 (new_blk (v := fun g_ => .slice (some ⟨g_, 0, none⟩) 1 1) (cs := #[.int .i64 x12.kind, .int .i64 x12.n, .slice A13 x12.text.length c14, .int .i64 x17.kind, .int .i64 x17.n, .slice A18 x17.text.length c19]) (t := 97) S30 (by kernel_rfl)) ?_
  rintro _ w32 ⟨g33, rfl, b34, S35, K36⟩
  replace h6 := h6.move (K36.at 2 rfl)
  replace h10 := h10.move (K36.at 3 rfl)
  replace b3 := K36.blk 4 rfl b3
  have S37 := S35.unit
  have S38 := S37.pulls [(is g33), no, (is g28), (is g23), F7, F11, (is g2)] [1] rfl
  obtain ⟨h39, S40⟩ := row_lit (d := (ro st97)) (xs := [(⟨x12, x17⟩ : GT97)]) S38 b34 rfl (elsO_one1 (st97_mkR (x := (⟨x12, x17⟩ : GT97)) l16 h15 l21 h20)) (Nat.le_of_ble_eq_true rfl)
  refine lV 7 (eA (.slice (some ⟨g33, 0, none⟩) 1 1)) (wN (then_n (wp_seq (wp_seq (wR (lV 8 (eA (.int .i64 0)) (wN ?_)))))))
  refine then_n (wp_block ?_)
  have S73 := S40.pulls [(is g2), (or2 (is g33) no), F7, F11, (is g28), (is g23)] [4, 4, 2, 5] rfl
  have S74 := St.first (Fa := [(is g2), (or2 (is g33) no), F7, F11]) (Fr := [(is g28), (is g23)]) S73
  refine wp_loop_g (fun k67 a68 w41 => ∃ (f42 : Nat → Value) (H43 : Hp) (x45 : List GT97) (A46 : Option Addr) (c47 : Nat) (F48 : Foot) (x50 : Int) (x51 : List Cell) (A52 : Option Addr) (c53 : Nat) (F54 : Foot) (x56 : List Int) (A57 : Option Addr) (c58 : Nat) (F59 : Foot), a68 = mk 142 f42 ∧ f42 0 = .pointer (some ⟨g2, 0, none⟩) ∧ f42 7 = .slice A46 x45.length c47 ∧ f42 8 = .int .i64 x50 ∧ w41.heap[g2]? = some (.cells #[.slice A52 x51.length c53, .slice A57 x56.length c58] 34 (0, 0)) ∧ Row (ro st97) 97 H43 (hp w41) F48 A46 c47 x45 ∧ Row (ro st36) 36 H43 (hp w41) F54 A52 c53 x51 ∧ Row tInt 3 H43 (hp w41) F59 A57 c58 x56 ∧ Ext H H43 ∧ St (anyOf [F7, F11, (is g2)]) H w [(is g2), F48, F54, F59] H43 w41 ∧ impl_Store_unify_2.l0 k67 x45 x50 x51 x56 = some r) k ⟨_, H, [(⟨x12, x17⟩ : GT97)], (some ⟨g33, 0, none⟩), 1, (or2 (is g33) no), 0, x1.cells, A4, c5, F7, x1.trail, A8, c9, F11, rfl, (by kernel_rfl), (by kernel_rfl), (by kernel_rfl), b3, h39, h6, h10, (Ext.refl _), S74, M⟩ ?_
  clear M
  rintro k67 a68 w41 ⟨f42, H43, x45, A46, c47, F48, x50, x51, A52, c53, F54, x56, A57, c58, F59, rfl, e61, e62, e63, b3, h49, h55, h60, Y44, S64, M⟩
  rcases k67 with _ | k69
  · rw [impl_Store_unify_2.l0] at M
    cases M
  rw [impl_Store_unify_2.l0] at M
  refine wp_seq (wp_seq (wR (lV 20 (eM (.slice A46 x45.length c47) (by exact e62)) (lV 21 (e_len (A := A46) (n := x45.length) (c := c47) Try.underlying98 (by kernel_rfl)) (lV 22 (e_gtr (k := .i64) (a := (x45.length : Int)) (b := 0) (by kernel_rfl) rfl) (wN (then_n ?_)))))))
  by_cases q75 : (x45.length : Int) > 0
  · replace M := ifp q75 M
    refine cT (bT q75) (wp_skip (then_n (wp_seq (wp_block (wp_seq (wp_seq (wR ?_)))))))
    refine lV 25 (eM (.int .i64 x50) (by exact e63)) (lV 26 (eEq .i64 x50 20000) (wN (then_n ?_)))
    by_cases q76 : x50 = 20000
    · replace M := ifp q76 M
      refine cT (bT q76) (wp_seq (wR (lV 6 (eA (.int .i64 3)) (wN (then_n (wp_ret (then_r ?_)))))))
      refine inb_r (then_r (then_r (inb_r (then_r ?_))))
      obtain rfl := Option.some.inj M
      have S79 := S64.pulls [(is g2), F54, F59, F48] [3, 3, 2] rfl
      have S80 := St.first (Fa := [(is g2), F54, F59]) (Fr := [F48]) S79
      exact ret1 rfl rfl  (show _ = .int .i64 3 from (by kernel_rfl)) ⟨A52, c53, F54, A57, c58, F59, H43, rfl, h55, h60, b3, S80⟩
    replace M := ifn q76 M
    refine cF (bF q76) (wp_skip (then_n (wp_seq (wR (lV 27 (eM (.slice A46 x45.length c47) (by exact e62)) (lV 28 (eM (.slice A46 x45.length c47) (by exact e62)) (lV 29 (e_len (A := A46) (n := x45.length) (c := c47) Try.underlying98 (by kernel_rfl)) ?_)))))))
    refine lV 30 (e_sub (k := .i64) (a := (x45.length : Int)) (b := 1) (by kernel_rfl) rfl) ?_
    obtain ⟨q81, M⟩ := chk M
    obtain ⟨q82, M⟩ := chk M
    obtain ⟨b83, e85⟩ := Row.addr h49 (show ((IntKind.i64.wrap ((x45.length : Int) - 1))).toNat < x45.length by omega)
    refine lV 31 (eI b83 0 x45.length c47 6 (IntKind.i64.wrap ((x45.length : Int) - 1)) .i64 Try.underlying98 e85 q81 q82) ?_
    obtain ⟨y86, F87, r88, s89, k90⟩ := Row.at h49 e85 (getD_some z97 (show ((IntKind.i64.wrap ((x45.length : Int) - 1))).toNat < x45.length by omega))
    obtain ⟨A91, c92, A95, c96, rfl, l93, h94, l97, h98⟩ := st97_open r88
    refine lV 32 (e_loadS (b := b83) (off := 0 + ((IntKind.i64.wrap ((x45.length : Int) - 1)) : Int).toNat * 6) (cs := [.int .i64 ((x45.getD (((IntKind.i64.wrap ((x45.length : Int) - 1))).toNat) z97).p0_.kind), .int .i64 ((x45.getD (((IntKind.i64.wrap ((x45.length : Int) - 1))).toNat) z97).p0_.n), .slice A91 ((x45.getD (((IntKind.i64.wrap ((x45.length : Int) - 1))).toNat) z97).p0_.text).length c92, .int .i64 ((x45.getD (((IntKind.i64.wrap ((x45.length : Int) - 1))).toNat) z97).p1_.kind), .int .i64 ((x45.getD (((IntKind.i64.wrap ((x45.length : Int) - 1))).toNat) z97).p1_.n), .slice A95 ((x45.getD (((IntKind.i64.wrap ((x45.length : Int) - 1))).toNat) z97).p1_.text).length c96]) Try.underlying97 rfl (by kernel_rfl) (by kernel_rfl) (fun j_ u_ e_ => (hpx (k90 j_ u_ e_)))) ?_
    refine lW 9 (nB #[.int .i64 0, .int .i64 0, .slice none 0 0, .int .i64 0, .int .i64 0, .slice none 0 0] 97 S64) ?_
    rintro _ w99 ⟨g100, rfl, b101, S102, K103⟩
    replace b3 := K103.blk 0 rfl b3
    replace h49 := h49.move (K103.at 1 rfl)
    replace h55 := h55.move (K103.at 2 rfl)
    replace h60 := h60.move (K103.at 3 rfl)
    refine lE (eSa g100 0 [.int .i64 ((x45.getD (((IntKind.i64.wrap ((x45.length : Int) - 1))).toNat) z97).p0_.kind), .int .i64 ((x45.getD (((IntKind.i64.wrap ((x45.length : Int) - 1))).toNat) z97).p0_.n), .slice A91 ((x45.getD (((IntKind.i64.wrap ((x45.length : Int) - 1))).toNat) z97).p0_.text).length c92, .int .i64 ((x45.getD (((IntKind.i64.wrap ((x45.length : Int) - 1))).toNat) z97).p1_.kind), .int .i64 ((x45.getD (((IntKind.i64.wrap ((x45.length : Int) - 1))).toNat) z97).p1_.n), .slice A95 ((x45.getD (((IntKind.i64.wrap ((x45.length : Int) - 1))).toNat) z97).p1_.text).length c96] S102 b101) ?_
    rintro w104 ⟨b105, S106, K107⟩
    replace b3 := K107.blk 0 rfl b3
    replace h49 := h49.move (K107.at 1 rfl)
    replace h55 := h55.move (K107.at 2 rfl)
    replace h60 := h60.move (K107.at 3 rfl)
    clear b101
    refine wN (then_n (wp_seq (wR (lV 33 (eM (.slice A46 x45.length c47) (by exact e62)) (lV 34 (eM (.slice A46 x45.length c47) (by exact e62)) (lV 35 (e_len (A := A46) (n := x45.length) (c := c47) Try.underlying98 (by kernel_rfl)) (lV 36 (e_sub (k := .i64) (a := (x45.length : Int)) (b := 1) (by kernel_rfl) rfl) ?_)))))))
    obtain ⟨q108, M⟩ := chk M
    refine lV 37 (e_slice_h (xs := x45) (n := x45.length) (m := 6) (cap := c47) (A := A46) (b := (IntKind.i64.wrap ((x45.length : Int) - 1))) (k2 := .i64) Try.underlying98 (by kernel_rfl) (by kernel_rfl) (by kernel_rfl) q81 q108 (by have := h49.le; have := (rfl : x45.length = x45.length); omega) (take_len q81 q108 rfl)) ?_
    have h109 := h49.cut (n := ((IntKind.i64.wrap ((x45.length : Int) - 1)) : Int).toNat) (by have := (rfl : x45.length = x45.length); omega)
    clear h49
    refine lV 7 (eA (.slice A46 ((x45.take (((IntKind.i64.wrap ((x45.length : Int) - 1)) : Int).toNat)).length) c47)) (wN (then_n (wp_seq ?_)))
    refine wp_cut (fun a140 w110 => ∃ (k142 : Nat), k142 ≤ k69 ∧ ∃ (f111 : Nat → Value) (H112 : Hp) (g114 : Nat) (x116 : Int) (x117 : Int) (x118 : List UInt8) (A119 : Option Addr) (c120 : Nat) (g123 : Nat) (x125 : Int) (x126 : Int) (x127 : List UInt8) (A128 : Option Addr) (c129 : Nat), a140 = mk 142 f111 ∧ f111 0 = .pointer (some ⟨g2, 0, none⟩) ∧ f111 7 = .slice A46 ((x45.take (((IntKind.i64.wrap ((x45.length : Int) - 1)) : Int).toNat)).length) c47 ∧ f111 8 = .int .i64 x50 ∧ f111 10 = .pointer (some ⟨g114, 0, none⟩) ∧ f111 11 = .pointer (some ⟨g123, 0, none⟩) ∧ w110.heap[g2]? = some (.cells #[.slice A52 x51.length c53, .slice A57 x56.length c58] 34 (0, 0)) ∧ Row (ro st97) 97 H112 (hp w110) F48 A46 c47 (x45.take (((IntKind.i64.wrap ((x45.length : Int) - 1)) : Int).toNat)) ∧ Row (ro st36) 36 H112 (hp w110) F54 A52 c53 x51 ∧ Row tInt 3 H112 (hp w110) F59 A57 c58 x56 ∧ w110.heap[g114]? = some (.cells #[.int .i64 x116, .int .i64 x117, .slice A119 x118.length c120] 36 (0, 0)) ∧ w110.heap[g123]? = some (.cells #[.int .i64 x125, .int .i64 x126, .slice A128 x127.length c129] 36 (0, 0)) ∧ Rd tByte H112 A119 x118 ∧ x118.length ≤ c120 ∧ Rd tByte H112 A128 x127 ∧ x127.length ≤ c129 ∧ Ext H43 H112 ∧ St (anyOf [F7, F11, (is g2)]) H w [(is g2), F48, F54, F59, (is g114), (is g123)] H112 w110 ∧ impl_Store_unify_2.l1 k142 x45 x50 x51 x56 x116 x117 x118 x125 x126 x127 = some r) ?_ ?_
    · refine region_mix (S := (fun (L_ : Array Bool) (w_ : World) => Ext H43 (hp w_) ∧ (∀ b_, (is g100) b_ → hp w_ b_ = hp w104 b_))) (by kernel_rfl) S106 ?_
      intro w143 S144 K145 hc146
      have o147 := b105
      have hs148 : (fun (L_ : Array Bool) (w_ : World) => Ext H43 (hp w_) ∧ (∀ b_, (is g100) b_ → hp w_ b_ = hp w104 b_)) (Array.replicate 12 false) w143 := ⟨S144.inv, (fun b_ h_ => K145.at 0 rfl b_ h_)⟩
      replace b3 := K145.blk 1 rfl b3
      replace h109 := h109.move (K145.at 2 rfl)
      replace h55 := h55.move (K145.at 3 rfl)
      replace h60 := h60.move (K145.at 4 rfl)
      refine xV 0 38 rfl hc146 hs148 (fun L_ w_ hc_ hu_ hs_ => eM (.pointer (some ⟨g2, 0, none⟩)) (by exact e61)) ?_; intro hc149 hs150
      refine xV 1 39 rfl hc149 hs150 (fun L_ w_ hc_ hu_ hs_ => (show _ = Result.ok (Next.value (.pointer (some ⟨g100, 0 + 0, none⟩))) w_ from e_indexAddrA (b := g100) (off := 0) (n := 2) (sz := 3) (i := 0) (k := .i64) Try.underlying97 (by kernel_rfl) (by kernel_rfl) rfl (by decide) (by decide))) ?_; intro hc151 hs152
      refine xV 2 40 rfl hc151 hs152 (fun L_ w_ hc_ hu_ hs_ => e_loadS (b := g100) (off := 0 + 0) (cs := [.int .i64 ((x45.getD (((IntKind.i64.wrap ((x45.length : Int) - 1))).toNat) z97).p0_.kind), .int .i64 ((x45.getD (((IntKind.i64.wrap ((x45.length : Int) - 1))).toNat) z97).p0_.n), .slice A91 ((x45.getD (((IntKind.i64.wrap ((x45.length : Int) - 1))).toNat) z97).p0_.text).length c92]) Try.underlying36 rfl (by kernel_rfl) (by kernel_rfl) (blk_cellsO ((hs_.2 _ rfl).trans o147) rfl)) ?_; intro hc153 hs154
      refine xV 4 42 rfl hc153 hs154 (fun L_ w_ hc_ hu_ hs_ => eM (.pointer (some ⟨g2, 0, none⟩)) (by exact e61)) ?_; intro hc155 hs156
      refine xV 5 43 rfl hc155 hs156 (fun L_ w_ hc_ hu_ hs_ => (show _ = Result.ok (Next.value (.pointer (some ⟨g100, 0 + 3, none⟩))) w_ from e_indexAddrA (b := g100) (off := 0) (n := 2) (sz := 3) (i := 1) (k := .i64) Try.underlying97 (by kernel_rfl) (by kernel_rfl) rfl (by decide) (by decide))) ?_; intro hc157 hs158
      refine xV 6 44 rfl hc157 hs158 (fun L_ w_ hc_ hu_ hs_ => e_loadS (b := g100) (off := 0 + 3) (cs := [.int .i64 ((x45.getD (((IntKind.i64.wrap ((x45.length : Int) - 1))).toNat) z97).p1_.kind), .int .i64 ((x45.getD (((IntKind.i64.wrap ((x45.length : Int) - 1))).toNat) z97).p1_.n), .slice A95 ((x45.getD (((IntKind.i64.wrap ((x45.length : Int) - 1))).toNat) z97).p1_.text).length c96]) Try.underlying36 rfl (by kernel_rfl) (by kernel_rfl) (blk_cellsO ((hs_.2 _ rfl).trans o147) rfl)) ?_; intro hc159 hs160
      refine xall [3, 8, 9] (by kernel_rfl) (by decide) hc159 (List.forall_mem_cons.2 ⟨?_, List.forall_mem_cons.2 ⟨?_, List.forall_mem_cons.2 ⟨?_, fun _ h_ => by cases h_⟩⟩⟩)
      · have S161 := S144.pull (F := (is g2)) (Fr := [(is g100), F48, F54, F59]) 1 rfl rfl
        have S163 := S161.pulls [F54, F59, (is g2), (is g100), F48] [4, 4] rfl
        obtain ⟨t164, u165, M⟩ := bnd M
        refine yC 3 rfl (eC [.tmp 38, .tmp 40] [.pointer (some ⟨g2, 0, none⟩), .agg #[.int .i64 ((x45.getD (((IntKind.i64.wrap ((x45.length : Int) - 1))).toNat) z97).p0_.kind), .int .i64 ((x45.getD (((IntKind.i64.wrap ((x45.length : Int) - 1))).toNat) z97).p0_.n), .slice A91 ((x45.getD (((IntKind.i64.wrap ((x45.length : Int) - 1))).toNat) z97).p0_.text).length c92]] Try.func50) (impl_Store_deref_2.calls k69 w143 H43 (⟨x51, x56⟩ : Store) g2 A52 c53 F54 A57 c58 F59 ((x45.getD (((IntKind.i64.wrap ((x45.length : Int) - 1))).toNat) z97).p0_) A91 c92 h55 h60 b3 h94 l93 (St.own' (Fa := [F54, F59, (is g2)]) (Fr := [(is g100), F48]) S163) t164 u165) ?_
        rintro hc176 _ w166 ⟨A172, c173, H167, rfl, h169, h170, b171, h174, l175, T168⟩
        refine ⟨_, rfl, ?_⟩
        obtain ⟨S177, K178⟩ := St.call (Fa := [F54, F59, (is g2)]) (Fr := [(is g100), F48]) S163 T168
        replace h109 := h109.move (K178.at 1 rfl)
        have E179 := T168.ext
        replace h109 := h109.ext E179
        refine ⟨⟨(Ext.trans E179 S177.inv), (fun b_ h_ => (K178.at 0 rfl b_ h_).trans (hs160.2 b_ h_))⟩, fun hs180 => ?_⟩
        refine xall [7, 8, 9] (by kernel_rfl) (by decide) hc176 (List.forall_mem_cons.2 ⟨?_, List.forall_mem_cons.2 ⟨?_, List.forall_mem_cons.2 ⟨?_, fun _ h_ => by cases h_⟩⟩⟩)
        · have S181 := S177.pull (F := (is g2)) (Fr := [F54, F59, (is g100), F48]) 2 rfl rfl
          have S183 := S181.pulls [F54, F59, (is g2), (is g100), F48] [2, 2] rfl
          obtain ⟨t184, u185, M⟩ := bnd M
          refine yC 7 rfl (eC [.tmp 42, .tmp 44] [.pointer (some ⟨g2, 0, none⟩), .agg #[.int .i64 ((x45.getD (((IntKind.i64.wrap ((x45.length : Int) - 1))).toNat) z97).p1_.kind), .int .i64 ((x45.getD (((IntKind.i64.wrap ((x45.length : Int) - 1))).toNat) z97).p1_.n), .slice A95 ((x45.getD (((IntKind.i64.wrap ((x45.length : Int) - 1))).toNat) z97).p1_.text).length c96]] Try.func50) (impl_Store_deref_2.calls k69 w166 H167 (⟨x51, x56⟩ : Store) g2 A52 c53 F54 A57 c58 F59 ((x45.getD (((IntKind.i64.wrap ((x45.length : Int) - 1))).toNat) z97).p1_) A95 c96 h169 h170 b171 (h98.ext E179) l97 (St.own' (Fa := [F54, F59, (is g2)]) (Fr := [(is g100), F48]) S183) t184 u185) ?_
          rintro hc196 _ w186 ⟨A192, c193, H187, rfl, h189, h190, b191, h194, l195, T188⟩
          refine ⟨_, rfl, ?_⟩
          obtain ⟨S197, K198⟩ := St.call (Fa := [F54, F59, (is g2)]) (Fr := [(is g100), F48]) S183 T188
          replace h109 := h109.move (K198.at 1 rfl)
          have E199 := T188.ext
          replace h109 := h109.ext E199
          refine ⟨⟨(Ext.trans (E179.trans E199) S197.inv), (fun b_ h_ => (K198.at 0 rfl b_ h_).trans (hs180.2 b_ h_))⟩, fun hs200 => ?_⟩
          refine xall [8, 9] (by kernel_rfl) (by decide) hc196 (List.forall_mem_cons.2 ⟨?_, List.forall_mem_cons.2 ⟨?_, fun _ h_ => by cases h_⟩⟩)
          · refine yE 8 10 rfl (nB #[.int .i64 0, .int .i64 0, .slice none 0 0] 36 S197) ?_
            rintro hc206 _ w201 ⟨g202, rfl, b203, S204, K205⟩
            replace h189 := h189.move (K205.at 0 rfl)
            replace h190 := h190.move (K205.at 1 rfl)
            replace b191 := K205.blk 2 rfl b191
            replace h109 := h109.move (K205.at 4 rfl)
            refine ⟨⟨(Ext.trans (E179.trans E199) S204.inv), (fun b_ h_ => (K205.at 3 rfl b_ h_).trans (hs200.2 b_ h_))⟩, fun hs207 => ?_⟩
            refine xO 9 hc206 ?_
            refine yE 9 11 rfl (nB #[.int .i64 0, .int .i64 0, .slice none 0 0] 36 S204) ?_
            rintro hc213 _ w208 ⟨g209, rfl, b210, S211, K212⟩
            replace b203 := K212.blk 0 rfl b203
            replace h189 := h189.move (K212.at 1 rfl)
            replace h190 := h190.move (K212.at 2 rfl)
            replace b191 := K212.blk 3 rfl b191
            replace h109 := h109.move (K212.at 5 rfl)
            refine ⟨⟨(Ext.trans (E179.trans E199) S211.inv), (fun b_ h_ => (K212.at 4 rfl b_ h_).trans (hs207.2 b_ h_))⟩, fun hs214 => ?_⟩
            have S215 := S211.pulls [(is g202), (is g209), F54, F59, (is g2), (is g100), F48] [1] rfl
            refine xO 10 hc213 ?_
            refine yS 10 rfl (eSa g202 0 [.int .i64 t164.kind, .int .i64 t164.n, .slice A172 t164.text.length c173] S215 b203) ?_
            rintro hc220 w216 ⟨b217, S218, K219⟩
            replace b210 := K219.blk 0 rfl b210
            replace h189 := h189.move (K219.at 1 rfl)
            replace h190 := h190.move (K219.at 2 rfl)
            replace b191 := K219.blk 3 rfl b191
            replace h109 := h109.move (K219.at 5 rfl)
            refine ⟨⟨(Ext.trans (E179.trans E199) S218.inv), (fun b_ h_ => (K219.at 4 rfl b_ h_).trans (hs214.2 b_ h_))⟩, fun hs221 => ?_⟩
            clear b203
            have S222 := S218.pulls [(is g209), (is g202), F54, F59, (is g2), (is g100), F48] [1] rfl
            refine xO 11 hc220 ?_
            refine yS 11 rfl (eSa g209 0 [.int .i64 t184.kind, .int .i64 t184.n, .slice A192 t184.text.length c193] S222 b210) ?_
            rintro hc227 w223 ⟨b224, S225, K226⟩
            replace b217 := K226.blk 0 rfl b217
            replace h189 := h189.move (K226.at 1 rfl)
            replace h190 := h190.move (K226.at 2 rfl)
            replace b191 := K226.blk 3 rfl b191
            replace h109 := h109.move (K226.at 5 rfl)
            refine ⟨⟨(Ext.trans (E179.trans E199) S225.inv), (fun b_ h_ => (K226.at 4 rfl b_ h_).trans (hs221.2 b_ h_))⟩, fun hs228 => ?_⟩
            clear b210
            refine xn (by kernel_rfl) ?_ _
            have S233 := S225.pulls [(is g2), F48, F54, F59, (is g202), (is g209), (is g100)] [1, 3, 3, 6, 5] rfl
            have S234 := St.first (Fa := [(is g2), F48, F54, F59, (is g202), (is g209)]) (Fr := [(is g100)]) S233
            exact ⟨rfl, k69, (by omega), _, H187, g202, t164.kind, t164.n, t164.text, A172, c173, g209, t184.kind, t184.n, t184.text, A192, c193, rfl, (by exact e61), (by kernel_rfl), (by exact e63), (by kernel_rfl), (by kernel_rfl), b191, h109, h189, h190, b217, b224, (h174.ext E199), l175, h194, l195, (E179.trans E199), S234, M⟩
          refine yE 9 11 rfl (nB #[.int .i64 0, .int .i64 0, .slice none 0 0] 36 S197) ?_
          rintro hc240 _ w235 ⟨g236, rfl, b237, S238, K239⟩
          replace h189 := h189.move (K239.at 0 rfl)
          replace h190 := h190.move (K239.at 1 rfl)
          replace b191 := K239.blk 2 rfl b191
          replace h109 := h109.move (K239.at 4 rfl)
          refine ⟨⟨(Ext.trans (E179.trans E199) S238.inv), (fun b_ h_ => (K239.at 3 rfl b_ h_).trans (hs200.2 b_ h_))⟩, fun hs241 => ?_⟩
          refine xO 8 hc240 ?_
          refine yE 8 10 rfl (nB #[.int .i64 0, .int .i64 0, .slice none 0 0] 36 S238) ?_
          rintro hc247 _ w242 ⟨g243, rfl, b244, S245, K246⟩
          replace b237 := K246.blk 0 rfl b237
          replace h189 := h189.move (K246.at 1 rfl)
          replace h190 := h190.move (K246.at 2 rfl)
          replace b191 := K246.blk 3 rfl b191
          replace h109 := h109.move (K246.at 5 rfl)
          refine ⟨⟨(Ext.trans (E179.trans E199) S245.inv), (fun b_ h_ => (K246.at 4 rfl b_ h_).trans (hs241.2 b_ h_))⟩, fun hs248 => ?_⟩
          refine xO 10 hc247 ?_
          refine yS 10 rfl (eSa g243 0 [.int .i64 t164.kind, .int .i64 t164.n, .slice A172 t164.text.length c173] S245 b244) ?_
          rintro hc253 w249 ⟨b250, S251, K252⟩
          replace b237 := K252.blk 0 rfl b237
          replace h189 := h189.move (K252.at 1 rfl)
          replace h190 := h190.move (K252.at 2 rfl)
          replace b191 := K252.blk 3 rfl b191
          replace h109 := h109.move (K252.at 5 rfl)
          refine ⟨⟨(Ext.trans (E179.trans E199) S251.inv), (fun b_ h_ => (K252.at 4 rfl b_ h_).trans (hs248.2 b_ h_))⟩, fun hs254 => ?_⟩
          clear b244
          have S255 := S251.pulls [(is g236), (is g243), F54, F59, (is g2), (is g100), F48] [1] rfl
          refine xO 11 hc253 ?_
          refine yS 11 rfl (eSa g236 0 [.int .i64 t184.kind, .int .i64 t184.n, .slice A192 t184.text.length c193] S255 b237) ?_
          rintro hc260 w256 ⟨b257, S258, K259⟩
          replace b250 := K259.blk 0 rfl b250
          replace h189 := h189.move (K259.at 1 rfl)
          replace h190 := h190.move (K259.at 2 rfl)
          replace b191 := K259.blk 3 rfl b191
          replace h109 := h109.move (K259.at 5 rfl)
          refine ⟨⟨(Ext.trans (E179.trans E199) S258.inv), (fun b_ h_ => (K259.at 4 rfl b_ h_).trans (hs254.2 b_ h_))⟩, fun hs261 => ?_⟩
          clear b237
          refine xn (by kernel_rfl) ?_ _
          have S266 := S258.pulls [(is g2), F48, F54, F59, (is g243), (is g236), (is g100)] [1, 3, 3, 6, 5] rfl
          have S267 := St.first (Fa := [(is g2), F48, F54, F59, (is g243), (is g236)]) (Fr := [(is g100)]) S266
          exact ⟨rfl, k69, (by omega), _, H187, g243, t164.kind, t164.n, t164.text, A172, c173, g236, t184.kind, t184.n, t184.text, A192, c193, rfl, (by exact e61), (by kernel_rfl), (by exact e63), (by kernel_rfl), (by kernel_rfl), b191, h109, h189, h190, b250, b257, (h174.ext E199), l175, h194, l195, (E179.trans E199), S267, M⟩
        · refine yE 8 10 rfl (nB #[.int .i64 0, .int .i64 0, .slice none 0 0] 36 S177) ?_
          rintro hc273 _ w268 ⟨g269, rfl, b270, S271, K272⟩
          replace h169 := h169.move (K272.at 0 rfl)
          replace h170 := h170.move (K272.at 1 rfl)
          replace b171 := K272.blk 2 rfl b171
          replace h109 := h109.move (K272.at 4 rfl)
          refine ⟨⟨(Ext.trans E179 S271.inv), (fun b_ h_ => (K272.at 3 rfl b_ h_).trans (hs180.2 b_ h_))⟩, fun hs274 => ?_⟩
          refine xall [7, 9] (by kernel_rfl) (by decide) hc273 (List.forall_mem_cons.2 ⟨?_, List.forall_mem_cons.2 ⟨?_, fun _ h_ => by cases h_⟩⟩)
          · have S275 := S271.pull (F := (is g2)) (Fr := [(is g269), F54, F59, (is g100), F48]) 3 rfl rfl
            have S277 := S275.pulls [F54, F59, (is g2), (is g269), (is g100), F48] [3, 3] rfl
            obtain ⟨t278, u279, M⟩ := bnd M
            refine yC 7 rfl (eC [.tmp 42, .tmp 44] [.pointer (some ⟨g2, 0, none⟩), .agg #[.int .i64 ((x45.getD (((IntKind.i64.wrap ((x45.length : Int) - 1))).toNat) z97).p1_.kind), .int .i64 ((x45.getD (((IntKind.i64.wrap ((x45.length : Int) - 1))).toNat) z97).p1_.n), .slice A95 ((x45.getD (((IntKind.i64.wrap ((x45.length : Int) - 1))).toNat) z97).p1_.text).length c96]] Try.func50) (impl_Store_deref_2.calls k69 w268 H167 (⟨x51, x56⟩ : Store) g2 A52 c53 F54 A57 c58 F59 ((x45.getD (((IntKind.i64.wrap ((x45.length : Int) - 1))).toNat) z97).p1_) A95 c96 h169 h170 b171 (h98.ext E179) l97 (St.own' (Fa := [F54, F59, (is g2)]) (Fr := [(is g269), (is g100), F48]) S277) t278 u279) ?_
            rintro hc290 _ w280 ⟨A286, c287, H281, rfl, h283, h284, b285, h288, l289, T282⟩
            refine ⟨_, rfl, ?_⟩
            obtain ⟨S291, K292⟩ := St.call (Fa := [F54, F59, (is g2)]) (Fr := [(is g269), (is g100), F48]) S277 T282
            replace b270 := K292.blk 0 rfl b270
            replace h109 := h109.move (K292.at 2 rfl)
            have E293 := T282.ext
            replace h109 := h109.ext E293
            refine ⟨⟨(Ext.trans (E179.trans E293) S291.inv), (fun b_ h_ => (K292.at 1 rfl b_ h_).trans (hs274.2 b_ h_))⟩, fun hs294 => ?_⟩
            refine xO 9 hc290 ?_
            refine yE 9 11 rfl (nB #[.int .i64 0, .int .i64 0, .slice none 0 0] 36 S291) ?_
            rintro hc300 _ w295 ⟨g296, rfl, b297, S298, K299⟩
            replace h283 := h283.move (K299.at 0 rfl)
            replace h284 := h284.move (K299.at 1 rfl)
            replace b285 := K299.blk 2 rfl b285
            replace b270 := K299.blk 3 rfl b270
            replace h109 := h109.move (K299.at 5 rfl)
            refine ⟨⟨(Ext.trans (E179.trans E293) S298.inv), (fun b_ h_ => (K299.at 4 rfl b_ h_).trans (hs294.2 b_ h_))⟩, fun hs301 => ?_⟩
            have S302 := S298.pulls [(is g269), (is g296), F54, F59, (is g2), (is g100), F48] [4] rfl
            refine xO 10 hc300 ?_
            refine yS 10 rfl (eSa g269 0 [.int .i64 t164.kind, .int .i64 t164.n, .slice A172 t164.text.length c173] S302 b270) ?_
            rintro hc307 w303 ⟨b304, S305, K306⟩
            replace b297 := K306.blk 0 rfl b297
            replace h283 := h283.move (K306.at 1 rfl)
            replace h284 := h284.move (K306.at 2 rfl)
            replace b285 := K306.blk 3 rfl b285
            replace h109 := h109.move (K306.at 5 rfl)
            refine ⟨⟨(Ext.trans (E179.trans E293) S305.inv), (fun b_ h_ => (K306.at 4 rfl b_ h_).trans (hs301.2 b_ h_))⟩, fun hs308 => ?_⟩
            clear b270
            have S309 := S305.pulls [(is g296), (is g269), F54, F59, (is g2), (is g100), F48] [1] rfl
            refine xO 11 hc307 ?_
            refine yS 11 rfl (eSa g296 0 [.int .i64 t278.kind, .int .i64 t278.n, .slice A286 t278.text.length c287] S309 b297) ?_
            rintro hc314 w310 ⟨b311, S312, K313⟩
            replace b304 := K313.blk 0 rfl b304
            replace h283 := h283.move (K313.at 1 rfl)
            replace h284 := h284.move (K313.at 2 rfl)
            replace b285 := K313.blk 3 rfl b285
            replace h109 := h109.move (K313.at 5 rfl)
            refine ⟨⟨(Ext.trans (E179.trans E293) S312.inv), (fun b_ h_ => (K313.at 4 rfl b_ h_).trans (hs308.2 b_ h_))⟩, fun hs315 => ?_⟩
            clear b297
            refine xn (by kernel_rfl) ?_ _
            have S320 := S312.pulls [(is g2), F48, F54, F59, (is g269), (is g296), (is g100)] [1, 3, 3, 6, 5] rfl
            have S321 := St.first (Fa := [(is g2), F48, F54, F59, (is g269), (is g296)]) (Fr := [(is g100)]) S320
            exact ⟨rfl, k69, (by omega), _, H281, g269, t164.kind, t164.n, t164.text, A172, c173, g296, t278.kind, t278.n, t278.text, A286, c287, rfl, (by exact e61), (by kernel_rfl), (by exact e63), (by kernel_rfl), (by kernel_rfl), b285, h109, h283, h284, b304, b311, (h174.ext E293), l175, h288, l289, (E179.trans E293), S321, M⟩
          refine yE 9 11 rfl (nB #[.int .i64 0, .int .i64 0, .slice none 0 0] 36 S271) ?_
          rintro hc327 _ w322 ⟨g323, rfl, b324, S325, K326⟩
          replace b270 := K326.blk 0 rfl b270
          replace h169 := h169.move (K326.at 1 rfl)
          replace h170 := h170.move (K326.at 2 rfl)
          replace b171 := K326.blk 3 rfl b171
          replace h109 := h109.move (K326.at 5 rfl)
          refine ⟨⟨(Ext.trans E179 S325.inv), (fun b_ h_ => (K326.at 4 rfl b_ h_).trans (hs274.2 b_ h_))⟩, fun hs328 => ?_⟩
          have S331 := S325.pulls [F54, F59, (is g2), (is g323), (is g269), (is g100), F48] [4, 4, 4] rfl
          obtain ⟨t332, u333, M⟩ := bnd M
          refine xO 7 hc327 ?_
          refine yC 7 rfl (eC [.tmp 42, .tmp 44] [.pointer (some ⟨g2, 0, none⟩), .agg #[.int .i64 ((x45.getD (((IntKind.i64.wrap ((x45.length : Int) - 1))).toNat) z97).p1_.kind), .int .i64 ((x45.getD (((IntKind.i64.wrap ((x45.length : Int) - 1))).toNat) z97).p1_.n), .slice A95 ((x45.getD (((IntKind.i64.wrap ((x45.length : Int) - 1))).toNat) z97).p1_.text).length c96]] Try.func50) (impl_Store_deref_2.calls k69 w322 H167 (⟨x51, x56⟩ : Store) g2 A52 c53 F54 A57 c58 F59 ((x45.getD (((IntKind.i64.wrap ((x45.length : Int) - 1))).toNat) z97).p1_) A95 c96 h169 h170 b171 (h98.ext E179) l97 (St.own' (Fa := [F54, F59, (is g2)]) (Fr := [(is g323), (is g269), (is g100), F48]) S331) t332 u333) ?_
          rintro hc344 _ w334 ⟨A340, c341, H335, rfl, h337, h338, b339, h342, l343, T336⟩
          refine ⟨_, rfl, ?_⟩
          obtain ⟨S345, K346⟩ := St.call (Fa := [F54, F59, (is g2)]) (Fr := [(is g323), (is g269), (is g100), F48]) S331 T336
          replace b324 := K346.blk 0 rfl b324
          replace b270 := K346.blk 1 rfl b270
          replace h109 := h109.move (K346.at 3 rfl)
          have E347 := T336.ext
          replace h109 := h109.ext E347
          refine ⟨⟨(Ext.trans (E179.trans E347) S345.inv), (fun b_ h_ => (K346.at 2 rfl b_ h_).trans (hs328.2 b_ h_))⟩, fun hs348 => ?_⟩
          have S349 := S345.pulls [(is g269), F54, F59, (is g2), (is g323), (is g100), F48] [4] rfl
          refine xO 10 hc344 ?_
          refine yS 10 rfl (eSa g269 0 [.int .i64 t164.kind, .int .i64 t164.n, .slice A172 t164.text.length c173] S349 b270) ?_
          rintro hc354 w350 ⟨b351, S352, K353⟩
          replace h337 := h337.move (K353.at 0 rfl)
          replace h338 := h338.move (K353.at 1 rfl)
          replace b339 := K353.blk 2 rfl b339
          replace b324 := K353.blk 3 rfl b324
          replace h109 := h109.move (K353.at 5 rfl)
          refine ⟨⟨(Ext.trans (E179.trans E347) S352.inv), (fun b_ h_ => (K353.at 4 rfl b_ h_).trans (hs348.2 b_ h_))⟩, fun hs355 => ?_⟩
          clear b270
          have S356 := S352.pulls [(is g323), (is g269), F54, F59, (is g2), (is g100), F48] [4] rfl
          refine xO 11 hc354 ?_
          refine yS 11 rfl (eSa g323 0 [.int .i64 t332.kind, .int .i64 t332.n, .slice A340 t332.text.length c341] S356 b324) ?_
          rintro hc361 w357 ⟨b358, S359, K360⟩
          replace b351 := K360.blk 0 rfl b351
          replace h337 := h337.move (K360.at 1 rfl)
          replace h338 := h338.move (K360.at 2 rfl)
          replace b339 := K360.blk 3 rfl b339
          replace h109 := h109.move (K360.at 5 rfl)
          refine ⟨⟨(Ext.trans (E179.trans E347) S359.inv), (fun b_ h_ => (K360.at 4 rfl b_ h_).trans (hs355.2 b_ h_))⟩, fun hs362 => ?_⟩
          clear b324
          refine xn (by kernel_rfl) ?_ _
          have S367 := S359.pulls [(is g2), F48, F54, F59, (is g269), (is g323), (is g100)] [1, 3, 3, 6, 5] rfl
          have S368 := St.first (Fa := [(is g2), F48, F54, F59, (is g269), (is g323)]) (Fr := [(is g100)]) S367
          exact ⟨rfl, k69, (by omega), _, H335, g269, t164.kind, t164.n, t164.text, A172, c173, g323, t332.kind, t332.n, t332.text, A340, c341, rfl, (by exact e61), (by kernel_rfl), (by exact e63), (by kernel_rfl), (by kernel_rfl), b339, h109, h337, h338, b351, b358, (h174.ext E347), l175, h342, l343, (E179.trans E347), S368, M⟩
        refine yE 9 11 rfl (nB #[.int .i64 0, .int .i64 0, .slice none 0 0] 36 S177) ?_
        rintro hc374 _ w369 ⟨g370, rfl, b371, S372, K373⟩
        replace h169 := h169.move (K373.at 0 rfl)
        replace h170 := h170.move (K373.at 1 rfl)
        replace b171 := K373.blk 2 rfl b171
        replace h109 := h109.move (K373.at 4 rfl)
        refine ⟨⟨(Ext.trans E179 S372.inv), (fun b_ h_ => (K373.at 3 rfl b_ h_).trans (hs180.2 b_ h_))⟩, fun hs375 => ?_⟩
        refine xall [7, 8] (by kernel_rfl) (by decide) hc374 (List.forall_mem_cons.2 ⟨?_, List.forall_mem_cons.2 ⟨?_, fun _ h_ => by cases h_⟩⟩)
        · have S376 := S372.pull (F := (is g2)) (Fr := [(is g370), F54, F59, (is g100), F48]) 3 rfl rfl
          have S378 := S376.pulls [F54, F59, (is g2), (is g370), (is g100), F48] [3, 3] rfl
          obtain ⟨t379, u380, M⟩ := bnd M
          refine yC 7 rfl (eC [.tmp 42, .tmp 44] [.pointer (some ⟨g2, 0, none⟩), .agg #[.int .i64 ((x45.getD (((IntKind.i64.wrap ((x45.length : Int) - 1))).toNat) z97).p1_.kind), .int .i64 ((x45.getD (((IntKind.i64.wrap ((x45.length : Int) - 1))).toNat) z97).p1_.n), .slice A95 ((x45.getD (((IntKind.i64.wrap ((x45.length : Int) - 1))).toNat) z97).p1_.text).length c96]] Try.func50) (impl_Store_deref_2.calls k69 w369 H167 (⟨x51, x56⟩ : Store) g2 A52 c53 F54 A57 c58 F59 ((x45.getD (((IntKind.i64.wrap ((x45.length : Int) - 1))).toNat) z97).p1_) A95 c96 h169 h170 b171 (h98.ext E179) l97 (St.own' (Fa := [F54, F59, (is g2)]) (Fr := [(is g370), (is g100), F48]) S378) t379 u380) ?_
          rintro hc391 _ w381 ⟨A387, c388, H382, rfl, h384, h385, b386, h389, l390, T383⟩
          refine ⟨_, rfl, ?_⟩
          obtain ⟨S392, K393⟩ := St.call (Fa := [F54, F59, (is g2)]) (Fr := [(is g370), (is g100), F48]) S378 T383
          replace b371 := K393.blk 0 rfl b371
          replace h109 := h109.move (K393.at 2 rfl)
          have E394 := T383.ext
          replace h109 := h109.ext E394
          refine ⟨⟨(Ext.trans (E179.trans E394) S392.inv), (fun b_ h_ => (K393.at 1 rfl b_ h_).trans (hs375.2 b_ h_))⟩, fun hs395 => ?_⟩
          refine xO 8 hc391 ?_
          refine yE 8 10 rfl (nB #[.int .i64 0, .int .i64 0, .slice none 0 0] 36 S392) ?_
          rintro hc401 _ w396 ⟨g397, rfl, b398, S399, K400⟩
          replace h384 := h384.move (K400.at 0 rfl)
          replace h385 := h385.move (K400.at 1 rfl)
          replace b386 := K400.blk 2 rfl b386
          replace b371 := K400.blk 3 rfl b371
          replace h109 := h109.move (K400.at 5 rfl)
          refine ⟨⟨(Ext.trans (E179.trans E394) S399.inv), (fun b_ h_ => (K400.at 4 rfl b_ h_).trans (hs395.2 b_ h_))⟩, fun hs402 => ?_⟩
          refine xO 10 hc401 ?_
          refine yS 10 rfl (eSa g397 0 [.int .i64 t164.kind, .int .i64 t164.n, .slice A172 t164.text.length c173] S399 b398) ?_
          rintro hc407 w403 ⟨b404, S405, K406⟩
          replace h384 := h384.move (K406.at 0 rfl)
          replace h385 := h385.move (K406.at 1 rfl)
          replace b386 := K406.blk 2 rfl b386
          replace b371 := K406.blk 3 rfl b371
          replace h109 := h109.move (K406.at 5 rfl)
          refine ⟨⟨(Ext.trans (E179.trans E394) S405.inv), (fun b_ h_ => (K406.at 4 rfl b_ h_).trans (hs402.2 b_ h_))⟩, fun hs408 => ?_⟩
          clear b398
          have S409 := S405.pulls [(is g370), (is g397), F54, F59, (is g2), (is g100), F48] [4] rfl
          refine xO 11 hc407 ?_
          refine yS 11 rfl (eSa g370 0 [.int .i64 t379.kind, .int .i64 t379.n, .slice A387 t379.text.length c388] S409 b371) ?_
          rintro hc414 w410 ⟨b411, S412, K413⟩
          replace b404 := K413.blk 0 rfl b404
          replace h384 := h384.move (K413.at 1 rfl)
          replace h385 := h385.move (K413.at 2 rfl)
          replace b386 := K413.blk 3 rfl b386
          replace h109 := h109.move (K413.at 5 rfl)
          refine ⟨⟨(Ext.trans (E179.trans E394) S412.inv), (fun b_ h_ => (K413.at 4 rfl b_ h_).trans (hs408.2 b_ h_))⟩, fun hs415 => ?_⟩
          clear b371
          refine xn (by kernel_rfl) ?_ _
          have S420 := S412.pulls [(is g2), F48, F54, F59, (is g397), (is g370), (is g100)] [1, 3, 3, 6, 5] rfl
          have S421 := St.first (Fa := [(is g2), F48, F54, F59, (is g397), (is g370)]) (Fr := [(is g100)]) S420
          exact ⟨rfl, k69, (by omega), _, H382, g397, t164.kind, t164.n, t164.text, A172, c173, g370, t379.kind, t379.n, t379.text, A387, c388, rfl, (by exact e61), (by kernel_rfl), (by exact e63), (by kernel_rfl), (by kernel_rfl), b386, h109, h384, h385, b404, b411, (h174.ext E394), l175, h389, l390, (E179.trans E394), S421, M⟩
        refine yE 8 10 rfl (nB #[.int .i64 0, .int .i64 0, .slice none 0 0] 36 S372) ?_
        rintro hc427 _ w422 ⟨g423, rfl, b424, S425, K426⟩
        replace b371 := K426.blk 0 rfl b371
        replace h169 := h169.move (K426.at 1 rfl)
        replace h170 := h170.move (K426.at 2 rfl)
        replace b171 := K426.blk 3 rfl b171
        replace h109 := h109.move (K426.at 5 rfl)
        refine ⟨⟨(Ext.trans E179 S425.inv), (fun b_ h_ => (K426.at 4 rfl b_ h_).trans (hs375.2 b_ h_))⟩, fun hs428 => ?_⟩
        have S431 := S425.pulls [F54, F59, (is g2), (is g423), (is g370), (is g100), F48] [4, 4, 4] rfl
        obtain ⟨t432, u433, M⟩ := bnd M
        refine xO 7 hc427 ?_
        refine yC 7 rfl (eC [.tmp 42, .tmp 44] [.pointer (some ⟨g2, 0, none⟩), .agg #[.int .i64 ((x45.getD (((IntKind.i64.wrap ((x45.length : Int) - 1))).toNat) z97).p1_.kind), .int .i64 ((x45.getD (((IntKind.i64.wrap ((x45.length : Int) - 1))).toNat) z97).p1_.n), .slice A95 ((x45.getD (((IntKind.i64.wrap ((x45.length : Int) - 1))).toNat) z97).p1_.text).length c96]] Try.func50) (impl_Store_deref_2.calls k69 w422 H167 (⟨x51, x56⟩ : Store) g2 A52 c53 F54 A57 c58 F59 ((x45.getD (((IntKind.i64.wrap ((x45.length : Int) - 1))).toNat) z97).p1_) A95 c96 h169 h170 b171 (h98.ext E179) l97 (St.own' (Fa := [F54, F59, (is g2)]) (Fr := [(is g423), (is g370), (is g100), F48]) S431) t432 u433) ?_
        rintro hc444 _ w434 ⟨A440, c441, H435, rfl, h437, h438, b439, h442, l443, T436⟩
        refine ⟨_, rfl, ?_⟩
        obtain ⟨S445, K446⟩ := St.call (Fa := [F54, F59, (is g2)]) (Fr := [(is g423), (is g370), (is g100), F48]) S431 T436
        replace b424 := K446.blk 0 rfl b424
        replace b371 := K446.blk 1 rfl b371
        replace h109 := h109.move (K446.at 3 rfl)
        have E447 := T436.ext
        replace h109 := h109.ext E447
        refine ⟨⟨(Ext.trans (E179.trans E447) S445.inv), (fun b_ h_ => (K446.at 2 rfl b_ h_).trans (hs428.2 b_ h_))⟩, fun hs448 => ?_⟩
        have S449 := S445.pulls [(is g423), F54, F59, (is g2), (is g370), (is g100), F48] [3] rfl
        refine xO 10 hc444 ?_
        refine yS 10 rfl (eSa g423 0 [.int .i64 t164.kind, .int .i64 t164.n, .slice A172 t164.text.length c173] S449 b424) ?_
        rintro hc454 w450 ⟨b451, S452, K453⟩
        replace h437 := h437.move (K453.at 0 rfl)
        replace h438 := h438.move (K453.at 1 rfl)
        replace b439 := K453.blk 2 rfl b439
        replace b371 := K453.blk 3 rfl b371
        replace h109 := h109.move (K453.at 5 rfl)
        refine ⟨⟨(Ext.trans (E179.trans E447) S452.inv), (fun b_ h_ => (K453.at 4 rfl b_ h_).trans (hs448.2 b_ h_))⟩, fun hs455 => ?_⟩
        clear b424
        have S456 := S452.pulls [(is g370), (is g423), F54, F59, (is g2), (is g100), F48] [4] rfl
        refine xO 11 hc454 ?_
        refine yS 11 rfl (eSa g370 0 [.int .i64 t432.kind, .int .i64 t432.n, .slice A440 t432.text.length c441] S456 b371) ?_
        rintro hc461 w457 ⟨b458, S459, K460⟩
        replace b451 := K460.blk 0 rfl b451
        replace h437 := h437.move (K460.at 1 rfl)
        replace h438 := h438.move (K460.at 2 rfl)
        replace b439 := K460.blk 3 rfl b439
        replace h109 := h109.move (K460.at 5 rfl)
        refine ⟨⟨(Ext.trans (E179.trans E447) S459.inv), (fun b_ h_ => (K460.at 4 rfl b_ h_).trans (hs455.2 b_ h_))⟩, fun hs462 => ?_⟩
        clear b371
        refine xn (by kernel_rfl) ?_ _
        have S467 := S459.pulls [(is g2), F48, F54, F59, (is g423), (is g370), (is g100)] [1, 3, 3, 6, 5] rfl
        have S468 := St.first (Fa := [(is g2), F48, F54, F59, (is g423), (is g370)]) (Fr := [(is g100)]) S467
        exact ⟨rfl, k69, (by omega), _, H435, g423, t164.kind, t164.n, t164.text, A172, c173, g370, t432.kind, t432.n, t432.text, A440, c441, rfl, (by exact e61), (by kernel_rfl), (by exact e63), (by kernel_rfl), (by kernel_rfl), b439, h109, h437, h438, b451, b458, (h174.ext E447), l175, h442, l443, (E179.trans E447), S468, M⟩
      · refine yE 8 10 rfl (nB #[.int .i64 0, .int .i64 0, .slice none 0 0] 36 S144) ?_
        rintro hc474 _ w469 ⟨g470, rfl, b471, S472, K473⟩
        replace b3 := K473.blk 1 rfl b3
        replace h109 := h109.move (K473.at 2 rfl)
        replace h55 := h55.move (K473.at 3 rfl)
        replace h60 := h60.move (K473.at 4 rfl)
        refine ⟨⟨S472.inv, (fun b_ h_ => (K473.at 0 rfl b_ h_).trans (hs160.2 b_ h_))⟩, fun hs475 => ?_⟩
        refine xall [3, 9] (by kernel_rfl) (by decide) hc474 (List.forall_mem_cons.2 ⟨?_, List.forall_mem_cons.2 ⟨?_, fun _ h_ => by cases h_⟩⟩)
        · have S476 := S472.pull (F := (is g2)) (Fr := [(is g470), (is g100), F48, F54, F59]) 2 rfl rfl
          have S478 := S476.pulls [F54, F59, (is g2), (is g470), (is g100), F48] [5, 5] rfl
          obtain ⟨t479, u480, M⟩ := bnd M
          refine yC 3 rfl (eC [.tmp 38, .tmp 40] [.pointer (some ⟨g2, 0, none⟩), .agg #[.int .i64 ((x45.getD (((IntKind.i64.wrap ((x45.length : Int) - 1))).toNat) z97).p0_.kind), .int .i64 ((x45.getD (((IntKind.i64.wrap ((x45.length : Int) - 1))).toNat) z97).p0_.n), .slice A91 ((x45.getD (((IntKind.i64.wrap ((x45.length : Int) - 1))).toNat) z97).p0_.text).length c92]] Try.func50) (impl_Store_deref_2.calls k69 w469 H43 (⟨x51, x56⟩ : Store) g2 A52 c53 F54 A57 c58 F59 ((x45.getD (((IntKind.i64.wrap ((x45.length : Int) - 1))).toNat) z97).p0_) A91 c92 h55 h60 b3 h94 l93 (St.own' (Fa := [F54, F59, (is g2)]) (Fr := [(is g470), (is g100), F48]) S478) t479 u480) ?_
          rintro hc491 _ w481 ⟨A487, c488, H482, rfl, h484, h485, b486, h489, l490, T483⟩
          refine ⟨_, rfl, ?_⟩
          obtain ⟨S492, K493⟩ := St.call (Fa := [F54, F59, (is g2)]) (Fr := [(is g470), (is g100), F48]) S478 T483
          replace b471 := K493.blk 0 rfl b471
          replace h109 := h109.move (K493.at 2 rfl)
          have E494 := T483.ext
          replace h109 := h109.ext E494
          refine ⟨⟨(Ext.trans E494 S492.inv), (fun b_ h_ => (K493.at 1 rfl b_ h_).trans (hs475.2 b_ h_))⟩, fun hs495 => ?_⟩
          refine xall [7, 9] (by kernel_rfl) (by decide) hc491 (List.forall_mem_cons.2 ⟨?_, List.forall_mem_cons.2 ⟨?_, fun _ h_ => by cases h_⟩⟩)
          · have S496 := S492.pull (F := (is g2)) (Fr := [F54, F59, (is g470), (is g100), F48]) 2 rfl rfl
            have S498 := S496.pulls [F54, F59, (is g2), (is g470), (is g100), F48] [2, 2] rfl
            obtain ⟨t499, u500, M⟩ := bnd M
            refine yC 7 rfl (eC [.tmp 42, .tmp 44] [.pointer (some ⟨g2, 0, none⟩), .agg #[.int .i64 ((x45.getD (((IntKind.i64.wrap ((x45.length : Int) - 1))).toNat) z97).p1_.kind), .int .i64 ((x45.getD (((IntKind.i64.wrap ((x45.length : Int) - 1))).toNat) z97).p1_.n), .slice A95 ((x45.getD (((IntKind.i64.wrap ((x45.length : Int) - 1))).toNat) z97).p1_.text).length c96]] Try.func50) (impl_Store_deref_2.calls k69 w481 H482 (⟨x51, x56⟩ : Store) g2 A52 c53 F54 A57 c58 F59 ((x45.getD (((IntKind.i64.wrap ((x45.length : Int) - 1))).toNat) z97).p1_) A95 c96 h484 h485 b486 (h98.ext E494) l97 (St.own' (Fa := [F54, F59, (is g2)]) (Fr := [(is g470), (is g100), F48]) S498) t499 u500) ?_
            rintro hc511 _ w501 ⟨A507, c508, H502, rfl, h504, h505, b506, h509, l510, T503⟩
            refine ⟨_, rfl, ?_⟩
            obtain ⟨S512, K513⟩ := St.call (Fa := [F54, F59, (is g2)]) (Fr := [(is g470), (is g100), F48]) S498 T503
            replace b471 := K513.blk 0 rfl b471
            replace h109 := h109.move (K513.at 2 rfl)
            have E514 := T503.ext
            replace h109 := h109.ext E514
            refine ⟨⟨(Ext.trans (E494.trans E514) S512.inv), (fun b_ h_ => (K513.at 1 rfl b_ h_).trans (hs495.2 b_ h_))⟩, fun hs515 => ?_⟩
            refine xO 9 hc511 ?_
            refine yE 9 11 rfl (nB #[.int .i64 0, .int .i64 0, .slice none 0 0] 36 S512) ?_
            rintro hc521 _ w516 ⟨g517, rfl, b518, S519, K520⟩
            replace h504 := h504.move (K520.at 0 rfl)
            replace h505 := h505.move (K520.at 1 rfl)
            replace b506 := K520.blk 2 rfl b506
            replace b471 := K520.blk 3 rfl b471
            replace h109 := h109.move (K520.at 5 rfl)
            refine ⟨⟨(Ext.trans (E494.trans E514) S519.inv), (fun b_ h_ => (K520.at 4 rfl b_ h_).trans (hs515.2 b_ h_))⟩, fun hs522 => ?_⟩
            have S523 := S519.pulls [(is g470), (is g517), F54, F59, (is g2), (is g100), F48] [4] rfl
            refine xO 10 hc521 ?_
            refine yS 10 rfl (eSa g470 0 [.int .i64 t479.kind, .int .i64 t479.n, .slice A487 t479.text.length c488] S523 b471) ?_
            rintro hc528 w524 ⟨b525, S526, K527⟩
            replace b518 := K527.blk 0 rfl b518
            replace h504 := h504.move (K527.at 1 rfl)
            replace h505 := h505.move (K527.at 2 rfl)
            replace b506 := K527.blk 3 rfl b506
            replace h109 := h109.move (K527.at 5 rfl)
            refine ⟨⟨(Ext.trans (E494.trans E514) S526.inv), (fun b_ h_ => (K527.at 4 rfl b_ h_).trans (hs522.2 b_ h_))⟩, fun hs529 => ?_⟩
            clear b471
            have S530 := S526.pulls [(is g517), (is g470), F54, F59, (is g2), (is g100), F48] [1] rfl
            refine xO 11 hc528 ?_
            refine yS 11 rfl (eSa g517 0 [.int .i64 t499.kind, .int .i64 t499.n, .slice A507 t499.text.length c508] S530 b518) ?_
            rintro hc535 w531 ⟨b532, S533, K534⟩
            replace b525 := K534.blk 0 rfl b525
            replace h504 := h504.move (K534.at 1 rfl)
            replace h505 := h505.move (K534.at 2 rfl)
            replace b506 := K534.blk 3 rfl b506
            replace h109 := h109.move (K534.at 5 rfl)
            refine ⟨⟨(Ext.trans (E494.trans E514) S533.inv), (fun b_ h_ => (K534.at 4 rfl b_ h_).trans (hs529.2 b_ h_))⟩, fun hs536 => ?_⟩
            clear b518
            refine xn (by kernel_rfl) ?_ _
            have S541 := S533.pulls [(is g2), F48, F54, F59, (is g470), (is g517), (is g100)] [1, 3, 3, 6, 5] rfl
            have S542 := St.first (Fa := [(is g2), F48, F54, F59, (is g470), (is g517)]) (Fr := [(is g100)]) S541
            exact ⟨rfl, k69, (by omega), _, H502, g470, t479.kind, t479.n, t479.text, A487, c488, g517, t499.kind, t499.n, t499.text, A507, c508, rfl, (by exact e61), (by kernel_rfl), (by exact e63), (by kernel_rfl), (by kernel_rfl), b506, h109, h504, h505, b525, b532, (h489.ext E514), l490, h509, l510, (E494.trans E514), S542, M⟩
          refine yE 9 11 rfl (nB #[.int .i64 0, .int .i64 0, .slice none 0 0] 36 S492) ?_
          rintro hc548 _ w543 ⟨g544, rfl, b545, S546, K547⟩
          replace h484 := h484.move (K547.at 0 rfl)
          replace h485 := h485.move (K547.at 1 rfl)
          replace b486 := K547.blk 2 rfl b486
          replace b471 := K547.blk 3 rfl b471
          replace h109 := h109.move (K547.at 5 rfl)
          refine ⟨⟨(Ext.trans E494 S546.inv), (fun b_ h_ => (K547.at 4 rfl b_ h_).trans (hs495.2 b_ h_))⟩, fun hs549 => ?_⟩
          have S552 := S546.pulls [F54, F59, (is g2), (is g544), (is g470), (is g100), F48] [3, 3, 3] rfl
          obtain ⟨t553, u554, M⟩ := bnd M
          refine xO 7 hc548 ?_
          refine yC 7 rfl (eC [.tmp 42, .tmp 44] [.pointer (some ⟨g2, 0, none⟩), .agg #[.int .i64 ((x45.getD (((IntKind.i64.wrap ((x45.length : Int) - 1))).toNat) z97).p1_.kind), .int .i64 ((x45.getD (((IntKind.i64.wrap ((x45.length : Int) - 1))).toNat) z97).p1_.n), .slice A95 ((x45.getD (((IntKind.i64.wrap ((x45.length : Int) - 1))).toNat) z97).p1_.text).length c96]] Try.func50) (impl_Store_deref_2.calls k69 w543 H482 (⟨x51, x56⟩ : Store) g2 A52 c53 F54 A57 c58 F59 ((x45.getD (((IntKind.i64.wrap ((x45.length : Int) - 1))).toNat) z97).p1_) A95 c96 h484 h485 b486 (h98.ext E494) l97 (St.own' (Fa := [F54, F59, (is g2)]) (Fr := [(is g544), (is g470), (is g100), F48]) S552) t553 u554) ?_
          rintro hc565 _ w555 ⟨A561, c562, H556, rfl, h558, h559, b560, h563, l564, T557⟩
          refine ⟨_, rfl, ?_⟩
          obtain ⟨S566, K567⟩ := St.call (Fa := [F54, F59, (is g2)]) (Fr := [(is g544), (is g470), (is g100), F48]) S552 T557
          replace b545 := K567.blk 0 rfl b545
          replace b471 := K567.blk 1 rfl b471
          replace h109 := h109.move (K567.at 3 rfl)
          have E568 := T557.ext
          replace h109 := h109.ext E568
          refine ⟨⟨(Ext.trans (E494.trans E568) S566.inv), (fun b_ h_ => (K567.at 2 rfl b_ h_).trans (hs549.2 b_ h_))⟩, fun hs569 => ?_⟩
          have S570 := S566.pulls [(is g470), F54, F59, (is g2), (is g544), (is g100), F48] [4] rfl
          refine xO 10 hc565 ?_
          refine yS 10 rfl (eSa g470 0 [.int .i64 t479.kind, .int .i64 t479.n, .slice A487 t479.text.length c488] S570 b471) ?_
          rintro hc575 w571 ⟨b572, S573, K574⟩
          replace h558 := h558.move (K574.at 0 rfl)
          replace h559 := h559.move (K574.at 1 rfl)
          replace b560 := K574.blk 2 rfl b560
          replace b545 := K574.blk 3 rfl b545
          replace h109 := h109.move (K574.at 5 rfl)
          refine ⟨⟨(Ext.trans (E494.trans E568) S573.inv), (fun b_ h_ => (K574.at 4 rfl b_ h_).trans (hs569.2 b_ h_))⟩, fun hs576 => ?_⟩
          clear b471
          have S577 := S573.pulls [(is g544), (is g470), F54, F59, (is g2), (is g100), F48] [4] rfl
          refine xO 11 hc575 ?_
          refine yS 11 rfl (eSa g544 0 [.int .i64 t553.kind, .int .i64 t553.n, .slice A561 t553.text.length c562] S577 b545) ?_
          rintro hc582 w578 ⟨b579, S580, K581⟩
          replace b572 := K581.blk 0 rfl b572
          replace h558 := h558.move (K581.at 1 rfl)
          replace h559 := h559.move (K581.at 2 rfl)
          replace b560 := K581.blk 3 rfl b560
          replace h109 := h109.move (K581.at 5 rfl)
          refine ⟨⟨(Ext.trans (E494.trans E568) S580.inv), (fun b_ h_ => (K581.at 4 rfl b_ h_).trans (hs576.2 b_ h_))⟩, fun hs583 => ?_⟩
          clear b545
          refine xn (by kernel_rfl) ?_ _
          have S588 := S580.pulls [(is g2), F48, F54, F59, (is g470), (is g544), (is g100)] [1, 3, 3, 6, 5] rfl
          have S589 := St.first (Fa := [(is g2), F48, F54, F59, (is g470), (is g544)]) (Fr := [(is g100)]) S588
          exact ⟨rfl, k69, (by omega), _, H556, g470, t479.kind, t479.n, t479.text, A487, c488, g544, t553.kind, t553.n, t553.text, A561, c562, rfl, (by exact e61), (by kernel_rfl), (by exact e63), (by kernel_rfl), (by kernel_rfl), b560, h109, h558, h559, b572, b579, (h489.ext E568), l490, h563, l564, (E494.trans E568), S589, M⟩
        refine yE 9 11 rfl (nB #[.int .i64 0, .int .i64 0, .slice none 0 0] 36 S472) ?_
        rintro hc595 _ w590 ⟨g591, rfl, b592, S593, K594⟩
        replace b471 := K594.blk 0 rfl b471
        replace b3 := K594.blk 2 rfl b3
        replace h109 := h109.move (K594.at 3 rfl)
        replace h55 := h55.move (K594.at 4 rfl)
        replace h60 := h60.move (K594.at 5 rfl)
        refine ⟨⟨S593.inv, (fun b_ h_ => (K594.at 1 rfl b_ h_).trans (hs475.2 b_ h_))⟩, fun hs596 => ?_⟩
        have S599 := S593.pulls [F54, F59, (is g2), (is g591), (is g470), (is g100), F48] [3, 6, 6] rfl
        obtain ⟨t600, u601, M⟩ := bnd M
        refine xO 3 hc595 ?_
        refine yC 3 rfl (eC [.tmp 38, .tmp 40] [.pointer (some ⟨g2, 0, none⟩), .agg #[.int .i64 ((x45.getD (((IntKind.i64.wrap ((x45.length : Int) - 1))).toNat) z97).p0_.kind), .int .i64 ((x45.getD (((IntKind.i64.wrap ((x45.length : Int) - 1))).toNat) z97).p0_.n), .slice A91 ((x45.getD (((IntKind.i64.wrap ((x45.length : Int) - 1))).toNat) z97).p0_.text).length c92]] Try.func50) (impl_Store_deref_2.calls k69 w590 H43 (⟨x51, x56⟩ : Store) g2 A52 c53 F54 A57 c58 F59 ((x45.getD (((IntKind.i64.wrap ((x45.length : Int) - 1))).toNat) z97).p0_) A91 c92 h55 h60 b3 h94 l93 (St.own' (Fa := [F54, F59, (is g2)]) (Fr := [(is g591), (is g470), (is g100), F48]) S599) t600 u601) ?_
        rintro hc612 _ w602 ⟨A608, c609, H603, rfl, h605, h606, b607, h610, l611, T604⟩
        refine ⟨_, rfl, ?_⟩
        obtain ⟨S613, K614⟩ := St.call (Fa := [F54, F59, (is g2)]) (Fr := [(is g591), (is g470), (is g100), F48]) S599 T604
        replace b592 := K614.blk 0 rfl b592
        replace b471 := K614.blk 1 rfl b471
        replace h109 := h109.move (K614.at 3 rfl)
        have E615 := T604.ext
        replace h109 := h109.ext E615
        refine ⟨⟨(Ext.trans E615 S613.inv), (fun b_ h_ => (K614.at 2 rfl b_ h_).trans (hs596.2 b_ h_))⟩, fun hs616 => ?_⟩
        have S619 := S613.pulls [F54, F59, (is g2), (is g591), (is g470), (is g100), F48] [2, 2, 2] rfl
        obtain ⟨t620, u621, M⟩ := bnd M
        refine xO 7 hc612 ?_
        refine yC 7 rfl (eC [.tmp 42, .tmp 44] [.pointer (some ⟨g2, 0, none⟩), .agg #[.int .i64 ((x45.getD (((IntKind.i64.wrap ((x45.length : Int) - 1))).toNat) z97).p1_.kind), .int .i64 ((x45.getD (((IntKind.i64.wrap ((x45.length : Int) - 1))).toNat) z97).p1_.n), .slice A95 ((x45.getD (((IntKind.i64.wrap ((x45.length : Int) - 1))).toNat) z97).p1_.text).length c96]] Try.func50) (impl_Store_deref_2.calls k69 w602 H603 (⟨x51, x56⟩ : Store) g2 A52 c53 F54 A57 c58 F59 ((x45.getD (((IntKind.i64.wrap ((x45.length : Int) - 1))).toNat) z97).p1_) A95 c96 h605 h606 b607 (h98.ext E615) l97 (St.own' (Fa := [F54, F59, (is g2)]) (Fr := [(is g591), (is g470), (is g100), F48]) S619) t620 u621) ?_
        rintro hc632 _ w622 ⟨A628, c629, H623, rfl, h625, h626, b627, h630, l631, T624⟩
        refine ⟨_, rfl, ?_⟩
        obtain ⟨S633, K634⟩ := St.call (Fa := [F54, F59, (is g2)]) (Fr := [(is g591), (is g470), (is g100), F48]) S619 T624
        replace b592 := K634.blk 0 rfl b592
        replace b471 := K634.blk 1 rfl b471
        replace h109 := h109.move (K634.at 3 rfl)
        have E635 := T624.ext
        replace h109 := h109.ext E635
        refine ⟨⟨(Ext.trans (E615.trans E635) S633.inv), (fun b_ h_ => (K634.at 2 rfl b_ h_).trans (hs616.2 b_ h_))⟩, fun hs636 => ?_⟩
        have S637 := S633.pulls [(is g470), F54, F59, (is g2), (is g591), (is g100), F48] [4] rfl
        refine xO 10 hc632 ?_
        refine yS 10 rfl (eSa g470 0 [.int .i64 t600.kind, .int .i64 t600.n, .slice A608 t600.text.length c609] S637 b471) ?_
        rintro hc642 w638 ⟨b639, S640, K641⟩
        replace h625 := h625.move (K641.at 0 rfl)
        replace h626 := h626.move (K641.at 1 rfl)
        replace b627 := K641.blk 2 rfl b627
        replace b592 := K641.blk 3 rfl b592
        replace h109 := h109.move (K641.at 5 rfl)
        refine ⟨⟨(Ext.trans (E615.trans E635) S640.inv), (fun b_ h_ => (K641.at 4 rfl b_ h_).trans (hs636.2 b_ h_))⟩, fun hs643 => ?_⟩
        clear b471
        have S644 := S640.pulls [(is g591), (is g470), F54, F59, (is g2), (is g100), F48] [4] rfl
        refine xO 11 hc642 ?_
        refine yS 11 rfl (eSa g591 0 [.int .i64 t620.kind, .int .i64 t620.n, .slice A628 t620.text.length c629] S644 b592) ?_
        rintro hc649 w645 ⟨b646, S647, K648⟩
        replace b639 := K648.blk 0 rfl b639
        replace h625 := h625.move (K648.at 1 rfl)
        replace h626 := h626.move (K648.at 2 rfl)
        replace b627 := K648.blk 3 rfl b627
        replace h109 := h109.move (K648.at 5 rfl)
        refine ⟨⟨(Ext.trans (E615.trans E635) S647.inv), (fun b_ h_ => (K648.at 4 rfl b_ h_).trans (hs643.2 b_ h_))⟩, fun hs650 => ?_⟩
        clear b592
        refine xn (by kernel_rfl) ?_ _
        have S655 := S647.pulls [(is g2), F48, F54, F59, (is g470), (is g591), (is g100)] [1, 3, 3, 6, 5] rfl
        have S656 := St.first (Fa := [(is g2), F48, F54, F59, (is g470), (is g591)]) (Fr := [(is g100)]) S655
        exact ⟨rfl, k69, (by omega), _, H623, g470, t600.kind, t600.n, t600.text, A608, c609, g591, t620.kind, t620.n, t620.text, A628, c629, rfl, (by exact e61), (by kernel_rfl), (by exact e63), (by kernel_rfl), (by kernel_rfl), b627, h109, h625, h626, b639, b646, (h610.ext E635), l611, h630, l631, (E615.trans E635), S656, M⟩
      refine yE 9 11 rfl (nB #[.int .i64 0, .int .i64 0, .slice none 0 0] 36 S144) ?_
      rintro hc662 _ w657 ⟨g658, rfl, b659, S660, K661⟩
      replace b3 := K661.blk 1 rfl b3
      replace h109 := h109.move (K661.at 2 rfl)
      replace h55 := h55.move (K661.at 3 rfl)
      replace h60 := h60.move (K661.at 4 rfl)
      refine ⟨⟨S660.inv, (fun b_ h_ => (K661.at 0 rfl b_ h_).trans (hs160.2 b_ h_))⟩, fun hs663 => ?_⟩
      refine xall [3, 8] (by kernel_rfl) (by decide) hc662 (List.forall_mem_cons.2 ⟨?_, List.forall_mem_cons.2 ⟨?_, fun _ h_ => by cases h_⟩⟩)
      · have S664 := S660.pull (F := (is g2)) (Fr := [(is g658), (is g100), F48, F54, F59]) 2 rfl rfl
        have S666 := S664.pulls [F54, F59, (is g2), (is g658), (is g100), F48] [5, 5] rfl
        obtain ⟨t667, u668, M⟩ := bnd M
        refine yC 3 rfl (eC [.tmp 38, .tmp 40] [.pointer (some ⟨g2, 0, none⟩), .agg #[.int .i64 ((x45.getD (((IntKind.i64.wrap ((x45.length : Int) - 1))).toNat) z97).p0_.kind), .int .i64 ((x45.getD (((IntKind.i64.wrap ((x45.length : Int) - 1))).toNat) z97).p0_.n), .slice A91 ((x45.getD (((IntKind.i64.wrap ((x45.length : Int) - 1))).toNat) z97).p0_.text).length c92]] Try.func50) (impl_Store_deref_2.calls k69 w657 H43 (⟨x51, x56⟩ : Store) g2 A52 c53 F54 A57 c58 F59 ((x45.getD (((IntKind.i64.wrap ((x45.length : Int) - 1))).toNat) z97).p0_) A91 c92 h55 h60 b3 h94 l93 (St.own' (Fa := [F54, F59, (is g2)]) (Fr := [(is g658), (is g100), F48]) S666) t667 u668) ?_
        rintro hc679 _ w669 ⟨A675, c676, H670, rfl, h672, h673, b674, h677, l678, T671⟩
        refine ⟨_, rfl, ?_⟩
        obtain ⟨S680, K681⟩ := St.call (Fa := [F54, F59, (is g2)]) (Fr := [(is g658), (is g100), F48]) S666 T671
        replace b659 := K681.blk 0 rfl b659
        replace h109 := h109.move (K681.at 2 rfl)
        have E682 := T671.ext
        replace h109 := h109.ext E682
        refine ⟨⟨(Ext.trans E682 S680.inv), (fun b_ h_ => (K681.at 1 rfl b_ h_).trans (hs663.2 b_ h_))⟩, fun hs683 => ?_⟩
        refine xall [7, 8] (by kernel_rfl) (by decide) hc679 (List.forall_mem_cons.2 ⟨?_, List.forall_mem_cons.2 ⟨?_, fun _ h_ => by cases h_⟩⟩)
        · have S684 := S680.pull (F := (is g2)) (Fr := [F54, F59, (is g658), (is g100), F48]) 2 rfl rfl
          have S686 := S684.pulls [F54, F59, (is g2), (is g658), (is g100), F48] [2, 2] rfl
          obtain ⟨t687, u688, M⟩ := bnd M
          refine yC 7 rfl (eC [.tmp 42, .tmp 44] [.pointer (some ⟨g2, 0, none⟩), .agg #[.int .i64 ((x45.getD (((IntKind.i64.wrap ((x45.length : Int) - 1))).toNat) z97).p1_.kind), .int .i64 ((x45.getD (((IntKind.i64.wrap ((x45.length : Int) - 1))).toNat) z97).p1_.n), .slice A95 ((x45.getD (((IntKind.i64.wrap ((x45.length : Int) - 1))).toNat) z97).p1_.text).length c96]] Try.func50) (impl_Store_deref_2.calls k69 w669 H670 (⟨x51, x56⟩ : Store) g2 A52 c53 F54 A57 c58 F59 ((x45.getD (((IntKind.i64.wrap ((x45.length : Int) - 1))).toNat) z97).p1_) A95 c96 h672 h673 b674 (h98.ext E682) l97 (St.own' (Fa := [F54, F59, (is g2)]) (Fr := [(is g658), (is g100), F48]) S686) t687 u688) ?_
          rintro hc699 _ w689 ⟨A695, c696, H690, rfl, h692, h693, b694, h697, l698, T691⟩
          refine ⟨_, rfl, ?_⟩
          obtain ⟨S700, K701⟩ := St.call (Fa := [F54, F59, (is g2)]) (Fr := [(is g658), (is g100), F48]) S686 T691
          replace b659 := K701.blk 0 rfl b659
          replace h109 := h109.move (K701.at 2 rfl)
          have E702 := T691.ext
          replace h109 := h109.ext E702
          refine ⟨⟨(Ext.trans (E682.trans E702) S700.inv), (fun b_ h_ => (K701.at 1 rfl b_ h_).trans (hs683.2 b_ h_))⟩, fun hs703 => ?_⟩
          refine xO 8 hc699 ?_
          refine yE 8 10 rfl (nB #[.int .i64 0, .int .i64 0, .slice none 0 0] 36 S700) ?_
          rintro hc709 _ w704 ⟨g705, rfl, b706, S707, K708⟩
          replace h692 := h692.move (K708.at 0 rfl)
          replace h693 := h693.move (K708.at 1 rfl)
          replace b694 := K708.blk 2 rfl b694
          replace b659 := K708.blk 3 rfl b659
          replace h109 := h109.move (K708.at 5 rfl)
          refine ⟨⟨(Ext.trans (E682.trans E702) S707.inv), (fun b_ h_ => (K708.at 4 rfl b_ h_).trans (hs703.2 b_ h_))⟩, fun hs710 => ?_⟩
          refine xO 10 hc709 ?_
          refine yS 10 rfl (eSa g705 0 [.int .i64 t667.kind, .int .i64 t667.n, .slice A675 t667.text.length c676] S707 b706) ?_
          rintro hc715 w711 ⟨b712, S713, K714⟩
          replace h692 := h692.move (K714.at 0 rfl)
          replace h693 := h693.move (K714.at 1 rfl)
          replace b694 := K714.blk 2 rfl b694
          replace b659 := K714.blk 3 rfl b659
          replace h109 := h109.move (K714.at 5 rfl)
          refine ⟨⟨(Ext.trans (E682.trans E702) S713.inv), (fun b_ h_ => (K714.at 4 rfl b_ h_).trans (hs710.2 b_ h_))⟩, fun hs716 => ?_⟩
          clear b706
          have S717 := S713.pulls [(is g658), (is g705), F54, F59, (is g2), (is g100), F48] [4] rfl
          refine xO 11 hc715 ?_
          refine yS 11 rfl (eSa g658 0 [.int .i64 t687.kind, .int .i64 t687.n, .slice A695 t687.text.length c696] S717 b659) ?_
          rintro hc722 w718 ⟨b719, S720, K721⟩
          replace b712 := K721.blk 0 rfl b712
          replace h692 := h692.move (K721.at 1 rfl)
          replace h693 := h693.move (K721.at 2 rfl)
          replace b694 := K721.blk 3 rfl b694
          replace h109 := h109.move (K721.at 5 rfl)
          refine ⟨⟨(Ext.trans (E682.trans E702) S720.inv), (fun b_ h_ => (K721.at 4 rfl b_ h_).trans (hs716.2 b_ h_))⟩, fun hs723 => ?_⟩
          clear b659
          refine xn (by kernel_rfl) ?_ _
          have S728 := S720.pulls [(is g2), F48, F54, F59, (is g705), (is g658), (is g100)] [1, 3, 3, 6, 5] rfl
          have S729 := St.first (Fa := [(is g2), F48, F54, F59, (is g705), (is g658)]) (Fr := [(is g100)]) S728
          exact ⟨rfl, k69, (by omega), _, H690, g705, t667.kind, t667.n, t667.text, A675, c676, g658, t687.kind, t687.n, t687.text, A695, c696, rfl, (by exact e61), (by kernel_rfl), (by exact e63), (by kernel_rfl), (by kernel_rfl), b694, h109, h692, h693, b712, b719, (h677.ext E702), l678, h697, l698, (E682.trans E702), S729, M⟩
        refine yE 8 10 rfl (nB #[.int .i64 0, .int .i64 0, .slice none 0 0] 36 S680) ?_
        rintro hc735 _ w730 ⟨g731, rfl, b732, S733, K734⟩
        replace h672 := h672.move (K734.at 0 rfl)
        replace h673 := h673.move (K734.at 1 rfl)
        replace b674 := K734.blk 2 rfl b674
        replace b659 := K734.blk 3 rfl b659
        replace h109 := h109.move (K734.at 5 rfl)
        refine ⟨⟨(Ext.trans E682 S733.inv), (fun b_ h_ => (K734.at 4 rfl b_ h_).trans (hs683.2 b_ h_))⟩, fun hs736 => ?_⟩
        have S739 := S733.pulls [F54, F59, (is g2), (is g731), (is g658), (is g100), F48] [3, 3, 3] rfl
        obtain ⟨t740, u741, M⟩ := bnd M
        refine xO 7 hc735 ?_
        refine yC 7 rfl (eC [.tmp 42, .tmp 44] [.pointer (some ⟨g2, 0, none⟩), .agg #[.int .i64 ((x45.getD (((IntKind.i64.wrap ((x45.length : Int) - 1))).toNat) z97).p1_.kind), .int .i64 ((x45.getD (((IntKind.i64.wrap ((x45.length : Int) - 1))).toNat) z97).p1_.n), .slice A95 ((x45.getD (((IntKind.i64.wrap ((x45.length : Int) - 1))).toNat) z97).p1_.text).length c96]] Try.func50) (impl_Store_deref_2.calls k69 w730 H670 (⟨x51, x56⟩ : Store) g2 A52 c53 F54 A57 c58 F59 ((x45.getD (((IntKind.i64.wrap ((x45.length : Int) - 1))).toNat) z97).p1_) A95 c96 h672 h673 b674 (h98.ext E682) l97 (St.own' (Fa := [F54, F59, (is g2)]) (Fr := [(is g731), (is g658), (is g100), F48]) S739) t740 u741) ?_
        rintro hc752 _ w742 ⟨A748, c749, H743, rfl, h745, h746, b747, h750, l751, T744⟩
        refine ⟨_, rfl, ?_⟩
        obtain ⟨S753, K754⟩ := St.call (Fa := [F54, F59, (is g2)]) (Fr := [(is g731), (is g658), (is g100), F48]) S739 T744
        replace b732 := K754.blk 0 rfl b732
        replace b659 := K754.blk 1 rfl b659
        replace h109 := h109.move (K754.at 3 rfl)
        have E755 := T744.ext
        replace h109 := h109.ext E755
        refine ⟨⟨(Ext.trans (E682.trans E755) S753.inv), (fun b_ h_ => (K754.at 2 rfl b_ h_).trans (hs736.2 b_ h_))⟩, fun hs756 => ?_⟩
        have S757 := S753.pulls [(is g731), F54, F59, (is g2), (is g658), (is g100), F48] [3] rfl
        refine xO 10 hc752 ?_
        refine yS 10 rfl (eSa g731 0 [.int .i64 t667.kind, .int .i64 t667.n, .slice A675 t667.text.length c676] S757 b732) ?_
        rintro hc762 w758 ⟨b759, S760, K761⟩
        replace h745 := h745.move (K761.at 0 rfl)
        replace h746 := h746.move (K761.at 1 rfl)
        replace b747 := K761.blk 2 rfl b747
        replace b659 := K761.blk 3 rfl b659
        replace h109 := h109.move (K761.at 5 rfl)
        refine ⟨⟨(Ext.trans (E682.trans E755) S760.inv), (fun b_ h_ => (K761.at 4 rfl b_ h_).trans (hs756.2 b_ h_))⟩, fun hs763 => ?_⟩
        clear b732
        have S764 := S760.pulls [(is g658), (is g731), F54, F59, (is g2), (is g100), F48] [4] rfl
        refine xO 11 hc762 ?_
        refine yS 11 rfl (eSa g658 0 [.int .i64 t740.kind, .int .i64 t740.n, .slice A748 t740.text.length c749] S764 b659) ?_
        rintro hc769 w765 ⟨b766, S767, K768⟩
        replace b759 := K768.blk 0 rfl b759
        replace h745 := h745.move (K768.at 1 rfl)
        replace h746 := h746.move (K768.at 2 rfl)
        replace b747 := K768.blk 3 rfl b747
        replace h109 := h109.move (K768.at 5 rfl)
        refine ⟨⟨(Ext.trans (E682.trans E755) S767.inv), (fun b_ h_ => (K768.at 4 rfl b_ h_).trans (hs763.2 b_ h_))⟩, fun hs770 => ?_⟩
        clear b659
        refine xn (by kernel_rfl) ?_ _
        have S775 := S767.pulls [(is g2), F48, F54, F59, (is g731), (is g658), (is g100)] [1, 3, 3, 6, 5] rfl
        have S776 := St.first (Fa := [(is g2), F48, F54, F59, (is g731), (is g658)]) (Fr := [(is g100)]) S775
        exact ⟨rfl, k69, (by omega), _, H743, g731, t667.kind, t667.n, t667.text, A675, c676, g658, t740.kind, t740.n, t740.text, A748, c749, rfl, (by exact e61), (by kernel_rfl), (by exact e63), (by kernel_rfl), (by kernel_rfl), b747, h109, h745, h746, b759, b766, (h677.ext E755), l678, h750, l751, (E682.trans E755), S776, M⟩
      refine yE 8 10 rfl (nB #[.int .i64 0, .int .i64 0, .slice none 0 0] 36 S660) ?_
      rintro hc782 _ w777 ⟨g778, rfl, b779, S780, K781⟩
      replace b659 := K781.blk 0 rfl b659
      replace b3 := K781.blk 2 rfl b3
      replace h109 := h109.move (K781.at 3 rfl)
      replace h55 := h55.move (K781.at 4 rfl)
      replace h60 := h60.move (K781.at 5 rfl)
      refine ⟨⟨S780.inv, (fun b_ h_ => (K781.at 1 rfl b_ h_).trans (hs663.2 b_ h_))⟩, fun hs783 => ?_⟩
      have S786 := S780.pulls [F54, F59, (is g2), (is g778), (is g658), (is g100), F48] [3, 6, 6] rfl
      obtain ⟨t787, u788, M⟩ := bnd M
      refine xO 3 hc782 ?_
      refine yC 3 rfl (eC [.tmp 38, .tmp 40] [.pointer (some ⟨g2, 0, none⟩), .agg #[.int .i64 ((x45.getD (((IntKind.i64.wrap ((x45.length : Int) - 1))).toNat) z97).p0_.kind), .int .i64 ((x45.getD (((IntKind.i64.wrap ((x45.length : Int) - 1))).toNat) z97).p0_.n), .slice A91 ((x45.getD (((IntKind.i64.wrap ((x45.length : Int) - 1))).toNat) z97).p0_.text).length c92]] Try.func50) (impl_Store_deref_2.calls k69 w777 H43 (⟨x51, x56⟩ : Store) g2 A52 c53 F54 A57 c58 F59 ((x45.getD (((IntKind.i64.wrap ((x45.length : Int) - 1))).toNat) z97).p0_) A91 c92 h55 h60 b3 h94 l93 (St.own' (Fa := [F54, F59, (is g2)]) (Fr := [(is g778), (is g658), (is g100), F48]) S786) t787 u788) ?_
      rintro hc799 _ w789 ⟨A795, c796, H790, rfl, h792, h793, b794, h797, l798, T791⟩
      refine ⟨_, rfl, ?_⟩
      obtain ⟨S800, K801⟩ := St.call (Fa := [F54, F59, (is g2)]) (Fr := [(is g778), (is g658), (is g100), F48]) S786 T791
      replace b779 := K801.blk 0 rfl b779
      replace b659 := K801.blk 1 rfl b659
      replace h109 := h109.move (K801.at 3 rfl)
      have E802 := T791.ext
      replace h109 := h109.ext E802
      refine ⟨⟨(Ext.trans E802 S800.inv), (fun b_ h_ => (K801.at 2 rfl b_ h_).trans (hs783.2 b_ h_))⟩, fun hs803 => ?_⟩
      have S806 := S800.pulls [F54, F59, (is g2), (is g778), (is g658), (is g100), F48] [2, 2, 2] rfl
      obtain ⟨t807, u808, M⟩ := bnd M
      refine xO 7 hc799 ?_
      refine yC 7 rfl (eC [.tmp 42, .tmp 44] [.pointer (some ⟨g2, 0, none⟩), .agg #[.int .i64 ((x45.getD (((IntKind.i64.wrap ((x45.length : Int) - 1))).toNat) z97).p1_.kind), .int .i64 ((x45.getD (((IntKind.i64.wrap ((x45.length : Int) - 1))).toNat) z97).p1_.n), .slice A95 ((x45.getD (((IntKind.i64.wrap ((x45.length : Int) - 1))).toNat) z97).p1_.text).length c96]] Try.func50) (impl_Store_deref_2.calls k69 w789 H790 (⟨x51, x56⟩ : Store) g2 A52 c53 F54 A57 c58 F59 ((x45.getD (((IntKind.i64.wrap ((x45.length : Int) - 1))).toNat) z97).p1_) A95 c96 h792 h793 b794 (h98.ext E802) l97 (St.own' (Fa := [F54, F59, (is g2)]) (Fr := [(is g778), (is g658), (is g100), F48]) S806) t807 u808) ?_
      rintro hc819 _ w809 ⟨A815, c816, H810, rfl, h812, h813, b814, h817, l818, T811⟩
      refine ⟨_, rfl, ?_⟩
      obtain ⟨S820, K821⟩ := St.call (Fa := [F54, F59, (is g2)]) (Fr := [(is g778), (is g658), (is g100), F48]) S806 T811
      replace b779 := K821.blk 0 rfl b779
      replace b659 := K821.blk 1 rfl b659
      replace h109 := h109.move (K821.at 3 rfl)
      have E822 := T811.ext
      replace h109 := h109.ext E822
      refine ⟨⟨(Ext.trans (E802.trans E822) S820.inv), (fun b_ h_ => (K821.at 2 rfl b_ h_).trans (hs803.2 b_ h_))⟩, fun hs823 => ?_⟩
      have S824 := S820.pulls [(is g778), F54, F59, (is g2), (is g658), (is g100), F48] [3] rfl
      refine xO 10 hc819 ?_
      refine yS 10 rfl (eSa g778 0 [.int .i64 t787.kind, .int .i64 t787.n, .slice A795 t787.text.length c796] S824 b779) ?_
      rintro hc829 w825 ⟨b826, S827, K828⟩
      replace h812 := h812.move (K828.at 0 rfl)
      replace h813 := h813.move (K828.at 1 rfl)
      replace b814 := K828.blk 2 rfl b814
      replace b659 := K828.blk 3 rfl b659
      replace h109 := h109.move (K828.at 5 rfl)
      refine ⟨⟨(Ext.trans (E802.trans E822) S827.inv), (fun b_ h_ => (K828.at 4 rfl b_ h_).trans (hs823.2 b_ h_))⟩, fun hs830 => ?_⟩
      clear b779
      have S831 := S827.pulls [(is g658), (is g778), F54, F59, (is g2), (is g100), F48] [4] rfl
      refine xO 11 hc829 ?_
      refine yS 11 rfl (eSa g658 0 [.int .i64 t807.kind, .int .i64 t807.n, .slice A815 t807.text.length c816] S831 b659) ?_
      rintro hc836 w832 ⟨b833, S834, K835⟩
      replace b826 := K835.blk 0 rfl b826
      replace h812 := h812.move (K835.at 1 rfl)
      replace h813 := h813.move (K835.at 2 rfl)
      replace b814 := K835.blk 3 rfl b814
      replace h109 := h109.move (K835.at 5 rfl)
      refine ⟨⟨(Ext.trans (E802.trans E822) S834.inv), (fun b_ h_ => (K835.at 4 rfl b_ h_).trans (hs830.2 b_ h_))⟩, fun hs837 => ?_⟩
      clear b659
      refine xn (by kernel_rfl) ?_ _
      have S842 := S834.pulls [(is g2), F48, F54, F59, (is g778), (is g658), (is g100)] [1, 3, 3, 6, 5] rfl
      have S843 := St.first (Fa := [(is g2), F48, F54, F59, (is g778), (is g658)]) (Fr := [(is g100)]) S842
      exact ⟨rfl, k69, (by omega), _, H810, g778, t787.kind, t787.n, t787.text, A795, c796, g658, t807.kind, t807.n, t807.text, A815, c816, rfl, (by exact e61), (by kernel_rfl), (by exact e63), (by kernel_rfl), (by kernel_rfl), b814, h109, h812, h813, b826, b833, (h797.ext E822), l798, h817, l818, (E802.trans E822), S843, M⟩
    clear M
    rintro a140 w110 ⟨k142, z1302, f111, H112, g114, x116, x117, x118, A119, c120, g123, x125, x126, x127, A128, c129, rfl, e132, e133, e134, e135, e136, b3, h109, h55, h60, b115, b124, h121, l122, h130, l131, Y113, S137, M⟩
    rcases k142 with _ | k141
    · rw [impl_Store_unify_2.l1] at M
      cases M
    rw [impl_Store_unify_2.l1] at M
    refine then_n ?_
    refine wp_seq_cut (fun a868 w844 => ∃ (k870 : Nat), k870 ≤ k141 ∧ ∃ (f845 : Nat → Value) (x846 : Int) (x847 : Int) (x848 : List UInt8) (A849 : Option Addr) (c850 : Nat) (x853 : Int) (x854 : Int) (x855 : List UInt8) (A856 : Option Addr) (c857 : Nat), a868 = mk 142 f845 ∧ f845 0 = .pointer (some ⟨g2, 0, none⟩) ∧ f845 7 = .slice A46 ((x45.take (((IntKind.i64.wrap ((x45.length : Int) - 1)) : Int).toNat)).length) c47 ∧ f845 8 = .int .i64 x50 ∧ f845 10 = .pointer (some ⟨g114, 0, none⟩) ∧ f845 11 = .pointer (some ⟨g123, 0, none⟩) ∧ w844.heap[g2]? = some (.cells #[.slice A52 x51.length c53, .slice A57 x56.length c58] 34 (0, 0)) ∧ Row (ro st97) 97 H112 (hp w844) F48 A46 c47 (x45.take (((IntKind.i64.wrap ((x45.length : Int) - 1)) : Int).toNat)) ∧ Row (ro st36) 36 H112 (hp w844) F54 A52 c53 x51 ∧ Row tInt 3 H112 (hp w844) F59 A57 c58 x56 ∧ w844.heap[g114]? = some (.cells #[.int .i64 x846, .int .i64 x847, .slice A849 x848.length c850] 36 (0, 0)) ∧ w844.heap[g123]? = some (.cells #[.int .i64 x853, .int .i64 x854, .slice A856 x855.length c857] 36 (0, 0)) ∧ Rd tByte H112 A849 x848 ∧ x848.length ≤ c850 ∧ Rd tByte H112 A856 x855 ∧ x855.length ≤ c857 ∧ St (anyOf [F7, F11, (is g2)]) H w [(is g2), F48, F54, F59, (is g114), (is g123)] H112 w844 ∧ impl_Store_unify_2.l2 k870 x45 x50 x51 x56 x846 x847 x848 x853 x854 x855 = some r) ?_ ?_
    · refine wp_seq (wR (lV 46 (eD g123 0 0 1 Try.underlying36 (by exact e136)) (lV 47 (eL ⟨g123, 0 + 0, none⟩ (.int .i64 x125) Try.underlying3 (blk_cell b124 rfl)) (lV 48 (eEq .i64 x125 0) (lV 49 (eM (.bool (decide (x125 = 0)))) ?_)))))
      by_cases q871 : x125 = 0
      · replace M := ifp q871 M
        refine lG 50 49 (bT q871) (eD g114 0 0 1 Try.underlying36 (by exact e135)) (lG 51 49 (bT q871) (eL ⟨g114, 0 + 0, none⟩ (.int .i64 x116) Try.underlying3 (blk_cell b115 rfl)) (lG 52 49 (bT q871) (eNe .i64 x116 0) (lV 53 (eT (.bool (decide (x116 ≠ 0))) (bT q871)) (wN (then_n ?_)))))
        by_cases q872 : x116 ≠ 0
        · replace M := ifp q872 M
          refine cT (bT q872) (wR (lV 54 (e_loadS (b := g123) (off := 0) (cs := [.int .i64 x125, .int .i64 x126, .slice A128 x127.length c129]) Try.underlying36 rfl (by kernel_rfl) (by exact e136) (blk_cells b124 rfl)) (lV 55 (e_loadS (b := g114) (off := 0) (cs := [.int .i64 x116, .int .i64 x117, .slice A119 x118.length c120]) Try.underlying36 rfl (by kernel_rfl) (by exact e135) (blk_cells b115 rfl)) ?_)))
          have S873 := S137.pulls [(is g114), (is g2), F48, F54, F59, (is g123)] [4] rfl
          refine lE (eSa g114 0 [.int .i64 x125, .int .i64 x126, .slice A128 x127.length c129] S873 b115 (by exact e135)) ?_
          rintro w874 ⟨b875, S876, K877⟩
          replace b3 := K877.blk 0 rfl b3
          replace h109 := h109.move (K877.at 1 rfl)
          replace h55 := h55.move (K877.at 2 rfl)
          replace h60 := h60.move (K877.at 3 rfl)
          replace b124 := K877.blk 4 rfl b124
          clear b115
          have S878 := S876.pulls [(is g123), (is g114), (is g2), F48, F54, F59] [5] rfl
          refine lE (eSa g123 0 [.int .i64 x116, .int .i64 x117, .slice A119 x118.length c120] S878 b124 (by exact e136)) ?_
          rintro w879 ⟨b880, S881, K882⟩
          replace b875 := K882.blk 0 rfl b875
          replace b3 := K882.blk 1 rfl b3
          replace h109 := h109.move (K882.at 2 rfl)
          replace h55 := h55.move (K882.at 3 rfl)
          replace h60 := h60.move (K882.at 4 rfl)
          clear b124
          refine wN (then_n ?_)
          have S887 := S881.pulls [(is g2), F48, F54, F59, (is g114), (is g123)] [1, 5, 5, 5, 5] rfl
          exact ⟨k141, (by omega), _, x125, x126, x127, A128, c129, x116, x117, x118, A119, c120, rfl, (by exact e132), (by exact e133), (by exact e134), (by exact e135), (by exact e136), b3, h109, h55, h60, b875, b880, h130, l131, h121, l122, S887, M⟩
        replace M := ifn q872 M
        refine cF (bF q872) (wp_skip (then_n ?_))
        exact ⟨k141, (by omega), _, x116, x117, x118, A119, c120, x125, x126, x127, A128, c129, rfl, (by exact e132), (by exact e133), (by exact e134), (by exact e135), (by exact e136), b3, h109, h55, h60, b115, b124, h121, l122, h130, l131, S137, M⟩
      replace M := ifn q871 M
      refine lK 49 false (bF q871) ?_
      refine lK 49 false (bF q871) ?_
      refine lK 49 false (bF q871) ?_
      refine lV 53 (eF (.bool false) (bF q871)) (wN (then_n (cond_f rfl (by kernel_rfl) (wp_skip (then_n ?_)))))
      exact ⟨k141, (by omega), _, x116, x117, x118, A119, c120, x125, x126, x127, A128, c129, rfl, (by exact e132), (by exact e133), (by exact e134), (by exact e135), (by exact e136), b3, h109, h55, h60, b115, b124, h121, l122, h130, l131, S137, M⟩
    clear M
    rintro a868 w844 ⟨k870, z1301, f845, x846, x847, x848, A849, c850, x853, x854, x855, A856, c857, rfl, e860, e861, e862, e863, e864, b3, h109, h55, h60, b115, b124, h851, l852, h858, l859, S865, M⟩
    rcases k870 with _ | k869
    · rw [impl_Store_unify_2.l2] at M
      cases M
    rw [impl_Store_unify_2.l2] at M
    refine wp_block (wp_seq (wR (lV 107 (eD g114 0 0 1 Try.underlying36 (by exact e863)) (lV 108 (eL ⟨g114, 0 + 0, none⟩ (.int .i64 x846) Try.underlying3 (blk_cell b115 rfl)) (lV 109 (eEq .i64 x846 0) (lV 106 (eA (.bool (decide (x846 = 0)))) (wN ?_)))))))
    refine then_n ?_
    by_cases q888 : x846 = 0
    · replace M := ifp q888 M
      refine cT (bT q888) (wp_seq (wp_seq (wR (lV 110 (eD g123 0 0 1 Try.underlying36 (by exact e864)) (lV 111 (eL ⟨g123, 0 + 0, none⟩ (.int .i64 x853) Try.underlying3 (blk_cell b124 rfl)) (lV 112 (eEq .i64 x853 0) (lV 113 (eM (.bool (decide (x853 = 0)))) ?_)))))))
      by_cases q889 : x853 = 0
      · replace M := ifp q889 M
        refine lG 114 113 (bT q889) (eD g114 0 1 1 Try.underlying36 (by exact e863)) (lG 115 113 (bT q889) (eL ⟨g114, 0 + 1, none⟩ (.int .i64 x847) Try.underlying3 (blk_cell b115 rfl)) (lG 116 113 (bT q889) (eD g123 0 1 1 Try.underlying36 (by exact e864)) (lG 117 113 (bT q889) (eL ⟨g123, 0 + 1, none⟩ (.int .i64 x854) Try.underlying3 (blk_cell b124 rfl)) (lG 118 113 (bT q889) (eEq .i64 x847 x854) (lV 119 (eT (.bool (decide (x847 = x854))) (bT q889)) (wN (then_n ?_)))))))
        by_cases q890 : x847 = x854
        · replace M := ifp q890 M
          refine cT (bT q890) (wp_exit (then_e (inb_miss rfl (inb_hit (then_n (wR (lV 23 (eM (.int .i64 x50) (by exact e862)) ?_)))))))
          refine lV 24 (eAdd .i64 x50 1) (lV 8 (eA (.int .i64 (IntKind.i64.wrap (x50 + 1)))) (wN (then_n ?_)))
          have S894 := S865.pulls [(is g2), F48, F54, F59, (is g114), (is g123)] [3, 3, 3, 3] rfl
          have S895 := St.first (Fa := [(is g2), F48, F54, F59]) (Fr := [(is g114), (is g123)]) S894
          exact ⟨k869, (by omega), _, H112, (x45.take (((IntKind.i64.wrap ((x45.length : Int) - 1)) : Int).toNat)), A46, c47, F48, (IntKind.i64.wrap (x50 + 1)), x51, A52, c53, F54, x56, A57, c58, F59, rfl, (by exact e860), (by exact e861), (by kernel_rfl), b3, h109, h55, h60, (Y44.trans Y113), S895, M⟩
        replace M := ifn q890 M
        refine cF (bF q890) (wp_skip (then_n (wp_seq (wR (lV 120 (eM (.pointer (some ⟨g2, 0, none⟩)) (by exact e860)) (lV 121 (eD g114 0 1 1 Try.underlying36 (by exact e863)) (lV 122 (eL ⟨g114, 0 + 1, none⟩ (.int .i64 x847) Try.underlying3 (blk_cell b115 rfl)) ?_)))))))
        refine lV 123 (e_loadS (b := g123) (off := 0) (cs := [.int .i64 x853, .int .i64 x854, .slice A856 x855.length c857]) Try.underlying36 rfl (by kernel_rfl) (by exact e864) (blk_cells b124 rfl)) ?_
        have S897 := S865.pulls [F54, F59, (is g2), F48, (is g114), (is g123)] [3, 3] rfl
        obtain ⟨t898, u899, M⟩ := bnd M
        refine lC 124 (eC [.tmp 120, .tmp 122, .tmp 123] [.pointer (some ⟨g2, 0, none⟩), .int .i64 x847, .agg #[.int .i64 x853, .int .i64 x854, .slice A856 x855.length c857]] Try.func62) (impl_Store_bind_2.calls k869 w844 H112 (⟨x51, x56⟩ : Store) g2 A52 c53 F54 A57 c58 F59 x847 (⟨x853, x854, x855⟩ : Cell) A856 c857 h55 h60 b3 h858 l859 (St.own' (Fa := [F54, F59, (is g2)]) (Fr := [F48, (is g114), (is g123)]) S897) t898 u899) ?_
        rintro _ w900 ⟨A903, c904, F906, A907, c908, F910, H901, rfl, h905, h909, b911, T902⟩
        refine ⟨_, rfl, ?_⟩
        obtain ⟨S912, K913⟩ := St.call (Fa := [F54, F59, (is g2)]) (Fr := [F48, (is g114), (is g123)]) S897 T902
        replace h109 := h109.move (K913.at 0 rfl)
        have E914 := T902.ext
        replace h109 := h109.ext E914
        refine lV 12 (eA (.int .i64 t898.1)) (wN (then_n (wp_seq (wR (lV 125 (eM (.int .i64 t898.1)) (lV 126 (eNe .i64 t898.1 0) (wN ?_)))))))
        refine then_n ?_
        by_cases q915 : t898.1 ≠ 0
        · replace M := ifp q915 M
          refine cT (bT q915) (wp_seq (wR (lV 127 (eM (.int .i64 t898.1)) (lV 6 (eA (.int .i64 t898.1)) (wN (then_n (wp_ret ?_)))))))
          refine inb_r (inb_r (then_r (then_r (inb_r (then_r ?_)))))
          obtain rfl := Option.some.inj M
          have S918 := S912.pulls [(is g2), F906, F910, F48, (is g114), (is g123)] [2, 2, 2] rfl
          have S919 := St.first (Fa := [(is g2), F906, F910]) (Fr := [F48, (is g114), (is g123)]) S918
          exact ret1 rfl rfl  (show _ = .int .i64 t898.1 from (by kernel_rfl)) ⟨A903, c904, F906, A907, c908, F910, H901, rfl, h905, h909, b911, S919⟩
        replace M := ifn q915 M
        refine cF (bF q915) (wp_skip (inb_n (inb_n (then_n (wR (lV 23 (eM (.int .i64 x50) (by exact e862)) (lV 24 (eAdd .i64 x50 1) ?_)))))))
        refine lV 8 (eA (.int .i64 (IntKind.i64.wrap (x50 + 1)))) (wN (then_n ?_))
        have S923 := S912.pulls [(is g2), F48, F906, F910, (is g114), (is g123)] [2, 2, 3, 3] rfl
        have S924 := St.first (Fa := [(is g2), F48, F906, F910]) (Fr := [(is g114), (is g123)]) S923
        exact ⟨k869, (by omega), _, H901, (x45.take (((IntKind.i64.wrap ((x45.length : Int) - 1)) : Int).toNat)), A46, c47, F48, (IntKind.i64.wrap (x50 + 1)), t898.2.cells, A903, c904, F906, t898.2.trail, A907, c908, F910, rfl, (by exact e860), (by exact e861), (by kernel_rfl), b911, h109, h905, h909, ((Y44.trans Y113).trans E914), S924, M⟩
      replace M := ifn q889 M
      refine lK 113 false (bF q889) ?_
      refine lK 113 false (bF q889) ?_
      refine lK 113 false (bF q889) ?_
      refine lK 113 false (bF q889) ?_
      refine lK 113 false (bF q889) ?_
      refine lV 119 (eF (.bool false) (bF q889)) (wN (then_n (cond_f rfl (by kernel_rfl) (wp_skip (then_n (wp_seq (wR ?_)))))))
      refine lV 120 (eM (.pointer (some ⟨g2, 0, none⟩)) (by exact e860)) (lV 121 (eD g114 0 1 1 Try.underlying36 (by exact e863)) (lV 122 (eL ⟨g114, 0 + 1, none⟩ (.int .i64 x847) Try.underlying3 (blk_cell b115 rfl)) (lV 123 (e_loadS (b := g123) (off := 0) (cs := [.int .i64 x853, .int .i64 x854, .slice A856 x855.length c857]) Try.underlying36 rfl (by kernel_rfl) (by exact e864) (blk_cells b124 rfl)) ?_)))
      have S926 := S865.pulls [F54, F59, (is g2), F48, (is g114), (is g123)] [3, 3] rfl
      obtain ⟨t927, u928, M⟩ := bnd M
      refine lC 124 (eC [.tmp 120, .tmp 122, .tmp 123] [.pointer (some ⟨g2, 0, none⟩), .int .i64 x847, .agg #[.int .i64 x853, .int .i64 x854, .slice A856 x855.length c857]] Try.func62) (impl_Store_bind_2.calls k869 w844 H112 (⟨x51, x56⟩ : Store) g2 A52 c53 F54 A57 c58 F59 x847 (⟨x853, x854, x855⟩ : Cell) A856 c857 h55 h60 b3 h858 l859 (St.own' (Fa := [F54, F59, (is g2)]) (Fr := [F48, (is g114), (is g123)]) S926) t927 u928) ?_
      rintro _ w929 ⟨A932, c933, F935, A936, c937, F939, H930, rfl, h934, h938, b940, T931⟩
      refine ⟨_, rfl, ?_⟩
      obtain ⟨S941, K942⟩ := St.call (Fa := [F54, F59, (is g2)]) (Fr := [F48, (is g114), (is g123)]) S926 T931
      replace h109 := h109.move (K942.at 0 rfl)
      have E943 := T931.ext
      replace h109 := h109.ext E943
      refine lV 12 (eA (.int .i64 t927.1)) (wN (then_n (wp_seq (wR (lV 125 (eM (.int .i64 t927.1)) (lV 126 (eNe .i64 t927.1 0) (wN ?_)))))))
      refine then_n ?_
      by_cases q944 : t927.1 ≠ 0
      · replace M := ifp q944 M
        refine cT (bT q944) (wp_seq (wR (lV 127 (eM (.int .i64 t927.1)) (lV 6 (eA (.int .i64 t927.1)) (wN (then_n (wp_ret ?_)))))))
        refine inb_r (inb_r (then_r (then_r (inb_r (then_r ?_)))))
        obtain rfl := Option.some.inj M
        have S947 := S941.pulls [(is g2), F935, F939, F48, (is g114), (is g123)] [2, 2, 2] rfl
        have S948 := St.first (Fa := [(is g2), F935, F939]) (Fr := [F48, (is g114), (is g123)]) S947
        exact ret1 rfl rfl  (show _ = .int .i64 t927.1 from (by kernel_rfl)) ⟨A932, c933, F935, A936, c937, F939, H930, rfl, h934, h938, b940, S948⟩
      replace M := ifn q944 M
      refine cF (bF q944) (wp_skip (inb_n (inb_n (then_n (wR (lV 23 (eM (.int .i64 x50) (by exact e862)) (lV 24 (eAdd .i64 x50 1) ?_)))))))
      refine lV 8 (eA (.int .i64 (IntKind.i64.wrap (x50 + 1)))) (wN (then_n ?_))
      have S952 := S941.pulls [(is g2), F48, F935, F939, (is g114), (is g123)] [2, 2, 3, 3] rfl
      have S953 := St.first (Fa := [(is g2), F48, F935, F939]) (Fr := [(is g114), (is g123)]) S952
      exact ⟨k869, (by omega), _, H930, (x45.take (((IntKind.i64.wrap ((x45.length : Int) - 1)) : Int).toNat)), A46, c47, F48, (IntKind.i64.wrap (x50 + 1)), t927.2.cells, A932, c933, F935, t927.2.trail, A936, c937, F939, rfl, (by exact e860), (by exact e861), (by kernel_rfl), b940, h109, h934, h938, ((Y44.trans Y113).trans E943), S953, M⟩
    replace M := ifn q888 M
    refine cF (bF q888) (wp_seq (wR (lV 129 (eD g114 0 0 1 Try.underlying36 (by exact e863)) (lV 130 (eL ⟨g114, 0 + 0, none⟩ (.int .i64 x846) Try.underlying3 (blk_cell b115 rfl)) (lV 131 (eD g123 0 0 1 Try.underlying36 (by exact e864)) (lV 132 (eL ⟨g123, 0 + 0, none⟩ (.int .i64 x853) Try.underlying3 (blk_cell b124 rfl)) (lV 133 (eNe .i64 x846 x853) ?_)))))))
    refine lV 128 (eA (.bool (decide (x846 ≠ x853)))) (wN (then_n ?_))
    by_cases q954 : x846 ≠ x853
    · replace M := ifp q954 M
      refine cT (bT q954) (wp_seq (wR (lV 6 (eA (.int .i64 4)) (wN (then_n (wp_ret (inb_r ?_)))))))
      refine inb_r (then_r (then_r (inb_r (then_r ?_))))
      obtain rfl := Option.some.inj M
      have S957 := S865.pulls [(is g2), F54, F59, F48, (is g114), (is g123)] [3, 3, 2] rfl
      have S958 := St.first (Fa := [(is g2), F54, F59]) (Fr := [F48, (is g114), (is g123)]) S957
      exact ret1 rfl rfl  (show _ = .int .i64 4 from (by kernel_rfl)) ⟨A52, c53, F54, A57, c58, F59, H112, rfl, h55, h60, b3, S958⟩
    replace M := ifn q954 M
    refine cF (bF q954) (wp_seq (wR (lV 135 (eD g114 0 0 1 Try.underlying36 (by exact e863)) (lV 136 (eL ⟨g114, 0 + 0, none⟩ (.int .i64 x846) Try.underlying3 (blk_cell b115 rfl)) (lV 137 (eNe .i64 x846 4) (lV 134 (eA (.bool (decide (x846 ≠ 4)))) (wN ?_)))))))
    refine then_n ?_
    by_cases q959 : x846 ≠ 4
    · replace M := ifp q959 M
      refine cT (bT q959) (wp_seq (wR (lV 138 (e_loadS (b := g114) (off := 0) (cs := [.int .i64 x846, .int .i64 x847, .slice A849 x848.length c850]) Try.underlying36 rfl (by kernel_rfl) (by exact e863) (blk_cells b115 rfl)) (lV 139 (e_loadS (b := g123) (off := 0) (cs := [.int .i64 x853, .int .i64 x854, .slice A856 x855.length c857]) Try.underlying36 rfl (by kernel_rfl) (by exact e864) (blk_cells b124 rfl)) ?_))))
      obtain ⟨t960, u961, M⟩ := bnd M
      refine lC 140 (eC [.tmp 138, .tmp 139] [.agg #[.int .i64 x846, .int .i64 x847, .slice A849 x848.length c850], .agg #[.int .i64 x853, .int .i64 x854, .slice A856 x855.length c857]] Try.func73) (impl_sameCell.calls w844 H112 (⟨x846, x847, x848⟩ : Cell) A849 c850 (⟨x853, x854, x855⟩ : Cell) A856 c857 h851 l852 h858 l859 S865.own0 t960 u961) ?_
      rintro _ w962 ⟨rfl, C963⟩
      refine ⟨_, rfl, ?_⟩
      obtain ⟨S964, K965⟩ := S865.still C963
      replace b3 := K965.blk 0 rfl b3
      replace h109 := h109.move (K965.at 1 rfl)
      replace h55 := h55.move (K965.at 2 rfl)
      replace h60 := h60.move (K965.at 3 rfl)
      refine lV 141 (e_notv (c := t960) (by kernel_rfl)) (wN (then_n ?_))
      by_cases q966 : ¬ (t960 = true)
      · replace M := ifp q966 M
        refine cT (bT q966) (wp_seq (wR (lV 6 (eA (.int .i64 4)) (wN (then_n (wp_ret (inb_r ?_)))))))
        refine inb_r (then_r (then_r (inb_r (then_r ?_))))
        obtain rfl := Option.some.inj M
        have S969 := S964.pulls [(is g2), F54, F59, F48, (is g114), (is g123)] [3, 3, 2] rfl
        have S970 := St.first (Fa := [(is g2), F54, F59]) (Fr := [F48, (is g114), (is g123)]) S969
        exact ret1 rfl rfl  (show _ = .int .i64 4 from (by kernel_rfl)) ⟨A52, c53, F54, A57, c58, F59, H112, rfl, h55, h60, b3, S970⟩
      replace M := ifn q966 M
      refine cF (bF q966) (wp_skip (inb_n (inb_n (then_n (wR (lV 23 (eM (.int .i64 x50) (by exact e862)) (lV 24 (eAdd .i64 x50 1) ?_)))))))
      refine lV 8 (eA (.int .i64 (IntKind.i64.wrap (x50 + 1)))) (wN (then_n ?_))
      have S974 := S964.pulls [(is g2), F48, F54, F59, (is g114), (is g123)] [3, 3, 3, 3] rfl
      have S975 := St.first (Fa := [(is g2), F48, F54, F59]) (Fr := [(is g114), (is g123)]) S974
      exact ⟨k869, (by omega), _, H112, (x45.take (((IntKind.i64.wrap ((x45.length : Int) - 1)) : Int).toNat)), A46, c47, F48, (IntKind.i64.wrap (x50 + 1)), x51, A52, c53, F54, x56, A57, c58, F59, rfl, (by exact e860), (by exact e861), (by kernel_rfl), b3, h109, h55, h60, (Y44.trans Y113), S975, M⟩
    replace M := ifn q959 M
    refine cF (bF q959) (wp_seq ?_)
    refine wp_cut (fun a1006 w976 => ∃ (k1008 : Nat), k1008 ≤ k869 ∧ ∃ (f977 : Nat → Value) (g978 : Nat) (x980 : Int) (x981 : Int) (x982 : List UInt8) (A983 : Option Addr) (c984 : Nat) (g987 : Nat) (x989 : Int) (x990 : Int) (x991 : List UInt8) (A992 : Option Addr) (c993 : Nat), a1006 = mk 142 f977 ∧ f977 0 = .pointer (some ⟨g2, 0, none⟩) ∧ f977 7 = .slice A46 ((x45.take (((IntKind.i64.wrap ((x45.length : Int) - 1)) : Int).toNat)).length) c47 ∧ f977 8 = .int .i64 x50 ∧ f977 10 = .pointer (some ⟨g114, 0, none⟩) ∧ f977 11 = .pointer (some ⟨g123, 0, none⟩) ∧ f977 13 = .pointer (some ⟨g978, 0, none⟩) ∧ f977 14 = .pointer (some ⟨g987, 0, none⟩) ∧ w976.heap[g2]? = some (.cells #[.slice A52 x51.length c53, .slice A57 x56.length c58] 34 (0, 0)) ∧ Row (ro st97) 97 H112 (hp w976) F48 A46 c47 (x45.take (((IntKind.i64.wrap ((x45.length : Int) - 1)) : Int).toNat)) ∧ Row (ro st36) 36 H112 (hp w976) F54 A52 c53 x51 ∧ Row tInt 3 H112 (hp w976) F59 A57 c58 x56 ∧ w976.heap[g114]? = some (.cells #[.int .i64 x846, .int .i64 x847, .slice A849 x848.length c850] 36 (0, 0)) ∧ w976.heap[g123]? = some (.cells #[.int .i64 x853, .int .i64 x854, .slice A856 x855.length c857] 36 (0, 0)) ∧ w976.heap[g978]? = some (.cells #[.int .i64 x980, .int .i64 x981, .slice A983 x982.length c984] 36 (0, 0)) ∧ w976.heap[g987]? = some (.cells #[.int .i64 x989, .int .i64 x990, .slice A992 x991.length c993] 36 (0, 0)) ∧ Rd tByte H112 A983 x982 ∧ x982.length ≤ c984 ∧ Rd tByte H112 A992 x991 ∧ x991.length ≤ c993 ∧ St (anyOf [F7, F11, (is g2)]) H w [(is g2), F48, F54, F59, (is g114), (is g123), (is g978), (is g987)] H112 w976 ∧ impl_Store_unify_2.l3 k1008 x45 x50 x51 x56 x847 x854 x980 x981 x982 x989 x990 x991 = some r) ?_ ?_
    · refine region_mix (S := (fun (L_ : Array Bool) (w_ : World) => Ext H112 (hp w_) ∧ (∀ b_, (is g2) b_ → hp w_ b_ = hp w844 b_) ∧ (∀ b_, F54 b_ → hp w_ b_ = hp w844 b_) ∧ (∀ b_, (is g114) b_ → hp w_ b_ = hp w844 b_) ∧ (∀ b_, (is g123) b_ → hp w_ b_ = hp w844 b_))) (by kernel_rfl) S865 ?_
      intro w1009 S1010 K1011 hc1012
      have o1013 := b3
      have o1014 := h55
      have o1015 := b115
      have o1016 := b124
      have hs1017 : (fun (L_ : Array Bool) (w_ : World) => Ext H112 (hp w_) ∧ (∀ b_, (is g2) b_ → hp w_ b_ = hp w844 b_) ∧ (∀ b_, F54 b_ → hp w_ b_ = hp w844 b_) ∧ (∀ b_, (is g114) b_ → hp w_ b_ = hp w844 b_) ∧ (∀ b_, (is g123) b_ → hp w_ b_ = hp w844 b_)) (Array.replicate 20 false) w1009 := ⟨S1010.inv, (fun b_ h_ => K1011.at 0 rfl b_ h_), (fun b_ h_ => K1011.at 2 rfl b_ h_), (fun b_ h_ => K1011.at 4 rfl b_ h_), (fun b_ h_ => K1011.at 5 rfl b_ h_)⟩
      replace b3 := K1011.blk 0 rfl b3
      replace h109 := h109.move (K1011.at 1 rfl)
      replace h55 := h55.move (K1011.at 2 rfl)
      replace h60 := h60.move (K1011.at 3 rfl)
      replace b115 := K1011.blk 4 rfl b115
      replace b124 := K1011.blk 5 rfl b124
      refine xV 0 56 rfl hc1012 hs1017 (fun L_ w_ hc_ hu_ hs_ => eM (.pointer (some ⟨g2, 0, none⟩)) (by exact e860)) ?_; intro hc1018 hs1019
      refine xV 1 57 rfl hc1018 hs1019 (fun L_ w_ hc_ hu_ hs_ => eN ⟨g2, 0, none⟩) ?_; intro hc1020 hs1021
      refine xV 2 58 rfl hc1020 hs1021 (fun L_ w_ hc_ hu_ hs_ => eD g2 0 0 1 Try.underlying34) ?_; intro hc1022 hs1023
      refine xV 3 59 rfl hc1022 hs1023 (fun L_ w_ hc_ hu_ hs_ => eL ⟨g2, 0 + 0, none⟩ (.slice A52 x51.length c53) Try.underlying32 (blk_cell ((hs_.2.1 _ rfl).trans o1013) rfl)) ?_; intro hc1024 hs1025
      refine xV 4 60 rfl hc1024 hs1025 (fun L_ w_ hc_ hu_ hs_ => eD g114 0 1 1 Try.underlying36 (by exact e863)) ?_; intro hc1026 hs1027
      refine xV 5 61 rfl hc1026 hs1027 (fun L_ w_ hc_ hu_ hs_ => eL ⟨g114, 0 + 1, none⟩ (.int .i64 x847) Try.underlying3 (blk_cell ((hs_.2.2.2.1 _ rfl).trans o1015) rfl)) ?_; intro hc1028 hs1029
      obtain ⟨q1030, M⟩ := chk M
      obtain ⟨q1031, M⟩ := chk M
      obtain ⟨b1032, e1034⟩ := Row.addr h55 (show (x847).toNat < x51.length by omega)
      refine xV 6 62 rfl hc1028 hs1029 (fun L_ w_ hc_ hu_ hs_ => eI b1032 0 x51.length c53 3 x847 .i64 Try.underlying32 e1034 q1030 q1031) ?_; intro hc1035 hs1036
      obtain ⟨y1037, F1038, r1039, s1040, k1041⟩ := Row.at o1014 e1034 (getD_some z36 (show (x847).toNat < x51.length by omega))
      obtain ⟨A1042, c1043, rfl, l1044, h1045⟩ := st36_open r1039
      refine xV 7 63 rfl hc1035 hs1036 (fun L_ w_ hc_ hu_ hs_ => e_loadS (b := b1032) (off := 0 + (x847 : Int).toNat * 3) (cs := [.int .i64 ((x51.getD ((x847).toNat) z36).kind), .int .i64 ((x51.getD ((x847).toNat) z36).n), .slice A1042 ((x51.getD ((x847).toNat) z36).text).length c1043]) Try.underlying36 rfl (by kernel_rfl) (by kernel_rfl) (fun j_ u_ e_ => (hpx (cell_same (hs_.2.2.1 _ (Row.foot o1014 e1034)) (k1041 j_ u_ e_))))) ?_; intro hc1046 hs1047
      refine xV 8 64 rfl hc1046 hs1047 (fun L_ w_ hc_ hu_ hs_ => eM (.pointer (some ⟨g2, 0, none⟩)) (by exact e860)) ?_; intro hc1048 hs1049
      refine xV 9 65 rfl hc1048 hs1049 (fun L_ w_ hc_ hu_ hs_ => eN ⟨g2, 0, none⟩) ?_; intro hc1050 hs1051
      refine xV 10 66 rfl hc1050 hs1051 (fun L_ w_ hc_ hu_ hs_ => eD g2 0 0 1 Try.underlying34) ?_; intro hc1052 hs1053
      refine xV 11 67 rfl hc1052 hs1053 (fun L_ w_ hc_ hu_ hs_ => eL ⟨g2, 0 + 0, none⟩ (.slice A52 x51.length c53) Try.underlying32 (blk_cell ((hs_.2.1 _ rfl).trans o1013) rfl)) ?_; intro hc1054 hs1055
      refine xV 12 68 rfl hc1054 hs1055 (fun L_ w_ hc_ hu_ hs_ => eD g123 0 1 1 Try.underlying36 (by exact e864)) ?_; intro hc1056 hs1057
      refine xV 13 69 rfl hc1056 hs1057 (fun L_ w_ hc_ hu_ hs_ => eL ⟨g123, 0 + 1, none⟩ (.int .i64 x854) Try.underlying3 (blk_cell ((hs_.2.2.2.2 _ rfl).trans o1016) rfl)) ?_; intro hc1058 hs1059
      obtain ⟨q1060, M⟩ := chk M
      obtain ⟨q1061, M⟩ := chk M
      obtain ⟨b1062, e1064⟩ := Row.addr h55 (show (x854).toNat < x51.length by omega)
      refine xV 14 70 rfl hc1058 hs1059 (fun L_ w_ hc_ hu_ hs_ => eI b1062 0 x51.length c53 3 x854 .i64 Try.underlying32 e1064 q1060 q1061) ?_; intro hc1065 hs1066
      obtain ⟨y1067, F1068, r1069, s1070, k1071⟩ := Row.at o1014 e1064 (getD_some z36 (show (x854).toNat < x51.length by omega))
      obtain ⟨A1072, c1073, rfl, l1074, h1075⟩ := st36_open r1069
      refine xV 15 71 rfl hc1065 hs1066 (fun L_ w_ hc_ hu_ hs_ => e_loadS (b := b1062) (off := 0 + (x854 : Int).toNat * 3) (cs := [.int .i64 ((x51.getD ((x854).toNat) z36).kind), .int .i64 ((x51.getD ((x854).toNat) z36).n), .slice A1072 ((x51.getD ((x854).toNat) z36).text).length c1073]) Try.underlying36 rfl (by kernel_rfl) (by kernel_rfl) (fun j_ u_ e_ => (hpx (cell_same (hs_.2.2.1 _ (Row.foot o1014 e1064)) (k1071 j_ u_ e_))))) ?_; intro hc1076 hs1077
      refine xall [16, 17] (by kernel_rfl) (by decide) hc1076 (List.forall_mem_cons.2 ⟨?_, List.forall_mem_cons.2 ⟨?_, fun _ h_ => by cases h_⟩⟩)
      · refine yE 16 13 rfl (nB #[.int .i64 0, .int .i64 0, .slice none 0 0] 36 S1010) ?_
        rintro hc1083 _ w1078 ⟨g1079, rfl, b1080, S1081, K1082⟩
        replace b3 := K1082.blk 0 rfl b3
        replace h109 := h109.move (K1082.at 1 rfl)
        replace h55 := h55.move (K1082.at 2 rfl)
        replace h60 := h60.move (K1082.at 3 rfl)
        replace b115 := K1082.blk 4 rfl b115
        replace b124 := K1082.blk 5 rfl b124
        refine ⟨⟨S1081.inv, (fun b_ h_ => (K1082.at 0 rfl b_ h_).trans (hs1077.2.1 b_ h_)), (fun b_ h_ => (K1082.at 2 rfl b_ h_).trans (hs1077.2.2.1 b_ h_)), (fun b_ h_ => (K1082.at 4 rfl b_ h_).trans (hs1077.2.2.2.1 b_ h_)), (fun b_ h_ => (K1082.at 5 rfl b_ h_).trans (hs1077.2.2.2.2 b_ h_))⟩, fun hs1084 => ?_⟩
        refine xO 17 hc1083 ?_
        refine yE 17 14 rfl (nB #[.int .i64 0, .int .i64 0, .slice none 0 0] 36 S1081) ?_
        rintro hc1090 _ w1085 ⟨g1086, rfl, b1087, S1088, K1089⟩
        replace b1080 := K1089.blk 0 rfl b1080
        replace b3 := K1089.blk 1 rfl b3
        replace h109 := h109.move (K1089.at 2 rfl)
        replace h55 := h55.move (K1089.at 3 rfl)
        replace h60 := h60.move (K1089.at 4 rfl)
        replace b115 := K1089.blk 5 rfl b115
        replace b124 := K1089.blk 6 rfl b124
        refine ⟨⟨S1088.inv, (fun b_ h_ => (K1089.at 1 rfl b_ h_).trans (hs1084.2.1 b_ h_)), (fun b_ h_ => (K1089.at 3 rfl b_ h_).trans (hs1084.2.2.1 b_ h_)), (fun b_ h_ => (K1089.at 5 rfl b_ h_).trans (hs1084.2.2.2.1 b_ h_)), (fun b_ h_ => (K1089.at 6 rfl b_ h_).trans (hs1084.2.2.2.2 b_ h_))⟩, fun hs1091 => ?_⟩
        have S1092 := S1088.pulls [(is g1079), (is g1086), (is g2), F48, F54, F59, (is g114), (is g123)] [1] rfl
        refine xO 18 hc1090 ?_
        refine yS 18 rfl (eSa g1079 0 [.int .i64 ((x51.getD ((x847).toNat) z36).kind), .int .i64 ((x51.getD ((x847).toNat) z36).n), .slice A1042 ((x51.getD ((x847).toNat) z36).text).length c1043] S1092 b1080) ?_
        rintro hc1097 w1093 ⟨b1094, S1095, K1096⟩
        replace b1087 := K1096.blk 0 rfl b1087
        replace b3 := K1096.blk 1 rfl b3
        replace h109 := h109.move (K1096.at 2 rfl)
        replace h55 := h55.move (K1096.at 3 rfl)
        replace h60 := h60.move (K1096.at 4 rfl)
        replace b115 := K1096.blk 5 rfl b115
        replace b124 := K1096.blk 6 rfl b124
        refine ⟨⟨S1095.inv, (fun b_ h_ => (K1096.at 1 rfl b_ h_).trans (hs1091.2.1 b_ h_)), (fun b_ h_ => (K1096.at 3 rfl b_ h_).trans (hs1091.2.2.1 b_ h_)), (fun b_ h_ => (K1096.at 5 rfl b_ h_).trans (hs1091.2.2.2.1 b_ h_)), (fun b_ h_ => (K1096.at 6 rfl b_ h_).trans (hs1091.2.2.2.2 b_ h_))⟩, fun hs1098 => ?_⟩
        clear b1080
        have S1099 := S1095.pulls [(is g1086), (is g1079), (is g2), F48, F54, F59, (is g114), (is g123)] [1] rfl
        refine xO 19 hc1097 ?_
        refine yS 19 rfl (eSa g1086 0 [.int .i64 ((x51.getD ((x854).toNat) z36).kind), .int .i64 ((x51.getD ((x854).toNat) z36).n), .slice A1072 ((x51.getD ((x854).toNat) z36).text).length c1073] S1099 b1087) ?_
        rintro hc1104 w1100 ⟨b1101, S1102, K1103⟩
        replace b1094 := K1103.blk 0 rfl b1094
        replace b3 := K1103.blk 1 rfl b3
        replace h109 := h109.move (K1103.at 2 rfl)
        replace h55 := h55.move (K1103.at 3 rfl)
        replace h60 := h60.move (K1103.at 4 rfl)
        replace b115 := K1103.blk 5 rfl b115
        replace b124 := K1103.blk 6 rfl b124
        refine ⟨⟨S1102.inv, (fun b_ h_ => (K1103.at 1 rfl b_ h_).trans (hs1098.2.1 b_ h_)), (fun b_ h_ => (K1103.at 3 rfl b_ h_).trans (hs1098.2.2.1 b_ h_)), (fun b_ h_ => (K1103.at 5 rfl b_ h_).trans (hs1098.2.2.2.1 b_ h_)), (fun b_ h_ => (K1103.at 6 rfl b_ h_).trans (hs1098.2.2.2.2 b_ h_))⟩, fun hs1105 => ?_⟩
        clear b1087
        refine xn (by kernel_rfl) ?_ _
        have S1112 := S1102.pulls [(is g2), F48, F54, F59, (is g114), (is g123), (is g1079), (is g1086)] [1, 7, 7, 7, 7, 7, 7] rfl
        exact ⟨rfl, k869, (by omega), _, g1079, ((x51.getD ((x847).toNat) z36).kind), ((x51.getD ((x847).toNat) z36).n), ((x51.getD ((x847).toNat) z36).text), A1042, c1043, g1086, ((x51.getD ((x854).toNat) z36).kind), ((x51.getD ((x854).toNat) z36).n), ((x51.getD ((x854).toNat) z36).text), A1072, c1073, rfl, (by exact e860), (by exact e861), (by exact e862), (by exact e863), (by exact e864), (by kernel_rfl), (by kernel_rfl), b3, h109, h55, h60, b115, b124, b1094, b1101, h1045, l1044, h1075, l1074, S1112, M⟩
      refine yE 17 14 rfl (nB #[.int .i64 0, .int .i64 0, .slice none 0 0] 36 S1010) ?_
      rintro hc1118 _ w1113 ⟨g1114, rfl, b1115, S1116, K1117⟩
      replace b3 := K1117.blk 0 rfl b3
      replace h109 := h109.move (K1117.at 1 rfl)
      replace h55 := h55.move (K1117.at 2 rfl)
      replace h60 := h60.move (K1117.at 3 rfl)
      replace b115 := K1117.blk 4 rfl b115
      replace b124 := K1117.blk 5 rfl b124
      refine ⟨⟨S1116.inv, (fun b_ h_ => (K1117.at 0 rfl b_ h_).trans (hs1077.2.1 b_ h_)), (fun b_ h_ => (K1117.at 2 rfl b_ h_).trans (hs1077.2.2.1 b_ h_)), (fun b_ h_ => (K1117.at 4 rfl b_ h_).trans (hs1077.2.2.2.1 b_ h_)), (fun b_ h_ => (K1117.at 5 rfl b_ h_).trans (hs1077.2.2.2.2 b_ h_))⟩, fun hs1119 => ?_⟩
      refine xO 16 hc1118 ?_
      refine yE 16 13 rfl (nB #[.int .i64 0, .int .i64 0, .slice none 0 0] 36 S1116) ?_
      rintro hc1125 _ w1120 ⟨g1121, rfl, b1122, S1123, K1124⟩
      replace b1115 := K1124.blk 0 rfl b1115
      replace b3 := K1124.blk 1 rfl b3
      replace h109 := h109.move (K1124.at 2 rfl)
      replace h55 := h55.move (K1124.at 3 rfl)
      replace h60 := h60.move (K1124.at 4 rfl)
      replace b115 := K1124.blk 5 rfl b115
      replace b124 := K1124.blk 6 rfl b124
      refine ⟨⟨S1123.inv, (fun b_ h_ => (K1124.at 1 rfl b_ h_).trans (hs1119.2.1 b_ h_)), (fun b_ h_ => (K1124.at 3 rfl b_ h_).trans (hs1119.2.2.1 b_ h_)), (fun b_ h_ => (K1124.at 5 rfl b_ h_).trans (hs1119.2.2.2.1 b_ h_)), (fun b_ h_ => (K1124.at 6 rfl b_ h_).trans (hs1119.2.2.2.2 b_ h_))⟩, fun hs1126 => ?_⟩
      refine xO 18 hc1125 ?_
      refine yS 18 rfl (eSa g1121 0 [.int .i64 ((x51.getD ((x847).toNat) z36).kind), .int .i64 ((x51.getD ((x847).toNat) z36).n), .slice A1042 ((x51.getD ((x847).toNat) z36).text).length c1043] S1123 b1122) ?_
      rintro hc1131 w1127 ⟨b1128, S1129, K1130⟩
      replace b1115 := K1130.blk 0 rfl b1115
      replace b3 := K1130.blk 1 rfl b3
      replace h109 := h109.move (K1130.at 2 rfl)
      replace h55 := h55.move (K1130.at 3 rfl)
      replace h60 := h60.move (K1130.at 4 rfl)
      replace b115 := K1130.blk 5 rfl b115
      replace b124 := K1130.blk 6 rfl b124
      refine ⟨⟨S1129.inv, (fun b_ h_ => (K1130.at 1 rfl b_ h_).trans (hs1126.2.1 b_ h_)), (fun b_ h_ => (K1130.at 3 rfl b_ h_).trans (hs1126.2.2.1 b_ h_)), (fun b_ h_ => (K1130.at 5 rfl b_ h_).trans (hs1126.2.2.2.1 b_ h_)), (fun b_ h_ => (K1130.at 6 rfl b_ h_).trans (hs1126.2.2.2.2 b_ h_))⟩, fun hs1132 => ?_⟩
      clear b1122
      have S1133 := S1129.pulls [(is g1114), (is g1121), (is g2), F48, F54, F59, (is g114), (is g123)] [1] rfl
      refine xO 19 hc1131 ?_
      refine yS 19 rfl (eSa g1114 0 [.int .i64 ((x51.getD ((x854).toNat) z36).kind), .int .i64 ((x51.getD ((x854).toNat) z36).n), .slice A1072 ((x51.getD ((x854).toNat) z36).text).length c1073] S1133 b1115) ?_
      rintro hc1138 w1134 ⟨b1135, S1136, K1137⟩
      replace b1128 := K1137.blk 0 rfl b1128
      replace b3 := K1137.blk 1 rfl b3
      replace h109 := h109.move (K1137.at 2 rfl)
      replace h55 := h55.move (K1137.at 3 rfl)
      replace h60 := h60.move (K1137.at 4 rfl)
      replace b115 := K1137.blk 5 rfl b115
      replace b124 := K1137.blk 6 rfl b124
      refine ⟨⟨S1136.inv, (fun b_ h_ => (K1137.at 1 rfl b_ h_).trans (hs1132.2.1 b_ h_)), (fun b_ h_ => (K1137.at 3 rfl b_ h_).trans (hs1132.2.2.1 b_ h_)), (fun b_ h_ => (K1137.at 5 rfl b_ h_).trans (hs1132.2.2.2.1 b_ h_)), (fun b_ h_ => (K1137.at 6 rfl b_ h_).trans (hs1132.2.2.2.2 b_ h_))⟩, fun hs1139 => ?_⟩
      clear b1115
      refine xn (by kernel_rfl) ?_ _
      have S1146 := S1136.pulls [(is g2), F48, F54, F59, (is g114), (is g123), (is g1121), (is g1114)] [1, 7, 7, 7, 7, 7, 7] rfl
      exact ⟨rfl, k869, (by omega), _, g1121, ((x51.getD ((x847).toNat) z36).kind), ((x51.getD ((x847).toNat) z36).n), ((x51.getD ((x847).toNat) z36).text), A1042, c1043, g1114, ((x51.getD ((x854).toNat) z36).kind), ((x51.getD ((x854).toNat) z36).n), ((x51.getD ((x854).toNat) z36).text), A1072, c1073, rfl, (by exact e860), (by exact e861), (by exact e862), (by exact e863), (by exact e864), (by kernel_rfl), (by kernel_rfl), b3, h109, h55, h60, b115, b124, b1128, b1135, h1045, l1044, h1075, l1074, S1146, M⟩
    clear M
    rintro a1006 w976 ⟨k1008, z1300, f977, g978, x980, x981, x982, A983, c984, g987, x989, x990, x991, A992, c993, rfl, e996, e997, e998, e999, e1000, e1001, e1002, b3, h109, h55, h60, b115, b124, b979, b988, h985, l986, h994, l995, S1003, M⟩
    rcases k1008 with _ | k1007
    · rw [impl_Store_unify_2.l3] at M
      cases M
    rw [impl_Store_unify_2.l3] at M
    refine then_n (wp_seq (wp_seq (wR (lV 72 (e_loadS (b := g978) (off := 0) (cs := [.int .i64 x980, .int .i64 x981, .slice A983 x982.length c984]) Try.underlying36 rfl (by kernel_rfl) (by exact e1001) (blk_cells b979 rfl)) (lV 73 (e_loadS (b := g987) (off := 0) (cs := [.int .i64 x989, .int .i64 x990, .slice A992 x991.length c993]) Try.underlying36 rfl (by kernel_rfl) (by exact e1002) (blk_cells b988 rfl)) ?_)))))
    obtain ⟨t1147, u1148, M⟩ := bnd M
    refine lC 74 (eC [.tmp 72, .tmp 73] [.agg #[.int .i64 x980, .int .i64 x981, .slice A983 x982.length c984], .agg #[.int .i64 x989, .int .i64 x990, .slice A992 x991.length c993]] Try.func73) (impl_sameCell.calls w976 H112 (⟨x980, x981, x982⟩ : Cell) A983 c984 (⟨x989, x990, x991⟩ : Cell) A992 c993 h985 l986 h994 l995 S1003.own0 t1147 u1148) ?_
    rintro _ w1149 ⟨rfl, C1150⟩
    refine ⟨_, rfl, ?_⟩
    obtain ⟨S1151, K1152⟩ := S1003.still C1150
    replace b3 := K1152.blk 0 rfl b3
    replace h109 := h109.move (K1152.at 1 rfl)
    replace h55 := h55.move (K1152.at 2 rfl)
    replace h60 := h60.move (K1152.at 3 rfl)
    replace b115 := K1152.blk 4 rfl b115
    replace b124 := K1152.blk 5 rfl b124
    replace b979 := K1152.blk 6 rfl b979
    refine lV 75 (e_notv (c := t1147) (by kernel_rfl)) (wN (then_n ?_))
    by_cases q1153 : ¬ (t1147 = true)
    · replace M := ifp q1153 M
      refine cT (bT q1153) (wp_seq (wR (lV 6 (eA (.int .i64 4)) (wN (then_n (wp_ret (then_r ?_)))))))
      refine inb_r (inb_r (then_r (then_r (inb_r (then_r ?_)))))
      obtain rfl := Option.some.inj M
      have S1156 := S1151.pulls [(is g2), F54, F59, F48, (is g114), (is g123), (is g978), (is g987)] [3, 3, 2] rfl
      have S1157 := St.first (Fa := [(is g2), F54, F59]) (Fr := [F48, (is g114), (is g123), (is g978), (is g987)]) S1156
      exact ret1 rfl rfl  (show _ = .int .i64 4 from (by kernel_rfl)) ⟨A52, c53, F54, A57, c58, F59, H112, rfl, h55, h60, b3, S1157⟩
    replace M := ifn q1153 M
    refine cF (bF q1153) (wp_skip (then_n (wp_seq (wR (lV 76 (eD g978 0 1 1 Try.underlying36 (by exact e1001)) (lV 77 (eL ⟨g978, 0 + 1, none⟩ (.int .i64 x981) Try.underlying3 (blk_cell b979 rfl)) (lV 15 (eA (.int .i64 x981)) ?_)))))))
    refine wN (then_n (wp_block ?_))
    have S1183 := S1151.pulls [(is g2), F54, F59, (is g114), (is g123), F48, (is g978), (is g987)] [1, 5, 5, 5, 5, 5] rfl
    have S1184 := St.first (Fa := [(is g2), F54, F59, (is g114), (is g123), F48]) (Fr := [(is g978), (is g987)]) S1183
    refine wp_loop_g (fun k1175 a1176 w1158 => ∃ (f1159 : Nat → Value) (x1160 : List GT97) (A1161 : Option Addr) (c1162 : Nat) (F1163 : Foot) (x1165 : Int), k1175 ≤ k1007 ∧ a1176 = mk 142 f1159 ∧ f1159 0 = .pointer (some ⟨g2, 0, none⟩) ∧ f1159 7 = .slice A1161 x1160.length c1162 ∧ f1159 8 = .int .i64 x50 ∧ f1159 10 = .pointer (some ⟨g114, 0, none⟩) ∧ f1159 11 = .pointer (some ⟨g123, 0, none⟩) ∧ f1159 15 = .int .i64 x1165 ∧ w1158.heap[g2]? = some (.cells #[.slice A52 x51.length c53, .slice A57 x56.length c58] 34 (0, 0)) ∧ Row (ro st36) 36 H112 (hp w1158) F54 A52 c53 x51 ∧ Row tInt 3 H112 (hp w1158) F59 A57 c58 x56 ∧ w1158.heap[g114]? = some (.cells #[.int .i64 x846, .int .i64 x847, .slice A849 x848.length c850] 36 (0, 0)) ∧ w1158.heap[g123]? = some (.cells #[.int .i64 x853, .int .i64 x854, .slice A856 x855.length c857] 36 (0, 0)) ∧ Row (ro st97) 97 H112 (hp w1158) F1163 A1161 c1162 x1160 ∧ St (anyOf [F7, F11, (is g2)]) H w [(is g2), F54, F59, (is g114), (is g123), F1163] H112 w1158 ∧ impl_Store_unify_2.l4 k1175 x50 x51 x56 x847 x854 x1160 x1165 = some r) k1007 ⟨_, (x45.take (((IntKind.i64.wrap ((x45.length : Int) - 1)) : Int).toNat)), A46, c47, F48, x981, (by omega), rfl, (by exact e996), (by exact e997), (by exact e998), (by exact e999), (by exact e1000), (by kernel_rfl), b3, h55, h60, b115, b124, h109, S1184, M⟩ ?_
    clear M
    rintro k1175 a1176 w1158 ⟨f1159, x1160, A1161, c1162, F1163, x1165, z1174, rfl, e1166, e1167, e1168, e1169, e1170, e1171, b3, h55, h60, b115, b124, h1164, S1172, M⟩
    rcases k1175 with _ | k1177
    · rw [impl_Store_unify_2.l4] at M
      cases M
    rw [impl_Store_unify_2.l4] at M
    refine wp_seq (wp_seq (wR (lV 78 (eM (.int .i64 x1165) (by exact e1171)) (lV 79 (e_geq (k := .i64) (a := x1165) (b := 1) (by kernel_rfl) rfl) (wN (then_n ?_))))))
    by_cases q1185 : x1165 ≥ 1
    · replace M := ifp q1185 M
      refine cT (bT q1185) (wp_skip (then_n (wp_seq (wp_block ?_))))
      refine region_mix (S := (fun (L_ : Array Bool) (w_ : World) => Ext H112 (hp w_) ∧ (∀ b_, (is g2) b_ → hp w_ b_ = hp w1158 b_) ∧ (∀ b_, F54 b_ → hp w_ b_ = hp w1158 b_) ∧ (∀ b_, (is g114) b_ → hp w_ b_ = hp w1158 b_) ∧ (∀ b_, (is g123) b_ → hp w_ b_ = hp w1158 b_))) (by kernel_rfl) S1172 ?_
      intro w1186 S1187 K1188 hc1189
      have o1190 := b3
      have o1191 := h55
      have o1192 := b115
      have o1193 := b124
      have hs1194 : (fun (L_ : Array Bool) (w_ : World) => Ext H112 (hp w_) ∧ (∀ b_, (is g2) b_ → hp w_ b_ = hp w1158 b_) ∧ (∀ b_, F54 b_ → hp w_ b_ = hp w1158 b_) ∧ (∀ b_, (is g114) b_ → hp w_ b_ = hp w1158 b_) ∧ (∀ b_, (is g123) b_ → hp w_ b_ = hp w1158 b_)) (Array.replicate 25 false) w1186 := ⟨S1187.inv, (fun b_ h_ => K1188.at 0 rfl b_ h_), (fun b_ h_ => K1188.at 1 rfl b_ h_), (fun b_ h_ => K1188.at 3 rfl b_ h_), (fun b_ h_ => K1188.at 4 rfl b_ h_)⟩
      replace b3 := K1188.blk 0 rfl b3
      replace h55 := h55.move (K1188.at 1 rfl)
      replace h60 := h60.move (K1188.at 2 rfl)
      replace b115 := K1188.blk 3 rfl b115
      replace b124 := K1188.blk 4 rfl b124
      replace h1164 := h1164.move (K1188.at 5 rfl)
      refine xV 0 82 rfl hc1189 hs1194 (fun L_ w_ hc_ hu_ hs_ => eM (.slice A1161 x1160.length c1162) (by exact e1167)) ?_; intro hc1195 hs1196
      refine xV 1 83 rfl hc1195 hs1196 (fun L_ w_ hc_ hu_ hs_ => eM (.pointer (some ⟨g2, 0, none⟩)) (by exact e1166)) ?_; intro hc1197 hs1198
      refine xV 2 84 rfl hc1197 hs1198 (fun L_ w_ hc_ hu_ hs_ => eN ⟨g2, 0, none⟩) ?_; intro hc1199 hs1200
      refine xV 3 85 rfl hc1199 hs1200 (fun L_ w_ hc_ hu_ hs_ => eD g2 0 0 1 Try.underlying34) ?_; intro hc1201 hs1202
      refine xV 4 86 rfl hc1201 hs1202 (fun L_ w_ hc_ hu_ hs_ => eL ⟨g2, 0 + 0, none⟩ (.slice A52 x51.length c53) Try.underlying32 (blk_cell ((hs_.2.1 _ rfl).trans o1190) rfl)) ?_; intro hc1203 hs1204
      refine xV 5 87 rfl hc1203 hs1204 (fun L_ w_ hc_ hu_ hs_ => eD g114 0 1 1 Try.underlying36 (by exact e1169)) ?_; intro hc1205 hs1206
      refine xV 6 88 rfl hc1205 hs1206 (fun L_ w_ hc_ hu_ hs_ => eL ⟨g114, 0 + 1, none⟩ (.int .i64 x847) Try.underlying3 (blk_cell ((hs_.2.2.2.1 _ rfl).trans o1192) rfl)) ?_; intro hc1207 hs1208
      refine xV 7 89 rfl hc1207 hs1208 (fun L_ w_ hc_ hu_ hs_ => eM (.int .i64 x1165) (by exact e1171)) ?_; intro hc1209 hs1210
      refine xV 8 90 rfl hc1209 hs1210 (fun L_ w_ hc_ hu_ hs_ => eAdd .i64 x847 x1165) ?_; intro hc1211 hs1212
      obtain ⟨q1213, M⟩ := chk M
      obtain ⟨q1214, M⟩ := chk M
      obtain ⟨b1215, e1217⟩ := Row.addr h55 (show ((IntKind.i64.wrap (x847 + x1165))).toNat < x51.length by omega)
      refine xV 9 91 rfl hc1211 hs1212 (fun L_ w_ hc_ hu_ hs_ => eI b1215 0 x51.length c53 3 (IntKind.i64.wrap (x847 + x1165)) .i64 Try.underlying32 e1217 q1213 q1214) ?_; intro hc1218 hs1219
      obtain ⟨y1220, F1221, r1222, s1223, k1224⟩ := Row.at o1191 e1217 (getD_some z36 (show ((IntKind.i64.wrap (x847 + x1165))).toNat < x51.length by omega))
      obtain ⟨A1225, c1226, rfl, l1227, h1228⟩ := st36_open r1222
      refine xV 10 92 rfl hc1218 hs1219 (fun L_ w_ hc_ hu_ hs_ => e_loadS (b := b1215) (off := 0 + ((IntKind.i64.wrap (x847 + x1165)) : Int).toNat * 3) (cs := [.int .i64 ((x51.getD (((IntKind.i64.wrap (x847 + x1165))).toNat) z36).kind), .int .i64 ((x51.getD (((IntKind.i64.wrap (x847 + x1165))).toNat) z36).n), .slice A1225 ((x51.getD (((IntKind.i64.wrap (x847 + x1165))).toNat) z36).text).length c1226]) Try.underlying36 rfl (by kernel_rfl) (by kernel_rfl) (fun j_ u_ e_ => (hpx (cell_same (hs_.2.2.1 _ (Row.foot o1191 e1217)) (k1224 j_ u_ e_))))) ?_; intro hc1229 hs1230
      refine xV 11 93 rfl hc1229 hs1230 (fun L_ w_ hc_ hu_ hs_ => eM (.pointer (some ⟨g2, 0, none⟩)) (by exact e1166)) ?_; intro hc1231 hs1232
      refine xV 12 94 rfl hc1231 hs1232 (fun L_ w_ hc_ hu_ hs_ => eN ⟨g2, 0, none⟩) ?_; intro hc1233 hs1234
      refine xV 13 95 rfl hc1233 hs1234 (fun L_ w_ hc_ hu_ hs_ => eD g2 0 0 1 Try.underlying34) ?_; intro hc1235 hs1236
      refine xV 14 96 rfl hc1235 hs1236 (fun L_ w_ hc_ hu_ hs_ => eL ⟨g2, 0 + 0, none⟩ (.slice A52 x51.length c53) Try.underlying32 (blk_cell ((hs_.2.1 _ rfl).trans o1190) rfl)) ?_; intro hc1237 hs1238
      refine xV 15 97 rfl hc1237 hs1238 (fun L_ w_ hc_ hu_ hs_ => eD g123 0 1 1 Try.underlying36 (by exact e1170)) ?_; intro hc1239 hs1240
      refine xV 16 98 rfl hc1239 hs1240 (fun L_ w_ hc_ hu_ hs_ => eL ⟨g123, 0 + 1, none⟩ (.int .i64 x854) Try.underlying3 (blk_cell ((hs_.2.2.2.2 _ rfl).trans o1193) rfl)) ?_; intro hc1241 hs1242
      refine xO 17 hc1241 ?_
      refine yO 17 99 rfl hs1242 (eM (.int .i64 x1165) (by exact e1171)) ?_; intro hc1243 hs1244
      refine xO 18 hc1243 ?_
      refine yO 18 100 rfl hs1244 (eAdd .i64 x854 x1165) ?_; intro hc1245 hs1246
      obtain ⟨q1247, M⟩ := chk M
      obtain ⟨q1248, M⟩ := chk M
      obtain ⟨b1249, e1251⟩ := Row.addr h55 (show ((IntKind.i64.wrap (x854 + x1165))).toNat < x51.length by omega)
      refine xO 19 hc1245 ?_
      refine yO 19 101 rfl hs1246 (eI b1249 0 x51.length c53 3 (IntKind.i64.wrap (x854 + x1165)) .i64 Try.underlying32 e1251 q1247 q1248) ?_; intro hc1252 hs1253
      obtain ⟨y1254, F1255, r1256, s1257, k1258⟩ := Row.at h55 e1251 (getD_some z36 (show ((IntKind.i64.wrap (x854 + x1165))).toNat < x51.length by omega))
      obtain ⟨A1259, c1260, rfl, l1261, h1262⟩ := st36_open r1256
      refine xO 20 hc1252 ?_
      refine yO 20 102 rfl hs1253 (e_loadS (b := b1249) (off := 0 + ((IntKind.i64.wrap (x854 + x1165)) : Int).toNat * 3) (cs := [.int .i64 ((x51.getD (((IntKind.i64.wrap (x854 + x1165))).toNat) z36).kind), .int .i64 ((x51.getD (((IntKind.i64.wrap (x854 + x1165))).toNat) z36).n), .slice A1259 ((x51.getD (((IntKind.i64.wrap (x854 + x1165))).toNat) z36).text).length c1260]) Try.underlying36 rfl (by kernel_rfl) (by kernel_rfl) (fun j_ u_ e_ => (hpx (k1258 j_ u_ e_)))) ?_; intro hc1263 hs1264
      refine xO 21 hc1263 ?_
      refine yO 21 103 rfl hs1264 (show _ = Result.ok (Next.value (.agg #[.int .i64 ((x51.getD (((IntKind.i64.wrap (x847 + x1165))).toNat) z36).kind), .int .i64 ((x51.getD (((IntKind.i64.wrap (x847 + x1165))).toNat) z36).n), .slice A1225 ((x51.getD (((IntKind.i64.wrap (x847 + x1165))).toNat) z36).text).length c1226, .int .i64 ((x51.getD (((IntKind.i64.wrap (x854 + x1165))).toNat) z36).kind), .int .i64 ((x51.getD (((IntKind.i64.wrap (x854 + x1165))).toNat) z36).n), .slice A1259 ((x51.getD (((IntKind.i64.wrap (x854 + x1165))).toNat) z36).text).length c1260])) w1186 from by kernel_rfl) ?_; intro hc1265 hs1266
      refine xO 22 hc1265 ?_
      refine yE 22 104 rfl (new_blk (v := fun g_ => .slice (some ⟨g_, 0, none⟩) 1 1) (cs := #[.int .i64 ((x51.getD (((IntKind.i64.wrap (x847 + x1165))).toNat) z36).kind), .int .i64 ((x51.getD (((IntKind.i64.wrap (x847 + x1165))).toNat) z36).n), .slice A1225 ((x51.getD (((IntKind.i64.wrap (x847 + x1165))).toNat) z36).text).length c1226, .int .i64 ((x51.getD (((IntKind.i64.wrap (x854 + x1165))).toNat) z36).kind), .int .i64 ((x51.getD (((IntKind.i64.wrap (x854 + x1165))).toNat) z36).n), .slice A1259 ((x51.getD (((IntKind.i64.wrap (x854 + x1165))).toNat) z36).text).length c1260]) (t := 97) S1187 (by kernel_rfl)) ?_
      rintro hc1272 _ w1267 ⟨g1268, rfl, b1269, S1270, K1271⟩
      replace b3 := K1271.blk 0 rfl b3
      replace h55 := h55.move (K1271.at 1 rfl)
      replace h60 := h60.move (K1271.at 2 rfl)
      replace b115 := K1271.blk 3 rfl b115
      replace b124 := K1271.blk 4 rfl b124
      replace h1164 := h1164.move (K1271.at 5 rfl)
      refine ⟨⟨S1270.inv, (fun b_ h_ => (K1271.at 0 rfl b_ h_).trans (hs1266.2.1 b_ h_)), (fun b_ h_ => (K1271.at 1 rfl b_ h_).trans (hs1266.2.2.1 b_ h_)), (fun b_ h_ => (K1271.at 3 rfl b_ h_).trans (hs1266.2.2.2.1 b_ h_)), (fun b_ h_ => (K1271.at 4 rfl b_ h_).trans (hs1266.2.2.2.2 b_ h_))⟩, fun hs1273 => ?_⟩
      obtain ⟨q1274, M⟩ := chk M
      have S1275 := S1270.pulls [F1163, (is g1268), (is g2), F54, F59, (is g114), (is g123)] [6] rfl
      have S1276 := S1275.unit
      have S1277 := S1276.pulls [F1163, no, (is g1268), (is g2), F54, F59, (is g114), (is g123)] [1] rfl
      refine xO 23 hc1272 ?_
      refine yE 23 105 rfl (e_append (d := (ro st97)) (n := x1160.length) (xs := x1160) (cap := c1162) (A := A1161) (ys := [(⟨(x51.getD (((IntKind.i64.wrap (x847 + x1165))).toNat) z36), (x51.getD (((IntKind.i64.wrap (x854 + x1165))).toNat) z36)⟩ : GT97)]) (A2 := (some ⟨g1268, 0, none⟩)) (c2 := 1) (z := .agg #[.int .i64 0, .int .i64 0, .slice none 0 0, .int .i64 0, .int .i64 0, .slice none 0 0]) (bytes := 80) S1277 Try.underlying98 (by kernel_rfl) rfl (by decide) (by kernel_rfl) rfl (by kernel_rfl) h1164 (elsO_one1 (st97_mkR (x := (⟨(x51.getD (((IntKind.i64.wrap (x847 + x1165))).toNat) z36), (x51.getD (((IntKind.i64.wrap (x854 + x1165))).toNat) z36)⟩ : GT97)) l1227 h1228 l1261 h1262)) (.inr (blk_news b1269 rfl)) (show (x1160.length + [(⟨(x51.getD (((IntKind.i64.wrap (x847 + x1165))).toNat) z36), (x51.getD (((IntKind.i64.wrap (x854 + x1165))).toNat) z36)⟩ : GT97)].length) * 80 ≤ _ by first | omega | (simp only [List.length_cons, List.length_nil]; omega)) (by decide)) ?_
      rintro hc1285 _ w1278 ⟨A1279, c1280, F1281, rfl, h1282, S1283, K1284⟩
      replace b3 := K1284.blk 1 rfl b3
      replace h55 := h55.move (K1284.at 2 rfl)
      replace h60 := h60.move (K1284.at 3 rfl)
      replace b115 := K1284.blk 4 rfl b115
      replace b124 := K1284.blk 5 rfl b124
      refine ⟨⟨S1283.inv, (fun b_ h_ => (K1284.at 1 rfl b_ h_).trans (hs1273.2.1 b_ h_)), (fun b_ h_ => (K1284.at 2 rfl b_ h_).trans (hs1273.2.2.1 b_ h_)), (fun b_ h_ => (K1284.at 4 rfl b_ h_).trans (hs1273.2.2.2.1 b_ h_)), (fun b_ h_ => (K1284.at 5 rfl b_ h_).trans (hs1273.2.2.2.2 b_ h_))⟩, fun hs1286 => ?_⟩
      refine xO 24 hc1285 ?_
      refine yO 24 7 rfl hs1286 (eA (.slice A1279 ((x1160 ++ [(⟨(x51.getD (((IntKind.i64.wrap (x847 + x1165))).toNat) z36), (x51.getD (((IntKind.i64.wrap (x854 + x1165))).toNat) z36)⟩ : GT97)]).length) c1280)) ?_; intro hc1287 hs1288
      refine xn (by kernel_rfl) ?_ _
      refine inb_n (then_n (wR (lV 80 (eM (.int .i64 x1165) (by exact e1171)) (lV 81 (e_sub (k := .i64) (a := x1165) (b := 1) (by kernel_rfl) rfl) (lV 15 (eA (.int .i64 (IntKind.i64.wrap (x1165 - 1)))) (wN (then_n ?_)))))))
      have S1293 := S1283.pulls [(is g2), F54, F59, (is g114), (is g123), F1281, (is g1268)] [6, 6, 6, 6, 6] rfl
      have S1294 := St.first (Fa := [(is g2), F54, F59, (is g114), (is g123), F1281]) (Fr := [(is g1268)]) S1293
      exact ⟨k1177, (by omega), _, (x1160 ++ [(⟨(x51.getD (((IntKind.i64.wrap (x847 + x1165))).toNat) z36), (x51.getD (((IntKind.i64.wrap (x854 + x1165))).toNat) z36)⟩ : GT97)]), A1279, c1280, F1281, (IntKind.i64.wrap (x1165 - 1)), (by omega), rfl, (by exact e1166), (by kernel_rfl), (by exact e1168), (by exact e1169), (by exact e1170), (by kernel_rfl), b3, h55, h60, b115, b124, h1282, S1294, M⟩
    replace M := ifn q1185 M
    refine cF (bF q1185) (wp_exit (then_e (then_e (inb_hit (inb_n (inb_n (then_n ?_)))))))
    refine wR (lV 23 (eM (.int .i64 x50) (by exact e1168)) (lV 24 (eAdd .i64 x50 1) (lV 8 (eA (.int .i64 (IntKind.i64.wrap (x50 + 1)))) (wN (then_n ?_)))))
    have S1298 := S1172.pulls [(is g2), F1163, F54, F59, (is g114), (is g123)] [2, 2, 5, 3] rfl
    have S1299 := St.first (Fa := [(is g2), F1163, F54, F59]) (Fr := [(is g114), (is g123)]) S1298
    exact ⟨k1177, (by omega), _, H112, x1160, A1161, c1162, F1163, (IntKind.i64.wrap (x50 + 1)), x51, A52, c53, F54, x56, A57, c58, F59, rfl, (by exact e1166), (by exact e1167), (by kernel_rfl), b3, h1164, h55, h60, (Y44.trans Y113), S1299, M⟩
  replace M := ifn q75 M
  refine cF (bF q75) (wp_exit (then_e (then_e (inb_hit (then_n (wp_seq (wR ?_)))))))
  refine lV 6 (eA (.int .i64 0)) (wN (then_n (wp_ret ?_)))
  obtain rfl := Option.some.inj M
  have S1305 := S64.pulls [(is g2), F54, F59, F48] [3, 3, 2] rfl
  have S1306 := St.first (Fa := [(is g2), F54, F59]) (Fr := [F48]) S1305
  exact ret1 rfl rfl  (show _ = .int .i64 0 from (by kernel_rfl)) ⟨A52, c53, F54, A57, c58, F59, H43, rfl, h55, h60, b3, S1306⟩

/-! impl_UnifyStore -/
def impl_UnifyStore.f (k : Nat) (x1 : Store) (x10 : Cell) (x15 : Cell) : Option (Store × Int) := ((impl_ValidStore.f k x1 x10).bind fun t40 => (if ¬ (t40 = true) then some ((⟨[], []⟩ : Store), 1) else ((impl_Store_points.f x1 x15).bind fun t55 => (if ¬ (t55 = true) then some ((⟨[], []⟩ : Store), 1) else ((impl_copyStore.f k x1).bind fun t70 => ((impl_copyCell.f x10).bind fun t106 => ((impl_copyCell.f x15).bind fun t120 => ((impl_Store_unify_2.f k t70 t106 t120).bind fun t157 => ((impl_copyStore.f k t157.2).bind fun t192 => some (t192, t157.1))))))))))
theorem impl_UnifyStore.calls (k : Nat) (w : World) (H : Hp) (x1 : Store) (A2 : Option Addr) (c3 : Nat) (A6 : Option Addr) (c7 : Nat) (x10 : Cell) (A11 : Option Addr) (c12 : Nat) (x15 : Cell) (A16 : Option Addr) (c17 : Nat) (h4 : Rd st36 H A2 x1.cells) (l5 : x1.cells.length ≤ c3) (h8 : Rd tInt H A6 x1.trail) (l9 : x1.trail.length ≤ c7) (h13 : Rd tByte H A11 x10.text) (l14 : x10.text.length ≤ c12) (h18 : Rd tByte H A16 x15.text) (l19 : x15.text.length ≤ c17) (S : Own [] H w) (r : Store × Int) (M : impl_UnifyStore.f k x1 x10 x15 = some r) :
    Calls Try.prog 33 #[.agg #[.slice A2 x1.cells.length c3, .slice A6 x1.trail.length c7], .agg #[.int .i64 x10.kind, .int .i64 x10.n, .slice A11 x10.text.length c12], .agg #[.int .i64 x15.kind, .int .i64 x15.n, .slice A16 x15.text.length c17]] w (fun e e_w => ∃ (A_1 : Option Addr) (c_1 : Nat) (F_1 : Foot) (A_2 : Option Addr) (c_2 : Nat) (F_2 : Foot) (H_ : Hp), e = .returned (.tuple #[.agg #[.slice A_1 r.1.cells.length c_1, .slice A_2 r.1.trail.length c_2], .int .i64 r.2]) ∧ Row st36 36 H_ (hp e_w) F_1 A_1 c_1 r.1.cells ∧ Row tInt 3 H_ (hp e_w) F_2 A_2 c_2 r.1.trail ∧ St (anyOf []) H w [F_1, F_2] H_ e_w) := by
  rw [impl_UnifyStore.f] at M
  refine enter (l := [.agg #[.slice A2 x1.cells.length c3, .slice A6 x1.trail.length c7], .agg #[.int .i64 x10.kind, .int .i64 x10.n, .slice A11 x10.text.length c12], .agg #[.int .i64 x15.kind, .int .i64 x15.n, .slice A16 x15.text.length c17]]) 31 Try.func33 rfl rfl rfl ?_
  have S0_ := S.st
  refine wp_seq (wR ?_)
  refine lW 3 (nB #[.slice A2 x1.cells.length c3, .slice A6 x1.trail.length c7] 34 S0_) ?_
  rintro _ w20 ⟨g21, rfl, b22, S23, K24⟩
  refine lW 4 (nB #[.int .i64 x10.kind, .int .i64 x10.n, .slice A11 x10.text.length c12] 36 S23) ?_
  rintro _ w25 ⟨g26, rfl, b27, S28, K29⟩
  replace b22 := K29.blk 0 rfl b22
  refine lW 5 (nB #[.int .i64 x15.kind, .int .i64 x15.n, .slice A16 x15.text.length c17] 36 S28) ?_
  rintro _ w30 ⟨g31, rfl, b32, S33, K34⟩
  replace b27 := K34.blk 0 rfl b27
  replace b22 := K34.blk 1 rfl b22
  refine lW 6 (nB #[.slice none 0 0, .slice none 0 0] 34 S33) ?_
  rintro _ w35 ⟨g36, rfl, b37, S38, K39⟩
  replace b32 := K39.blk 0 rfl b32
  replace b27 := K39.blk 1 rfl b27
  replace b22 := K39.blk 2 rfl b22
  refine lV 7 (eA (.int .i64 0)) (wN (then_n (wp_seq (wp_seq (wR (lV 10 (e_loadS (b := g21) (off := 0) (cs := [.slice A2 x1.cells.length c3, .slice A6 x1.trail.length c7]) Try.underlying34 rfl (by kernel_rfl) (by kernel_rfl) (blk_cells b22 rfl)) (lV 11 (e_loadS (b := g26) (off := 0) (cs := [.int .i64 x10.kind, .int .i64 x10.n, .slice A11 x10.text.length c12]) Try.underlying36 rfl (by kernel_rfl) (by kernel_rfl) (blk_cells b27 rfl)) ?_)))))))
  obtain ⟨t40, u41, M⟩ := bnd M
  refine lC 12 (eC [.tmp 10, .tmp 11] [.agg #[.slice A2 x1.cells.length c3, .slice A6 x1.trail.length c7], .agg #[.int .i64 x10.kind, .int .i64 x10.n, .slice A11 x10.text.length c12]] Try.func14) (impl_ValidStore.calls k w35 H x1 A2 c3 A6 c7 x10 A11 c12 h4 l5 h8 l9 h13 l14 S38.own0 t40 u41) ?_
  rintro _ w42 ⟨rfl, C43⟩
  refine ⟨_, rfl, ?_⟩
  obtain ⟨S44, K45⟩ := S38.still C43
  replace b37 := K45.blk 0 rfl b37
  replace b32 := K45.blk 1 rfl b32
  replace b27 := K45.blk 2 rfl b27
  replace b22 := K45.blk 3 rfl b22
  refine lV 13 (e_notv (c := t40) (by kernel_rfl)) (lV 14 (eM (.bool (decide (¬ (t40 = true))))) ?_)
  by_cases q46 : ¬ (t40 = true)
  · replace M := ifp q46 M
    refine lK 14 true (bT q46) ?_
    refine lK 14 true (bT q46) ?_
    refine lK 14 true (bT q46) ?_
    refine lK 14 true (bT q46) ?_
    refine lV 19 (eT (.bool true) (bT q46)) (wN (then_n (cond_t rfl (by kernel_rfl) (wp_seq (wR (lV 20 (show _ = Result.ok (Next.value (.agg #[.slice none 0 0, .slice none 0 0])) w42 from by kernel_rfl) ?_))))))
    refine lE (eSa g36 0 [.slice none 0 0, .slice none 0 0] S44 b37) ?_
    rintro w47 ⟨b48, S49, K50⟩
    clear b37
    refine lV 7 (eA (.int .i64 1)) (wN (then_n (wp_ret (then_r ?_))))
    obtain rfl := Option.some.inj M
    have S51 := S49.unit
    have S52 := S51.unit
    have S53 := S52.pulls [no, no, (is g36), (is g31), (is g26), (is g21)] [1] rfl
    have S54 := St.first (Fa := [no, no]) (Fr := [(is g36), (is g31), (is g26), (is g21)]) S53
    exact retST (ty := 34) (cur := #[.slice none 0 0, .slice none 0 0]) rfl rfl rfl (by kernel_rfl) b48 Try.underlying34 rfl (by kernel_rfl) (show _ = .int .i64 1 from (by kernel_rfl)) ⟨none, 0, no, none, 0, no, H, rfl, (Row.nil _ _ _ _ no), (Row.nil _ _ _ _ no), S54⟩
  replace M := ifn q46 M
  refine lG 15 14 (bF q46) (e_loadS (b := g21) (off := 0) (cs := [.slice A2 x1.cells.length c3, .slice A6 x1.trail.length c7]) Try.underlying34 rfl (by kernel_rfl) (by kernel_rfl) (blk_cells b22 rfl)) (lG 16 14 (bF q46) (e_loadS (b := g31) (off := 0) (cs := [.int .i64 x15.kind, .int .i64 x15.n, .slice A16 x15.text.length c17]) Try.underlying36 rfl (by kernel_rfl) (by kernel_rfl) (blk_cells b32 rfl)) ?_)
  obtain ⟨t55, u56, M⟩ := bnd M
  refine lcallg (d := 17) (t := 14) rfl (by kernel_rfl) rfl (bF q46) rfl (by kernel_rfl) (eC [.tmp 15, .tmp 16] [.agg #[.slice A2 x1.cells.length c3, .slice A6 x1.trail.length c7], .agg #[.int .i64 x15.kind, .int .i64 x15.n, .slice A16 x15.text.length c17]] Try.func43) (impl_Store_points.calls w42 H x1 A2 c3 A6 c7 x15 A16 c17 h4 l5 h8 l9 h18 l19 S44.own0 t55 u56) ?_
  rintro _ w57 ⟨rfl, C58⟩
  refine ⟨_, rfl, ?_⟩
  obtain ⟨S59, K60⟩ := S44.still C58
  replace b37 := K60.blk 0 rfl b37
  replace b32 := K60.blk 1 rfl b32
  replace b27 := K60.blk 2 rfl b27
  replace b22 := K60.blk 3 rfl b22
  refine lG 18 14 (bF q46) (e_notv (c := t55) (by kernel_rfl)) (lV 19 (eF (.bool (decide (¬ (t55 = true)))) (bF q46)) (wN (then_n ?_)))
  by_cases q61 : ¬ (t55 = true)
  · replace M := ifp q61 M
    refine cT (bT q61) (wp_seq (wR (lV 20 (show _ = Result.ok (Next.value (.agg #[.slice none 0 0, .slice none 0 0])) w57 from by kernel_rfl) ?_)))
    refine lE (eSa g36 0 [.slice none 0 0, .slice none 0 0] S59 b37) ?_
    rintro w62 ⟨b63, S64, K65⟩
    clear b37
    refine lV 7 (eA (.int .i64 1)) (wN (then_n (wp_ret (then_r ?_))))
    obtain rfl := Option.some.inj M
    have S66 := S64.unit
    have S67 := S66.unit
    have S68 := S67.pulls [no, no, (is g36), (is g31), (is g26), (is g21)] [1] rfl
    have S69 := St.first (Fa := [no, no]) (Fr := [(is g36), (is g31), (is g26), (is g21)]) S68
    exact retST (ty := 34) (cur := #[.slice none 0 0, .slice none 0 0]) rfl rfl rfl (by kernel_rfl) b63 Try.underlying34 rfl (by kernel_rfl) (show _ = .int .i64 1 from (by kernel_rfl)) ⟨none, 0, no, none, 0, no, H, rfl, (Row.nil _ _ _ _ no), (Row.nil _ _ _ _ no), S69⟩
  replace M := ifn q61 M
  refine cF (bF q61) (wp_skip (then_n (wp_seq (wR (lV 21 (e_loadS (b := g21) (off := 0) (cs := [.slice A2 x1.cells.length c3, .slice A6 x1.trail.length c7]) Try.underlying34 rfl (by kernel_rfl) (by kernel_rfl) (blk_cells b22 rfl)) ?_)))))
  obtain ⟨t70, u71, M⟩ := bnd M
  refine lC 22 (eC [.tmp 21] [.agg #[.slice A2 x1.cells.length c3, .slice A6 x1.trail.length c7]] Try.func58) (impl_copyStore.calls k w57 H x1 A2 c3 A6 c7 h4 l5 h8 l9 (St.own' (Fa := []) (Fr := [(is g36), (is g31), (is g26), (is g21)]) S59) t70 u71) ?_
  rintro _ w72 ⟨A75, c76, F78, A79, c80, F82, H73, rfl, h77, h81, T74⟩
  refine ⟨_, rfl, ?_⟩
  obtain ⟨S83, K84⟩ := St.call (Fa := []) (Fr := [(is g36), (is g31), (is g26), (is g21)]) S59 T74
  replace b37 := K84.blk 0 rfl b37
  replace b32 := K84.blk 1 rfl b32
  replace b27 := K84.blk 2 rfl b27
  have E85 := T74.ext
  refine lW 8 (nB #[.slice none 0 0, .slice none 0 0] 34 S83) ?_
  rintro _ w86 ⟨g87, rfl, b88, S89, K90⟩
  replace h77 := h77.move (K90.at 0 rfl)
  replace h81 := h81.move (K90.at 1 rfl)
  replace b37 := K90.blk 2 rfl b37
  replace b32 := K90.blk 3 rfl b32
  replace b27 := K90.blk 4 rfl b27
  refine lE (eSa g87 0 [.slice A75 t70.cells.length c76, .slice A79 t70.trail.length c80] S89 b88) ?_
  rintro w91 ⟨b92, S93, K94⟩
  replace h77 := h77.move (K94.at 0 rfl)
  replace h81 := h81.move (K94.at 1 rfl)
  replace b37 := K94.blk 2 rfl b37
  replace b32 := K94.blk 3 rfl b32
  replace b27 := K94.blk 4 rfl b27
  clear b88
  refine wN (then_n (wp_seq ?_))
  refine region_mix (S := (fun (L_ : Array Bool) (w_ : World) => Ext H73 (hp w_) ∧ (∀ b_, (is g31) b_ → hp w_ b_ = hp w91 b_) ∧ (∀ b_, (is g26) b_ → hp w_ b_ = hp w91 b_))) (by kernel_rfl) S93 ?_
  intro w95 S96 K97 hc98
  have o99 := b32
  have o100 := b27
  have hs101 : (fun (L_ : Array Bool) (w_ : World) => Ext H73 (hp w_) ∧ (∀ b_, (is g31) b_ → hp w_ b_ = hp w91 b_) ∧ (∀ b_, (is g26) b_ → hp w_ b_ = hp w91 b_)) (Array.replicate 6 false) w95 := ⟨S96.inv, (fun b_ h_ => K97.at 4 rfl b_ h_), (fun b_ h_ => K97.at 5 rfl b_ h_)⟩
  replace b92 := K97.blk 0 rfl b92
  replace h77 := h77.move (K97.at 1 rfl)
  replace h81 := h81.move (K97.at 2 rfl)
  replace b37 := K97.blk 3 rfl b37
  refine xV 0 23 rfl hc98 hs101 (fun L_ w_ hc_ hu_ hs_ => e_loadS (b := g26) (off := 0) (cs := [.int .i64 x10.kind, .int .i64 x10.n, .slice A11 x10.text.length c12]) Try.underlying36 rfl (by kernel_rfl) (by kernel_rfl) (blk_cells ((hs_.2.2 _ rfl).trans o100) rfl)) ?_; intro hc102 hs103
  refine xV 2 25 rfl hc102 hs103 (fun L_ w_ hc_ hu_ hs_ => e_loadS (b := g31) (off := 0) (cs := [.int .i64 x15.kind, .int .i64 x15.n, .slice A16 x15.text.length c17]) Try.underlying36 rfl (by kernel_rfl) (by kernel_rfl) (blk_cells ((hs_.2.1 _ rfl).trans o99) rfl)) ?_; intro hc104 hs105
  obtain ⟨t106, u107, M⟩ := bnd M
  refine xO 1 hc104 ?_
  refine yC 1 rfl (eC [.tmp 23] [.agg #[.int .i64 x10.kind, .int .i64 x10.n, .slice A11 x10.text.length c12]] Try.func49) (impl_copyCell.calls w95 H73 x10 A11 c12 (h13.ext E85) l14 (St.own' (Fa := []) (Fr := [(is g87), F78, F82, (is g36), (is g31), (is g26), (is g21)]) S96) t106 u107) ?_
  rintro hc115 _ w108 ⟨A111, c112, F114, H109, rfl, h113, T110⟩
  refine ⟨_, rfl, ?_⟩
  obtain ⟨S116, K117⟩ := St.call (Fa := []) (Fr := [(is g87), F78, F82, (is g36), (is g31), (is g26), (is g21)]) S96 T110
  replace b92 := K117.blk 0 rfl b92
  replace h77 := h77.move (K117.at 1 rfl)
  replace h81 := h81.move (K117.at 2 rfl)
  replace b37 := K117.blk 3 rfl b37
  have E118 := T110.ext
  replace h77 := h77.ext E118
  replace h81 := h81.ext E118
  refine ⟨⟨(Ext.trans E118 S116.inv), (fun b_ h_ => (K117.at 4 rfl b_ h_).trans (hs105.2.1 b_ h_)), (fun b_ h_ => (K117.at 5 rfl b_ h_).trans (hs105.2.2 b_ h_))⟩, fun hs119 => ?_⟩
  obtain ⟨t120, u121, M⟩ := bnd M
  refine xO 3 hc115 ?_
  refine yC 3 rfl (eC [.tmp 25] [.agg #[.int .i64 x15.kind, .int .i64 x15.n, .slice A16 x15.text.length c17]] Try.func49) (impl_copyCell.calls w108 H109 x15 A16 c17 (h18.ext (E85.trans E118)) l19 (St.own' (Fa := []) (Fr := [F114, (is g87), F78, F82, (is g36), (is g31), (is g26), (is g21)]) S116) t120 u121) ?_
  rintro hc129 _ w122 ⟨A125, c126, F128, H123, rfl, h127, T124⟩
  refine ⟨_, rfl, ?_⟩
  obtain ⟨S130, K131⟩ := St.call (Fa := []) (Fr := [F114, (is g87), F78, F82, (is g36), (is g31), (is g26), (is g21)]) S116 T124
  replace h113 := h113.move (K131.at 0 rfl)
  replace b92 := K131.blk 1 rfl b92
  replace h77 := h77.move (K131.at 2 rfl)
  replace h81 := h81.move (K131.at 3 rfl)
  replace b37 := K131.blk 4 rfl b37
  have E132 := T124.ext
  replace h113 := h113.ext E132
  replace h77 := h77.ext E132
  replace h81 := h81.ext E132
  refine ⟨⟨(Ext.trans (E118.trans E132) S130.inv), (fun b_ h_ => (K131.at 5 rfl b_ h_).trans (hs119.2.1 b_ h_)), (fun b_ h_ => (K131.at 6 rfl b_ h_).trans (hs119.2.2 b_ h_))⟩, fun hs133 => ?_⟩
  have S134 := S130.pulls [F78, F128, F114, (is g87), F82, (is g36), (is g31), (is g26), (is g21)] [3] rfl
  obtain ⟨H135, F136, S137, E138, h139⟩ := S134.share h77
  replace h127 := h127.ext E138
  replace h113 := h113.ext E138
  replace h81 := h81.ext E138
  have l140 := h113.le
  have S141 := S137.pulls [F114, F136, F128, (is g87), F82, (is g36), (is g31), (is g26), (is g21)] [2] rfl
  obtain ⟨H142, S143, E144, h145, z146⟩ := S141.frzRow h113
  replace h139 := h139.ext E144
  replace h127 := h127.ext E144
  replace h81 := h81.ext E144
  have l147 := h127.le
  have S148 := S143.pulls [F128, F136, (is g87), F82, (is g36), (is g31), (is g26), (is g21)] [1] rfl
  obtain ⟨H149, S150, E151, h152, z153⟩ := S148.frzRow h127
  replace h139 := h139.ext E151
  replace h81 := h81.ext E151
  have S156 := S150.pulls [F136, F82, (is g87), (is g36), (is g31), (is g26), (is g21)] [1, 2, 2] rfl
  obtain ⟨t157, u158, M⟩ := bnd M
  refine xO 4 hc129 ?_
  refine yC 4 rfl (eC [.tmp 8, .tmp 24, .tmp 26] [.pointer (some ⟨g87, 0, none⟩), .agg #[.int .i64 t106.kind, .int .i64 t106.n, .slice A111 t106.text.length c112], .agg #[.int .i64 t120.kind, .int .i64 t120.n, .slice A125 t120.text.length c126]] Try.func64) (impl_Store_unify_2.calls k w122 H149 t70 g87 A75 c76 F136 A79 c80 F82 t106 A111 c112 t120 A125 c126 h139 h81 b92 (h145.ext E151) l140 h152 l147 (St.own' (Fa := [F136, F82, (is g87)]) (Fr := [(is g36), (is g31), (is g26), (is g21)]) S156) t157 u158) ?_
  rintro hc171 _ w159 ⟨A162, c163, F165, A166, c167, F169, H160, rfl, h164, h168, b170, T161⟩
  refine ⟨_, rfl, ?_⟩
  obtain ⟨S172, K173⟩ := St.call (Fa := [F136, F82, (is g87)]) (Fr := [(is g36), (is g31), (is g26), (is g21)]) S156 T161
  replace b37 := K173.blk 0 rfl b37
  have E174 := T161.ext
  refine ⟨⟨(Ext.trans (((((E118.trans E132).trans E138).trans E144).trans E151).trans E174) S172.inv), (fun b_ h_ => (K173.at 1 rfl b_ h_).trans (hs133.2.1 b_ h_)), (fun b_ h_ => (K173.at 2 rfl b_ h_).trans (hs133.2.2 b_ h_))⟩, fun hs175 => ?_⟩
  refine xO 5 hc171 ?_
  refine yO 5 9 rfl hs175 (eA (.int .i64 t157.1)) ?_; intro hc176 hs177
  refine xn (by kernel_rfl) ?_ _
  refine then_n (wp_seq (wR (lV 28 (e_loadS (b := g87) (off := 0) (cs := [.slice A162 t157.2.cells.length c163, .slice A166 t157.2.trail.length c167]) Try.underlying34 rfl (by kernel_rfl) (by kernel_rfl) (blk_cells b170 rfl)) ?_)))
  have l178 := h164.le
  have S179 := S172.pulls [F165, (is g87), F169, (is g36), (is g31), (is g26), (is g21)] [1] rfl
  obtain ⟨H180, S181, E182, h183, z184⟩ := S179.frzRow h164
  replace h168 := h168.ext E182
  replace h183 := h183.unro
  have l185 := h168.le
  have S186 := S181.pulls [F169, (is g87), (is g36), (is g31), (is g26), (is g21)] [1] rfl
  obtain ⟨H187, S188, E189, h190, z191⟩ := S186.frzRow h168
  obtain ⟨t192, u193, M⟩ := bnd M
  refine lC 29 (eC [.tmp 28] [.agg #[.slice A162 t157.2.cells.length c163, .slice A166 t157.2.trail.length c167]] Try.func58) (impl_copyStore.calls k w159 H187 t157.2 A162 c163 A166 c167 (h183.ext E189) l178 h190 l185 (St.own' (Fa := []) (Fr := [(is g87), (is g36), (is g31), (is g26), (is g21)]) S188) t192 u193) ?_
  rintro _ w194 ⟨A197, c198, F200, A201, c202, F204, H195, rfl, h199, h203, T196⟩
  refine ⟨_, rfl, ?_⟩
  obtain ⟨S205, K206⟩ := St.call (Fa := []) (Fr := [(is g87), (is g36), (is g31), (is g26), (is g21)]) S188 T196
  replace b37 := K206.blk 1 rfl b37
  have E207 := T196.ext
  refine lV 30 (eM (.int .i64 t157.1)) ?_
  have S208 := S205.pulls [(is g36), F200, F204, (is g87), (is g31), (is g26), (is g21)] [3] rfl
  refine lE (eSa g36 0 [.slice A197 t192.cells.length c198, .slice A201 t192.trail.length c202] S208 b37) ?_
  rintro w209 ⟨b210, S211, K212⟩
  replace h199 := h199.move (K212.at 0 rfl)
  replace h203 := h203.move (K212.at 1 rfl)
  clear b37
  refine lV 7 (eA (.int .i64 t157.1)) (wN (then_n (wp_ret ?_)))
  obtain rfl := Option.some.inj M
  have S214 := S211.pulls [F200, F204, (is g36), (is g87), (is g31), (is g26), (is g21)] [2, 2] rfl
  have S215 := St.first (Fa := [F200, F204]) (Fr := [(is g36), (is g87), (is g31), (is g26), (is g21)]) S214
  exact retST (ty := 34) (cur := #[.slice A197 t192.cells.length c198, .slice A201 t192.trail.length c202]) rfl rfl rfl (by kernel_rfl) b210 Try.underlying34 rfl (by kernel_rfl) (show _ = .int .i64 t157.1 from (by kernel_rfl)) ⟨A197, c198, F200, A201, c202, F204, H195, rfl, h199, h203, S215⟩

/-! laws_eqByteS -/
def laws_eqByteS.l0 : Nat → (List UInt8) → (List UInt8) → Int → Option Bool
  | 0, _, _, _ => none
  | k23 + 1, x1, x6, x14 => (if x14 < (x1.length : Int) then (if 0 ≤ x14 then (if x14 < (x6.length : Int) then (if ((x1.getD ((x14).toNat) (0 : UInt8)).toNat : Int) ≠ ((x6.getD ((x14).toNat) (0 : UInt8)).toNat : Int) then some false else (laws_eqByteS.l0 k23 x1 x6 (IntKind.i64.wrap (x14 + 1)))) else none) else none) else some true)
def laws_eqByteS.f (k : Nat) (x1 : List UInt8) (x6 : List UInt8) : Option Bool := (if (x1.length : Int) ≠ (x6.length : Int) then some false else (laws_eqByteS.l0 k x1 x6 0))
theorem laws_eqByteS.calls (k : Nat) (w : World) (H : Hp) (x1 : List UInt8) (A2 : Option Addr) (c3 : Nat) (x6 : List UInt8) (A7 : Option Addr) (c8 : Nat) (h4 : Rd tByte H A2 x1) (l5 : x1.length ≤ c3) (h9 : Rd tByte H A7 x6) (l10 : x6.length ≤ c8) (S : Own [] H w) (r : Bool) (M : laws_eqByteS.f k x1 x6 = some r) :
    Calls Try.prog 45 #[.slice A2 x1.length c3, .slice A7 x6.length c8] w (fun e e_w => e = .returned (.bool r) ∧ Chg no w e_w) := by
  rw [laws_eqByteS.f] at M
  refine enter (l := [.slice A2 x1.length c3, .slice A7 x6.length c8]) 26 Try.func45 rfl rfl rfl ?_
  have S0_ := S.st
  refine wp_seq (wR (lV 4 (eA (.bool false)) (wN (then_n (wp_seq (wp_seq (wR ?_)))))))
  refine lV 6 (eM (.slice A2 x1.length c3)) (lV 7 (e_len (A := A2) (n := x1.length) (c := c3) Try.underlying26 (by kernel_rfl)) (lV 8 (eM (.slice A7 x6.length c8)) (lV 9 (e_len (A := A7) (n := x6.length) (c := c8) Try.underlying26 (by kernel_rfl)) (lV 10 (eNe .i64 (x1.length : Int) (x6.length : Int)) (wN (then_n ?_))))))
  by_cases q11 : (x1.length : Int) ≠ (x6.length : Int)
  · replace M := ifp q11 M
    refine cT (bT q11) (wp_seq (wR (lV 4 (eA (.bool false)) (wN (then_n (wp_ret (then_r ?_)))))))
    obtain rfl := Option.some.inj M
    exact ret1 rfl rfl  (show _ = .bool false from (by kernel_rfl)) ⟨rfl, S0_.chg⟩
  replace M := ifn q11 M
  refine cF (bF q11) (wp_skip (then_n (wp_seq (wp_seq (wR (lV 5 (eA (.int .i64 0)) (wN ?_)))))))
  refine then_n (wp_block ?_)
  refine wp_loop_g (fun k21 a22 w12 => ∃ (f13 : Nat → Value) (x14 : Int), a22 = mk 26 f13 ∧ f13 0 = .slice A2 x1.length c3 ∧ f13 1 = .slice A7 x6.length c8 ∧ f13 5 = .int .i64 x14 ∧ St (anyOf []) H w [] H w12 ∧ laws_eqByteS.l0 k21 x1 x6 x14 = some r) k ⟨_, 0, rfl, (by kernel_rfl), (by kernel_rfl), (by kernel_rfl), S0_, M⟩ ?_
  clear M
  rintro k21 a22 w12 ⟨f13, x14, rfl, e15, e16, e17, S18, M⟩
  rcases k21 with _ | k23
  · rw [laws_eqByteS.l0] at M
    cases M
  rw [laws_eqByteS.l0] at M
  refine wp_seq (wp_seq (wR (lV 11 (eM (.int .i64 x14) (by exact e17)) (lV 12 (eM (.slice A2 x1.length c3) (by exact e15)) (lV 13 (e_len (A := A2) (n := x1.length) (c := c3) Try.underlying26 (by kernel_rfl)) (lV 14 (eLt .i64 x14 (x1.length : Int)) (wN ?_)))))))
  refine then_n ?_
  by_cases q24 : x14 < (x1.length : Int)
  · replace M := ifp q24 M
    refine cT (bT q24) (wp_skip (then_n (wp_seq (wp_block (wp_seq ?_)))))
    refine region_still (by kernel_rfl) (by kernel_rfl) S18 ?_
    intro w25 S26 K27
    refine sV 17 (eM (.slice A2 x1.length c3) (by exact e15)) (sV 18 (eM (.int .i64 x14) (by exact e17)) ?_)
    obtain ⟨q28, M⟩ := chk M
    obtain ⟨b29, o30, e31⟩ := Rd.addr h4 (show (x14).toNat < x1.length by omega)
    obtain ⟨y32, r33, k34⟩ := Rd.at h4 e31 (getD_some (0 : UInt8) (show (x14).toNat < x1.length by omega))
    obtain rfl := r33
    refine sV 19 (eI b29 o30 x1.length c3 1 x14 .i64 Try.underlying26 e31 q28 q24) (sV 20 (eL ⟨b29, o30 + (x14 : Int).toNat * 1, none⟩ (.int .u8 ((x1.getD ((x14).toNat) (0 : UInt8)).toNat : Int)) Try.underlying5 (hpx (S26.inv.cell (k34 0 _ rfl)))) (sV 21 (eM (.slice A7 x6.length c8) (by exact e16)) (sV 22 (eM (.int .i64 x14) (by exact e17)) ?_)))
    obtain ⟨q35, M⟩ := chk M
    obtain ⟨b36, o37, e38⟩ := Rd.addr h9 (show (x14).toNat < x6.length by omega)
    obtain ⟨y39, r40, k41⟩ := Rd.at h9 e38 (getD_some (0 : UInt8) (show (x14).toNat < x6.length by omega))
    obtain rfl := r40
    refine sV 23 (eI b36 o37 x6.length c8 1 x14 .i64 Try.underlying26 e38 q28 q35) (sV 24 (eL ⟨b36, o37 + (x14 : Int).toNat * 1, none⟩ (.int .u8 ((x6.getD ((x14).toNat) (0 : UInt8)).toNat : Int)) Try.underlying5 (hpx (S26.inv.cell (k41 0 _ rfl)))) (sV 25 (eNe .u8 ((x1.getD ((x14).toNat) (0 : UInt8)).toNat : Int) ((x6.getD ((x14).toNat) (0 : UInt8)).toNat : Int)) (wpStill_nil (then_n ?_))))
    by_cases q42 : ((x1.getD ((x14).toNat) (0 : UInt8)).toNat : Int) ≠ ((x6.getD ((x14).toNat) (0 : UInt8)).toNat : Int)
    · replace M := ifp q42 M
      refine cT (bT q42) (wp_seq (wR (lV 4 (eA (.bool false)) (wN (then_n (wp_ret (inb_r ?_)))))))
      refine then_r (then_r (inb_r (then_r ?_)))
      obtain rfl := Option.some.inj M
      exact ret1 rfl rfl  (show _ = .bool false from (by kernel_rfl)) ⟨rfl, S26.chg⟩
    replace M := ifn q42 M
    refine cF (bF q42) (wp_skip (inb_n (then_n (wR (lV 15 (eM (.int .i64 x14) (by exact e17)) (lV 16 (eAdd .i64 x14 1) (lV 5 (eA (.int .i64 (IntKind.i64.wrap (x14 + 1)))) ?_)))))))
    refine wN (then_n ?_)
    exact ⟨k23, (by omega), _, (IntKind.i64.wrap (x14 + 1)), rfl, (by exact e15), (by exact e16), (by kernel_rfl), S26, M⟩
  replace M := ifn q24 M
  refine cF (bF q24) (wp_exit (then_e (then_e (inb_hit (then_n (wp_seq (wR ?_)))))))
  refine lV 4 (eA (.bool true)) (wN (then_n (wp_ret ?_)))
  obtain rfl := Option.some.inj M
  exact ret1 rfl rfl  (show _ = .bool true from (by kernel_rfl)) ⟨rfl, S18.chg⟩

/-! laws_eqCell -/
def laws_eqCell.f (k : Nat) (x1 : Cell) (x6 : Cell) : Option Bool := (if x1.kind ≠ x6.kind then some false else (if x1.n ≠ x6.n then some false else ((laws_eqByteS.f k x1.text x6.text).bind fun t23 => (if ¬ (t23 = true) then some false else some true))))
theorem laws_eqCell.calls (k : Nat) (w : World) (H : Hp) (x1 : Cell) (A2 : Option Addr) (c3 : Nat) (x6 : Cell) (A7 : Option Addr) (c8 : Nat) (h4 : Rd tByte H A2 x1.text) (l5 : x1.text.length ≤ c3) (h9 : Rd tByte H A7 x6.text) (l10 : x6.text.length ≤ c8) (S : Own [] H w) (r : Bool) (M : laws_eqCell.f k x1 x6 = some r) :
    Calls Try.prog 16 #[.agg #[.int .i64 x1.kind, .int .i64 x1.n, .slice A2 x1.text.length c3], .agg #[.int .i64 x6.kind, .int .i64 x6.n, .slice A7 x6.text.length c8]] w (fun e e_w => e = .returned (.bool r) ∧ Chg no w e_w) := by
  rw [laws_eqCell.f] at M
  refine enter (l := [.agg #[.int .i64 x1.kind, .int .i64 x1.n, .slice A2 x1.text.length c3], .agg #[.int .i64 x6.kind, .int .i64 x6.n, .slice A7 x6.text.length c8]]) 21 Try.func16 rfl rfl rfl ?_
  have S0_ := S.st
  refine wp_seq (wR ?_)
  refine lW 2 (nB #[.int .i64 x1.kind, .int .i64 x1.n, .slice A2 x1.text.length c3] 36 S0_) ?_
  rintro _ w11 ⟨g12, rfl, b13, S14, K15⟩
  refine lW 3 (nB #[.int .i64 x6.kind, .int .i64 x6.n, .slice A7 x6.text.length c8] 36 S14) ?_
  rintro _ w16 ⟨g17, rfl, b18, S19, K20⟩
  replace b13 := K20.blk 0 rfl b13
  refine lV 4 (eA (.bool false)) (wN (then_n (wp_seq (wp_seq (wR (lV 5 (eD g12 0 0 1 Try.underlying36) (lV 6 (eL ⟨g12, 0 + 0, none⟩ (.int .i64 x1.kind) Try.underlying3 (blk_cell b13 rfl)) ?_)))))))
  refine lV 7 (eD g17 0 0 1 Try.underlying36) (lV 8 (eL ⟨g17, 0 + 0, none⟩ (.int .i64 x6.kind) Try.underlying3 (blk_cell b18 rfl)) (lV 9 (eNe .i64 x1.kind x6.kind) (wN (then_n ?_))))
  by_cases q21 : x1.kind ≠ x6.kind
  · replace M := ifp q21 M
    refine cT (bT q21) (wp_seq (wR (lV 4 (eA (.bool false)) (wN (then_n (wp_ret (then_r ?_)))))))
    obtain rfl := Option.some.inj M
    exact ret1 rfl rfl  (show _ = .bool false from (by kernel_rfl)) ⟨rfl, S19.chg⟩
  replace M := ifn q21 M
  refine cF (bF q21) (wp_skip (then_n (wp_seq (wp_seq (wR (lV 10 (eD g12 0 1 1 Try.underlying36) (lV 11 (eL ⟨g12, 0 + 1, none⟩ (.int .i64 x1.n) Try.underlying3 (blk_cell b13 rfl)) ?_)))))))
  refine lV 12 (eD g17 0 1 1 Try.underlying36) (lV 13 (eL ⟨g17, 0 + 1, none⟩ (.int .i64 x6.n) Try.underlying3 (blk_cell b18 rfl)) (lV 14 (eNe .i64 x1.n x6.n) (wN (then_n ?_))))
  by_cases q22 : x1.n ≠ x6.n
  · replace M := ifp q22 M
    refine cT (bT q22) (wp_seq (wR (lV 4 (eA (.bool false)) (wN (then_n (wp_ret (then_r ?_)))))))
    obtain rfl := Option.some.inj M
    exact ret1 rfl rfl  (show _ = .bool false from (by kernel_rfl)) ⟨rfl, S19.chg⟩
  replace M := ifn q22 M
  refine cF (bF q22) (wp_skip (then_n (wp_seq (wp_seq (wR (lV 15 (eD g12 0 2 1 Try.underlying36) (lV 16 (eL ⟨g12, 0 + 2, none⟩ (.slice A2 x1.text.length c3) Try.underlying26 (blk_cell b13 rfl)) ?_)))))))
  refine lV 17 (eD g17 0 2 1 Try.underlying36) (lV 18 (eL ⟨g17, 0 + 2, none⟩ (.slice A7 x6.text.length c8) Try.underlying26 (blk_cell b18 rfl)) ?_)
  obtain ⟨t23, u24, M⟩ := bnd M
  refine lC 19 (eC [.tmp 16, .tmp 18] [.slice A2 x1.text.length c3, .slice A7 x6.text.length c8] Try.func45) (laws_eqByteS.calls k w16 H x1.text A2 c3 x6.text A7 c8 h4 l5 h9 l10 S19.own0 t23 u24) ?_
  rintro _ w25 ⟨rfl, C26⟩
  refine ⟨_, rfl, ?_⟩
  obtain ⟨S27, K28⟩ := S19.still C26
  refine lV 20 (e_notv (c := t23) (by kernel_rfl)) (wN (then_n ?_))
  by_cases q29 : ¬ (t23 = true)
  · replace M := ifp q29 M
    refine cT (bT q29) (wp_seq (wR (lV 4 (eA (.bool false)) (wN (then_n (wp_ret (then_r ?_)))))))
    obtain rfl := Option.some.inj M
    exact ret1 rfl rfl  (show _ = .bool false from (by kernel_rfl)) ⟨rfl, S27.chg⟩
  replace M := ifn q29 M
  refine cF (bF q29) (wp_skip (then_n (wp_seq (wR (lV 4 (eA (.bool true)) (wN (then_n ?_)))))))
  refine wp_ret ?_
  obtain rfl := Option.some.inj M
  exact ret1 rfl rfl  (show _ = .bool true from (by kernel_rfl)) ⟨rfl, S27.chg⟩

/-! laws_eqCellS -/
def laws_eqCellS.l0 : Nat → (List Cell) → (List Cell) → Int → Option Bool
  | 0, _, _, _ => none
  | k23 + 1, x1, x6, x14 => (if x14 < (x1.length : Int) then (if 0 ≤ x14 then (if x14 < (x6.length : Int) then ((laws_eqCell.f k23 (x1.getD ((x14).toNat) z36) (x6.getD ((x14).toNat) z36)).bind fun t47 => (if ¬ (t47 = true) then some false else (laws_eqCellS.l0 k23 x1 x6 (IntKind.i64.wrap (x14 + 1))))) else none) else none) else some true)
def laws_eqCellS.f (k : Nat) (x1 : List Cell) (x6 : List Cell) : Option Bool := (if (x1.length : Int) ≠ (x6.length : Int) then some false else (laws_eqCellS.l0 k x1 x6 0))
theorem laws_eqCellS.calls (k : Nat) (w : World) (H : Hp) (x1 : List Cell) (A2 : Option Addr) (c3 : Nat) (x6 : List Cell) (A7 : Option Addr) (c8 : Nat) (h4 : Rd st36 H A2 x1) (l5 : x1.length ≤ c3) (h9 : Rd st36 H A7 x6) (l10 : x6.length ≤ c8) (S : Own [] H w) (r : Bool) (M : laws_eqCellS.f k x1 x6 = some r) :
    Calls Try.prog 24 #[.slice A2 x1.length c3, .slice A7 x6.length c8] w (fun e e_w => e = .returned (.bool r) ∧ Chg no w e_w) := by
  rw [laws_eqCellS.f] at M
  refine enter (l := [.slice A2 x1.length c3, .slice A7 x6.length c8]) 27 Try.func24 rfl rfl rfl ?_
  have S0_ := S.st
  refine wp_seq (wR (lV 4 (eA (.bool false)) (wN (then_n (wp_seq (wp_seq (wR ?_)))))))
  refine lV 6 (eM (.slice A2 x1.length c3)) (lV 7 (e_len (A := A2) (n := x1.length) (c := c3) Try.underlying32 (by kernel_rfl)) (lV 8 (eM (.slice A7 x6.length c8)) (lV 9 (e_len (A := A7) (n := x6.length) (c := c8) Try.underlying32 (by kernel_rfl)) (lV 10 (eNe .i64 (x1.length : Int) (x6.length : Int)) (wN (then_n ?_))))))
  by_cases q11 : (x1.length : Int) ≠ (x6.length : Int)
  · replace M := ifp q11 M
    refine cT (bT q11) (wp_seq (wR (lV 4 (eA (.bool false)) (wN (then_n (wp_ret (then_r ?_)))))))
    obtain rfl := Option.some.inj M
    exact ret1 rfl rfl  (show _ = .bool false from (by kernel_rfl)) ⟨rfl, S0_.chg⟩
  replace M := ifn q11 M
  refine cF (bF q11) (wp_skip (then_n (wp_seq (wp_seq (wR (lV 5 (eA (.int .i64 0)) (wN ?_)))))))
  refine then_n (wp_block ?_)
  refine wp_loop_g (fun k21 a22 w12 => ∃ (f13 : Nat → Value) (x14 : Int), a22 = mk 27 f13 ∧ f13 0 = .slice A2 x1.length c3 ∧ f13 1 = .slice A7 x6.length c8 ∧ f13 5 = .int .i64 x14 ∧ St (anyOf []) H w [] H w12 ∧ laws_eqCellS.l0 k21 x1 x6 x14 = some r) k ⟨_, 0, rfl, (by kernel_rfl), (by kernel_rfl), (by kernel_rfl), S0_, M⟩ ?_
  clear M
  rintro k21 a22 w12 ⟨f13, x14, rfl, e15, e16, e17, S18, M⟩
  rcases k21 with _ | k23
  · rw [laws_eqCellS.l0] at M
    cases M
  rw [laws_eqCellS.l0] at M
  refine wp_seq (wp_seq (wR (lV 11 (eM (.int .i64 x14) (by exact e17)) (lV 12 (eM (.slice A2 x1.length c3) (by exact e15)) (lV 13 (e_len (A := A2) (n := x1.length) (c := c3) Try.underlying32 (by kernel_rfl)) (lV 14 (eLt .i64 x14 (x1.length : Int)) (wN ?_)))))))
  refine then_n ?_
  by_cases q24 : x14 < (x1.length : Int)
  · replace M := ifp q24 M
    refine cT (bT q24) (wp_skip (then_n (wp_seq (wp_block (wp_seq ?_)))))
    refine region_quiet (by kernel_rfl) (by kernel_rfl) ?_
    refine qV 17 (fun wq_ hq_ => eM (.slice A2 x1.length c3) (by exact e15)) ?_
    refine qV 18 (fun wq_ hq_ => eM (.int .i64 x14) (by exact e17)) ?_
    obtain ⟨q25, M⟩ := chk M
    obtain ⟨b26, o27, e28⟩ := Rd.addr h4 (show (x14).toNat < x1.length by omega)
    obtain ⟨y29, r30, k31⟩ := Rd.at h4 e28 (getD_some z36 (show (x14).toNat < x1.length by omega))
    obtain ⟨A32, c33, rfl, l34, h35⟩ := st36_open r30
    refine qV 19 (fun wq_ hq_ => eI b26 o27 x1.length c3 3 x14 .i64 Try.underlying32 e28 q25 q24) ?_
    refine qV 20 (fun wq_ hq_ => e_loadS (b := b26) (off := o27 + (x14 : Int).toNat * 3) (cs := [.int .i64 ((x1.getD ((x14).toNat) z36).kind), .int .i64 ((x1.getD ((x14).toNat) z36).n), .slice A32 ((x1.getD ((x14).toNat) z36).text).length c33]) Try.underlying36 rfl (by kernel_rfl) (by kernel_rfl) (fun j_ u_ e_ => (hpx ((S18.still hq_).1.inv.cell (k31 j_ u_ e_))))) ?_
    refine qV 21 (fun wq_ hq_ => eM (.slice A7 x6.length c8) (by exact e16)) ?_
    refine qV 22 (fun wq_ hq_ => eM (.int .i64 x14) (by exact e17)) ?_
    obtain ⟨q36, M⟩ := chk M
    obtain ⟨b37, o38, e39⟩ := Rd.addr h9 (show (x14).toNat < x6.length by omega)
    obtain ⟨y40, r41, k42⟩ := Rd.at h9 e39 (getD_some z36 (show (x14).toNat < x6.length by omega))
    obtain ⟨A43, c44, rfl, l45, h46⟩ := st36_open r41
    refine qV 23 (fun wq_ hq_ => eI b37 o38 x6.length c8 3 x14 .i64 Try.underlying32 e39 q25 q36) ?_
    refine qV 24 (fun wq_ hq_ => e_loadS (b := b37) (off := o38 + (x14 : Int).toNat * 3) (cs := [.int .i64 ((x6.getD ((x14).toNat) z36).kind), .int .i64 ((x6.getD ((x14).toNat) z36).n), .slice A43 ((x6.getD ((x14).toNat) z36).text).length c44]) Try.underlying36 rfl (by kernel_rfl) (by kernel_rfl) (fun j_ u_ e_ => (hpx ((S18.still hq_).1.inv.cell (k42 j_ u_ e_))))) ?_
    obtain ⟨t47, u48, M⟩ := bnd M
    refine qcall (v := .bool t47) (d := 25) rfl rfl (by kernel_rfl) (fun w_ => eC [.tmp 20, .tmp 24] [.agg #[.int .i64 ((x1.getD ((x14).toNat) z36).kind), .int .i64 ((x1.getD ((x14).toNat) z36).n), .slice A32 ((x1.getD ((x14).toNat) z36).text).length c33], .agg #[.int .i64 ((x6.getD ((x14).toNat) z36).kind), .int .i64 ((x6.getD ((x14).toNat) z36).n), .slice A43 ((x6.getD ((x14).toNat) z36).text).length c44]] Try.func16) (fun wq_ hq_ => (by obtain ⟨S_, K_⟩ := S18.still hq_; exact (laws_eqCell.calls k23 wq_ H (x1.getD ((x14).toNat) z36) A32 c33 (x6.getD ((x14).toNat) z36) A43 c44 h35 l34 h46 l45 S_.own0 t47 u48))) ?_
    refine qV 26 (fun wq_ hq_ => e_notv (c := t47) (by kernel_rfl)) ?_
    refine wpQuiet_nil ?_
    intro w49 C52
    obtain ⟨S50, K51⟩ := S18.still C52
    refine then_n ?_
    by_cases q53 : ¬ (t47 = true)
    · replace M := ifp q53 M
      refine cT (bT q53) (wp_seq (wR (lV 4 (eA (.bool false)) (wN (then_n (wp_ret (inb_r ?_)))))))
      refine then_r (then_r (inb_r (then_r ?_)))
      obtain rfl := Option.some.inj M
      exact ret1 rfl rfl  (show _ = .bool false from (by kernel_rfl)) ⟨rfl, S50.chg⟩
    replace M := ifn q53 M
    refine cF (bF q53) (wp_skip (inb_n (then_n (wR (lV 15 (eM (.int .i64 x14) (by exact e17)) (lV 16 (eAdd .i64 x14 1) (lV 5 (eA (.int .i64 (IntKind.i64.wrap (x14 + 1)))) ?_)))))))
    refine wN (then_n ?_)
    exact ⟨k23, (by omega), _, (IntKind.i64.wrap (x14 + 1)), rfl, (by exact e15), (by exact e16), (by kernel_rfl), S50, M⟩
  replace M := ifn q24 M
  refine cF (bF q24) (wp_exit (then_e (then_e (inb_hit (then_n (wp_seq (wR ?_)))))))
  refine lV 4 (eA (.bool true)) (wN (then_n (wp_ret ?_)))
  obtain rfl := Option.some.inj M
  exact ret1 rfl rfl  (show _ = .bool true from (by kernel_rfl)) ⟨rfl, S18.chg⟩
end Go.Proofs.Ytnigifmkjmbfiaa
