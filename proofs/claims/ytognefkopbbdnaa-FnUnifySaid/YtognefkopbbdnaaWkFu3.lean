import Derived.Test.YtognefkopbbdnaaFu1
namespace Go.Proofs.Ytognefkopbbdnaa
open Go.Sx Go.Sy IntKind Try
attribute [local irreducible] Go.wpList Go.wpStill Go.wpQuiet Go.Code.wp
set_option maxRecDepth 100000
set_option maxHeartbeats 1000000
set_option linter.unusedVariables false
set_option linter.unusedSimpArgs false

/-! impl_unify -/
mutual
def impl_unify.l0 : Nat → (List GPair) → Int → (List (Int × Tm)) → Option (Int × (List (Int × Tm)))
  | 0, _, _, _ => none
  | k38 + 1, x23, x28, x29 => (if (x23.length : Int) > 0 then (if x28 = 20000 then some (3, x29) else (if 0 ≤ (i64.wrap ((x23.length : Int) - 1)) then (if (i64.wrap ((x23.length : Int) - 1)) < (x23.length : Int) then (if (i64.wrap ((x23.length : Int) - 1)) ≤ (x23.length : Int) then ((impl_walk.f k38 x29 ((x23.getD (((i64.wrap ((x23.length : Int) - 1))).toNat) (default : GPair)).x_)).bind fun t87 => ((impl_walk.f k38 x29 ((x23.getD (((i64.wrap ((x23.length : Int) - 1))).toNat) (default : GPair)).y_)).bind fun t100 => (if t87.kind = 0 then (if t100.kind = 0 then (if t87.n > t100.n then ((impl_bindings_set.f x29 t87.n t100).bind fun t162 => (impl_unify.l0 k38 (x23.take (((i64.wrap ((x23.length : Int) - 1)) : Int).toNat)) (i64.wrap (x28 + 1)) t162)) else (if t87.n < t100.n then ((impl_bindings_set.f x29 t100.n t87).bind fun t203 => (impl_unify.l0 k38 (x23.take (((i64.wrap ((x23.length : Int) - 1)) : Int).toNat)) (i64.wrap (x28 + 1)) t203)) else (impl_unify.l0 k38 (x23.take (((i64.wrap ((x23.length : Int) - 1)) : Int).toNat)) (i64.wrap (x28 + 1)) x29))) else ((impl_stands.f k38 x29 t87.n t100 []).bind fun t226 => (if t226 = true then some (5, x29) else ((impl_bindings_set.f x29 t87.n t100).bind fun t260 => (impl_unify.l0 k38 (x23.take (((i64.wrap ((x23.length : Int) - 1)) : Int).toNat)) (i64.wrap (x28 + 1)) t260))))) else (if t100.kind = 0 then ((impl_stands.f k38 x29 t100.n t87 []).bind fun t289 => (if t289 = true then some (5, x29) else ((impl_bindings_set.f x29 t100.n t87).bind fun t323 => (impl_unify.l0 k38 (x23.take (((i64.wrap ((x23.length : Int) - 1)) : Int).toNat)) (i64.wrap (x28 + 1)) t323)))) else (if t87.kind ≠ t100.kind then some (4, x29) else (if t87.n ≠ t100.n then some (4, x29) else (if t87.text ≠ t100.text then some (4, x29) else (impl_unify.l1 k38 x28 x29 t87 t100 (x23.take (((i64.wrap ((x23.length : Int) - 1)) : Int).toNat)) (i64.wrap ((t87.args.length : Int) - 1)))))))))) else none) else none) else none)) else some (0, x29))
def impl_unify.l1 : Nat → Int → (List (Int × Tm)) → Tm → Tm → (List GPair) → Int → Option (Int × (List (Int × Tm)))
  | 0, _, _, _, _, _, _ => none
  | k365 + 1, x28, x29, t87, t100, x348, x353 => (if x353 ≥ 0 then (if 0 ≤ x353 then (if x353 < (t87.args.length : Int) then (if x353 < (t100.args.length : Int) then (if x348.length + 1 ≤ 8796093022208 then (impl_unify.l1 k365 x28 x29 t87 t100 (x348 ++ [(⟨(t87.args.getD ((x353).toNat) (Tm.mk 0 0 [] [])), (t100.args.getD ((x353).toNat) (Tm.mk 0 0 [] []))⟩ : GPair)]) (i64.wrap (x353 - 1))) else none) else none) else none) else none) else (impl_unify.l0 k365 x348 (i64.wrap (x28 + 1)) x29))
end
def impl_unify.f (k : Nat) (x1 : List (Int × Tm)) (x4 : Tm) (x7 : Tm) : Option (Int × (List (Int × Tm))) := (impl_unify.l0 k [(⟨x4, x7⟩ : GPair)] 0 x1)
theorem impl_unify.calls (k : Nat) (w : World) (H : Hp) (x1 : List (Int × Tm)) (g2 : Nat) (x4 : Tm) (g5 : Nat) (x7 : Tm) (g8 : Nat) (h3 : MapO encI (node 125) H (hp w) g2 x1) (h6 : NodeR 125 H x4 (.pointer (some ⟨g5, 0, none⟩))) (h9 : NodeR 125 H x7 (.pointer (some ⟨g8, 0, none⟩))) (S : Own [(is g2)] H w) (r : Int × (List (Int × Tm))) (M : impl_unify.f k x1 x4 x7 = some r) :
    Calls Try.prog 91 #[.iface 109 (.map (some g2)), .pointer (some ⟨g5, 0, none⟩), .pointer (some ⟨g8, 0, none⟩)] w (fun e e_w => ∃ (H_ : Hp), e = .returned (.int .i64 r.1) ∧ MapO encI (node 125) H_ (hp e_w) g2 r.2 ∧ St (anyOf [(is g2)]) H w [(is g2)] H_ e_w) := by
  rw [impl_unify.f] at M
  refine enter (l := [.iface 109 (.map (some g2)), .pointer (some ⟨g5, 0, none⟩), .pointer (some ⟨g8, 0, none⟩)]) 192 func91 rfl rfl rfl ?_
  have S0_ := S.st
  refine wQ (wR (lV 6 (eA (.int .i64 0)) (wN (tN (wQ (wR (lV 13 (eM (.pointer (some ⟨g5, 0, none⟩))) (lV 14 (eM (.pointer (some ⟨g8, 0, none⟩))) (lV 15 (show _ = Result.ok (Next.value (.agg #[.pointer (some ⟨g5, 0, none⟩), .pointer (some ⟨g8, 0, none⟩)])) w from by kernel_rfl) ?_)))))))))
  refine lW 16 (new_blk (v := fun g_ => .slice (some ⟨g_, 0, none⟩) 1 1) (cs := #[.pointer (some ⟨g5, 0, none⟩), .pointer (some ⟨g8, 0, none⟩)]) (t := 143) S0_ kr) ?_
  rintro _ w10 ⟨g11, rfl, b12, S13, K14⟩
  replace h3 := h3.move (K14.at 0 rfl)
  have S15 := S13.unit
  have S16 := S15.pulls [(is g11), no, (is g2)] [1] rfl
  obtain ⟨h17, S18⟩ := row_lit (d := st143) (xs := [(⟨x4, x7⟩ : GPair)]) S16 b12 rfl (elsO_one1 (st143_mkO (x := (⟨x4, x7⟩ : GPair)) h6 h9)) (Nat.le_of_ble_eq_true rfl)
  refine lV 7 (eA (.slice (some ⟨g11, 0, none⟩) 1 1)) (wN (tN (wQ (wQ (wR (lV 8 (eA (.int .i64 0)) (wN (tN (wp_block ?_)))))))))
  have S39 := S18.pulls [(is g2), (or2 (is g11) no)] [1] rfl
  refine wp_loop_g (fun k36 a37 w19 => ∃ (f20 : Nat → Value) (H21 : Hp) (x23 : List GPair) (A24 : Option Addr) (c25 : Nat) (F26 : Foot) (x28 : Int) (x29 : List (Int × Tm)), a37 = mk 192 f20 ∧ f20 0 = .iface 109 (.map (some g2)) ∧ f20 7 = .slice A24 x23.length c25 ∧ f20 8 = .int .i64 x28 ∧ MapO encI (node 125) H21 (hp w19) g2 x29 ∧ Row st143 143 H21 (hp w19) F26 A24 c25 x23 ∧ Ext H H21 ∧ St (anyOf [(is g2)]) H w [(is g2), F26] H21 w19 ∧ impl_unify.l0 k36 x23 x28 x29 = some r) k ⟨_, H, [(⟨x4, x7⟩ : GPair)], (some ⟨g11, 0, none⟩), 1, (or2 (is g11) no), 0, x1, rfl, kr, kr, kr, h3, h17, (Ext.refl _), S39, M⟩ ?_
  clear M
  rintro k36 a37 w19 ⟨f20, H21, x23, A24, c25, F26, x28, x29, rfl, e30, e31, e32, h3, h27, Y22, S33, M⟩
  rcases k36 with _ | k38
  · rw [impl_unify.l0] at M
    cases M
  rw [impl_unify.l0] at M
  refine wQ (wQ (wR (lV 17 (eM (.slice A24 x23.length c25) (by exact e31)) (lV 18 (e_len (A := A24) (n := x23.length) (c := c25) underlying144 kr) (lV 19 (e_gtr (k := .i64) (a := (x23.length : Int)) (b := 0) kr rfl) (wN (tN ?_)))))))
  by_cases q40 : (x23.length : Int) > 0
  · replace M := ifp q40 M
    refine cT (bT q40) (wK (tN (wQ (wp_block (wQ (wQ (wR (lV 22 (eM (.int .i64 x28) (by exact e32)) (lV 23 (eEq .i64 x28 20000) (wN (tN ?_)))))))))))
    by_cases q41 : x28 = 20000
    · replace M := ifp q41 M
      refine cT (bT q41) (wQ (wR (lV 6 (eA (.int .i64 3)) (wN (tN (wT (tR ?_)))))))
      refine inb_r (tR (tR (inb_r (tR ?_))))
      obtain rfl := sj M
      have S42 := St.first (Fa := [(is g2)]) (Fr := [F26]) S33
      exact ret1 rfl rfl  (show _ = .int .i64 3 from kr) ⟨H21, rfl, h3, S42⟩
    replace M := ifn q41 M
    refine cF (bF q41) (wK (tN (wQ (wR (lV 24 (eM (.slice A24 x23.length c25) (by exact e31)) (lV 25 (eM (.slice A24 x23.length c25) (by exact e31)) (lV 26 (e_len (A := A24) (n := x23.length) (c := c25) underlying144 kr) (lV 27 (e_sub (k := .i64) (a := (x23.length : Int)) (b := 1) kr rfl) ?_))))))))
    obtain ⟨q43, M⟩ := chk M
    obtain ⟨q44, M⟩ := chk M
    obtain ⟨b45, e47⟩ := Row.addr h27 (show ((i64.wrap ((x23.length : Int) - 1))).toNat < x23.length by omega)
    refine lV 28 (eI b45 0 x23.length c25 2 (i64.wrap ((x23.length : Int) - 1)) .i64 underlying144 e47 q43 q44) ?_
    obtain ⟨y48, F49, r50, s51, k52⟩ := Row.at h27 e47 (getD_some (default : GPair) (show ((i64.wrap ((x23.length : Int) - 1))).toNat < x23.length by omega))
    obtain ⟨g53, g55, rfl, h54, h56⟩ := st143_openO r50
    refine lV 29 (e_loadS (b := b45) (off := 0 + ((i64.wrap ((x23.length : Int) - 1)) : Int).toNat * 2) (cs := [.pointer (some ⟨g53, 0, none⟩), .pointer (some ⟨g55, 0, none⟩)]) underlying143 rfl kr kr (fun j_ u_ e_ => (hpx (k52 j_ u_ e_)))) ?_
    refine lW 9 (nB #[.pointer none, .pointer none] 143 S33) ?_
    rintro _ w57 ⟨g58, rfl, b59, S60, K61⟩
    replace h3 := h3.move (K61.at 0 rfl)
    replace h27 := h27.move (K61.at 1 rfl)
    refine lE (eSa g58 0 [.pointer (some ⟨g53, 0, none⟩), .pointer (some ⟨g55, 0, none⟩)] S60 b59) ?_
    rintro w62 ⟨b63, S64, K65⟩
    replace h3 := h3.move (K65.at 0 rfl)
    replace h27 := h27.move (K65.at 1 rfl)
    clear b59
    refine wN (tN (wQ (wR (lV 30 (eM (.slice A24 x23.length c25) (by exact e31)) (lV 31 (eM (.slice A24 x23.length c25) (by exact e31)) (lV 32 (e_len (A := A24) (n := x23.length) (c := c25) underlying144 kr) (lV 33 (e_sub (k := .i64) (a := (x23.length : Int)) (b := 1) kr rfl) ?_)))))))
    obtain ⟨q66, M⟩ := chk M
    refine lV 34 (e_slice_h (xs := x23) (n := x23.length) (m := 2) (cap := c25) (A := A24) (b := (i64.wrap ((x23.length : Int) - 1))) (k2 := .i64) underlying144 kr kr kr q43 q66 (by have := h27.le; have := (rfl : x23.length = x23.length); omega) (take_len q43 q66 rfl)) ?_
    have h67 := h27.cut (n := ((i64.wrap ((x23.length : Int) - 1)) : Int).toNat) (by have := (rfl : x23.length = x23.length); omega)
    clear h27
    refine lV 7 (eA (.slice A24 ((x23.take (((i64.wrap ((x23.length : Int) - 1)) : Int).toNat)).length) c25)) (wN (tN (wQ ?_)))
    refine region_mix (S := (fun (L_ : Array Bool) (w_ : World) => Ext H21 (hp w_) ∧ (∀ b_, (is g58) b_ → hp w_ b_ = hp w62 b_))) kr S64 ?_
    intro w68 S69 K70 hc71
    have o72 := b63
    have hs73 : (fun (L_ : Array Bool) (w_ : World) => Ext H21 (hp w_) ∧ (∀ b_, (is g58) b_ → hp w_ b_ = hp w62 b_)) (Array.replicate 10 false) w68 := ⟨S69.inv, (fun b_ h_ => K70.at 0 rfl b_ h_)⟩
    replace h3 := h3.move (K70.at 1 rfl)
    replace h67 := h67.move (K70.at 2 rfl)
    refine xV 0 35 rfl hc71 hs73 (fun L_ w_ hc_ hu_ hs_ => eM (.iface 109 (.map (some g2))) (by exact e30)) ?_; intro hc74 hs75
    refine xV 1 36 rfl hc74 hs75 (fun L_ w_ hc_ hu_ hs_ => eD g58 0 0 1 underlying143) ?_; intro hc76 hs77
    refine xV 2 37 rfl hc76 hs77 (fun L_ w_ hc_ hu_ hs_ => eL ⟨g58, 0 + 0, none⟩ (.pointer (some ⟨g53, 0, none⟩)) underlying74 (blk_cell ((hs_.2 _ rfl).trans o72) rfl)) ?_; intro hc78 hs79
    refine xV 4 39 rfl hc78 hs79 (fun L_ w_ hc_ hu_ hs_ => eM (.iface 109 (.map (some g2))) (by exact e30)) ?_; intro hc80 hs81
    refine xV 5 40 rfl hc80 hs81 (fun L_ w_ hc_ hu_ hs_ => eD g58 0 1 1 underlying143) ?_; intro hc82 hs83
    refine xV 6 41 rfl hc82 hs83 (fun L_ w_ hc_ hu_ hs_ => eL ⟨g58, 0 + 1, none⟩ (.pointer (some ⟨g55, 0, none⟩)) underlying74 (blk_cell ((hs_.2 _ rfl).trans o72) rfl)) ?_; intro hc84 hs85
    have S86 := S69.pulls [(is g2), (is g58), F26] [1] rfl
    obtain ⟨t87, u88, M⟩ := bnd M
    refine xO 3 hc84 ?_
    refine yC 3 rfl (eC [.tmp 35, .tmp 37] [.iface 109 (.map (some g2)), .pointer (some ⟨g53, 0, none⟩)] func119) (impl_walk.calls k38 w68 H21 x29 g2 ((x23.getD (((i64.wrap ((x23.length : Int) - 1))).toNat) (default : GPair)).x_) g53 h3 h54 (St.own' (Fa := [(is g2)]) (Fr := [(is g58), F26]) S86) t87 u88) ?_
    rintro hc95 _ w89 ⟨g93, H90, rfl, h92, h94, T91⟩
    refine ⟨_, rfl, ?_⟩
    obtain ⟨S96, K97⟩ := St.call (Fa := [(is g2)]) (Fr := [(is g58), F26]) S86 T91
    replace h67 := h67.move (K97.at 1 rfl)
    have E98 := T91.ext
    replace h67 := h67.ext E98
    refine ⟨⟨(Ext.trans E98 S96.inv), (fun b_ h_ => (K97.at 0 rfl b_ h_).trans (hs85.2 b_ h_))⟩, fun hs99 => ?_⟩
    obtain ⟨t100, u101, M⟩ := bnd M
    refine xO 7 hc95 ?_
    refine yC 7 rfl (eC [.tmp 39, .tmp 41] [.iface 109 (.map (some g2)), .pointer (some ⟨g55, 0, none⟩)] func119) (impl_walk.calls k38 w89 H90 x29 g2 ((x23.getD (((i64.wrap ((x23.length : Int) - 1))).toNat) (default : GPair)).y_) g55 h92 (h56.ext' E98) (St.own' (Fa := [(is g2)]) (Fr := [(is g58), F26]) S96) t100 u101) ?_
    rintro hc108 _ w102 ⟨g106, H103, rfl, h105, h107, T104⟩
    refine ⟨_, rfl, ?_⟩
    obtain ⟨S109, K110⟩ := St.call (Fa := [(is g2)]) (Fr := [(is g58), F26]) S96 T104
    replace h67 := h67.move (K110.at 1 rfl)
    have E111 := T104.ext
    replace h67 := h67.ext E111
    refine ⟨⟨(Ext.trans (E98.trans E111) S109.inv), (fun b_ h_ => (K110.at 0 rfl b_ h_).trans (hs99.2 b_ h_))⟩, fun hs112 => ?_⟩
    refine xO 8 hc108 ?_
    refine yO 8 10 rfl hs112 (eA (.pointer (some ⟨g93, 0, none⟩))) ?_; intro hc113 hs114
    refine xO 9 hc113 ?_
    refine yO 9 11 rfl hs114 (eA (.pointer (some ⟨g106, 0, none⟩))) ?_; intro hc115 hs116
    refine xn kr ?_ _
    refine tN (wp_block (wQ (wR (lV 72 (eM (.pointer (some ⟨g93, 0, none⟩))) (lV 73 (eN ⟨g93, 0, none⟩) (lV 74 (eD g93 0 0 1 underlying125) ?_))))))
    obtain ⟨A117, c118, y119, q120, h121, h122, l123, h124⟩ := node_open h94
    refine lV 75 (eL ⟨g93, 0 + 0, none⟩ (.int .i64 t87.kind) underlying3 (blk_cells (S109.inv _ _ (E111 _ _ h121)) h122 0 _ rfl)) (lV 76 (eEq .i64 t87.kind 0) (lV 77 (eM (.bool (decide (t87.kind = 0)))) ?_))
    by_cases q125 : t87.kind = 0
    · replace M := ifp q125 M
      refine lG 78 77 (bT q125) (eM (.pointer (some ⟨g106, 0, none⟩))) (lG 79 77 (bT q125) (eN ⟨g106, 0, none⟩) (lG 80 77 (bT q125) (eD g106 0 0 1 underlying125) ?_))
      obtain ⟨A126, c127, y128, q129, h130, h131, l132, h133⟩ := node_open h107
      refine lG 81 77 (bT q125) (eL ⟨g106, 0 + 0, none⟩ (.int .i64 t100.kind) underlying3 (blk_cells (S109.inv _ _ h130) h131 0 _ rfl)) (lG 82 77 (bT q125) (eEq .i64 t100.kind 0) (lV 83 (eT (.bool (decide (t100.kind = 0))) (bT q125)) (lV 71 (eA (.bool (decide (t100.kind = 0)))) (wN (tN ?_)))))
      by_cases q134 : t100.kind = 0
      · replace M := ifp q134 M
        refine cT (bT q134) (wQ ?_)
        refine region_still kr kr S109 ?_
        intro w135 S136 K137
        replace h105 := h105.move (K137.at 0 rfl)
        replace h67 := h67.move (K137.at 2 rfl)
        refine sV 84 (eM (.pointer (some ⟨g93, 0, none⟩))) (sV 85 (eN ⟨g93, 0, none⟩) (sV 86 (eD g93 0 1 1 underlying125) (sV 87 (eL ⟨g93, 0 + 1, none⟩ (.int .i64 t87.n) underlying3 (blk_cells (S136.inv _ _ (E111 _ _ h121)) h122 1 _ rfl)) (sV 88 (eM (.pointer (some ⟨g106, 0, none⟩))) (sV 89 (eN ⟨g106, 0, none⟩) (sV 90 (eD g106 0 1 1 underlying125) (sV 91 (eL ⟨g106, 0 + 1, none⟩ (.int .i64 t100.n) underlying3 (blk_cells (S136.inv _ _ h130) h131 1 _ rfl)) (sV 92 (e_gtr (k := .i64) (a := t87.n) (b := t100.n) kr kr) (wpStill_nil (tN ?_))))))))))
        by_cases q138 : t87.n > t100.n
        · replace M := ifp q138 M
          refine cT (bT q138) ?_
          refine region_mix (S := (fun (L_ : Array Bool) (w_ : World) => Ext H103 (hp w_) ∧ True)) kr S136 ?_
          intro w139 S140 K141 hc142
          have hs143 : (fun (L_ : Array Bool) (w_ : World) => Ext H103 (hp w_) ∧ True) (Array.replicate 10 false) w139 := ⟨S140.inv, trivial⟩
          replace h105 := h105.move (K141.at 0 rfl)
          replace h67 := h67.move (K141.at 2 rfl)
          refine xV 0 93 rfl hc142 hs143 (fun L_ w_ hc_ hu_ hs_ => eM (.iface 109 (.map (some g2))) (by exact e30)) ?_; intro hc144 hs145
          refine xV 1 94 rfl hc144 hs145 (fun L_ w_ hc_ hu_ hs_ => eM (.pointer (some ⟨g93, 0, none⟩))) ?_; intro hc146 hs147
          refine xV 2 95 rfl hc146 hs147 (fun L_ w_ hc_ hu_ hs_ => eN ⟨g93, 0, none⟩) ?_; intro hc148 hs149
          refine xV 3 96 rfl hc148 hs149 (fun L_ w_ hc_ hu_ hs_ => eD g93 0 1 1 underlying125) ?_; intro hc150 hs151
          refine xV 4 97 rfl hc150 hs151 (fun L_ w_ hc_ hu_ hs_ => eL ⟨g93, 0 + 1, none⟩ (.int .i64 t87.n) underlying3 (blk_cells (hs_.1 _ _ (E111 _ _ h121)) h122 1 _ rfl)) ?_; intro hc152 hs153
          refine xV 5 98 rfl hc152 hs153 (fun L_ w_ hc_ hu_ hs_ => eM (.pointer (some ⟨g106, 0, none⟩))) ?_; intro hc154 hs155
          refine xO 6 hc154 ?_
          refine yO 6 99 rfl hs155 (e_makeFuncM (n := "loop.example/s00095/impl.set") (v := .iface 109 (.map (some g2))) kr) ?_; intro hc156 hs157
          refine xO 7 hc156 ?_
          refine yO 7 100 rfl hs157 (e_nilCheckM (n := "loop.example/s00095/impl.set") (t := 109) (v := .map (some g2)) kr kr) ?_; intro hc158 hs159
          refine xO 8 hc158 ?_
          refine yO 8 101 rfl hs159 (eM (.iface 109 (.map (some g2)))) ?_; intro hc160 hs161
          obtain ⟨t162, u163, M⟩ := bnd M
          refine xO 9 hc160 ?_
          refine yC 9 rfl (e_invoke (f := 170) (t := 109) (n := "loop.example/s00095/impl.set") (l := [.tmp 97, .tmp 98]) (vs := [.int .i64 t87.n, .pointer (some ⟨g106, 0, none⟩)]) kr kr kr) (impl_bindings_set.calls w139 H103 x29 g2 t87.n t100 g106 h105 h107 (St.own' (Fa := [(is g2)]) (Fr := [(is g58), F26]) S140) t162 u163) ?_
          rintro hc168 _ w164 ⟨H165, rfl, h167, T166⟩
          refine ⟨_, rfl, ?_⟩
          obtain ⟨S169, K170⟩ := St.call (Fa := [(is g2)]) (Fr := [(is g58), F26]) S140 T166
          replace h67 := h67.move (K170.at 1 rfl)
          have E171 := T166.ext
          replace h67 := h67.ext E171
          refine ⟨⟨(Ext.trans E171 S169.inv), trivial⟩, fun hs172 => ?_⟩
          refine xn kr ?_ _
          refine inb_n (inb_n (tN (wR (lV 20 (eM (.int .i64 x28) (by exact e32)) (lV 21 (eAdd .i64 x28 1) (lV 8 (eA (.int .i64 (i64.wrap (x28 + 1)))) (wN (tN ?_))))))))
          have S174 := S169.pulls [(is g2), F26, (is g58)] [2, 1] rfl
          have S175 := St.first (Fa := [(is g2), F26]) (Fr := [(is g58)]) S174
          exact ⟨k38, (by omega), _, H165, (x23.take (((i64.wrap ((x23.length : Int) - 1)) : Int).toNat)), A24, c25, F26, (i64.wrap (x28 + 1)), t162, rfl, (by exact e30), kr, kr, h167, h67, (((Y22.trans E98).trans E111).trans E171), S175, M⟩
        replace M := ifn q138 M
        refine cF (bF q138) (wQ ?_)
        refine region_still kr kr S136 ?_
        intro w176 S177 K178
        replace h105 := h105.move (K178.at 0 rfl)
        replace h67 := h67.move (K178.at 2 rfl)
        refine sV 103 (eM (.pointer (some ⟨g93, 0, none⟩))) (sV 104 (eN ⟨g93, 0, none⟩) (sV 105 (eD g93 0 1 1 underlying125) (sV 106 (eL ⟨g93, 0 + 1, none⟩ (.int .i64 t87.n) underlying3 (blk_cells (S177.inv _ _ (E111 _ _ h121)) h122 1 _ rfl)) (sV 107 (eM (.pointer (some ⟨g106, 0, none⟩))) (sV 108 (eN ⟨g106, 0, none⟩) (sV 109 (eD g106 0 1 1 underlying125) (sV 110 (eL ⟨g106, 0 + 1, none⟩ (.int .i64 t100.n) underlying3 (blk_cells (S177.inv _ _ h130) h131 1 _ rfl)) (sV 111 (eLt .i64 t87.n t100.n) (wpStill_nil (tN ?_))))))))))
        by_cases q179 : t87.n < t100.n
        · replace M := ifp q179 M
          refine cT (bT q179) ?_
          refine region_mix (S := (fun (L_ : Array Bool) (w_ : World) => Ext H103 (hp w_) ∧ True)) kr S177 ?_
          intro w180 S181 K182 hc183
          have hs184 : (fun (L_ : Array Bool) (w_ : World) => Ext H103 (hp w_) ∧ True) (Array.replicate 10 false) w180 := ⟨S181.inv, trivial⟩
          replace h105 := h105.move (K182.at 0 rfl)
          replace h67 := h67.move (K182.at 2 rfl)
          refine xV 0 112 rfl hc183 hs184 (fun L_ w_ hc_ hu_ hs_ => eM (.iface 109 (.map (some g2))) (by exact e30)) ?_; intro hc185 hs186
          refine xV 1 113 rfl hc185 hs186 (fun L_ w_ hc_ hu_ hs_ => eM (.pointer (some ⟨g106, 0, none⟩))) ?_; intro hc187 hs188
          refine xV 2 114 rfl hc187 hs188 (fun L_ w_ hc_ hu_ hs_ => eN ⟨g106, 0, none⟩) ?_; intro hc189 hs190
          refine xV 3 115 rfl hc189 hs190 (fun L_ w_ hc_ hu_ hs_ => eD g106 0 1 1 underlying125) ?_; intro hc191 hs192
          refine xV 4 116 rfl hc191 hs192 (fun L_ w_ hc_ hu_ hs_ => eL ⟨g106, 0 + 1, none⟩ (.int .i64 t100.n) underlying3 (blk_cells (hs_.1 _ _ h130) h131 1 _ rfl)) ?_; intro hc193 hs194
          refine xV 5 117 rfl hc193 hs194 (fun L_ w_ hc_ hu_ hs_ => eM (.pointer (some ⟨g93, 0, none⟩))) ?_; intro hc195 hs196
          refine xO 6 hc195 ?_
          refine yO 6 118 rfl hs196 (e_makeFuncM (n := "loop.example/s00095/impl.set") (v := .iface 109 (.map (some g2))) kr) ?_; intro hc197 hs198
          refine xO 7 hc197 ?_
          refine yO 7 119 rfl hs198 (e_nilCheckM (n := "loop.example/s00095/impl.set") (t := 109) (v := .map (some g2)) kr kr) ?_; intro hc199 hs200
          refine xO 8 hc199 ?_
          refine yO 8 120 rfl hs200 (eM (.iface 109 (.map (some g2)))) ?_; intro hc201 hs202
          obtain ⟨t203, u204, M⟩ := bnd M
          refine xO 9 hc201 ?_
          refine yC 9 rfl (e_invoke (f := 170) (t := 109) (n := "loop.example/s00095/impl.set") (l := [.tmp 116, .tmp 117]) (vs := [.int .i64 t100.n, .pointer (some ⟨g93, 0, none⟩)]) kr kr kr) (impl_bindings_set.calls w180 H103 x29 g2 t100.n t87 g93 h105 (h94.ext' E111) (St.own' (Fa := [(is g2)]) (Fr := [(is g58), F26]) S181) t203 u204) ?_
          rintro hc209 _ w205 ⟨H206, rfl, h208, T207⟩
          refine ⟨_, rfl, ?_⟩
          obtain ⟨S210, K211⟩ := St.call (Fa := [(is g2)]) (Fr := [(is g58), F26]) S181 T207
          replace h67 := h67.move (K211.at 1 rfl)
          have E212 := T207.ext
          replace h67 := h67.ext E212
          refine ⟨⟨(Ext.trans E212 S210.inv), trivial⟩, fun hs213 => ?_⟩
          refine xn kr ?_ _
          refine inb_n (inb_n (tN (wR (lV 20 (eM (.int .i64 x28) (by exact e32)) (lV 21 (eAdd .i64 x28 1) (lV 8 (eA (.int .i64 (i64.wrap (x28 + 1)))) (wN (tN ?_))))))))
          have S215 := S210.pulls [(is g2), F26, (is g58)] [2, 1] rfl
          have S216 := St.first (Fa := [(is g2), F26]) (Fr := [(is g58)]) S215
          exact ⟨k38, (by omega), _, H206, (x23.take (((i64.wrap ((x23.length : Int) - 1)) : Int).toNat)), A24, c25, F26, (i64.wrap (x28 + 1)), t203, rfl, (by exact e30), kr, kr, h208, h67, (((Y22.trans E98).trans E111).trans E212), S216, M⟩
        replace M := ifn q179 M
        refine cF (bF q179) (wK (inb_n (inb_n (tN (wR (lV 20 (eM (.int .i64 x28) (by exact e32)) (lV 21 (eAdd .i64 x28 1) (lV 8 (eA (.int .i64 (i64.wrap (x28 + 1)))) (wN (tN ?_))))))))))
        have S218 := S177.pulls [(is g2), F26, (is g58)] [2, 1] rfl
        have S219 := St.first (Fa := [(is g2), F26]) (Fr := [(is g58)]) S218
        exact ⟨k38, (by omega), _, H103, (x23.take (((i64.wrap ((x23.length : Int) - 1)) : Int).toNat)), A24, c25, F26, (i64.wrap (x28 + 1)), x29, rfl, (by exact e30), kr, kr, h105, h67, ((Y22.trans E98).trans E111), S219, M⟩
      replace M := ifn q134 M
      refine cF (bF q134) (wQ (wR (lV 123 (eM (.pointer (some ⟨g93, 0, none⟩))) (lV 124 (eN ⟨g93, 0, none⟩) (lV 125 (eD g93 0 0 1 underlying125) (lV 126 (eL ⟨g93, 0 + 0, none⟩ (.int .i64 t87.kind) underlying3 (blk_cells (S109.inv _ _ (E111 _ _ h121)) h122 0 _ rfl)) (lV 127 (eEq .i64 t87.kind 0) (lV 128 (eM (.bool (decide (t87.kind = 0)))) (lK 128 true (bT q125) ?_)))))))))
      refine lK 128 true (bT q125) ?_
      refine lK 128 true (bT q125) ?_
      refine lK 128 true (bT q125) ?_
      refine lK 128 true (bT q125) ?_
      refine lV 134 (eT (.bool true) (bT q125)) (lV 122 (eA (.bool true)) (wN (tN (cond_t rfl kr (wQ (wQ (wR (lV 135 (eM (.pointer (some ⟨g106, 0, none⟩))) (lV 136 (eN ⟨g106, 0, none⟩) (lV 137 (eD g106 0 0 1 underlying125) (lV 138 (eL ⟨g106, 0 + 0, none⟩ (.int .i64 t100.kind) underlying3 (blk_cells (S109.inv _ _ h130) h131 0 _ rfl)) (lV 139 (eEq .i64 t100.kind 0) (wN (tN (cF (bF q134) ?_)))))))))))))))
      refine wK (tN (wQ (wQ (wR (lV 142 (eM (.iface 109 (.map (some g2))) (by exact e30)) (lV 143 (eM (.pointer (some ⟨g93, 0, none⟩))) (lV 144 (eN ⟨g93, 0, none⟩) (lV 145 (eD g93 0 1 1 underlying125) (lV 146 (eL ⟨g93, 0 + 1, none⟩ (.int .i64 t87.n) underlying3 (blk_cells (S109.inv _ _ (E111 _ _ h121)) h122 1 _ rfl)) (lV 147 (eM (.pointer (some ⟨g106, 0, none⟩))) ?_))))))))))
      refine lW 148 (e_makeMap S109 encP tBool) ?_
      rintro _ w220 ⟨g221, rfl, h222, S223, K224⟩
      replace h105 := h105.move (K224.at 0 rfl)
      replace h67 := h67.move (K224.at 2 rfl)
      have S225 := S223.pulls [(is g2), (is g221), (is g58), F26] [1] rfl
      obtain ⟨t226, u227, M⟩ := bnd M
      refine lC 149 (eC [.tmp 142, .tmp 146, .tmp 147, .tmp 148] [.iface 109 (.map (some g2)), .int .i64 t87.n, .pointer (some ⟨g106, 0, none⟩), .map (some g221)] func120) (impl_stands.calls k38 w220 H103 x29 g2 t87.n t100 g106 [] g221 h105 h107 h222 (St.own' (Fa := [(is g2), (is g221)]) (Fr := [(is g58), F26]) S225) t226 u227) ?_
      rintro _ w228 ⟨H229, rfl, h231, T230⟩
      refine ⟨_, rfl, ?_⟩
      obtain ⟨S232, K233⟩ := St.call (Fa := [(is g2), (is g221)]) (Fr := [(is g58), F26]) S225 T230
      replace h67 := h67.move (K233.at 1 rfl)
      have E234 := T230.ext
      replace h67 := h67.ext E234
      refine wN (tN ?_)
      by_cases q235 : t226 = true
      · replace M := ifp q235 M
        refine cT (bvt q235 kr) (wQ (wR (lV 6 (eA (.int .i64 5)) (wN (tN (wT (tR ?_)))))))
        refine inb_r (inb_r (tR (tR (inb_r (tR ?_)))))
        obtain rfl := sj M
        have S236 := St.first (Fa := [(is g2)]) (Fr := [(is g58), F26]) S232
        exact ret1 rfl rfl  (show _ = .int .i64 5 from kr) ⟨H229, rfl, h231, S236⟩
      replace M := ifn q235 M
      refine cF (bvf q235 kr) (wK (tN ?_))
      refine region_mix (S := (fun (L_ : Array Bool) (w_ : World) => Ext H229 (hp w_) ∧ True)) kr S232 ?_
      intro w237 S238 K239 hc240
      have hs241 : (fun (L_ : Array Bool) (w_ : World) => Ext H229 (hp w_) ∧ True) (Array.replicate 10 false) w237 := ⟨S238.inv, trivial⟩
      replace h231 := h231.move (K239.at 0 rfl)
      replace h67 := h67.move (K239.at 2 rfl)
      refine xV 0 150 rfl hc240 hs241 (fun L_ w_ hc_ hu_ hs_ => eM (.iface 109 (.map (some g2))) (by exact e30)) ?_; intro hc242 hs243
      refine xV 1 151 rfl hc242 hs243 (fun L_ w_ hc_ hu_ hs_ => eM (.pointer (some ⟨g93, 0, none⟩))) ?_; intro hc244 hs245
      refine xV 2 152 rfl hc244 hs245 (fun L_ w_ hc_ hu_ hs_ => eN ⟨g93, 0, none⟩) ?_; intro hc246 hs247
      refine xV 3 153 rfl hc246 hs247 (fun L_ w_ hc_ hu_ hs_ => eD g93 0 1 1 underlying125) ?_; intro hc248 hs249
      refine xV 4 154 rfl hc248 hs249 (fun L_ w_ hc_ hu_ hs_ => eL ⟨g93, 0 + 1, none⟩ (.int .i64 t87.n) underlying3 (blk_cells (hs_.1 _ _ ((E111.trans E234) _ _ h121)) h122 1 _ rfl)) ?_; intro hc250 hs251
      refine xV 5 155 rfl hc250 hs251 (fun L_ w_ hc_ hu_ hs_ => eM (.pointer (some ⟨g106, 0, none⟩))) ?_; intro hc252 hs253
      refine xO 6 hc252 ?_
      refine yO 6 156 rfl hs253 (e_makeFuncM (n := "loop.example/s00095/impl.set") (v := .iface 109 (.map (some g2))) kr) ?_; intro hc254 hs255
      refine xO 7 hc254 ?_
      refine yO 7 157 rfl hs255 (e_nilCheckM (n := "loop.example/s00095/impl.set") (t := 109) (v := .map (some g2)) kr kr) ?_; intro hc256 hs257
      refine xO 8 hc256 ?_
      refine yO 8 158 rfl hs257 (eM (.iface 109 (.map (some g2)))) ?_; intro hc258 hs259
      obtain ⟨t260, u261, M⟩ := bnd M
      refine xO 9 hc258 ?_
      refine yC 9 rfl (e_invoke (f := 170) (t := 109) (n := "loop.example/s00095/impl.set") (l := [.tmp 154, .tmp 155]) (vs := [.int .i64 t87.n, .pointer (some ⟨g106, 0, none⟩)]) kr kr kr) (impl_bindings_set.calls w237 H229 x29 g2 t87.n t100 g106 h231 (h107.ext' E234) (St.own' (Fa := [(is g2)]) (Fr := [(is g58), F26]) S238) t260 u261) ?_
      rintro hc266 _ w262 ⟨H263, rfl, h265, T264⟩
      refine ⟨_, rfl, ?_⟩
      obtain ⟨S267, K268⟩ := St.call (Fa := [(is g2)]) (Fr := [(is g58), F26]) S238 T264
      replace h67 := h67.move (K268.at 1 rfl)
      have E269 := T264.ext
      replace h67 := h67.ext E269
      refine ⟨⟨(Ext.trans E269 S267.inv), trivial⟩, fun hs270 => ?_⟩
      refine xn kr ?_ _
      refine inb_n (inb_n (tN (wR (lV 20 (eM (.int .i64 x28) (by exact e32)) (lV 21 (eAdd .i64 x28 1) (lV 8 (eA (.int .i64 (i64.wrap (x28 + 1)))) (wN (tN ?_))))))))
      have S272 := S267.pulls [(is g2), F26, (is g58)] [2, 1] rfl
      have S273 := St.first (Fa := [(is g2), F26]) (Fr := [(is g58)]) S272
      exact ⟨k38, (by omega), _, H263, (x23.take (((i64.wrap ((x23.length : Int) - 1)) : Int).toNat)), A24, c25, F26, (i64.wrap (x28 + 1)), t260, rfl, (by exact e30), kr, kr, h265, h67, ((((Y22.trans E98).trans E111).trans E234).trans E269), S273, M⟩
    replace M := ifn q125 M
    refine lK 77 false (bF q125) ?_
    refine lK 77 false (bF q125) ?_
    refine lK 77 false (bF q125) ?_
    refine lK 77 false (bF q125) ?_
    refine lK 77 false (bF q125) ?_
    refine lV 83 (eF (.bool false) (bF q125)) (lV 71 (eA (.bool false)) (wN (tN (cond_f rfl kr (wQ (wR (lV 123 (eM (.pointer (some ⟨g93, 0, none⟩))) (lV 124 (eN ⟨g93, 0, none⟩) (lV 125 (eD g93 0 0 1 underlying125) (lV 126 (eL ⟨g93, 0 + 0, none⟩ (.int .i64 t87.kind) underlying3 (blk_cells (S109.inv _ _ (E111 _ _ h121)) h122 0 _ rfl)) (lV 127 (eEq .i64 t87.kind 0) (lV 128 (eM (.bool (decide (t87.kind = 0)))) (lG 129 128 (bF q125) (eM (.pointer (some ⟨g106, 0, none⟩))) (lG 130 128 (bF q125) (eN ⟨g106, 0, none⟩) (lG 131 128 (bF q125) (eD g106 0 0 1 underlying125) ?_)))))))))))))))
    obtain ⟨A274, c275, y276, q277, h278, h279, l280, h281⟩ := node_open h107
    refine lG 132 128 (bF q125) (eL ⟨g106, 0 + 0, none⟩ (.int .i64 t100.kind) underlying3 (blk_cells (S109.inv _ _ h278) h279 0 _ rfl)) (lG 133 128 (bF q125) (eEq .i64 t100.kind 0) (lV 134 (eF (.bool (decide (t100.kind = 0))) (bF q125)) (lV 122 (eA (.bool (decide (t100.kind = 0)))) (wN (tN ?_)))))
    by_cases q282 : t100.kind = 0
    · replace M := ifp q282 M
      refine cT (bT q282) (wQ (wQ (wR (lV 135 (eM (.pointer (some ⟨g106, 0, none⟩))) (lV 136 (eN ⟨g106, 0, none⟩) (lV 137 (eD g106 0 0 1 underlying125) (lV 138 (eL ⟨g106, 0 + 0, none⟩ (.int .i64 t100.kind) underlying3 (blk_cells (S109.inv _ _ h278) h279 0 _ rfl)) (lV 139 (eEq .i64 t100.kind 0) (wN (tN (cT (bT q282) (wR (lV 140 (eM (.pointer (some ⟨g106, 0, none⟩))) (lV 141 (eM (.pointer (some ⟨g93, 0, none⟩))) (lV 10 (eA (.pointer (some ⟨g106, 0, none⟩))) (lV 11 (eA (.pointer (some ⟨g93, 0, none⟩))) (wN (tN (wQ (wQ (wR (lV 142 (eM (.iface 109 (.map (some g2))) (by exact e30)) (lV 143 (eM (.pointer (some ⟨g106, 0, none⟩))) (lV 144 (eN ⟨g106, 0, none⟩) (lV 145 (eD g106 0 1 1 underlying125) (lV 146 (eL ⟨g106, 0 + 1, none⟩ (.int .i64 t100.n) underlying3 (blk_cells (S109.inv _ _ h278) h279 1 _ rfl)) (lV 147 (eM (.pointer (some ⟨g93, 0, none⟩))) ?_)))))))))))))))))))))))))))
      refine lW 148 (e_makeMap S109 encP tBool) ?_
      rintro _ w283 ⟨g284, rfl, h285, S286, K287⟩
      replace h105 := h105.move (K287.at 0 rfl)
      replace h67 := h67.move (K287.at 2 rfl)
      have S288 := S286.pulls [(is g2), (is g284), (is g58), F26] [1] rfl
      obtain ⟨t289, u290, M⟩ := bnd M
      refine lC 149 (eC [.tmp 142, .tmp 146, .tmp 147, .tmp 148] [.iface 109 (.map (some g2)), .int .i64 t100.n, .pointer (some ⟨g93, 0, none⟩), .map (some g284)] func120) (impl_stands.calls k38 w283 H103 x29 g2 t100.n t87 g93 [] g284 h105 (h94.ext' E111) h285 (St.own' (Fa := [(is g2), (is g284)]) (Fr := [(is g58), F26]) S288) t289 u290) ?_
      rintro _ w291 ⟨H292, rfl, h294, T293⟩
      refine ⟨_, rfl, ?_⟩
      obtain ⟨S295, K296⟩ := St.call (Fa := [(is g2), (is g284)]) (Fr := [(is g58), F26]) S288 T293
      replace h67 := h67.move (K296.at 1 rfl)
      have E297 := T293.ext
      replace h67 := h67.ext E297
      refine wN (tN ?_)
      by_cases q298 : t289 = true
      · replace M := ifp q298 M
        refine cT (bvt q298 kr) (wQ (wR (lV 6 (eA (.int .i64 5)) (wN (tN (wT (tR ?_)))))))
        refine inb_r (inb_r (tR (tR (inb_r (tR ?_)))))
        obtain rfl := sj M
        have S299 := St.first (Fa := [(is g2)]) (Fr := [(is g58), F26]) S295
        exact ret1 rfl rfl  (show _ = .int .i64 5 from kr) ⟨H292, rfl, h294, S299⟩
      replace M := ifn q298 M
      refine cF (bvf q298 kr) (wK (tN ?_))
      refine region_mix (S := (fun (L_ : Array Bool) (w_ : World) => Ext H292 (hp w_) ∧ True)) kr S295 ?_
      intro w300 S301 K302 hc303
      have hs304 : (fun (L_ : Array Bool) (w_ : World) => Ext H292 (hp w_) ∧ True) (Array.replicate 10 false) w300 := ⟨S301.inv, trivial⟩
      replace h294 := h294.move (K302.at 0 rfl)
      replace h67 := h67.move (K302.at 2 rfl)
      refine xV 0 150 rfl hc303 hs304 (fun L_ w_ hc_ hu_ hs_ => eM (.iface 109 (.map (some g2))) (by exact e30)) ?_; intro hc305 hs306
      refine xV 1 151 rfl hc305 hs306 (fun L_ w_ hc_ hu_ hs_ => eM (.pointer (some ⟨g106, 0, none⟩))) ?_; intro hc307 hs308
      refine xV 2 152 rfl hc307 hs308 (fun L_ w_ hc_ hu_ hs_ => eN ⟨g106, 0, none⟩) ?_; intro hc309 hs310
      refine xV 3 153 rfl hc309 hs310 (fun L_ w_ hc_ hu_ hs_ => eD g106 0 1 1 underlying125) ?_; intro hc311 hs312
      refine xV 4 154 rfl hc311 hs312 (fun L_ w_ hc_ hu_ hs_ => eL ⟨g106, 0 + 1, none⟩ (.int .i64 t100.n) underlying3 (blk_cells (hs_.1 _ _ (E297 _ _ h278)) h279 1 _ rfl)) ?_; intro hc313 hs314
      refine xV 5 155 rfl hc313 hs314 (fun L_ w_ hc_ hu_ hs_ => eM (.pointer (some ⟨g93, 0, none⟩))) ?_; intro hc315 hs316
      refine xO 6 hc315 ?_
      refine yO 6 156 rfl hs316 (e_makeFuncM (n := "loop.example/s00095/impl.set") (v := .iface 109 (.map (some g2))) kr) ?_; intro hc317 hs318
      refine xO 7 hc317 ?_
      refine yO 7 157 rfl hs318 (e_nilCheckM (n := "loop.example/s00095/impl.set") (t := 109) (v := .map (some g2)) kr kr) ?_; intro hc319 hs320
      refine xO 8 hc319 ?_
      refine yO 8 158 rfl hs320 (eM (.iface 109 (.map (some g2)))) ?_; intro hc321 hs322
      obtain ⟨t323, u324, M⟩ := bnd M
      refine xO 9 hc321 ?_
      refine yC 9 rfl (e_invoke (f := 170) (t := 109) (n := "loop.example/s00095/impl.set") (l := [.tmp 154, .tmp 155]) (vs := [.int .i64 t100.n, .pointer (some ⟨g93, 0, none⟩)]) kr kr kr) (impl_bindings_set.calls w300 H292 x29 g2 t100.n t87 g93 h294 (h94.ext' (E111.trans E297)) (St.own' (Fa := [(is g2)]) (Fr := [(is g58), F26]) S301) t323 u324) ?_
      rintro hc329 _ w325 ⟨H326, rfl, h328, T327⟩
      refine ⟨_, rfl, ?_⟩
      obtain ⟨S330, K331⟩ := St.call (Fa := [(is g2)]) (Fr := [(is g58), F26]) S301 T327
      replace h67 := h67.move (K331.at 1 rfl)
      have E332 := T327.ext
      replace h67 := h67.ext E332
      refine ⟨⟨(Ext.trans E332 S330.inv), trivial⟩, fun hs333 => ?_⟩
      refine xn kr ?_ _
      refine inb_n (inb_n (tN (wR (lV 20 (eM (.int .i64 x28) (by exact e32)) (lV 21 (eAdd .i64 x28 1) (lV 8 (eA (.int .i64 (i64.wrap (x28 + 1)))) (wN (tN ?_))))))))
      have S335 := S330.pulls [(is g2), F26, (is g58)] [2, 1] rfl
      have S336 := St.first (Fa := [(is g2), F26]) (Fr := [(is g58)]) S335
      exact ⟨k38, (by omega), _, H326, (x23.take (((i64.wrap ((x23.length : Int) - 1)) : Int).toNat)), A24, c25, F26, (i64.wrap (x28 + 1)), t323, rfl, (by exact e30), kr, kr, h328, h67, ((((Y22.trans E98).trans E111).trans E297).trans E332), S336, M⟩
    replace M := ifn q282 M
    refine cF (bF q282) (wQ ?_)
    refine region_still kr kr S109 ?_
    intro w337 S338 K339
    replace h105 := h105.move (K339.at 0 rfl)
    replace h67 := h67.move (K339.at 2 rfl)
    refine sV 161 (eM (.pointer (some ⟨g93, 0, none⟩))) (sV 162 (eN ⟨g93, 0, none⟩) (sV 163 (eD g93 0 0 1 underlying125) (sV 164 (eL ⟨g93, 0 + 0, none⟩ (.int .i64 t87.kind) underlying3 (blk_cells (S338.inv _ _ (E111 _ _ h121)) h122 0 _ rfl)) (sV 165 (eM (.pointer (some ⟨g106, 0, none⟩))) (sV 166 (eN ⟨g106, 0, none⟩) (sV 167 (eD g106 0 0 1 underlying125) (sV 168 (eL ⟨g106, 0 + 0, none⟩ (.int .i64 t100.kind) underlying3 (blk_cells (S338.inv _ _ h278) h279 0 _ rfl)) (sV 169 (eNe .i64 t87.kind t100.kind) (sV 170 (eM (.bool (decide (t87.kind ≠ t100.kind)))) ?_)))))))))
    by_cases q340 : t87.kind ≠ t100.kind
    · replace M := ifp q340 M
      refine sK 170 true (bT q340) ?_
      refine sK 170 true (bT q340) ?_
      refine sK 170 true (bT q340) ?_
      refine sK 170 true (bT q340) ?_
      refine sK 170 true (bT q340) ?_
      refine sK 170 true (bT q340) ?_
      refine sK 170 true (bT q340) ?_
      refine sK 170 true (bT q340) ?_
      refine sK 170 true (bT q340) ?_
      refine sV 180 (eT (.bool true) (bT q340)) (sV 181 (eM (.bool true)) (sK 181 true kr ?_))
      refine sK 181 true kr ?_
      refine sK 181 true kr ?_
      refine sK 181 true kr ?_
      refine sK 181 true kr ?_
      refine sK 181 true kr ?_
      refine sK 181 true kr ?_
      refine sK 181 true kr ?_
      refine sK 181 true kr ?_
      refine sV 191 (eT (.bool true)) (sV 160 (eA (.bool true)) (wpStill_nil (tN (cond_t rfl kr (wQ (wR (lV 6 (eA (.int .i64 4)) (wN (tN (wT (inb_r (inb_r (tR (tR (inb_r (tR ?_))))))))))))))))
      obtain rfl := sj M
      have S341 := St.first (Fa := [(is g2)]) (Fr := [(is g58), F26]) S338
      exact ret1 rfl rfl  (show _ = .int .i64 4 from kr) ⟨H103, rfl, h105, S341⟩
    replace M := ifn q340 M
    refine sG 171 170 (bF q340) (eM (.pointer (some ⟨g93, 0, none⟩))) (sG 172 170 (bF q340) (eN ⟨g93, 0, none⟩) (sG 173 170 (bF q340) (eD g93 0 1 1 underlying125) (sG 174 170 (bF q340) (eL ⟨g93, 0 + 1, none⟩ (.int .i64 t87.n) underlying3 (blk_cells (S338.inv _ _ (E111 _ _ h121)) h122 1 _ rfl)) (sG 175 170 (bF q340) (eM (.pointer (some ⟨g106, 0, none⟩))) (sG 176 170 (bF q340) (eN ⟨g106, 0, none⟩) (sG 177 170 (bF q340) (eD g106 0 1 1 underlying125) (sG 178 170 (bF q340) (eL ⟨g106, 0 + 1, none⟩ (.int .i64 t100.n) underlying3 (blk_cells (S338.inv _ _ h278) h279 1 _ rfl)) (sG 179 170 (bF q340) (eNe .i64 t87.n t100.n) (sV 180 (eF (.bool (decide (t87.n ≠ t100.n))) (bF q340)) (sV 181 (eM (.bool (decide (t87.n ≠ t100.n)))) ?_))))))))))
    by_cases q342 : t87.n ≠ t100.n
    · replace M := ifp q342 M
      refine sK 181 true (bT q342) ?_
      refine sK 181 true (bT q342) ?_
      refine sK 181 true (bT q342) ?_
      refine sK 181 true (bT q342) ?_
      refine sK 181 true (bT q342) ?_
      refine sK 181 true (bT q342) ?_
      refine sK 181 true (bT q342) ?_
      refine sK 181 true (bT q342) ?_
      refine sK 181 true (bT q342) ?_
      refine sV 191 (eT (.bool true) (bT q342)) (sV 160 (eA (.bool true)) (wpStill_nil (tN (cond_t rfl kr (wQ (wR (lV 6 (eA (.int .i64 4)) (wN (tN (wT (inb_r (inb_r (tR (tR (inb_r (tR ?_))))))))))))))))
      obtain rfl := sj M
      have S343 := St.first (Fa := [(is g2)]) (Fr := [(is g58), F26]) S338
      exact ret1 rfl rfl  (show _ = .int .i64 4 from kr) ⟨H103, rfl, h105, S343⟩
    replace M := ifn q342 M
    refine sG 182 181 (bF q342) (eM (.pointer (some ⟨g93, 0, none⟩))) (sG 183 181 (bF q342) (eN ⟨g93, 0, none⟩) (sG 184 181 (bF q342) (eD g93 0 2 1 underlying125) (sG 185 181 (bF q342) (eL ⟨g93, 0 + 2, none⟩ (str t87.text) underlying9 (blk_cells (S338.inv _ _ (E111 _ _ h121)) h122 2 _ rfl)) (sG 186 181 (bF q342) (eM (.pointer (some ⟨g106, 0, none⟩))) (sG 187 181 (bF q342) (eN ⟨g106, 0, none⟩) (sG 188 181 (bF q342) (eD g106 0 2 1 underlying125) (sG 189 181 (bF q342) (eL ⟨g106, 0 + 2, none⟩ (str t100.text) underlying9 (blk_cells (S338.inv _ _ h278) h279 2 _ rfl)) (sG 190 181 (bF q342) (e_sneq (p := t87.text) (q := t100.text) kr kr) (sV 191 (eF (.bool (decide (t87.text ≠ t100.text))) (bF q342)) (sV 160 (eA (.bool (decide (t87.text ≠ t100.text)))) (wpStill_nil (tN ?_))))))))))))
    by_cases q344 : t87.text ≠ t100.text
    · replace M := ifp q344 M
      refine cT (bT q344) (wQ (wR (lV 6 (eA (.int .i64 4)) (wN (tN (wT (inb_r ?_)))))))
      refine inb_r (tR (tR (inb_r (tR ?_))))
      obtain rfl := sj M
      have S345 := St.first (Fa := [(is g2)]) (Fr := [(is g58), F26]) S338
      exact ret1 rfl rfl  (show _ = .int .i64 4 from kr) ⟨H103, rfl, h105, S345⟩
    replace M := ifn q344 M
    refine cF (bF q344) (wQ (wR (lV 43 (eM (.pointer (some ⟨g93, 0, none⟩))) (lV 44 (eN ⟨g93, 0, none⟩) (lV 45 (eD g93 0 3 1 underlying125) (lV 46 (eL ⟨g93, 0 + 3, none⟩ (.slice A117 t87.args.length c118) underlying87 (blk_cells (S338.inv _ _ (E111 _ _ h121)) h122 3 _ rfl)) (lV 47 (e_len (A := A117) (n := t87.args.length) (c := c118) underlying87 kr) (lV 48 (e_sub (k := .i64) (a := (t87.args.length : Int)) (b := 1) kr rfl) (lV 12 (eA (.int .i64 (i64.wrap ((t87.args.length : Int) - 1)))) (wN (tN (wp_block ?_))))))))))))
    have S367 := S338.pulls [(is g2), F26, (is g58)] [2, 1] rfl
    have S368 := St.first (Fa := [(is g2), F26]) (Fr := [(is g58)]) S367
    refine wp_loop_g (fun k363 a364 w346 => ∃ (f347 : Nat → Value) (x348 : List GPair) (A349 : Option Addr) (c350 : Nat) (F351 : Foot) (x353 : Int), k363 ≤ k38 ∧ a364 = mk 192 f347 ∧ f347 0 = .iface 109 (.map (some g2)) ∧ f347 7 = .slice A349 x348.length c350 ∧ f347 8 = .int .i64 x28 ∧ f347 10 = .pointer (some ⟨g93, 0, none⟩) ∧ f347 11 = .pointer (some ⟨g106, 0, none⟩) ∧ f347 12 = .int .i64 x353 ∧ MapO encI (node 125) H103 (hp w346) g2 x29 ∧ Row st143 143 H103 (hp w346) F351 A349 c350 x348 ∧ St (anyOf [(is g2)]) H w [(is g2), F351] H103 w346 ∧ impl_unify.l1 k363 x28 x29 t87 t100 x348 x353 = some r) k38 ⟨_, (x23.take (((i64.wrap ((x23.length : Int) - 1)) : Int).toNat)), A24, c25, F26, (i64.wrap ((t87.args.length : Int) - 1)), (by omega), rfl, (by exact e30), kr, (by exact e32), kr, kr, kr, h105, h67, S368, M⟩ ?_
    clear M
    rintro k363 a364 w346 ⟨f347, x348, A349, c350, F351, x353, z362, rfl, e354, e355, e356, e357, e358, e359, h105, h352, S360, M⟩
    rcases k363 with _ | k365
    · rw [impl_unify.l1] at M
      cases M
    rw [impl_unify.l1] at M
    refine wQ (wQ (wR (lV 49 (eM (.int .i64 x353) (by exact e359)) (lV 50 (e_geq (k := .i64) (a := x353) (b := 0) kr rfl) (wN (tN ?_))))))
    by_cases q369 : x353 ≥ 0
    · replace M := ifp q369 M
      refine cT (bT q369) (wK (tN (wQ (wp_block ?_))))
      refine region_mix (S := (fun (L_ : Array Bool) (w_ : World) => Ext H103 (hp w_) ∧ True)) kr S360 ?_
      intro w370 S371 K372 hc373
      have hs374 : (fun (L_ : Array Bool) (w_ : World) => Ext H103 (hp w_) ∧ True) (Array.replicate 19 false) w370 := ⟨S371.inv, trivial⟩
      replace h105 := h105.move (K372.at 0 rfl)
      replace h352 := h352.move (K372.at 1 rfl)
      refine xV 0 53 rfl hc373 hs374 (fun L_ w_ hc_ hu_ hs_ => eM (.slice A349 x348.length c350) (by exact e355)) ?_; intro hc375 hs376
      refine xV 1 54 rfl hc375 hs376 (fun L_ w_ hc_ hu_ hs_ => eM (.pointer (some ⟨g93, 0, none⟩)) (by exact e357)) ?_; intro hc377 hs378
      refine xV 2 55 rfl hc377 hs378 (fun L_ w_ hc_ hu_ hs_ => eN ⟨g93, 0, none⟩) ?_; intro hc379 hs380
      refine xV 3 56 rfl hc379 hs380 (fun L_ w_ hc_ hu_ hs_ => eD g93 0 3 1 underlying125) ?_; intro hc381 hs382
      refine xV 4 57 rfl hc381 hs382 (fun L_ w_ hc_ hu_ hs_ => eL ⟨g93, 0 + 3, none⟩ (.slice A117 t87.args.length c118) underlying87 (blk_cells (hs_.1 _ _ (E111 _ _ h121)) h122 3 _ rfl)) ?_; intro hc383 hs384
      refine xV 5 58 rfl hc383 hs384 (fun L_ w_ hc_ hu_ hs_ => eM (.int .i64 x353) (by exact e359)) ?_; intro hc385 hs386
      obtain ⟨q387, M⟩ := chk M
      obtain ⟨q388, M⟩ := chk M
      obtain ⟨b389, o390, e391⟩ := Rd.addr h124 (show (x353).toNat < t87.args.length by omega)
      obtain ⟨y392, r393, k394⟩ := Rd.at h124 e391 (getD_some (Tm.mk 0 0 [] []) (show (x353).toNat < t87.args.length by omega))
      obtain ⟨v395, rfl, h396⟩ := r393
      obtain ⟨g397, rfl⟩ := node_ptr h396
      refine xV 6 59 rfl hc385 hs386 (fun L_ w_ hc_ hu_ hs_ => eI b389 o390 t87.args.length c118 1 x353 .i64 underlying87 e391 q387 q388) ?_; intro hc398 hs399
      refine xV 7 60 rfl hc398 hs399 (fun L_ w_ hc_ hu_ hs_ => eL ⟨b389, o390 + (x353 : Int).toNat * 1, none⟩ (.pointer (some ⟨g397, 0, none⟩)) underlying74 (hpx (hs_.1.cell (E111.cell (k394 0 _ rfl))))) ?_; intro hc400 hs401
      refine xV 8 61 rfl hc400 hs401 (fun L_ w_ hc_ hu_ hs_ => eM (.pointer (some ⟨g106, 0, none⟩)) (by exact e358)) ?_; intro hc402 hs403
      refine xV 9 62 rfl hc402 hs403 (fun L_ w_ hc_ hu_ hs_ => eN ⟨g106, 0, none⟩) ?_; intro hc404 hs405
      refine xV 10 63 rfl hc404 hs405 (fun L_ w_ hc_ hu_ hs_ => eD g106 0 3 1 underlying125) ?_; intro hc406 hs407
      refine xV 11 64 rfl hc406 hs407 (fun L_ w_ hc_ hu_ hs_ => eL ⟨g106, 0 + 3, none⟩ (.slice A274 t100.args.length c275) underlying87 (blk_cells (hs_.1 _ _ h278) h279 3 _ rfl)) ?_; intro hc408 hs409
      refine xO 12 hc408 ?_
      refine yO 12 65 rfl hs409 (eM (.int .i64 x353) (by exact e359)) ?_; intro hc410 hs411
      obtain ⟨q412, M⟩ := chk M
      obtain ⟨b413, o414, e415⟩ := Rd.addr h281 (show (x353).toNat < t100.args.length by omega)
      obtain ⟨y416, r417, k418⟩ := Rd.at h281 e415 (getD_some (Tm.mk 0 0 [] []) (show (x353).toNat < t100.args.length by omega))
      obtain ⟨v419, rfl, h420⟩ := r417
      obtain ⟨g421, rfl⟩ := node_ptr h420
      refine xO 13 hc410 ?_
      refine yO 13 66 rfl hs411 (eI b413 o414 t100.args.length c275 1 x353 .i64 underlying87 e415 q387 q412) ?_; intro hc422 hs423
      refine xO 14 hc422 ?_
      refine yO 14 67 rfl hs423 (eL ⟨b413, o414 + (x353 : Int).toNat * 1, none⟩ (.pointer (some ⟨g421, 0, none⟩)) underlying74 (hpx (S371.inv.cell (k418 0 _ rfl)))) ?_; intro hc424 hs425
      refine xO 15 hc424 ?_
      refine yO 15 68 rfl hs425 (show _ = Result.ok (Next.value (.agg #[.pointer (some ⟨g397, 0, none⟩), .pointer (some ⟨g421, 0, none⟩)])) w370 from by kernel_rfl) ?_; intro hc426 hs427
      refine xO 16 hc426 ?_
      refine yE 16 69 rfl (new_blk (v := fun g_ => .slice (some ⟨g_, 0, none⟩) 1 1) (cs := #[.pointer (some ⟨g397, 0, none⟩), .pointer (some ⟨g421, 0, none⟩)]) (t := 143) S371 kr) ?_
      rintro hc433 _ w428 ⟨g429, rfl, b430, S431, K432⟩
      replace h105 := h105.move (K432.at 0 rfl)
      replace h352 := h352.move (K432.at 1 rfl)
      refine ⟨⟨S431.inv, trivial⟩, fun hs434 => ?_⟩
      obtain ⟨q435, M⟩ := chk M
      have S436 := S431.pulls [F351, (is g429), (is g2)] [2] rfl
      have S437 := S436.unit
      have S438 := S437.pulls [F351, no, (is g429), (is g2)] [1] rfl
      refine xO 17 hc433 ?_
      refine yE 17 70 rfl (e_append (d := st143) (n := x348.length) (xs := x348) (cap := c350) (A := A349) (ys := [(⟨(t87.args.getD ((x353).toNat) (Tm.mk 0 0 [] [])), (t100.args.getD ((x353).toNat) (Tm.mk 0 0 [] []))⟩ : GPair)]) (A2 := (some ⟨g429, 0, none⟩)) (c2 := 1) (z := .agg #[.pointer none, .pointer none]) (bytes := 16) S438 underlying144 kr rfl (by decide) kr rfl kr h352 (elsO_one1 (st143_mkO (x := (⟨(t87.args.getD ((x353).toNat) (Tm.mk 0 0 [] [])), (t100.args.getD ((x353).toNat) (Tm.mk 0 0 [] []))⟩ : GPair)) (h396.ext' E111) h420)) (.inr (blk_news b430 rfl)) (show (x348.length + [(⟨(t87.args.getD ((x353).toNat) (Tm.mk 0 0 [] [])), (t100.args.getD ((x353).toNat) (Tm.mk 0 0 [] []))⟩ : GPair)].length) * 16 ≤ _ by first | omega | (simp only [List.length_cons, List.length_nil]; omega)) (by decide)) ?_
      rintro hc446 _ w439 ⟨A440, c441, F442, rfl, h443, S444, K445⟩
      replace h105 := h105.move (K445.at 1 rfl)
      refine ⟨⟨S444.inv, trivial⟩, fun hs447 => ?_⟩
      refine xO 18 hc446 ?_
      refine yO 18 7 rfl hs447 (eA (.slice A440 ((x348 ++ [(⟨(t87.args.getD ((x353).toNat) (Tm.mk 0 0 [] [])), (t100.args.getD ((x353).toNat) (Tm.mk 0 0 [] []))⟩ : GPair)]).length) c441)) ?_; intro hc448 hs449
      refine xn kr ?_ _
      refine inb_n (tN (wR (lV 51 (eM (.int .i64 x353) (by exact e359)) (lV 52 (e_sub (k := .i64) (a := x353) (b := 1) kr rfl) (lV 12 (eA (.int .i64 (i64.wrap (x353 - 1)))) (wN (tN ?_)))))))
      have S450 := S444.pulls [(is g2), F442, (is g429)] [2] rfl
      have S451 := St.first (Fa := [(is g2), F442]) (Fr := [(is g429)]) S450
      exact ⟨k365, (by omega), _, (x348 ++ [(⟨(t87.args.getD ((x353).toNat) (Tm.mk 0 0 [] [])), (t100.args.getD ((x353).toNat) (Tm.mk 0 0 [] []))⟩ : GPair)]), A440, c441, F442, (i64.wrap (x353 - 1)), (by omega), rfl, (by exact e354), kr, (by exact e356), (by exact e357), (by exact e358), kr, h105, h443, S451, M⟩
    replace M := ifn q369 M
    refine cF (bF q369) (wp_exit (tE (tE (inb_hit (inb_n (inb_n (tN (wR (lV 20 (eM (.int .i64 x28) (by exact e356)) (lV 21 (eAdd .i64 x28 1) (lV 8 (eA (.int .i64 (i64.wrap (x28 + 1)))) (wN (tN ?_)))))))))))))
    exact ⟨k365, (by omega), _, H103, x348, A349, c350, F351, (i64.wrap (x28 + 1)), x29, rfl, (by exact e354), (by exact e355), kr, h105, h352, ((Y22.trans E98).trans E111), S360, M⟩
  replace M := ifn q40 M
  refine cF (bF q40) (wp_exit (tE (tE (inb_hit (tN (wQ (wR (lV 6 (eA (.int .i64 0)) (wN (tN (wT ?_)))))))))))
  obtain rfl := sj M
  have S452 := St.first (Fa := [(is g2)]) (Fr := [F26]) S33
  exact ret1 rfl rfl  (show _ = .int .i64 0 from kr) ⟨H21, rfl, h3, S452⟩

/-! impl_variable -/
def impl_variable.f (x1 : Int) : Option Tm := some (Tm.mk 0 x1 ([] : List UInt8) [])
theorem impl_variable.calls (w : World) (H : Hp) (x1 : Int) (S : Own [] H w) (r : Tm) (M : impl_variable.f x1 = some r) :
    Calls Try.prog 94 #[.int .i64 x1] w (fun e e_w => ∃ (g_1 : Nat) (H_ : Hp), e = .returned (.pointer (some ⟨g_1, 0, none⟩)) ∧ NodeR 125 H_ r (.pointer (some ⟨g_1, 0, none⟩)) ∧ St (anyOf []) H w [] H_ e_w) := by
  rw [impl_variable.f] at M
  refine enter (l := [.int .i64 x1]) 6 func94 rfl rfl rfl ?_
  have S0_ := S.st
  refine wQ (wR (lV 2 (eA (.pointer none)) (wN (tN (wQ (wR (lV 3 (eM (.int .i64 x1)) (lV 4 (show _ = Result.ok (Next.value (.agg #[.int .i64 0, .int .i64 x1, str ([] : List UInt8), .slice none 0 0])) w from by kernel_rfl) ?_))))))))
  refine lW 5 (nB #[.int .i64 0, .int .i64 x1, str ([] : List UInt8), .slice none 0 0] 125 S0_) ?_
  rintro _ w2 ⟨g3, rfl, b4, S5, K6⟩
  refine lV 2 (eA (.pointer (some ⟨g3, 0, none⟩))) (wN (tN (wT ?_)))
  obtain ⟨H7, S8, E9, h10, z11⟩ := S5.frzBlk b4
  have h12 : NodeR 125 H7 (Tm.mk 0 x1 ([] : List UInt8) []) (.pointer (some ⟨g3, 0, none⟩)) := node_mk (A := none) (c := 0) h10 rfl (Nat.le_refl _) (Rd.nil _ _ _)
  obtain rfl := sj M
  exact ret1 rfl rfl  (show _ = .pointer (some ⟨g3, 0, none⟩) from kr) ⟨g3, H7, rfl, h12, S8⟩

/-! impl_full -/
mutual
def impl_full_2.l0 : Nat → (List (Int × Tm)) → (List Cell) → Int → Tm → (List UInt8) → Option ((List Cell) × Bool)
  | 0, _, _, _, _, _ => none
  | k88 + 1, x1, x7, x12, t13, x74 => (if x7.length + 1 ≤ 3518437208883 then (impl_full_2.l1 k88 x1 x12 t13 (x7 ++ [(⟨t13.kind, t13.n, x74⟩ : Cell)]) 0) else none)
def impl_full_2.l1 : Nat → (List (Int × Tm)) → Int → Tm → (List Cell) → Int → Option ((List Cell) × Bool)
  | 0, _, _, _, _, _ => none
  | k148 + 1, x1, x12, t13, x131, x136 => (if x136 < (t13.args.length : Int) then (if 0 ≤ x136 then ((impl_full_2.f k148 x1 (t13.args.getD ((x136).toNat) (Tm.mk 0 0 [] [])) x131 x12).bind fun t164 => (if ¬ (t164.2 = true) then some ([], false) else (impl_full_2.l1 k148 x1 x12 t13 t164.1 (i64.wrap (x136 + 1))))) else none) else some (x131, true))
def impl_full_2.f : Nat → (List (Int × Tm)) → Tm → (List Cell) → Int → Option ((List Cell) × Bool)
  | 0, _, _, _, _ => none
  | k1_ + 1, x1, x4, x7, x12 => ((impl_walk.f k1_ x1 x4).bind fun t13 => (if (x7.length : Int) ≥ x12 then some ([], false) else (if t13.kind ≥ 2 then (if t13.text.length ≤ 9223372036854775807 then (impl_full_2.l0 k1_ x1 x7 x12 t13 t13.text) else none) else (impl_full_2.l0 k1_ x1 x7 x12 t13 []))))
end
theorem impl_full_2.all : ∀ (K : Nat), (∀ (k : Nat), k < K → ∀ (w : World) (H : Hp) (x1 : List (Int × Tm)) (g2 : Nat) (x4 : Tm) (g5 : Nat) (x7 : List Cell) (A8 : Option Addr) (c9 : Nat) (F11 : Foot) (x12 : Int) (h3 : MapO encI (node 125) H (hp w) g2 x1) (h6 : NodeR 125 H x4 (.pointer (some ⟨g5, 0, none⟩))) (h10 : Row st65 65 H (hp w) F11 A8 c9 x7) (S : Own [(is g2), F11] H w) (r : (List Cell) × Bool) (M : impl_full_2.f k x1 x4 x7 x12 = some r), Calls Try.prog 93 #[.iface 109 (.map (some g2)), .pointer (some ⟨g5, 0, none⟩), .slice A8 x7.length c9, .int .i64 x12] w (fun e e_w => ∃ (A_1 : Option Addr) (c_1 : Nat) (F_1 : Foot) (H_ : Hp), e = .returned (.tuple #[.slice A_1 r.1.length c_1, .bool r.2]) ∧ MapO encI (node 125) H_ (hp e_w) g2 x1 ∧ Row st65 65 H_ (hp e_w) F_1 A_1 c_1 r.1 ∧ St (anyOf [(is g2), F11]) H w [(is g2), F_1] H_ e_w)) := by
  intro K
  induction K with
  | zero => intro k hk; omega
  | succ K ih =>
    intro k hk w H x1 g2 x4 g5 x7 A8 c9 F11 x12 h3 h6 h10 S r M
    rcases k with _ | k1_
    · rw [impl_full_2.f] at M
      cases M
    rw [impl_full_2.f] at M
    refine enter (l := [.iface 109 (.map (some g2)), .pointer (some ⟨g5, 0, none⟩), .slice A8 x7.length c9, .int .i64 x12]) 66 func93 rfl rfl rfl ?_
    have S0_ := S.st
    refine wQ (wR (lV 8 (eA (.slice none 0 0)) (lV 9 (eA (.bool false)) (wN (tN (wQ (wR (lV 14 (eM (.iface 109 (.map (some g2)))) (lV 15 (eM (.pointer (some ⟨g5, 0, none⟩))) ?_)))))))))
    obtain ⟨t13, u14, M⟩ := bnd M
    refine lC 16 (eC [.tmp 14, .tmp 15] [.iface 109 (.map (some g2)), .pointer (some ⟨g5, 0, none⟩)] func119) (impl_walk.calls k1_ w H x1 g2 x4 g5 h3 h6 (St.own' (Fa := [(is g2)]) (Fr := [F11]) S0_) t13 u14) ?_
    rintro _ w15 ⟨g19, H16, rfl, h18, h20, T17⟩
    refine ⟨_, rfl, ?_⟩
    obtain ⟨S21, K22⟩ := St.call (Fa := [(is g2)]) (Fr := [F11]) S0_ T17
    replace h10 := h10.move (K22.at 0 rfl)
    have E23 := T17.ext
    replace h10 := h10.ext E23
    refine lV 1 (eA (.pointer (some ⟨g19, 0, none⟩))) (wN (tN (wQ (wQ (wR (lV 17 (eM (.slice A8 x7.length c9)) (lV 18 (e_len (A := A8) (n := x7.length) (c := c9) underlying25 kr) (lV 19 (eM (.int .i64 x12)) (lV 20 (e_geq (k := .i64) (a := (x7.length : Int)) (b := x12) kr kr) (wN (tN ?_)))))))))))
    by_cases q24 : (x7.length : Int) ≥ x12
    · replace M := ifp q24 M
      refine cT (bT q24) (wQ (wR (lV 8 (eA (.slice none 0 0)) (lV 9 (eA (.bool false)) (wN (tN (wT (tR ?_))))))))
      obtain rfl := sj M
      have S25 := S21.unit
      have S26 := S25.pulls [(is g2), no, F11] [1] rfl
      have S27 := St.first (Fa := [(is g2), no]) (Fr := [F11]) S26
      exact ret2 rfl rfl rfl (show _ = .slice none 0 0 from kr) (show _ = .bool false from kr) ⟨none, 0, no, H16, rfl, h18, (Row.nil _ _ _ _ no), S27⟩
    replace M := ifn q24 M
    refine cF (bF q24) (wK (tN (wQ ?_)))
    refine region_mix (S := (fun (L_ : Array Bool) (w_ : World) => Ext H16 (hp w_) ∧ True)) kr S21 ?_
    intro w28 S29 K30 hc31
    have hs32 : (fun (L_ : Array Bool) (w_ : World) => Ext H16 (hp w_) ∧ True) (Array.replicate 11 false) w28 := ⟨S29.inv, trivial⟩
    replace h18 := h18.move (K30.at 0 rfl)
    replace h10 := h10.move (K30.at 1 rfl)
    refine xV 0 21 rfl hc31 hs32 (fun L_ w_ hc_ hu_ hs_ => eM (.pointer (some ⟨g19, 0, none⟩))) ?_; intro hc33 hs34
    refine xV 1 22 rfl hc33 hs34 (fun L_ w_ hc_ hu_ hs_ => eN ⟨g19, 0, none⟩) ?_; intro hc35 hs36
    refine xV 2 23 rfl hc35 hs36 (fun L_ w_ hc_ hu_ hs_ => eD g19 0 0 1 underlying125) ?_; intro hc37 hs38
    obtain ⟨A39, c40, y41, q42, h43, h44, l45, h46⟩ := node_open h20
    refine xV 3 24 rfl hc37 hs38 (fun L_ w_ hc_ hu_ hs_ => eL ⟨g19, 0 + 0, none⟩ (.int .i64 t13.kind) underlying3 (blk_cells (hs_.1 _ _ h43) h44 0 _ rfl)) ?_; intro hc47 hs48
    refine xV 4 25 rfl hc47 hs48 (fun L_ w_ hc_ hu_ hs_ => eM (.pointer (some ⟨g19, 0, none⟩))) ?_; intro hc49 hs50
    refine xV 5 26 rfl hc49 hs50 (fun L_ w_ hc_ hu_ hs_ => eN ⟨g19, 0, none⟩) ?_; intro hc51 hs52
    refine xV 6 27 rfl hc51 hs52 (fun L_ w_ hc_ hu_ hs_ => eD g19 0 1 1 underlying125) ?_; intro hc53 hs54
    refine xV 7 28 rfl hc53 hs54 (fun L_ w_ hc_ hu_ hs_ => eL ⟨g19, 0 + 1, none⟩ (.int .i64 t13.n) underlying3 (blk_cells (hs_.1 _ _ h43) h44 1 _ rfl)) ?_; intro hc55 hs56
    refine xV 8 29 rfl hc55 hs56 (fun L_ w_ hc_ hu_ hs_ => (show _ = Result.ok (Next.value (.agg #[.int .i64 t13.kind, .int .i64 t13.n, .slice none 0 0])) w_ from by kernel_rfl)) ?_; intro hc57 hs58
    refine xO 9 hc57 ?_
    refine yE 9 10 rfl (nB #[.int .i64 0, .int .i64 0, .slice none 0 0] 65 S29) ?_
    rintro hc64 _ w59 ⟨g60, rfl, b61, S62, K63⟩
    replace h18 := h18.move (K63.at 0 rfl)
    replace h10 := h10.move (K63.at 1 rfl)
    refine ⟨⟨S62.inv, trivial⟩, fun hs65 => ?_⟩
    refine xO 10 hc64 ?_
    refine yS 10 rfl (eSa g60 0 [.int .i64 t13.kind, .int .i64 t13.n, .slice none 0 0] S62 b61) ?_
    rintro hc70 w66 ⟨b67, S68, K69⟩
    replace h18 := h18.move (K69.at 0 rfl)
    replace h10 := h10.move (K69.at 1 rfl)
    refine ⟨⟨S68.inv, trivial⟩, fun hs71 => ?_⟩
    clear b61
    refine xn kr ?_ _
    refine tN ?_
    refine wp_seq_cut (fun a87 w72 => ∃ (k89 : Nat), k89 ≤ k1_ ∧ ∃ (f73 : Nat → Value) (x74 : List UInt8) (A75 : Option Addr) (c76 : Nat) (F77 : Foot), k89 < K ∧ a87 = mk 66 f73 ∧ f73 0 = .iface 109 (.map (some g2)) ∧ f73 1 = .pointer (some ⟨g19, 0, none⟩) ∧ f73 2 = .slice A8 x7.length c9 ∧ f73 3 = .int .i64 x12 ∧ f73 10 = .pointer (some ⟨g60, 0, none⟩) ∧ w72.heap[g60]? = some (.cells #[.int .i64 t13.kind, .int .i64 t13.n, .slice A75 x74.length c76] 65 (0, 0)) ∧ MapO encI (node 125) H16 (hp w72) g2 x1 ∧ Row st65 65 H16 (hp w72) F11 A8 c9 x7 ∧ Row tByte 5 H16 (hp w72) F77 A75 c76 x74 ∧ St (anyOf [(is g2), F11]) H w [(is g60), (is g2), F11, F77] H16 w72 ∧ impl_full_2.l0 k89 x1 x7 x12 t13 x74 = some r) ?_ ?_
    · refine wQ (wR (lV 30 (eM (.pointer (some ⟨g19, 0, none⟩))) (lV 31 (eN ⟨g19, 0, none⟩) (lV 32 (eD g19 0 0 1 underlying125) (lV 33 (eL ⟨g19, 0 + 0, none⟩ (.int .i64 t13.kind) underlying3 (blk_cells (S68.inv _ _ h43) h44 0 _ rfl)) (lV 34 (e_geq (k := .i64) (a := t13.kind) (b := 2) kr rfl) (wN (tN ?_))))))))
      by_cases q90 : t13.kind ≥ 2
      · replace M := ifp q90 M
        refine cT (bT q90) (wR (lV 35 (eM (.pointer (some ⟨g19, 0, none⟩))) (lV 36 (eN ⟨g19, 0, none⟩) (lV 37 (eD g19 0 2 1 underlying125) (lV 38 (eL ⟨g19, 0 + 2, none⟩ (str t13.text) underlying9 (blk_cells (S68.inv _ _ h43) h44 2 _ rfl)) ?_)))))
        obtain ⟨q91, M⟩ := chk M
        refine lW 39 (e_conv_sb (xs := t13.text) S68 underlying9 underlying59 underlying5 kr q91) ?_
        rintro _ w92 ⟨A93, c94, F95, rfl, h96, S97, K98⟩
        replace b67 := K98.blk 0 rfl b67
        replace h18 := h18.move (K98.at 1 rfl)
        replace h10 := h10.move (K98.at 2 rfl)
        refine lV 40 (eD g60 0 2 1 underlying65) ?_
        have S99 := S97.pulls [(is g60), F95, (is g2), F11] [1] rfl
        refine lE (eS g60 (0 + 2) (.slice A93 t13.text.length c94) #[.int .i64 t13.kind, .int .i64 t13.n, .slice A93 t13.text.length c94] [.slice A93 t13.text.length c94] S99 b67) ?_
        rintro w100 ⟨b101, S102, K103⟩
        replace h96 := h96.move (K103.at 0 rfl)
        replace h18 := h18.move (K103.at 1 rfl)
        replace h10 := h10.move (K103.at 2 rfl)
        clear b67
        refine wN (tN ?_)
        have S107 := S102.pulls [(is g60), (is g2), F11, F95] [1, 3, 3, 3] rfl
        exact ⟨k1_, (by omega), _, t13.text, A93, c94, F95, (by omega), rfl, kr, kr, kr, kr, kr, b101, h18, h10, h96, S107, M⟩
      replace M := ifn q90 M
      refine cF (bF q90) (wK (tN ?_))
      have S108 := S68.unit
      have S111 := S108.pulls [(is g60), (is g2), F11, no] [3, 3, 3] rfl
      exact ⟨k1_, (by omega), _, [], none, 0, no, (by omega), rfl, kr, kr, kr, kr, kr, b67, h18, h10, (Row.nil _ _ _ _ _), S111, M⟩
    clear M
    rintro a87 w72 ⟨k89, z181, f73, x74, A75, c76, F77, z85, rfl, e79, e80, e81, e82, e83, b67, h18, h10, h78, S84, M⟩
    rcases k89 with _ | k88
    · rw [impl_full_2.l0] at M
      cases M
    rw [impl_full_2.l0] at M
    refine wQ (wR (lV 41 (eM (.slice A8 x7.length c9) (by exact e81)) (lV 42 (e_loadS (b := g60) (off := 0) (cs := [.int .i64 t13.kind, .int .i64 t13.n, .slice A75 x74.length c76]) underlying65 rfl kr (by exact e83) (blk_cells b67 rfl)) ?_)))
    refine lW 43 (new_blk (v := fun g_ => .slice (some ⟨g_, 0, none⟩) 1 1) (cs := #[.int .i64 t13.kind, .int .i64 t13.n, .slice A75 x74.length c76]) (t := 65) S84 kr) ?_
    rintro _ w112 ⟨g113, rfl, b114, S115, K116⟩
    replace h18 := h18.move (K116.at 1 rfl)
    replace h10 := h10.move (K116.at 2 rfl)
    replace h78 := h78.move (K116.at 3 rfl)
    obtain ⟨q117, M⟩ := chk M
    have S119 := S115.pulls [F11, F77, (is g113), (is g60), (is g2)] [4, 4] rfl
    refine lW 44 (e_append (d := st65) (n := x7.length) (xs := x7) (cap := c9) (A := A8) (ys := [(⟨t13.kind, t13.n, x74⟩ : Cell)]) (A2 := (some ⟨g113, 0, none⟩)) (c2 := 1) (z := .agg #[.int .i64 0, .int .i64 0, .slice none 0 0]) (bytes := 40) S119 underlying25 kr rfl (by decide) kr rfl kr h10 (elsO_one1 (st65_mkO (x := (⟨t13.kind, t13.n, x74⟩ : Cell)) h78)) (.inr (blk_news b114 rfl)) (show (x7.length + [(⟨t13.kind, t13.n, x74⟩ : Cell)].length) * 40 ≤ _ by first | omega | (simp only [List.length_cons, List.length_nil]; omega)) (by decide)) ?_
    rintro _ w120 ⟨A121, c122, F123, rfl, h124, S125, K126⟩
    replace h18 := h18.move (K126.at 2 rfl)
    refine lV 2 (eA (.slice A121 ((x7 ++ [(⟨t13.kind, t13.n, x74⟩ : Cell)]).length) c122)) (wN (tN (wQ (wQ (wR (lV 45 (eM (.pointer (some ⟨g19, 0, none⟩)) (by exact e80)) (lV 46 (eN ⟨g19, 0, none⟩) (lV 47 (eD g19 0 3 1 underlying125) (lV 48 (eL ⟨g19, 0 + 3, none⟩ (.slice A39 t13.args.length c40) underlying87 (blk_cells (S125.inv _ _ h43) h44 3 _ rfl)) (lV 49 (e_len (A := A39) (n := t13.args.length) (c := c40) underlying87 kr) (lV 50 (eM (.int .i64 0)) (wN (tN (wp_block ?_))))))))))))))
    have S149 := S125.pulls [(is g2), F123, (is g113), (is g60)] [3] rfl
    have S150 := St.first (Fa := [(is g2), F123]) (Fr := [(is g113), (is g60)]) S149
    refine wp_loop_g (fun k146 a147 w127 => ∃ (f128 : Nat → Value) (H129 : Hp) (x131 : List Cell) (A132 : Option Addr) (c133 : Nat) (F134 : Foot) (x136 : Int), k146 < K ∧ a147 = mk 66 f128 ∧ f128 0 = .iface 109 (.map (some g2)) ∧ f128 2 = .slice A132 x131.length c133 ∧ f128 3 = .int .i64 x12 ∧ f128 48 = .slice A39 t13.args.length c40 ∧ f128 49 = .int .i64 (t13.args.length : Int) ∧ f128 50 = .int .i64 x136 ∧ MapO encI (node 125) H129 (hp w127) g2 x1 ∧ Row st65 65 H129 (hp w127) F134 A132 c133 x131 ∧ Ext H16 H129 ∧ St (anyOf [(is g2), F11]) H w [(is g2), F134] H129 w127 ∧ impl_full_2.l1 k146 x1 x12 t13 x131 x136 = some r) k88 ⟨_, H16, (x7 ++ [(⟨t13.kind, t13.n, x74⟩ : Cell)]), A121, c122, F123, 0, (by omega), rfl, (by exact e79), kr, (by exact e82), kr, kr, kr, h18, h124, (Ext.refl _), S150, M⟩ ?_
    clear M
    rintro k146 a147 w127 ⟨f128, H129, x131, A132, c133, F134, x136, z144, rfl, e137, e138, e139, e140, e141, e142, h18, h135, Y130, S143, M⟩
    rcases k146 with _ | k148
    · rw [impl_full_2.l1] at M
      cases M
    rw [impl_full_2.l1] at M
    refine wQ (wR (lV 51 (eLt .i64 x136 (t13.args.length : Int) (by exact e142) (by exact e141)) (wN (tN (wQ ?_)))))
    by_cases q151 : x136 < (t13.args.length : Int)
    · replace M := ifp q151 M
      refine cT (bT q151) (wK (tN (wQ (wp_block (wQ (wR ?_))))))
      obtain ⟨q152, M⟩ := chk M
      obtain ⟨b153, o154, e155⟩ := Rd.addr h46 (show (x136).toNat < t13.args.length by omega)
      obtain ⟨y156, r157, k158⟩ := Rd.at h46 e155 (getD_some (Tm.mk 0 0 [] []) (show (x136).toNat < t13.args.length by omega))
      obtain ⟨v159, rfl, h160⟩ := r157
      obtain ⟨g161, rfl⟩ := node_ptr h160
      refine lV 52 (e_indexAddr (b := b153) (off := o154) (n := t13.args.length) (c := c40) (sz := 1) (i := x136) (k := .i64) underlying87 e155 kr (by exact e140) (by exact e142) q152 q151) (lV 53 (eL ⟨b153, o154 + (x136 : Int).toNat * 1, none⟩ (.pointer (some ⟨g161, 0, none⟩)) underlying74 (hpx (S143.inv.cell (Y130.cell (k158 0 _ rfl))))) (lV 12 (eA (.pointer (some ⟨g161, 0, none⟩))) (wN (tN (wQ (wR (lV 13 (eA (.bool false)) (wN (tN (wQ (wR (lV 55 (eM (.iface 109 (.map (some g2))) (by exact e137)) (lV 56 (eM (.pointer (some ⟨g161, 0, none⟩))) (lV 57 (eM (.slice A132 x131.length c133) (by exact e138)) (lV 58 (eM (.int .i64 x12) (by exact e139)) ?_)))))))))))))))
      have S163 := S143.pulls [(is g2), F134] [1, 1] rfl
      obtain ⟨t164, u165, M⟩ := bnd M
      refine lC 59 (eC [.tmp 55, .tmp 56, .tmp 57, .tmp 58] [.iface 109 (.map (some g2)), .pointer (some ⟨g161, 0, none⟩), .slice A132 x131.length c133, .int .i64 x12] func93) (ih k148 (by omega) w127 H129 x1 g2 (t13.args.getD ((x136).toNat) (Tm.mk 0 0 [] [])) g161 x131 A132 c133 F134 x12 h18 (h160.ext' Y130) h135 (St.own' (Fa := [(is g2), F134]) (Fr := []) S163) t164 u165) ?_
      rintro _ w166 ⟨A170, c171, F173, H167, rfl, h169, h172, T168⟩
      refine ⟨_, rfl, ?_⟩
      obtain ⟨S174, K175⟩ := St.call (Fa := [(is g2), F134]) (Fr := []) S163 T168
      have E176 := T168.ext
      refine lV 54 (eM (.tuple #[.slice A170 t164.1.length c171, .bool t164.2])) (lV 60 (e_extract (vs := #[.slice A170 t164.1.length c171, .bool t164.2]) (v := .slice A170 t164.1.length c171) kr rfl) (lV 61 (e_extract (vs := #[.slice A170 t164.1.length c171, .bool t164.2]) (v := .bool t164.2) kr rfl) (lV 2 (eA (.slice A170 t164.1.length c171)) (lV 13 (eA (.bool t164.2)) (wN (tN (wQ (wR (lV 62 (eM (.bool t164.2)) (lV 63 (e_notv (c := t164.2) kr) (wN (tN ?_))))))))))))
      by_cases q177 : ¬ (t164.2 = true)
      · replace M := ifp q177 M
        refine cT (bT q177) (wQ (wR (lV 8 (eA (.slice none 0 0)) (lV 9 (eA (.bool false)) (wN (tN (wT ?_)))))))
        refine inb_r (tR (tR (inb_r (tR ?_))))
        obtain rfl := sj M
        have S178 := S174.unit
        have S179 := S178.pulls [(is g2), no, F173] [1] rfl
        have S180 := St.first (Fa := [(is g2), no]) (Fr := [F173]) S179
        exact ret2 rfl rfl rfl (show _ = .slice none 0 0 from kr) (show _ = .bool false from kr) ⟨none, 0, no, H167, rfl, h169, (Row.nil _ _ _ _ no), S180⟩
      replace M := ifn q177 M
      refine cF (bF q177) (wK (inb_n (tN (wR (lV 64 (eAdd .i64 x136 1 (by exact e142)) (lV 50 (eM (.int .i64 (i64.wrap (x136 + 1)))) (wN (tN ?_))))))))
      exact ⟨k148, (by omega), _, H167, t164.1, A170, c171, F173, (i64.wrap (x136 + 1)), (by omega), rfl, (by exact e137), kr, (by exact e139), (by exact e140), (by exact e141), kr, h169, h172, (Y130.trans E176), S174, M⟩
    replace M := ifn q151 M
    refine cF (bF q151) (wp_exit (tE (tE (inb_hit (tN (wQ (wR (lV 65 (eM (.slice A132 x131.length c133) (by exact e138)) (lV 8 (eA (.slice A132 x131.length c133)) (lV 9 (eA (.bool true)) (wN (tN (wT ?_)))))))))))))
    obtain rfl := sj M
    exact ret2 rfl rfl rfl (show _ = .slice A132 x131.length c133 from kr) (show _ = .bool true from kr) ⟨A132, c133, F134, H129, rfl, h18, h135, S143⟩
theorem impl_full_2.calls (k : Nat) (w : World) (H : Hp) (x1 : List (Int × Tm)) (g2 : Nat) (x4 : Tm) (g5 : Nat) (x7 : List Cell) (A8 : Option Addr) (c9 : Nat) (F11 : Foot) (x12 : Int) (h3 : MapO encI (node 125) H (hp w) g2 x1) (h6 : NodeR 125 H x4 (.pointer (some ⟨g5, 0, none⟩))) (h10 : Row st65 65 H (hp w) F11 A8 c9 x7) (S : Own [(is g2), F11] H w) (r : (List Cell) × Bool) (M : impl_full_2.f k x1 x4 x7 x12 = some r) :
    Calls Try.prog 93 #[.iface 109 (.map (some g2)), .pointer (some ⟨g5, 0, none⟩), .slice A8 x7.length c9, .int .i64 x12] w (fun e e_w => ∃ (A_1 : Option Addr) (c_1 : Nat) (F_1 : Foot) (H_ : Hp), e = .returned (.tuple #[.slice A_1 r.1.length c_1, .bool r.2]) ∧ MapO encI (node 125) H_ (hp e_w) g2 x1 ∧ Row st65 65 H_ (hp e_w) F_1 A_1 c_1 r.1 ∧ St (anyOf [(is g2), F11]) H w [(is g2), F_1] H_ e_w) := (impl_full_2.all (k + 1)) k (Nat.lt_succ_self k) w H x1 g2 x4 g5 x7 A8 c9 F11 x12 h3 h6 h10 S r M

/-! impl_Unify -/
def impl_Unify.l0 : Nat → (Int × (List (Int × Tm))) → (List Binding) → Int → Option ((List Binding) × Int)
  | 0, _, _, _ => none
  | k147 + 1, t52, x131, x136 => (if x136 < ((skeys t52.2).length : Int) then (if 0 ≤ x136 then ((impl_variable.f ((skeys t52.2).getD ((x136).toNat) (0 : Int))).bind fun t156 => ((impl_full_2.f k147 t52.2 t156 [] 2000).bind fun t168 => (if ¬ (t168.2 = true) then some ([], 3) else (if x131.length + 1 ≤ 4398046511104 then (impl_Unify.l0 k147 t52 (x131 ++ [(⟨((skeys t52.2).getD ((x136).toNat) (0 : Int)), t168.1⟩ : Binding)]) (i64.wrap (x136 + 1))) else none)))) else none) else some (x131, 0))
def impl_Unify.f (k : Nat) (x1 : List Cell) (x6 : List Cell) : Option ((List Binding) × Int) := ((impl_ValidTerm.f k x1).bind fun t11 => (if ¬ (t11 = true) then some ([], 1) else ((impl_ValidTerm.f k x6).bind fun t19 => (if ¬ (t19 = true) then some ([], 1) else ((impl_tree.f k x1).bind fun t32 => ((impl_tree.f k x6).bind fun t42 => ((impl_unify.f k [] t32 t42).bind fun t52 => (if t52.1 ≠ 0 then some ([], t52.1) else (if (t52.2.length : Int) > 1000 then some ([], 3) else (if t52.2.length ≤ 1000000 then (impl_Unify.l0 k t52 [] 0) else none))))))))))
theorem impl_Unify.calls (k : Nat) (w : World) (H : Hp) (x1 : List Cell) (A2 : Option Addr) (c3 : Nat) (x6 : List Cell) (A7 : Option Addr) (c8 : Nat) (h4 : Rd st65 H A2 x1) (l5 : x1.length ≤ c3) (h9 : Rd st65 H A7 x6) (l10 : x6.length ≤ c8) (S : Own [] H w) (r : (List Binding) × Int) (M : impl_Unify.f k x1 x6 = some r) :
    Calls Try.prog 50 #[.slice A2 x1.length c3, .slice A7 x6.length c8] w (fun e e_w => ∃ (A_1 : Option Addr) (c_1 : Nat) (F_1 : Foot) (H_ : Hp), e = .returned (.tuple #[.slice A_1 r.1.length c_1, .int .i64 r.2]) ∧ Row st63 63 H_ (hp e_w) F_1 A_1 c_1 r.1 ∧ St (anyOf []) H w [F_1] H_ e_w) := by
  rw [impl_Unify.f] at M
  refine enter (l := [.slice A2 x1.length c3, .slice A7 x6.length c8]) 73 func50 rfl rfl rfl ?_
  have S0_ := S.st
  refine wQ (wR (lV 4 (eA (.slice none 0 0)) (lV 5 (eA (.int .i64 0)) (wN (tN (wQ (wQ (wR (lV 15 (eM (.slice A2 x1.length c3)) ?_)))))))))
  obtain ⟨t11, u12, M⟩ := bnd M
  refine lC 16 (eC [.tmp 15] [.slice A2 x1.length c3] func17) (impl_ValidTerm.calls k w H x1 A2 c3 h4 l5 S0_.own0 t11 u12) ?_
  rintro _ w13 ⟨rfl, C14⟩
  refine ⟨_, rfl, ?_⟩
  obtain ⟨S15, K16⟩ := S0_.still C14
  refine lV 17 (e_notv (c := t11) kr) (lV 18 (eM (.bool (decide (¬ (t11 = true))))) ?_)
  by_cases q17 : ¬ (t11 = true)
  · replace M := ifp q17 M
    refine lK 18 true (bT q17) ?_
    refine lK 18 true (bT q17) ?_
    refine lK 18 true (bT q17) ?_
    refine lV 22 (eT (.bool true) (bT q17)) (wN (tN (cond_t rfl kr (wQ (wR (lV 4 (eA (.slice none 0 0)) (lV 5 (eA (.int .i64 1)) (wN (tN (wT (tR ?_)))))))))))
    obtain rfl := sj M
    have S18 := S15.unit
    exact ret2 rfl rfl rfl (show _ = .slice none 0 0 from kr) (show _ = .int .i64 1 from kr) ⟨none, 0, no, H, rfl, (Row.nil _ _ _ _ no), S18⟩
  replace M := ifn q17 M
  refine lG 19 18 (bF q17) (eM (.slice A7 x6.length c8)) ?_
  obtain ⟨t19, u20, M⟩ := bnd M
  refine lcallg (d := 20) (t := 18) rfl kr rfl (bF q17) rfl kr (eC [.tmp 19] [.slice A7 x6.length c8] func17) (impl_ValidTerm.calls k w13 H x6 A7 c8 h9 l10 S15.own0 t19 u20) ?_
  rintro _ w21 ⟨rfl, C22⟩
  refine ⟨_, rfl, ?_⟩
  obtain ⟨S23, K24⟩ := S15.still C22
  refine lG 21 18 (bF q17) (e_notv (c := t19) kr) (lV 22 (eF (.bool (decide (¬ (t19 = true)))) (bF q17)) (wN (tN ?_)))
  by_cases q25 : ¬ (t19 = true)
  · replace M := ifp q25 M
    refine cT (bT q25) (wQ (wR (lV 4 (eA (.slice none 0 0)) (lV 5 (eA (.int .i64 1)) (wN (tN (wT (tR ?_))))))))
    obtain rfl := sj M
    have S26 := S23.unit
    exact ret2 rfl rfl rfl (show _ = .slice none 0 0 from kr) (show _ = .int .i64 1 from kr) ⟨none, 0, no, H, rfl, (Row.nil _ _ _ _ no), S26⟩
  replace M := ifn q25 M
  refine cF (bF q25) (wK (tN (wQ (wR ?_))))
  refine lW 23 (e_makeMap S23 encI (node 125)) ?_
  rintro _ w27 ⟨g28, rfl, h29, S30, K31⟩
  refine lV 6 (eA (.map (some g28))) (wN (tN (wQ (wQ (wR (lV 24 (eM (.map (some g28))) (lV 25 (e_makeInterface (v := .map (some g28)) underlying109 kr) (lV 26 (eM (.slice A2 x1.length c3)) ?_))))))))
  obtain ⟨t32, u33, M⟩ := bnd M
  refine lC 27 (eC [.tmp 26] [.slice A2 x1.length c3] func62) (impl_tree.calls k w27 H x1 A2 c3 h4 l5 (St.own' (Fa := []) (Fr := [(is g28)]) S30) t32 u33) ?_
  rintro _ w34 ⟨g37, H35, rfl, h38, T36⟩
  refine ⟨_, rfl, ?_⟩
  obtain ⟨S39, K40⟩ := St.call (Fa := []) (Fr := [(is g28)]) S30 T36
  replace h29 := h29.move (K40.at 0 rfl)
  have E41 := T36.ext
  replace h29 := h29.ext E41
  refine lV 28 (eM (.slice A7 x6.length c8)) ?_
  obtain ⟨t42, u43, M⟩ := bnd M
  refine lC 29 (eC [.tmp 28] [.slice A7 x6.length c8] func62) (impl_tree.calls k w34 H35 x6 A7 c8 (h9.ext E41) l10 (St.own' (Fa := []) (Fr := [(is g28)]) S39) t42 u43) ?_
  rintro _ w44 ⟨g47, H45, rfl, h48, T46⟩
  refine ⟨_, rfl, ?_⟩
  obtain ⟨S49, K50⟩ := St.call (Fa := []) (Fr := [(is g28)]) S39 T46
  replace h29 := h29.move (K50.at 0 rfl)
  have E51 := T46.ext
  replace h29 := h29.ext E51
  obtain ⟨t52, u53, M⟩ := bnd M
  refine lC 30 (eC [.tmp 25, .tmp 27, .tmp 29] [.iface 109 (.map (some g28)), .pointer (some ⟨g37, 0, none⟩), .pointer (some ⟨g47, 0, none⟩)] func91) (impl_unify.calls k w44 H45 [] g28 t32 g37 t42 g47 h29 (h38.ext' E51) h48 (St.own' (Fa := [(is g28)]) (Fr := []) S49) t52 u53) ?_
  rintro _ w54 ⟨H55, rfl, h57, T56⟩
  refine ⟨_, rfl, ?_⟩
  obtain ⟨S58, K59⟩ := St.call (Fa := [(is g28)]) (Fr := []) S49 T56
  have E60 := T56.ext
  refine lV 7 (eA (.int .i64 t52.1)) (wN (tN (wQ (wR (lV 31 (eM (.int .i64 t52.1)) (lV 32 (eNe .i64 t52.1 0) (wN (tN ?_))))))))
  by_cases q61 : t52.1 ≠ 0
  · replace M := ifp q61 M
    refine cT (bT q61) (wQ (wR (lV 33 (eM (.int .i64 t52.1)) (lV 4 (eA (.slice none 0 0)) (lV 5 (eA (.int .i64 t52.1)) (wN (tN (wT (tR ?_)))))))))
    obtain rfl := sj M
    have S62 := S58.unit
    have S63 := St.first (Fa := [no]) (Fr := [(is g28)]) S62
    exact ret2 rfl rfl rfl (show _ = .slice none 0 0 from kr) (show _ = .int .i64 t52.1 from kr) ⟨none, 0, no, H55, rfl, (Row.nil _ _ _ _ no), S63⟩
  replace M := ifn q61 M
  refine cF (bF q61) (wK (tN (wQ (wQ (wR (lV 34 (eM (.map (some g28))) (lV 35 (e_mapLen h57 underlying109 kr) (lV 36 (e_gtr (k := .i64) (a := (t52.2.length : Int)) (b := 1000) kr rfl) (wN (tN ?_))))))))))
  by_cases q64 : (t52.2.length : Int) > 1000
  · replace M := ifp q64 M
    refine cT (bT q64) (wQ (wR (lV 4 (eA (.slice none 0 0)) (lV 5 (eA (.int .i64 3)) (wN (tN (wT (tR ?_))))))))
    obtain rfl := sj M
    have S65 := S58.unit
    have S66 := St.first (Fa := [no]) (Fr := [(is g28)]) S65
    exact ret2 rfl rfl rfl (show _ = .slice none 0 0 from kr) (show _ = .int .i64 3 from kr) ⟨none, 0, no, H55, rfl, (Row.nil _ _ _ _ no), S66⟩
  replace M := ifn q64 M
  refine cF (bF q64) (wK (tN (wQ (wR (lV 8 (eA (.slice none 0 0)) (wN (tN ?_)))))))
  obtain ⟨q67, M⟩ := chk M
  refine wQ (wQ (wR (lV 37 (eM (.map (some g28))) ?_)))
  refine lW 38 (e_rangeMap S58 h57 (MapO_lt h57) underlying109 kr) ?_
  rintro _ w68 ⟨g69, rfl, h70, h71, S72, K73⟩
  refine wN (tN (wp_block ?_))
  have S74 := S72.unit
  refine wp_loop_g (fun k80 a81 w82 => ∃ (f75 : Nat → Value) (A76 : Option Addr) (c77 : Nat) (F78 : Foot) (v79 : List Int), k80 = t52.2.length - v79.length ∧ a81 = mk 73 f75 ∧ f75 6 = .map (some g28) ∧ f75 38 = .pointer (some ⟨g69, 0, none⟩) ∧ f75 8 = .slice A76 v79.length c77 ∧ Row tInt 3 H55 (hp w82) F78 A76 c77 v79 ∧ Iter (node 125) H55 (hp w82) g28 t52.2 g69 v79 ∧ St (anyOf []) H w [F78, (is g69), (is g28)] H55 w82) (t52.2.length - 0) ⟨_, none, 0, no, [], rfl, rfl, kr, kr, kr, (Row.nil _ _ _ _ _), h71, S74⟩ ?_
  rintro k80 a81 w82 ⟨f75, A76, c77, F78, v79, rfl, rfl, e83, e84, e85, h86, h87, S88⟩
  refine wQ (wR ?_)
  have S89 := S88.pulls [(is g69), F78, (is g28)] [1] rfl
  refine lW 39 (e_nextKey S89 h87 h70 (by exact e84)) ?_
  rintro _ w97 (⟨⟨u90, rfl, h91⟩, rfl, h92⟩ | ⟨⟨u90, rfl, h91⟩, k93, h94, S95, K96⟩)
  rotate_left
  · clear M
    refine lV 40 (e_extract (vs := u90) (v := .bool true) kr h91) (wN (tN (wQ (cond_t rfl kr (wK (tN (wp_block (wQ (wR ?_)))))))))
    have h104 := h86.move (K96.at 0 rfl)
    refine lW 41 (e_entryKey h94 (by exact e84)) ?_
    rintro _ _ ⟨rfl, v98, rfl⟩
    refine lV 42 (e_extract (vs := #[.int .i64 k93, v98]) (v := .int .i64 k93) kr rfl) (lV 9 (eA (.int .i64 k93)) (wN (tN (wR (lV 43 (eM (.slice A76 v79.length c77) (by exact e85)) (lV 44 (eM (.int .i64 k93)) ?_))))))
    refine lW 45 (new_blk (v := fun g_ => .slice (some ⟨g_, 0, none⟩) 1 1) (cs := #[.int .i64 k93]) (t := 3) S95 kr) ?_
    rintro _ w99 ⟨g100, rfl, b101, S102, K103⟩
    replace h104 := h104.move (K103.at 1 rfl)
    have S105 := (h94.iter.len)
    have S106 := S102.pulls [F78, (is g100), (is g69), (is g28)] [2] rfl
    have S107 := (S106.unit).pull (F := F78) (Fr := [no, (is g100), (is g69), (is g28)]) 1 rfl rfl
    have lv_ : v79.length + 1 ≤ t52.2.length := by simpa using S105
    refine lW 46 (e_append (d := tInt) (n := v79.length) (xs := v79) (cap := c77) (A := A76) (ys := [k93]) (A2 := (some ⟨g100, 0, none⟩)) (c2 := 1) (z := .int .i64 0) (bytes := 8) S107 underlying32 kr rfl (by decide) kr rfl kr h104 (elsO_one1 rfl) (.inr (blk_news b101 rfl)) (show (v79.length + [k93].length) * 8 ≤ _ by simp only [List.length_cons, List.length_nil]; omega) (by decide)) ?_
    rintro _ w108 ⟨A109, c110, F111, rfl, h112, S113, K114⟩
    refine lV 8 (eA (.slice A109 ((v79 ++ [k93]).length) c110)) (wN (inb_n (tN ?_)))
    have hi_ := ((h94.move (K103.at 0 rfl) (K103.at 2 rfl)).move (K114.at 1 rfl) (K114.at 2 rfl)).iter
    have S_ := S113.pulls [(is g100), F111, (is g69), (is g28)] [1] rfl
    exact ⟨t52.2.length - (v79 ++ [k93]).length, (by simp only [List.length_append, List.length_cons, List.length_nil]; omega), _, A109, c110, F111, v79 ++ [k93], rfl, rfl, (by exact e83), (by exact e84), kr, h112, hi_, S_.drop⟩
  refine lV 40 (e_extract (vs := u90) (v := .bool false) kr h91) (wN (tN (wQ (cond_f rfl kr (wp_exit (tE (tE ?_)))))))
  refine inb_hit (tN (wQ (wR ?_)))
  have lv_ : v79.length = t52.2.length := by have := h92.length_eq; simpa using this
  refine lV 47 (eM (.slice A76 v79.length c77) (by exact e85)) ?_
  refine lC 48 (eC [.tmp 47] [.slice A76 v79.length c77] func92) (sort_Ints_ok w97 H55 v79 A76 c77 F78 h86 (by omega) (St.own' (Fa := [F78]) (Fr := [(is g69), (is g28)]) S88)) ?_
  rintro _ w115 ⟨F116, H117, rfl, h118, T119⟩
  refine ⟨_, rfl, ?_⟩
  obtain ⟨S120, K121⟩ := St.call (Fa := [F78]) (Fr := [(is g69), (is g28)]) S88 T119
  have E122 := T119.ext
  have h123 := ((h87.move (K121.at 0 rfl) (K121.at 1 rfl)).ext E122).map
  have z124 : isort v79 = skeys t52.2 := skeys_perm h92
  have z125 : (skeys t52.2).length = v79.length := (skeys_len _).trans lv_.symm
  rw [z124] at h118
  rw [← z125] at e85
  have S126 := (S120.pull (F := (is g69)) (Fr := [F116, (is g28)]) 1 rfl rfl).drop
  refine wN (tN (wQ (wR (lV 10 (eA (.slice none 0 0)) (wN (tN (wQ (wQ (wR (lV 49 (eM (.slice A76 ((skeys t52.2).length) c77) (by exact e85)) (lV 50 (e_len (A := A76) (n := (skeys t52.2).length) (c := c77) underlying32 kr) (lV 51 (eM (.int .i64 0)) (wN (tN (wp_block ?_)))))))))))))))
  have S148 := S126.unit
  have S150 := S148.pulls [F116, (is g28), no] [2, 2] rfl
  refine wp_loop_g (fun k145 a146 w127 => ∃ (f128 : Nat → Value) (H129 : Hp) (x131 : List Binding) (A132 : Option Addr) (c133 : Nat) (F134 : Foot) (x136 : Int), a146 = mk 73 f128 ∧ f128 6 = .map (some g28) ∧ f128 10 = .slice A132 x131.length c133 ∧ f128 49 = .slice A76 ((skeys t52.2).length) c77 ∧ f128 50 = .int .i64 ((skeys t52.2).length : Int) ∧ f128 51 = .int .i64 x136 ∧ Row tInt 3 H129 (hp w127) F116 A76 c77 (skeys t52.2) ∧ MapO encI (node 125) H129 (hp w127) g28 t52.2 ∧ Row st63 63 H129 (hp w127) F134 A132 c133 x131 ∧ Ext H117 H129 ∧ St (anyOf []) H w [F116, (is g28), F134] H129 w127 ∧ impl_Unify.l0 k145 t52 x131 x136 = some r) k ⟨_, H117, [], none, 0, no, 0, rfl, (by exact e83), kr, kr, kr, kr, h118, h123, (Row.nil _ _ _ _ _), (Ext.refl _), S150, M⟩ ?_
  clear M
  rintro k145 a146 w127 ⟨f128, H129, x131, A132, c133, F134, x136, rfl, e137, e138, e139, e140, e141, h118, h123, h135, Y130, S142, M⟩
  rcases k145 with _ | k147
  · rw [impl_Unify.l0] at M
    cases M
  rw [impl_Unify.l0] at M
  refine wQ (wR (lV 52 (eLt .i64 x136 ((skeys t52.2).length : Int) (by exact e141) (by exact e140)) (wN (tN (wQ ?_)))))
  by_cases q151 : x136 < ((skeys t52.2).length : Int)
  · replace M := ifp q151 M
    refine cT (bT q151) (wK (tN (wQ (wp_block (wQ (wR ?_))))))
    obtain ⟨q152, M⟩ := chk M
    obtain ⟨b153, e155⟩ := Row.addr h118 (show (x136).toNat < (skeys t52.2).length by omega)
    refine lV 53 (e_indexAddr (b := b153) (off := 0) (n := (skeys t52.2).length) (c := c77) (sz := 1) (i := x136) (k := .i64) underlying32 e155 kr (by exact e139) (by exact e141) q152 q151) (lV 54 (eL ⟨b153, 0 + (x136 : Int).toNat * 1, none⟩ (.int .i64 ((skeys t52.2).getD ((x136).toNat) (0 : Int))) underlying3 (hpx (Row.pick (j := 0) (u := .int .i64 ((skeys t52.2).getD ((x136).toNat) (0 : Int))) h118 e155 (getD_some (0 : Int) (show (x136).toNat < (skeys t52.2).length by omega)) (fun _ _ o_ => by rw [show _ = _ from o_]; rfl)))) (lV 12 (eA (.int .i64 ((skeys t52.2).getD ((x136).toNat) (0 : Int)))) (wN (tN (wQ (wR (lV 56 (eM (.map (some g28)) (by exact e137)) (lV 57 (e_makeInterface (v := .map (some g28)) underlying109 kr) (lV 58 (eM (.int .i64 ((skeys t52.2).getD ((x136).toNat) (0 : Int)))) ?_)))))))))
    obtain ⟨t156, u157, M⟩ := bnd M
    refine lC 59 (eC [.tmp 58] [.int .i64 ((skeys t52.2).getD ((x136).toNat) (0 : Int))] func94) (impl_variable.calls w127 H129 ((skeys t52.2).getD ((x136).toNat) (0 : Int))  (St.own' (Fa := []) (Fr := [F116, (is g28), F134]) S142) t156 u157) ?_
    rintro _ w158 ⟨g161, H159, rfl, h162, T160⟩
    refine ⟨_, rfl, ?_⟩
    obtain ⟨S163, K164⟩ := St.call (Fa := []) (Fr := [F116, (is g28), F134]) S142 T160
    replace h118 := h118.move (K164.at 0 rfl)
    replace h123 := h123.move (K164.at 1 rfl)
    replace h135 := h135.move (K164.at 2 rfl)
    have E165 := T160.ext
    replace h118 := h118.ext E165
    replace h123 := h123.ext E165
    replace h135 := h135.ext E165
    have S166 := S163.unit
    have S167 := S166.pulls [(is g28), no, F116, F134] [2] rfl
    obtain ⟨t168, u169, M⟩ := bnd M
    refine lC 60 (eC [.tmp 57, .tmp 59, .const (.slice none 0 0), .const (.int .i64 2000)] [.iface 109 (.map (some g28)), .pointer (some ⟨g161, 0, none⟩), .slice none 0 0, .int .i64 2000] func93) (impl_full_2.calls k147 w158 H159 t52.2 g28 t156 g161 [] none 0 no 2000 h123 h162 (Row.nil _ _ _ _ no) (St.own' (Fa := [(is g28), no]) (Fr := [F116, F134]) S167) t168 u169) ?_
    rintro _ w170 ⟨A174, c175, F177, H171, rfl, h173, h176, T172⟩
    refine ⟨_, rfl, ?_⟩
    obtain ⟨S178, K179⟩ := St.call (Fa := [(is g28), no]) (Fr := [F116, F134]) S167 T172
    replace h118 := h118.move (K179.at 0 rfl)
    replace h135 := h135.move (K179.at 1 rfl)
    have E180 := T172.ext
    replace h118 := h118.ext E180
    replace h135 := h135.ext E180
    refine lV 55 (eM (.tuple #[.slice A174 t168.1.length c175, .bool t168.2])) (lV 61 (e_extract (vs := #[.slice A174 t168.1.length c175, .bool t168.2]) (v := .slice A174 t168.1.length c175) kr rfl) (lV 62 (e_extract (vs := #[.slice A174 t168.1.length c175, .bool t168.2]) (v := .bool t168.2) kr rfl) (lV 13 (eA (.slice A174 t168.1.length c175)) (lV 14 (eA (.bool t168.2)) (wN (tN (wQ (wQ (wR (lV 63 (eM (.bool t168.2)) (lV 64 (e_notv (c := t168.2) kr) (wN (tN ?_)))))))))))))
    by_cases q181 : ¬ (t168.2 = true)
    · replace M := ifp q181 M
      refine cT (bT q181) (wQ (wR (lV 4 (eA (.slice none 0 0)) (lV 5 (eA (.int .i64 3)) (wN (tN (wT (tR (inb_r (tR (tR (inb_r (tR ?_)))))))))))))
      obtain rfl := sj M
      have S182 := S178.unit
      have S183 := St.first (Fa := [no]) (Fr := [(is g28), F177, F116, F134]) S182
      exact ret2 rfl rfl rfl (show _ = .slice none 0 0 from kr) (show _ = .int .i64 3 from kr) ⟨none, 0, no, H171, rfl, (Row.nil _ _ _ _ no), S183⟩
    replace M := ifn q181 M
    refine cF (bF q181) (wK (tN (wR (lV 65 (eM (.slice A132 x131.length c133) (by exact e138)) (lV 66 (eM (.int .i64 ((skeys t52.2).getD ((x136).toNat) (0 : Int)))) (lV 67 (eM (.slice A174 t168.1.length c175)) (lV 68 (show _ = Result.ok (Next.value (.agg #[.int .i64 ((skeys t52.2).getD ((x136).toNat) (0 : Int)), .slice A174 t168.1.length c175])) w170 from by kernel_rfl) ?_)))))))
    refine lW 69 (new_blk (v := fun g_ => .slice (some ⟨g_, 0, none⟩) 1 1) (cs := #[.int .i64 ((skeys t52.2).getD ((x136).toNat) (0 : Int)), .slice A174 t168.1.length c175]) (t := 63) S178 kr) ?_
    rintro _ w184 ⟨g185, rfl, b186, S187, K188⟩
    replace h173 := h173.move (K188.at 0 rfl)
    replace h176 := h176.move (K188.at 1 rfl)
    replace h118 := h118.move (K188.at 2 rfl)
    replace h135 := h135.move (K188.at 3 rfl)
    obtain ⟨q189, M⟩ := chk M
    have S191 := S187.pulls [F134, F177, (is g185), (is g28), F116] [2, 4] rfl
    refine lW 70 (e_append (d := st63) (n := x131.length) (xs := x131) (cap := c133) (A := A132) (ys := [(⟨((skeys t52.2).getD ((x136).toNat) (0 : Int)), t168.1⟩ : Binding)]) (A2 := (some ⟨g185, 0, none⟩)) (c2 := 1) (z := .agg #[.int .i64 0, .slice none 0 0]) (bytes := 32) S191 underlying52 kr rfl (by decide) kr rfl kr h135 (elsO_one1 (st63_mkO (x := (⟨((skeys t52.2).getD ((x136).toNat) (0 : Int)), t168.1⟩ : Binding)) h176)) (.inr (blk_news b186 rfl)) (show (x131.length + [(⟨((skeys t52.2).getD ((x136).toNat) (0 : Int)), t168.1⟩ : Binding)].length) * 32 ≤ _ by first | omega | (simp only [List.length_cons, List.length_nil]; omega)) (by decide)) ?_
    rintro _ w192 ⟨A193, c194, F195, rfl, h196, S197, K198⟩
    replace h173 := h173.move (K198.at 1 rfl)
    replace h118 := h118.move (K198.at 2 rfl)
    refine lV 10 (eA (.slice A193 ((x131 ++ [(⟨((skeys t52.2).getD ((x136).toNat) (0 : Int)), t168.1⟩ : Binding)]).length) c194)) (wN (inb_n (tN (wR (lV 71 (eAdd .i64 x136 1 (by exact e141)) (lV 51 (eM (.int .i64 (i64.wrap (x136 + 1)))) (wN (tN ?_))))))))
    have S200 := S197.pulls [F116, (is g28), F195, (is g185)] [2, 3] rfl
    have S201 := St.first (Fa := [F116, (is g28), F195]) (Fr := [(is g185)]) S200
    exact ⟨k147, (by omega), _, H171, (x131 ++ [(⟨((skeys t52.2).getD ((x136).toNat) (0 : Int)), t168.1⟩ : Binding)]), A193, c194, F195, (i64.wrap (x136 + 1)), rfl, (by exact e137), kr, (by exact e139), (by exact e140), kr, h118, h173, h196, ((Y130.trans E165).trans E180), S201, M⟩
  replace M := ifn q151 M
  refine cF (bF q151) (wp_exit (tE (tE (inb_hit (tN (wQ (wR (lV 72 (eM (.slice A132 x131.length c133) (by exact e138)) (lV 4 (eA (.slice A132 x131.length c133)) (lV 5 (eA (.int .i64 0)) (wN (tN (wT ?_)))))))))))))
  obtain rfl := sj M
  have S202 := S142.pulls [F134, F116, (is g28)] [2] rfl
  have S203 := St.first (Fa := [F134]) (Fr := [F116, (is g28)]) S202
  exact ret2 rfl rfl rfl (show _ = .slice A132 x131.length c133 from kr) (show _ = .int .i64 0 from kr) ⟨A132, c133, F134, H129, rfl, h135, S203⟩

/-! impl_validSub -/
def impl_validSub.l0 : Nat → (List Binding) → Int → Option Bool
  | 0, _, _ => none
  | k19 + 1, x1, x9 => (if x9 < (x1.length : Int) then (if 0 ≤ x9 then (if ((x1.getD ((x9).toNat) z63).var) < 0 then some false else (if ((x1.getD ((x9).toNat) z63).var) > 1000000 then some false else (if x9 > 0 then (if 0 ≤ (i64.wrap (x9 - 1)) then (if (i64.wrap (x9 - 1)) < (x1.length : Int) then (if ((x1.getD (((i64.wrap (x9 - 1))).toNat) z63).var) ≥ ((x1.getD ((x9).toNat) z63).var) then some false else ((impl_ValidTerm.f k19 ((x1.getD ((x9).toNat) z63).term)).bind fun t69 => (if ¬ (t69 = true) then some false else (impl_validSub.l0 k19 x1 (i64.wrap (x9 + 1)))))) else none) else none) else ((impl_ValidTerm.f k19 ((x1.getD ((x9).toNat) z63).term)).bind fun t77 => (if ¬ (t77 = true) then some false else (impl_validSub.l0 k19 x1 (i64.wrap (x9 + 1)))))))) else none) else some true)
def impl_validSub.f (k : Nat) (x1 : List Binding) : Option Bool := (if (x1.length : Int) > 1000 then some false else (impl_validSub.l0 k x1 0))
theorem impl_validSub.calls (k : Nat) (w : World) (H : Hp) (x1 : List Binding) (A2 : Option Addr) (c3 : Nat) (h4 : Rd st63 H A2 x1) (l5 : x1.length ≤ c3) (S : Own [] H w) (r : Bool) (M : impl_validSub.f k x1 = some r) :
    Calls Try.prog 87 #[.slice A2 x1.length c3] w (fun e e_w => e = .returned (.bool r) ∧ Chg no w e_w) := by
  rw [impl_validSub.f] at M
  refine enter (l := [.slice A2 x1.length c3]) 45 func87 rfl rfl rfl ?_
  have S0_ := S.st
  refine wQ (wR (lV 2 (eA (.bool false)) (wN (tN (wQ (wQ (wR (lV 5 (eM (.slice A2 x1.length c3)) (lV 6 (e_len (A := A2) (n := x1.length) (c := c3) underlying52 kr) (lV 7 (e_gtr (k := .i64) (a := (x1.length : Int)) (b := 1000) kr rfl) (wN (tN ?_))))))))))))
  by_cases q6 : (x1.length : Int) > 1000
  · replace M := ifp q6 M
    refine cT (bT q6) (wQ (wR (lV 2 (eA (.bool false)) (wN (tN (wT (tR ?_)))))))
    obtain rfl := sj M
    exact ret1 rfl rfl  (show _ = .bool false from kr) ⟨rfl, S0_.chg⟩
  replace M := ifn q6 M
  refine cF (bF q6) (wK (tN (wQ (wQ (wR (lV 8 (eM (.slice A2 x1.length c3)) (lV 9 (e_len (A := A2) (n := x1.length) (c := c3) underlying52 kr) (lV 10 (eM (.int .i64 0)) (wN (tN (wp_block ?_)))))))))))
  refine wp_loop_g (fun k17 a18 w7 => ∃ (f8 : Nat → Value) (x9 : Int), a18 = mk 45 f8 ∧ f8 0 = .slice A2 x1.length c3 ∧ f8 8 = .slice A2 x1.length c3 ∧ f8 9 = .int .i64 (x1.length : Int) ∧ f8 10 = .int .i64 x9 ∧ St (anyOf []) H w [] H w7 ∧ impl_validSub.l0 k17 x1 x9 = some r) k ⟨_, 0, rfl, kr, kr, kr, kr, S0_, M⟩ ?_
  clear M
  rintro k17 a18 w7 ⟨f8, x9, rfl, e10, e11, e12, e13, S14, M⟩
  rcases k17 with _ | k19
  · rw [impl_validSub.l0] at M
    cases M
  rw [impl_validSub.l0] at M
  refine wQ (wR (lV 11 (eLt .i64 x9 (x1.length : Int) (by exact e13) (by exact e12)) (wN (tN (wQ ?_)))))
  by_cases q20 : x9 < (x1.length : Int)
  · replace M := ifp q20 M
    refine cT (bT q20) (wK (tN (wQ (wp_block (wQ (wR (lV 12 (eM (.int .i64 x9) (by exact e13)) ?_)))))))
    obtain ⟨q21, M⟩ := chk M
    obtain ⟨b22, o23, e24⟩ := Rd.addr h4 (show (x9).toNat < x1.length by omega)
    obtain ⟨y25, r26, k27⟩ := Rd.at h4 e24 (getD_some z63 (show (x9).toNat < x1.length by omega))
    obtain ⟨A28, c29, rfl, l30, h31⟩ := st63_open r26
    refine lV 13 (e_indexAddr (b := b22) (off := o23) (n := x1.length) (c := c3) (sz := 2) (i := x9) (k := .i64) underlying52 e24 kr (by exact e11) (by exact e13) q21 q20) (lV 14 (e_loadS (b := b22) (off := o23 + (x9 : Int).toNat * 2) (cs := [.int .i64 ((x1.getD ((x9).toNat) z63).var), .slice A28 ((x1.getD ((x9).toNat) z63).term).length c29]) underlying63 rfl kr kr (fun j_ u_ e_ => (hpx (S14.inv.cell (k27 j_ u_ e_))))) ?_)
    refine lW 4 (nB #[.int .i64 0, .slice none 0 0] 63 S14) ?_
    rintro _ w32 ⟨g33, rfl, b34, S35, K36⟩
    refine lV 3 (eA (.int .i64 x9)) ?_
    refine lE (eSa g33 0 [.int .i64 ((x1.getD ((x9).toNat) z63).var), .slice A28 ((x1.getD ((x9).toNat) z63).term).length c29] S35 b34) ?_
    rintro w37 ⟨b38, S39, K40⟩
    clear b34
    refine wN (tN (wQ ?_))
    refine region_quiet kr kr (qV 15 (fun wq_ hq_ => eD g33 0 0 1 underlying63) (qV 16 (fun wq_ hq_ => eL ⟨g33, 0 + 0, none⟩ (.int .i64 ((x1.getD ((x9).toNat) z63).var)) underlying3 (blk_cell ((S39.still hq_).2.blk 0 rfl b38) rfl)) (qV 17 (fun wq_ hq_ => eLt .i64 (x1.getD ((x9).toNat) z63).var 0) (qV 18 (fun wq_ hq_ => eM (.bool (decide (((x1.getD ((x9).toNat) z63).var) < 0)))) ?_))))
    by_cases q41 : ((x1.getD ((x9).toNat) z63).var) < 0
    · replace M := ifp q41 M
      refine qK 18 true (bT q41) ?_
      refine qK 18 true (bT q41) ?_
      refine qK 18 true (bT q41) ?_
      refine qV 22 (fun wq_ hq_ => eT (.bool true) (bT q41)) (qV 23 (fun wq_ hq_ => eM (.bool true)) (qK 23 true kr ?_))
      refine qK 23 true kr ?_
      refine qK 23 true kr ?_
      refine qskipu (t := 26) rfl kr rfl kr rfl ?_
      refine qskipu (t := 26) rfl kr rfl kr rfl ?_
      refine qskipu (t := 26) rfl kr rfl kr rfl ?_
      refine qskipu (t := 26) rfl kr rfl kr rfl ?_
      refine qskipu (t := 26) rfl kr rfl kr rfl ?_
      refine qskipu (t := 26) rfl kr rfl kr rfl ?_
      refine qskipu (t := 26) rfl kr rfl kr rfl ?_
      refine qskipu (t := 26) rfl kr rfl kr rfl ?_
      refine qskipu (t := 26) rfl kr rfl kr rfl ?_
      refine qK 23 true kr ?_
      refine qV 37 (fun wq_ hq_ => eT (.bool true)) (qV 38 (fun wq_ hq_ => eM (.bool true)) (qK 38 true kr ?_))
      refine qK 38 true kr ?_
      refine qK 38 true kr ?_
      refine qK 38 true kr ?_
      refine qV 43 (fun wq_ hq_ => eT (.bool true)) ?_
      refine wpQuiet_nil ?_
      intro w42 C45
      obtain ⟨S43, K44⟩ := S39.still C45
      refine tN (cond_t rfl kr (wQ (wR (lV 2 (eA (.bool false)) (wN (tN (wT ?_)))))))
      refine inb_r (tR (tR (inb_r (tR ?_))))
      obtain rfl := sj M
      exact ret1 rfl rfl  (show _ = .bool false from kr) ⟨rfl, S43.chg⟩
    replace M := ifn q41 M
    refine qG 19 18 (bF q41) (fun wq_ hq_ => eD g33 0 0 1 underlying63) (qG 20 18 (bF q41) (fun wq_ hq_ => eL ⟨g33, 0 + 0, none⟩ (.int .i64 ((x1.getD ((x9).toNat) z63).var)) underlying3 (blk_cell ((S39.still hq_).2.blk 0 rfl b38) rfl)) (qG 21 18 (bF q41) (fun wq_ hq_ => e_gtr (k := .i64) (a := (x1.getD ((x9).toNat) z63).var) (b := 1000000) kr rfl) (qV 22 (fun wq_ hq_ => eF (.bool (decide (((x1.getD ((x9).toNat) z63).var) > 1000000))) (bF q41)) (qV 23 (fun wq_ hq_ => eM (.bool (decide (((x1.getD ((x9).toNat) z63).var) > 1000000)))) ?_))))
    by_cases q46 : ((x1.getD ((x9).toNat) z63).var) > 1000000
    · replace M := ifp q46 M
      refine qK 23 true (bT q46) ?_
      refine qK 23 true (bT q46) ?_
      refine qK 23 true (bT q46) ?_
      refine qskipu (t := 26) rfl kr rfl kr rfl ?_
      refine qskipu (t := 26) rfl kr rfl kr rfl ?_
      refine qskipu (t := 26) rfl kr rfl kr rfl ?_
      refine qskipu (t := 26) rfl kr rfl kr rfl ?_
      refine qskipu (t := 26) rfl kr rfl kr rfl ?_
      refine qskipu (t := 26) rfl kr rfl kr rfl ?_
      refine qskipu (t := 26) rfl kr rfl kr rfl ?_
      refine qskipu (t := 26) rfl kr rfl kr rfl ?_
      refine qskipu (t := 26) rfl kr rfl kr rfl ?_
      refine qK 23 true (bT q46) ?_
      refine qV 37 (fun wq_ hq_ => eT (.bool true) (bT q46)) (qV 38 (fun wq_ hq_ => eM (.bool true)) (qK 38 true kr ?_))
      refine qK 38 true kr ?_
      refine qK 38 true kr ?_
      refine qK 38 true kr ?_
      refine qV 43 (fun wq_ hq_ => eT (.bool true)) ?_
      refine wpQuiet_nil ?_
      intro w47 C50
      obtain ⟨S48, K49⟩ := S39.still C50
      refine tN (cond_t rfl kr (wQ (wR (lV 2 (eA (.bool false)) (wN (tN (wT ?_)))))))
      refine inb_r (tR (tR (inb_r (tR ?_))))
      obtain rfl := sj M
      exact ret1 rfl rfl  (show _ = .bool false from kr) ⟨rfl, S48.chg⟩
    replace M := ifn q46 M
    refine qG 24 23 (bF q46) (fun wq_ hq_ => eM (.int .i64 x9)) (qG 25 23 (bF q46) (fun wq_ hq_ => e_gtr (k := .i64) (a := x9) (b := 0) kr rfl) (qG 26 23 (bF q46) (fun wq_ hq_ => eM (.bool (decide (x9 > 0)))) ?_))
    by_cases q51 : x9 > 0
    · replace M := ifp q51 M
      refine qG 27 26 (bT q51) (fun wq_ hq_ => eM (.slice A2 x1.length c3) (by exact e10)) (qG 28 26 (bT q51) (fun wq_ hq_ => eM (.int .i64 x9)) (qG 29 26 (bT q51) (fun wq_ hq_ => e_sub (k := .i64) (a := x9) (b := 1) kr rfl) ?_))
      obtain ⟨q52, M⟩ := chk M
      obtain ⟨q53, M⟩ := chk M
      obtain ⟨b54, o55, e56⟩ := Rd.addr h4 (show ((i64.wrap (x9 - 1))).toNat < x1.length by omega)
      obtain ⟨y57, r58, k59⟩ := Rd.at h4 e56 (getD_some z63 (show ((i64.wrap (x9 - 1))).toNat < x1.length by omega))
      obtain ⟨A60, c61, rfl, l62, h63⟩ := st63_open r58
      refine qG 30 26 (bT q51) (fun wq_ hq_ => eI b54 o55 x1.length c3 2 (i64.wrap (x9 - 1)) .i64 underlying52 e56 q52 q53) (qG 31 26 (bT q51) (fun wq_ hq_ => eD b54 (o55 + ((i64.wrap (x9 - 1)) : Int).toNat * 2) 0 1 underlying63) (qG 32 26 (bT q51) (fun wq_ hq_ => eL ⟨b54, o55 + ((i64.wrap (x9 - 1)) : Int).toNat * 2 + 0, none⟩ (.int .i64 ((x1.getD (((i64.wrap (x9 - 1))).toNat) z63).var)) underlying3 (hpx ((S39.still hq_).1.inv.cell (k59 0 _ rfl)))) (qG 33 26 (bT q51) (fun wq_ hq_ => eD g33 0 0 1 underlying63) (qG 34 26 (bT q51) (fun wq_ hq_ => eL ⟨g33, 0 + 0, none⟩ (.int .i64 ((x1.getD ((x9).toNat) z63).var)) underlying3 (blk_cell ((S39.still hq_).2.blk 0 rfl b38) rfl)) (qG 35 26 (bT q51) (fun wq_ hq_ => e_geq (k := .i64) (a := (x1.getD (((i64.wrap (x9 - 1))).toNat) z63).var) (b := (x1.getD ((x9).toNat) z63).var) kr kr) (qG 36 23 (bF q46) (fun wq_ hq_ => eT (.bool (decide (((x1.getD (((i64.wrap (x9 - 1))).toNat) z63).var) ≥ ((x1.getD ((x9).toNat) z63).var)))) (bT q51)) (qV 37 (fun wq_ hq_ => eF (.bool (decide (((x1.getD (((i64.wrap (x9 - 1))).toNat) z63).var) ≥ ((x1.getD ((x9).toNat) z63).var)))) (bF q46)) (qV 38 (fun wq_ hq_ => eM (.bool (decide (((x1.getD (((i64.wrap (x9 - 1))).toNat) z63).var) ≥ ((x1.getD ((x9).toNat) z63).var))))) ?_))))))))
      by_cases q64 : ((x1.getD (((i64.wrap (x9 - 1))).toNat) z63).var) ≥ ((x1.getD ((x9).toNat) z63).var)
      · replace M := ifp q64 M
        refine qK 38 true (bT q64) ?_
        refine qK 38 true (bT q64) ?_
        refine qK 38 true (bT q64) ?_
        refine qK 38 true (bT q64) ?_
        refine qV 43 (fun wq_ hq_ => eT (.bool true) (bT q64)) ?_
        refine wpQuiet_nil ?_
        intro w65 C68
        obtain ⟨S66, K67⟩ := S39.still C68
        refine tN (cond_t rfl kr (wQ (wR (lV 2 (eA (.bool false)) (wN (tN (wT ?_)))))))
        refine inb_r (tR (tR (inb_r (tR ?_))))
        obtain rfl := sj M
        exact ret1 rfl rfl  (show _ = .bool false from kr) ⟨rfl, S66.chg⟩
      replace M := ifn q64 M
      refine qG 39 38 (bF q64) (fun wq_ hq_ => eD g33 0 1 1 underlying63) (qG 40 38 (bF q64) (fun wq_ hq_ => eL ⟨g33, 0 + 1, none⟩ (.slice A28 ((x1.getD ((x9).toNat) z63).term).length c29) underlying25 (blk_cell ((S39.still hq_).2.blk 0 rfl b38) rfl)) ?_)
      obtain ⟨t69, u70, M⟩ := bnd M
      refine qcallg (v := .bool t69) (d := 41) (t := 38) rfl kr rfl (bF q64) rfl kr (fun w_ => eC [.tmp 40] [.slice A28 ((x1.getD ((x9).toNat) z63).term).length c29] func17) (fun wq_ hq_ => (by obtain ⟨S_, K_⟩ := S39.still hq_; replace b38 := K_.blk 0 rfl b38; exact (impl_ValidTerm.calls k19 wq_ H ((x1.getD ((x9).toNat) z63).term) A28 c29 h31 l30 S_.own0 t69 u70))) (qG 42 38 (bF q64) (fun wq_ hq_ => e_notv (c := t69) kr) (qV 43 (fun wq_ hq_ => eF (.bool (decide (¬ (t69 = true)))) (bF q64)) ?_))
      refine wpQuiet_nil ?_
      intro w71 C74
      obtain ⟨S72, K73⟩ := S39.still C74
      refine tN ?_
      by_cases q75 : ¬ (t69 = true)
      · replace M := ifp q75 M
        refine cT (bT q75) (wQ (wR (lV 2 (eA (.bool false)) (wN (tN (wT (inb_r (tR (tR (inb_r (tR ?_)))))))))))
        obtain rfl := sj M
        exact ret1 rfl rfl  (show _ = .bool false from kr) ⟨rfl, S72.chg⟩
      replace M := ifn q75 M
      refine cF (bF q75) (wK (inb_n (tN (wR (lV 44 (eAdd .i64 x9 1 (by exact e13)) (lV 10 (eM (.int .i64 (i64.wrap (x9 + 1)))) (wN (tN ?_))))))))
      have S76 := St.first (Fa := []) (Fr := [(is g33)]) S72
      exact ⟨k19, (by omega), _, (i64.wrap (x9 + 1)), rfl, (by exact e10), (by exact e11), (by exact e12), kr, S76, M⟩
    replace M := ifn q51 M
    refine qK 26 false (bF q51) ?_
    refine qK 26 false (bF q51) ?_
    refine qK 26 false (bF q51) ?_
    refine qK 26 false (bF q51) ?_
    refine qK 26 false (bF q51) ?_
    refine qK 26 false (bF q51) ?_
    refine qK 26 false (bF q51) ?_
    refine qK 26 false (bF q51) ?_
    refine qK 26 false (bF q51) ?_
    refine qG 36 23 (bF q46) (fun wq_ hq_ => eF (.bool false) (bF q51)) (qV 37 (fun wq_ hq_ => eF (.bool false) (bF q46)) (qV 38 (fun wq_ hq_ => eM (.bool false)) ?_))
    refine qvg (d := 39) (t := 38) rfl kr rfl kr rfl kr (fun wq_ hq_ => eD g33 0 1 1 underlying63) ?_
    refine qvg (d := 40) (t := 38) rfl kr rfl kr rfl kr (fun wq_ hq_ => eL ⟨g33, 0 + 1, none⟩ (.slice A28 ((x1.getD ((x9).toNat) z63).term).length c29) underlying25 (blk_cell ((S39.still hq_).2.blk 0 rfl b38) rfl)) ?_
    obtain ⟨t77, u78, M⟩ := bnd M
    refine qcallg (v := .bool t77) (d := 41) (t := 38) rfl kr rfl kr rfl kr (fun w_ => eC [.tmp 40] [.slice A28 ((x1.getD ((x9).toNat) z63).term).length c29] func17) (fun wq_ hq_ => (by obtain ⟨S_, K_⟩ := S39.still hq_; replace b38 := K_.blk 0 rfl b38; exact (impl_ValidTerm.calls k19 wq_ H ((x1.getD ((x9).toNat) z63).term) A28 c29 h31 l30 S_.own0 t77 u78))) ?_
    refine qvg (d := 42) (t := 38) rfl kr rfl kr rfl kr (fun wq_ hq_ => e_notv (c := t77) kr) (qV 43 (fun wq_ hq_ => eF (.bool (decide (¬ (t77 = true))))) ?_)
    refine wpQuiet_nil ?_
    intro w79 C82
    obtain ⟨S80, K81⟩ := S39.still C82
    refine tN ?_
    by_cases q83 : ¬ (t77 = true)
    · replace M := ifp q83 M
      refine cT (bT q83) (wQ (wR (lV 2 (eA (.bool false)) (wN (tN (wT (inb_r (tR (tR (inb_r (tR ?_)))))))))))
      obtain rfl := sj M
      exact ret1 rfl rfl  (show _ = .bool false from kr) ⟨rfl, S80.chg⟩
    replace M := ifn q83 M
    refine cF (bF q83) (wK (inb_n (tN (wR (lV 44 (eAdd .i64 x9 1 (by exact e13)) (lV 10 (eM (.int .i64 (i64.wrap (x9 + 1)))) (wN (tN ?_))))))))
    have S84 := St.first (Fa := []) (Fr := [(is g33)]) S80
    exact ⟨k19, (by omega), _, (i64.wrap (x9 + 1)), rfl, (by exact e10), (by exact e11), (by exact e12), kr, S84, M⟩
  replace M := ifn q20 M
  refine cF (bF q20) (wp_exit (tE (tE (inb_hit (tN (wQ (wR (lV 2 (eA (.bool true)) (wN (tN (wT ?_)))))))))))
  obtain rfl := sj M
  exact ret1 rfl rfl  (show _ = .bool true from kr) ⟨rfl, S14.chg⟩

/-! impl_node_put -/
mutual
def impl_node_put_2.l0 : Nat → Tm → (List Cell) → (List UInt8) → Option (List Cell)
  | 0, _, _, _ => none
  | k67 + 1, x1, x4, x55 => (if x4.length + 1 ≤ 3518437208883 then (impl_node_put_2.l1 k67 x1 (x4 ++ [(⟨x1.kind, x1.n, x55⟩ : Cell)]) 0) else none)
def impl_node_put_2.l1 : Nat → Tm → (List Cell) → Int → Option (List Cell)
  | 0, _, _, _ => none
  | k124 + 1, x1, x108, x113 => (if x113 < (x1.args.length : Int) then (if 0 ≤ x113 then ((impl_node_cut_2.f k124 x1 (x1.args.getD ((x113).toNat) (Tm.mk 0 0 [] [])) x108).bind fun t137 => (impl_node_put_2.l1 k124 x1 t137 (i64.wrap (x113 + 1)))) else none) else some x108)
def impl_node_put_2.f : Nat → Tm → (List Cell) → Option (List Cell)
  | 0, _, _ => none
  | k1_ + 1, x1, x4 => (if x1.kind ≥ 2 then (if x1.text.length ≤ 9223372036854775807 then (impl_node_put_2.l0 k1_ x1 x4 x1.text) else none) else (impl_node_put_2.l0 k1_ x1 x4 []))
def impl_node_cut_2.f : Nat → Tm → Tm → (List Cell) → Option (List Cell)
  | 0, _, _, _ => none
  | k1_ + 1, _, x4, x7 => ((impl_node_put_2.f k1_ x4 x7).bind fun t12 => some t12)
end
theorem impl_node_put_2.all : ∀ (K : Nat), (∀ (k : Nat), k < K → ∀ (w : World) (H : Hp) (x1 : Tm) (g2 : Nat) (x4 : List Cell) (A5 : Option Addr) (c6 : Nat) (F8 : Foot) (h3 : NodeR 125 H x1 (.pointer (some ⟨g2, 0, none⟩))) (h7 : Row st65 65 H (hp w) F8 A5 c6 x4) (S : Own [F8] H w) (r : List Cell) (M : impl_node_put_2.f k x1 x4 = some r), Calls Try.prog 112 #[.pointer (some ⟨g2, 0, none⟩), .slice A5 x4.length c6] w (fun e e_w => ∃ (A_1 : Option Addr) (c_1 : Nat) (F_1 : Foot) (H_ : Hp), e = .returned (.slice A_1 r.length c_1) ∧ Row st65 65 H_ (hp e_w) F_1 A_1 c_1 r ∧ St (anyOf [F8]) H w [F_1] H_ e_w)) ∧ (∀ (k : Nat), k < K → ∀ (w : World) (H : Hp) (x1 : Tm) (g2 : Nat) (x4 : Tm) (g5 : Nat) (x7 : List Cell) (A8 : Option Addr) (c9 : Nat) (F11 : Foot) (h3 : NodeR 125 H x1 (.pointer (some ⟨g2, 0, none⟩))) (h6 : NodeR 125 H x4 (.pointer (some ⟨g5, 0, none⟩))) (h10 : Row st65 65 H (hp w) F11 A8 c9 x7) (S : Own [F11] H w) (r : List Cell) (M : impl_node_cut_2.f k x1 x4 x7 = some r), Calls Try.prog 128 #[.pointer (some ⟨g2, 0, none⟩), .pointer (some ⟨g5, 0, none⟩), .slice A8 x7.length c9] w (fun e e_w => ∃ (A_1 : Option Addr) (c_1 : Nat) (F_1 : Foot) (H_ : Hp), e = .returned (.slice A_1 r.length c_1) ∧ Row st65 65 H_ (hp e_w) F_1 A_1 c_1 r ∧ St (anyOf [F11]) H w [F_1] H_ e_w)) := by
  intro K
  induction K with
  | zero => exact ⟨fun k hk => by omega, fun k hk => by omega⟩
  | succ K ih =>
    refine ⟨?_, ?_⟩
    · intro k hk w H x1 g2 x4 A5 c6 F8 h3 h7 S r M
      rcases k with _ | k1_
      · rw [impl_node_put_2.f] at M
        cases M
      rw [impl_node_put_2.f] at M
      refine enter (l := [.pointer (some ⟨g2, 0, none⟩), .slice A5 x4.length c6]) 47 func112 rfl rfl rfl ?_
      have S0_ := S.st
      refine wQ (wR (lV 4 (eA (.slice none 0 0)) (wN (tN (wQ ?_)))))
      refine region_mix (S := (fun (L_ : Array Bool) (w_ : World) => Ext H (hp w_) ∧ True)) kr S0_ ?_
      intro w9 S10 K11 hc12
      have hs13 : (fun (L_ : Array Bool) (w_ : World) => Ext H (hp w_) ∧ True) (Array.replicate 11 false) w9 := ⟨S10.inv, trivial⟩
      replace h7 := h7.move (K11.at 0 rfl)
      refine xV 0 8 rfl hc12 hs13 (fun L_ w_ hc_ hu_ hs_ => eM (.pointer (some ⟨g2, 0, none⟩))) ?_; intro hc14 hs15
      refine xV 1 9 rfl hc14 hs15 (fun L_ w_ hc_ hu_ hs_ => eN ⟨g2, 0, none⟩) ?_; intro hc16 hs17
      refine xV 2 10 rfl hc16 hs17 (fun L_ w_ hc_ hu_ hs_ => eD g2 0 0 1 underlying125) ?_; intro hc18 hs19
      obtain ⟨A20, c21, y22, q23, h24, h25, l26, h27⟩ := node_open h3
      refine xV 3 11 rfl hc18 hs19 (fun L_ w_ hc_ hu_ hs_ => eL ⟨g2, 0 + 0, none⟩ (.int .i64 x1.kind) underlying3 (blk_cells (hs_.1 _ _ h24) h25 0 _ rfl)) ?_; intro hc28 hs29
      refine xV 4 12 rfl hc28 hs29 (fun L_ w_ hc_ hu_ hs_ => eM (.pointer (some ⟨g2, 0, none⟩))) ?_; intro hc30 hs31
      refine xV 5 13 rfl hc30 hs31 (fun L_ w_ hc_ hu_ hs_ => eN ⟨g2, 0, none⟩) ?_; intro hc32 hs33
      refine xV 6 14 rfl hc32 hs33 (fun L_ w_ hc_ hu_ hs_ => eD g2 0 1 1 underlying125) ?_; intro hc34 hs35
      refine xV 7 15 rfl hc34 hs35 (fun L_ w_ hc_ hu_ hs_ => eL ⟨g2, 0 + 1, none⟩ (.int .i64 x1.n) underlying3 (blk_cells (hs_.1 _ _ h24) h25 1 _ rfl)) ?_; intro hc36 hs37
      refine xV 8 16 rfl hc36 hs37 (fun L_ w_ hc_ hu_ hs_ => (show _ = Result.ok (Next.value (.agg #[.int .i64 x1.kind, .int .i64 x1.n, .slice none 0 0])) w_ from by kernel_rfl)) ?_; intro hc38 hs39
      refine xO 9 hc38 ?_
      refine yE 9 5 rfl (nB #[.int .i64 0, .int .i64 0, .slice none 0 0] 65 S10) ?_
      rintro hc45 _ w40 ⟨g41, rfl, b42, S43, K44⟩
      replace h7 := h7.move (K44.at 0 rfl)
      refine ⟨⟨S43.inv, trivial⟩, fun hs46 => ?_⟩
      refine xO 10 hc45 ?_
      refine yS 10 rfl (eSa g41 0 [.int .i64 x1.kind, .int .i64 x1.n, .slice none 0 0] S43 b42) ?_
      rintro hc51 w47 ⟨b48, S49, K50⟩
      replace h7 := h7.move (K50.at 0 rfl)
      refine ⟨⟨S49.inv, trivial⟩, fun hs52 => ?_⟩
      clear b42
      refine xn kr ?_ _
      refine tN ?_
      refine wp_seq_cut (fun a66 w53 => ∃ (k68 : Nat), k68 ≤ k1_ ∧ ∃ (f54 : Nat → Value) (x55 : List UInt8) (A56 : Option Addr) (c57 : Nat) (F58 : Foot), k68 < K ∧ a66 = mk 47 f54 ∧ f54 0 = .pointer (some ⟨g2, 0, none⟩) ∧ f54 1 = .slice A5 x4.length c6 ∧ f54 5 = .pointer (some ⟨g41, 0, none⟩) ∧ w53.heap[g41]? = some (.cells #[.int .i64 x1.kind, .int .i64 x1.n, .slice A56 x55.length c57] 65 (0, 0)) ∧ Row st65 65 H (hp w53) F8 A5 c6 x4 ∧ Row tByte 5 H (hp w53) F58 A56 c57 x55 ∧ St (anyOf [F8]) H w [(is g41), F8, F58] H w53 ∧ impl_node_put_2.l0 k68 x1 x4 x55 = some r) ?_ ?_
      · refine wQ (wR (lV 17 (eM (.pointer (some ⟨g2, 0, none⟩))) (lV 18 (eN ⟨g2, 0, none⟩) (lV 19 (eD g2 0 0 1 underlying125) (lV 20 (eL ⟨g2, 0 + 0, none⟩ (.int .i64 x1.kind) underlying3 (blk_cells (S49.inv _ _ h24) h25 0 _ rfl)) (lV 21 (e_geq (k := .i64) (a := x1.kind) (b := 2) kr rfl) (wN (tN ?_))))))))
        by_cases q69 : x1.kind ≥ 2
        · replace M := ifp q69 M
          refine cT (bT q69) (wR (lV 22 (eM (.pointer (some ⟨g2, 0, none⟩))) (lV 23 (eN ⟨g2, 0, none⟩) (lV 24 (eD g2 0 2 1 underlying125) (lV 25 (eL ⟨g2, 0 + 2, none⟩ (str x1.text) underlying9 (blk_cells (S49.inv _ _ h24) h25 2 _ rfl)) ?_)))))
          obtain ⟨q70, M⟩ := chk M
          refine lW 26 (e_conv_sb (xs := x1.text) S49 underlying9 underlying59 underlying5 kr q70) ?_
          rintro _ w71 ⟨A72, c73, F74, rfl, h75, S76, K77⟩
          replace b48 := K77.blk 0 rfl b48
          replace h7 := h7.move (K77.at 1 rfl)
          refine lV 27 (eD g41 0 2 1 underlying65) ?_
          have S78 := S76.pulls [(is g41), F74, F8] [1] rfl
          refine lE (eS g41 (0 + 2) (.slice A72 x1.text.length c73) #[.int .i64 x1.kind, .int .i64 x1.n, .slice A72 x1.text.length c73] [.slice A72 x1.text.length c73] S78 b48) ?_
          rintro w79 ⟨b80, S81, K82⟩
          replace h75 := h75.move (K82.at 0 rfl)
          replace h7 := h7.move (K82.at 1 rfl)
          clear b48
          refine wN (tN ?_)
          have S85 := S81.pulls [(is g41), F8, F74] [1, 2, 2] rfl
          exact ⟨k1_, (by omega), _, x1.text, A72, c73, F74, (by omega), rfl, kr, kr, kr, b80, h7, h75, S85, M⟩
        replace M := ifn q69 M
        refine cF (bF q69) (wK (tN ?_))
        have S86 := S49.unit
        have S88 := S86.pulls [(is g41), F8, no] [2, 2] rfl
        exact ⟨k1_, (by omega), _, [], none, 0, no, (by omega), rfl, kr, kr, kr, b48, h7, (Row.nil _ _ _ _ _), S88, M⟩
      clear M
      rintro a66 w53 ⟨k68, z149, f54, x55, A56, c57, F58, z64, rfl, e60, e61, e62, b48, h7, h59, S63, M⟩
      rcases k68 with _ | k67
      · rw [impl_node_put_2.l0] at M
        cases M
      rw [impl_node_put_2.l0] at M
      refine wQ (wR (lV 28 (eM (.slice A5 x4.length c6) (by exact e61)) (lV 29 (e_loadS (b := g41) (off := 0) (cs := [.int .i64 x1.kind, .int .i64 x1.n, .slice A56 x55.length c57]) underlying65 rfl kr (by exact e62) (blk_cells b48 rfl)) ?_)))
      refine lW 30 (new_blk (v := fun g_ => .slice (some ⟨g_, 0, none⟩) 1 1) (cs := #[.int .i64 x1.kind, .int .i64 x1.n, .slice A56 x55.length c57]) (t := 65) S63 kr) ?_
      rintro _ w89 ⟨g90, rfl, b91, S92, K93⟩
      replace h7 := h7.move (K93.at 1 rfl)
      replace h59 := h59.move (K93.at 2 rfl)
      obtain ⟨q94, M⟩ := chk M
      have S96 := S92.pulls [F8, F58, (is g90), (is g41)] [3, 3] rfl
      refine lW 31 (e_append (d := st65) (n := x4.length) (xs := x4) (cap := c6) (A := A5) (ys := [(⟨x1.kind, x1.n, x55⟩ : Cell)]) (A2 := (some ⟨g90, 0, none⟩)) (c2 := 1) (z := .agg #[.int .i64 0, .int .i64 0, .slice none 0 0]) (bytes := 40) S96 underlying25 kr rfl (by decide) kr rfl kr h7 (elsO_one1 (st65_mkO (x := (⟨x1.kind, x1.n, x55⟩ : Cell)) h59)) (.inr (blk_news b91 rfl)) (show (x4.length + [(⟨x1.kind, x1.n, x55⟩ : Cell)].length) * 40 ≤ _ by first | omega | (simp only [List.length_cons, List.length_nil]; omega)) (by decide)) ?_
      rintro _ w97 ⟨A98, c99, F100, rfl, h101, S102, K103⟩
      refine lV 1 (eA (.slice A98 ((x4 ++ [(⟨x1.kind, x1.n, x55⟩ : Cell)]).length) c99)) (wN (tN (wQ (wQ (wR (lV 32 (eM (.pointer (some ⟨g2, 0, none⟩)) (by exact e60)) (lV 33 (eN ⟨g2, 0, none⟩) (lV 34 (eD g2 0 3 1 underlying125) (lV 35 (eL ⟨g2, 0 + 3, none⟩ (.slice A20 x1.args.length c21) underlying87 (blk_cells (S102.inv _ _ h24) h25 3 _ rfl)) (lV 36 (e_len (A := A20) (n := x1.args.length) (c := c21) underlying87 kr) (lV 37 (eM (.int .i64 0)) (wN (tN (wp_block ?_))))))))))))))
      have S125 := St.first (Fa := [F100]) (Fr := [(is g90), (is g41)]) S102
      refine wp_loop_g (fun k122 a123 w104 => ∃ (f105 : Nat → Value) (H106 : Hp) (x108 : List Cell) (A109 : Option Addr) (c110 : Nat) (F111 : Foot) (x113 : Int), k122 < K ∧ a123 = mk 47 f105 ∧ f105 0 = .pointer (some ⟨g2, 0, none⟩) ∧ f105 1 = .slice A109 x108.length c110 ∧ f105 35 = .slice A20 x1.args.length c21 ∧ f105 36 = .int .i64 (x1.args.length : Int) ∧ f105 37 = .int .i64 x113 ∧ Row st65 65 H106 (hp w104) F111 A109 c110 x108 ∧ Ext H H106 ∧ St (anyOf [F8]) H w [F111] H106 w104 ∧ impl_node_put_2.l1 k122 x1 x108 x113 = some r) k67 ⟨_, H, (x4 ++ [(⟨x1.kind, x1.n, x55⟩ : Cell)]), A98, c99, F100, 0, (by omega), rfl, (by exact e60), kr, kr, kr, kr, h101, (Ext.refl _), S125, M⟩ ?_
      clear M
      rintro k122 a123 w104 ⟨f105, H106, x108, A109, c110, F111, x113, z120, rfl, e114, e115, e116, e117, e118, h112, Y107, S119, M⟩
      rcases k122 with _ | k124
      · rw [impl_node_put_2.l1] at M
        cases M
      rw [impl_node_put_2.l1] at M
      refine wQ (wR (lV 38 (eLt .i64 x113 (x1.args.length : Int) (by exact e118) (by exact e117)) (wN (tN (wQ ?_)))))
      by_cases q126 : x113 < (x1.args.length : Int)
      · replace M := ifp q126 M
        refine cT (bT q126) (wK (tN (wQ (wp_block (wQ (wR ?_))))))
        obtain ⟨q127, M⟩ := chk M
        obtain ⟨b128, o129, e130⟩ := Rd.addr h27 (show (x113).toNat < x1.args.length by omega)
        obtain ⟨y131, r132, k133⟩ := Rd.at h27 e130 (getD_some (Tm.mk 0 0 [] []) (show (x113).toNat < x1.args.length by omega))
        obtain ⟨v134, rfl, h135⟩ := r132
        obtain ⟨g136, rfl⟩ := node_ptr h135
        refine lV 39 (e_indexAddr (b := b128) (off := o129) (n := x1.args.length) (c := c21) (sz := 1) (i := x113) (k := .i64) underlying87 e130 kr (by exact e116) (by exact e118) q127 q126) (lV 40 (eL ⟨b128, o129 + (x113 : Int).toNat * 1, none⟩ (.pointer (some ⟨g136, 0, none⟩)) underlying74 (hpx (S119.inv.cell (Y107.cell (k133 0 _ rfl))))) (lV 7 (eA (.pointer (some ⟨g136, 0, none⟩))) (wN (tN (wR (lV 41 (eM (.pointer (some ⟨g2, 0, none⟩)) (by exact e114)) (lV 42 (eM (.pointer (some ⟨g136, 0, none⟩))) (lV 43 (eM (.slice A109 x108.length c110) (by exact e115)) ?_))))))))
        obtain ⟨t137, u138, M⟩ := bnd M
        refine lC 44 (eC [.tmp 41, .tmp 42, .tmp 43] [.pointer (some ⟨g2, 0, none⟩), .pointer (some ⟨g136, 0, none⟩), .slice A109 x108.length c110] func128) (ih.2 k124 (by omega) w104 H106 x1 g2 (x1.args.getD ((x113).toNat) (Tm.mk 0 0 [] [])) g136 x108 A109 c110 F111 (h3.ext' Y107) (h135.ext' Y107) h112 (St.own' (Fa := [F111]) (Fr := []) S119) t137 u138) ?_
        rintro _ w139 ⟨A142, c143, F145, H140, rfl, h144, T141⟩
        refine ⟨_, rfl, ?_⟩
        obtain ⟨S146, K147⟩ := St.call (Fa := [F111]) (Fr := []) S119 T141
        have E148 := T141.ext
        refine lV 1 (eA (.slice A142 t137.length c143)) (wN (inb_n (tN (wR (lV 45 (eAdd .i64 x113 1 (by exact e118)) (lV 37 (eM (.int .i64 (i64.wrap (x113 + 1)))) (wN (tN ?_))))))))
        exact ⟨k124, (by omega), _, H140, t137, A142, c143, F145, (i64.wrap (x113 + 1)), (by omega), rfl, (by exact e114), kr, (by exact e116), (by exact e117), kr, h144, (Y107.trans E148), S146, M⟩
      replace M := ifn q126 M
      refine cF (bF q126) (wp_exit (tE (tE (inb_hit (tN (wQ (wR (lV 46 (eM (.slice A109 x108.length c110) (by exact e115)) (lV 4 (eA (.slice A109 x108.length c110)) (wN (tN (wT ?_))))))))))))
      obtain rfl := sj M
      exact ret1 rfl rfl  (show _ = .slice A109 x108.length c110 from kr) ⟨A109, c110, F111, H106, rfl, h112, S119⟩
    · intro k hk w H x1 g2 x4 g5 x7 A8 c9 F11 h3 h6 h10 S r M
      rcases k with _ | k1_
      · rw [impl_node_cut_2.f] at M
        cases M
      rw [impl_node_cut_2.f] at M
      refine enter (l := [.pointer (some ⟨g2, 0, none⟩), .pointer (some ⟨g5, 0, none⟩), .slice A8 x7.length c9]) 10 func128 rfl rfl rfl ?_
      have S0_ := S.st
      refine wQ (wR (lV 6 (eA (.slice none 0 0)) (wN (tN (wQ (wR (lV 7 (eM (.pointer (some ⟨g5, 0, none⟩))) (lV 8 (eM (.slice A8 x7.length c9)) ?_))))))))
      obtain ⟨t12, u13, M⟩ := bnd M
      refine lC 9 (eC [.tmp 7, .tmp 8] [.pointer (some ⟨g5, 0, none⟩), .slice A8 x7.length c9] func112) (ih.1 k1_ (by omega) w H x4 g5 x7 A8 c9 F11 h6 h10 (St.own' (Fa := [F11]) (Fr := []) S0_) t12 u13) ?_
      rintro _ w14 ⟨A17, c18, F20, H15, rfl, h19, T16⟩
      refine ⟨_, rfl, ?_⟩
      obtain ⟨S21, K22⟩ := St.call (Fa := [F11]) (Fr := []) S0_ T16
      have E23 := T16.ext
      refine lV 6 (eA (.slice A17 t12.length c18)) (wN (tN (wT ?_)))
      obtain rfl := sj M
      exact ret1 rfl rfl  (show _ = .slice A17 t12.length c18 from kr) ⟨A17, c18, F20, H15, rfl, h19, S21⟩
theorem impl_node_put_2.calls (k : Nat) (w : World) (H : Hp) (x1 : Tm) (g2 : Nat) (x4 : List Cell) (A5 : Option Addr) (c6 : Nat) (F8 : Foot) (h3 : NodeR 125 H x1 (.pointer (some ⟨g2, 0, none⟩))) (h7 : Row st65 65 H (hp w) F8 A5 c6 x4) (S : Own [F8] H w) (r : List Cell) (M : impl_node_put_2.f k x1 x4 = some r) :
    Calls Try.prog 112 #[.pointer (some ⟨g2, 0, none⟩), .slice A5 x4.length c6] w (fun e e_w => ∃ (A_1 : Option Addr) (c_1 : Nat) (F_1 : Foot) (H_ : Hp), e = .returned (.slice A_1 r.length c_1) ∧ Row st65 65 H_ (hp e_w) F_1 A_1 c_1 r ∧ St (anyOf [F8]) H w [F_1] H_ e_w) := (impl_node_put_2.all (k + 1)).1 k (Nat.lt_succ_self k) w H x1 g2 x4 A5 c6 F8 h3 h7 S r M
theorem impl_node_cut_2.calls (k : Nat) (w : World) (H : Hp) (x1 : Tm) (g2 : Nat) (x4 : Tm) (g5 : Nat) (x7 : List Cell) (A8 : Option Addr) (c9 : Nat) (F11 : Foot) (h3 : NodeR 125 H x1 (.pointer (some ⟨g2, 0, none⟩))) (h6 : NodeR 125 H x4 (.pointer (some ⟨g5, 0, none⟩))) (h10 : Row st65 65 H (hp w) F11 A8 c9 x7) (S : Own [F11] H w) (r : List Cell) (M : impl_node_cut_2.f k x1 x4 x7 = some r) :
    Calls Try.prog 128 #[.pointer (some ⟨g2, 0, none⟩), .pointer (some ⟨g5, 0, none⟩), .slice A8 x7.length c9] w (fun e e_w => ∃ (A_1 : Option Addr) (c_1 : Nat) (F_1 : Foot) (H_ : Hp), e = .returned (.slice A_1 r.length c_1) ∧ Row st65 65 H_ (hp e_w) F_1 A_1 c_1 r ∧ St (anyOf [F11]) H w [F_1] H_ e_w) := (impl_node_put_2.all (k + 1)).2 k (Nat.lt_succ_self k) w H x1 g2 x4 g5 x7 A8 c9 F11 h3 h6 h10 S r M

/-! impl_node_cells -/
def impl_node_cells.f (k : Nat) (x1 : Tm) : Option (List Cell) := ((impl_node_put_2.f k x1 []).bind fun t5 => some t5)
theorem impl_node_cells.calls (k : Nat) (w : World) (H : Hp) (x1 : Tm) (g2 : Nat) (h3 : NodeR 125 H x1 (.pointer (some ⟨g2, 0, none⟩))) (S : Own [] H w) (r : List Cell) (M : impl_node_cells.f k x1 = some r) :
    Calls Try.prog 68 #[.pointer (some ⟨g2, 0, none⟩)] w (fun e e_w => ∃ (A_1 : Option Addr) (c_1 : Nat) (F_1 : Foot) (H_ : Hp), e = .returned (.slice A_1 r.length c_1) ∧ Row st65 65 H_ (hp e_w) F_1 A_1 c_1 r ∧ St (anyOf []) H w [F_1] H_ e_w) := by
  rw [impl_node_cells.f] at M
  refine enter (l := [.pointer (some ⟨g2, 0, none⟩)]) 5 func68 rfl rfl rfl ?_
  have S0_ := S.st
  refine wQ (wR (lV 2 (eA (.slice none 0 0)) (wN (tN (wQ (wR (lV 3 (eM (.pointer (some ⟨g2, 0, none⟩))) ?_)))))))
  have S4 := S0_.unit
  obtain ⟨t5, u6, M⟩ := bnd M
  refine lC 4 (eC [.tmp 3, .const (.slice none 0 0)] [.pointer (some ⟨g2, 0, none⟩), .slice none 0 0] func112) (impl_node_put_2.calls k w H x1 g2 [] none 0 no h3 (Row.nil _ _ _ _ no) (St.own' (Fa := [no]) (Fr := []) S4) t5 u6) ?_
  rintro _ w7 ⟨A10, c11, F13, H8, rfl, h12, T9⟩
  refine ⟨_, rfl, ?_⟩
  obtain ⟨S14, K15⟩ := St.call (Fa := [no]) (Fr := []) S4 T9
  have E16 := T9.ext
  refine lV 2 (eA (.slice A10 t5.length c11)) (wN (tN (wT ?_)))
  obtain rfl := sj M
  exact ret1 rfl rfl  (show _ = .slice A10 t5.length c11 from kr) ⟨A10, c11, F13, H8, rfl, h12, S14⟩

/-! impl_Apply -/
def impl_Apply.l1 : Nat → (List Cell) → (List (Int × List Cell)) → (List Cell) → Int → Option ((List Cell) × Int)
  | 0, _, _, _, _ => none
  | k94 + 1, x6, x35, x78, x83 => (if x83 < (x6.length : Int) then (if 0 ≤ x83 then (if (mget x35 ((x6.getD ((x83).toNat) z65).n)).isSome = true then (if ((x6.getD ((x83).toNat) z65).kind) = 0 then ((impl_tree.f k94 ((mget x35 ((x6.getD ((x83).toNat) z65).n)).getD ([] : List Cell))).bind fun t128 => ((impl_node_cells.f k94 t128).bind fun t138 => (if x78.length + t138.length ≤ 3518437208883 then (if ((x78 ++ t138).length : Int) > 2000 then some ([], 3) else (impl_Apply.l1 k94 x6 x35 (x78 ++ t138) (i64.wrap (x83 + 1)))) else none))) else (if 0 + ((x6.getD ((x83).toNat) z65).text).length ≤ 140737488355328 then (if x78.length + 1 ≤ 3518437208883 then (if ((x78 ++ [(x6.getD ((x83).toNat) z65)]).length : Int) > 2000 then some ([], 3) else (impl_Apply.l1 k94 x6 x35 (x78 ++ [(x6.getD ((x83).toNat) z65)]) (i64.wrap (x83 + 1)))) else none) else none)) else (if 0 + ((x6.getD ((x83).toNat) z65).text).length ≤ 140737488355328 then (if x78.length + 1 ≤ 3518437208883 then (if ((x78 ++ [(x6.getD ((x83).toNat) z65)]).length : Int) > 2000 then some ([], 3) else (impl_Apply.l1 k94 x6 x35 (x78 ++ [(x6.getD ((x83).toNat) z65)]) (i64.wrap (x83 + 1)))) else none) else none)) else none) else some (x78, 0))
def impl_Apply.l0 : Nat → (List Binding) → (List Cell) → Int → (List (Int × List Cell)) → Option ((List Cell) × Int)
  | 0, _, _, _, _ => none
  | k46 + 1, x1, x6, x34, x35 => (if x34 < (x1.length : Int) then (if 0 ≤ x34 then (impl_Apply.l0 k46 x1 x6 (i64.wrap (x34 + 1)) (mset x35 ((x1.getD ((x34).toNat) z63).var) ((x1.getD ((x34).toNat) z63).term))) else none) else (impl_Apply.l1 k46 x6 x35 [] 0))
def impl_Apply.f (k : Nat) (x1 : List Binding) (x6 : List Cell) : Option ((List Cell) × Int) := ((impl_validSub.f k x1).bind fun t11 => (if ¬ (t11 = true) then some ([], 1) else ((impl_ValidTerm.f k x6).bind fun t19 => (if ¬ (t19 = true) then some ([], 1) else (impl_Apply.l0 k x1 x6 0 [])))))
theorem impl_Apply.calls (k : Nat) (w : World) (H : Hp) (x1 : List Binding) (A2 : Option Addr) (c3 : Nat) (x6 : List Cell) (A7 : Option Addr) (c8 : Nat) (h4 : Rd st63 H A2 x1) (l5 : x1.length ≤ c3) (h9 : Rd st65 H A7 x6) (l10 : x6.length ≤ c8) (S : Own [] H w) (r : (List Cell) × Int) (M : impl_Apply.f k x1 x6 = some r) :
    Calls Try.prog 46 #[.slice A2 x1.length c3, .slice A7 x6.length c8] w (fun e e_w => ∃ (A_1 : Option Addr) (c_1 : Nat) (F_1 : Foot) (H_ : Hp), e = .returned (.tuple #[.slice A_1 r.1.length c_1, .int .i64 r.2]) ∧ Row st65 65 H_ (hp e_w) F_1 A_1 c_1 r.1 ∧ St (anyOf []) H w [F_1] H_ e_w) := by
  rw [impl_Apply.f] at M
  refine enter (l := [.slice A2 x1.length c3, .slice A7 x6.length c8]) 72 func46 rfl rfl rfl ?_
  have S0_ := S.st
  refine wQ (wR (lV 4 (eA (.slice none 0 0)) (lV 5 (eA (.int .i64 0)) (wN (tN (wQ (wQ (wR (lV 14 (eM (.slice A2 x1.length c3)) ?_)))))))))
  obtain ⟨t11, u12, M⟩ := bnd M
  refine lC 15 (eC [.tmp 14] [.slice A2 x1.length c3] func87) (impl_validSub.calls k w H x1 A2 c3 h4 l5 S0_.own0 t11 u12) ?_
  rintro _ w13 ⟨rfl, C14⟩
  refine ⟨_, rfl, ?_⟩
  obtain ⟨S15, K16⟩ := S0_.still C14
  refine lV 16 (e_notv (c := t11) kr) (lV 17 (eM (.bool (decide (¬ (t11 = true))))) ?_)
  by_cases q17 : ¬ (t11 = true)
  · replace M := ifp q17 M
    refine lK 17 true (bT q17) ?_
    refine lK 17 true (bT q17) ?_
    refine lK 17 true (bT q17) ?_
    refine lV 21 (eT (.bool true) (bT q17)) (wN (tN (cond_t rfl kr (wQ (wR (lV 4 (eA (.slice none 0 0)) (lV 5 (eA (.int .i64 1)) (wN (tN (wT (tR ?_)))))))))))
    obtain rfl := sj M
    have S18 := S15.unit
    exact ret2 rfl rfl rfl (show _ = .slice none 0 0 from kr) (show _ = .int .i64 1 from kr) ⟨none, 0, no, H, rfl, (Row.nil _ _ _ _ no), S18⟩
  replace M := ifn q17 M
  refine lG 18 17 (bF q17) (eM (.slice A7 x6.length c8)) ?_
  obtain ⟨t19, u20, M⟩ := bnd M
  refine lcallg (d := 19) (t := 17) rfl kr rfl (bF q17) rfl kr (eC [.tmp 18] [.slice A7 x6.length c8] func17) (impl_ValidTerm.calls k w13 H x6 A7 c8 h9 l10 S15.own0 t19 u20) ?_
  rintro _ w21 ⟨rfl, C22⟩
  refine ⟨_, rfl, ?_⟩
  obtain ⟨S23, K24⟩ := S15.still C22
  refine lG 20 17 (bF q17) (e_notv (c := t19) kr) (lV 21 (eF (.bool (decide (¬ (t19 = true)))) (bF q17)) (wN (tN ?_)))
  by_cases q25 : ¬ (t19 = true)
  · replace M := ifp q25 M
    refine cT (bT q25) (wQ (wR (lV 4 (eA (.slice none 0 0)) (lV 5 (eA (.int .i64 1)) (wN (tN (wT (tR ?_))))))))
    obtain rfl := sj M
    have S26 := S23.unit
    exact ret2 rfl rfl rfl (show _ = .slice none 0 0 from kr) (show _ = .int .i64 1 from kr) ⟨none, 0, no, H, rfl, (Row.nil _ _ _ _ no), S26⟩
  replace M := ifn q25 M
  refine cF (bF q25) (wK (tN (wQ (wR ?_))))
  refine lW 22 (e_makeMap S23 encI sl65) ?_
  rintro _ w27 ⟨g28, rfl, h29, S30, K31⟩
  refine lV 6 (eA (.map (some g28))) (wN (tN (wQ (wQ (wR (lV 23 (eM (.slice A2 x1.length c3)) (lV 24 (e_len (A := A2) (n := x1.length) (c := c3) underlying52 kr) (lV 25 (eM (.int .i64 0)) (wN (tN (wp_block ?_)))))))))))
  refine wp_loop_g (fun k44 a45 w32 => ∃ (f33 : Nat → Value) (x34 : Int) (x35 : List (Int × List Cell)), a45 = mk 72 f33 ∧ f33 1 = .slice A7 x6.length c8 ∧ f33 6 = .map (some g28) ∧ f33 23 = .slice A2 x1.length c3 ∧ f33 24 = .int .i64 (x1.length : Int) ∧ f33 25 = .int .i64 x34 ∧ MapO encI sl65 H (hp w32) g28 x35 ∧ St (anyOf []) H w [(is g28)] H w32 ∧ impl_Apply.l0 k44 x1 x6 x34 x35 = some r) k ⟨_, 0, [], rfl, kr, kr, kr, kr, kr, h29, S30, M⟩ ?_
  clear M
  rintro k44 a45 w32 ⟨f33, x34, x35, rfl, e36, e37, e38, e39, e40, h29, S41, M⟩
  rcases k44 with _ | k46
  · rw [impl_Apply.l0] at M
    cases M
  rw [impl_Apply.l0] at M
  refine wQ (wR (lV 26 (eLt .i64 x34 (x1.length : Int) (by exact e40) (by exact e39)) (wN (tN (wQ ?_)))))
  by_cases q47 : x34 < (x1.length : Int)
  · replace M := ifp q47 M
    refine cT (bT q47) (wK (tN (wQ (wp_block (wQ (wR ?_))))))
    obtain ⟨q48, M⟩ := chk M
    obtain ⟨b49, o50, e51⟩ := Rd.addr h4 (show (x34).toNat < x1.length by omega)
    obtain ⟨y52, r53, k54⟩ := Rd.at h4 e51 (getD_some z63 (show (x34).toNat < x1.length by omega))
    obtain ⟨A55, c56, rfl, l57, h58⟩ := st63_open r53
    refine lV 27 (e_indexAddr (b := b49) (off := o50) (n := x1.length) (c := c3) (sz := 2) (i := x34) (k := .i64) underlying52 e51 kr (by exact e38) (by exact e40) q48 q47) (lV 28 (e_loadS (b := b49) (off := o50 + (x34 : Int).toNat * 2) (cs := [.int .i64 ((x1.getD ((x34).toNat) z63).var), .slice A55 ((x1.getD ((x34).toNat) z63).term).length c56]) underlying63 rfl kr kr (fun j_ u_ e_ => (hpx (S41.inv.cell (k54 j_ u_ e_))))) ?_)
    refine lW 8 (nB #[.int .i64 0, .slice none 0 0] 63 S41) ?_
    rintro _ w59 ⟨g60, rfl, b61, S62, K63⟩
    replace h29 := h29.move (K63.at 0 rfl)
    refine lE (eSa g60 0 [.int .i64 ((x1.getD ((x34).toNat) z63).var), .slice A55 ((x1.getD ((x34).toNat) z63).term).length c56] S62 b61) ?_
    rintro w64 ⟨b65, S66, K67⟩
    replace h29 := h29.move (K67.at 0 rfl)
    clear b61
    refine wN (tN (wR (lV 29 (eM (.map (some g28)) (by exact e37)) (lV 30 (eD g60 0 0 1 underlying63) (lV 31 (eL ⟨g60, 0 + 0, none⟩ (.int .i64 ((x1.getD ((x34).toNat) z63).var)) underlying3 (blk_cell b65 rfl)) (lV 32 (eD g60 0 1 1 underlying63) (lV 33 (eL ⟨g60, 0 + 1, none⟩ (.slice A55 ((x1.getD ((x34).toNat) z63).term).length c56) underlying25 (blk_cell b65 rfl)) ?_)))))))
    have S68 := S66.pulls [(is g28), (is g60)] [1] rfl
    refine lE (e_mapUpdate (k := (x1.getD ((x34).toNat) z63).var) (a := (x1.getD ((x34).toNat) z63).term) S68 h29 keyI underlying101 underlying3 kr kr kr ⟨A55, c56, rfl, l57, h58⟩) ?_
    rintro w69 ⟨h70, S71, K72⟩
    clear h29
    refine wN (inb_n (tN (wR (lV 34 (eAdd .i64 x34 1 (by exact e40)) (lV 25 (eM (.int .i64 (i64.wrap (x34 + 1)))) (wN (tN ?_)))))))
    have S73 := St.first (Fa := [(is g28)]) (Fr := [(is g60)]) S71
    exact ⟨k46, (by omega), _, (i64.wrap (x34 + 1)), (mset x35 ((x1.getD ((x34).toNat) z63).var) ((x1.getD ((x34).toNat) z63).term)), rfl, (by exact e36), (by exact e37), (by exact e38), (by exact e39), kr, h70, S73, M⟩
  replace M := ifn q47 M
  refine cF (bF q47) (wp_exit (tE (tE (inb_hit (tN (wQ (wR (lV 9 (eA (.slice none 0 0)) (wN (tN (wQ (wQ (wR (lV 35 (eM (.slice A7 x6.length c8) (by exact e36)) (lV 36 (e_len (A := A7) (n := x6.length) (c := c8) underlying25 kr) (lV 37 (eM (.int .i64 0)) (wN (tN (wp_block ?_)))))))))))))))))))
  have S95 := S41.unit
  have S96 := S95.pulls [(is g28), no] [1] rfl
  refine wp_loop_g (fun k92 a93 w74 => ∃ (f75 : Nat → Value) (H76 : Hp) (x78 : List Cell) (A79 : Option Addr) (c80 : Nat) (F81 : Foot) (x83 : Int), k92 ≤ k46 ∧ a93 = mk 72 f75 ∧ f75 6 = .map (some g28) ∧ f75 9 = .slice A79 x78.length c80 ∧ f75 35 = .slice A7 x6.length c8 ∧ f75 36 = .int .i64 (x6.length : Int) ∧ f75 37 = .int .i64 x83 ∧ MapO encI sl65 H76 (hp w74) g28 x35 ∧ Row st65 65 H76 (hp w74) F81 A79 c80 x78 ∧ Ext H H76 ∧ St (anyOf []) H w [(is g28), F81] H76 w74 ∧ impl_Apply.l1 k92 x6 x35 x78 x83 = some r) k46 ⟨_, H, [], none, 0, no, 0, (by omega), rfl, (by exact e37), kr, kr, kr, kr, h29, (Row.nil _ _ _ _ _), (Ext.refl _), S96, M⟩ ?_
  clear M
  rintro k92 a93 w74 ⟨f75, H76, x78, A79, c80, F81, x83, z91, rfl, e84, e85, e86, e87, e88, h29, h82, Y77, S89, M⟩
  rcases k92 with _ | k94
  · rw [impl_Apply.l1] at M
    cases M
  rw [impl_Apply.l1] at M
  refine wQ (wR (lV 38 (eLt .i64 x83 (x6.length : Int) (by exact e88) (by exact e87)) (wN (tN (wQ ?_)))))
  by_cases q97 : x83 < (x6.length : Int)
  · replace M := ifp q97 M
    refine cT (bT q97) (wK (tN (wQ (wp_block (wQ (wR ?_))))))
    obtain ⟨q98, M⟩ := chk M
    obtain ⟨b99, o100, e101⟩ := Rd.addr h9 (show (x83).toNat < x6.length by omega)
    obtain ⟨y102, r103, k104⟩ := Rd.at h9 e101 (getD_some z65 (show (x83).toNat < x6.length by omega))
    obtain ⟨A105, c106, rfl, l107, h108⟩ := st65_open r103
    refine lV 39 (e_indexAddr (b := b99) (off := o100) (n := x6.length) (c := c8) (sz := 3) (i := x83) (k := .i64) underlying25 e101 kr (by exact e86) (by exact e88) q98 q97) (lV 40 (e_loadS (b := b99) (off := o100 + (x83 : Int).toNat * 3) (cs := [.int .i64 ((x6.getD ((x83).toNat) z65).kind), .int .i64 ((x6.getD ((x83).toNat) z65).n), .slice A105 ((x6.getD ((x83).toNat) z65).text).length c106]) underlying65 rfl kr kr (fun j_ u_ e_ => (hpx (S89.inv.cell (Y77.cell (k104 j_ u_ e_)))))) ?_)
    refine lW 11 (nB #[.int .i64 0, .int .i64 0, .slice none 0 0] 65 S89) ?_
    rintro _ w109 ⟨g110, rfl, b111, S112, K113⟩
    replace h29 := h29.move (K113.at 0 rfl)
    replace h82 := h82.move (K113.at 1 rfl)
    refine lE (eSa g110 0 [.int .i64 ((x6.getD ((x83).toNat) z65).kind), .int .i64 ((x6.getD ((x83).toNat) z65).n), .slice A105 ((x6.getD ((x83).toNat) z65).text).length c106] S112 b111) ?_
    rintro w114 ⟨b115, S116, K117⟩
    replace h29 := h29.move (K117.at 0 rfl)
    replace h82 := h82.move (K117.at 1 rfl)
    clear b111
    refine wN (tN (wQ (wQ (wR (lV 42 (eM (.map (some g28)) (by exact e84)) (lV 43 (eD g110 0 1 1 underlying65) (lV 44 (eL ⟨g110, 0 + 1, none⟩ (.int .i64 ((x6.getD ((x83).toNat) z65).n)) underlying3 (blk_cell b115 rfl)) ?_)))))))
    by_cases q118 : (mget x35 ((x6.getD ((x83).toNat) z65).n)).isSome = true
    · replace M := ifp q118 M
      obtain ⟨v119, r120, k121⟩ := MapO.look h29 keyI (some_getD q118 ([] : List Cell))
      obtain ⟨A122, c123, e124, l125, h126⟩ := r120
      obtain rfl := cons1 e124
      refine lV 45 (e_lookv (k := (x6.getD ((x83).toNat) z65).n) k121 keyI underlying101 underlying3 kr kr (.slice none 0 0) kr) (lV 41 (eM (.tuple #[.slice A122 ((mget x35 ((x6.getD ((x83).toNat) z65).n)).getD ([] : List Cell)).length c123, .bool true])) (lV 46 (e_extract (vs := #[.slice A122 ((mget x35 ((x6.getD ((x83).toNat) z65).n)).getD ([] : List Cell)).length c123, .bool true]) (v := .slice A122 ((mget x35 ((x6.getD ((x83).toNat) z65).n)).getD ([] : List Cell)).length c123) kr rfl) (lV 47 (e_extract (vs := #[.slice A122 ((mget x35 ((x6.getD ((x83).toNat) z65).n)).getD ([] : List Cell)).length c123, .bool true]) (v := .bool true) kr rfl) (lV 12 (eA (.slice A122 ((mget x35 ((x6.getD ((x83).toNat) z65).n)).getD ([] : List Cell)).length c123)) (lV 13 (eA (.bool true)) (wN (tN (wQ (wR (lV 48 (eM (.bool true)) (lV 49 (eM (.bool true)) (lH 50 49 (eD g110 0 0 1 underlying65) (lH 51 49 (eL ⟨g110, 0 + 0, none⟩ (.int .i64 ((x6.getD ((x83).toNat) z65).kind)) underlying3 (blk_cell b115 rfl)) (lH 52 49 (eEq .i64 (x6.getD ((x83).toNat) z65).kind 0) (lV 53 (eT (.bool (decide (((x6.getD ((x83).toNat) z65).kind) = 0)))) (wN (tN ?_)))))))))))))))))
      by_cases q127 : ((x6.getD ((x83).toNat) z65).kind) = 0
      · replace M := ifp q127 M
        refine cT (bT q127) (wR (lV 54 (eM (.slice A79 x78.length c80) (by exact e85)) (lV 55 (eM (.slice A122 ((mget x35 ((x6.getD ((x83).toNat) z65).n)).getD ([] : List Cell)).length c123)) ?_)))
        obtain ⟨t128, u129, M⟩ := bnd M
        refine lC 56 (eC [.tmp 55] [.slice A122 ((mget x35 ((x6.getD ((x83).toNat) z65).n)).getD ([] : List Cell)).length c123] func62) (impl_tree.calls k94 w114 H76 ((mget x35 ((x6.getD ((x83).toNat) z65).n)).getD ([] : List Cell)) A122 c123 h126 l125 (St.own' (Fa := []) (Fr := [(is g110), (is g28), F81]) S116) t128 u129) ?_
        rintro _ w130 ⟨g133, H131, rfl, h134, T132⟩
        refine ⟨_, rfl, ?_⟩
        obtain ⟨S135, K136⟩ := St.call (Fa := []) (Fr := [(is g110), (is g28), F81]) S116 T132
        replace h29 := h29.move (K136.at 1 rfl)
        replace h82 := h82.move (K136.at 2 rfl)
        have E137 := T132.ext
        replace h29 := h29.ext E137
        replace h82 := h82.ext E137
        obtain ⟨t138, u139, M⟩ := bnd M
        refine lC 57 (eC [.tmp 56] [.pointer (some ⟨g133, 0, none⟩)] func68) (impl_node_cells.calls k94 w130 H131 t128 g133 h134 (St.own' (Fa := []) (Fr := [(is g110), (is g28), F81]) S135) t138 u139) ?_
        rintro _ w140 ⟨A143, c144, F146, H141, rfl, h145, T142⟩
        refine ⟨_, rfl, ?_⟩
        obtain ⟨S147, K148⟩ := St.call (Fa := []) (Fr := [(is g110), (is g28), F81]) S135 T142
        replace h29 := h29.move (K148.at 1 rfl)
        replace h82 := h82.move (K148.at 2 rfl)
        have E149 := T142.ext
        replace h29 := h29.ext E149
        replace h82 := h82.ext E149
        obtain ⟨y150, h151, h152⟩ := Row.news h145
        obtain ⟨q153, M⟩ := chk M
        have S154 := S147.pulls [F81, F146, (is g110), (is g28)] [3] rfl
        refine lW 58 (e_append (d := st65) (n := x78.length) (xs := x78) (cap := c80) (A := A79) (ys := t138) (A2 := A143) (c2 := c144) (z := .agg #[.int .i64 0, .int .i64 0, .slice none 0 0]) (bytes := 40) S154 underlying25 kr rfl (by decide) kr rfl kr h82 h151 h152 (show (x78.length + t138.length) * 40 ≤ _ by first | omega | (simp only [List.length_cons, List.length_nil]; omega)) (by decide)) ?_
        rintro _ w155 ⟨A156, c157, F158, rfl, h159, S160, K161⟩
        replace h29 := h29.move (K161.at 1 rfl)
        refine lV 9 (eA (.slice A156 ((x78 ++ t138).length) c157)) (wN (tN (wQ (wR (lV 67 (eM (.slice A156 ((x78 ++ t138).length) c157)) (lV 68 (e_len (A := A156) (n := (x78 ++ t138).length) (c := c157) underlying25 kr) (lV 69 (e_gtr (k := .i64) (a := ((x78 ++ t138).length : Int)) (b := 2000) kr rfl) (wN (tN ?_)))))))))
        by_cases q162 : ((x78 ++ t138).length : Int) > 2000
        · replace M := ifp q162 M
          refine cT (bT q162) (wQ (wR (lV 4 (eA (.slice none 0 0)) (lV 5 (eA (.int .i64 3)) (wN (tN (wT ?_)))))))
          refine inb_r (tR (tR (inb_r (tR ?_))))
          obtain rfl := sj M
          have S163 := S160.unit
          have S164 := St.first (Fa := [no]) (Fr := [F158, (is g110), (is g28)]) S163
          exact ret2 rfl rfl rfl (show _ = .slice none 0 0 from kr) (show _ = .int .i64 3 from kr) ⟨none, 0, no, H141, rfl, (Row.nil _ _ _ _ no), S164⟩
        replace M := ifn q162 M
        refine cF (bF q162) (wK (inb_n (tN (wR (lV 70 (eAdd .i64 x83 1 (by exact e88)) (lV 37 (eM (.int .i64 (i64.wrap (x83 + 1)))) (wN (tN ?_))))))))
        have S165 := S160.pulls [(is g28), F158, (is g110)] [2] rfl
        have S166 := St.first (Fa := [(is g28), F158]) (Fr := [(is g110)]) S165
        exact ⟨k94, (by omega), _, H141, (x78 ++ t138), A156, c157, F158, (i64.wrap (x83 + 1)), (by omega), rfl, (by exact e84), kr, (by exact e86), (by exact e87), kr, h29, h159, ((Y77.trans E137).trans E149), S166, M⟩
      replace M := ifn q127 M
      refine cF (bF q127) (wQ (wR (lV 59 (eD g110 0 2 1 underlying65) (lV 60 (eL ⟨g110, 0 + 2, none⟩ (.slice A105 ((x6.getD ((x83).toNat) z65).text).length c106) underlying59 (blk_cell b115 rfl)) ?_))))
      obtain ⟨y167, h168, h169⟩ := Rd.news (d := tByte) (ro_scal _ _) S116 (h108.ext Y77)
      obtain ⟨q170, M⟩ := chk M
      have S171 := S116.unit
      have S172 := S171.unit
      have S173 := S172.pulls [no, no, (is g110), (is g28), F81] [1] rfl
      refine lW 61 (e_append (d := tByte) (n := 0) (xs := []) (cap := 0) (A := none) (ys := (x6.getD ((x83).toNat) z65).text) (A2 := A105) (c2 := c106) (z := .int .u8 0) (bytes := 1) S173 underlying59 kr rfl (by decide) rfl rfl kr (Row.nil _ _ _ _ no) h168 h169 (show (0 + ((x6.getD ((x83).toNat) z65).text).length) * 1 ≤ _ by first | omega | (simp only [List.length_cons, List.length_nil]; omega)) (by decide)) ?_
      rintro _ w174 ⟨A175, c176, F177, rfl, h178, S179, K180⟩
      replace b115 := K180.blk 0 rfl b115
      replace h29 := h29.move (K180.at 1 rfl)
      replace h82 := h82.move (K180.at 2 rfl)
      replace h178 : Row tByte 5 H76 (hp w174) F177 A175 c176 ((x6.getD ((x83).toNat) z65).text) := h178
      refine lV 62 (eD g110 0 2 1 underlying65) ?_
      have S181 := S179.pulls [(is g110), F177, (is g28), F81] [1] rfl
      refine lE (eS g110 (0 + 2) (.slice A175 (((x6.getD ((x83).toNat) z65).text).length) c176) #[.int .i64 ((x6.getD ((x83).toNat) z65).kind), .int .i64 ((x6.getD ((x83).toNat) z65).n), .slice A175 (((x6.getD ((x83).toNat) z65).text).length) c176] [.slice A175 (((x6.getD ((x83).toNat) z65).text).length) c176] S181 b115) ?_
      rintro w182 ⟨b183, S184, K185⟩
      replace h178 := h178.move (K185.at 0 rfl)
      replace h29 := h29.move (K185.at 1 rfl)
      replace h82 := h82.move (K185.at 2 rfl)
      clear b115
      refine wN (tN (wR (lV 63 (eM (.slice A79 x78.length c80) (by exact e85)) (lV 64 (e_loadS (b := g110) (off := 0) (cs := [.int .i64 ((x6.getD ((x83).toNat) z65).kind), .int .i64 ((x6.getD ((x83).toNat) z65).n), .slice A175 (((x6.getD ((x83).toNat) z65).text).length) c176]) underlying65 rfl kr kr (blk_cells b183 rfl)) ?_))))
      refine lW 65 (new_blk (v := fun g_ => .slice (some ⟨g_, 0, none⟩) 1 1) (cs := #[.int .i64 ((x6.getD ((x83).toNat) z65).kind), .int .i64 ((x6.getD ((x83).toNat) z65).n), .slice A175 (((x6.getD ((x83).toNat) z65).text).length) c176]) (t := 65) S184 kr) ?_
      rintro _ w186 ⟨g187, rfl, b188, S189, K190⟩
      replace h178 := h178.move (K190.at 1 rfl)
      replace h29 := h29.move (K190.at 2 rfl)
      replace h82 := h82.move (K190.at 3 rfl)
      obtain ⟨q191, M⟩ := chk M
      have S193 := S189.pulls [F81, F177, (is g187), (is g110), (is g28)] [2, 4] rfl
      refine lW 66 (e_append (d := st65) (n := x78.length) (xs := x78) (cap := c80) (A := A79) (ys := [(x6.getD ((x83).toNat) z65)]) (A2 := (some ⟨g187, 0, none⟩)) (c2 := 1) (z := .agg #[.int .i64 0, .int .i64 0, .slice none 0 0]) (bytes := 40) S193 underlying25 kr rfl (by decide) kr rfl kr h82 (elsO_one1 (st65_mkO (x := (x6.getD ((x83).toNat) z65)) h178)) (.inr (blk_news b188 rfl)) (show (x78.length + [(x6.getD ((x83).toNat) z65)].length) * 40 ≤ _ by first | omega | (simp only [List.length_cons, List.length_nil]; omega)) (by decide)) ?_
      rintro _ w194 ⟨A195, c196, F197, rfl, h198, S199, K200⟩
      replace h29 := h29.move (K200.at 2 rfl)
      refine lV 9 (eA (.slice A195 ((x78 ++ [(x6.getD ((x83).toNat) z65)]).length) c196)) (wN (tN (wQ (wR (lV 67 (eM (.slice A195 ((x78 ++ [(x6.getD ((x83).toNat) z65)]).length) c196)) (lV 68 (e_len (A := A195) (n := (x78 ++ [(x6.getD ((x83).toNat) z65)]).length) (c := c196) underlying25 kr) (lV 69 (e_gtr (k := .i64) (a := ((x78 ++ [(x6.getD ((x83).toNat) z65)]).length : Int)) (b := 2000) kr rfl) (wN (tN ?_)))))))))
      by_cases q201 : ((x78 ++ [(x6.getD ((x83).toNat) z65)]).length : Int) > 2000
      · replace M := ifp q201 M
        refine cT (bT q201) (wQ (wR (lV 4 (eA (.slice none 0 0)) (lV 5 (eA (.int .i64 3)) (wN (tN (wT ?_)))))))
        refine inb_r (tR (tR (inb_r (tR ?_))))
        obtain rfl := sj M
        have S202 := S199.unit
        have S203 := St.first (Fa := [no]) (Fr := [F197, (is g187), (is g110), (is g28)]) S202
        exact ret2 rfl rfl rfl (show _ = .slice none 0 0 from kr) (show _ = .int .i64 3 from kr) ⟨none, 0, no, H76, rfl, (Row.nil _ _ _ _ no), S203⟩
      replace M := ifn q201 M
      refine cF (bF q201) (wK (inb_n (tN (wR (lV 70 (eAdd .i64 x83 1 (by exact e88)) (lV 37 (eM (.int .i64 (i64.wrap (x83 + 1)))) (wN (tN ?_))))))))
      have S204 := S199.pulls [(is g28), F197, (is g187), (is g110)] [3] rfl
      have S205 := St.first (Fa := [(is g28), F197]) (Fr := [(is g187), (is g110)]) S204
      exact ⟨k94, (by omega), _, H76, (x78 ++ [(x6.getD ((x83).toNat) z65)]), A195, c196, F197, (i64.wrap (x83 + 1)), (by omega), rfl, (by exact e84), kr, (by exact e86), (by exact e87), kr, h29, h198, Y77, S205, M⟩
    replace M := ifn q118 M
    refine lV 45 (e_look_f (k := (x6.getD ((x83).toNat) z65).n) h29 keyI underlying101 underlying3 kr kr (is_none q118) (.slice none 0 0) kr) (lV 41 (eM (.tuple #[.slice none 0 0, .bool false])) (lV 46 (e_extract (vs := #[.slice none 0 0, .bool false]) (v := .slice none 0 0) kr rfl) (lV 47 (e_extract (vs := #[.slice none 0 0, .bool false]) (v := .bool false) kr rfl) (lV 12 (eA (.slice none 0 0)) (lV 13 (eA (.bool false)) (wN (tN (wQ (wR (lV 48 (eM (.bool false)) (lV 49 (eM (.bool false)) (lJ 49 false ?_))))))))))))
    refine lJ 49 false ?_
    refine lJ 49 false ?_
    refine lV 53 (eF (.bool false)) (wN (tN (cond_f rfl kr (wQ (wR (lV 59 (eD g110 0 2 1 underlying65) (lV 60 (eL ⟨g110, 0 + 2, none⟩ (.slice A105 ((x6.getD ((x83).toNat) z65).text).length c106) underlying59 (blk_cell b115 rfl)) ?_)))))))
    obtain ⟨y206, h207, h208⟩ := Rd.news (d := tByte) (ro_scal _ _) S116 (h108.ext Y77)
    obtain ⟨q209, M⟩ := chk M
    have S210 := S116.unit
    have S211 := S210.unit
    have S212 := S211.pulls [no, no, (is g110), (is g28), F81] [1] rfl
    refine lW 61 (e_append (d := tByte) (n := 0) (xs := []) (cap := 0) (A := none) (ys := (x6.getD ((x83).toNat) z65).text) (A2 := A105) (c2 := c106) (z := .int .u8 0) (bytes := 1) S212 underlying59 kr rfl (by decide) rfl rfl kr (Row.nil _ _ _ _ no) h207 h208 (show (0 + ((x6.getD ((x83).toNat) z65).text).length) * 1 ≤ _ by first | omega | (simp only [List.length_cons, List.length_nil]; omega)) (by decide)) ?_
    rintro _ w213 ⟨A214, c215, F216, rfl, h217, S218, K219⟩
    replace b115 := K219.blk 0 rfl b115
    replace h29 := h29.move (K219.at 1 rfl)
    replace h82 := h82.move (K219.at 2 rfl)
    replace h217 : Row tByte 5 H76 (hp w213) F216 A214 c215 ((x6.getD ((x83).toNat) z65).text) := h217
    refine lV 62 (eD g110 0 2 1 underlying65) ?_
    have S220 := S218.pulls [(is g110), F216, (is g28), F81] [1] rfl
    refine lE (eS g110 (0 + 2) (.slice A214 (((x6.getD ((x83).toNat) z65).text).length) c215) #[.int .i64 ((x6.getD ((x83).toNat) z65).kind), .int .i64 ((x6.getD ((x83).toNat) z65).n), .slice A214 (((x6.getD ((x83).toNat) z65).text).length) c215] [.slice A214 (((x6.getD ((x83).toNat) z65).text).length) c215] S220 b115) ?_
    rintro w221 ⟨b222, S223, K224⟩
    replace h217 := h217.move (K224.at 0 rfl)
    replace h29 := h29.move (K224.at 1 rfl)
    replace h82 := h82.move (K224.at 2 rfl)
    clear b115
    refine wN (tN (wR (lV 63 (eM (.slice A79 x78.length c80) (by exact e85)) (lV 64 (e_loadS (b := g110) (off := 0) (cs := [.int .i64 ((x6.getD ((x83).toNat) z65).kind), .int .i64 ((x6.getD ((x83).toNat) z65).n), .slice A214 (((x6.getD ((x83).toNat) z65).text).length) c215]) underlying65 rfl kr kr (blk_cells b222 rfl)) ?_))))
    refine lW 65 (new_blk (v := fun g_ => .slice (some ⟨g_, 0, none⟩) 1 1) (cs := #[.int .i64 ((x6.getD ((x83).toNat) z65).kind), .int .i64 ((x6.getD ((x83).toNat) z65).n), .slice A214 (((x6.getD ((x83).toNat) z65).text).length) c215]) (t := 65) S223 kr) ?_
    rintro _ w225 ⟨g226, rfl, b227, S228, K229⟩
    replace h217 := h217.move (K229.at 1 rfl)
    replace h29 := h29.move (K229.at 2 rfl)
    replace h82 := h82.move (K229.at 3 rfl)
    obtain ⟨q230, M⟩ := chk M
    have S232 := S228.pulls [F81, F216, (is g226), (is g110), (is g28)] [2, 4] rfl
    refine lW 66 (e_append (d := st65) (n := x78.length) (xs := x78) (cap := c80) (A := A79) (ys := [(x6.getD ((x83).toNat) z65)]) (A2 := (some ⟨g226, 0, none⟩)) (c2 := 1) (z := .agg #[.int .i64 0, .int .i64 0, .slice none 0 0]) (bytes := 40) S232 underlying25 kr rfl (by decide) kr rfl kr h82 (elsO_one1 (st65_mkO (x := (x6.getD ((x83).toNat) z65)) h217)) (.inr (blk_news b227 rfl)) (show (x78.length + [(x6.getD ((x83).toNat) z65)].length) * 40 ≤ _ by first | omega | (simp only [List.length_cons, List.length_nil]; omega)) (by decide)) ?_
    rintro _ w233 ⟨A234, c235, F236, rfl, h237, S238, K239⟩
    replace h29 := h29.move (K239.at 2 rfl)
    refine lV 9 (eA (.slice A234 ((x78 ++ [(x6.getD ((x83).toNat) z65)]).length) c235)) (wN (tN (wQ (wR (lV 67 (eM (.slice A234 ((x78 ++ [(x6.getD ((x83).toNat) z65)]).length) c235)) (lV 68 (e_len (A := A234) (n := (x78 ++ [(x6.getD ((x83).toNat) z65)]).length) (c := c235) underlying25 kr) (lV 69 (e_gtr (k := .i64) (a := ((x78 ++ [(x6.getD ((x83).toNat) z65)]).length : Int)) (b := 2000) kr rfl) (wN (tN ?_)))))))))
    by_cases q240 : ((x78 ++ [(x6.getD ((x83).toNat) z65)]).length : Int) > 2000
    · replace M := ifp q240 M
      refine cT (bT q240) (wQ (wR (lV 4 (eA (.slice none 0 0)) (lV 5 (eA (.int .i64 3)) (wN (tN (wT ?_)))))))
      refine inb_r (tR (tR (inb_r (tR ?_))))
      obtain rfl := sj M
      have S241 := S238.unit
      have S242 := St.first (Fa := [no]) (Fr := [F236, (is g226), (is g110), (is g28)]) S241
      exact ret2 rfl rfl rfl (show _ = .slice none 0 0 from kr) (show _ = .int .i64 3 from kr) ⟨none, 0, no, H76, rfl, (Row.nil _ _ _ _ no), S242⟩
    replace M := ifn q240 M
    refine cF (bF q240) (wK (inb_n (tN (wR (lV 70 (eAdd .i64 x83 1 (by exact e88)) (lV 37 (eM (.int .i64 (i64.wrap (x83 + 1)))) (wN (tN ?_))))))))
    have S243 := S238.pulls [(is g28), F236, (is g226), (is g110)] [3] rfl
    have S244 := St.first (Fa := [(is g28), F236]) (Fr := [(is g226), (is g110)]) S243
    exact ⟨k94, (by omega), _, H76, (x78 ++ [(x6.getD ((x83).toNat) z65)]), A234, c235, F236, (i64.wrap (x83 + 1)), (by omega), rfl, (by exact e84), kr, (by exact e86), (by exact e87), kr, h29, h237, Y77, S244, M⟩
  replace M := ifn q97 M
  refine cF (bF q97) (wp_exit (tE (tE (inb_hit (tN (wQ (wR (lV 71 (eM (.slice A79 x78.length c80) (by exact e85)) (lV 4 (eA (.slice A79 x78.length c80)) (lV 5 (eA (.int .i64 0)) (wN (tN (wT ?_)))))))))))))
  obtain rfl := sj M
  have S245 := S89.pulls [F81, (is g28)] [1] rfl
  have S246 := St.first (Fa := [F81]) (Fr := [(is g28)]) S245
  exact ret2 rfl rfl rfl (show _ = .slice A79 x78.length c80 from kr) (show _ = .int .i64 0 from kr) ⟨A79, c80, F81, H76, rfl, h82, S246⟩

/-! spec_l5valid -/
def spec_l5valid.l0 : Nat → (List Binding) → Int → Option Bool
  | 0, _, _ => none
  | k17 + 1, x1, x9 => (if x9 < (x1.length : Int) then (if 0 ≤ x9 then (if ((x1.getD ((x9).toNat) z63).var) < 0 then some false else (if ((x1.getD ((x9).toNat) z63).var) > 1000000 then some false else (if x9 > 0 then (if 0 ≤ (i64.wrap (x9 - 1)) then (if (i64.wrap (x9 - 1)) < (x1.length : Int) then (if ((x1.getD (((i64.wrap (x9 - 1))).toNat) z63).var) ≥ ((x1.getD ((x9).toNat) z63).var) then some false else ((spec_ValidTerm.f k17 ((x1.getD ((x9).toNat) z63).term)).bind fun t67 => (if ¬ (t67 = true) then some false else (spec_l5valid.l0 k17 x1 (i64.wrap (x9 + 1)))))) else none) else none) else ((spec_ValidTerm.f k17 ((x1.getD ((x9).toNat) z63).term)).bind fun t75 => (if ¬ (t75 = true) then some false else (spec_l5valid.l0 k17 x1 (i64.wrap (x9 + 1)))))))) else none) else some true)
def spec_l5valid.f (k : Nat) (x1 : List Binding) : Option Bool := (if (x1.length : Int) > 1000 then some false else (spec_l5valid.l0 k x1 0))
theorem spec_l5valid.calls (k : Nat) (w : World) (H : Hp) (x1 : List Binding) (A2 : Option Addr) (c3 : Nat) (h4 : Rd st63 H A2 x1) (l5 : x1.length ≤ c3) (S : Own [] H w) (r : Bool) (M : spec_l5valid.f k x1 = some r) :
    Calls Try.prog 84 #[.slice A2 x1.length c3] w (fun e e_w => e = .returned (.bool r) ∧ Chg no w e_w) := by
  rw [spec_l5valid.f] at M
  refine enter (l := [.slice A2 x1.length c3]) 47 func84 rfl rfl rfl ?_
  have S0_ := S.st
  refine wQ (wR (lV 2 (eA (.bool false)) (wN (tN (wQ (wQ (wR (lV 5 (eM (.slice A2 x1.length c3)) (lV 6 (e_len (A := A2) (n := x1.length) (c := c3) underlying52 kr) (lV 7 (e_gtr (k := .i64) (a := (x1.length : Int)) (b := 1000) kr rfl) (wN (tN ?_))))))))))))
  by_cases q6 : (x1.length : Int) > 1000
  · replace M := ifp q6 M
    refine cT (bT q6) (wQ (wR (lV 2 (eA (.bool false)) (wN (tN (wT (tR ?_)))))))
    obtain rfl := sj M
    exact ret1 rfl rfl  (show _ = .bool false from kr) ⟨rfl, S0_.chg⟩
  replace M := ifn q6 M
  refine cF (bF q6) (wK (tN (wQ (wQ (wR (lV 3 (eA (.int .i64 0)) (wN (tN (wp_block ?_)))))))))
  refine wp_loop_g (fun k15 a16 w7 => ∃ (f8 : Nat → Value) (x9 : Int), a16 = mk 47 f8 ∧ f8 0 = .slice A2 x1.length c3 ∧ f8 3 = .int .i64 x9 ∧ St (anyOf []) H w [] H w7 ∧ spec_l5valid.l0 k15 x1 x9 = some r) k ⟨_, 0, rfl, kr, kr, S0_, M⟩ ?_
  clear M
  rintro k15 a16 w7 ⟨f8, x9, rfl, e10, e11, S12, M⟩
  rcases k15 with _ | k17
  · rw [spec_l5valid.l0] at M
    cases M
  rw [spec_l5valid.l0] at M
  refine wQ (wQ (wR (lV 8 (eM (.int .i64 x9) (by exact e11)) (lV 9 (eM (.slice A2 x1.length c3) (by exact e10)) (lV 10 (e_len (A := A2) (n := x1.length) (c := c3) underlying52 kr) (lV 11 (eLt .i64 x9 (x1.length : Int)) (wN (tN ?_))))))))
  by_cases q18 : x9 < (x1.length : Int)
  · replace M := ifp q18 M
    refine cT (bT q18) (wK (tN (wQ (wp_block (wQ (wR (lV 14 (eM (.slice A2 x1.length c3) (by exact e10)) (lV 15 (eM (.int .i64 x9) (by exact e11)) ?_))))))))
    obtain ⟨q19, M⟩ := chk M
    obtain ⟨b20, o21, e22⟩ := Rd.addr h4 (show (x9).toNat < x1.length by omega)
    obtain ⟨y23, r24, k25⟩ := Rd.at h4 e22 (getD_some z63 (show (x9).toNat < x1.length by omega))
    obtain ⟨A26, c27, rfl, l28, h29⟩ := st63_open r24
    refine lV 16 (eI b20 o21 x1.length c3 2 x9 .i64 underlying52 e22 q19 q18) (lV 17 (e_loadS (b := b20) (off := o21 + (x9 : Int).toNat * 2) (cs := [.int .i64 ((x1.getD ((x9).toNat) z63).var), .slice A26 ((x1.getD ((x9).toNat) z63).term).length c27]) underlying63 rfl kr kr (fun j_ u_ e_ => (hpx (S12.inv.cell (k25 j_ u_ e_))))) ?_)
    refine lW 4 (nB #[.int .i64 0, .slice none 0 0] 63 S12) ?_
    rintro _ w30 ⟨g31, rfl, b32, S33, K34⟩
    refine lE (eSa g31 0 [.int .i64 ((x1.getD ((x9).toNat) z63).var), .slice A26 ((x1.getD ((x9).toNat) z63).term).length c27] S33 b32) ?_
    rintro w35 ⟨b36, S37, K38⟩
    clear b32
    refine wN (tN (wQ ?_))
    refine region_quiet kr kr (qV 18 (fun wq_ hq_ => eD g31 0 0 1 underlying63) (qV 19 (fun wq_ hq_ => eL ⟨g31, 0 + 0, none⟩ (.int .i64 ((x1.getD ((x9).toNat) z63).var)) underlying3 (blk_cell ((S37.still hq_).2.blk 0 rfl b36) rfl)) (qV 20 (fun wq_ hq_ => eLt .i64 (x1.getD ((x9).toNat) z63).var 0) (qV 21 (fun wq_ hq_ => eM (.bool (decide (((x1.getD ((x9).toNat) z63).var) < 0)))) ?_))))
    by_cases q39 : ((x1.getD ((x9).toNat) z63).var) < 0
    · replace M := ifp q39 M
      refine qK 21 true (bT q39) ?_
      refine qK 21 true (bT q39) ?_
      refine qK 21 true (bT q39) ?_
      refine qV 25 (fun wq_ hq_ => eT (.bool true) (bT q39)) (qV 26 (fun wq_ hq_ => eM (.bool true)) (qK 26 true kr ?_))
      refine qK 26 true kr ?_
      refine qK 26 true kr ?_
      refine qskipu (t := 29) rfl kr rfl kr rfl ?_
      refine qskipu (t := 29) rfl kr rfl kr rfl ?_
      refine qskipu (t := 29) rfl kr rfl kr rfl ?_
      refine qskipu (t := 29) rfl kr rfl kr rfl ?_
      refine qskipu (t := 29) rfl kr rfl kr rfl ?_
      refine qskipu (t := 29) rfl kr rfl kr rfl ?_
      refine qskipu (t := 29) rfl kr rfl kr rfl ?_
      refine qskipu (t := 29) rfl kr rfl kr rfl ?_
      refine qskipu (t := 29) rfl kr rfl kr rfl ?_
      refine qK 26 true kr ?_
      refine qV 40 (fun wq_ hq_ => eT (.bool true)) (qV 41 (fun wq_ hq_ => eM (.bool true)) (qK 41 true kr ?_))
      refine qK 41 true kr ?_
      refine qK 41 true kr ?_
      refine qK 41 true kr ?_
      refine qV 46 (fun wq_ hq_ => eT (.bool true)) ?_
      refine wpQuiet_nil ?_
      intro w40 C43
      obtain ⟨S41, K42⟩ := S37.still C43
      refine tN (cond_t rfl kr (wQ (wR (lV 2 (eA (.bool false)) (wN (tN (wT ?_)))))))
      refine inb_r (tR (tR (inb_r (tR ?_))))
      obtain rfl := sj M
      exact ret1 rfl rfl  (show _ = .bool false from kr) ⟨rfl, S41.chg⟩
    replace M := ifn q39 M
    refine qG 22 21 (bF q39) (fun wq_ hq_ => eD g31 0 0 1 underlying63) (qG 23 21 (bF q39) (fun wq_ hq_ => eL ⟨g31, 0 + 0, none⟩ (.int .i64 ((x1.getD ((x9).toNat) z63).var)) underlying3 (blk_cell ((S37.still hq_).2.blk 0 rfl b36) rfl)) (qG 24 21 (bF q39) (fun wq_ hq_ => e_gtr (k := .i64) (a := (x1.getD ((x9).toNat) z63).var) (b := 1000000) kr rfl) (qV 25 (fun wq_ hq_ => eF (.bool (decide (((x1.getD ((x9).toNat) z63).var) > 1000000))) (bF q39)) (qV 26 (fun wq_ hq_ => eM (.bool (decide (((x1.getD ((x9).toNat) z63).var) > 1000000)))) ?_))))
    by_cases q44 : ((x1.getD ((x9).toNat) z63).var) > 1000000
    · replace M := ifp q44 M
      refine qK 26 true (bT q44) ?_
      refine qK 26 true (bT q44) ?_
      refine qK 26 true (bT q44) ?_
      refine qskipu (t := 29) rfl kr rfl kr rfl ?_
      refine qskipu (t := 29) rfl kr rfl kr rfl ?_
      refine qskipu (t := 29) rfl kr rfl kr rfl ?_
      refine qskipu (t := 29) rfl kr rfl kr rfl ?_
      refine qskipu (t := 29) rfl kr rfl kr rfl ?_
      refine qskipu (t := 29) rfl kr rfl kr rfl ?_
      refine qskipu (t := 29) rfl kr rfl kr rfl ?_
      refine qskipu (t := 29) rfl kr rfl kr rfl ?_
      refine qskipu (t := 29) rfl kr rfl kr rfl ?_
      refine qK 26 true (bT q44) ?_
      refine qV 40 (fun wq_ hq_ => eT (.bool true) (bT q44)) (qV 41 (fun wq_ hq_ => eM (.bool true)) (qK 41 true kr ?_))
      refine qK 41 true kr ?_
      refine qK 41 true kr ?_
      refine qK 41 true kr ?_
      refine qV 46 (fun wq_ hq_ => eT (.bool true)) ?_
      refine wpQuiet_nil ?_
      intro w45 C48
      obtain ⟨S46, K47⟩ := S37.still C48
      refine tN (cond_t rfl kr (wQ (wR (lV 2 (eA (.bool false)) (wN (tN (wT ?_)))))))
      refine inb_r (tR (tR (inb_r (tR ?_))))
      obtain rfl := sj M
      exact ret1 rfl rfl  (show _ = .bool false from kr) ⟨rfl, S46.chg⟩
    replace M := ifn q44 M
    refine qG 27 26 (bF q44) (fun wq_ hq_ => eM (.int .i64 x9) (by exact e11)) (qG 28 26 (bF q44) (fun wq_ hq_ => e_gtr (k := .i64) (a := x9) (b := 0) kr rfl) (qG 29 26 (bF q44) (fun wq_ hq_ => eM (.bool (decide (x9 > 0)))) ?_))
    by_cases q49 : x9 > 0
    · replace M := ifp q49 M
      refine qG 30 29 (bT q49) (fun wq_ hq_ => eM (.slice A2 x1.length c3) (by exact e10)) (qG 31 29 (bT q49) (fun wq_ hq_ => eM (.int .i64 x9) (by exact e11)) (qG 32 29 (bT q49) (fun wq_ hq_ => e_sub (k := .i64) (a := x9) (b := 1) kr rfl) ?_))
      obtain ⟨q50, M⟩ := chk M
      obtain ⟨q51, M⟩ := chk M
      obtain ⟨b52, o53, e54⟩ := Rd.addr h4 (show ((i64.wrap (x9 - 1))).toNat < x1.length by omega)
      obtain ⟨y55, r56, k57⟩ := Rd.at h4 e54 (getD_some z63 (show ((i64.wrap (x9 - 1))).toNat < x1.length by omega))
      obtain ⟨A58, c59, rfl, l60, h61⟩ := st63_open r56
      refine qG 33 29 (bT q49) (fun wq_ hq_ => eI b52 o53 x1.length c3 2 (i64.wrap (x9 - 1)) .i64 underlying52 e54 q50 q51) (qG 34 29 (bT q49) (fun wq_ hq_ => eD b52 (o53 + ((i64.wrap (x9 - 1)) : Int).toNat * 2) 0 1 underlying63) (qG 35 29 (bT q49) (fun wq_ hq_ => eL ⟨b52, o53 + ((i64.wrap (x9 - 1)) : Int).toNat * 2 + 0, none⟩ (.int .i64 ((x1.getD (((i64.wrap (x9 - 1))).toNat) z63).var)) underlying3 (hpx ((S37.still hq_).1.inv.cell (k57 0 _ rfl)))) (qG 36 29 (bT q49) (fun wq_ hq_ => eD g31 0 0 1 underlying63) (qG 37 29 (bT q49) (fun wq_ hq_ => eL ⟨g31, 0 + 0, none⟩ (.int .i64 ((x1.getD ((x9).toNat) z63).var)) underlying3 (blk_cell ((S37.still hq_).2.blk 0 rfl b36) rfl)) (qG 38 29 (bT q49) (fun wq_ hq_ => e_geq (k := .i64) (a := (x1.getD (((i64.wrap (x9 - 1))).toNat) z63).var) (b := (x1.getD ((x9).toNat) z63).var) kr kr) (qG 39 26 (bF q44) (fun wq_ hq_ => eT (.bool (decide (((x1.getD (((i64.wrap (x9 - 1))).toNat) z63).var) ≥ ((x1.getD ((x9).toNat) z63).var)))) (bT q49)) (qV 40 (fun wq_ hq_ => eF (.bool (decide (((x1.getD (((i64.wrap (x9 - 1))).toNat) z63).var) ≥ ((x1.getD ((x9).toNat) z63).var)))) (bF q44)) (qV 41 (fun wq_ hq_ => eM (.bool (decide (((x1.getD (((i64.wrap (x9 - 1))).toNat) z63).var) ≥ ((x1.getD ((x9).toNat) z63).var))))) ?_))))))))
      by_cases q62 : ((x1.getD (((i64.wrap (x9 - 1))).toNat) z63).var) ≥ ((x1.getD ((x9).toNat) z63).var)
      · replace M := ifp q62 M
        refine qK 41 true (bT q62) ?_
        refine qK 41 true (bT q62) ?_
        refine qK 41 true (bT q62) ?_
        refine qK 41 true (bT q62) ?_
        refine qV 46 (fun wq_ hq_ => eT (.bool true) (bT q62)) ?_
        refine wpQuiet_nil ?_
        intro w63 C66
        obtain ⟨S64, K65⟩ := S37.still C66
        refine tN (cond_t rfl kr (wQ (wR (lV 2 (eA (.bool false)) (wN (tN (wT ?_)))))))
        refine inb_r (tR (tR (inb_r (tR ?_))))
        obtain rfl := sj M
        exact ret1 rfl rfl  (show _ = .bool false from kr) ⟨rfl, S64.chg⟩
      replace M := ifn q62 M
      refine qG 42 41 (bF q62) (fun wq_ hq_ => eD g31 0 1 1 underlying63) (qG 43 41 (bF q62) (fun wq_ hq_ => eL ⟨g31, 0 + 1, none⟩ (.slice A26 ((x1.getD ((x9).toNat) z63).term).length c27) underlying25 (blk_cell ((S37.still hq_).2.blk 0 rfl b36) rfl)) ?_)
      obtain ⟨t67, u68, M⟩ := bnd M
      refine qcallg (v := .bool t67) (d := 44) (t := 41) rfl kr rfl (bF q62) rfl kr (fun w_ => eC [.tmp 43] [.slice A26 ((x1.getD ((x9).toNat) z63).term).length c27] func15) (fun wq_ hq_ => (by obtain ⟨S_, K_⟩ := S37.still hq_; replace b36 := K_.blk 0 rfl b36; exact (spec_ValidTerm.calls k17 wq_ H ((x1.getD ((x9).toNat) z63).term) A26 c27 h29 l28 S_.own0 t67 u68))) (qG 45 41 (bF q62) (fun wq_ hq_ => e_notv (c := t67) kr) (qV 46 (fun wq_ hq_ => eF (.bool (decide (¬ (t67 = true)))) (bF q62)) ?_))
      refine wpQuiet_nil ?_
      intro w69 C72
      obtain ⟨S70, K71⟩ := S37.still C72
      refine tN ?_
      by_cases q73 : ¬ (t67 = true)
      · replace M := ifp q73 M
        refine cT (bT q73) (wQ (wR (lV 2 (eA (.bool false)) (wN (tN (wT (inb_r (tR (tR (inb_r (tR ?_)))))))))))
        obtain rfl := sj M
        exact ret1 rfl rfl  (show _ = .bool false from kr) ⟨rfl, S70.chg⟩
      replace M := ifn q73 M
      refine cF (bF q73) (wK (inb_n (tN (wR (lV 12 (eM (.int .i64 x9) (by exact e11)) (lV 13 (eAdd .i64 x9 1) (lV 3 (eA (.int .i64 (i64.wrap (x9 + 1)))) (wN (tN ?_)))))))))
      have S74 := St.first (Fa := []) (Fr := [(is g31)]) S70
      exact ⟨k17, (by omega), _, (i64.wrap (x9 + 1)), rfl, (by exact e10), kr, S74, M⟩
    replace M := ifn q49 M
    refine qK 29 false (bF q49) ?_
    refine qK 29 false (bF q49) ?_
    refine qK 29 false (bF q49) ?_
    refine qK 29 false (bF q49) ?_
    refine qK 29 false (bF q49) ?_
    refine qK 29 false (bF q49) ?_
    refine qK 29 false (bF q49) ?_
    refine qK 29 false (bF q49) ?_
    refine qK 29 false (bF q49) ?_
    refine qG 39 26 (bF q44) (fun wq_ hq_ => eF (.bool false) (bF q49)) (qV 40 (fun wq_ hq_ => eF (.bool false) (bF q44)) (qV 41 (fun wq_ hq_ => eM (.bool false)) ?_))
    refine qvg (d := 42) (t := 41) rfl kr rfl kr rfl kr (fun wq_ hq_ => eD g31 0 1 1 underlying63) ?_
    refine qvg (d := 43) (t := 41) rfl kr rfl kr rfl kr (fun wq_ hq_ => eL ⟨g31, 0 + 1, none⟩ (.slice A26 ((x1.getD ((x9).toNat) z63).term).length c27) underlying25 (blk_cell ((S37.still hq_).2.blk 0 rfl b36) rfl)) ?_
    obtain ⟨t75, u76, M⟩ := bnd M
    refine qcallg (v := .bool t75) (d := 44) (t := 41) rfl kr rfl kr rfl kr (fun w_ => eC [.tmp 43] [.slice A26 ((x1.getD ((x9).toNat) z63).term).length c27] func15) (fun wq_ hq_ => (by obtain ⟨S_, K_⟩ := S37.still hq_; replace b36 := K_.blk 0 rfl b36; exact (spec_ValidTerm.calls k17 wq_ H ((x1.getD ((x9).toNat) z63).term) A26 c27 h29 l28 S_.own0 t75 u76))) ?_
    refine qvg (d := 45) (t := 41) rfl kr rfl kr rfl kr (fun wq_ hq_ => e_notv (c := t75) kr) (qV 46 (fun wq_ hq_ => eF (.bool (decide (¬ (t75 = true))))) ?_)
    refine wpQuiet_nil ?_
    intro w77 C80
    obtain ⟨S78, K79⟩ := S37.still C80
    refine tN ?_
    by_cases q81 : ¬ (t75 = true)
    · replace M := ifp q81 M
      refine cT (bT q81) (wQ (wR (lV 2 (eA (.bool false)) (wN (tN (wT (inb_r (tR (tR (inb_r (tR ?_)))))))))))
      obtain rfl := sj M
      exact ret1 rfl rfl  (show _ = .bool false from kr) ⟨rfl, S78.chg⟩
    replace M := ifn q81 M
    refine cF (bF q81) (wK (inb_n (tN (wR (lV 12 (eM (.int .i64 x9) (by exact e11)) (lV 13 (eAdd .i64 x9 1) (lV 3 (eA (.int .i64 (i64.wrap (x9 + 1)))) (wN (tN ?_)))))))))
    have S82 := St.first (Fa := []) (Fr := [(is g31)]) S78
    exact ⟨k17, (by omega), _, (i64.wrap (x9 + 1)), rfl, (by exact e10), kr, S82, M⟩
  replace M := ifn q18 M
  refine cF (bF q18) (wp_exit (tE (tE (inb_hit (tN (wQ (wR (lV 2 (eA (.bool true)) (wN (tN (wT ?_)))))))))))
  obtain rfl := sj M
  exact ret1 rfl rfl  (show _ = .bool true from kr) ⟨rfl, S12.chg⟩

/-! spec_Apply -/
mutual
def spec_Apply.l0 : Nat → (List Binding) → (List Cell) → (List Cell) → Int → Option ((List Cell) × Int)
  | 0, _, _, _, _ => none
  | k46 + 1, x1, x6, x31, x36 => (if x36 < (x6.length : Int) then (if 0 ≤ x36 then (if ((x6.getD ((x36).toNat) z65).kind) = 0 then ((spec_l5index.f k46 x1 ((x6.getD ((x36).toNat) z65).n)).bind fun t85 => (spec_Apply.l1 k46 x1 x6 x31 x36 t85)) else (spec_Apply.l1 k46 x1 x6 x31 x36 (-1))) else none) else some (x31, 0))
def spec_Apply.l1 : Nat → (List Binding) → (List Cell) → (List Cell) → Int → Int → Option ((List Cell) × Int)
  | 0, _, _, _, _, _ => none
  | k61 + 1, x1, x6, x31, x36, x51 => (if x51 ≥ 0 then (if 0 ≤ x51 then (if x51 < (x1.length : Int) then ((spec_l2copy.f k61 ((x1.getD ((x51).toNat) z63).term)).bind fun t104 => (if x31.length + t104.length ≤ 3518437208883 then (if ((x31 ++ t104).length : Int) > 2000 then some ([], 3) else (spec_Apply.l0 k61 x1 x6 (x31 ++ t104) (i64.wrap (x36 + 1)))) else none)) else none) else none) else (if 0 ≤ x36 then (if x36 ≤ (i64.wrap (x36 + 1)) then (if (i64.wrap (x36 + 1)) ≤ (x6.length : Int) then ((spec_l2copy.f k61 ((x6.drop ((x36 : Int).toNat)).take (((i64.wrap (x36 + 1)) : Int).toNat - (x36 : Int).toNat))).bind fun t138 => (if x31.length + t138.length ≤ 3518437208883 then (if ((x31 ++ t138).length : Int) > 2000 then some ([], 3) else (spec_Apply.l0 k61 x1 x6 (x31 ++ t138) (i64.wrap (x36 + 1)))) else none)) else none) else none) else none))
end
def spec_Apply.f (k : Nat) (x1 : List Binding) (x6 : List Cell) : Option ((List Cell) × Int) := ((spec_l5valid.f k x1).bind fun t11 => (if ¬ (t11 = true) then some ([], 1) else ((spec_ValidTerm.f k x6).bind fun t19 => (if ¬ (t19 = true) then some ([], 1) else (spec_Apply.l0 k x1 x6 [] 0)))))
theorem spec_Apply.calls (k : Nat) (w : World) (H : Hp) (x1 : List Binding) (A2 : Option Addr) (c3 : Nat) (x6 : List Cell) (A7 : Option Addr) (c8 : Nat) (h4 : Rd st63 H A2 x1) (l5 : x1.length ≤ c3) (h9 : Rd st65 H A7 x6) (l10 : x6.length ≤ c8) (S : Own [] H w) (r : (List Cell) × Int) (M : spec_Apply.f k x1 x6 = some r) :
    Calls Try.prog 44 #[.slice A2 x1.length c3, .slice A7 x6.length c8] w (fun e e_w => ∃ (A_1 : Option Addr) (c_1 : Nat) (F_1 : Foot) (H_ : Hp), e = .returned (.tuple #[.slice A_1 r.1.length c_1, .int .i64 r.2]) ∧ Row st65 65 H_ (hp e_w) F_1 A_1 c_1 r.1 ∧ St (anyOf []) H w [F_1] H_ e_w) := by
  rw [spec_Apply.f] at M
  refine enter (l := [.slice A2 x1.length c3, .slice A7 x6.length c8]) 58 func44 rfl rfl rfl ?_
  have S0_ := S.st
  refine wQ (wR (lV 4 (eA (.slice none 0 0)) (lV 5 (eA (.int .i64 0)) (wN (tN (wQ (wQ (wR (lV 9 (eM (.slice A2 x1.length c3)) ?_)))))))))
  obtain ⟨t11, u12, M⟩ := bnd M
  refine lC 10 (eC [.tmp 9] [.slice A2 x1.length c3] func84) (spec_l5valid.calls k w H x1 A2 c3 h4 l5 S0_.own0 t11 u12) ?_
  rintro _ w13 ⟨rfl, C14⟩
  refine ⟨_, rfl, ?_⟩
  obtain ⟨S15, K16⟩ := S0_.still C14
  refine lV 11 (e_notv (c := t11) kr) (lV 12 (eM (.bool (decide (¬ (t11 = true))))) ?_)
  by_cases q17 : ¬ (t11 = true)
  · replace M := ifp q17 M
    refine lK 12 true (bT q17) ?_
    refine lK 12 true (bT q17) ?_
    refine lK 12 true (bT q17) ?_
    refine lV 16 (eT (.bool true) (bT q17)) (wN (tN (cond_t rfl kr (wQ (wR (lV 4 (eA (.slice none 0 0)) (lV 5 (eA (.int .i64 1)) (wN (tN (wT (tR ?_)))))))))))
    obtain rfl := sj M
    have S18 := S15.unit
    exact ret2 rfl rfl rfl (show _ = .slice none 0 0 from kr) (show _ = .int .i64 1 from kr) ⟨none, 0, no, H, rfl, (Row.nil _ _ _ _ no), S18⟩
  replace M := ifn q17 M
  refine lG 13 12 (bF q17) (eM (.slice A7 x6.length c8)) ?_
  obtain ⟨t19, u20, M⟩ := bnd M
  refine lcallg (d := 14) (t := 12) rfl kr rfl (bF q17) rfl kr (eC [.tmp 13] [.slice A7 x6.length c8] func15) (spec_ValidTerm.calls k w13 H x6 A7 c8 h9 l10 S15.own0 t19 u20) ?_
  rintro _ w21 ⟨rfl, C22⟩
  refine ⟨_, rfl, ?_⟩
  obtain ⟨S23, K24⟩ := S15.still C22
  refine lG 15 12 (bF q17) (e_notv (c := t19) kr) (lV 16 (eF (.bool (decide (¬ (t19 = true)))) (bF q17)) (wN (tN ?_)))
  by_cases q25 : ¬ (t19 = true)
  · replace M := ifp q25 M
    refine cT (bT q25) (wQ (wR (lV 4 (eA (.slice none 0 0)) (lV 5 (eA (.int .i64 1)) (wN (tN (wT (tR ?_))))))))
    obtain rfl := sj M
    have S26 := S23.unit
    exact ret2 rfl rfl rfl (show _ = .slice none 0 0 from kr) (show _ = .int .i64 1 from kr) ⟨none, 0, no, H, rfl, (Row.nil _ _ _ _ no), S26⟩
  replace M := ifn q25 M
  refine cF (bF q25) (wK (tN (wQ (wR (lV 6 (eA (.slice none 0 0)) (wN (tN (wQ (wQ (wR (lV 7 (eA (.int .i64 0)) (wN (tN (wp_block ?_))))))))))))))
  have S47 := S23.unit
  refine wp_loop_g (fun k44 a45 w27 => ∃ (f28 : Nat → Value) (H29 : Hp) (x31 : List Cell) (A32 : Option Addr) (c33 : Nat) (F34 : Foot) (x36 : Int), a45 = mk 58 f28 ∧ f28 0 = .slice A2 x1.length c3 ∧ f28 1 = .slice A7 x6.length c8 ∧ f28 6 = .slice A32 x31.length c33 ∧ f28 7 = .int .i64 x36 ∧ Row st65 65 H29 (hp w27) F34 A32 c33 x31 ∧ Ext H H29 ∧ St (anyOf []) H w [F34] H29 w27 ∧ spec_Apply.l0 k44 x1 x6 x31 x36 = some r) k ⟨_, H, [], none, 0, no, 0, rfl, kr, kr, kr, kr, (Row.nil _ _ _ _ _), (Ext.refl _), S47, M⟩ ?_
  clear M
  rintro k44 a45 w27 ⟨f28, H29, x31, A32, c33, F34, x36, rfl, e37, e38, e39, e40, h35, Y30, S41, M⟩
  rcases k44 with _ | k46
  · rw [spec_Apply.l0] at M
    cases M
  rw [spec_Apply.l0] at M
  refine wQ (wQ (wR (lV 17 (eM (.int .i64 x36) (by exact e40)) (lV 18 (eM (.slice A7 x6.length c8) (by exact e38)) (lV 19 (e_len (A := A7) (n := x6.length) (c := c8) underlying25 kr) (lV 20 (eLt .i64 x36 (x6.length : Int)) (wN (tN ?_))))))))
  by_cases q48 : x36 < (x6.length : Int)
  · replace M := ifp q48 M
    refine cT (bT q48) (wK (tN (wQ (wp_block (wQ (wR (lV 8 (eA (.int .i64 (-1))) (wN (tN ?_)))))))))
    refine wp_seq_cut (fun a60 w49 => ∃ (k62 : Nat), k62 ≤ k46 ∧ ∃ (f50 : Nat → Value) (x51 : Int), a60 = mk 58 f50 ∧ f50 0 = .slice A2 x1.length c3 ∧ f50 1 = .slice A7 x6.length c8 ∧ f50 6 = .slice A32 x31.length c33 ∧ f50 7 = .int .i64 x36 ∧ f50 8 = .int .i64 x51 ∧ Row st65 65 H29 (hp w49) F34 A32 c33 x31 ∧ St (anyOf []) H w [F34] H29 w49 ∧ spec_Apply.l1 k62 x1 x6 x31 x36 x51 = some r) ?_ ?_
    · refine wQ (wR (lV 23 (eM (.slice A7 x6.length c8) (by exact e38)) (lV 24 (eM (.int .i64 x36) (by exact e40)) ?_)))
      obtain ⟨q63, M⟩ := chk M
      obtain ⟨b64, o65, e66⟩ := Rd.addr h9 (show (x36).toNat < x6.length by omega)
      obtain ⟨y67, r68, k69⟩ := Rd.at h9 e66 (getD_some z65 (show (x36).toNat < x6.length by omega))
      obtain ⟨A70, c71, rfl, l72, h73⟩ := st65_open r68
      refine lV 25 (eI b64 o65 x6.length c8 3 x36 .i64 underlying25 e66 q63 q48) (lV 26 (eD b64 (o65 + (x36 : Int).toNat * 3) 0 1 underlying65) (lV 27 (eL ⟨b64, o65 + (x36 : Int).toNat * 3 + 0, none⟩ (.int .i64 ((x6.getD ((x36).toNat) z65).kind)) underlying3 (hpx (S41.inv.cell (Y30.cell (k69 0 _ rfl))))) (lV 28 (eEq .i64 (x6.getD ((x36).toNat) z65).kind 0) (wN (tN ?_)))))
      by_cases q74 : ((x6.getD ((x36).toNat) z65).kind) = 0
      · replace M := ifp q74 M
        refine cT (bT q74) (wR (lV 29 (eM (.slice A2 x1.length c3) (by exact e37)) (lV 30 (eM (.slice A7 x6.length c8) (by exact e38)) (lV 31 (eM (.int .i64 x36) (by exact e40)) ?_))))
        obtain ⟨b75, o76, e77⟩ := Rd.addr h9 (show (x36).toNat < x6.length by omega)
        obtain ⟨y78, r79, k80⟩ := Rd.at h9 e77 (getD_some z65 (show (x36).toNat < x6.length by omega))
        obtain ⟨A81, c82, rfl, l83, h84⟩ := st65_open r79
        refine lV 32 (eI b75 o76 x6.length c8 3 x36 .i64 underlying25 e77 q63 q48) (lV 33 (eD b75 (o76 + (x36 : Int).toNat * 3) 1 1 underlying65) (lV 34 (eL ⟨b75, o76 + (x36 : Int).toNat * 3 + 1, none⟩ (.int .i64 ((x6.getD ((x36).toNat) z65).n)) underlying3 (hpx (S41.inv.cell (Y30.cell (k80 1 _ rfl))))) ?_))
        obtain ⟨t85, u86, M⟩ := bnd M
        refine lC 35 (eC [.tmp 29, .tmp 34] [.slice A2 x1.length c3, .int .i64 ((x6.getD ((x36).toNat) z65).n)] func85) (spec_l5index.calls k46 w27 H29 x1 A2 c3 ((x6.getD ((x36).toNat) z65).n) (h4.ext Y30) l5 S41.own0 t85 u86) ?_
        rintro _ w87 ⟨rfl, C88⟩
        refine ⟨_, rfl, ?_⟩
        obtain ⟨S89, K90⟩ := S41.still C88
        replace h35 := h35.move (K90.at 0 rfl)
        refine lV 8 (eA (.int .i64 t85)) (wN (tN ?_))
        exact ⟨k46, (by omega), _, t85, rfl, (by exact e37), (by exact e38), (by exact e39), (by exact e40), kr, h35, S89, M⟩
      replace M := ifn q74 M
      refine cF (bF q74) (wK (tN ?_))
      exact ⟨k46, (by omega), _, (-1), rfl, (by exact e37), (by exact e38), (by exact e39), (by exact e40), kr, h35, S41, M⟩
    clear M
    rintro a60 w49 ⟨k62, z165, f50, x51, rfl, e52, e53, e54, e55, e56, h35, S57, M⟩
    rcases k62 with _ | k61
    · rw [spec_Apply.l1] at M
      cases M
    rw [spec_Apply.l1] at M
    refine wQ (wQ (wR (lV 36 (eM (.int .i64 x51) (by exact e56)) (lV 37 (e_geq (k := .i64) (a := x51) (b := 0) kr rfl) (wN (tN ?_))))))
    by_cases q91 : x51 ≥ 0
    · replace M := ifp q91 M
      refine cT (bT q91) (wR (lV 38 (eM (.slice A32 x31.length c33) (by exact e54)) (lV 39 (eM (.slice A2 x1.length c3) (by exact e52)) (lV 40 (eM (.int .i64 x51) (by exact e56)) ?_))))
      obtain ⟨q92, M⟩ := chk M
      obtain ⟨q93, M⟩ := chk M
      obtain ⟨b94, o95, e96⟩ := Rd.addr h4 (show (x51).toNat < x1.length by omega)
      obtain ⟨y97, r98, k99⟩ := Rd.at h4 e96 (getD_some z63 (show (x51).toNat < x1.length by omega))
      obtain ⟨A100, c101, rfl, l102, h103⟩ := st63_open r98
      refine lV 41 (eI b94 o95 x1.length c3 2 x51 .i64 underlying52 e96 q92 q93) (lV 42 (eD b94 (o95 + (x51 : Int).toNat * 2) 1 1 underlying63) (lV 43 (eL ⟨b94, o95 + (x51 : Int).toNat * 2 + 1, none⟩ (.slice A100 ((x1.getD ((x51).toNat) z63).term).length c101) underlying25 (hpx (S57.inv.cell (Y30.cell (k99 1 _ rfl))))) ?_))
      obtain ⟨t104, u105, M⟩ := bnd M
      refine lC 44 (eC [.tmp 43] [.slice A100 ((x1.getD ((x51).toNat) z63).term).length c101] func75) (spec_l2copy.calls k61 w49 H29 ((x1.getD ((x51).toNat) z63).term) A100 c101 (h103.ext Y30) l102 (St.own' (Fa := []) (Fr := [F34]) S57) t104 u105) ?_
      rintro _ w106 ⟨A109, c110, F112, H107, rfl, h111, T108⟩
      refine ⟨_, rfl, ?_⟩
      obtain ⟨S113, K114⟩ := St.call (Fa := []) (Fr := [F34]) S57 T108
      replace h35 := h35.move (K114.at 0 rfl)
      have E115 := T108.ext
      replace h35 := h35.ext E115
      obtain ⟨y116, h117, h118⟩ := Row.news h111
      obtain ⟨q119, M⟩ := chk M
      have S120 := S113.pulls [F34, F112] [1] rfl
      refine lW 45 (e_append (d := st65) (n := x31.length) (xs := x31) (cap := c33) (A := A32) (ys := t104) (A2 := A109) (c2 := c110) (z := .agg #[.int .i64 0, .int .i64 0, .slice none 0 0]) (bytes := 40) S120 underlying25 kr rfl (by decide) kr rfl kr h35 h117 h118 (show (x31.length + t104.length) * 40 ≤ _ by first | omega | (simp only [List.length_cons, List.length_nil]; omega)) (by decide)) ?_
      rintro _ w121 ⟨A122, c123, F124, rfl, h125, S126, K127⟩
      refine lV 6 (eA (.slice A122 ((x31 ++ t104).length) c123)) (wN (tN (wQ (wR (lV 54 (eM (.slice A122 ((x31 ++ t104).length) c123)) (lV 55 (e_len (A := A122) (n := (x31 ++ t104).length) (c := c123) underlying25 kr) (lV 56 (e_gtr (k := .i64) (a := ((x31 ++ t104).length : Int)) (b := 2000) kr rfl) (wN (tN ?_)))))))))
      by_cases q128 : ((x31 ++ t104).length : Int) > 2000
      · replace M := ifp q128 M
        refine cT (bT q128) (wQ (wR (lV 4 (eA (.slice none 0 0)) (lV 5 (eA (.int .i64 3)) (wN (tN (wT ?_)))))))
        refine inb_r (tR (tR (inb_r (tR ?_))))
        obtain rfl := sj M
        have S129 := S126.unit
        have S130 := St.first (Fa := [no]) (Fr := [F124]) S129
        exact ret2 rfl rfl rfl (show _ = .slice none 0 0 from kr) (show _ = .int .i64 3 from kr) ⟨none, 0, no, H107, rfl, (Row.nil _ _ _ _ no), S130⟩
      replace M := ifn q128 M
      refine cF (bF q128) (wK (inb_n (tN (wR (lV 21 (eM (.int .i64 x36) (by exact e55)) (lV 22 (eAdd .i64 x36 1) (lV 7 (eA (.int .i64 (i64.wrap (x36 + 1)))) (wN (tN ?_)))))))))
      exact ⟨k61, (by omega), _, H107, (x31 ++ t104), A122, c123, F124, (i64.wrap (x36 + 1)), rfl, (by exact e52), (by exact e53), kr, kr, h125, (Y30.trans E115), S126, M⟩
    replace M := ifn q91 M
    refine cF (bF q91) (wR (lV 46 (eM (.slice A32 x31.length c33) (by exact e54)) (lV 47 (eM (.slice A7 x6.length c8) (by exact e53)) (lV 48 (eM (.int .i64 x36) (by exact e55)) (lV 49 (eM (.int .i64 x36) (by exact e55)) (lV 50 (eAdd .i64 x36 1) ?_))))))
    obtain ⟨q131, M⟩ := chk M
    obtain ⟨q132, M⟩ := chk M
    obtain ⟨q133, M⟩ := chk M
    obtain ⟨A134, h137, l136, h135⟩ := Rd.sub2 (d := st65) (n := x6.length) (m := 3) (cap := c8) (a := x36) (b := (i64.wrap (x36 + 1))) rfl (h9.ext Y30) q131 q132 q133 rfl l10
    refine lV 51 (e_slice_lh (n := x6.length) (m := 3) (cap := c8) (A := A7) (a := x36) (b := (i64.wrap (x36 + 1))) (k := .i64) (k2 := .i64) underlying25 kr kr kr kr q131 q132 q133 l10 h137) ?_
    obtain ⟨t138, u139, M⟩ := bnd M
    refine lC 52 (eC [.tmp 51] [.slice A134 ((x6.drop ((x36 : Int).toNat)).take (((i64.wrap (x36 + 1)) : Int).toNat - (x36 : Int).toNat)).length (c8 - ((x36 : Int).toNat))] func75) (spec_l2copy.calls k61 w49 H29 ((x6.drop ((x36 : Int).toNat)).take (((i64.wrap (x36 + 1)) : Int).toNat - (x36 : Int).toNat)) A134 (c8 - ((x36 : Int).toNat)) h135 l136 (St.own' (Fa := []) (Fr := [F34]) S57) t138 u139) ?_
    rintro _ w140 ⟨A143, c144, F146, H141, rfl, h145, T142⟩
    refine ⟨_, rfl, ?_⟩
    obtain ⟨S147, K148⟩ := St.call (Fa := []) (Fr := [F34]) S57 T142
    replace h35 := h35.move (K148.at 0 rfl)
    have E149 := T142.ext
    replace h35 := h35.ext E149
    obtain ⟨y150, h151, h152⟩ := Row.news h145
    obtain ⟨q153, M⟩ := chk M
    have S154 := S147.pulls [F34, F146] [1] rfl
    refine lW 53 (e_append (d := st65) (n := x31.length) (xs := x31) (cap := c33) (A := A32) (ys := t138) (A2 := A143) (c2 := c144) (z := .agg #[.int .i64 0, .int .i64 0, .slice none 0 0]) (bytes := 40) S154 underlying25 kr rfl (by decide) kr rfl kr h35 h151 h152 (show (x31.length + t138.length) * 40 ≤ _ by first | omega | (simp only [List.length_cons, List.length_nil]; omega)) (by decide)) ?_
    rintro _ w155 ⟨A156, c157, F158, rfl, h159, S160, K161⟩
    refine lV 6 (eA (.slice A156 ((x31 ++ t138).length) c157)) (wN (tN (wQ (wR (lV 54 (eM (.slice A156 ((x31 ++ t138).length) c157)) (lV 55 (e_len (A := A156) (n := (x31 ++ t138).length) (c := c157) underlying25 kr) (lV 56 (e_gtr (k := .i64) (a := ((x31 ++ t138).length : Int)) (b := 2000) kr rfl) (wN (tN ?_)))))))))
    by_cases q162 : ((x31 ++ t138).length : Int) > 2000
    · replace M := ifp q162 M
      refine cT (bT q162) (wQ (wR (lV 4 (eA (.slice none 0 0)) (lV 5 (eA (.int .i64 3)) (wN (tN (wT ?_)))))))
      refine inb_r (tR (tR (inb_r (tR ?_))))
      obtain rfl := sj M
      have S163 := S160.unit
      have S164 := St.first (Fa := [no]) (Fr := [F158]) S163
      exact ret2 rfl rfl rfl (show _ = .slice none 0 0 from kr) (show _ = .int .i64 3 from kr) ⟨none, 0, no, H141, rfl, (Row.nil _ _ _ _ no), S164⟩
    replace M := ifn q162 M
    refine cF (bF q162) (wK (inb_n (tN (wR (lV 21 (eM (.int .i64 x36) (by exact e55)) (lV 22 (eAdd .i64 x36 1) (lV 7 (eA (.int .i64 (i64.wrap (x36 + 1)))) (wN (tN ?_)))))))))
    exact ⟨k61, (by omega), _, H141, (x31 ++ t138), A156, c157, F158, (i64.wrap (x36 + 1)), rfl, (by exact e52), (by exact e53), kr, kr, h159, (Y30.trans E149), S160, M⟩
  replace M := ifn q48 M
  refine cF (bF q48) (wp_exit (tE (tE (inb_hit (tN (wQ (wR (lV 57 (eM (.slice A32 x31.length c33) (by exact e39)) (lV 4 (eA (.slice A32 x31.length c33)) (lV 5 (eA (.int .i64 0)) (wN (tN (wT ?_)))))))))))))
  obtain rfl := sj M
  exact ret2 rfl rfl rfl (show _ = .slice A32 x31.length c33 from kr) (show _ = .int .i64 0 from kr) ⟨A32, c33, F34, H29, rfl, h35, S41⟩

/-! laws_sameB -/
def laws_sameB.l0 : Nat → (List UInt8) → (List UInt8) → Int → Option Bool
  | 0, _, _, _ => none
  | k23 + 1, x1, x6, x14 => (if x14 < (x1.length : Int) then (if 0 ≤ x14 then (if x14 < (x6.length : Int) then (if ((x1.getD ((x14).toNat) (0 : UInt8)).toNat : Int) ≠ ((x6.getD ((x14).toNat) (0 : UInt8)).toNat : Int) then some false else (laws_sameB.l0 k23 x1 x6 (i64.wrap (x14 + 1)))) else none) else none) else some true)
def laws_sameB.f (k : Nat) (x1 : List UInt8) (x6 : List UInt8) : Option Bool := (if (x1.length : Int) ≠ (x6.length : Int) then some false else (laws_sameB.l0 k x1 x6 0))
theorem laws_sameB.calls (k : Nat) (w : World) (H : Hp) (x1 : List UInt8) (A2 : Option Addr) (c3 : Nat) (x6 : List UInt8) (A7 : Option Addr) (c8 : Nat) (h4 : Rd tByte H A2 x1) (l5 : x1.length ≤ c3) (h9 : Rd tByte H A7 x6) (l10 : x6.length ≤ c8) (S : Own [] H w) (r : Bool) (M : laws_sameB.f k x1 x6 = some r) :
    Calls Try.prog 126 #[.slice A2 x1.length c3, .slice A7 x6.length c8] w (fun e e_w => e = .returned (.bool r) ∧ Chg no w e_w) := by
  rw [laws_sameB.f] at M
  refine enter (l := [.slice A2 x1.length c3, .slice A7 x6.length c8]) 26 func126 rfl rfl rfl ?_
  have S0_ := S.st
  refine wQ (wR (lV 4 (eA (.bool false)) (wN (tN (wQ (wQ (wR (lV 6 (eM (.slice A2 x1.length c3)) (lV 7 (e_len (A := A2) (n := x1.length) (c := c3) underlying59 kr) (lV 8 (eM (.slice A7 x6.length c8)) (lV 9 (e_len (A := A7) (n := x6.length) (c := c8) underlying59 kr) (lV 10 (eNe .i64 (x1.length : Int) (x6.length : Int)) (wN (tN ?_))))))))))))))
  by_cases q11 : (x1.length : Int) ≠ (x6.length : Int)
  · replace M := ifp q11 M
    refine cT (bT q11) (wQ (wR (lV 4 (eA (.bool false)) (wN (tN (wT (tR ?_)))))))
    obtain rfl := sj M
    exact ret1 rfl rfl  (show _ = .bool false from kr) ⟨rfl, S0_.chg⟩
  replace M := ifn q11 M
  refine cF (bF q11) (wK (tN (wQ (wQ (wR (lV 5 (eA (.int .i64 0)) (wN (tN (wp_block ?_)))))))))
  refine wp_loop_g (fun k21 a22 w12 => ∃ (f13 : Nat → Value) (x14 : Int), a22 = mk 26 f13 ∧ f13 0 = .slice A2 x1.length c3 ∧ f13 1 = .slice A7 x6.length c8 ∧ f13 5 = .int .i64 x14 ∧ St (anyOf []) H w [] H w12 ∧ laws_sameB.l0 k21 x1 x6 x14 = some r) k ⟨_, 0, rfl, kr, kr, kr, S0_, M⟩ ?_
  clear M
  rintro k21 a22 w12 ⟨f13, x14, rfl, e15, e16, e17, S18, M⟩
  rcases k21 with _ | k23
  · rw [laws_sameB.l0] at M
    cases M
  rw [laws_sameB.l0] at M
  refine wQ (wQ (wR (lV 11 (eM (.int .i64 x14) (by exact e17)) (lV 12 (eM (.slice A2 x1.length c3) (by exact e15)) (lV 13 (e_len (A := A2) (n := x1.length) (c := c3) underlying59 kr) (lV 14 (eLt .i64 x14 (x1.length : Int)) (wN (tN ?_))))))))
  by_cases q24 : x14 < (x1.length : Int)
  · replace M := ifp q24 M
    refine cT (bT q24) (wK (tN (wQ (wp_block (wQ ?_)))))
    refine region_still kr kr S18 ?_
    intro w25 S26 K27
    refine sV 17 (eM (.slice A2 x1.length c3) (by exact e15)) (sV 18 (eM (.int .i64 x14) (by exact e17)) ?_)
    obtain ⟨q28, M⟩ := chk M
    obtain ⟨b29, o30, e31⟩ := Rd.addr h4 (show (x14).toNat < x1.length by omega)
    obtain ⟨y32, r33, k34⟩ := Rd.at h4 e31 (getD_some (0 : UInt8) (show (x14).toNat < x1.length by omega))
    obtain rfl := r33
    refine sV 19 (eI b29 o30 x1.length c3 1 x14 .i64 underlying59 e31 q28 q24) (sV 20 (eL ⟨b29, o30 + (x14 : Int).toNat * 1, none⟩ (.int .u8 ((x1.getD ((x14).toNat) (0 : UInt8)).toNat : Int)) underlying5 (hpx (S26.inv.cell (k34 0 _ rfl)))) (sV 21 (eM (.slice A7 x6.length c8) (by exact e16)) (sV 22 (eM (.int .i64 x14) (by exact e17)) ?_)))
    obtain ⟨q35, M⟩ := chk M
    obtain ⟨b36, o37, e38⟩ := Rd.addr h9 (show (x14).toNat < x6.length by omega)
    obtain ⟨y39, r40, k41⟩ := Rd.at h9 e38 (getD_some (0 : UInt8) (show (x14).toNat < x6.length by omega))
    obtain rfl := r40
    refine sV 23 (eI b36 o37 x6.length c8 1 x14 .i64 underlying59 e38 q28 q35) (sV 24 (eL ⟨b36, o37 + (x14 : Int).toNat * 1, none⟩ (.int .u8 ((x6.getD ((x14).toNat) (0 : UInt8)).toNat : Int)) underlying5 (hpx (S26.inv.cell (k41 0 _ rfl)))) (sV 25 (eNe .u8 ((x1.getD ((x14).toNat) (0 : UInt8)).toNat : Int) ((x6.getD ((x14).toNat) (0 : UInt8)).toNat : Int)) (wpStill_nil (tN ?_))))
    by_cases q42 : ((x1.getD ((x14).toNat) (0 : UInt8)).toNat : Int) ≠ ((x6.getD ((x14).toNat) (0 : UInt8)).toNat : Int)
    · replace M := ifp q42 M
      refine cT (bT q42) (wQ (wR (lV 4 (eA (.bool false)) (wN (tN (wT (inb_r (tR (tR (inb_r (tR ?_)))))))))))
      obtain rfl := sj M
      exact ret1 rfl rfl  (show _ = .bool false from kr) ⟨rfl, S26.chg⟩
    replace M := ifn q42 M
    refine cF (bF q42) (wK (inb_n (tN (wR (lV 15 (eM (.int .i64 x14) (by exact e17)) (lV 16 (eAdd .i64 x14 1) (lV 5 (eA (.int .i64 (i64.wrap (x14 + 1)))) (wN (tN ?_)))))))))
    exact ⟨k23, (by omega), _, (i64.wrap (x14 + 1)), rfl, (by exact e15), (by exact e16), kr, S26, M⟩
  replace M := ifn q24 M
  refine cF (bF q24) (wp_exit (tE (tE (inb_hit (tN (wQ (wR (lV 4 (eA (.bool true)) (wN (tN (wT ?_)))))))))))
  obtain rfl := sj M
  exact ret1 rfl rfl  (show _ = .bool true from kr) ⟨rfl, S18.chg⟩

/-! laws_sameCell -/
def laws_sameCell.f (k : Nat) (x1 : Cell) (x6 : Cell) : Option Bool := (if x1.kind = x6.kind then (if x1.n = x6.n then ((laws_sameB.f k x1.text x6.text).bind fun t23 => some t23) else some false) else some false)
theorem laws_sameCell.calls (k : Nat) (w : World) (H : Hp) (x1 : Cell) (A2 : Option Addr) (c3 : Nat) (x6 : Cell) (A7 : Option Addr) (c8 : Nat) (h4 : Rd tByte H A2 x1.text) (l5 : x1.text.length ≤ c3) (h9 : Rd tByte H A7 x6.text) (l10 : x6.text.length ≤ c8) (S : Own [] H w) (r : Bool) (M : laws_sameCell.f k x1 x6 = some r) :
    Calls Try.prog 101 #[.agg #[.int .i64 x1.kind, .int .i64 x1.n, .slice A2 x1.text.length c3], .agg #[.int .i64 x6.kind, .int .i64 x6.n, .slice A7 x6.text.length c8]] w (fun e e_w => e = .returned (.bool r) ∧ Chg no w e_w) := by
  rw [laws_sameCell.f] at M
  refine enter (l := [.agg #[.int .i64 x1.kind, .int .i64 x1.n, .slice A2 x1.text.length c3], .agg #[.int .i64 x6.kind, .int .i64 x6.n, .slice A7 x6.text.length c8]]) 24 func101 rfl rfl rfl ?_
  have S0_ := S.st
  refine wQ (wR ?_)
  refine lW 2 (nB #[.int .i64 x1.kind, .int .i64 x1.n, .slice A2 x1.text.length c3] 65 S0_) ?_
  rintro _ w11 ⟨g12, rfl, b13, S14, K15⟩
  refine lW 3 (nB #[.int .i64 x6.kind, .int .i64 x6.n, .slice A7 x6.text.length c8] 65 S14) ?_
  rintro _ w16 ⟨g17, rfl, b18, S19, K20⟩
  replace b13 := K20.blk 0 rfl b13
  refine lV 4 (eA (.bool false)) (wN (tN (wQ (wR (lV 5 (eD g12 0 0 1 underlying65) (lV 6 (eL ⟨g12, 0 + 0, none⟩ (.int .i64 x1.kind) underlying3 (blk_cell b13 rfl)) (lV 7 (eD g17 0 0 1 underlying65) (lV 8 (eL ⟨g17, 0 + 0, none⟩ (.int .i64 x6.kind) underlying3 (blk_cell b18 rfl)) (lV 9 (eEq .i64 x1.kind x6.kind) (lV 10 (eM (.bool (decide (x1.kind = x6.kind)))) ?_))))))))))
  by_cases q21 : x1.kind = x6.kind
  · replace M := ifp q21 M
    refine lG 11 10 (bT q21) (eD g12 0 1 1 underlying65) (lG 12 10 (bT q21) (eL ⟨g12, 0 + 1, none⟩ (.int .i64 x1.n) underlying3 (blk_cell b13 rfl)) (lG 13 10 (bT q21) (eD g17 0 1 1 underlying65) (lG 14 10 (bT q21) (eL ⟨g17, 0 + 1, none⟩ (.int .i64 x6.n) underlying3 (blk_cell b18 rfl)) (lG 15 10 (bT q21) (eEq .i64 x1.n x6.n) (lV 16 (eT (.bool (decide (x1.n = x6.n))) (bT q21)) (lV 17 (eM (.bool (decide (x1.n = x6.n)))) ?_))))))
    by_cases q22 : x1.n = x6.n
    · replace M := ifp q22 M
      refine lG 18 17 (bT q22) (eD g12 0 2 1 underlying65) (lG 19 17 (bT q22) (eL ⟨g12, 0 + 2, none⟩ (.slice A2 x1.text.length c3) underlying59 (blk_cell b13 rfl)) (lG 20 17 (bT q22) (eD g17 0 2 1 underlying65) (lG 21 17 (bT q22) (eL ⟨g17, 0 + 2, none⟩ (.slice A7 x6.text.length c8) underlying59 (blk_cell b18 rfl)) ?_)))
      obtain ⟨t23, u24, M⟩ := bnd M
      refine lcallg (d := 22) (t := 17) rfl kr rfl (bT q22) rfl kr (eC [.tmp 19, .tmp 21] [.slice A2 x1.text.length c3, .slice A7 x6.text.length c8] func126) (laws_sameB.calls k w16 H x1.text A2 c3 x6.text A7 c8 h4 l5 h9 l10 S19.own0 t23 u24) ?_
      rintro _ w25 ⟨rfl, C26⟩
      refine ⟨_, rfl, ?_⟩
      obtain ⟨S27, K28⟩ := S19.still C26
      refine lV 23 (eT (.bool t23) (bT q22)) (lV 4 (eA (.bool t23)) (wN (tN (wT ?_))))
      obtain rfl := sj M
      exact ret1 rfl rfl  (show _ = .bool t23 from kr) ⟨rfl, S27.chg⟩
    replace M := ifn q22 M
    refine lK 17 false (bF q22) ?_
    refine lK 17 false (bF q22) ?_
    refine lK 17 false (bF q22) ?_
    refine lK 17 false (bF q22) ?_
    refine lK 17 false (bF q22) ?_
    refine lV 23 (eF (.bool false) (bF q22)) (lV 4 (eA (.bool false)) (wN (tN (wT ?_))))
    obtain rfl := sj M
    exact ret1 rfl rfl  (show _ = .bool false from kr) ⟨rfl, S19.chg⟩
  replace M := ifn q21 M
  refine lK 10 false (bF q21) ?_
  refine lK 10 false (bF q21) ?_
  refine lK 10 false (bF q21) ?_
  refine lK 10 false (bF q21) ?_
  refine lK 10 false (bF q21) ?_
  refine lV 16 (eF (.bool false) (bF q21)) (lV 17 (eM (.bool false)) (lJ 17 false ?_))
  refine lJ 17 false ?_
  refine lJ 17 false ?_
  refine lJ 17 false ?_
  refine lJ 17 false ?_
  refine lV 23 (eF (.bool false)) (lV 4 (eA (.bool false)) (wN (tN (wT ?_))))
  obtain rfl := sj M
  exact ret1 rfl rfl  (show _ = .bool false from kr) ⟨rfl, S19.chg⟩

/-! laws_sameT -/
def laws_sameT.l0 : Nat → (List Cell) → (List Cell) → Int → Option Bool
  | 0, _, _, _ => none
  | k23 + 1, x1, x6, x14 => (if x14 < (x1.length : Int) then (if 0 ≤ x14 then (if x14 < (x6.length : Int) then ((laws_sameCell.f k23 (x1.getD ((x14).toNat) z65) (x6.getD ((x14).toNat) z65)).bind fun t47 => (if ¬ (t47 = true) then some false else (laws_sameT.l0 k23 x1 x6 (i64.wrap (x14 + 1))))) else none) else none) else some true)
def laws_sameT.f (k : Nat) (x1 : List Cell) (x6 : List Cell) : Option Bool := (if (x1.length : Int) ≠ (x6.length : Int) then some false else (laws_sameT.l0 k x1 x6 0))
theorem laws_sameT.calls (k : Nat) (w : World) (H : Hp) (x1 : List Cell) (A2 : Option Addr) (c3 : Nat) (x6 : List Cell) (A7 : Option Addr) (c8 : Nat) (h4 : Rd st65 H A2 x1) (l5 : x1.length ≤ c3) (h9 : Rd st65 H A7 x6) (l10 : x6.length ≤ c8) (S : Own [] H w) (r : Bool) (M : laws_sameT.f k x1 x6 = some r) :
    Calls Try.prog 53 #[.slice A2 x1.length c3, .slice A7 x6.length c8] w (fun e e_w => e = .returned (.bool r) ∧ Chg no w e_w) := by
  rw [laws_sameT.f] at M
  refine enter (l := [.slice A2 x1.length c3, .slice A7 x6.length c8]) 27 func53 rfl rfl rfl ?_
  have S0_ := S.st
  refine wQ (wR (lV 4 (eA (.bool false)) (wN (tN (wQ (wQ (wR (lV 6 (eM (.slice A2 x1.length c3)) (lV 7 (e_len (A := A2) (n := x1.length) (c := c3) underlying25 kr) (lV 8 (eM (.slice A7 x6.length c8)) (lV 9 (e_len (A := A7) (n := x6.length) (c := c8) underlying25 kr) (lV 10 (eNe .i64 (x1.length : Int) (x6.length : Int)) (wN (tN ?_))))))))))))))
  by_cases q11 : (x1.length : Int) ≠ (x6.length : Int)
  · replace M := ifp q11 M
    refine cT (bT q11) (wQ (wR (lV 4 (eA (.bool false)) (wN (tN (wT (tR ?_)))))))
    obtain rfl := sj M
    exact ret1 rfl rfl  (show _ = .bool false from kr) ⟨rfl, S0_.chg⟩
  replace M := ifn q11 M
  refine cF (bF q11) (wK (tN (wQ (wQ (wR (lV 5 (eA (.int .i64 0)) (wN (tN (wp_block ?_)))))))))
  refine wp_loop_g (fun k21 a22 w12 => ∃ (f13 : Nat → Value) (x14 : Int), a22 = mk 27 f13 ∧ f13 0 = .slice A2 x1.length c3 ∧ f13 1 = .slice A7 x6.length c8 ∧ f13 5 = .int .i64 x14 ∧ St (anyOf []) H w [] H w12 ∧ laws_sameT.l0 k21 x1 x6 x14 = some r) k ⟨_, 0, rfl, kr, kr, kr, S0_, M⟩ ?_
  clear M
  rintro k21 a22 w12 ⟨f13, x14, rfl, e15, e16, e17, S18, M⟩
  rcases k21 with _ | k23
  · rw [laws_sameT.l0] at M
    cases M
  rw [laws_sameT.l0] at M
  refine wQ (wQ (wR (lV 11 (eM (.int .i64 x14) (by exact e17)) (lV 12 (eM (.slice A2 x1.length c3) (by exact e15)) (lV 13 (e_len (A := A2) (n := x1.length) (c := c3) underlying25 kr) (lV 14 (eLt .i64 x14 (x1.length : Int)) (wN (tN ?_))))))))
  by_cases q24 : x14 < (x1.length : Int)
  · replace M := ifp q24 M
    refine cT (bT q24) (wK (tN (wQ (wp_block (wQ ?_)))))
    refine region_quiet kr kr (qV 17 (fun wq_ hq_ => eM (.slice A2 x1.length c3) (by exact e15)) (qV 18 (fun wq_ hq_ => eM (.int .i64 x14) (by exact e17)) ?_))
    obtain ⟨q25, M⟩ := chk M
    obtain ⟨b26, o27, e28⟩ := Rd.addr h4 (show (x14).toNat < x1.length by omega)
    obtain ⟨y29, r30, k31⟩ := Rd.at h4 e28 (getD_some z65 (show (x14).toNat < x1.length by omega))
    obtain ⟨A32, c33, rfl, l34, h35⟩ := st65_open r30
    refine qV 19 (fun wq_ hq_ => eI b26 o27 x1.length c3 3 x14 .i64 underlying25 e28 q25 q24) (qV 20 (fun wq_ hq_ => e_loadS (b := b26) (off := o27 + (x14 : Int).toNat * 3) (cs := [.int .i64 ((x1.getD ((x14).toNat) z65).kind), .int .i64 ((x1.getD ((x14).toNat) z65).n), .slice A32 ((x1.getD ((x14).toNat) z65).text).length c33]) underlying65 rfl kr kr (fun j_ u_ e_ => (hpx ((S18.still hq_).1.inv.cell (k31 j_ u_ e_))))) (qV 21 (fun wq_ hq_ => eM (.slice A7 x6.length c8) (by exact e16)) (qV 22 (fun wq_ hq_ => eM (.int .i64 x14) (by exact e17)) ?_)))
    obtain ⟨q36, M⟩ := chk M
    obtain ⟨b37, o38, e39⟩ := Rd.addr h9 (show (x14).toNat < x6.length by omega)
    obtain ⟨y40, r41, k42⟩ := Rd.at h9 e39 (getD_some z65 (show (x14).toNat < x6.length by omega))
    obtain ⟨A43, c44, rfl, l45, h46⟩ := st65_open r41
    refine qV 23 (fun wq_ hq_ => eI b37 o38 x6.length c8 3 x14 .i64 underlying25 e39 q25 q36) (qV 24 (fun wq_ hq_ => e_loadS (b := b37) (off := o38 + (x14 : Int).toNat * 3) (cs := [.int .i64 ((x6.getD ((x14).toNat) z65).kind), .int .i64 ((x6.getD ((x14).toNat) z65).n), .slice A43 ((x6.getD ((x14).toNat) z65).text).length c44]) underlying65 rfl kr kr (fun j_ u_ e_ => (hpx ((S18.still hq_).1.inv.cell (k42 j_ u_ e_))))) ?_)
    obtain ⟨t47, u48, M⟩ := bnd M
    refine qcall (v := .bool t47) (d := 25) rfl rfl kr (fun w_ => eC [.tmp 20, .tmp 24] [.agg #[.int .i64 ((x1.getD ((x14).toNat) z65).kind), .int .i64 ((x1.getD ((x14).toNat) z65).n), .slice A32 ((x1.getD ((x14).toNat) z65).text).length c33], .agg #[.int .i64 ((x6.getD ((x14).toNat) z65).kind), .int .i64 ((x6.getD ((x14).toNat) z65).n), .slice A43 ((x6.getD ((x14).toNat) z65).text).length c44]] func101) (fun wq_ hq_ => (by obtain ⟨S_, K_⟩ := S18.still hq_; exact (laws_sameCell.calls k23 wq_ H (x1.getD ((x14).toNat) z65) A32 c33 (x6.getD ((x14).toNat) z65) A43 c44 h35 l34 h46 l45 S_.own0 t47 u48))) (qV 26 (fun wq_ hq_ => e_notv (c := t47) kr) ?_)
    refine wpQuiet_nil ?_
    intro w49 C52
    obtain ⟨S50, K51⟩ := S18.still C52
    refine tN ?_
    by_cases q53 : ¬ (t47 = true)
    · replace M := ifp q53 M
      refine cT (bT q53) (wQ (wR (lV 4 (eA (.bool false)) (wN (tN (wT (inb_r (tR (tR (inb_r (tR ?_)))))))))))
      obtain rfl := sj M
      exact ret1 rfl rfl  (show _ = .bool false from kr) ⟨rfl, S50.chg⟩
    replace M := ifn q53 M
    refine cF (bF q53) (wK (inb_n (tN (wR (lV 15 (eM (.int .i64 x14) (by exact e17)) (lV 16 (eAdd .i64 x14 1) (lV 5 (eA (.int .i64 (i64.wrap (x14 + 1)))) (wN (tN ?_)))))))))
    exact ⟨k23, (by omega), _, (i64.wrap (x14 + 1)), rfl, (by exact e15), (by exact e16), kr, S50, M⟩
  replace M := ifn q24 M
  refine cF (bF q24) (wp_exit (tE (tE (inb_hit (tN (wQ (wR (lV 4 (eA (.bool true)) (wN (tN (wT ?_)))))))))))
  obtain rfl := sj M
  exact ret1 rfl rfl  (show _ = .bool true from kr) ⟨rfl, S18.chg⟩

/-! impl_compareInt -/
def impl_compareInt.f (x1 : Int) (x2 : Int) : Option Int := (if x1 < x2 then some (-1) else (if x1 > x2 then some 1 else some 0))
theorem impl_compareInt.calls (w : World) (H : Hp) (x1 : Int) (x2 : Int) (S : Own [] H w) (r : Int) (M : impl_compareInt.f x1 x2 = some r) :
    Calls Try.prog 106 #[.int .i64 x1, .int .i64 x2] w (fun e e_w => e = .returned (.int .i64 r) ∧ Chg no w e_w) := by
  rw [impl_compareInt.f] at M
  refine enter (l := [.int .i64 x1, .int .i64 x2]) 13 func106 rfl rfl rfl ?_
  have S0_ := S.st
  refine wQ (wR (lV 4 (eA (.int .i64 0)) (wN (tN (wQ (wp_block (wQ (wR (lV 6 (eM (.int .i64 x1)) (lV 7 (eM (.int .i64 x2)) (lV 8 (eLt .i64 x1 x2) (lV 5 (eA (.bool (decide (x1 < x2)))) (wN (tN ?_))))))))))))))
  by_cases q3 : x1 < x2
  · replace M := ifp q3 M
    refine cT (bT q3) (wQ (wR (lV 4 (eA (.int .i64 (-1))) (wN (tN (wT (inb_r (tR ?_))))))))
    obtain rfl := sj M
    exact ret1 rfl rfl  (show _ = .int .i64 (-1) from kr) ⟨rfl, S0_.chg⟩
  replace M := ifn q3 M
  refine cF (bF q3) (wQ (wR (lV 10 (eM (.int .i64 x1)) (lV 11 (eM (.int .i64 x2)) (lV 12 (e_gtr (k := .i64) (a := x1) (b := x2) kr kr) (lV 9 (eA (.bool (decide (x1 > x2)))) (wN (tN ?_))))))))
  by_cases q4 : x1 > x2
  · replace M := ifp q4 M
    refine cT (bT q4) (wQ (wR (lV 4 (eA (.int .i64 1)) (wN (tN (wT (inb_r (tR ?_))))))))
    obtain rfl := sj M
    exact ret1 rfl rfl  (show _ = .int .i64 1 from kr) ⟨rfl, S0_.chg⟩
  replace M := ifn q4 M
  refine cF (bF q4) (wK (inb_n (tN (wQ (wR (lV 4 (eA (.int .i64 0)) (wN (tN (wT ?_)))))))))
  obtain rfl := sj M
  exact ret1 rfl rfl  (show _ = .int .i64 0 from kr) ⟨rfl, S0_.chg⟩

/-! impl_compareText -/
def impl_compareText.f (x1 : List UInt8) (x2 : List UInt8) : Option Int := (if (Op.bytesLess x1 x2) = true then some (-1) else (if (!(Op.bytesLess x1 x2 || x1 == x2)) = true then some 1 else some 0))
theorem impl_compareText.calls (w : World) (H : Hp) (x1 : List UInt8) (x2 : List UInt8) (S : Own [] H w) (r : Int) (M : impl_compareText.f x1 x2 = some r) :
    Calls Try.prog 107 #[str x1, str x2] w (fun e e_w => e = .returned (.int .i64 r) ∧ Chg no w e_w) := by
  rw [impl_compareText.f] at M
  refine enter (l := [str x1, str x2]) 13 func107 rfl rfl rfl ?_
  have S0_ := S.st
  refine wQ (wR (lV 4 (eA (.int .i64 0)) (wN (tN (wQ (wp_block (wQ (wR (lV 6 (eM (str x1)) (lV 7 (eM (str x2)) (lV 8 (e_slss (p := x1) (q := x2) kr kr) (lV 5 (eA (.bool (Op.bytesLess x1 x2))) (wN (tN ?_))))))))))))))
  by_cases q3 : (Op.bytesLess x1 x2) = true
  · replace M := ifp q3 M
    refine cT (bvt q3 kr) (wQ (wR (lV 4 (eA (.int .i64 (-1))) (wN (tN (wT (inb_r (tR ?_))))))))
    obtain rfl := sj M
    exact ret1 rfl rfl  (show _ = .int .i64 (-1) from kr) ⟨rfl, S0_.chg⟩
  replace M := ifn q3 M
  refine cF (bvf q3 kr) (wQ (wR (lV 10 (eM (str x1)) (lV 11 (eM (str x2)) (lV 12 (e_sgtr (p := x1) (q := x2) kr kr) (lV 9 (eA (.bool (!(Op.bytesLess x1 x2 || x1 == x2)))) (wN (tN ?_))))))))
  by_cases q4 : (!(Op.bytesLess x1 x2 || x1 == x2)) = true
  · replace M := ifp q4 M
    refine cT (bvt q4 kr) (wQ (wR (lV 4 (eA (.int .i64 1)) (wN (tN (wT (inb_r (tR ?_))))))))
    obtain rfl := sj M
    exact ret1 rfl rfl  (show _ = .int .i64 1 from kr) ⟨rfl, S0_.chg⟩
  replace M := ifn q4 M
  refine cF (bvf q4 kr) (wK (inb_n (tN (wQ (wR (lV 4 (eA (.int .i64 0)) (wN (tN (wT ?_)))))))))
  obtain rfl := sj M
  exact ret1 rfl rfl  (show _ = .int .i64 0 from kr) ⟨rfl, S0_.chg⟩

/-! impl_compare -/
mutual
def impl_compare.l0 : Nat → Tm → Tm → Bool → Option Int
  | 0, _, _, _ => none
  | k44 + 1, x1, x4, x35 => (if x35 = true then ((impl_compareInt.f x1.n x4.n).bind fun t48 => some t48) else (if x1.kind = 2 then ((impl_compareText.f x1.text x4.text).bind fun t55 => some t55) else (if x1.n ≠ x4.n then ((impl_compareInt.f x1.n x4.n).bind fun t65 => some t65) else (if x1.text ≠ x4.text then ((impl_compareText.f x1.text x4.text).bind fun t75 => some t75) else (impl_compare.l1 k44 x1 x4 0)))))
def impl_compare.l1 : Nat → Tm → Tm → Int → Option Int
  | 0, _, _, _ => none
  | k93 + 1, x1, x4, x83 => (if x83 < (x1.args.length : Int) then (if 0 ≤ x83 then (if x83 < (x4.args.length : Int) then ((impl_compare.f k93 (x1.args.getD ((x83).toNat) (Tm.mk 0 0 [] [])) (x4.args.getD ((x83).toNat) (Tm.mk 0 0 [] []))).bind fun t115 => (if t115 ≠ 0 then some t115 else (impl_compare.l1 k93 x1 x4 (i64.wrap (x83 + 1))))) else none) else none) else some 0)
def impl_compare.f : Nat → Tm → Tm → Option Int
  | 0, _, _ => none
  | k1_ + 1, x1, x4 => (if x1.kind ≠ x4.kind then ((impl_compareInt.f x1.kind x4.kind).bind fun t27 => some t27) else (if x1.kind = 0 then (impl_compare.l0 k1_ x1 x4 (decide (x1.kind = 0))) else (impl_compare.l0 k1_ x1 x4 (decide (x1.kind = 1)))))
end
theorem impl_compare.all : ∀ (K : Nat), (∀ (k : Nat), k < K → ∀ (w : World) (H : Hp) (x1 : Tm) (g2 : Nat) (x4 : Tm) (g5 : Nat) (h3 : NodeR 125 H x1 (.pointer (some ⟨g2, 0, none⟩))) (h6 : NodeR 125 H x4 (.pointer (some ⟨g5, 0, none⟩))) (S : Own [] H w) (r : Int) (M : impl_compare.f k x1 x4 = some r), Calls Try.prog 61 #[.pointer (some ⟨g2, 0, none⟩), .pointer (some ⟨g5, 0, none⟩)] w (fun e e_w => e = .returned (.int .i64 r) ∧ Chg no w e_w)) := by
  intro K
  induction K with
  | zero => intro k hk; omega
  | succ K ih =>
    intro k hk w H x1 g2 x4 g5 h3 h6 S r M
    rcases k with _ | k1_
    · rw [impl_compare.f] at M
      cases M
    rw [impl_compare.f] at M
    refine enter (l := [.pointer (some ⟨g2, 0, none⟩), .pointer (some ⟨g5, 0, none⟩)]) 115 func61 rfl rfl rfl ?_
    have S0_ := S.st
    refine wQ (wR (lV 4 (eA (.int .i64 0)) (wN (tN (wQ (wQ ?_))))))
    refine region_still kr kr S0_ ?_
    intro w7 S8 K9
    refine sV 7 (eM (.pointer (some ⟨g2, 0, none⟩))) (sV 8 (eN ⟨g2, 0, none⟩) (sV 9 (eD g2 0 0 1 underlying125) ?_))
    obtain ⟨A10, c11, y12, q13, h14, h15, l16, h17⟩ := node_open h3
    refine sV 10 (eL ⟨g2, 0 + 0, none⟩ (.int .i64 x1.kind) underlying3 (blk_cells (S8.inv _ _ h14) h15 0 _ rfl)) (sV 11 (eM (.pointer (some ⟨g5, 0, none⟩))) (sV 12 (eN ⟨g5, 0, none⟩) (sV 13 (eD g5 0 0 1 underlying125) ?_)))
    obtain ⟨A18, c19, y20, q21, h22, h23, l24, h25⟩ := node_open h6
    refine sV 14 (eL ⟨g5, 0 + 0, none⟩ (.int .i64 x4.kind) underlying3 (blk_cells (S8.inv _ _ h22) h23 0 _ rfl)) (sV 15 (eNe .i64 x1.kind x4.kind) (wpStill_nil (tN ?_)))
    by_cases q26 : x1.kind ≠ x4.kind
    · replace M := ifp q26 M
      refine cT (bT q26) (wQ ?_)
      refine region_quiet kr kr (qV 16 (fun wq_ hq_ => eM (.pointer (some ⟨g2, 0, none⟩))) (qV 17 (fun wq_ hq_ => eN ⟨g2, 0, none⟩) (qV 18 (fun wq_ hq_ => eD g2 0 0 1 underlying125) (qV 19 (fun wq_ hq_ => eL ⟨g2, 0 + 0, none⟩ (.int .i64 x1.kind) underlying3 (blk_cells ((S8.still hq_).1.inv _ _ h14) h15 0 _ rfl)) (qV 20 (fun wq_ hq_ => eM (.pointer (some ⟨g5, 0, none⟩))) (qV 21 (fun wq_ hq_ => eN ⟨g5, 0, none⟩) (qV 22 (fun wq_ hq_ => eD g5 0 0 1 underlying125) (qV 23 (fun wq_ hq_ => eL ⟨g5, 0 + 0, none⟩ (.int .i64 x4.kind) underlying3 (blk_cells ((S8.still hq_).1.inv _ _ h22) h23 0 _ rfl)) ?_))))))))
      obtain ⟨t27, u28, M⟩ := bnd M
      refine qcall (v := .int .i64 t27) (d := 24) rfl rfl kr (fun w_ => eC [.tmp 19, .tmp 23] [.int .i64 x1.kind, .int .i64 x4.kind] func106) (fun wq_ hq_ => (by obtain ⟨S_, K_⟩ := S8.still hq_; exact (impl_compareInt.calls wq_ H x1.kind x4.kind  S_.own0 t27 u28))) (qV 4 (fun wq_ hq_ => eA (.int .i64 t27)) ?_)
      refine wpQuiet_nil ?_
      intro w29 C32
      obtain ⟨S30, K31⟩ := S8.still C32
      refine tN (wT (tR ?_))
      obtain rfl := sj M
      exact ret1 rfl rfl  (show _ = .int .i64 t27 from kr) ⟨rfl, S30.chg⟩
    replace M := ifn q26 M
    refine cF (bF q26) (wK (tN (wQ (wQ (wR (lV 25 (eM (.pointer (some ⟨g2, 0, none⟩))) (lV 26 (eN ⟨g2, 0, none⟩) (lV 27 (eD g2 0 0 1 underlying125) (lV 28 (eL ⟨g2, 0 + 0, none⟩ (.int .i64 x1.kind) underlying3 (blk_cells (S8.inv _ _ h14) h15 0 _ rfl)) (wN (tN (wp_block ?_))))))))))))
    refine wp_seq_cut (fun a43 w33 => ∃ (k45 : Nat), k45 ≤ k1_ ∧ ∃ (f34 : Nat → Value) (x35 : Bool), k45 < K ∧ a43 = mk 115 f34 ∧ f34 0 = .pointer (some ⟨g2, 0, none⟩) ∧ f34 1 = .pointer (some ⟨g5, 0, none⟩) ∧ f34 28 = .int .i64 x1.kind ∧ f34 29 = .bool x35 ∧ St (anyOf []) H w [] H w33 ∧ impl_compare.l0 k45 x1 x4 x35 = some r) ?_ ?_
    · refine wQ (wR (lV 30 (eEq .i64 x1.kind 0) (lV 29 (eA (.bool (decide (x1.kind = 0)))) (wN (tN ?_)))))
      by_cases q46 : x1.kind = 0
      · replace M := ifp q46 M
        refine cT (bT q46) (wK (tN ?_))
        exact ⟨k1_, (by omega), _, (decide (x1.kind = 0)), (by omega), rfl, kr, kr, kr, kr, S8, M⟩
      replace M := ifn q46 M
      refine cF (bF q46) (wR (lV 31 (eEq .i64 x1.kind 1) (lV 29 (eA (.bool (decide (x1.kind = 1)))) (wN (tN ?_)))))
      exact ⟨k1_, (by omega), _, (decide (x1.kind = 1)), (by omega), rfl, kr, kr, kr, kr, S8, M⟩
    clear M
    rintro a43 w33 ⟨k45, z122, f34, x35, z41, rfl, e36, e37, e38, e39, S40, M⟩
    rcases k45 with _ | k44
    · rw [impl_compare.l0] at M
      cases M
    rw [impl_compare.l0] at M
    by_cases q47 : x35 = true
    · replace M := ifp q47 M
      refine cT (bvt q47 (by exact e39)) (wQ ?_)
      refine region_quiet kr kr (qV 32 (fun wq_ hq_ => eM (.pointer (some ⟨g2, 0, none⟩)) (by exact e36)) (qV 33 (fun wq_ hq_ => eN ⟨g2, 0, none⟩) (qV 34 (fun wq_ hq_ => eD g2 0 1 1 underlying125) (qV 35 (fun wq_ hq_ => eL ⟨g2, 0 + 1, none⟩ (.int .i64 x1.n) underlying3 (blk_cells ((S40.still hq_).1.inv _ _ h14) h15 1 _ rfl)) (qV 36 (fun wq_ hq_ => eM (.pointer (some ⟨g5, 0, none⟩)) (by exact e37)) (qV 37 (fun wq_ hq_ => eN ⟨g5, 0, none⟩) (qV 38 (fun wq_ hq_ => eD g5 0 1 1 underlying125) (qV 39 (fun wq_ hq_ => eL ⟨g5, 0 + 1, none⟩ (.int .i64 x4.n) underlying3 (blk_cells ((S40.still hq_).1.inv _ _ h22) h23 1 _ rfl)) ?_))))))))
      obtain ⟨t48, u49, M⟩ := bnd M
      refine qcall (v := .int .i64 t48) (d := 40) rfl rfl kr (fun w_ => eC [.tmp 35, .tmp 39] [.int .i64 x1.n, .int .i64 x4.n] func106) (fun wq_ hq_ => (by obtain ⟨S_, K_⟩ := S40.still hq_; exact (impl_compareInt.calls wq_ H x1.n x4.n  S_.own0 t48 u49))) (qV 4 (fun wq_ hq_ => eA (.int .i64 t48)) ?_)
      refine wpQuiet_nil ?_
      intro w50 C53
      obtain ⟨S51, K52⟩ := S40.still C53
      refine tN (wT (inb_r (tR ?_)))
      obtain rfl := sj M
      exact ret1 rfl rfl  (show _ = .int .i64 t48 from kr) ⟨rfl, S51.chg⟩
    replace M := ifn q47 M
    refine cF (bvf q47 (by exact e39)) (wQ (wR (lV 42 (eEq .i64 x1.kind 2 (by exact e38)) (lV 41 (eA (.bool (decide (x1.kind = 2)))) (wN (tN ?_))))))
    by_cases q54 : x1.kind = 2
    · replace M := ifp q54 M
      refine cT (bT q54) (wQ ?_)
      refine region_quiet kr kr (qV 43 (fun wq_ hq_ => eM (.pointer (some ⟨g2, 0, none⟩)) (by exact e36)) (qV 44 (fun wq_ hq_ => eN ⟨g2, 0, none⟩) (qV 45 (fun wq_ hq_ => eD g2 0 2 1 underlying125) (qV 46 (fun wq_ hq_ => eL ⟨g2, 0 + 2, none⟩ (str x1.text) underlying9 (blk_cells ((S40.still hq_).1.inv _ _ h14) h15 2 _ rfl)) (qV 47 (fun wq_ hq_ => eM (.pointer (some ⟨g5, 0, none⟩)) (by exact e37)) (qV 48 (fun wq_ hq_ => eN ⟨g5, 0, none⟩) (qV 49 (fun wq_ hq_ => eD g5 0 2 1 underlying125) (qV 50 (fun wq_ hq_ => eL ⟨g5, 0 + 2, none⟩ (str x4.text) underlying9 (blk_cells ((S40.still hq_).1.inv _ _ h22) h23 2 _ rfl)) ?_))))))))
      obtain ⟨t55, u56, M⟩ := bnd M
      refine qcall (v := .int .i64 t55) (d := 51) rfl rfl kr (fun w_ => eC [.tmp 46, .tmp 50] [str x1.text, str x4.text] func107) (fun wq_ hq_ => (by obtain ⟨S_, K_⟩ := S40.still hq_; exact (impl_compareText.calls wq_ H x1.text x4.text  S_.own0 t55 u56))) (qV 4 (fun wq_ hq_ => eA (.int .i64 t55)) ?_)
      refine wpQuiet_nil ?_
      intro w57 C60
      obtain ⟨S58, K59⟩ := S40.still C60
      refine tN (wT (inb_r (tR ?_)))
      obtain rfl := sj M
      exact ret1 rfl rfl  (show _ = .int .i64 t55 from kr) ⟨rfl, S58.chg⟩
    replace M := ifn q54 M
    refine cF (bF q54) (wK (inb_n (tN (wQ (wQ ?_)))))
    refine region_still kr kr S40 ?_
    intro w61 S62 K63
    refine sV 52 (eM (.pointer (some ⟨g2, 0, none⟩)) (by exact e36)) (sV 53 (eN ⟨g2, 0, none⟩) (sV 54 (eD g2 0 1 1 underlying125) (sV 55 (eL ⟨g2, 0 + 1, none⟩ (.int .i64 x1.n) underlying3 (blk_cells (S62.inv _ _ h14) h15 1 _ rfl)) (sV 56 (eM (.pointer (some ⟨g5, 0, none⟩)) (by exact e37)) (sV 57 (eN ⟨g5, 0, none⟩) (sV 58 (eD g5 0 1 1 underlying125) (sV 59 (eL ⟨g5, 0 + 1, none⟩ (.int .i64 x4.n) underlying3 (blk_cells (S62.inv _ _ h22) h23 1 _ rfl)) (sV 60 (eNe .i64 x1.n x4.n) (wpStill_nil (tN ?_))))))))))
    by_cases q64 : x1.n ≠ x4.n
    · replace M := ifp q64 M
      refine cT (bT q64) (wQ ?_)
      refine region_quiet kr kr (qV 61 (fun wq_ hq_ => eM (.pointer (some ⟨g2, 0, none⟩)) (by exact e36)) (qV 62 (fun wq_ hq_ => eN ⟨g2, 0, none⟩) (qV 63 (fun wq_ hq_ => eD g2 0 1 1 underlying125) (qV 64 (fun wq_ hq_ => eL ⟨g2, 0 + 1, none⟩ (.int .i64 x1.n) underlying3 (blk_cells ((S62.still hq_).1.inv _ _ h14) h15 1 _ rfl)) (qV 65 (fun wq_ hq_ => eM (.pointer (some ⟨g5, 0, none⟩)) (by exact e37)) (qV 66 (fun wq_ hq_ => eN ⟨g5, 0, none⟩) (qV 67 (fun wq_ hq_ => eD g5 0 1 1 underlying125) (qV 68 (fun wq_ hq_ => eL ⟨g5, 0 + 1, none⟩ (.int .i64 x4.n) underlying3 (blk_cells ((S62.still hq_).1.inv _ _ h22) h23 1 _ rfl)) ?_))))))))
      obtain ⟨t65, u66, M⟩ := bnd M
      refine qcall (v := .int .i64 t65) (d := 69) rfl rfl kr (fun w_ => eC [.tmp 64, .tmp 68] [.int .i64 x1.n, .int .i64 x4.n] func106) (fun wq_ hq_ => (by obtain ⟨S_, K_⟩ := S62.still hq_; exact (impl_compareInt.calls wq_ H x1.n x4.n  S_.own0 t65 u66))) (qV 4 (fun wq_ hq_ => eA (.int .i64 t65)) ?_)
      refine wpQuiet_nil ?_
      intro w67 C70
      obtain ⟨S68, K69⟩ := S62.still C70
      refine tN (wT (tR ?_))
      obtain rfl := sj M
      exact ret1 rfl rfl  (show _ = .int .i64 t65 from kr) ⟨rfl, S68.chg⟩
    replace M := ifn q64 M
    refine cF (bF q64) (wK (tN (wQ (wQ ?_))))
    refine region_still kr kr S62 ?_
    intro w71 S72 K73
    refine sV 70 (eM (.pointer (some ⟨g2, 0, none⟩)) (by exact e36)) (sV 71 (eN ⟨g2, 0, none⟩) (sV 72 (eD g2 0 2 1 underlying125) (sV 73 (eL ⟨g2, 0 + 2, none⟩ (str x1.text) underlying9 (blk_cells (S72.inv _ _ h14) h15 2 _ rfl)) (sV 74 (eM (.pointer (some ⟨g5, 0, none⟩)) (by exact e37)) (sV 75 (eN ⟨g5, 0, none⟩) (sV 76 (eD g5 0 2 1 underlying125) (sV 77 (eL ⟨g5, 0 + 2, none⟩ (str x4.text) underlying9 (blk_cells (S72.inv _ _ h22) h23 2 _ rfl)) (sV 78 (e_sneq (p := x1.text) (q := x4.text) kr kr) (wpStill_nil (tN ?_))))))))))
    by_cases q74 : x1.text ≠ x4.text
    · replace M := ifp q74 M
      refine cT (bT q74) (wQ ?_)
      refine region_quiet kr kr (qV 79 (fun wq_ hq_ => eM (.pointer (some ⟨g2, 0, none⟩)) (by exact e36)) (qV 80 (fun wq_ hq_ => eN ⟨g2, 0, none⟩) (qV 81 (fun wq_ hq_ => eD g2 0 2 1 underlying125) (qV 82 (fun wq_ hq_ => eL ⟨g2, 0 + 2, none⟩ (str x1.text) underlying9 (blk_cells ((S72.still hq_).1.inv _ _ h14) h15 2 _ rfl)) (qV 83 (fun wq_ hq_ => eM (.pointer (some ⟨g5, 0, none⟩)) (by exact e37)) (qV 84 (fun wq_ hq_ => eN ⟨g5, 0, none⟩) (qV 85 (fun wq_ hq_ => eD g5 0 2 1 underlying125) (qV 86 (fun wq_ hq_ => eL ⟨g5, 0 + 2, none⟩ (str x4.text) underlying9 (blk_cells ((S72.still hq_).1.inv _ _ h22) h23 2 _ rfl)) ?_))))))))
      obtain ⟨t75, u76, M⟩ := bnd M
      refine qcall (v := .int .i64 t75) (d := 87) rfl rfl kr (fun w_ => eC [.tmp 82, .tmp 86] [str x1.text, str x4.text] func107) (fun wq_ hq_ => (by obtain ⟨S_, K_⟩ := S72.still hq_; exact (impl_compareText.calls wq_ H x1.text x4.text  S_.own0 t75 u76))) (qV 4 (fun wq_ hq_ => eA (.int .i64 t75)) ?_)
      refine wpQuiet_nil ?_
      intro w77 C80
      obtain ⟨S78, K79⟩ := S72.still C80
      refine tN (wT (tR ?_))
      obtain rfl := sj M
      exact ret1 rfl rfl  (show _ = .int .i64 t75 from kr) ⟨rfl, S78.chg⟩
    replace M := ifn q74 M
    refine cF (bF q74) (wK (tN (wQ (wQ (wR (lV 88 (eM (.pointer (some ⟨g2, 0, none⟩)) (by exact e36)) (lV 89 (eN ⟨g2, 0, none⟩) (lV 90 (eD g2 0 3 1 underlying125) (lV 91 (eL ⟨g2, 0 + 3, none⟩ (.slice A10 x1.args.length c11) underlying87 (blk_cells (S72.inv _ _ h14) h15 3 _ rfl)) (lV 92 (e_len (A := A10) (n := x1.args.length) (c := c11) underlying87 kr) (lV 93 (eM (.int .i64 0)) (wN (tN (wp_block ?_))))))))))))))
    refine wp_loop_g (fun k91 a92 w81 => ∃ (f82 : Nat → Value) (x83 : Int), k91 < K ∧ a92 = mk 115 f82 ∧ f82 0 = .pointer (some ⟨g2, 0, none⟩) ∧ f82 1 = .pointer (some ⟨g5, 0, none⟩) ∧ f82 92 = .int .i64 (x1.args.length : Int) ∧ f82 93 = .int .i64 x83 ∧ St (anyOf []) H w [] H w81 ∧ impl_compare.l1 k91 x1 x4 x83 = some r) k44 ⟨_, 0, (by omega), rfl, (by exact e36), (by exact e37), kr, kr, S72, M⟩ ?_
    clear M
    rintro k91 a92 w81 ⟨f82, x83, z89, rfl, e84, e85, e86, e87, S88, M⟩
    rcases k91 with _ | k93
    · rw [impl_compare.l1] at M
      cases M
    rw [impl_compare.l1] at M
    refine wQ (wR (lV 94 (eLt .i64 x83 (x1.args.length : Int) (by exact e87) (by exact e86)) (wN (tN (wQ ?_)))))
    by_cases q94 : x83 < (x1.args.length : Int)
    · replace M := ifp q94 M
      refine cT (bT q94) (wK (tN (wQ (wp_block (wQ (wR (lV 95 (eM (.int .i64 x83) (by exact e87)) (lV 5 (eA (.int .i64 x83)) (wN (tN (wQ ?_)))))))))))
      refine region_quiet kr kr (qV 96 (fun wq_ hq_ => eM (.pointer (some ⟨g2, 0, none⟩)) (by exact e84)) (qV 97 (fun wq_ hq_ => eN ⟨g2, 0, none⟩) (qV 98 (fun wq_ hq_ => eD g2 0 3 1 underlying125) (qV 99 (fun wq_ hq_ => eL ⟨g2, 0 + 3, none⟩ (.slice A10 x1.args.length c11) underlying87 (blk_cells ((S88.still hq_).1.inv _ _ h14) h15 3 _ rfl)) (qV 100 (fun wq_ hq_ => eM (.int .i64 x83)) ?_)))))
      obtain ⟨q95, M⟩ := chk M
      obtain ⟨b96, o97, e98⟩ := Rd.addr h17 (show (x83).toNat < x1.args.length by omega)
      obtain ⟨y99, r100, k101⟩ := Rd.at h17 e98 (getD_some (Tm.mk 0 0 [] []) (show (x83).toNat < x1.args.length by omega))
      obtain ⟨v102, rfl, h103⟩ := r100
      obtain ⟨g104, rfl⟩ := node_ptr h103
      refine qV 101 (fun wq_ hq_ => eI b96 o97 x1.args.length c11 1 x83 .i64 underlying87 e98 q95 q94) (qV 102 (fun wq_ hq_ => eL ⟨b96, o97 + (x83 : Int).toNat * 1, none⟩ (.pointer (some ⟨g104, 0, none⟩)) underlying74 (hpx ((S88.still hq_).1.inv.cell (k101 0 _ rfl)))) (qV 103 (fun wq_ hq_ => eM (.pointer (some ⟨g5, 0, none⟩)) (by exact e85)) (qV 104 (fun wq_ hq_ => eN ⟨g5, 0, none⟩) (qV 105 (fun wq_ hq_ => eD g5 0 3 1 underlying125) (qV 106 (fun wq_ hq_ => eL ⟨g5, 0 + 3, none⟩ (.slice A18 x4.args.length c19) underlying87 (blk_cells ((S88.still hq_).1.inv _ _ h22) h23 3 _ rfl)) (qV 107 (fun wq_ hq_ => eM (.int .i64 x83)) ?_))))))
      obtain ⟨q105, M⟩ := chk M
      obtain ⟨b106, o107, e108⟩ := Rd.addr h25 (show (x83).toNat < x4.args.length by omega)
      obtain ⟨y109, r110, k111⟩ := Rd.at h25 e108 (getD_some (Tm.mk 0 0 [] []) (show (x83).toNat < x4.args.length by omega))
      obtain ⟨v112, rfl, h113⟩ := r110
      obtain ⟨g114, rfl⟩ := node_ptr h113
      refine qV 108 (fun wq_ hq_ => eI b106 o107 x4.args.length c19 1 x83 .i64 underlying87 e108 q95 q105) (qV 109 (fun wq_ hq_ => eL ⟨b106, o107 + (x83 : Int).toNat * 1, none⟩ (.pointer (some ⟨g114, 0, none⟩)) underlying74 (hpx ((S88.still hq_).1.inv.cell (k111 0 _ rfl)))) ?_)
      obtain ⟨t115, u116, M⟩ := bnd M
      refine qcall (v := .int .i64 t115) (d := 110) rfl rfl kr (fun w_ => eC [.tmp 102, .tmp 109] [.pointer (some ⟨g104, 0, none⟩), .pointer (some ⟨g114, 0, none⟩)] func61) (fun wq_ hq_ => (by obtain ⟨S_, K_⟩ := S88.still hq_; exact (ih k93 (by omega) wq_ H (x1.args.getD ((x83).toNat) (Tm.mk 0 0 [] [])) g104 (x4.args.getD ((x83).toNat) (Tm.mk 0 0 [] [])) g114 h103 h113 S_.own0 t115 u116))) (qV 6 (fun wq_ hq_ => eA (.int .i64 t115)) ?_)
      refine wpQuiet_nil ?_
      intro w117 C120
      obtain ⟨S118, K119⟩ := S88.still C120
      refine tN (wQ (wR (lV 111 (eM (.int .i64 t115)) (lV 112 (eNe .i64 t115 0) (wN (tN ?_))))))
      by_cases q121 : t115 ≠ 0
      · replace M := ifp q121 M
        refine cT (bT q121) (wQ (wR (lV 113 (eM (.int .i64 t115)) (lV 4 (eA (.int .i64 t115)) (wN (tN (wT ?_)))))))
        refine inb_r (tR (tR (inb_r (tR ?_))))
        obtain rfl := sj M
        exact ret1 rfl rfl  (show _ = .int .i64 t115 from kr) ⟨rfl, S118.chg⟩
      replace M := ifn q121 M
      refine cF (bF q121) (wK (inb_n (tN (wR (lV 114 (eAdd .i64 x83 1 (by exact e87)) (lV 93 (eM (.int .i64 (i64.wrap (x83 + 1)))) (wN (tN ?_))))))))
      exact ⟨k93, (by omega), _, (i64.wrap (x83 + 1)), (by omega), rfl, (by exact e84), (by exact e85), (by exact e86), kr, S118, M⟩
    replace M := ifn q94 M
    refine cF (bF q94) (wp_exit (tE (tE (inb_hit (tN (wQ (wR (lV 4 (eA (.int .i64 0)) (wN (tN (wT ?_)))))))))))
    obtain rfl := sj M
    exact ret1 rfl rfl  (show _ = .int .i64 0 from kr) ⟨rfl, S88.chg⟩
theorem impl_compare.calls (k : Nat) (w : World) (H : Hp) (x1 : Tm) (g2 : Nat) (x4 : Tm) (g5 : Nat) (h3 : NodeR 125 H x1 (.pointer (some ⟨g2, 0, none⟩))) (h6 : NodeR 125 H x4 (.pointer (some ⟨g5, 0, none⟩))) (S : Own [] H w) (r : Int) (M : impl_compare.f k x1 x4 = some r) :
    Calls Try.prog 61 #[.pointer (some ⟨g2, 0, none⟩), .pointer (some ⟨g5, 0, none⟩)] w (fun e e_w => e = .returned (.int .i64 r) ∧ Chg no w e_w) := (impl_compare.all (k + 1)) k (Nat.lt_succ_self k) w H x1 g2 x4 g5 h3 h6 S r M

/-! impl_matches -/
mutual
def impl_matches.l0 : Nat → Tm → Tm → Int → (List (Int × Tm)) → Option (Bool × (List (Int × Tm)))
  | 0, _, _, _, _ => none
  | k67 + 1, x4, x7, x55, x56 => (if x55 < (x4.args.length : Int) then (if 0 ≤ x55 then (if x55 < (x7.args.length : Int) then ((impl_matches.f k67 x56 (x4.args.getD ((x55).toNat) (Tm.mk 0 0 [] [])) (x7.args.getD ((x55).toNat) (Tm.mk 0 0 [] []))).bind fun t124 => (if ¬ (t124.1 = true) then some (false, t124.2) else (impl_matches.l0 k67 x4 x7 (i64.wrap (x55 + 1)) t124.2))) else none) else none) else some (true, x56))
def impl_matches.f : Nat → (List (Int × Tm)) → Tm → Tm → Option (Bool × (List (Int × Tm)))
  | 0, _, _, _ => none
  | k1_ + 1, x1, x4, x7 => (if x4.kind = 0 then (if (mget x1 x4.n).isSome = true then ((impl_compare.f k1_ ((mget x1 x4.n).getD (Tm.mk 0 0 [] [])) x7).bind fun t27 => some ((decide (t27 = 0)), x1)) else some (true, (mset x1 x4.n x7))) else (if x4.kind ≠ x7.kind then some (false, x1) else (if x4.n ≠ x7.n then some (false, x1) else (if x4.text ≠ x7.text then some (false, x1) else (impl_matches.l0 k1_ x4 x7 0 x1)))))
end
theorem impl_matches.all : ∀ (K : Nat), (∀ (k : Nat), k < K → ∀ (w : World) (H : Hp) (x1 : List (Int × Tm)) (g2 : Nat) (x4 : Tm) (g5 : Nat) (x7 : Tm) (g8 : Nat) (h3 : MapO encI (node 125) H (hp w) g2 x1) (h6 : NodeR 125 H x4 (.pointer (some ⟨g5, 0, none⟩))) (h9 : NodeR 125 H x7 (.pointer (some ⟨g8, 0, none⟩))) (S : Own [(is g2)] H w) (r : Bool × (List (Int × Tm))) (M : impl_matches.f k x1 x4 x7 = some r), Calls Try.prog 72 #[.map (some g2), .pointer (some ⟨g5, 0, none⟩), .pointer (some ⟨g8, 0, none⟩)] w (fun e e_w => ∃ (H_ : Hp), e = .returned (.bool r.1) ∧ MapO encI (node 125) H_ (hp e_w) g2 r.2 ∧ St (anyOf [(is g2)]) H w [(is g2)] H_ e_w)) := by
  intro K
  induction K with
  | zero => intro k hk; omega
  | succ K ih =>
    intro k hk w H x1 g2 x4 g5 x7 g8 h3 h6 h9 S r M
    rcases k with _ | k1_
    · rw [impl_matches.f] at M
      cases M
    rw [impl_matches.f] at M
    refine enter (l := [.map (some g2), .pointer (some ⟨g5, 0, none⟩), .pointer (some ⟨g8, 0, none⟩)]) 92 func72 rfl rfl rfl ?_
    have S0_ := S.st
    refine wQ (wR (lV 6 (eA (.bool false)) (wN (tN (wQ (wQ (wR (lV 10 (eM (.pointer (some ⟨g5, 0, none⟩))) (lV 11 (eN ⟨g5, 0, none⟩) (lV 12 (eD g5 0 0 1 underlying125) ?_))))))))))
    obtain ⟨A10, c11, y12, q13, h14, h15, l16, h17⟩ := node_open h6
    refine lV 13 (eL ⟨g5, 0 + 0, none⟩ (.int .i64 x4.kind) underlying3 (blk_cells (S0_.inv _ _ h14) h15 0 _ rfl)) (lV 14 (eEq .i64 x4.kind 0) (wN (tN ?_)))
    by_cases q18 : x4.kind = 0
    · replace M := ifp q18 M
      refine cT (bT q18) (wQ (wQ (wR (lV 16 (eM (.map (some g2))) (lV 17 (eM (.pointer (some ⟨g5, 0, none⟩))) (lV 18 (eN ⟨g5, 0, none⟩) (lV 19 (eD g5 0 1 1 underlying125) (lV 20 (eL ⟨g5, 0 + 1, none⟩ (.int .i64 x4.n) underlying3 (blk_cells (S0_.inv _ _ h14) h15 1 _ rfl)) ?_))))))))
      by_cases q19 : (mget x1 x4.n).isSome = true
      · replace M := ifp q19 M
        obtain ⟨v20, r21, k22⟩ := MapO.look h3 keyI (some_getD q19 (Tm.mk 0 0 [] []))
        obtain ⟨v23, e24, h25⟩ := r21
        obtain rfl := cons1 e24
        obtain ⟨g26, rfl⟩ := node_ptr h25
        refine lV 21 (e_lookv (k := x4.n) k22 keyI underlying83 underlying3 kr kr (.pointer none) kr) (lV 15 (eM (.tuple #[.pointer (some ⟨g26, 0, none⟩), .bool true])) (lV 22 (e_extract (vs := #[.pointer (some ⟨g26, 0, none⟩), .bool true]) (v := .pointer (some ⟨g26, 0, none⟩)) kr rfl) (lV 23 (e_extract (vs := #[.pointer (some ⟨g26, 0, none⟩), .bool true]) (v := .bool true) kr rfl) (lV 7 (eA (.pointer (some ⟨g26, 0, none⟩))) (lV 8 (eA (.bool true)) (wN (tN (wQ (wR (lV 24 (eM (.bool true)) (wN (tN (cond_t rfl kr (wQ (wR (lV 25 (eM (.pointer (some ⟨g26, 0, none⟩))) (lV 26 (eM (.pointer (some ⟨g8, 0, none⟩))) ?_)))))))))))))))))
        obtain ⟨t27, u28, M⟩ := bnd M
        refine lC 27 (eC [.tmp 25, .tmp 26] [.pointer (some ⟨g26, 0, none⟩), .pointer (some ⟨g8, 0, none⟩)] func61) (impl_compare.calls k1_ w H ((mget x1 x4.n).getD (Tm.mk 0 0 [] [])) g26 x7 g8 h25 h9 S0_.own0 t27 u28) ?_
        rintro _ w29 ⟨rfl, C30⟩
        refine ⟨_, rfl, ?_⟩
        obtain ⟨S31, K32⟩ := S0_.still C30
        replace h3 := h3.move (K32.at 0 rfl)
        refine lV 28 (eEq .i64 t27 0) (lV 6 (eA (.bool (decide (t27 = 0)))) (wN (tN (wT (tR (tR ?_))))))
        obtain rfl := sj M
        exact ret1 rfl rfl  (show _ = .bool (decide (t27 = 0)) from kr) ⟨H, rfl, h3, S31⟩
      replace M := ifn q19 M
      refine lV 21 (e_look_f (k := x4.n) h3 keyI underlying83 underlying3 kr kr (is_none q19) (.pointer none) kr) (lV 15 (eM (.tuple #[.pointer none, .bool false])) (lV 22 (e_extract (vs := #[.pointer none, .bool false]) (v := .pointer none) kr rfl) (lV 23 (e_extract (vs := #[.pointer none, .bool false]) (v := .bool false) kr rfl) (lV 7 (eA (.pointer none)) (lV 8 (eA (.bool false)) (wN (tN (wQ (wR (lV 24 (eM (.bool false)) (wN (tN (cond_f rfl kr (wK (tN (wQ (wR (lV 29 (eM (.map (some g2))) (lV 30 (eM (.pointer (some ⟨g5, 0, none⟩))) (lV 31 (eN ⟨g5, 0, none⟩) (lV 32 (eD g5 0 1 1 underlying125) (lV 33 (eL ⟨g5, 0 + 1, none⟩ (.int .i64 x4.n) underlying3 (blk_cells (S0_.inv _ _ h14) h15 1 _ rfl)) (lV 34 (eM (.pointer (some ⟨g8, 0, none⟩))) ?_)))))))))))))))))))))))
      refine lE (e_mapUpdate (k := x4.n) (a := x7) S0_ h3 keyI underlying83 underlying3 kr kr kr ⟨_, rfl, h9⟩) ?_
      rintro w33 ⟨h34, S35, K36⟩
      clear h3
      refine wN (tN (wQ (wR (lV 6 (eA (.bool true)) (wN (tN (wT (tR ?_))))))))
      obtain rfl := sj M
      exact ret1 rfl rfl  (show _ = .bool true from kr) ⟨H, rfl, h34, S35⟩
    replace M := ifn q18 M
    refine cF (bF q18) (wK (tN (wQ (wQ ?_))))
    refine region_still kr kr S0_ ?_
    intro w37 S38 K39
    replace h3 := h3.move (K39.at 0 rfl)
    refine sV 35 (eM (.pointer (some ⟨g5, 0, none⟩))) (sV 36 (eN ⟨g5, 0, none⟩) (sV 37 (eD g5 0 0 1 underlying125) (sV 38 (eL ⟨g5, 0 + 0, none⟩ (.int .i64 x4.kind) underlying3 (blk_cells (S38.inv _ _ h14) h15 0 _ rfl)) (sV 39 (eM (.pointer (some ⟨g8, 0, none⟩))) (sV 40 (eN ⟨g8, 0, none⟩) (sV 41 (eD g8 0 0 1 underlying125) ?_))))))
    obtain ⟨A40, c41, y42, q43, h44, h45, l46, h47⟩ := node_open h9
    refine sV 42 (eL ⟨g8, 0 + 0, none⟩ (.int .i64 x7.kind) underlying3 (blk_cells (S38.inv _ _ h44) h45 0 _ rfl)) (sV 43 (eNe .i64 x4.kind x7.kind) (sV 44 (eM (.bool (decide (x4.kind ≠ x7.kind)))) ?_))
    by_cases q48 : x4.kind ≠ x7.kind
    · replace M := ifp q48 M
      refine sK 44 true (bT q48) ?_
      refine sK 44 true (bT q48) ?_
      refine sK 44 true (bT q48) ?_
      refine sK 44 true (bT q48) ?_
      refine sK 44 true (bT q48) ?_
      refine sK 44 true (bT q48) ?_
      refine sK 44 true (bT q48) ?_
      refine sK 44 true (bT q48) ?_
      refine sK 44 true (bT q48) ?_
      refine sV 54 (eT (.bool true) (bT q48)) (sV 55 (eM (.bool true)) (sK 55 true kr ?_))
      refine sK 55 true kr ?_
      refine sK 55 true kr ?_
      refine sK 55 true kr ?_
      refine sK 55 true kr ?_
      refine sK 55 true kr ?_
      refine sK 55 true kr ?_
      refine sK 55 true kr ?_
      refine sK 55 true kr ?_
      refine sV 65 (eT (.bool true)) (wpStill_nil (tN (cond_t rfl kr (wQ (wR (lV 6 (eA (.bool false)) (wN (tN (wT (tR ?_))))))))))
      obtain rfl := sj M
      exact ret1 rfl rfl  (show _ = .bool false from kr) ⟨H, rfl, h3, S38⟩
    replace M := ifn q48 M
    refine sG 45 44 (bF q48) (eM (.pointer (some ⟨g5, 0, none⟩))) (sG 46 44 (bF q48) (eN ⟨g5, 0, none⟩) (sG 47 44 (bF q48) (eD g5 0 1 1 underlying125) (sG 48 44 (bF q48) (eL ⟨g5, 0 + 1, none⟩ (.int .i64 x4.n) underlying3 (blk_cells (S38.inv _ _ h14) h15 1 _ rfl)) (sG 49 44 (bF q48) (eM (.pointer (some ⟨g8, 0, none⟩))) (sG 50 44 (bF q48) (eN ⟨g8, 0, none⟩) (sG 51 44 (bF q48) (eD g8 0 1 1 underlying125) (sG 52 44 (bF q48) (eL ⟨g8, 0 + 1, none⟩ (.int .i64 x7.n) underlying3 (blk_cells (S38.inv _ _ h44) h45 1 _ rfl)) (sG 53 44 (bF q48) (eNe .i64 x4.n x7.n) (sV 54 (eF (.bool (decide (x4.n ≠ x7.n))) (bF q48)) (sV 55 (eM (.bool (decide (x4.n ≠ x7.n)))) ?_))))))))))
    by_cases q49 : x4.n ≠ x7.n
    · replace M := ifp q49 M
      refine sK 55 true (bT q49) ?_
      refine sK 55 true (bT q49) ?_
      refine sK 55 true (bT q49) ?_
      refine sK 55 true (bT q49) ?_
      refine sK 55 true (bT q49) ?_
      refine sK 55 true (bT q49) ?_
      refine sK 55 true (bT q49) ?_
      refine sK 55 true (bT q49) ?_
      refine sK 55 true (bT q49) ?_
      refine sV 65 (eT (.bool true) (bT q49)) (wpStill_nil (tN (cond_t rfl kr (wQ (wR (lV 6 (eA (.bool false)) (wN (tN (wT (tR ?_))))))))))
      obtain rfl := sj M
      exact ret1 rfl rfl  (show _ = .bool false from kr) ⟨H, rfl, h3, S38⟩
    replace M := ifn q49 M
    refine sG 56 55 (bF q49) (eM (.pointer (some ⟨g5, 0, none⟩))) (sG 57 55 (bF q49) (eN ⟨g5, 0, none⟩) (sG 58 55 (bF q49) (eD g5 0 2 1 underlying125) (sG 59 55 (bF q49) (eL ⟨g5, 0 + 2, none⟩ (str x4.text) underlying9 (blk_cells (S38.inv _ _ h14) h15 2 _ rfl)) (sG 60 55 (bF q49) (eM (.pointer (some ⟨g8, 0, none⟩))) (sG 61 55 (bF q49) (eN ⟨g8, 0, none⟩) (sG 62 55 (bF q49) (eD g8 0 2 1 underlying125) (sG 63 55 (bF q49) (eL ⟨g8, 0 + 2, none⟩ (str x7.text) underlying9 (blk_cells (S38.inv _ _ h44) h45 2 _ rfl)) (sG 64 55 (bF q49) (e_sneq (p := x4.text) (q := x7.text) kr kr) (sV 65 (eF (.bool (decide (x4.text ≠ x7.text))) (bF q49)) (wpStill_nil (tN ?_)))))))))))
    by_cases q50 : x4.text ≠ x7.text
    · replace M := ifp q50 M
      refine cT (bT q50) (wQ (wR (lV 6 (eA (.bool false)) (wN (tN (wT (tR ?_)))))))
      obtain rfl := sj M
      exact ret1 rfl rfl  (show _ = .bool false from kr) ⟨H, rfl, h3, S38⟩
    replace M := ifn q50 M
    refine cF (bF q50) (wK (tN (wQ (wQ (wR (lV 66 (eM (.pointer (some ⟨g5, 0, none⟩))) (lV 67 (eN ⟨g5, 0, none⟩) (lV 68 (eD g5 0 3 1 underlying125) (lV 69 (eL ⟨g5, 0 + 3, none⟩ (.slice A10 x4.args.length c11) underlying87 (blk_cells (S38.inv _ _ h14) h15 3 _ rfl)) (lV 70 (e_len (A := A10) (n := x4.args.length) (c := c11) underlying87 kr) (lV 71 (eM (.int .i64 0)) (wN (tN (wp_block ?_))))))))))))))
    refine wp_loop_g (fun k65 a66 w51 => ∃ (f52 : Nat → Value) (H53 : Hp) (x55 : Int) (x56 : List (Int × Tm)), k65 < K ∧ a66 = mk 92 f52 ∧ f52 0 = .map (some g2) ∧ f52 1 = .pointer (some ⟨g5, 0, none⟩) ∧ f52 2 = .pointer (some ⟨g8, 0, none⟩) ∧ f52 70 = .int .i64 (x4.args.length : Int) ∧ f52 71 = .int .i64 x55 ∧ MapO encI (node 125) H53 (hp w51) g2 x56 ∧ Ext H H53 ∧ St (anyOf [(is g2)]) H w [(is g2)] H53 w51 ∧ impl_matches.l0 k65 x4 x7 x55 x56 = some r) k1_ ⟨_, H, 0, x1, (by omega), rfl, kr, kr, kr, kr, kr, h3, (Ext.refl _), S38, M⟩ ?_
    clear M
    rintro k65 a66 w51 ⟨f52, H53, x55, x56, z63, rfl, e57, e58, e59, e60, e61, h3, Y54, S62, M⟩
    rcases k65 with _ | k67
    · rw [impl_matches.l0] at M
      cases M
    rw [impl_matches.l0] at M
    refine wQ (wR (lV 72 (eLt .i64 x55 (x4.args.length : Int) (by exact e61) (by exact e60)) (wN (tN (wQ ?_)))))
    by_cases q68 : x55 < (x4.args.length : Int)
    · replace M := ifp q68 M
      refine cT (bT q68) (wK (tN (wQ (wp_block (wQ (wR (lV 73 (eM (.int .i64 x55) (by exact e61)) (lV 9 (eA (.int .i64 x55)) (wN (tN (wQ ?_)))))))))))
      refine region_mix (S := (fun (L_ : Array Bool) (w_ : World) => Ext H53 (hp w_) ∧ True)) kr S62 ?_
      intro w69 S70 K71 hc72
      have hs73 : (fun (L_ : Array Bool) (w_ : World) => Ext H53 (hp w_) ∧ True) (Array.replicate 17 false) w69 := ⟨S70.inv, trivial⟩
      replace h3 := h3.move (K71.at 0 rfl)
      refine xV 0 74 rfl hc72 hs73 (fun L_ w_ hc_ hu_ hs_ => eM (.map (some g2)) (by exact e57)) ?_; intro hc74 hs75
      refine xV 1 75 rfl hc74 hs75 (fun L_ w_ hc_ hu_ hs_ => eM (.pointer (some ⟨g5, 0, none⟩)) (by exact e58)) ?_; intro hc76 hs77
      refine xV 2 76 rfl hc76 hs77 (fun L_ w_ hc_ hu_ hs_ => eN ⟨g5, 0, none⟩) ?_; intro hc78 hs79
      refine xV 3 77 rfl hc78 hs79 (fun L_ w_ hc_ hu_ hs_ => eD g5 0 3 1 underlying125) ?_; intro hc80 hs81
      refine xV 4 78 rfl hc80 hs81 (fun L_ w_ hc_ hu_ hs_ => eL ⟨g5, 0 + 3, none⟩ (.slice A10 x4.args.length c11) underlying87 (blk_cells (hs_.1 _ _ (Y54 _ _ h14)) h15 3 _ rfl)) ?_; intro hc82 hs83
      refine xV 5 79 rfl hc82 hs83 (fun L_ w_ hc_ hu_ hs_ => eM (.int .i64 x55)) ?_; intro hc84 hs85
      obtain ⟨q86, M⟩ := chk M
      obtain ⟨b87, o88, e89⟩ := Rd.addr h17 (show (x55).toNat < x4.args.length by omega)
      obtain ⟨y90, r91, k92⟩ := Rd.at h17 e89 (getD_some (Tm.mk 0 0 [] []) (show (x55).toNat < x4.args.length by omega))
      obtain ⟨v93, rfl, h94⟩ := r91
      obtain ⟨g95, rfl⟩ := node_ptr h94
      refine xV 6 80 rfl hc84 hs85 (fun L_ w_ hc_ hu_ hs_ => eI b87 o88 x4.args.length c11 1 x55 .i64 underlying87 e89 q86 q68) ?_; intro hc96 hs97
      refine xV 7 81 rfl hc96 hs97 (fun L_ w_ hc_ hu_ hs_ => eL ⟨b87, o88 + (x55 : Int).toNat * 1, none⟩ (.pointer (some ⟨g95, 0, none⟩)) underlying74 (hpx (hs_.1.cell (Y54.cell (k92 0 _ rfl))))) ?_; intro hc98 hs99
      refine xV 8 82 rfl hc98 hs99 (fun L_ w_ hc_ hu_ hs_ => eM (.pointer (some ⟨g8, 0, none⟩)) (by exact e59)) ?_; intro hc100 hs101
      refine xV 9 83 rfl hc100 hs101 (fun L_ w_ hc_ hu_ hs_ => eN ⟨g8, 0, none⟩) ?_; intro hc102 hs103
      refine xV 10 84 rfl hc102 hs103 (fun L_ w_ hc_ hu_ hs_ => eD g8 0 3 1 underlying125) ?_; intro hc104 hs105
      refine xV 11 85 rfl hc104 hs105 (fun L_ w_ hc_ hu_ hs_ => eL ⟨g8, 0 + 3, none⟩ (.slice A40 x7.args.length c41) underlying87 (blk_cells (hs_.1 _ _ (Y54 _ _ h44)) h45 3 _ rfl)) ?_; intro hc106 hs107
      refine xO 12 hc106 ?_
      refine yO 12 86 rfl hs107 (eM (.int .i64 x55)) ?_; intro hc108 hs109
      obtain ⟨q110, M⟩ := chk M
      obtain ⟨b111, o112, e113⟩ := Rd.addr h47 (show (x55).toNat < x7.args.length by omega)
      obtain ⟨y114, r115, k116⟩ := Rd.at h47 e113 (getD_some (Tm.mk 0 0 [] []) (show (x55).toNat < x7.args.length by omega))
      obtain ⟨v117, rfl, h118⟩ := r115
      obtain ⟨g119, rfl⟩ := node_ptr h118
      refine xO 13 hc108 ?_
      refine yO 13 87 rfl hs109 (eI b111 o112 x7.args.length c41 1 x55 .i64 underlying87 e113 q86 q110) ?_; intro hc120 hs121
      refine xO 14 hc120 ?_
      refine yO 14 88 rfl hs121 (eL ⟨b111, o112 + (x55 : Int).toNat * 1, none⟩ (.pointer (some ⟨g119, 0, none⟩)) underlying74 (hpx (S70.inv.cell (Y54.cell (k116 0 _ rfl))))) ?_; intro hc122 hs123
      obtain ⟨t124, u125, M⟩ := bnd M
      refine xO 15 hc122 ?_
      refine yC 15 rfl (eC [.tmp 74, .tmp 81, .tmp 88] [.map (some g2), .pointer (some ⟨g95, 0, none⟩), .pointer (some ⟨g119, 0, none⟩)] func72) (ih k67 (by omega) w69 H53 x56 g2 (x4.args.getD ((x55).toNat) (Tm.mk 0 0 [] [])) g95 (x7.args.getD ((x55).toNat) (Tm.mk 0 0 [] [])) g119 h3 (h94.ext' Y54) (h118.ext' Y54) (St.own' (Fa := [(is g2)]) (Fr := []) S70) t124 u125) ?_
      rintro hc130 _ w126 ⟨H127, rfl, h129, T128⟩
      refine ⟨_, rfl, ?_⟩
      obtain ⟨S131, K132⟩ := St.call (Fa := [(is g2)]) (Fr := []) S70 T128
      have E133 := T128.ext
      refine ⟨⟨(Ext.trans E133 S131.inv), trivial⟩, fun hs134 => ?_⟩
      refine xO 16 hc130 ?_
      refine yO 16 90 rfl hs134 (e_notv (c := t124.1) kr) ?_; intro hc135 hs136
      refine xn kr ?_ _
      refine tN ?_
      by_cases q137 : ¬ (t124.1 = true)
      · replace M := ifp q137 M
        refine cT (bT q137) (wQ (wR (lV 6 (eA (.bool false)) (wN (tN (wT (inb_r (tR (tR (inb_r (tR ?_)))))))))))
        obtain rfl := sj M
        exact ret1 rfl rfl  (show _ = .bool false from kr) ⟨H127, rfl, h129, S131⟩
      replace M := ifn q137 M
      refine cF (bF q137) (wK (inb_n (tN (wR (lV 91 (eAdd .i64 x55 1 (by exact e61)) (lV 71 (eM (.int .i64 (i64.wrap (x55 + 1)))) (wN (tN ?_))))))))
      exact ⟨k67, (by omega), _, H127, (i64.wrap (x55 + 1)), t124.2, (by omega), rfl, (by exact e57), (by exact e58), (by exact e59), (by exact e60), kr, h129, (Y54.trans E133), S131, M⟩
    replace M := ifn q68 M
    refine cF (bF q68) (wp_exit (tE (tE (inb_hit (tN (wQ (wR (lV 6 (eA (.bool true)) (wN (tN (wT ?_)))))))))))
    obtain rfl := sj M
    exact ret1 rfl rfl  (show _ = .bool true from kr) ⟨H53, rfl, h3, S62⟩
theorem impl_matches.calls (k : Nat) (w : World) (H : Hp) (x1 : List (Int × Tm)) (g2 : Nat) (x4 : Tm) (g5 : Nat) (x7 : Tm) (g8 : Nat) (h3 : MapO encI (node 125) H (hp w) g2 x1) (h6 : NodeR 125 H x4 (.pointer (some ⟨g5, 0, none⟩))) (h9 : NodeR 125 H x7 (.pointer (some ⟨g8, 0, none⟩))) (S : Own [(is g2)] H w) (r : Bool × (List (Int × Tm))) (M : impl_matches.f k x1 x4 x7 = some r) :
    Calls Try.prog 72 #[.map (some g2), .pointer (some ⟨g5, 0, none⟩), .pointer (some ⟨g8, 0, none⟩)] w (fun e e_w => ∃ (H_ : Hp), e = .returned (.bool r.1) ∧ MapO encI (node 125) H_ (hp e_w) g2 r.2 ∧ St (anyOf [(is g2)]) H w [(is g2)] H_ e_w) := (impl_matches.all (k + 1)) k (Nat.lt_succ_self k) w H x1 g2 x4 g5 x7 g8 h3 h6 h9 S r M

/-! impl_Subsumes -/
def impl_Subsumes.f (k : Nat) (x1 : List Cell) (x6 : List Cell) : Option Bool := ((impl_ValidTerm.f k x1).bind fun t11 => (if t11 = true then ((impl_ValidTerm.f k x6).bind fun t18 => (if t18 = true then ((impl_tree.f k x1).bind fun t30 => ((impl_tree.f k x6).bind fun t40 => ((impl_matches.f k [] t30 t40).bind fun t50 => some t50.1))) else some false)) else some false))
theorem impl_Subsumes.calls (k : Nat) (w : World) (H : Hp) (x1 : List Cell) (A2 : Option Addr) (c3 : Nat) (x6 : List Cell) (A7 : Option Addr) (c8 : Nat) (h4 : Rd st65 H A2 x1) (l5 : x1.length ≤ c3) (h9 : Rd st65 H A7 x6) (l10 : x6.length ≤ c8) (S : Own [] H w) (r : Bool) (M : impl_Subsumes.f k x1 x6 = some r) :
    Calls Try.prog 31 #[.slice A2 x1.length c3, .slice A7 x6.length c8] w (fun e e_w => e = .returned (.bool r) ∧ Chg no w e_w) := by
  rw [impl_Subsumes.f] at M
  refine enter (l := [.slice A2 x1.length c3, .slice A7 x6.length c8]) 19 func31 rfl rfl rfl ?_
  have S0_ := S.st
  refine wQ (wR (lV 4 (eA (.bool false)) (wN (tN (wQ (wR (lV 5 (eM (.slice A2 x1.length c3)) ?_)))))))
  obtain ⟨t11, u12, M⟩ := bnd M
  refine lC 6 (eC [.tmp 5] [.slice A2 x1.length c3] func17) (impl_ValidTerm.calls k w H x1 A2 c3 h4 l5 S0_.own0 t11 u12) ?_
  rintro _ w13 ⟨rfl, C14⟩
  refine ⟨_, rfl, ?_⟩
  obtain ⟨S15, K16⟩ := S0_.still C14
  refine lV 7 (eM (.bool t11)) ?_
  by_cases q17 : t11 = true
  · replace M := ifp q17 M
    refine lG 8 7 (bvt q17 kr) (eM (.slice A7 x6.length c8)) ?_
    obtain ⟨t18, u19, M⟩ := bnd M
    refine lcallg (d := 9) (t := 7) rfl kr rfl (bvt q17 kr) rfl kr (eC [.tmp 8] [.slice A7 x6.length c8] func17) (impl_ValidTerm.calls k w13 H x6 A7 c8 h9 l10 S15.own0 t18 u19) ?_
    rintro _ w20 ⟨rfl, C21⟩
    refine ⟨_, rfl, ?_⟩
    obtain ⟨S22, K23⟩ := S15.still C21
    refine lV 10 (eT (.bool t18) (bvt q17 kr)) (lV 11 (eM (.bool t18)) ?_)
    by_cases q24 : t18 = true
    · replace M := ifp q24 M
      refine lveg (d := 12) (wanted_t (d := 11) rfl rfl kr (bvt q24 kr)) rfl kr (e_makeMap S22 encI (node 125)) ?_
      rintro _ w25 ⟨g26, rfl, h27, S28, K29⟩
      refine lG 13 11 (bvt q24 kr) (eM (.slice A2 x1.length c3)) ?_
      obtain ⟨t30, u31, M⟩ := bnd M
      refine lcall_w (wanted_t (d := 11) rfl rfl kr (bvt q24 kr)) kr (eC [.tmp 13] [.slice A2 x1.length c3] func62) (impl_tree.calls k w25 H x1 A2 c3 h4 l5 (St.own' (Fa := []) (Fr := [(is g26)]) S28) t30 u31) ?_
      rintro _ w32 ⟨g35, H33, rfl, h36, T34⟩
      refine ⟨_, rfl, ?_⟩
      obtain ⟨S37, K38⟩ := St.call (Fa := []) (Fr := [(is g26)]) S28 T34
      replace h27 := h27.move (K38.at 0 rfl)
      have E39 := T34.ext
      replace h27 := h27.ext E39
      refine lG 15 11 (bvt q24 kr) (eM (.slice A7 x6.length c8)) ?_
      obtain ⟨t40, u41, M⟩ := bnd M
      refine lcall_w (wanted_t (d := 11) rfl rfl kr (bvt q24 kr)) kr (eC [.tmp 15] [.slice A7 x6.length c8] func62) (impl_tree.calls k w32 H33 x6 A7 c8 (h9.ext E39) l10 (St.own' (Fa := []) (Fr := [(is g26)]) S37) t40 u41) ?_
      rintro _ w42 ⟨g45, H43, rfl, h46, T44⟩
      refine ⟨_, rfl, ?_⟩
      obtain ⟨S47, K48⟩ := St.call (Fa := []) (Fr := [(is g26)]) S37 T44
      replace h27 := h27.move (K48.at 0 rfl)
      have E49 := T44.ext
      replace h27 := h27.ext E49
      obtain ⟨t50, u51, M⟩ := bnd M
      refine lcall_w (wanted_t (d := 11) rfl rfl kr (bvt q24 kr)) kr (eC [.tmp 12, .tmp 14, .tmp 16] [.map (some g26), .pointer (some ⟨g35, 0, none⟩), .pointer (some ⟨g45, 0, none⟩)] func72) (impl_matches.calls k w42 H43 [] g26 t30 g35 t40 g45 h27 (h36.ext' E49) h46 (St.own' (Fa := [(is g26)]) (Fr := []) S47) t50 u51) ?_
      rintro _ w52 ⟨H53, rfl, h55, T54⟩
      refine ⟨_, rfl, ?_⟩
      obtain ⟨S56, K57⟩ := St.call (Fa := [(is g26)]) (Fr := []) S47 T54
      have E58 := T54.ext
      refine lV 18 (eT (.bool t50.1) (bvt q24 kr)) (lV 4 (eA (.bool t50.1)) (wN (tN (wT ?_))))
      obtain rfl := sj M
      exact ret1 rfl rfl  (show _ = .bool t50.1 from kr) ⟨rfl, S56.chg⟩
    replace M := ifn q24 M
    refine lK 11 false (bvf q24 kr) ?_
    refine lK 11 false (bvf q24 kr) ?_
    refine lK 11 false (bvf q24 kr) ?_
    refine lK 11 false (bvf q24 kr) ?_
    refine lK 11 false (bvf q24 kr) ?_
    refine lK 11 false (bvf q24 kr) ?_
    refine lV 18 (eF (.bool false) (bvf q24 kr)) (lV 4 (eA (.bool false)) (wN (tN (wT ?_))))
    obtain rfl := sj M
    exact ret1 rfl rfl  (show _ = .bool false from kr) ⟨rfl, S22.chg⟩
  replace M := ifn q17 M
  refine lK 7 false (bvf q17 kr) ?_
  refine lK 7 false (bvf q17 kr) ?_
  refine lV 10 (eF (.bool false) (bvf q17 kr)) (lV 11 (eM (.bool false)) (lJ 11 false ?_))
  refine lJ 11 false ?_
  refine lJ 11 false ?_
  refine lJ 11 false ?_
  refine lJ 11 false ?_
  refine lJ 11 false ?_
  refine lV 18 (eF (.bool false)) (lV 4 (eA (.bool false)) (wN (tN (wT ?_))))
  obtain rfl := sj M
  exact ret1 rfl rfl  (show _ = .bool false from kr) ⟨rfl, S15.chg⟩

/-! spec_DrawSubsumes -/
def spec_DrawSubsumes.f (k : Nat) (x1 : List UInt8) : Option ((List Cell) × (List Cell)) := ((spec_l4open.f x1).bind fun t6 => ((spec_l4rd_next_2.f t6).bind fun t20 => ((spec_l4any.f k t20.2).bind fun t33 => ((spec_ValidTerm.f k t33.1).bind fun t50 => (if ¬ (t50 = true) then some (t33.1, t33.1) else ((spec_l13alike.f k t33.1 t33.2).bind fun t79 => (if (Int.tmod t20.1 4) = 0 then some (t33.1, t79.1) else some (t79.1, t33.1))))))))
theorem spec_DrawSubsumes.calls (k : Nat) (w : World) (H : Hp) (x1 : List UInt8) (A2 : Option Addr) (c3 : Nat) (h4 : Rd tByte H A2 x1) (l5 : x1.length ≤ c3) (S : Own [] H w) (r : (List Cell) × (List Cell)) (M : spec_DrawSubsumes.f k x1 = some r) :
    Calls Try.prog 54 #[.slice A2 x1.length c3] w (fun e e_w => ∃ (A_1 : Option Addr) (c_1 : Nat) (A_2 : Option Addr) (c_2 : Nat) (H_ : Hp), e = .returned (.tuple #[.slice A_1 r.1.length c_1, .slice A_2 r.2.length c_2]) ∧ Rd st65 H_ A_1 r.1 ∧ r.1.length ≤ c_1 ∧ Rd st65 H_ A_2 r.2 ∧ r.2.length ≤ c_2 ∧ St (anyOf []) H w [] H_ e_w) := by
  rw [spec_DrawSubsumes.f] at M
  refine enter (l := [.slice A2 x1.length c3]) 29 func54 rfl rfl rfl ?_
  have S0_ := S.st
  refine wQ (wR (lV 2 (eA (.slice none 0 0)) (lV 3 (eA (.slice none 0 0)) (wN (tN (wQ (wR (lV 8 (eM (.slice A2 x1.length c3)) ?_))))))))
  obtain ⟨t6, u7, M⟩ := bnd M
  refine lC 9 (eC [.tmp 8] [.slice A2 x1.length c3] func95) (spec_l4open.calls w H x1 A2 c3 h4 l5 (St.own' (Fa := []) (Fr := []) S0_) t6 u7) ?_
  rintro _ w8 ⟨g11, A13, c14, H9, rfl, h15, l16, b12, T10⟩
  refine ⟨_, rfl, ?_⟩
  obtain ⟨S17, K18⟩ := St.call (Fa := []) (Fr := []) S0_ T10
  have E19 := T10.ext
  refine lV 4 (eA (.pointer (some ⟨g11, 0, none⟩))) (wN (tN (wQ (wR (lV 10 (eM (.pointer (some ⟨g11, 0, none⟩))) ?_)))))
  obtain ⟨t20, u21, M⟩ := bnd M
  refine lC 11 (eC [.tmp 10] [.pointer (some ⟨g11, 0, none⟩)] func96) (spec_l4rd_next_2.calls w8 H9 t6 g11 A13 c14 h15 l16 b12 (St.own' (Fa := [(is g11)]) (Fr := []) S17) t20 u21) ?_
  rintro _ w22 ⟨A25, c26, H23, rfl, h27, l28, b29, T24⟩
  refine ⟨_, rfl, ?_⟩
  obtain ⟨S30, K31⟩ := St.call (Fa := [(is g11)]) (Fr := []) S17 T24
  have E32 := T24.ext
  refine lV 5 (eA (.int .i64 t20.1)) (wN (tN (wQ (wR (lV 12 (eM (.pointer (some ⟨g11, 0, none⟩))) ?_)))))
  obtain ⟨t33, u34, M⟩ := bnd M
  refine lC 13 (eC [.tmp 12] [.pointer (some ⟨g11, 0, none⟩)] func97) (spec_l4any.calls k w22 H23 t20.2 g11 A25 c26 h27 l28 b29 (St.own' (Fa := [(is g11)]) (Fr := []) S30) t33 u34) ?_
  rintro _ w35 ⟨A38, c39, A43, c44, F46, H36, rfl, h40, l41, b42, h45, T37⟩
  refine ⟨_, rfl, ?_⟩
  obtain ⟨S47, K48⟩ := St.call (Fa := [(is g11)]) (Fr := []) S30 T37
  have E49 := T37.ext
  refine lV 6 (eA (.slice A43 t33.1.length c44)) (wN (tN (wQ (wQ (wR (lV 14 (eM (.slice A43 t33.1.length c44)) ?_))))))
  obtain ⟨t50, u51, M⟩ := bnd M
  refine lC 15 (eC [.tmp 14] [.slice A43 t33.1.length c44] func15) (by have l52 := h45.le; have S53 := S47.pull (F := F46) (Fr := [(is g11)]) 1 rfl rfl; obtain ⟨H54, S55, E56, h57, z58⟩ := S53.frzRow h45; replace h57 := h57.unro; exact (spec_ValidTerm.calls k w35 H54 t33.1 A43 c44 h57 l52 S55.own0 t50 u51)) ?_
  rintro _ w59 ⟨rfl, C60⟩
  refine ⟨_, rfl, ?_⟩
  obtain ⟨S61, K62⟩ := S47.still C60
  replace b42 := K62.blk 0 rfl b42
  replace h45 := h45.move (K62.at 1 rfl)
  refine lV 16 (e_notv (c := t50) kr) (wN (tN ?_))
  by_cases q63 : ¬ (t50 = true)
  · replace M := ifp q63 M
    refine cT (bT q63) (wQ (wR (lV 17 (eM (.slice A43 t33.1.length c44)) (lV 18 (eM (.slice A43 t33.1.length c44)) (lV 2 (eA (.slice A43 t33.1.length c44)) (lV 3 (eA (.slice A43 t33.1.length c44)) (wN (tN (wT (tR ?_))))))))))
    have l64 := h45.le
    have S65 := S61.pulls [F46, (is g11)] [1] rfl
    obtain ⟨H66, S67, E68, h69, z70⟩ := S65.frzRow h45
    replace h69 := h69.unro
    obtain rfl := sj M
    have S71 := St.first (Fa := []) (Fr := [(is g11)]) S67
    exact ret2 rfl rfl rfl (show _ = .slice A43 t33.1.length c44 from kr) (show _ = .slice A43 t33.1.length c44 from kr) ⟨A43, c44, A43, c44, H66, rfl, h69, l64, h69, l64, S71⟩
  replace M := ifn q63 M
  refine cF (bF q63) (wK (tN (wQ (wR (lV 19 (eM (.slice A43 t33.1.length c44)) (lV 20 (eM (.pointer (some ⟨g11, 0, none⟩))) ?_))))))
  have S72 := S61.pulls [F46, (is g11)] [1] rfl
  have l73 := h45.le
  obtain ⟨H74, S75, E76, h77, z78⟩ := S72.frzRow h45
  replace h77 := h77.unro
  obtain ⟨t79, u80, M⟩ := bnd M
  refine lC 21 (eC [.tmp 19, .tmp 20] [.slice A43 t33.1.length c44, .pointer (some ⟨g11, 0, none⟩)] func100) (spec_l13alike.calls k w59 H74 t33.1 A43 c44 t33.2 g11 A38 c39 h77 l73 (h40.ext E76) l41 b42 (St.own' (Fa := [(is g11)]) (Fr := []) S75) t79 u80) ?_
  rintro _ w81 ⟨A84, c85, A89, c90, F92, H82, rfl, h86, l87, b88, h91, T83⟩
  refine ⟨_, rfl, ?_⟩
  obtain ⟨S93, K94⟩ := St.call (Fa := [(is g11)]) (Fr := []) S75 T83
  obtain ⟨H95, S96, E97, v98⟩ := St.thaw2 S72 z78 S93 T83.ext E76
  replace h45 := h45.move v98
  replace h45 := h45.ext E97
  replace h91 := Row.free (H' := H95) (free_iso (free_pair (free_scal _ _) (free_pair (free_scal _ _) (free_slice (free_scal _ _))))) h91
  refine lV 7 (eA (.slice A89 t79.1.length c90)) (wN (tN (wQ (wQ (wR (lV 22 (eM (.int .i64 t20.1)) (lV 23 (e_rem (k := .i64) (a := t20.1) (b := 4) kr rfl (by decide)) (lV 24 (eEq .i64 (Int.tmod t20.1 4) 0) (wN (tN ?_))))))))))
  by_cases q99 : (Int.tmod t20.1 4) = 0
  · replace M := ifp q99 M
    refine cT (bT q99) (wQ (wR (lV 25 (eM (.slice A43 t33.1.length c44)) (lV 26 (eM (.slice A89 t79.1.length c90)) (lV 2 (eA (.slice A43 t33.1.length c44)) (lV 3 (eA (.slice A89 t79.1.length c90)) (wN (tN (wT (tR ?_))))))))))
    have l100 := h45.le
    obtain ⟨H101, S102, E103, h104, z105⟩ := S96.frzRow h45
    replace h91 := h91.ext E103
    replace h104 := h104.unro
    have l106 := h91.le
    have S107 := S102.pulls [F92, (is g11)] [1] rfl
    obtain ⟨H108, S109, E110, h111, z112⟩ := S107.frzRow h91
    obtain rfl := sj M
    have S113 := St.first (Fa := []) (Fr := [(is g11)]) S109
    exact ret2 rfl rfl rfl (show _ = .slice A43 t33.1.length c44 from kr) (show _ = .slice A89 t79.1.length c90 from kr) ⟨A43, c44, A89, c90, H108, rfl, (h104.ext E110), l100, h111, l106, S113⟩
  replace M := ifn q99 M
  refine cF (bF q99) (wK (tN (wQ (wR (lV 27 (eM (.slice A89 t79.1.length c90)) (lV 28 (eM (.slice A43 t33.1.length c44)) (lV 2 (eA (.slice A89 t79.1.length c90)) (lV 3 (eA (.slice A43 t33.1.length c44)) (wN (tN (wT ?_)))))))))))
  have l114 := h91.le
  have S115 := S96.pulls [F92, F46, (is g11)] [2] rfl
  obtain ⟨H116, S117, E118, h119, z120⟩ := S115.frzRow h91
  replace h45 := h45.ext E118
  have l121 := h45.le
  obtain ⟨H122, S123, E124, h125, z126⟩ := S117.frzRow h45
  replace h125 := h125.unro
  obtain rfl := sj M
  have S127 := St.first (Fa := []) (Fr := [(is g11)]) S123
  exact ret2 rfl rfl rfl (show _ = .slice A89 t79.1.length c90 from kr) (show _ = .slice A43 t33.1.length c44 from kr) ⟨A89, c90, A43, c44, H122, rfl, (h119.ext E124), l114, h125, l121, S127⟩

/-! spec_l2find -/
def spec_l2find.l0 : Nat → (List Int) → Int → Int → Option Int
  | 0, _, _, _ => none
  | k18 + 1, x1, x6, x9 => (if x9 < (x1.length : Int) then (if 0 ≤ x9 then (if (x1.getD ((x9).toNat) (0 : Int)) = x6 then some x9 else (spec_l2find.l0 k18 x1 x6 (i64.wrap (x9 + 1)))) else none) else some (-1))
def spec_l2find.f (k : Nat) (x1 : List Int) (x6 : Int) : Option Int := (spec_l2find.l0 k x1 x6 0)
theorem spec_l2find.calls (k : Nat) (w : World) (H : Hp) (x1 : List Int) (A2 : Option Addr) (c3 : Nat) (x6 : Int) (h4 : Rd tInt H A2 x1) (l5 : x1.length ≤ c3) (S : Own [] H w) (r : Int) (M : spec_l2find.f k x1 x6 = some r) :
    Calls Try.prog 71 #[.slice A2 x1.length c3, .int .i64 x6] w (fun e e_w => e = .returned (.int .i64 r) ∧ Chg no w e_w) := by
  rw [spec_l2find.f] at M
  refine enter (l := [.slice A2 x1.length c3, .int .i64 x6]) 19 func71 rfl rfl rfl ?_
  have S0_ := S.st
  refine wQ (wR (lV 4 (eA (.int .i64 0)) (wN (tN (wQ (wQ (wR (lV 5 (eA (.int .i64 0)) (wN (tN (wp_block ?_)))))))))))
  refine wp_loop_g (fun k16 a17 w7 => ∃ (f8 : Nat → Value) (x9 : Int), a17 = mk 19 f8 ∧ f8 0 = .slice A2 x1.length c3 ∧ f8 1 = .int .i64 x6 ∧ f8 5 = .int .i64 x9 ∧ St (anyOf []) H w [] H w7 ∧ spec_l2find.l0 k16 x1 x6 x9 = some r) k ⟨_, 0, rfl, kr, kr, kr, S0_, M⟩ ?_
  clear M
  rintro k16 a17 w7 ⟨f8, x9, rfl, e10, e11, e12, S13, M⟩
  rcases k16 with _ | k18
  · rw [spec_l2find.l0] at M
    cases M
  rw [spec_l2find.l0] at M
  refine wQ (wQ (wR (lV 6 (eM (.int .i64 x9) (by exact e12)) (lV 7 (eM (.slice A2 x1.length c3) (by exact e10)) (lV 8 (e_len (A := A2) (n := x1.length) (c := c3) underlying32 kr) (lV 9 (eLt .i64 x9 (x1.length : Int)) (wN (tN ?_))))))))
  by_cases q19 : x9 < (x1.length : Int)
  · replace M := ifp q19 M
    refine cT (bT q19) (wK (tN (wQ (wp_block (wQ (wR (lV 12 (eM (.slice A2 x1.length c3) (by exact e10)) (lV 13 (eM (.int .i64 x9) (by exact e12)) ?_))))))))
    obtain ⟨q20, M⟩ := chk M
    obtain ⟨b21, o22, e23⟩ := Rd.addr h4 (show (x9).toNat < x1.length by omega)
    obtain ⟨y24, r25, k26⟩ := Rd.at h4 e23 (getD_some (0 : Int) (show (x9).toNat < x1.length by omega))
    obtain rfl := r25
    refine lV 14 (eI b21 o22 x1.length c3 1 x9 .i64 underlying32 e23 q20 q19) (lV 15 (eL ⟨b21, o22 + (x9 : Int).toNat * 1, none⟩ (.int .i64 (x1.getD ((x9).toNat) (0 : Int))) underlying3 (hpx (S13.inv.cell (k26 0 _ rfl)))) (lV 16 (eM (.int .i64 x6) (by exact e11)) (lV 17 (eEq .i64 (x1.getD ((x9).toNat) (0 : Int)) x6) (wN (tN ?_)))))
    by_cases q27 : (x1.getD ((x9).toNat) (0 : Int)) = x6
    · replace M := ifp q27 M
      refine cT (bT q27) (wQ (wR (lV 18 (eM (.int .i64 x9) (by exact e12)) (lV 4 (eA (.int .i64 x9)) (wN (tN (wT ?_)))))))
      refine inb_r (tR (tR (inb_r (tR ?_))))
      obtain rfl := sj M
      exact ret1 rfl rfl  (show _ = .int .i64 x9 from kr) ⟨rfl, S13.chg⟩
    replace M := ifn q27 M
    refine cF (bF q27) (wK (inb_n (tN (wR (lV 10 (eM (.int .i64 x9) (by exact e12)) (lV 11 (eAdd .i64 x9 1) (lV 5 (eA (.int .i64 (i64.wrap (x9 + 1)))) (wN (tN ?_)))))))))
    exact ⟨k18, (by omega), _, (i64.wrap (x9 + 1)), rfl, (by exact e10), (by exact e11), kr, S13, M⟩
  replace M := ifn q19 M
  refine cF (bF q19) (wp_exit (tE (tE (inb_hit (tN (wQ (wR (lV 4 (eA (.int .i64 (-1))) (wN (tN (wT ?_)))))))))))
  obtain rfl := sj M
  exact ret1 rfl rfl  (show _ = .int .i64 (-1) from kr) ⟨rfl, S13.chg⟩

/-! spec_l2sign -/
def spec_l2sign.f (x1 : Bool) : Option Int := (if x1 = true then some (-1) else some 1)
theorem spec_l2sign.calls (w : World) (H : Hp) (x1 : Bool) (S : Own [] H w) (r : Int) (M : spec_l2sign.f x1 = some r) :
    Calls Try.prog 105 #[.bool x1] w (fun e e_w => e = .returned (.int .i64 r) ∧ Chg no w e_w) := by
  rw [spec_l2sign.f] at M
  refine enter (l := [.bool x1]) 4 func105 rfl rfl rfl ?_
  have S0_ := S.st
  refine wQ (wR (lV 2 (eA (.int .i64 0)) (wN (tN (wQ (wQ (wR (lV 3 (eM (.bool x1)) (wN (tN ?_))))))))))
  by_cases q2 : x1 = true
  · replace M := ifp q2 M
    refine cT (bvt q2 kr) (wQ (wR (lV 2 (eA (.int .i64 (-1))) (wN (tN (wT (tR ?_)))))))
    obtain rfl := sj M
    exact ret1 rfl rfl  (show _ = .int .i64 (-1) from kr) ⟨rfl, S0_.chg⟩
  replace M := ifn q2 M
  refine cF (bvf q2 kr) (wK (tN (wQ (wR (lV 2 (eA (.int .i64 1)) (wN (tN (wT ?_))))))))
  obtain rfl := sj M
  exact ret1 rfl rfl  (show _ = .int .i64 1 from kr) ⟨rfl, S0_.chg⟩

/-! spec_l2compare -/
def spec_l2compare.l0 : Nat → (List Cell) → (List Cell) → Int → Option Int
  | 0, _, _, _ => none
  | k22 + 1, x1, x6, x13 => (if x13 < (x1.length : Int) then (if x13 < (x6.length : Int) then (if 0 ≤ x13 then (if ((x1.getD ((x13).toNat) z65).kind) ≠ ((x6.getD ((x13).toNat) z65).kind) then ((spec_l2sign.f (decide (((x1.getD ((x13).toNat) z65).kind) < ((x6.getD ((x13).toNat) z65).kind)))).bind fun t65 => some t65) else (if ((x1.getD ((x13).toNat) z65).n) ≠ ((x6.getD ((x13).toNat) z65).n) then ((spec_l2sign.f (decide (((x1.getD ((x13).toNat) z65).n) < ((x6.getD ((x13).toNat) z65).n)))).bind fun t72 => some t72) else (if (x1.getD ((x13).toNat) z65).text ≠ (x6.getD ((x13).toNat) z65).text then ((spec_l2sign.f (Op.bytesLess ((x1.getD ((x13).toNat) z65).text) ((x6.getD ((x13).toNat) z65).text))).bind fun t79 => some t79) else (spec_l2compare.l0 k22 x1 x6 (i64.wrap (x13 + 1)))))) else none) else some 0) else some 0)
def spec_l2compare.f (k : Nat) (x1 : List Cell) (x6 : List Cell) : Option Int := (spec_l2compare.l0 k x1 x6 0)
theorem spec_l2compare.calls (k : Nat) (w : World) (H : Hp) (x1 : List Cell) (A2 : Option Addr) (c3 : Nat) (x6 : List Cell) (A7 : Option Addr) (c8 : Nat) (h4 : Rd st65 H A2 x1) (l5 : x1.length ≤ c3) (h9 : Rd st65 H A7 x6) (l10 : x6.length ≤ c8) (S : Own [] H w) (r : Int) (M : spec_l2compare.f k x1 x6 = some r) :
    Calls Try.prog 60 #[.slice A2 x1.length c3, .slice A7 x6.length c8] w (fun e e_w => e = .returned (.int .i64 r) ∧ Chg no w e_w) := by
  rw [spec_l2compare.f] at M
  refine enter (l := [.slice A2 x1.length c3, .slice A7 x6.length c8]) 65 func60 rfl rfl rfl ?_
  have S0_ := S.st
  refine wQ (wR (lV 4 (eA (.int .i64 0)) (wN (tN (wQ (wQ (wR (lV 5 (eA (.int .i64 0)) (wN (tN (wp_block ?_)))))))))))
  refine wp_loop_g (fun k20 a21 w11 => ∃ (f12 : Nat → Value) (x13 : Int), a21 = mk 65 f12 ∧ f12 0 = .slice A2 x1.length c3 ∧ f12 1 = .slice A7 x6.length c8 ∧ f12 5 = .int .i64 x13 ∧ St (anyOf []) H w [] H w11 ∧ spec_l2compare.l0 k20 x1 x6 x13 = some r) k ⟨_, 0, rfl, kr, kr, kr, S0_, M⟩ ?_
  clear M
  rintro k20 a21 w11 ⟨f12, x13, rfl, e14, e15, e16, S17, M⟩
  rcases k20 with _ | k22
  · rw [spec_l2compare.l0] at M
    cases M
  rw [spec_l2compare.l0] at M
  refine wQ (wQ (wR (lV 8 (eM (.int .i64 x13) (by exact e16)) (lV 9 (eM (.slice A2 x1.length c3) (by exact e14)) (lV 10 (e_len (A := A2) (n := x1.length) (c := c3) underlying25 kr) (lV 11 (eLt .i64 x13 (x1.length : Int)) (lV 12 (eM (.bool (decide (x13 < (x1.length : Int))))) ?_)))))))
  by_cases q23 : x13 < (x1.length : Int)
  · replace M := ifp q23 M
    refine lG 13 12 (bT q23) (eM (.int .i64 x13) (by exact e16)) (lG 14 12 (bT q23) (eM (.slice A7 x6.length c8) (by exact e15)) (lG 15 12 (bT q23) (e_len (A := A7) (n := x6.length) (c := c8) underlying25 kr) (lG 16 12 (bT q23) (eLt .i64 x13 (x6.length : Int)) (lV 17 (eT (.bool (decide (x13 < (x6.length : Int)))) (bT q23)) (wN (tN ?_))))))
    by_cases q24 : x13 < (x6.length : Int)
    · replace M := ifp q24 M
      refine cT (bT q24) (wK (tN (wQ (wp_block (wQ (wR (lV 20 (eM (.slice A2 x1.length c3) (by exact e14)) (lV 21 (eM (.int .i64 x13) (by exact e16)) ?_))))))))
      obtain ⟨q25, M⟩ := chk M
      obtain ⟨b26, o27, e28⟩ := Rd.addr h4 (show (x13).toNat < x1.length by omega)
      obtain ⟨y29, r30, k31⟩ := Rd.at h4 e28 (getD_some z65 (show (x13).toNat < x1.length by omega))
      obtain ⟨A32, c33, rfl, l34, h35⟩ := st65_open r30
      refine lV 22 (eI b26 o27 x1.length c3 3 x13 .i64 underlying25 e28 q25 q23) (lV 23 (e_loadS (b := b26) (off := o27 + (x13 : Int).toNat * 3) (cs := [.int .i64 ((x1.getD ((x13).toNat) z65).kind), .int .i64 ((x1.getD ((x13).toNat) z65).n), .slice A32 ((x1.getD ((x13).toNat) z65).text).length c33]) underlying65 rfl kr kr (fun j_ u_ e_ => (hpx (S17.inv.cell (k31 j_ u_ e_))))) ?_)
      refine lW 6 (nB #[.int .i64 0, .int .i64 0, .slice none 0 0] 65 S17) ?_
      rintro _ w36 ⟨g37, rfl, b38, S39, K40⟩
      refine lE (eSa g37 0 [.int .i64 ((x1.getD ((x13).toNat) z65).kind), .int .i64 ((x1.getD ((x13).toNat) z65).n), .slice A32 ((x1.getD ((x13).toNat) z65).text).length c33] S39 b38) ?_
      rintro w41 ⟨b42, S43, K44⟩
      clear b38
      refine wN (tN (wQ (wR (lV 24 (eM (.slice A7 x6.length c8) (by exact e15)) (lV 25 (eM (.int .i64 x13) (by exact e16)) ?_)))))
      obtain ⟨b45, o46, e47⟩ := Rd.addr h9 (show (x13).toNat < x6.length by omega)
      obtain ⟨y48, r49, k50⟩ := Rd.at h9 e47 (getD_some z65 (show (x13).toNat < x6.length by omega))
      obtain ⟨A51, c52, rfl, l53, h54⟩ := st65_open r49
      refine lV 26 (eI b45 o46 x6.length c8 3 x13 .i64 underlying25 e47 q25 q24) (lV 27 (e_loadS (b := b45) (off := o46 + (x13 : Int).toNat * 3) (cs := [.int .i64 ((x6.getD ((x13).toNat) z65).kind), .int .i64 ((x6.getD ((x13).toNat) z65).n), .slice A51 ((x6.getD ((x13).toNat) z65).text).length c52]) underlying65 rfl kr kr (fun j_ u_ e_ => (hpx (S43.inv.cell (k50 j_ u_ e_))))) ?_)
      refine lW 7 (nB #[.int .i64 0, .int .i64 0, .slice none 0 0] 65 S43) ?_
      rintro _ w55 ⟨g56, rfl, b57, S58, K59⟩
      replace b42 := K59.blk 0 rfl b42
      refine lE (eSa g56 0 [.int .i64 ((x6.getD ((x13).toNat) z65).kind), .int .i64 ((x6.getD ((x13).toNat) z65).n), .slice A51 ((x6.getD ((x13).toNat) z65).text).length c52] S58 b57) ?_
      rintro w60 ⟨b61, S62, K63⟩
      replace b42 := K63.blk 0 rfl b42
      clear b57
      refine wN (tN (wQ (wQ (wR (lV 28 (eD g37 0 0 1 underlying65) (lV 29 (eL ⟨g37, 0 + 0, none⟩ (.int .i64 ((x1.getD ((x13).toNat) z65).kind)) underlying3 (blk_cell b42 rfl)) (lV 30 (eD g56 0 0 1 underlying65) (lV 31 (eL ⟨g56, 0 + 0, none⟩ (.int .i64 ((x6.getD ((x13).toNat) z65).kind)) underlying3 (blk_cell b61 rfl)) (lV 32 (eNe .i64 (x1.getD ((x13).toNat) z65).kind (x6.getD ((x13).toNat) z65).kind) (wN (tN ?_)))))))))))
      by_cases q64 : ((x1.getD ((x13).toNat) z65).kind) ≠ ((x6.getD ((x13).toNat) z65).kind)
      · replace M := ifp q64 M
        refine cT (bT q64) (wQ (wR (lV 33 (eD g37 0 0 1 underlying65) (lV 34 (eL ⟨g37, 0 + 0, none⟩ (.int .i64 ((x1.getD ((x13).toNat) z65).kind)) underlying3 (blk_cell b42 rfl)) (lV 35 (eD g56 0 0 1 underlying65) (lV 36 (eL ⟨g56, 0 + 0, none⟩ (.int .i64 ((x6.getD ((x13).toNat) z65).kind)) underlying3 (blk_cell b61 rfl)) (lV 37 (eLt .i64 (x1.getD ((x13).toNat) z65).kind (x6.getD ((x13).toNat) z65).kind) ?_)))))))
        obtain ⟨t65, u66, M⟩ := bnd M
        refine lC 38 (eC [.tmp 37] [.bool (decide (((x1.getD ((x13).toNat) z65).kind) < ((x6.getD ((x13).toNat) z65).kind)))] func105) (spec_l2sign.calls w60 H (decide (((x1.getD ((x13).toNat) z65).kind) < ((x6.getD ((x13).toNat) z65).kind)))  S62.own0 t65 u66) ?_
        rintro _ w67 ⟨rfl, C68⟩
        refine ⟨_, rfl, ?_⟩
        obtain ⟨S69, K70⟩ := S62.still C68
        refine lV 4 (eA (.int .i64 t65)) (wN (tN (wT (tR (inb_r (tR (tR ?_)))))))
        refine inb_r (tR ?_)
        obtain rfl := sj M
        exact ret1 rfl rfl  (show _ = .int .i64 t65 from kr) ⟨rfl, S69.chg⟩
      replace M := ifn q64 M
      refine cF (bF q64) (wK (tN (wQ (wQ (wR (lV 39 (eD g37 0 1 1 underlying65) (lV 40 (eL ⟨g37, 0 + 1, none⟩ (.int .i64 ((x1.getD ((x13).toNat) z65).n)) underlying3 (blk_cell b42 rfl)) (lV 41 (eD g56 0 1 1 underlying65) (lV 42 (eL ⟨g56, 0 + 1, none⟩ (.int .i64 ((x6.getD ((x13).toNat) z65).n)) underlying3 (blk_cell b61 rfl)) (lV 43 (eNe .i64 (x1.getD ((x13).toNat) z65).n (x6.getD ((x13).toNat) z65).n) (wN (tN ?_))))))))))))
      by_cases q71 : ((x1.getD ((x13).toNat) z65).n) ≠ ((x6.getD ((x13).toNat) z65).n)
      · replace M := ifp q71 M
        refine cT (bT q71) (wQ (wR (lV 44 (eD g37 0 1 1 underlying65) (lV 45 (eL ⟨g37, 0 + 1, none⟩ (.int .i64 ((x1.getD ((x13).toNat) z65).n)) underlying3 (blk_cell b42 rfl)) (lV 46 (eD g56 0 1 1 underlying65) (lV 47 (eL ⟨g56, 0 + 1, none⟩ (.int .i64 ((x6.getD ((x13).toNat) z65).n)) underlying3 (blk_cell b61 rfl)) (lV 48 (eLt .i64 (x1.getD ((x13).toNat) z65).n (x6.getD ((x13).toNat) z65).n) ?_)))))))
        obtain ⟨t72, u73, M⟩ := bnd M
        refine lC 49 (eC [.tmp 48] [.bool (decide (((x1.getD ((x13).toNat) z65).n) < ((x6.getD ((x13).toNat) z65).n)))] func105) (spec_l2sign.calls w60 H (decide (((x1.getD ((x13).toNat) z65).n) < ((x6.getD ((x13).toNat) z65).n)))  S62.own0 t72 u73) ?_
        rintro _ w74 ⟨rfl, C75⟩
        refine ⟨_, rfl, ?_⟩
        obtain ⟨S76, K77⟩ := S62.still C75
        refine lV 4 (eA (.int .i64 t72)) (wN (tN (wT (tR (inb_r (tR (tR ?_)))))))
        refine inb_r (tR ?_)
        obtain rfl := sj M
        exact ret1 rfl rfl  (show _ = .int .i64 t72 from kr) ⟨rfl, S76.chg⟩
      replace M := ifn q71 M
      refine cF (bF q71) (wK (tN (wQ (wR (lV 50 (eD g37 0 2 1 underlying65) (lV 51 (eL ⟨g37, 0 + 2, none⟩ (.slice A32 ((x1.getD ((x13).toNat) z65).text).length c33) underlying59 (blk_cell b42 rfl)) (lV 52 (e_conv_bs (A := A32) (n := ((x1.getD ((x13).toNat) z65).text).length) (c := c33) (xs := (x1.getD ((x13).toNat) z65).text) underlying59 underlying5 underlying9 kr rfl (Rd.bytesE S62.inv h35)) (lV 53 (eD g56 0 2 1 underlying65) (lV 54 (eL ⟨g56, 0 + 2, none⟩ (.slice A51 ((x6.getD ((x13).toNat) z65).text).length c52) underlying59 (blk_cell b61 rfl)) (lV 55 (e_conv_bs (A := A51) (n := ((x6.getD ((x13).toNat) z65).text).length) (c := c52) (xs := (x6.getD ((x13).toNat) z65).text) underlying59 underlying5 underlying9 kr rfl (Rd.bytesE S62.inv h54)) (lV 56 (e_sneq (p := (x1.getD ((x13).toNat) z65).text) (q := (x6.getD ((x13).toNat) z65).text) kr kr) (wN (tN ?_)))))))))))))
      by_cases q78 : (x1.getD ((x13).toNat) z65).text ≠ (x6.getD ((x13).toNat) z65).text
      · replace M := ifp q78 M
        refine cT (bT q78) (wQ (wR (lV 57 (eD g37 0 2 1 underlying65) (lV 58 (eL ⟨g37, 0 + 2, none⟩ (.slice A32 ((x1.getD ((x13).toNat) z65).text).length c33) underlying59 (blk_cell b42 rfl)) (lV 59 (e_conv_bs (A := A32) (n := ((x1.getD ((x13).toNat) z65).text).length) (c := c33) (xs := (x1.getD ((x13).toNat) z65).text) underlying59 underlying5 underlying9 kr rfl (Rd.bytesE S62.inv h35)) (lV 60 (eD g56 0 2 1 underlying65) (lV 61 (eL ⟨g56, 0 + 2, none⟩ (.slice A51 ((x6.getD ((x13).toNat) z65).text).length c52) underlying59 (blk_cell b61 rfl)) (lV 62 (e_conv_bs (A := A51) (n := ((x6.getD ((x13).toNat) z65).text).length) (c := c52) (xs := (x6.getD ((x13).toNat) z65).text) underlying59 underlying5 underlying9 kr rfl (Rd.bytesE S62.inv h54)) (lV 63 (e_slss (p := (x1.getD ((x13).toNat) z65).text) (q := (x6.getD ((x13).toNat) z65).text) kr kr) ?_)))))))))
        obtain ⟨t79, u80, M⟩ := bnd M
        refine lC 64 (eC [.tmp 63] [.bool (Op.bytesLess ((x1.getD ((x13).toNat) z65).text) ((x6.getD ((x13).toNat) z65).text))] func105) (spec_l2sign.calls w60 H (Op.bytesLess ((x1.getD ((x13).toNat) z65).text) ((x6.getD ((x13).toNat) z65).text))  S62.own0 t79 u80) ?_
        rintro _ w81 ⟨rfl, C82⟩
        refine ⟨_, rfl, ?_⟩
        obtain ⟨S83, K84⟩ := S62.still C82
        refine lV 4 (eA (.int .i64 t79)) (wN (tN (wT (inb_r (tR (tR (inb_r (tR ?_))))))))
        obtain rfl := sj M
        exact ret1 rfl rfl  (show _ = .int .i64 t79 from kr) ⟨rfl, S83.chg⟩
      replace M := ifn q78 M
      refine cF (bF q78) (wK (inb_n (tN (wR (lV 18 (eM (.int .i64 x13) (by exact e16)) (lV 19 (eAdd .i64 x13 1) (lV 5 (eA (.int .i64 (i64.wrap (x13 + 1)))) (wN (tN ?_)))))))))
      have S85 := St.first (Fa := []) (Fr := [(is g56), (is g37)]) S62
      exact ⟨k22, (by omega), _, (i64.wrap (x13 + 1)), rfl, (by exact e14), (by exact e15), kr, S85, M⟩
    replace M := ifn q24 M
    refine cF (bF q24) (wp_exit (tE (tE (inb_hit (tN (wQ (wR (lV 4 (eA (.int .i64 0)) (wN (tN (wT ?_)))))))))))
    obtain rfl := sj M
    exact ret1 rfl rfl  (show _ = .int .i64 0 from kr) ⟨rfl, S17.chg⟩
  replace M := ifn q23 M
  refine lK 12 false (bF q23) ?_
  refine lK 12 false (bF q23) ?_
  refine lK 12 false (bF q23) ?_
  refine lK 12 false (bF q23) ?_
  refine lV 17 (eF (.bool false) (bF q23)) (wN (tN (cond_f rfl kr (wp_exit (tE (tE (inb_hit (tN (wQ (wR (lV 4 (eA (.int .i64 0)) (wN (tN (wT ?_))))))))))))))
  obtain rfl := sj M
  exact ret1 rfl rfl  (show _ = .int .i64 0 from kr) ⟨rfl, S17.chg⟩
end Go.Proofs.Ytognefkopbbdnaa
