import Derived.Test.YtognefkopbbdnaaPuFu10
namespace Go.Proofs.Ytognefkopbbdnaa
open Go.Sx Go.Sy
set_option linter.unusedVariables false
set_option linter.unusedSimpArgs false
set_option linter.unusedSectionVars false
set_option maxRecDepth 4000
/-! ### matching, and terms for variables -/
def MC (θ : Int → List Cell) (M : MT) : Prop := ∀ v u, mget M v = some u → flat u = θ v
mutual
theorem match_sx {θ : Int → List Cell} (hθ : Th θ) : ∀ (t u : Tm) (M : MT), Wf t → Wf u → flat u = sx θ (flat t) → MC θ M → (matchT t M u).1 = true ∧ MC θ (matchT t M u).2
  | .mk k n s ts, u, M, hw, hu, he, hM => by
    rw [matchT]
    by_cases h0 : k = 0
    · rw [if_pos h0]
      have e1 : flat u = θ n := by rw [he]; exact sx_var θ hw h0
      cases e : mget M n with
      | some v =>
        rw [if_pos (by rfl)]
        refine ⟨?_, hM⟩
        have hv := hM n v e
        simp only [Option.getD_some, hv, e1, cmp_self, decide_true]
      | none =>
        rw [if_neg (by simp)]
        refine ⟨rfl, fun w x h => ?_⟩
        rw [mget_mset] at h
        by_cases hwn : w = n
        · rw [if_pos hwn] at h; injection h with h; subst h; rw [hwn]; exact e1
        · rw [if_neg hwn] at h; exact hM w x h
    · rw [if_neg h0]
      rw [sx_tm θ (u := .mk k n s ts) h0, flat_cell u] at he
      obtain ⟨h1, h2⟩ := List.cons.inj he
      injection h1 with a b c
      rw [if_pos ⟨a.symm, b.symm, c.symm⟩]
      have hw2 := hw
      simp only [Wf] at hw2
      have hl : ts.length = u.args.length := by
        cases u with
        | mk k' n' s' us =>
          have a : k' = k := a
          have b : n' = n := b
          subst a; subst b
          simp only [Wf] at hu
          by_cases hk : k' = 3
          · have := hw2.2.1 hk; have := hu.2.1 hk; show ts.length = us.length; omega
          · rw [hw2.2.2.1 hk]; show [].length = us.length; rw [hu.2.2.1 hk]
      exact match_sxs hθ ts u.args M hl hw2.2.2.2 ((flat_args u).2.2.2 hu) h2 hM
theorem match_sxs {θ : Int → List Cell} (hθ : Th θ) : ∀ (ts us : List Tm) (M : MT), ts.length = us.length → Wfs ts → Wfs us → flats us = sx θ (flats ts) → MC θ M → (matchTs ts M us).1 = true ∧ MC θ (matchTs ts M us).2
  | [], _, M, _, _, _, _, hM => by rw [matchTs]; exact ⟨rfl, hM⟩
  | _ :: _, [], _, h, _, _, _, _ => by simp at h
  | t :: ts, u :: us, M, hl, hw, hu, he, hM => by
    simp only [Wfs] at hw hu
    simp only [flats, sx_app] at he
    obtain ⟨t', a1, a2⟩ := sx_tree hθ t hw.1
    rw [← a2] at he
    obtain ⟨e1, e2⟩ := flat_inj u t' _ _ hu.1 a1 he
    rw [matchTs_cons]
    obtain ⟨b1, b2⟩ := match_sx hθ t u M hw.1 hu.1 (by rw [e1, a2]) hM
    rw [if_pos b1]
    exact match_sxs hθ ts us _ (by simpa using hl) hw.2 hu.2 e2 b2
end
def MW (M : MT) : Prop := ∀ v u, mget M v = some u → Wf u
def MX (M M' : MT) : Prop := ∀ v u, mget M v = some u → mget M' v = some u
mutual
theorem match_of : ∀ (t u : Tm) (M : MT), Wf t → Wf u → MW M → (matchT t M u).1 = true → MW (matchT t M u).2 ∧ MX M (matchT t M u).2 ∧ ∀ θ, MC θ (matchT t M u).2 → sx θ (flat t) = flat u
  | .mk k n s ts, u, M, hw, hu, hM, h => by
    rw [matchT] at h ⊢
    by_cases h0 : k = 0
    · rw [if_pos h0] at h ⊢
      cases e : mget M n with
      | some v =>
        rw [e, if_pos (by rfl)] at h
        rw [if_pos (by rfl)]
        refine ⟨hM, fun _ _ h => h, fun θ hθ => ?_⟩
        simp only [Option.getD_some, decide_eq_true_eq] at h
        have := (tree_eq v u [] [] (hM n v e) hu (by simpa using h)).1
        rw [sx_var θ hw h0, ← this]
        exact (hθ n v e).symm
      | none =>
        rw [if_neg (by simp)]
        refine ⟨fun w x h => ?_, fun w x h => ?_, fun θ hθ => ?_⟩
        · rw [mget_mset] at h
          by_cases hwn : w = n
          · rw [if_pos hwn] at h; injection h with h; subst h; exact hu
          · rw [if_neg hwn] at h; exact hM w x h
        · by_cases hwn : w = n
          · rw [hwn, e] at h; cases h
          · rw [mget_mset, if_neg hwn]; exact h
        · rw [sx_var θ hw h0]
          exact (hθ n u (by rw [mget_mset, if_pos rfl])).symm
    · rw [if_neg h0] at h ⊢
      by_cases hc : k = u.kind ∧ n = u.n ∧ s = u.text
      · rw [if_pos hc] at h ⊢
        have hw2 := hw
        simp only [Wf] at hw2
        have hl : ts.length = u.args.length := by
          cases u with
          | mk k' n' s' us =>
            have a : k = k' := hc.1
            have b : n = n' := hc.2.1
            subst a; subst b
            simp only [Wf] at hu
            by_cases hk : k = 3
            · have := hw2.2.1 hk; have := hu.2.1 hk; show ts.length = us.length; omega
            · rw [hw2.2.2.1 hk]; show [].length = us.length; rw [hu.2.2.1 hk]
        obtain ⟨a1, a2, a3⟩ := match_ofs ts u.args M hl hw2.2.2.2 ((flat_args u).2.2.2 hu) hM h
        refine ⟨a1, a2, fun θ hθ => ?_⟩
        rw [sx_tm θ (u := .mk k n s ts) h0, flat_cell u, ← hc.1, ← hc.2.1, ← hc.2.2, ← a3 θ hθ]; rfl
      · rw [if_neg hc] at h; cases h
theorem match_ofs : ∀ (ts us : List Tm) (M : MT), ts.length = us.length → Wfs ts → Wfs us → MW M → (matchTs ts M us).1 = true → MW (matchTs ts M us).2 ∧ MX M (matchTs ts M us).2 ∧ ∀ θ, MC θ (matchTs ts M us).2 → sx θ (flats ts) = flats us
  | [], [], M, _, _, _, hM, _ => by rw [matchTs]; exact ⟨hM, fun _ _ h => h, fun θ _ => rfl⟩
  | [], _ :: _, _, h, _, _, _, _ => by simp at h
  | _ :: _, [], _, h, _, _, _, _ => by simp at h
  | t :: ts, u :: us, M, hl, hw, hu, hM, h => by
    simp only [Wfs] at hw hu
    rw [matchTs_cons] at h ⊢
    by_cases hc : (matchT t M u).1 = true
    · rw [if_pos hc] at h ⊢
      obtain ⟨a1, a2, a3⟩ := match_of t u M hw.1 hu.1 hM hc
      obtain ⟨b1, b2, b3⟩ := match_ofs ts us _ (by simpa using hl) hw.2 hu.2 a1 h
      refine ⟨b1, fun v x e => b2 v x (a2 v x e), fun θ hθ => ?_⟩
      rw [flats, flats, sx_app, a3 θ (fun v x e => hθ v x (b2 v x e)), b3 θ hθ]
    · rw [if_neg hc] at h; cases h
end
theorem mc_nil (θ : Int → List Cell) : MC θ [] := fun v u h => by cases h
theorem mw_nil : MW [] := fun v u h => by cases h
/-- matching is: there are terms for the variables -/
theorem match_iff {t u : Tm} (ht : Wf t) (hu : Wf u) : (matchT t [] u).1 = true ↔ ∃ θ, Th θ ∧ sx θ (flat t) = flat u := by
  constructor
  · intro h
    obtain ⟨a1, _, a3⟩ := match_of t u [] ht hu mw_nil h
    let θ : Int → List Cell := fun v => match mget (matchT t [] u).2 v with | some w => flat w | none => [⟨2, 0, []⟩]
    have h1 : MC θ (matchT t [] u).2 := fun v w e => by show flat w = (match mget (matchT t [] u).2 v with | some w => flat w | none => [⟨2, 0, []⟩]); rw [e]
    refine ⟨θ, fun v _ _ => ?_, a3 θ h1⟩
    cases e : mget (matchT t [] u).2 v with
    | some w => exact ⟨w, a1 v w e, (h1 v w e).symm⟩
    | none =>
      refine ⟨.mk 2 0 [] [], ?_, ?_⟩
      · simp [Wf, Wfs, Okc]
      · show (match mget (matchT t [] u).2 v with | some w => flat w | none => [⟨2, 0, []⟩]) = _
        rw [e]; simp [flat, flats]
  · rintro ⟨θ, h1, h2⟩
    exact (match_sx h1 t u [] ht hu h2.symm (mc_nil θ)).1
theorem subs_val {t u : Tm} (a3 : Wf t ∧ (flat t).length ≤ 2000) (b3 : Wf u ∧ (flat u).length ≤ 2000) (k : Nat) (hk : 3000000 < k) : impl_Subsumes.f k (flat t) (flat u) = some (matchT t [] u).1 ∧ spec_Subsumes.f k (flat t) (flat u) = some (matchT t [] u).1 := by
  have a1 := a3.2
  have b1 := b3.2
  rw [impl_Subsumes.f, spec_Subsumes.f]
  simp only [valid_val (flat t) k (by omega) (by omega), valid_val' (flat t) k (by omega) (by omega), valid_val (flat u) k (by omega) (by omega), valid_val' (flat u) k (by omega) (by omega), Option.bind_some, okT_flat a3, okT_flat b3, eq_self, not_true_eq_false, if_false, if_true]
  simp only [tree_flat t k a3.1 a1 (by omega), tree_flat u k b3.1 b1 (by omega), Option.bind_some]
  obtain ⟨e1, _⟩ := matches_val t u k [] a3.1 b3.1 (by omega) b1 (fun v w hv => by cases hv)
  rw [e1, Option.bind_some]
  have key := sub_tree (flat t) (flat u) a1 b1 t u (k - 2 * (flat t).length) 0 0 [] [] [] [] [] a3.1 b3.1 (by simp) (by simp) (by omega) ⟨rfl, fun v => by simp [mget]⟩ (by simp)
  rw [show k - 2 * (flat t).length + 2 * (flat t).length = k by omega] at key
  rcases key with ⟨g1, k', v1, v2, g2, g3, _, _⟩ | ⟨g1, g2⟩
  · rw [show (((0 : Nat)) : Int) = 0 from rfl] at g3
    refine ⟨rfl, ?_⟩
    rw [g3, g1]
    obtain ⟨k', rfl⟩ : ∃ q, k' = q + 1 := ⟨k' - 1, by omega⟩
    rw [spec_Subsumes.l0, if_neg (by omega)]
    simp
  · exact ⟨rfl, by rw [g1]; exact g2⟩
theorem subs_bad (xs ys : List Cell) (k : Nat) (hx : xs.length ≤ 1048576) (hy : ys.length ≤ 1048576) (hk : 3000000 < k) (h : ¬ (okT xs = true ∧ okT ys = true)) : impl_Subsumes.f k xs ys = some false ∧ spec_Subsumes.f k xs ys = some false := by
  rw [impl_Subsumes.f, spec_Subsumes.f]
  simp only [valid_val xs k (by omega) (by omega), valid_val' xs k (by omega) (by omega), valid_val ys k (by omega) (by omega), valid_val' ys k (by omega) (by omega), Option.bind_some]
  cases h1 : okT xs with
  | false => exact ⟨rfl, rfl⟩
  | true =>
    cases h2 : okT ys with
    | false => exact ⟨rfl, rfl⟩
    | true => exact absurd ⟨h1, h2⟩ h
def rn (cs : List Cell) : List Cell := cs.map (ren (varsC cs []))
theorem variant_val {t u : Tm} (a3 : Wf t ∧ (flat t).length ≤ 2000) (b3 : Wf u ∧ (flat u).length ≤ 2000) (k : Nat) (hk : 3000000 < k) : impl_Variant.f k (flat t) (flat u) = some (decide ((flat t).length = (flat u).length ∧ rn (flat t) = rn (flat u))) := by
  have a1 := a3.2
  have b1 := b3.2
  rw [impl_Variant.f]
  simp only [valid_val' (flat t) k (by omega) (by omega), valid_val' (flat u) k (by omega) (by omega), Option.bind_some, okT_flat a3, okT_flat b3, eq_self, not_true_eq_false, if_false]
  by_cases hl : ((flat t).length : Int) ≠ ((flat u).length : Int)
  · rw [if_pos hl]
    have : ¬ ((flat t).length = (flat u).length ∧ rn (flat t) = rn (flat u)) := fun h => hl (by rw [h.1])
    rw [decide_eq_false this]
  rw [if_neg hl]
  have hl2 : (flat t).length = (flat u).length := by omega
  obtain ⟨t', e1, e2, e3⟩ := renumbered_val t k a3.1 a1 (by omega)
  obtain ⟨u', g1, g2, g3⟩ := renumbered_val u k b3.1 b1 (by omega)
  have l1 : (flat t').length = (flat t).length := by rw [e2]; simp
  have l2 : (flat u').length = (flat u).length := by rw [g2]; simp
  simp only [tree_flat t k a3.1 a1 (by omega), tree_flat u k b3.1 b1 (by omega), e1, g1, Option.bind_some, compare_val t' u' k e3 g3 (by omega) (by omega)]
  congr 1
  refine decide_eq_decide.2 ⟨fun h => ⟨hl2, ?_⟩, fun h => ?_⟩
  · have := cmp_eq (flat t') (flat u') (by omega) h
    unfold rn; rw [← e2, ← g2]; exact this
  · have := h.2
    unfold rn at this; rw [← e2, ← g2] at this; rw [this]; exact cmp_self _
end Go.Proofs.Ytognefkopbbdnaa
