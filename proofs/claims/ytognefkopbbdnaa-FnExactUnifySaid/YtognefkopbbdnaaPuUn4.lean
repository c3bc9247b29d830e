import Derived.Test.YtognefkopbbdnaaPuUn3
namespace Go.Proofs.Ytognefkopbbdnaa
open Go.Sx Go.Sy
set_option linter.unusedVariables false
set_option linter.unusedSimpArgs false
set_option linter.unusedSectionVars false
set_option maxRecDepth 4000
/-! ### the program's search for a variable -/
theorem wk_end {m : List (Int × Tm)} {t u : Tm} (h : Wk m t u) : u.kind = 0 → mget m u.n = none := by
  induction h with
  | stop h => exact h
  | step _ _ _ ih => exact ih
theorem wk_wf {sub : List Binding} {m : List (Int × Tm)} (hr : Rel sub m) {t u : Tm} (h : Wk m t u) (hw : Wf t ∧ (flat t).length ≤ 2000) : Wf u ∧ (flat u).length ≤ 2000 := by
  induction h with
  | stop _ => exact hw
  | step _ h _ ih => exact ih (hr.wf _ _ h)
theorem flats_mem {us : List Tm} {a : Tm} (h : a ∈ us) : (flat a).length ≤ (flats us).length ∧ (∀ x, x ∈ vs (flat a) → x ∈ vs (flats us)) ∧ (Wfs us → Wf a) := by
  induction us with
  | nil => cases h
  | cons b us ih =>
    rcases List.mem_cons.1 h with rfl | h
    · refine ⟨by simp [flats], fun x hx => by simp only [flats]; rw [vs_append]; exact List.mem_append_left _ hx, fun hw => ?_⟩
      simp only [Wfs] at hw; exact hw.1
    · obtain ⟨h1, h2, h3⟩ := ih h
      refine ⟨by simp [flats]; omega, fun x hx => by simp only [flats]; rw [vs_append]; exact List.mem_append_right _ (h2 x hx), fun hw => ?_⟩
      simp only [Wfs] at hw; exact h3 hw.2
theorem flat_args (t : Tm) : (flat t).length = 1 + (flats t.args).length ∧ (∀ x, x ∈ vs (flats t.args) → x ∈ vs (flat t)) ∧ (t.kind ≠ 0 → ∀ x, x ∈ vs (flat t) → x ∈ vs (flats t.args)) ∧ (Wf t → Wfs t.args) := by
  cases t with
  | mk k n s us =>
    refine ⟨by simp [flat, Tm.args]; omega, fun x hx => ?_, fun h0 x hx => ?_, fun hw => ?_⟩
    · obtain ⟨c, h1, h2⟩ := mem_vs.1 hx
      exact mem_vs.2 ⟨c, by simp only [flat]; exact .tail _ h1, h2⟩
    · obtain ⟨c, h1, h2, h3⟩ := mem_vs.1 hx
      simp only [flat] at h1
      rcases List.mem_cons.1 h1 with rfl | h1
      · exact absurd h2 h0
      · exact mem_vs.2 ⟨c, h1, h2, h3⟩
    · simp only [Wf] at hw; exact hw.2.2.2
open Classical in
theorem occ_args {m : List (Int × Tm)} {n : Int} : ∀ us : List Tm, (∀ a, a ∈ us → ∃ K, ∀ W k, K ≤ W → K ≤ k → occ W m n k a = some (decide (Reach m n (flat a)))) →
    ∃ K, ∀ W k, K ≤ W → K ≤ k → us.foldr (fun a rest => (occ W m n k a).bind fun b => if b = true then some true else rest) (some false) = some (decide (Reach m n (flats us)))
  | [], _ => ⟨0, fun W k _ _ => by
    have : ¬ Reach m n (flats []) := by
      intro h
      cases h with
      | here h => simp [flats, vs] at h
      | via h _ _ => simp [flats, vs] at h
    rw [decide_eq_false this]; rfl⟩
  | a :: us, h => by
    obtain ⟨K1, h1⟩ := h a (.head _)
    obtain ⟨K2, h2⟩ := occ_args us (fun b hb => h b (.tail _ hb))
    refine ⟨K1 + K2, fun W k hW hk => ?_⟩
    rw [List.foldr_cons, h1 W k (by omega) (by omega), Option.bind_some]
    have e : Reach m n (flats (a :: us)) ↔ Reach m n (flat a) ∨ Reach m n (flats us) := by simp only [flats]; exact reach_append
    by_cases q : Reach m n (flat a)
    · rw [if_pos (decide_eq_true q), decide_eq_true (e.2 (.inl q))]
    · rw [if_neg (by rw [decide_eq_false q]; simp), h2 W k (by omega) (by omega)]
      congr 1
      exact decide_eq_decide.2 ⟨fun h => e.2 (.inr h), fun h => (e.1 h).resolve_left q⟩
open Classical in
theorem occ_val {sub : List Binding} {m : List (Int × Tm)} (hr : Rel sub m) {n : Int} (e : mget m n = none) {ρ : Int → Nat} (hρ : ∀ v t, mget m v = some t → ∀ u, u ∈ vs (flat t) → ρ u < ρ v) : ∀ (R s : Nat) (t : Tm), (Wf t ∧ (flat t).length ≤ 2000) → (∀ x, x ∈ vs (flat t) → ρ x < R) → (flat t).length ≤ s → ∃ K, ∀ W k, K ≤ W → K ≤ k → occ W m n k t = some (decide (Reach m n (flat t))) := by
  intro R
  induction R using Nat.strongRecOn with
  | _ R ihR =>
    intro s
    induction s using Nat.strongRecOn with
    | _ s ihs =>
      intro t hw hR hs
      obtain ⟨u, hu⟩ := wk_ex hr t
      obtain ⟨K1, h1⟩ := (wk_impl hu).at
      have hwu := wk_wf hr hu hw
      have hreach := wk_reach hr e hu hw.1
      obtain ⟨hRu, hcase⟩ := wk_rank hr hρ hu hw.1 hR
      have hend := wk_end hu
      have fin : (∃ K, ∀ W k, K ≤ W → K ≤ k → bod W m n k u = some (decide (Reach m n (flat u)))) → ∃ K, ∀ W k, K ≤ W → K ≤ k → occ W m n k t = some (decide (Reach m n (flat t))) := by
        rintro ⟨K2, h2⟩
        refine ⟨K1 + K2 + 1, fun W k hW hk => ?_⟩
        obtain ⟨k, rfl⟩ : ∃ q, k = q + 1 := ⟨k - 1, by omega⟩
        have h1' : impl_walk.f W m t = some u := h1 W (by omega)
        rw [occ_succ, h1', Option.bind_some, h2 W k (by omega) (by omega)]
        congr 1
        exact decide_eq_decide.2 hreach.symm
      apply fin
      by_cases k0 : u.kind = 0
      · have hv := (vs_var hwu.1 k0).2
        refine ⟨0, fun W k _ _ => ?_⟩
        unfold bod
        rw [if_pos k0]
        congr 1
        refine decide_eq_decide.2 ⟨fun h => .here (by rw [hv, h]; simp), fun h => ?_⟩
        cases h with
        | here h => rw [hv] at h; simpa using (by simpa using h : n = u.n).symm
        | @via _ y _ h e1 _ =>
          rw [hv] at h
          have : y = u.n := by simpa using h
          rw [this, hend k0] at e1; cases e1
      · obtain ⟨a1, a2, a3, a4⟩ := flat_args u
        have hru : Reach m n (flat u) ↔ Reach m n (flats u.args) := ⟨fun h => h.mono (a3 k0), fun h => h.mono a2⟩
        by_cases k3 : u.kind ≠ 3
        · refine ⟨0, fun W k _ _ => ?_⟩
          unfold bod
          rw [if_neg k0, if_pos k3]
          have hn : u.args = [] := by
            have := hwu.1
            cases u with
            | mk k n s us => simp only [Wf] at this; exact this.2.2.1 k3
          have : ¬ Reach m n (flat u) := fun h => by
            have := hru.1 h
            rw [hn] at this
            cases this with
            | here h => simp [flats, vs] at h
            | via h _ _ => simp [flats, vs] at h
          rw [decide_eq_false this]
        · have hargs : ∀ a, a ∈ u.args → ∃ K, ∀ W k, K ≤ W → K ≤ k → occ W m n k a = some (decide (Reach m n (flat a))) := fun a ha => by
            obtain ⟨b1, b2, b3⟩ := flats_mem ha
            have hwa : Wf a ∧ (flat a).length ≤ 2000 := ⟨b3 (a4 hwu.1), by have := hwu.2; omega⟩
            rcases hcase with rfl | ⟨R', hR', hb⟩
            · exact ihs (flat a).length (by omega) a hwa (fun x hx => hR x (a2 x (b2 x hx))) (Nat.le_refl _)
            · exact ihR R' hR' (flat a).length a hwa (fun x hx => hb x (a2 x (b2 x hx))) (Nat.le_refl _)
          obtain ⟨K, hK⟩ := occ_args u.args hargs
          refine ⟨K, fun W k hW hk => ?_⟩
          unfold bod
          rw [if_neg k0, if_neg k3, hK W k hW hk]
          congr 1
          exact decide_eq_decide.2 hru.symm
open Classical in
theorem stands_val {sub : List Binding} {m : List (Int × Tm)} (hr : Rel sub m) {n : Int} (e : mget m n = none) {t : Tm} (hw : Wf t ∧ (flat t).length ≤ 2000) : Ev (fun k => impl_stands.f k m n t []) (decide (Reach m n (flat t))) := by
  obtain ⟨ρ, hρ⟩ := hr.acyc
  obtain ⟨B, hB⟩ := bound_ex ρ (vs (flat t))
  obtain ⟨K, hK⟩ := occ_val hr e hρ B (flat t).length t hw hB (Nat.le_refl _)
  exact ⟨K, fun k hk => by show impl_stands.f k m n t [] = _; unfold impl_stands.f; rw [if_pos rfl]; exact hK k k hk hk⟩
end Go.Proofs.Ytognefkopbbdnaa
