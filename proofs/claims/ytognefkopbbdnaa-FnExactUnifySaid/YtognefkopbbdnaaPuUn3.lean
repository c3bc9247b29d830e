import Derived.Test.YtognefkopbbdnaaPuUn2
namespace Go.Proofs.Ytognefkopbbdnaa
open Go.Sx Go.Sy
set_option linter.unusedVariables false
set_option linter.unusedSimpArgs false
set_option linter.unusedSectionVars false
set_option maxRecDepth 4000
/-! ### what is reached from a term; a new binding -/
inductive Reach (m : List (Int × Tm)) (v : Int) : List Cell → Prop
  | here {cs : List Cell} (h : v ∈ vs cs) : Reach m v cs
  | via {cs : List Cell} {u : Int} {s : Tm} (h : u ∈ vs cs) (e : mget m u = some s) (hs : Reach m v (flat s)) : Reach m v cs
theorem Reach.mono {m : List (Int × Tm)} {v : Int} {cs ds : List Cell} (hsub : ∀ x, x ∈ vs cs → x ∈ vs ds) (h : Reach m v cs) : Reach m v ds := by
  cases h with
  | here h => exact .here (hsub _ h)
  | via h e hs => exact .via (hsub _ h) e hs
theorem reach_append {m : List (Int × Tm)} {v : Int} {a b : List Cell} : Reach m v (a ++ b) ↔ Reach m v a ∨ Reach m v b := by
  constructor
  · intro h
    cases h with
    | here h =>
      rw [vs_append] at h
      exact (List.mem_append.1 h).imp .here .here
    | via h e hs =>
      rw [vs_append] at h
      exact (List.mem_append.1 h).imp (fun h => .via h e hs) (fun h => .via h e hs)
  · rintro (h | h)
    · exact h.mono (fun x hx => by rw [vs_append]; exact List.mem_append_left _ hx)
    · exact h.mono (fun x hx => by rw [vs_append]; exact List.mem_append_right _ hx)
theorem bound_ex (ρ : Int → Nat) : ∀ l : List Int, ∃ B, ∀ u, u ∈ l → ρ u < B
  | [] => ⟨0, by simp⟩
  | x :: l => by
    obtain ⟨B, hB⟩ := bound_ex ρ l
    refine ⟨B + ρ x + 1, fun u hu => ?_⟩
    rcases List.mem_cons.1 hu with rfl | hu
    · omega
    · have := hB u hu; omega
theorem ins_perm (v : Int) (t : List Cell) : ∀ xs : List Binding, (ins v t xs).Perm (⟨v, t⟩ :: xs)
  | [] => .refl _
  | x :: xs => by
    rw [ins]; split
    · exact (List.Perm.cons x (ins_perm v t xs)).trans (List.Perm.swap _ _ _)
    · exact .refl _
open Classical in
theorem Rel.bind {sub : List Binding} {m : List (Int × Tm)} (h : Rel sub m) {v : Int} {t : Tm} (e : mget m v = none) (hw : Wf t ∧ (flat t).length ≤ 2000) (hn : ¬ Reach m v (flat t)) : Rel (ins v (flat t) sub) (mset m v t) where
  srt := ins_srt h.srt (h.not e)
  keys := by
    rw [mset_new e, List.map_append]
    have h1 := (ins_perm v (flat t) sub).map (·.var)
    refine (List.Perm.append_right _ h.keys).trans (List.Perm.trans ?_ h1.symm)
    exact List.perm_append_singleton v _
  term := fun b hb => by
    rcases mem_ins.1 hb with rfl | hb
    · exact ⟨t, by rw [mget_mset, if_pos rfl], rfl⟩
    · obtain ⟨s, e1, e2⟩ := h.term b hb
      exact ⟨s, by rw [mget_mset, if_neg (h.not e b hb)]; exact e1, e2⟩
  wf := fun x s hx => by
    rw [mget_mset] at hx
    split at hx
    · injection hx with hx; exact hx ▸ hw
    · exact h.wf x s hx
  acyc := by
    obtain ⟨ρ, hρ⟩ := h.acyc
    obtain ⟨B, hB⟩ := bound_ex ρ (vs (flat t))
    refine ⟨fun u => ρ u + if (u = v ∨ ∃ s, mget m u = some s ∧ Reach m v (flat s)) then B else 0, fun x s hx u hu => ?_⟩
    show ρ u + _ < ρ x + _
    rw [mget_mset] at hx
    by_cases hxv : x = v
    · rw [if_pos hxv] at hx
      injection hx with hx
      subst hx
      have hu1 : ¬ (u = v ∨ ∃ s, mget m u = some s ∧ Reach m v (flat s)) := by
        rintro (q | ⟨s, q1, q2⟩)
        · exact hn (.here (q ▸ hu))
        · exact hn (.via hu q1 q2)
      rw [if_neg hu1, if_pos (.inl hxv)]
      have := hB u hu
      omega
    · rw [if_neg hxv] at hx
      have h1 := hρ x s hx u hu
      by_cases hh : ∃ s, mget m x = some s ∧ Reach m v (flat s)
      · have hx1 : (x = v ∨ ∃ s, mget m x = some s ∧ Reach m v (flat s)) := .inr hh
        rw [if_pos hx1]
        split <;> omega
      · have hu1 : ¬ (u = v ∨ ∃ s, mget m u = some s ∧ Reach m v (flat s)) := by
          rintro (q | ⟨s', q1, q2⟩)
          · exact hh ⟨s, hx, .here (q ▸ hu)⟩
          · exact hh ⟨s, hx, .via hu q1 q2⟩
        rw [if_neg hu1]
        omega
/-- walking keeps what is reached -/
theorem wk_reach {sub : List Binding} {m : List (Int × Tm)} (hr : Rel sub m) {v : Int} (e : mget m v = none) {t u : Tm} (h : Wk m t u) (hw : Wf t) : Reach m v (flat t) ↔ Reach m v (flat u) := by
  induction h with
  | stop _ => exact Iff.rfl
  | @step t s u h0 h _ ih =>
    rw [← ih (hr.wf _ _ h).1]
    have hv := (vs_var hw h0).2
    constructor
    · intro q
      cases q with
      | here q =>
        rw [hv] at q
        have : v = t.n := by simpa using q
        rw [this, h] at e; cases e
      | @via _ y _ q e1 hs =>
        rw [hv] at q
        have : y = t.n := by simpa using q
        rw [this, h] at e1
        injection e1 with e1
        exact e1 ▸ hs
    · intro q
      exact .via (by rw [hv]; simp) h q
theorem wk_rank {sub : List Binding} {m : List (Int × Tm)} (hr : Rel sub m) {ρ : Int → Nat} (hρ : ∀ v t, mget m v = some t → ∀ u, u ∈ vs (flat t) → ρ u < ρ v) {t u : Tm} (h : Wk m t u) (hw : Wf t) {R : Nat} (hR : ∀ x, x ∈ vs (flat t) → ρ x < R) : (∀ x, x ∈ vs (flat u) → ρ x < R) ∧ (u = t ∨ ∃ R', R' < R ∧ ∀ x, x ∈ vs (flat u) → ρ x < R') := by
  induction h generalizing R with
  | stop _ => exact ⟨hR, .inl rfl⟩
  | @step t s u h0 h _ ih =>
    have hv := (vs_var hw h0).2
    have h1 := hR t.n (by rw [hv]; simp)
    obtain ⟨a, _⟩ := ih (hr.wf _ _ h).1 (R := ρ t.n) (hρ _ _ h)
    exact ⟨fun x hx => Nat.lt_trans (a x hx) h1, .inr ⟨ρ t.n, h1, a⟩⟩
end Go.Proofs.Ytognefkopbbdnaa
