import Derived.Test.YtognefkopbbdnaaPuUn1
namespace Go.Proofs.Ytognefkopbbdnaa
open Go.Sx Go.Sy
set_option linter.unusedVariables false
set_option linter.unusedSimpArgs false
set_option linter.unusedSectionVars false
set_option maxRecDepth 4000
/-! ### bindings as a map of trees; walking -/
def vs (cs : List Cell) : List Int := (cs.filter (fun c => decide (c.kind = 0))).map (·.n)
theorem mem_vs {cs : List Cell} {x : Int} : x ∈ vs cs ↔ ∃ c, c ∈ cs ∧ c.kind = 0 ∧ c.n = x := by
  unfold vs
  rw [List.mem_map]
  constructor
  · rintro ⟨c, h, rfl⟩
    rw [List.mem_filter, decide_eq_true_eq] at h
    exact ⟨c, h.1, h.2, rfl⟩
  · rintro ⟨c, h1, h2, rfl⟩
    exact ⟨c, List.mem_filter.2 ⟨h1, decide_eq_true h2⟩, rfl⟩
theorem vs_append (a b : List Cell) : vs (a ++ b) = vs a ++ vs b := by unfold vs; rw [List.filter_append, List.map_append]
theorem vs_var {t : Tm} (hw : Wf t) (h0 : t.kind = 0) : flat t = [⟨0, t.n, t.text⟩] ∧ vs (flat t) = [t.n] := by
  cases t with
  | mk k n s us =>
    have h0' : k = 0 := h0
    subst h0'
    simp only [Wf] at hw
    have hu : us = [] := hw.2.2.1 (by decide)
    subst hu
    exact ⟨rfl, rfl⟩
theorem flat_head (t : Tm) (z : Cell) : (flat t).getD 0 z = ⟨t.kind, t.n, t.text⟩ := by cases t; rfl
theorem mget_mset {v x : Int} {t : Tm} : ∀ (m : List (Int × Tm)), mget (mset m v t) x = if x = v then some t else mget m x
  | [] => by
    simp only [mset, mget]
    by_cases h : x = v
    · subst h; simp
    · rw [if_neg h, if_neg (fun e => h e.symm)]
  | p :: m => by
    simp only [mset]
    by_cases h : p.1 = v
    · rw [if_pos h]
      simp only [mget]
      by_cases hx : x = v
      · subst hx; simp
      · rw [if_neg (fun e => hx e.symm), if_neg hx, if_neg (fun e => hx (e.symm.trans h))]
    · rw [if_neg h]
      simp only [mget]
      by_cases hp : p.1 = x
      · rw [if_pos hp, if_pos hp, if_neg (fun e => h (hp.trans e))]
      · rw [if_neg hp, if_neg hp, mget_mset m]
theorem mset_new {v : Int} {t : Tm} : ∀ {m : List (Int × Tm)}, mget m v = none → mset m v t = m ++ [(v, t)]
  | [], _ => rfl
  | p :: m, h => by
    simp only [mget] at h
    by_cases hp : p.1 = v
    · rw [if_pos hp] at h; cases h
    · rw [if_neg hp] at h
      simp only [mset]
      rw [if_neg hp, mset_new h]; rfl
theorem mget_none {v : Int} : ∀ {m : List (Int × Tm)}, mget m v = none ↔ v ∉ m.map (·.1)
  | [] => by simp [mget]
  | p :: m => by
    simp only [mget]
    by_cases hp : p.1 = v
    · rw [if_pos hp]; simp [hp]
    · rw [if_neg hp, mget_none]; simp [hp, Ne.symm hp]
structure Rel (sub : List Binding) (m : List (Int × Tm)) : Prop where
  srt : srt sub
  keys : (m.map (·.1)).Perm (sub.map (·.var))
  term : ∀ b, b ∈ sub → ∃ t, mget m b.var = some t ∧ b.term = flat t
  wf : ∀ v t, mget m v = some t → Wf t ∧ (flat t).length ≤ 2000
  acyc : ∃ ρ : Int → Nat, ∀ v t, mget m v = some t → ∀ u, u ∈ vs (flat t) → ρ u < ρ v
theorem Rel.got {sub : List Binding} {m : List (Int × Tm)} (h : Rel sub m) {v : Int} {t : Tm} (e : mget m v = some t) : ∃ b, b ∈ sub ∧ b.var = v ∧ b.term = flat t := by
  have h1 : v ∈ m.map (·.1) := by
    by_cases q : v ∈ m.map (·.1)
    · exact q
    · rw [mget_none.2 q] at e; cases e
  obtain ⟨b, hb, rfl⟩ := List.mem_map.1 (h.keys.mem_iff.1 h1)
  obtain ⟨t', e1, e2⟩ := h.term b hb
  rw [e] at e1; injection e1 with e1
  exact ⟨b, hb, rfl, e1 ▸ e2⟩
theorem Rel.not {sub : List Binding} {m : List (Int × Tm)} (h : Rel sub m) {v : Int} (e : mget m v = none) : ∀ b, b ∈ sub → b.var ≠ v := fun b hb hv => by
  obtain ⟨t, e1, _⟩ := h.term b hb
  rw [hv, e] at e1; cases e1
/-- the reference's look for a variable -/
theorem Rel.idx {sub : List Binding} {m : List (Int × Tm)} (h : Rel sub m) (hl : sub.length ≤ 1000000) (v : Int) : (mget m v = none ∧ Ev (fun k => spec_l5index.f k sub v) (-1)) ∨ ∃ (t : Tm) (j : Nat) (hj : j < sub.length), mget m v = some t ∧ Ev (fun k => spec_l5index.f k sub v) (j : Int) ∧ sub[j].var = v ∧ sub[j].term = flat t := by
  obtain ⟨r, e1, e2⟩ := idx_val sub v h.srt hl
  rcases e2 with ⟨j, hj, rfl, e3⟩ | ⟨rfl, e3⟩
  · obtain ⟨t, e4, e5⟩ := h.term sub[j] (List.getElem_mem _)
    exact .inr ⟨t, j, hj, by rw [← e3]; exact e4, e1, e3, e5⟩
  · refine .inl ⟨?_, e1⟩
    cases e : mget m v with
    | none => rfl
    | some t =>
      obtain ⟨b, hb, hv, _⟩ := h.got e
      exact absurd hv (e3 b hb)
inductive Wk (m : List (Int × Tm)) : Tm → Tm → Prop
  | stop {t : Tm} (h : t.kind = 0 → mget m t.n = none) : Wk m t t
  | step {t s u : Tm} (h0 : t.kind = 0) (h : mget m t.n = some s) (hs : Wk m s u) : Wk m t u
theorem wk_ex {sub : List Binding} {m : List (Int × Tm)} (h : Rel sub m) : ∀ t : Tm, ∃ u, Wk m t u := by
  obtain ⟨ρ, hρ⟩ := h.acyc
  have key : ∀ (n : Nat) (t : Tm), t.kind = 0 → ρ t.n = n → ∃ u, Wk m t u := by
    intro n
    induction n using Nat.strongRecOn with
    | _ n ih =>
      intro t h0 hn
      cases e : mget m t.n with
      | none => exact ⟨t, .stop (fun _ => e)⟩
      | some s =>
        by_cases hs : s.kind = 0
        · have hv := (vs_var (h.wf _ _ e).1 hs).2
          have hlt := hρ t.n s e s.n (by rw [hv]; simp)
          obtain ⟨u, hu⟩ := ih (ρ s.n) (by omega) s hs rfl
          exact ⟨u, .step h0 e hu⟩
        · exact ⟨s, .step h0 e (.stop (fun q => absurd q hs))⟩
  intro t
  by_cases h0 : t.kind = 0
  · exact key _ t h0 rfl
  · exact ⟨t, .stop (fun q => absurd q h0)⟩
theorem wk_impl {m : List (Int × Tm)} {t u : Tm} (h : Wk m t u) : Ev (fun k => impl_walk.f k m t) u := by
  show Ev (fun k => impl_walk.l0 k m (some t)) u
  induction h with
  | @stop t h =>
    refine Ev.succ (fun k => ?_) (Ev.ret _)
    rw [impl_walk.l0, if_pos (show (some t).isSome = true from rfl)]
    show (if t.kind = 0 then _ else some t) = _
    by_cases h0 : t.kind = 0
    · rw [if_pos h0]
      show ((impl_bindings_get.f m t.n).bind _) = _
      rw [impl_bindings_get.f, h h0]; rfl
    · rw [if_neg h0]
  | @step t s u h0 h _ ih =>
    refine Ev.succ (fun k => ?_) ih
    rw [impl_walk.l0, if_pos (show (some t).isSome = true from rfl)]
    show (if t.kind = 0 then ((impl_bindings_get.f m t.n).bind _) else some t) = _
    rw [if_pos h0, impl_bindings_get.f, h]; rfl
theorem wk_spec {sub : List Binding} {m : List (Int × Tm)} (hr : Rel sub m) (hl : sub.length ≤ 1000000) (p : Int) {t u : Tm} (h : Wk m t u) (hw : Wf t ∧ (flat t).length ≤ 2000) : Ev (fun k => spec_l5walk.f k ⟨sub, p⟩ (flat t)) (flat u) ∧ Wf u ∧ (flat u).length ≤ 2000 ∧ (u.kind = 0 → mget m u.n = none) := by
  show Ev (fun k => spec_l5walk.l0 k ⟨sub, p⟩ (flat t)) (flat u) ∧ _
  induction h with
  | @stop t h =>
    refine ⟨?_, hw.1, hw.2, h⟩
    have hp := flat_pos t
    by_cases h0 : t.kind = 0
    · rcases hr.idx hl t.n with ⟨_, e⟩ | ⟨s, j, hj, e, _⟩
      · refine Ev.succ (h := fun k => (spec_l5index.f k sub t.n).bind fun t50 => (if t50 < 0 then some (flat t) else (if 0 ≤ t50 then (if t50 < (sub.length : Int) then (spec_l5walk.l0 k ⟨sub, p⟩ ((sub.getD ((t50).toNat) z63).term)) else none) else none))) (fun k => ?_) (Ev.bind e (Ev.of (fun k => if_pos (by decide)) (Ev.ret _)))
        rw [spec_l5walk.l0, if_pos (by omega), flat_head, if_pos h0]
      · rw [h h0] at e; cases e
    · refine Ev.succ (fun k => ?_) (Ev.ret _)
      rw [spec_l5walk.l0, if_pos (by omega), flat_head, if_neg h0]
  | @step t s u h0 h _ ih =>
    obtain ⟨i1, i2⟩ := ih (hr.wf _ _ h)
    refine ⟨?_, i2⟩
    have hp := flat_pos t
    rcases hr.idx hl t.n with ⟨e, _⟩ | ⟨s', j, hj, e, e2, e3, e4⟩
    · rw [h] at e; cases e
    · rw [h] at e; injection e with e
      subst e
      refine Ev.succ (h := fun k => (spec_l5index.f k sub t.n).bind fun t50 => (if t50 < 0 then some (flat t) else (if 0 ≤ t50 then (if t50 < (sub.length : Int) then (spec_l5walk.l0 k ⟨sub, p⟩ ((sub.getD ((t50).toNat) z63).term)) else none) else none))) (fun k => ?_) (Ev.bind e2 (Ev.of (fun k => ?_) i1))
      · rw [spec_l5walk.l0, if_pos (by omega), flat_head, if_pos h0]
      · rw [if_neg (by omega), if_pos (by omega), if_pos (by omega), Int.toNat_natCast, gd hj, e4]
end Go.Proofs.Ytognefkopbbdnaa
