import Derived.Test.YtognefkopbbdnaaPuUn4
namespace Go.Proofs.Ytognefkopbbdnaa
open Go.Sx Go.Sy
set_option linter.unusedVariables false
set_option linter.unusedSimpArgs false
set_option linter.unusedSectionVars false
set_option maxRecDepth 4000
/-! ### the reference's search for a variable -/
def Hit (m : List (Int × Tm)) (v y : Int) : Prop := y = v ∨ ∃ s, mget m y = some s ∧ Reach m v (flat s)
theorem reach_hit {m : List (Int × Tm)} {v : Int} {cs : List Cell} : Reach m v cs ↔ ∃ y, y ∈ vs cs ∧ Hit m v y := by
  constructor
  · intro h
    cases h with
    | here h => exact ⟨v, h, .inl rfl⟩
    | via h e hs => exact ⟨_, h, .inr ⟨_, e, hs⟩⟩
  · rintro ⟨y, h, rfl | ⟨s, e, hs⟩⟩
    · exact .here h
    · exact .via h e hs
structure Inv (sub : List Binding) (m : List (Int × Tm)) (ρ : Int → Nat) (v : Int) (T : Prop) (pend : List Int) (seen : List Bool) : Prop where
  sound : ∀ y, y ∈ pend → Hit m v y → T
  full : T → ∃ y, y ∈ pend ∧ Hit m v y
  back : ∀ j (hj : j < sub.length), seen.getD j false = true → Hit m v sub[j].var → ∃ y, y ∈ pend ∧ ρ y < ρ sub[j].var ∧ Hit m v y
section
variable {sub : List Binding} {m : List (Int × Tm)} {ρ : Int → Nat} {v : Int} {T : Prop} {pend pend' : List Int} {seen : List Bool}
theorem Inv.congr (h : Inv sub m ρ v T pend seen) (he : ∀ y, y ∈ pend ↔ y ∈ pend') : Inv sub m ρ v T pend' seen :=
  ⟨fun y hy => h.sound y ((he y).2 hy), fun t => by obtain ⟨y, a, b⟩ := h.full t; exact ⟨y, (he y).1 a, b⟩, fun j hj hs hh => by obtain ⟨y, a, b⟩ := h.back j hj hs hh; exact ⟨y, (he y).1 a, b⟩⟩
/-- a variable that is no way to v -/
theorem Inv.miss {y : Int} (h : Inv sub m ρ v T (y :: pend) seen) (hy : ¬ Hit m v y) : Inv sub m ρ v T pend seen := by
  refine ⟨fun z hz => h.sound z (.tail _ hz), fun t => ?_, fun j hj hs hh => ?_⟩
  · obtain ⟨z, a, b⟩ := h.full t
    rcases List.mem_cons.1 a with rfl | a
    · exact absurd b hy
    · exact ⟨z, a, b⟩
  · obtain ⟨z, a, b, c⟩ := h.back j hj hs hh
    rcases List.mem_cons.1 a with rfl | a
    · exact absurd c hy
    · exact ⟨z, a, b, c⟩
/-- a variable whose term was seen -/
theorem Inv.again {j : Nat} (hj : j < sub.length) (hs : seen.getD j false = true) (h : Inv sub m ρ v T (sub[j].var :: pend) seen) : Inv sub m ρ v T pend seen := by
  have key : Hit m v sub[j].var → ∃ z, z ∈ pend ∧ ρ z < ρ sub[j].var ∧ Hit m v z := fun hh => by
    obtain ⟨z, a, b, c⟩ := h.back j hj hs hh
    rcases List.mem_cons.1 a with rfl | a
    · omega
    · exact ⟨z, a, b, c⟩
  refine ⟨fun z hz => h.sound z (.tail _ hz), fun t => ?_, fun i hi hs' hh => ?_⟩
  · obtain ⟨z, a, b⟩ := h.full t
    rcases List.mem_cons.1 a with rfl | a
    · obtain ⟨w, a', _, c'⟩ := key b; exact ⟨w, a', c'⟩
    · exact ⟨z, a, b⟩
  · obtain ⟨z, a, b, c⟩ := h.back i hi hs' hh
    rcases List.mem_cons.1 a with rfl | a
    · obtain ⟨w, a', b', c'⟩ := key c; exact ⟨w, a', by omega, c'⟩
    · exact ⟨z, a, b, c⟩
/-- a variable whose term is new -/
theorem Inv.open {j : Nat} (hj : j < sub.length) {s : Tm} (hv : sub[j].var ≠ v) (e : mget m sub[j].var = some s) (hρ : ∀ u, u ∈ vs (flat s) → ρ u < ρ sub[j].var) (hl : seen.length = sub.length) (h : Inv sub m ρ v T (sub[j].var :: pend) seen) : Inv sub m ρ v T (vs (flat s) ++ pend) (seen.set j true) := by
  have key : Hit m v sub[j].var → ∃ z, z ∈ vs (flat s) ∧ ρ z < ρ sub[j].var ∧ Hit m v z := fun hh => by
    rcases hh with hh | ⟨s', e', hh⟩
    · exact absurd hh hv
    · rw [e] at e'; injection e' with e'
      subst e'
      obtain ⟨z, a, b⟩ := reach_hit.1 hh
      exact ⟨z, a, hρ z a, b⟩
  refine ⟨fun z hz hh => ?_, fun t => ?_, fun i hi hs' hh => ?_⟩
  · rcases List.mem_append.1 hz with hz | hz
    · exact h.sound _ (.head _) (.inr ⟨s, e, reach_hit.2 ⟨z, hz, hh⟩⟩)
    · exact h.sound z (.tail _ hz) hh
  · obtain ⟨z, a, b⟩ := h.full t
    rcases List.mem_cons.1 a with rfl | a
    · obtain ⟨w, a', _, c'⟩ := key b; exact ⟨w, List.mem_append_left _ a', c'⟩
    · exact ⟨z, List.mem_append_right _ a, b⟩
  · by_cases hij : i = j
    · subst hij
      obtain ⟨w, a', b', c'⟩ := key hh
      exact ⟨w, List.mem_append_left _ a', b', c'⟩
    · have hs2 : seen.getD i false = true := by
        rw [List.getD_eq_getElem?_getD, List.getElem?_set_ne (fun q => hij q.symm)] at hs'
        rw [List.getD_eq_getElem?_getD]; exact hs'
      obtain ⟨z, a, b, c⟩ := h.back i hi hs2 hh
      rcases List.mem_cons.1 a with rfl | a
      · obtain ⟨w, a', b', c'⟩ := key c
        exact ⟨w, List.mem_append_left _ a', by omega, c'⟩
      · exact ⟨z, List.mem_append_right _ a, b, c⟩
end
theorem vs_cons (c : Cell) (cs : List Cell) : vs (c :: cs) = if c.kind = 0 then c.n :: vs cs else vs cs := by
  unfold vs
  by_cases h : c.kind = 0
  · rw [List.filter_cons_of_pos (by simpa using h), if_pos h]; rfl
  · rw [List.filter_cons_of_neg (by simpa using h), if_neg h]
theorem count_set {l : List Bool} {j : Nat} (hj : j < l.length) (h : l.getD j false = false) : (l.set j true).count false + 1 = l.count false := by
  induction l generalizing j with
  | nil => simp at hj
  | cons b l ih =>
    cases j with
    | zero =>
      have : b = false := by simpa using h
      subst this
      simp
    | succ j =>
      have := ih (j := j) (by simpa using hj) (by simpa using h)
      rw [List.set_cons_succ, List.count_cons, List.count_cons]; omega
end Go.Proofs.Ytognefkopbbdnaa
