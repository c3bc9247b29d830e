import Derived.Test.YtognefkopbbdnaaPuUn13
namespace Go.Proofs.Ytognefkopbbdnaa
open Go.Sx Go.Sy
set_option linter.unusedVariables false
set_option linter.unusedSimpArgs false
set_option linter.unusedSectionVars false
set_option maxRecDepth 4000
/-! ### the program's expansion, whole -/
theorem okc_nil {k n : Int} {s : List UInt8} (h : Okc ⟨k, n, s⟩) (h3 : ¬ k ≥ 2) : s = [] := by
  rcases h with h | h | h | h
  · exact h.2.2.2
  · exact h.2.2.2
  · have : k = 2 := h.1
    omega
  · have : k = 3 := h.1
    omega
theorem full_val {sub : List Binding} {m : List (Int × Tm)} (hr : Rel sub m) : ∀ (N : Nat) (t : Tm) (r out : List Cell), r.length ≤ N → Wf t ∧ (flat t).length ≤ 2000 → Xt m (flat t) r → out.length ≤ 2000 → Ev (fun k => impl_full_2.f k m t out 2000) (upto out r) := by
  intro N
  induction N with
  | zero =>
    intro t r out h1 hw x ho
    cases t with
    | mk k n s us =>
      simp only [flat] at x
      obtain ⟨u, hu⟩ := wk_ex hr (.mk k n s us)
      have xu := xt_walk hu hw.1 (fun v s e => (hr.wf v s e).1) (by simpa [flat] using x)
      have eu := wk_end hu
      cases u with
      | mk k' n' s' us' =>
        simp only [flat] at xu
        cases xu with
        | cell _ _ => simp at h1
        | var h e _ _ => rw [show mget m n' = none from eu h] at e; cases e
  | succ N IH =>
    intro t r out h1 hw x ho
    obtain ⟨u, hu⟩ := wk_ex hr t
    have xu := xt_walk hu hw.1 (fun v s e => (hr.wf v s e).1) x
    have eu := wk_end hu
    have wu := wk_wf hr hu hw
    refine Ev.succ (fun k => by rw [impl_full_2.f]) (Ev.bind (wk_impl hu) ?_)
    cases u with
    | mk k' n' s' us' =>
      simp only [flat] at xu
      cases xu with
      | var h e _ _ => rw [show mget m n' = none from eu h] at e; cases e
      | @cell _ _ r' h xr =>
        simp only [List.length_cons] at h1
        by_cases h2 : (out.length : Int) ≥ 2000
        · exact ret_ev fun k => by rw [if_pos h2, upto, if_neg (by simp; omega)]
        · refine Ev.of (fun k => if_neg h2) ?_
          have e1 := full_args IH (.mk k' n' s' us') wu us'.length 0 r' (out ++ [⟨k', n', s'⟩]) rfl (Nat.zero_le _) (by omega) xr (by simp; omega)
          have e6 : upto (out ++ [⟨k', n', s'⟩]) r' = upto out (⟨k', n', s'⟩ :: r') := by
            unfold upto; simp only [List.length_append, List.length_cons, List.length_nil, List.append_assoc, List.singleton_append]
            rw [show out.length + (0 + 1) + r'.length = out.length + (r'.length + 1) by omega]
          rw [e6] at e1
          have e2 : Ev (fun k => impl_full_2.l0 k m out 2000 (.mk k' n' s' us') s') (upto out (⟨k', n', s'⟩ :: r')) :=
            Ev.succ (fun k => by rw [impl_full_2.l0, if_pos (by omega)]; rfl) e1
          have hc := flat_ok _ wu.1 ⟨k', n', s'⟩ (by simp [flat])
          by_cases h3 : (Tm.mk k' n' s' us').kind ≥ 2
          · exact Ev.of (fun k => by rw [if_pos h3, if_pos (show (Tm.mk k' n' s' us').text.length ≤ 9223372036854775807 from Nat.le_trans hc.text (by decide))]; rfl) e2
          · have hs : s' = [] := okc_nil hc h3
            subst hs
            exact Ev.of (fun k => by rw [if_neg h3]) e2
end Go.Proofs.Ytognefkopbbdnaa
