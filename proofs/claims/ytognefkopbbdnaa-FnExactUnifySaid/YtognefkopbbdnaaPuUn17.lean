import Derived.Test.YtognefkopbbdnaaPuUn16
namespace Go.Proofs.Ytognefkopbbdnaa
open Go.Sx Go.Sy
set_option linter.unusedVariables false
set_option linter.unusedSimpArgs false
set_option linter.unusedSectionVars false
set_option maxRecDepth 4000
theorem full_var {m : List (Int × Tm)} {sub : List Binding} (hr : Rel sub m) {v : Int} {t : Tm} (e : mget m v = some t) {out : List Cell} {q : List Cell × Bool} (h : Ev (fun k => impl_full_2.f k m t out 2000) q) : Ev (fun k => impl_full_2.f k m (.mk 0 v [] []) out 2000) q := by
  obtain ⟨u, hu⟩ := wk_ex hr t
  obtain ⟨K1, h1⟩ := wk_impl hu
  obtain ⟨K2, h2⟩ := wk_impl (Wk.step (t := .mk 0 v [] []) rfl e hu)
  obtain ⟨K3, h3⟩ := h
  refine ⟨K1 + K2 + K3 + 1, fun k hk => ?_⟩
  obtain ⟨k, rfl⟩ : ∃ j, k = j + 1 := ⟨k - 1, by omega⟩
  have a1 := h1 k (by omega)
  have a2 := h2 k (by omega)
  have a3 := h3 (k + 1) (by omega)
  simp only at a1 a2 a3
  rw [impl_full_2.f, a1] at a3
  show impl_full_2.f (k + 1) m (.mk 0 v [] []) out 2000 = some q
  rw [impl_full_2.f, a2]
  exact a3
theorem impl_fin {sub : List Binding} {m : List (Int × Tm)} (hr : Rel sub m) (hl : sub.length ≤ 1000) (c : Int) (rs : List (Int × List Cell)) (hlen : rs.length = sub.length) (hx : ∀ (j : Nat) (hj : j < sub.length), (rs[j]'(by omega)).1 = sub[j].var ∧ Xt m sub[j].term (rs[j]'(by omega)).2) :
    ∀ (d j : Nat) (acc : List Binding), sub.length - j = d → j ≤ sub.length → acc.length ≤ j → Ev (fun k => impl_Unify.l0 k (c, m) acc (j : Int)) (fin (rs.drop j) acc) := by
  have hk := skeys_rel hr
  intro d
  induction d with
  | zero =>
    intro j acc h1 h2 h3
    rw [List.drop_of_length_le (by omega)]
    exact Ev.succ (h := fun _ => some (acc, 0)) (fun k => by rw [impl_Unify.l0, if_neg (by simp [hk]; omega)]) (Ev.ret _)
  | succ d ih =>
    intro j acc h1 h2 h3
    have hj : j < sub.length := by omega
    have hd : rs.drop j = (rs[j]'(by omega)) :: rs.drop (j + 1) := List.drop_eq_getElem_cons (by omega)
    obtain ⟨x1, x2⟩ := hx j hj
    have w1 : IntKind.i64.wrap ((j : Int) + 1) = ((j + 1 : Nat) : Int) := by rw [wrap_id (by omega) (by omega)]; omega
    obtain ⟨t, et, ef⟩ := hr.term _ (List.getElem_mem hj)
    obtain ⟨wt, lt⟩ := hr.wf _ _ et
    have gk : (sub.map (·.var)).getD j (0 : Int) = sub[j].var := by rw [List.getD_eq_getElem?_getD, List.getElem?_map, List.getElem?_eq_getElem hj]; rfl
    rw [ef] at x2
    have e1 := full_var hr et (full_val hr _ t _ [] (Nat.le_refl _) ⟨wt, lt⟩ x2 (by simp))
    refine Ev.succ (fun k => by rw [impl_Unify.l0]; dsimp only; rw [hk, if_pos (by simp; omega), if_pos (by omega), Int.toNat_natCast, gk, w1, impl_variable.f, Option.bind_some]) (Ev.bind e1 ?_)
    rw [hd]
    by_cases h5 : (rs[j]'(by omega)).2.length ≤ 2000
    · have e5 : upto [] (rs[j]'(by omega)).2 = ((rs[j]'(by omega)).2, true) := by unfold upto; rw [if_pos (by simpa using h5)]; rfl
      rw [e5]
      refine Ev.of (fun k => by rw [if_neg (by simp), if_pos (by omega)]) ?_
      have := ih (j + 1) (acc ++ [⟨sub[j].var, (rs[j]'(by omega)).2⟩]) (by omega) (by omega) (by simp; omega)
      rw [fin, if_pos h5, x1]; exact this
    · have e5 : upto [] (rs[j]'(by omega)).2 = ([], false) := by unfold upto; rw [if_neg (by simpa using h5)]
      rw [e5]
      exact ret_ev fun k => by rw [if_pos (by simp), fin, if_neg h5]
end Go.Proofs.Ytognefkopbbdnaa
