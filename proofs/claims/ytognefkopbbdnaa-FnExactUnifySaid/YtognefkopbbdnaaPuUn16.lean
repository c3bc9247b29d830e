import Derived.Test.YtognefkopbbdnaaPuUn15
namespace Go.Proofs.Ytognefkopbbdnaa
open Go.Sx Go.Sy
set_option linter.unusedVariables false
set_option linter.unusedSimpArgs false
set_option linter.unusedSectionVars false
set_option maxRecDepth 4000
/-! ### the final loops -/
def fin : List (Int × List Cell) → List Binding → List Binding × Int
  | [], acc => (acc, 0)
  | (v, r) :: t, acc => if r.length ≤ 2000 then fin t (acc ++ [⟨v, r⟩]) else ([], 3)
theorem spec_fin {sub : List Binding} {m : List (Int × Tm)} (hr : Rel sub m) (hl : sub.length ≤ 1000) (p : Int) (c : Int) (rs : List (Int × List Cell)) (hlen : rs.length = sub.length) (hx : ∀ (j : Nat) (hj : j < sub.length), (rs[j]'(by omega)).1 = sub[j].var ∧ Xt m sub[j].term (rs[j]'(by omega)).2) :
    ∀ (d j : Nat) (acc : List Binding), sub.length - j = d → j ≤ sub.length → acc.length ≤ j → Ev (fun k => spec_Unify.l0 k (c, ⟨sub, p⟩) acc (j : Int)) (fin (rs.drop j) acc) := by
  intro d
  induction d with
  | zero =>
    intro j acc h1 h2 h3
    rw [List.drop_of_length_le (by omega)]
    exact Ev.succ (h := fun _ => some (acc, 0)) (fun k => by rw [spec_Unify.l0, if_neg (by simp; omega)]) (Ev.ret _)
  | succ d ih =>
    intro j acc h1 h2 h3
    have hj : j < sub.length := by omega
    have hd : rs.drop j = (rs[j]'(by omega)) :: rs.drop (j + 1) := List.drop_eq_getElem_cons (by omega)
    obtain ⟨x1, x2⟩ := hx j hj
    have w1 : IntKind.i64.wrap ((j : Int) + 1) = ((j + 1 : Nat) : Int) := by rw [wrap_id (by omega) (by omega)]; omega
    obtain ⟨t, et, ef⟩ := hr.term _ (List.getElem_mem hj)
    obtain ⟨wt, lt⟩ := hr.wf _ _ et
    have e1 : Ev (fun k => spec_l5whole_2.f k ⟨sub, p⟩ sub[j].term []) (upto [] (rs[j]'(by omega)).2) :=
      Ev.succ (fun k => by rw [spec_l5whole_2.f]; rfl) (whole_val hr (by omega) p x2 _ [] 0 (by simp) (by rw [ef]; exact lt) (by rw [ef]; exact fun d hd => Nat.le_trans (flat_ok _ wt d hd).text (by decide)) (by simp))
    refine Ev.succ (fun k => by rw [spec_Unify.l0, if_pos (by simp; omega), if_pos (by omega), Int.toNat_natCast]; dsimp only; rw [gd hj, w1]) (Ev.bind e1 ?_)
    rw [hd]
    by_cases h5 : (rs[j]'(by omega)).2.length ≤ 2000
    · have e5 : upto [] (rs[j]'(by omega)).2 = ((rs[j]'(by omega)).2, true) := by unfold upto; rw [if_pos (by simpa using h5)]; rfl
      rw [e5]
      refine Ev.of (fun k => by rw [if_neg (by simp), if_pos (by omega)]) ?_
      have := ih (j + 1) (acc ++ [⟨sub[j].var, (rs[j]'(by omega)).2⟩]) (by omega) (by omega) (by simp; omega)
      rw [fin, if_pos h5, x1]; exact this
    · have e5 : upto [] (rs[j]'(by omega)).2 = ([], false) := by unfold upto; rw [if_neg (by simpa using h5)]
      rw [e5]
      exact ret_ev fun k => by rw [if_pos (by simp), fin, if_neg h5]
end Go.Proofs.Ytognefkopbbdnaa
