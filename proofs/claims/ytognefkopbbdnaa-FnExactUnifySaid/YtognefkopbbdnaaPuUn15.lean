import Derived.Test.YtognefkopbbdnaaPuUn14
namespace Go.Proofs.Ytognefkopbbdnaa
open Go.Sx Go.Sy
set_option linter.unusedVariables false
set_option linter.unusedSimpArgs false
set_option linter.unusedSectionVars false
set_option maxRecDepth 4000
/-! ### the keys in order -/
theorem skeys_rel {sub : List Binding} {m : List (Int × Tm)} (hr : Rel sub m) : skeys m = sub.map (·.var) := by
  unfold skeys
  rw [isort_perm hr.keys]
  unfold isort
  refine List.mergeSort_of_pairwise ?_
  refine List.pairwise_map.2 (hr.srt.imp fun h => ?_)
  simp only [decide_eq_true_eq]
  omega
theorem rel_nil : Rel [] [] := by
  refine ⟨List.Pairwise.nil, List.Perm.nil, fun b h => absurd h (by simp), fun v t h => ?_, ⟨fun _ => 0, fun v t h => ?_⟩⟩
  · cases h
  · cases h
end Go.Proofs.Ytognefkopbbdnaa
