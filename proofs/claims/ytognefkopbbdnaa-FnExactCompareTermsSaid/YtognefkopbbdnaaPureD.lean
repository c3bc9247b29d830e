import Derived.Test.YtognefkopbbdnaaPureC2
namespace Go.Proofs.Ytognefkopbbdnaa
open Go.Sx
set_option linter.unusedVariables false
/-! ### FnExactCompareTerms -/
theorem valid_tree (xs : List Cell) (k : Nat) (h : spec_ValidTerm.f k xs = some true) : xs.length ≤ 2000 ∧ ∃ t, flat t = xs ∧ Wf t := by
  rw [spec_ValidTerm.f] at h
  split at h
  · simp at h
  · rename_i hl
    have hl' : xs.length ≤ 2000 := by omega
    obtain ⟨ts, e1, e2, e3⟩ := valid_trees xs hl' xs.length k 0 1 rfl (by omega) (by omega) h
    refine ⟨hl', ?_⟩
    match ts, e1, e2, e3 with
    | [t], _, e2, e3 =>
      refine ⟨t, by simpa [flats] using e2, ?_⟩
      simp only [Wfs] at e3
      exact e3.1
theorem tree_flat (t : Tm) (k : Nat) (hw : Wf t) (hl : (flat t).length ≤ 2000) (hk : 6000 < k) : impl_tree.f k (flat t) = some t := by
  rw [impl_tree.f]
  have := from_flat t k [] hw (by omega) (by simpa using hl)
  rw [List.append_nil] at this
  rw [this]; rfl
theorem compareTerms_eq (xs ys : List Cell) (k : Nat) (hx : xs.length ≤ 1048576) (hy : ys.length ≤ 1048576) (hk : 2000000 < k) : impl_CompareTerms.f k xs ys = spec_CompareTerms.f k xs ys ∧ ∃ v, spec_CompareTerms.f k xs ys = some v := by
  obtain ⟨a1, b1, a2⟩ := valid_eq xs k (by omega) (by omega)
  obtain ⟨c1, b2, c2⟩ := valid_eq ys k (by omega) (by omega)
  rw [impl_CompareTerms.f, spec_CompareTerms.f, a1, a2, c1, c2, Option.bind_some, Option.bind_some, Option.bind_some, Option.bind_some]
  cases b1 with
  | false => exact ⟨rfl, _, rfl⟩
  | true =>
    cases b2 with
    | false => exact ⟨rfl, _, rfl⟩
    | true =>
      obtain ⟨hl1, t, rfl, w1⟩ := valid_tree xs k a2
      obtain ⟨hl2, u, rfl, w2⟩ := valid_tree ys k c2
      obtain ⟨v, e1, e2⟩ := cmp_flat t u k w1 w2 (by omega) hl1
      have e3 := e2 [] []
      rw [List.append_nil, List.append_nil] at e3
      have e4 : cmp (flat t) (flat u) = v := by
        rw [e3]
        split
        · rfl
        · rename_i hv
          have : v = 0 := by simpa using hv
          rw [this]; rfl
      rw [if_neg (by simp), if_neg (by simp), if_neg (by simp), if_neg (by simp), tree_flat t k w1 hl1 (by omega), tree_flat u k w2 hl2 (by omega), l2compare_val _ _ k hl1 (by omega), e4, Option.bind_some, Option.bind_some, e1]
      exact ⟨rfl, _, rfl⟩
theorem compareTerms_true (xs ys : List Cell) (lx : xs.length ≤ 9223372036854775807) (ly : ys.length ≤ 9223372036854775807) (hx : ∀ c, c ∈ xs → c.text.length ≤ 9223372036854775807) (hy : ∀ c, c ∈ ys → c.text.length ≤ 9223372036854775807) :
    laws_FnExactCompareTerms.f 3000000 xs ys = some true := by
  obtain ⟨t, e1, h1⟩ := szCellS_val xs 3000000 1048576 (by omega) (by omega) lx hx (by omega)
  rw [laws_FnExactCompareTerms.f, e1, Option.bind_some]
  rcases h1 with h1 | ⟨p1, p2, p3, p4⟩
  · rw [if_pos h1]
  rw [if_neg (by omega)]
  obtain ⟨t2, e2, h2⟩ := szCellS_val ys 3000000 t p1 p2 ly hy (by omega)
  rw [e2, Option.bind_some]
  rcases h2 with h2 | ⟨q1, q2, q3, q4⟩
  · rw [if_pos h2]
  obtain ⟨g1, v, g2⟩ := compareTerms_eq xs ys 3000000 p3 q3 (by omega)
  rw [if_neg (by omega), toCellS_id xs _ p3 p4 (by omega), toCellS_id ys _ q3 q4 (by omega)]
  simp only [Option.bind_some]
  rw [g1, g2, eqCellS_id xs _ p3 p4 (by omega), eqCellS_id ys _ q3 q4 (by omega)]
  simp
end Go.Proofs.Ytognefkopbbdnaa
