import Derived.Test.YtognefkopbbdnaaPuUn19
namespace Go.Proofs.Ytognefkopbbdnaa
open Go.Sx Go.Sy
set_option linter.unusedVariables false
set_option linter.unusedSimpArgs false
set_option linter.unusedSectionVars false
set_option maxRecDepth 4000
/-! ### the answers are small -/
theorem xt_okc {m : List (Int × Tm)} (hm : ∀ v t, mget m v = some t → Wf t) {cs r : List Cell} (h : Xt m cs r) : (∀ c, c ∈ cs → Okc c) → ∀ c, c ∈ r → Okc c := by
  induction h with
  | nil => exact fun _ c hc => by cases hc
  | cell _ _ ih =>
    intro hc d hd
    rcases List.mem_cons.1 hd with rfl | hd
    · exact hc _ (.head _)
    · exact ih (fun c hc' => hc c (.tail _ hc')) d hd
  | var _ e _ _ ih1 ih2 =>
    intro hc d hd
    rcases List.mem_append.1 hd with hd | hd
    · exact ih1 (flat_ok _ (hm _ _ e)) d hd
    · exact ih2 (fun c hc' => hc c (.tail _ hc')) d hd
theorem fin_small : ∀ (rs : List (Int × List Cell)) (acc : List Binding), (∀ q, q ∈ rs → q.2.length ≤ 2000 → wCells q.2 ≤ 202000) → (∀ b, b ∈ acc → wCells b.term ≤ 202000) → (fin rs acc).1.length ≤ acc.length + rs.length ∧ ∀ b, b ∈ (fin rs acc).1 → wCells b.term ≤ 202000
  | [], acc, _, ha => ⟨by simp [fin], ha⟩
  | (v, r) :: t, acc, hr, ha => by
    rw [fin]
    by_cases h : r.length ≤ 2000
    · rw [if_pos h]
      obtain ⟨h1, h2⟩ := fin_small t (acc ++ [⟨v, r⟩]) (fun q hq => hr q (.tail _ hq)) (fun b hb => by
        rcases List.mem_append.1 hb with hb | hb
        · exact ha b hb
        · rw [List.mem_singleton.1 hb]; exact hr _ (.head _) h)
      refine ⟨?_, h2⟩
      simp only [List.length_append, List.length_cons, List.length_nil] at h1 ⊢
      omega
    · rw [if_neg h]
      exact ⟨by simp, fun b hb => by cases hb⟩
theorem ans_small {sub : List Binding} {m : List (Int × Tm)} (hr : Rel sub m) {c : Int} {r : List Binding × Int} (h : Ans c m sub r) : SmallB r.1 := by
  rcases h with ⟨_, rfl⟩ | ⟨_, _, rfl⟩ | ⟨_, hl, rs, hlen, hrs, rfl⟩
  · exact ⟨by simp, fun b hb => by cases hb⟩
  · exact ⟨by simp, fun b hb => by cases hb⟩
  · have hb : ∀ q, q ∈ rs → q.2.length ≤ 2000 → wCells q.2 ≤ 202000 := fun q hq h2 => by
      obtain ⟨j, hj, rfl⟩ := List.getElem_of_mem hq
      obtain ⟨_, hx⟩ := hrs j (by omega)
      obtain ⟨t, et, ef⟩ := hr.term _ (List.getElem_mem (show j < sub.length by omega))
      rw [ef] at hx
      have := wCells_ok (xt_okc (fun v t e => (hr.wf v t e).1) hx (flat_ok _ (hr.wf _ _ et).1))
      omega
    obtain ⟨h1, h2⟩ := fin_small rs [] hb (fun b hb => by cases hb)
    exact ⟨by simp only [List.length_nil] at h1; omega, h2⟩
theorem unify_eq (xs ys : List Cell) (hx : xs.length ≤ 1048576) (hy : ys.length ≤ 1048576) : ∃ (r : List Binding × Int) (K : Nat), SmallB r.1 ∧ ∀ k, K ≤ k → impl_Unify.f k xs ys = some r ∧ spec_Unify.f k xs ys = some r := by
  have s0 : SmallB ([] : List Binding) := ⟨by simp, fun b hb => by cases hb⟩
  cases h : okT xs with
  | false =>
    refine ⟨([], 1), 2000000, s0, fun k hk => ?_⟩
    rw [impl_Unify.f, spec_Unify.f, valid_val xs k (by omega) (by omega), valid_val' xs k (by omega) (by omega), h]
    exact ⟨rfl, rfl⟩
  | true =>
    cases h2 : okT ys with
    | false =>
      refine ⟨([], 1), 2000000, s0, fun k hk => ?_⟩
      rw [impl_Unify.f, spec_Unify.f, valid_val xs k (by omega) (by omega), valid_val' xs k (by omega) (by omega), h, valid_val ys k (by omega) (by omega), valid_val' ys k (by omega) (by omega), h2]
      exact ⟨rfl, rfl⟩
    | true =>
      obtain ⟨a1, t, rfl, a3⟩ := (okT_iff xs).1 h
      obtain ⟨b1, u, rfl, b3⟩ := (okT_iff ys).1 h2
      obtain ⟨c, m, p, sub, r, hrun, hr, ha, K1, e1⟩ := spec_unify_val ⟨a3, a1⟩ ⟨b3, b1⟩
      obtain ⟨K2, e2⟩ := impl_unify_val ⟨a3, a1⟩ ⟨b3, b1⟩ hrun hr ha
      exact ⟨r, K1 + K2, ans_small hr ha, fun k hk => ⟨e2 k (by omega), e1 k (by omega)⟩⟩
/-! ### the law -/
theorem unify_true (xs ys : List Cell) (lx : xs.length ≤ 9223372036854775807) (ly : ys.length ≤ 9223372036854775807) (hx : ∀ c, c ∈ xs → c.text.length ≤ 9223372036854775807) (hy : ∀ c, c ∈ ys → c.text.length ≤ 9223372036854775807) : ∃ k, laws_FnExactUnify.f k xs ys = some true := by
  by_cases h1 : left 1048576 (wCells xs) < 0
  · suffices H : ∀ k, 900000000 ≤ k → laws_FnExactUnify.f k xs ys = some true from ⟨_, H _ (Nat.le_refl _)⟩
    intro k hk
    rw [laws_FnExactUnify.f, szCellS_val xs _ _ (by omega) (by omega) lx hx (by omega), Option.bind_some, if_pos h1]
  have q1 := left_le h1
  by_cases h2 : left (left 1048576 (wCells xs)) (wCells ys) < 0
  · suffices H : ∀ k, 900000000 ≤ k → laws_FnExactUnify.f k xs ys = some true from ⟨_, H _ (Nat.le_refl _)⟩
    intro k hk
    rw [laws_FnExactUnify.f, szCellS_val xs _ _ (by omega) (by omega) lx hx (by omega), Option.bind_some, if_neg h1, szCellS_val ys _ _ q1.2.1 (by omega) ly hy (by omega), Option.bind_some, if_pos h2]
  have q2 := left_le h2
  have w1 : wCells xs ≤ 1048576 := by omega
  have w2 : wCells ys ≤ 1048576 := by omega
  obtain ⟨r, K, hs, e⟩ := unify_eq xs ys (wCells_len w1) (wCells_len w2)
  suffices H : ∀ k, K + 900000000 ≤ k → laws_FnExactUnify.f k xs ys = some true from ⟨_, H _ (Nat.le_refl _)⟩
  intro k hk
  obtain ⟨e1, e2⟩ := e k (by omega)
  have v1 := wts2 xs
  have v2 := wts2 ys
  obtain ⟨xm, m1, m2, m3⟩ := markCellS_val xs k 1 (by omega) (by omega) (by omega) (by omega)
  obtain ⟨ym, n1, n2, n3⟩ := markCellS_val ys k (1 + (wts (fun x : Cell => 2 + x.text.length) xs : Int)) (by omega) (by omega) (by omega) (by omega)
  obtain ⟨m, bs, b1, b2, b3, b4⟩ := markBindingS_val r.1 k hs (by omega)
  obtain ⟨o1, o2⟩ := heldBindingS_val bs k m (by rw [b2]; exact hs.1) (by omega) b3
  have eb := eqBindingS_id r.1 k hs (by omega)
  have ex := eqCellS_id xs k (by omega) (by omega)
  have ey := eqCellS_id ys k (by omega) (by omega)
  have tx := toCellS_id xs k w1 (by omega)
  have ty := toCellS_id ys k w2 (by omega)
  have z1 := szCellS_val xs k 1048576 (by omega) (by omega) lx hx (by omega)
  have z2 := szCellS_val ys k _ q1.2.1 (by omega) ly hy (by omega)
  have p1 : ¬ (1 + (wts (fun x : Cell => 2 + x.text.length) xs : Int) + (wts (fun x : Cell => 2 + x.text.length) ys : Int)) < 0 := by omega
  have p2 : ¬ m < 0 := by omega
  rw [laws_FnExactUnify.f, z1, Option.bind_some, if_neg h1, z2, Option.bind_some, if_neg h2, tx, Option.bind_some, ty, Option.bind_some, e2, Option.bind_some]
  simp only [Option.bind_some, e1, eb, ex, ey, m1, n1, b1, o1, if_neg p1, if_neg p2, ne_eq, not_true_eq_false, if_false]
end Go.Proofs.Ytognefkopbbdnaa
