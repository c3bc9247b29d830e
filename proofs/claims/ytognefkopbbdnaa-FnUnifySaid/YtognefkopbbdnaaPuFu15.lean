import Derived.Test.YtognefkopbbdnaaPuFu14
namespace Go.Proofs.Ytognefkopbbdnaa
open Go.Sx Go.Sy
set_option linter.unusedVariables false
set_option linter.unusedSimpArgs false
set_option linter.unusedSectionVars false
set_option maxRecDepth 4000
/-! ### the law -/
theorem l1_true (x : List UInt8) (hx : x.length ≤ 1048576) {a b z : Tm} (ha : Wf a ∧ (flat a).length ≤ 2000) (hb : Wf b ∧ (flat b).length ≤ 2000) (hz : Wf z ∧ (flat z).length ≤ 2000) (m1 : (matchT a [] z).1 = true) (m2 : (matchT b [] z).1 = true) (bs : List Binding) (ho : OkSub bs) (hl : bs.length ≤ 1000) : Ev (fun k => laws_FnUnify.l1 k x (flat a, flat b) (flat z, 0) bs bs 0) true := by
  have key : ∀ (m i : Nat), bs.length - i = m → i ≤ bs.length → Ev (fun k => laws_FnUnify.l1 k x (flat a, flat b) (flat z, 0) bs bs (i : Int)) true := by
    intro m
    induction m with
    | zero =>
      intro i q1 q2
      refine Ev.succ (fun k => by rw [laws_FnUnify.l1, if_neg (by omega)]) (Ev.bind (ev_subs ha hz).1 (Ev.of (fun k => if_neg (not_not_intro m1)) (Ev.bind (ev_subs hb hz).1 (Ev.of (fun k => if_neg (not_not_intro m2)) (l0_true x hx)))))
    | succ m ih =>
      intro i q1 q2
      have hi : i < bs.length := by omega
      obtain ⟨t1, t2, t3, t4⟩ := (okT_iff _).1 (ho i hi).1
      have hs : Ev (fun k => laws_sameT.f k bs[i].term bs[i].term) true := sameT_self _ (by omega) fun c hc => by
        rw [← t3] at hc
        exact Nat.le_trans (flat_ok t2 t4 c hc).text (by decide)
      exact Ev.succ (fun k => by rw [laws_FnUnify.l1, if_pos (by omega), if_pos (by omega), if_pos (by omega), Int.toNat_natCast, getD_at hi, wrap_nat (by omega), if_neg (by simp)]) (Ev.bind hs (Ev.of (fun k => if_neg (not_not_intro rfl)) (ih (i + 1) (by omega) (by omega))))
  exact key bs.length 0 rfl (Nat.zero_le _)
theorem fnunify_true (x : List UInt8) : ∃ k, laws_FnUnify.f k x = some true := by
  by_cases hx : (x.length : Int) > 1048576
  · exact ⟨0, by rw [laws_FnUnify.f, if_pos hx]⟩
  have hx2 : x.length ≤ 1048576 := by omega
  have e0 := l0_true x hx2
  suffices H : Ev (fun k => laws_FnUnify.f k x) true by
    obtain ⟨K, hK⟩ := H
    exact ⟨K, hK K (Nat.le_refl _)⟩
  obtain ⟨u, eu, hsm⟩ := drawU_te x hx2
  refine Ev.of (fun k => by rw [laws_FnUnify.f, if_neg hx]) (Ev.bind eu ?_)
  by_cases hok : okT u.1 = true ∧ okT u.2 = true
  · obtain ⟨a1, g, a2, a3⟩ := (okT_iff _).1 hok.1
    obtain ⟨b1, s, b2, b3⟩ := (okT_iff _).1 hok.2
    obtain ⟨u1, u2⟩ := u
    have a2 : flat g = u1 := a2
    have b2 : flat s = u2 := b2
    subst a2; subst b2
    have hg : Wf g ∧ (flat g).length ≤ 2000 := ⟨a3, a1⟩
    have hs : Wf s ∧ (flat s).length ≤ 2000 := ⟨b3, b1⟩
    obtain ⟨c, m, p, sub, r, hrun, hr, ha, es⟩ := spec_unify_val hg hs
    have ei := impl_unify_val hg hs hrun hr ha
    have eb := impl_unify_val hs hg (run_swap hrun) hr ha
    refine Ev.bind es (Ev.bind eu (Ev.bind ei (Ev.of (fun k => if_neg (not_not_intro rfl)) ?_)))
    have other : r.2 ≠ 0 → Ev (fun k => laws_FnUnify.l0 k x) true := fun _ => e0
    rcases uni_of hg hs hrun hr ha with ⟨q1, q2⟩ | ⟨_, q⟩ | ⟨_, q, θ, hU, hsx⟩
    · exact Ev.of (fun k => if_neg (fun h => q2 (q1.symm.trans h))) e0
    · exact Ev.of (fun k => if_neg (fun h => by rw [q] at h; exact absurd h (by decide))) e0
    · refine Ev.of (fun k => if_pos q) ?_
      obtain ⟨ra, fa, ga, ha'⟩ := apply_val hU hg
      obtain ⟨rb, fb, gb, hb'⟩ := apply_val hU hs
      rw [← hsx] at fb
      have hab : rb = ra := by rw [fa, fb]
      subst hab
      refine Ev.bind ga (Ev.bind gb ?_)
      by_cases hlen : (sx θ (flat g)).length ≤ 2000
      · rw [if_pos hlen] at fa
        subst fa
        obtain ⟨z, z1, z2⟩ := sx_tree hU.th g a3
        have hz : Wf z ∧ (flat z).length ≤ 2000 := ⟨z1, by rw [z2]; exact hlen⟩
        have hidem : sx θ (flat z) = flat z := by rw [z2]; exact hU.idem g a3
        obtain ⟨rz, fz, gz, _⟩ := apply_val hU hz
        rw [hidem, if_pos hz.2] at fz
        subst fz
        rw [← z2]
        have hsame : Ev (fun k => laws_sameT.f k (flat z) (flat z)) true := sameT_self _ (by have := hz.2; omega) fun c hc => Nat.le_trans (flat_ok z z1 c hc).text (by decide)
        have m1 := (match_sx hU.th g z [] a3 z1 z2 (mc_nil θ)).1
        have m2 := (match_sx hU.th s z [] b3 z1 (by rw [z2]; exact hsx) (mc_nil θ)).1
        refine Ev.of (fun k => by rw [if_neg (show ¬ ((0 : Int) = 3) by decide), if_neg (show ¬ ((0 : Int) = 3) by decide)]) (Ev.bind gz (Ev.bind eb ?_))
        refine Ev.of (fun k => by rw [if_neg (show ¬ ((0 : Int) ≠ 0) by decide), if_neg (show ¬ ((0 : Int) ≠ 0) by decide), if_neg (show ¬ ((0 : Int) ≠ 0) by decide), if_neg (not_not_intro q)]) ?_
        refine Ev.bind hsame (Ev.of (fun k => if_neg (not_not_intro rfl)) (Ev.bind hsame (Ev.of (fun k => if_neg (not_not_intro rfl)) (Ev.of (fun k => if_neg (not_not_intro rfl)) ?_))))
        exact l1_true x hx2 hg hs hz m1 m2 r.1 hU.ok hU.len
      · rw [if_neg hlen] at fa
        subst fa
        exact Ev.of (fun k => if_pos rfl) (Ev.bind ha' (Ev.bind hb' (ret_ev fun k => by rw [if_pos rfl]; simp)))
  · obtain ⟨r, K, _, hK⟩ : ∃ (r : List Binding × Int) (K : Nat), r.2 = 1 ∧ ∀ k, K ≤ k → impl_Unify.f k u.1 u.2 = some r ∧ spec_Unify.f k u.1 u.2 = some r := by
      have l1 := hsm.1
      have l2 := hsm.2
      refine ⟨([], 1), 2000000, rfl, fun k hk => ?_⟩
      rw [impl_Unify.f, spec_Unify.f, valid_val u.1 k (by omega) (by omega), valid_val' u.1 k (by omega) (by omega), valid_val u.2 k (by omega) (by omega), valid_val' u.2 k (by omega) (by omega)]
      cases h1 : okT u.1 with
      | false => exact ⟨rfl, rfl⟩
      | true =>
        cases h2 : okT u.2 with
        | false => exact ⟨rfl, rfl⟩
        | true => exact absurd ⟨h1, h2⟩ hok
    rename_i h1
    have ei : Ev (fun k => impl_Unify.f k u.1 u.2) r := ⟨K, fun k hk => (hK k hk).1⟩
    have es : Ev (fun k => spec_Unify.f k u.1 u.2) r := ⟨K, fun k hk => (hK k hk).2⟩
    refine Ev.bind es (Ev.bind eu (Ev.bind ei (Ev.of (fun k => if_neg (not_not_intro rfl)) (Ev.of (fun k => if_neg (fun h => ?_)) e0))))
    rw [h1] at h; exact absurd h (by decide)
end Go.Proofs.Ytognefkopbbdnaa
