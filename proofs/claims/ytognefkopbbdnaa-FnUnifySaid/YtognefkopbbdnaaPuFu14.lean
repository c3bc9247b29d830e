import Derived.Test.YtognefkopbbdnaaPuFu13
namespace Go.Proofs.Ytognefkopbbdnaa
open Go.Sx Go.Sy
set_option linter.unusedVariables false
set_option linter.unusedSimpArgs false
set_option linter.unusedSectionVars false
set_option maxRecDepth 4000
/-! ### the second half: what subsumes, unifies -/
def sh (c : Cell) : Cell := if c.kind = 0 then { c with n := c.n + 2000 } else c
def θ2 (v : Int) : List Cell := if v ≤ 900000 then [⟨0, v + 2000, []⟩] else [⟨0, 0, []⟩]
theorem th_var {v : Int} (h0 : 0 ≤ v) (h1 : v ≤ 1000000) : ∃ τ, Wf τ ∧ ([⟨0, v, []⟩] : List Cell) = flat τ :=
  ⟨.mk 0 v [] [], by simp only [Wf, Wfs]; exact ⟨.inl ⟨rfl, h0, h1, rfl⟩, by simp, by simp, trivial⟩, by simp [flat, flats]⟩
theorem th2 : Th θ2 := fun v h0 h1 => by
  unfold θ2
  by_cases h : v ≤ 900000
  · rw [if_pos h]; exact th_var (by omega) (by omega)
  · rw [if_neg h]; exact th_var (by omega) (by omega)
theorem sh_sx : ∀ cs : List Cell, Vt cs → (∀ c, c ∈ cs → c.kind = 0 → c.n ≤ 900000) → sx θ2 cs = cs.map sh
  | [], _, _ => rfl
  | c :: cs, hv, hb => by
    rw [sx_cons, sh_sx cs (fun d hd => hv d (.tail _ hd)) (fun d hd => hb d (.tail _ hd)), List.map_cons]
    unfold sh
    by_cases h0 : c.kind = 0
    · rw [if_pos h0, if_pos h0]
      unfold θ2
      rw [if_pos (hb c (.head _) h0), hv c (.head _) h0]; rfl
    · rw [if_neg h0, if_neg h0]; rfl
theorem sx_comp {θ α β : Int → List Cell} : ∀ cs : List Cell, (∀ c, c ∈ cs → c.kind = 0 → θ c.n = sx β (α c.n)) → sx θ cs = sx β (sx α cs)
  | [], _ => rfl
  | c :: cs, h => by
    rw [sx_cons, sx_cons, sx_app, sx_comp cs fun d hd => h d (.tail _ hd)]
    by_cases h0 : c.kind = 0
    · rw [if_pos h0, if_pos h0, h c (.head _) h0]
    · rw [if_neg h0, if_neg h0, sx_cons, if_neg h0]; rfl
theorem apart_ok {g s : Tm} (hg : Wf g ∧ (flat g).length ≤ 2000) (hs : Wf s ∧ (flat s).length ≤ 2000) (hm : (matchT g [] s).1 = true) (h1 : ∀ c, c ∈ flat g → c.kind = 0 → c.n < 2000) (h2 : ∀ c, c ∈ flat s → c.kind = 0 → c.n ≤ 900000) : ∃ r : List Binding × Int, (r.2 = 0 ∨ r.2 = 3) ∧ Ev (fun k => impl_Unify.f k (flat g) ((flat s).map sh)) r := by
  obtain ⟨α, a1, a2⟩ := (match_iff hg.1 hs.1).1 hm
  obtain ⟨s2, b1, b2⟩ := sx_tree th2 s hs.1
  have hvs := vt_ok (flat_ok s hs.1)
  have b3 := sh_sx (flat s) hvs h2
  have hs2 : Wf s2 ∧ (flat s2).length ≤ 2000 := ⟨b1, by rw [b2, b3, List.length_map]; exact hs.2⟩
  have hth : Th (fun v => if v < 2000 then sx θ2 (α v) else [⟨0, v, []⟩]) := fun v h0 h1 => by
    show ∃ τ, Wf τ ∧ (if v < 2000 then sx θ2 (α v) else [⟨0, v, []⟩]) = flat τ
    by_cases h : v < 2000
    · rw [if_pos h]
      obtain ⟨τ, c1, c2⟩ := a1 v h0 h1
      obtain ⟨τ', d1, d2⟩ := sx_tree th2 τ c1
      exact ⟨τ', d1, by rw [c2, d2]⟩
    · rw [if_neg h]; exact th_var h0 h1
  have e1 : sx (fun v => if v < 2000 then sx θ2 (α v) else [⟨0, v, []⟩]) (flat g) = flat s2 := by
    rw [sx_comp (α := α) (β := θ2) (flat g) fun c hc h0 => if_pos (h1 c hc h0), a2, b2]
  have e2 : sx (fun v => if v < 2000 then sx θ2 (α v) else [⟨0, v, []⟩]) (flat s2) = flat s2 := by
    apply sx_self
    intro c hc h0
    have hv := vt_ok (flat_ok s2 b1) c hc h0
    have hc2 := hc
    rw [b2, b3] at hc2
    obtain ⟨d, hd, rfl⟩ := List.mem_map.1 hc2
    have hn : 2000 ≤ (sh d).n := by
      unfold sh at h0 ⊢
      by_cases hk : d.kind = 0
      · rw [if_pos hk]
        have := okc_rng (flat_ok s hs.1 d hd) hk
        show 2000 ≤ d.n + 2000; omega
      · rw [if_neg hk] at h0; exact absurd h0 hk
    show (if (sh d).n < 2000 then sx θ2 (α (sh d).n) else [⟨0, (sh d).n, []⟩]) = [sh d]
    rw [if_neg (by omega), ← hv]
  obtain ⟨c, m, p, sub, r, hrun, hr, ha, _⟩ := spec_unify_val hg hs2
  have hok := run_ok hrun hth (fun v t e => by cases e) (fun q hq => by rw [List.mem_singleton.1 hq]; exact ⟨hg, hs2⟩) (fun v t e => by cases e) (fun q hq => by rw [List.mem_singleton.1 hq]; exact e1.trans e2.symm)
  have hv := impl_unify_val hg hs2 hrun hr ha
  rw [b2, b3] at hv
  refine ⟨r, ?_, hv⟩
  rcases uni_of hg hs2 hrun hr ha with ⟨q1, q2⟩ | ⟨_, q⟩ | ⟨_, q, _⟩
  · rcases hok with h | h
    · exact absurd h q2
    · exact .inr (q1.trans h)
  · exact .inr q
  · exact .inl q
theorem ev_subs {t u : Tm} (ht : Wf t ∧ (flat t).length ≤ 2000) (hu : Wf u ∧ (flat u).length ≤ 2000) : Ev (fun k => impl_Subsumes.f k (flat t) (flat u)) (matchT t [] u).1 ∧ Ev (fun k => spec_Subsumes.f k (flat t) (flat u)) (matchT t [] u).1 :=
  ⟨⟨3000001, fun k hk => (subs_val ht hu k (by omega)).1⟩, 3000001, fun k hk => (subs_val ht hu k (by omega)).2⟩
theorem l3_true {g s : Tm} (hg : Wf g ∧ (flat g).length ≤ 2000) (hs : Wf s ∧ (flat s).length ≤ 2000) (hm : (matchT g [] s).1 = true) (h1 : ∀ c, c ∈ flat g → c.kind = 0 → c.n < 2000) : Ev (fun k => laws_FnUnify.l3 k (flat g, flat s) (flat g, flat s) 0 (flat s)) true := by
  have hl := hs.2
  have key : ∀ (m i : Nat), (flat s).length - i = m → i ≤ (flat s).length → (∀ c, c ∈ (flat s).take i → c.kind = 0 → c.n ≤ 900000) → Ev (fun k => laws_FnUnify.l3 k (flat g, flat s) (flat g, flat s) (i : Int) (((flat s).take i).map sh ++ (flat s).drop i)) true := by
    intro m
    induction m with
    | zero =>
      intro i q1 q2 q3
      obtain rfl : i = (flat s).length := by omega
      rw [List.take_length] at q3
      rw [List.take_length, List.drop_length, List.append_nil]
      obtain ⟨r, r1, r2⟩ := apart_ok hg hs hm h1 q3
      refine Ev.succ (fun k => by rw [laws_FnUnify.l3, if_neg (by show ¬ ((flat s).length : Int) < ((flat s).length : Int); omega)]) (Ev.bind r2 (Ev.bind (ev_subs hg hs).1 ?_))
      refine Ev.of (fun k => if_pos hm) ?_
      have hvar : Ev (fun k => impl_Variant.f k (flat g) (flat s)) (decide ((flat g).length = (flat s).length ∧ rn (flat g) = rn (flat s))) := ⟨3000001, fun k hk => variant_val hg hs k (by omega)⟩
      rw [variant_iff hg.1 hs.1 hm] at hvar
      have fin : Ev (fun k => (impl_Variant.f k (flat g) (flat s)).bind fun t827 => ((impl_Subsumes.f k (flat s) (flat g)).bind fun t839 => some (decide (t827 = t839)))) true :=
        Ev.bind hvar (Ev.bind (ev_subs hs hg).1 (ret_ev fun k => by simp))
      rcases r1 with h | h
      · exact Ev.of (fun k => if_pos h) fin
      · exact Ev.of (fun k => by rw [if_neg (by rw [h]; decide), if_pos h]) fin
    | succ m ih =>
      intro i q1 q2 q3
      have hi : i < (flat s).length := by omega
      have hd := List.drop_eq_getElem_cons hi
      have hA : (((flat s).take i).map sh).length = i := by rw [List.length_map, List.length_take]; omega
      have hgd : ((((flat s).take i).map sh) ++ (flat s).drop i).getD i z65 = (flat s)[i] := by
        rw [List.getD_eq_getElem?_getD, List.getElem?_append_right (by omega), hA, Nat.sub_self, hd]; rfl
      have hst : ∀ c, ((((flat s).take i).map sh) ++ (flat s).drop i).set i c = (((flat s).take i).map sh) ++ c :: (flat s).drop (i + 1) := fun c => by
        rw [List.set_append_right _ _ (by omega), hA, Nat.sub_self, hd]; rfl
      have htk : (flat s).take (i + 1) = (flat s).take i ++ [(flat s)[i]] := by rw [List.take_add_one, List.getElem?_eq_getElem hi]; rfl
      have hrec : ((flat s)[i].kind = 0 → (flat s)[i].n ≤ 900000) → Ev (fun k => laws_FnUnify.l4 k (flat g, flat s) (flat g, flat s) (i : Int) ((((flat s).take i).map sh) ++ sh (flat s)[i] :: (flat s).drop (i + 1))) true := fun hb => by
        refine Ev.succ (fun k => by rw [laws_FnUnify.l4, wrap_nat (by omega)]) ?_
        have := ih (i + 1) (by omega) (by omega) (fun c hc h0 => by
          rw [htk] at hc
          rcases List.mem_append.1 hc with hc | hc
          · exact q3 c hc h0
          · rw [List.mem_singleton.1 hc] at h0 ⊢; exact hb h0)
        rw [htk, List.map_append, List.append_assoc] at this
        exact this
      refine Ev.succ (fun k => by rw [laws_FnUnify.l3, if_pos (by show (i : Int) < ((flat s).length : Int); omega), if_pos (by omega), Int.toNat_natCast, hgd, hst]) ?_
      by_cases h0 : (flat s)[i].kind = 0
      · refine Ev.of (fun k => if_pos h0) ?_
        by_cases hb : (flat s)[i].n > 900000
        · exact ret_ev fun k => if_pos hb
        · have := hrec fun _ => by omega
          have hsh : sh (flat s)[i] = { (flat s)[i] with n := (flat s)[i].n + 2000 } := by unfold sh; rw [if_pos h0]
          rw [hsh] at this
          have hrng := okc_rng (flat_ok s hs.1 _ (List.getElem_mem hi)) h0
          exact Ev.of (fun k => by rw [if_neg hb, wrap_id (n := (flat s)[i].n + 2000) (by omega) (by omega)]) this
      · have := hrec fun h => absurd h h0
        have hsh : sh (flat s)[i] = (flat s)[i] := by unfold sh; rw [if_neg h0]
        rw [hsh, ← hd] at this
        exact Ev.of (fun k => if_neg h0) this
  have := key (flat s).length 0 rfl (Nat.zero_le _) (fun c hc => by simp at hc)
  simpa using this
theorem l2_true {g s : Tm} (hg : Wf g ∧ (flat g).length ≤ 2000) (hs : Wf s ∧ (flat s).length ≤ 2000) (hm : (matchT g [] s).1 = true) : Ev (fun k => laws_FnUnify.l2 k (flat g, flat s) (flat g, flat s) 0) true := by
  have hl := hg.2
  have key : ∀ (m i : Nat), (flat g).length - i = m → i ≤ (flat g).length → (∀ c, c ∈ (flat g).take i → c.kind = 0 → c.n < 2000) → Ev (fun k => laws_FnUnify.l2 k (flat g, flat s) (flat g, flat s) (i : Int)) true := by
    intro m
    induction m with
    | zero =>
      intro i q1 q2 q3
      obtain rfl : i = (flat g).length := by omega
      rw [List.take_length] at q3
      exact Ev.succ (fun k => by rw [laws_FnUnify.l2, if_neg (by show ¬ ((flat g).length : Int) < ((flat g).length : Int); omega)]) (l3_true hg hs hm q3)
    | succ m ih =>
      intro i q1 q2 q3
      have hi : i < (flat g).length := by omega
      have htk : (flat g).take (i + 1) = (flat g).take i ++ [(flat g)[i]] := by rw [List.take_add_one, List.getElem?_eq_getElem hi]; rfl
      have hrec : ((flat g)[i].kind = 0 → (flat g)[i].n < 2000) → Ev (fun k => laws_FnUnify.l2 k (flat g, flat s) (flat g, flat s) ((i + 1 : Nat) : Int)) true := fun hb =>
        ih (i + 1) (by omega) (by omega) fun c hc h0 => by
          rw [htk] at hc
          rcases List.mem_append.1 hc with hc | hc
          · exact q3 c hc h0
          · rw [List.mem_singleton.1 hc] at h0 ⊢; exact hb h0
      refine Ev.succ (fun k => by rw [laws_FnUnify.l2, if_pos (by show (i : Int) < ((flat g).length : Int); omega), if_pos (by omega), Int.toNat_natCast, getD_at hi, wrap_nat (by omega)]) ?_
      by_cases h0 : (flat g)[i].kind = 0
      · refine Ev.of (fun k => if_pos h0) ?_
        by_cases hb : (flat g)[i].n ≥ 2000
        · exact ret_ev fun k => if_pos hb
        · exact Ev.of (fun k => if_neg hb) (hrec fun _ => by omega)
      · exact Ev.of (fun k => if_neg h0) (hrec fun h => absurd h h0)
  exact key (flat g).length 0 rfl (Nat.zero_le _) (fun c hc => by simp at hc)
theorem l0_true (x : List UInt8) (hx : x.length ≤ 1048576) : Ev (fun k => laws_FnUnify.l0 k x) true := by
  obtain ⟨u, eu, hsm, eo⟩ := drawS_te x hx
  refine Ev.succ (fun k => by rw [laws_FnUnify.l0]) (Ev.bind eu ?_)
  by_cases hok : okT u.1 = true ∧ okT u.2 = true
  · obtain ⟨a1, g, a2, a3⟩ := (okT_iff _).1 hok.1
    obtain ⟨b1, s, b2, b3⟩ := (okT_iff _).1 hok.2
    have eo2 := eo hok.1 hok.2
    obtain ⟨u1, u2⟩ := u
    have a2 : flat g = u1 := a2
    have b2 : flat s = u2 := b2
    subst a2; subst b2
    have hg : Wf g ∧ (flat g).length ≤ 2000 := ⟨a3, a1⟩
    have hs : Wf s ∧ (flat s).length ≤ 2000 := ⟨b3, b1⟩
    refine Ev.bind (ev_subs hg hs).2 ?_
    by_cases hm : (matchT g [] s).1 = true
    · exact Ev.of (fun k => if_neg (not_not_intro hm)) (Ev.bind eo2 (l2_true hg hs hm))
    · refine Ev.of (fun k => if_pos hm) (Ev.bind eu (Ev.bind (ev_subs hg hs).1 (ret_ev fun k => ?_)))
      rw [decide_eq_true hm]
  · have hb : ∀ k, 3000001 ≤ k → impl_Subsumes.f k u.1 u.2 = some false ∧ spec_Subsumes.f k u.1 u.2 = some false := fun k hk => subs_bad u.1 u.2 k (by have := hsm.1; omega) (by have := hsm.2; omega) (by omega) hok
    have h1 : Ev (fun k => impl_Subsumes.f k u.1 u.2) false := ⟨3000001, fun k hk => (hb k hk).1⟩
    have h2 : Ev (fun k => spec_Subsumes.f k u.1 u.2) false := ⟨3000001, fun k hk => (hb k hk).2⟩
    exact Ev.bind h2 (Ev.of (fun k => if_pos (by simp)) (Ev.bind eu (Ev.bind h1 (ret_ev fun k => by simp))))
end Go.Proofs.Ytognefkopbbdnaa
