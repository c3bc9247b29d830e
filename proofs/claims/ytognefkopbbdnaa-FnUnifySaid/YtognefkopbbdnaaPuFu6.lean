import Derived.Test.YtognefkopbbdnaaPuFu5
namespace Go.Proofs.Ytognefkopbbdnaa
open Go.Sx Go.Sy
set_option linter.unusedVariables false
set_option linter.unusedSimpArgs false
set_option linter.unusedSectionVars false
set_option maxRecDepth 4000
/-! ### terms alike, and what is drawn -/
theorem alike_te (t : Tm) (hw : Wf t ∧ (flat t).length ≤ 2000) (r : GL4rd) (hr : RD r) : TE (fun k => spec_l13alike.f k (flat t) r) (fun u => u.1.length ≤ 3000 ∧ RD u.2) := by
  have hl := hw.2
  have hok := flat_ok t hw.1
  generalize hx : flat t = xs at hl hok
  refine TE.of (fun k => by rw [spec_l13alike.f]) ?_
  have key : ∀ (m i : Nat) (us : List Tm) (out : List Cell) (q : GL4rd), xs.length - i ≤ m → xs.drop i = flats us → i ≤ xs.length → Wfs us → out.length ≤ i → RD q → TE (fun k => spec_l13alike.l0 k xs out (i : Int) q.b_ q.i_) (fun u => u.1.length ≤ 3000 ∧ RD u.2) := by
    intro m
    induction m with
    | zero =>
      intro i us out q h1 h2 h3 h4 h5 h6
      exact TE.succ (fun k => by rw [spec_l13alike.l0, if_neg (by omega)]) (TE.ret ⟨by show out.length ≤ 3000; omega, h6⟩)
    | succ m ih =>
      intro i us out q h1 h2 h3 h4 h5 h6
      by_cases hi : i < xs.length
      · cases us with
        | nil => rw [flats, List.drop_eq_nil_iff] at h2; omega
        | cons u us =>
          simp only [Wfs] at h4
          have h2' : xs.drop i = flat u ++ flats us := h2
          have hp := flat_pos u
          have hdl := congrArg List.length h2'
          rw [List.length_drop, List.length_append] at hdl
          have hnext : TE (fun k => spec_l2next.f k xs (i : Int)) (fun j => j = ((i + (flat u).length : Nat) : Int)) := ⟨_, ⟨2002, fun k hk => next_at xs u i k (flats us) hl h4.1 h2' (by omega)⟩, rfl⟩
          have hd3 : xs.drop (i + (flat u).length) = flats us := by rw [← List.drop_drop, h2']; simp
          have hcell : TE (fun k => spec_l2copy.f k ((xs.drop ((i : Int).toNat)).take (((i + 1 : Nat) : Int).toNat - (i : Int).toNat))) (fun z => z.length = 1) := by
            rw [cut_one xs i hi]
            exact ⟨[xs[i]], ⟨2, fun k hk => l2copy_val _ k (by simp) (fun c hc => by rw [List.mem_singleton.1 hc]; exact Nat.le_trans (hok _ (List.getElem_mem hi)).text (by decide)) (by simp; omega)⟩, rfl⟩
          have hd1 : ∃ vs, xs.drop (i + 1) = flats vs ∧ Wfs vs := by
            cases u with
            | mk a n s ws =>
              have e := h2'
              rw [List.drop_eq_getElem_cons hi] at e
              simp only [flat, List.cons_append] at e
              have hw4 := h4.1
              simp only [Wf] at hw4
              exact ⟨ws ++ us, by rw [(List.cons.inj e).2, flats_append], (Wfs_append _ _).2 ⟨hw4.2.2.2, h4.2⟩⟩
          obtain ⟨vs, hv1, hv2⟩ := hd1
          have jump : ∀ (z : List Cell) (p : GL4rd), z.length = 1 → RD p → TE (fun k => if out.length + z.length ≤ 3518437208883 then ((spec_l2next.f k xs (i : Int)).bind fun t182 => (spec_l13alike.l0 k xs (out ++ z) t182 p.b_ p.i_)) else none) (fun u => u.1.length ≤ 3000 ∧ RD u.2) := fun z p hz hp2 =>
            TE.pos (by omega) (TE.bind hnext fun j hj => by
              subst hj
              exact ih _ us (out ++ z) p (by omega) hd3 (by omega) h4.2 (by simp; omega) hp2)
          have step : ∀ (p : GL4rd), RD p → TE (fun k => if 0 ≤ (i : Int) then (if (i : Int) ≤ (IntKind.i64.wrap ((i : Int) + 1)) then (if (IntKind.i64.wrap ((i : Int) + 1)) ≤ (xs.length : Int) then ((spec_l2copy.f k ((xs.drop ((i : Int).toNat)).take (((IntKind.i64.wrap ((i : Int) + 1)) : Int).toNat - (i : Int).toNat))).bind fun t196 => (if out.length + t196.length ≤ 3518437208883 then (spec_l13alike.l0 k xs (out ++ t196) (IntKind.i64.wrap ((i : Int) + 1)) p.b_ p.i_) else none)) else none) else none) else none) (fun u => u.1.length ≤ 3000 ∧ RD u.2) := fun p hp2 => by
            rw [wrap_nat (by omega)]
            refine TE.pos (by omega) (TE.pos (by omega) (TE.pos (by omega) (TE.bind hcell fun z hz => TE.pos (by omega) ?_)))
            exact ih (i + 1) vs (out ++ z) p (by omega) hv1 (by omega) hv2 (by simp; omega) hp2
          refine TE.succ (fun k => by rw [spec_l13alike.l0, if_pos (by omega)]) (TE.bind (next_te h6) fun a ⟨a1, a2, a3⟩ => TE.ite (fun c => ?_) fun c => ?_)
          · refine TE.of (fun k => by rw [spec_l4rd_left.f, Option.bind_some]) (TE.ite (fun c => ?_) fun c => TE.ite (fun c => TE.bind (atom_te (by simp)) fun z hz => ?_) fun c => step _ a3)
            · exact jump [_] a.2 rfl a3
            · exact jump z a.2 (by have := hz.1.1; have := List.length_pos_iff.2 hz.2; omega) a3
          · refine TE.ite (fun c => TE.bind (atom_te (by simp)) fun z hz => ?_) fun c => step _ a3
            exact jump z a.2 (by have := hz.1.1; have := List.length_pos_iff.2 hz.2; omega) a3
      · exact TE.succ (fun k => by rw [spec_l13alike.l0, if_neg (by omega)]) (TE.ret ⟨by show out.length ≤ 3000; omega, h6⟩)
  exact key xs.length 0 [t] [] r (by omega) (by simp [flats, hx]) (Nat.zero_le _) (by simp [Wfs, hw.1]) (by simp) hr
def Sm (u : List Cell × List Cell) : Prop := u.1.length ≤ 1000000 ∧ u.2.length ≤ 1000000
theorem valid_te {n : Nat} (xs : List Cell) (h : xs.length ≤ n) (hn : n ≤ 1000000) : TE (fun k => spec_ValidTerm.f k xs) (fun b => b = okT xs) := ⟨_, ⟨n + 1, fun k hk => valid_val xs k (by omega) (by omega)⟩, rfl⟩
theorem var_te (n : Int) : TE (fun _ => spec_l2var.f n) (fun t => TB 1 t ∧ t ≠ []) := TE.of (fun k => by rw [spec_l2var.f]) (TE.ret ⟨TB.one (Nat.zero_le _), by simp⟩)
theorem TB.mem_app {n : Nat} {L : List (List Cell)} (h : ∀ t, t ∈ L → TB n t) {M : List (List Cell)} (g : ∀ t, t ∈ M → TB n t) : ∀ t, t ∈ L ++ M → TB n t := fun t ht => (List.mem_append.1 ht).elim (h t) (g t)
theorem drawU_te (x : List UInt8) (h : x.length ≤ 1048576) : TE (fun k => spec_DrawUnify.f k x) Sm := by
  refine TE.of (fun k => by rw [spec_DrawUnify.f]) (TE.bind (open_te x h) fun r hr => TE.bind (next_te hr) fun a ⟨a1, a2, a3⟩ => TE.bind (any_te _ a3) fun t ht => ?_)
  have ht1 := ht.1.1
  refine TE.ite (fun c => TE.bind (any_te _ ht.2) fun u hu => TE.ret ⟨by show t.1.length ≤ _; omega, by have := hu.1.1; show u.1.length ≤ _; omega⟩) fun c => ?_
  refine TE.bind (valid_te t.1 ht1 (by omega)) fun v hv => ?_
  refine TE.ite (fun c => TE.bind (any_te _ ht.2) fun u hu => TE.ret ⟨by show t.1.length ≤ _; omega, by have := hu.1.1; show u.1.length ≤ _; omega⟩) fun c2 => ?_
  have one1 : ∀ n m : Nat, ∀ u : List Cell, TB n u → n ≤ m → ∀ t, t ∈ [u] → TB m t := fun n m u hu hn t ht => by rw [List.mem_singleton.1 ht]; exact hu.le hn
  have two2 : ∀ n m : Nat, ∀ u v : List Cell, TB n u → TB n v → n ≤ m → ∀ t, t ∈ [u, v] → TB m t := fun n m u v hu hv hn t ht => by
    rcases List.mem_cons.1 ht with rfl | ht
    · exact hu.le hn
    · rw [List.mem_singleton.1 ht]; exact hv.le hn
  refine TE.ite (fun c => TE.bind (next_te ht.2) fun e ⟨e1, e2, e3⟩ => ?_) fun c3 => TE.ite (fun c => TE.bind (next_te ht.2) fun e ⟨e1, e2, e3⟩ => ?_) fun c4 => ?_
  · have m12 := tmod_rng e1 (show (0 : Int) < 12 by omega)
    have hw : IntKind.i64.wrap (5 + Int.tmod e.1 12) = ((5 + Int.tmod e.1 12).toNat : Int) := by rw [wrap_id (by omega) (by omega)]; omega
    generalize hn : (5 + Int.tmod e.1 12).toNat = n at hw
    have key : ∀ (m i : Nat) (L R : List (List Cell)), n - i = m → i ≤ n → L.length = i → R.length = i → (∀ t, t ∈ L → TB 3 t) → (∀ t, t ∈ R → TB 3 t) → TE (fun k => spec_DrawUnify.l0 k e L R (i : Int)) Sm := by
      intro m
      induction m with
      | zero =>
        intro i L R h1 h2 h3 h4 h5 h6
        refine TE.succ (fun k => by rw [spec_DrawUnify.l0, hw, if_neg (by omega)]) (TE.bind (atom_te (by simp)) fun z hz => TE.bind (list_te L z 3 (by omega) (by omega) h5 (hz.1.le (by omega)) hz.2) fun p hp => TE.bind (atom_te (by simp)) fun z2 hz2 => TE.bind (list_te R z2 3 (by omega) (by omega) h6 (hz2.1.le (by omega)) hz2.2) fun q hq => TE.ret ⟨?_, ?_⟩)
        · have := hp.1.1; show p.length ≤ _; omega
        · have := hq.1.1; show q.length ≤ _; omega
      | succ m ih =>
        intro i L R h1 h2 h3 h4 h5 h6
        refine TE.succ (fun k => by rw [spec_DrawUnify.l0, hw, if_pos (by omega)]) (TE.bind (var_te _) fun z hz => TE.pos (by omega) (TE.bind (var_te _) fun z2 hz2 => TE.bind (var_te _) fun z3 hz3 => TE.bind (pair_te (by simp) hz2.1 hz3.1 (by omega)) fun z4 hz4 => TE.pos (by omega) ?_))
        rw [wrap_nat (by omega)]
        exact ih (i + 1) _ _ (by omega) (by omega) (by simp [h3]) (by simp [h4]) (TB.mem_app h5 (one1 _ _ _ hz.1 (by omega))) (TB.mem_app h6 (one1 _ _ _ hz4.1 (by omega)))
    exact key n 0 [] [] rfl (Nat.zero_le _) rfl rfl (fun t ht => by cases ht) (fun t ht => by cases ht)
  · have m10 := tmod_rng e1 (show (0 : Int) < 10 by omega)
    have hw : IntKind.i64.wrap (8 + Int.tmod e.1 10) = ((8 + Int.tmod e.1 10).toNat : Int) := by rw [wrap_id (by omega) (by omega)]; omega
    generalize hn : (8 + Int.tmod e.1 10).toNat = n at hw
    have key : ∀ (m i : Nat) (L R : List (List Cell)), n - i = m → i ≤ n → L.length = 2 * i → R.length = 2 * i → (∀ t, t ∈ L → TB 3 t) → (∀ t, t ∈ R → TB 3 t) → TE (fun k => spec_DrawUnify.l1 k e L R (i : Int)) Sm := by
      intro m
      induction m with
      | zero =>
        intro i L R h1 h2 h3 h4 h5 h6
        refine TE.succ (fun k => by rw [spec_DrawUnify.l1, hw, if_neg (by omega)]) (TE.bind (var_te _) fun y hy => TE.pos (by omega) (TE.bind (var_te _) fun y2 hy2 => TE.pos (by omega) (TE.bind (atom_te (by simp)) fun z hz => TE.bind (list_te (L ++ [y]) z 3 (by simp; omega) (by omega) (TB.mem_app h5 (one1 _ _ _ hy.1 (by omega))) (hz.1.le (by omega)) hz.2) fun p hp => TE.bind (atom_te (by simp)) fun z2 hz2 => TE.bind (list_te (R ++ [y2]) z2 3 (by simp; omega) (by omega) (TB.mem_app h6 (one1 _ _ _ hy2.1 (by omega))) (hz2.1.le (by omega)) hz2.2) fun q hq => TE.ret ⟨?_, ?_⟩)))
        · have := hp.1.1; rw [List.length_append, List.length_singleton] at this; show p.length ≤ _; omega
        · have := hq.1.1; rw [List.length_append, List.length_singleton] at this; show q.length ≤ _; omega
      | succ m ih =>
        intro i L R h1 h2 h3 h4 h5 h6
        refine TE.succ (fun k => by rw [spec_DrawUnify.l1, hw, if_pos (by omega)]) (TE.bind (var_te _) fun y hy => TE.bind (var_te _) fun y2 hy2 => TE.pos (by omega) (TE.bind (var_te _) fun z hz => TE.bind (var_te _) fun z2 hz2 => TE.bind (pair_te (by simp) hz.1 hz2.1 (by omega)) fun z3 hz3 => TE.bind (var_te _) fun u hu => TE.bind (var_te _) fun u2 hu2 => TE.bind (pair_te (by simp) hu.1 hu2.1 (by omega)) fun u3 hu3 => TE.pos (by omega) ?_))
        rw [wrap_nat (by omega)]
        exact ih (i + 1) _ _ (by omega) (by omega) (by simp [h3]; omega) (by simp [h4]; omega) (TB.mem_app h5 (two2 _ _ _ _ hy.1 hy2.1 (by omega))) (TB.mem_app h6 (two2 _ _ _ _ hz3.1 hu3.1 (by omega)))
    exact key n 0 [] [] rfl (Nat.zero_le _) rfl rfl (fun t ht => by cases ht) (fun t ht => by cases ht)
  · obtain ⟨b1, w, b2, b3⟩ := (okT_iff t.1).1 (by rw [← hv]; simpa using c2)
    rw [← b2] at b1 ⊢
    exact TE.bind (alike_te w ⟨b3, b1⟩ t.2 ht.2) fun u hu => TE.ret ⟨by show (flat w).length ≤ _; omega, by have := hu.1; show u.1.length ≤ _; omega⟩
theorem drawS_te (x : List UInt8) (h : x.length ≤ 1048576) : ∃ u, Ev (fun k => spec_DrawSubsumes.f k x) u ∧ Sm u ∧ (okT u.1 = true → okT u.2 = true → Ev (fun k => spec_DrawSubsumes_2.f k x) u) := by
  obtain ⟨r, er, hr⟩ := open_te x h
  obtain ⟨a, ea, a1, a2, a3⟩ := next_te hr
  obtain ⟨t, et, ht⟩ := any_te _ a3
  have ht1 := ht.1.1
  obtain ⟨v, ev, hv⟩ := valid_te t.1 ht1 (by omega)
  by_cases c : v = true
  · obtain ⟨b1, w, b2, b3⟩ := (okT_iff t.1).1 (by rw [← hv]; exact c)
    have key := alike_te w ⟨b3, b2 ▸ b1⟩ t.2 ht.2
    rw [b2] at key
    obtain ⟨u, eu, hu⟩ := key
    refine ⟨if Int.tmod a.1 4 = 0 then (t.1, u.1) else (u.1, t.1), ?_, ?_, fun _ _ => ?_⟩
    · refine Ev.of (fun k => by rw [spec_DrawSubsumes.f]) (Ev.bind er (Ev.bind ea (Ev.bind et (Ev.bind ev (Ev.of (fun k => if_neg (not_not_intro c)) (Ev.bind eu ?_))))))
      exact ⟨0, fun k _ => by split <;> rfl⟩
    · split
      · exact ⟨by show t.1.length ≤ _; omega, by have := hu.1; show u.1.length ≤ _; omega⟩
      · exact ⟨by have := hu.1; show u.1.length ≤ _; omega, by show t.1.length ≤ _; omega⟩
    · refine Ev.of (fun k => by rw [spec_DrawSubsumes_2.f]) (Ev.bind er (Ev.bind ea (Ev.bind et (Ev.bind ev (Ev.of (fun k => if_neg (not_not_intro c)) (Ev.bind eu ?_))))))
      exact ⟨0, fun k _ => by split <;> rfl⟩
  · refine ⟨(t.1, t.1), ?_, ⟨by show t.1.length ≤ _; omega, by show t.1.length ≤ _; omega⟩, fun h1 _ => absurd (hv.trans h1) c⟩
    refine Ev.of (fun k => by rw [spec_DrawSubsumes.f]) (Ev.bind er (Ev.bind ea (Ev.bind et (Ev.bind ev ?_))))
    exact ⟨0, fun k _ => if_pos c⟩
end Go.Proofs.Ytognefkopbbdnaa
