import Derived.Test.YtognefkopbbdnaaPuUn9
namespace Go.Proofs.Ytognefkopbbdnaa
open Go.Sx Go.Sy
set_option linter.unusedVariables false
set_option linter.unusedSimpArgs false
set_option linter.unusedSectionVars false
set_option maxRecDepth 4000
theorem next_flats (xs : List Cell) (hx : xs.length ≤ 2000) : ∀ (m k i e : Nat) (us : List Tm) (r : List Cell), (flats us).length = m → Wfs us → xs.drop i = flats us ++ r → us.length + e ≤ 100000 → e ≤ 50000 →
    spec_l2next.l0 (k + m) xs (i : Int) ((us.length + e : Nat) : Int) = spec_l2next.l0 k xs ((i + m : Nat) : Int) (e : Int) := by
  intro m
  induction m with
  | zero =>
    intro k i e us r h1 hw hd h2 h3
    cases us with
    | nil => simp
    | cons t us => have := flat_pos t; simp only [flats, List.length_append] at h1; omega
  | succ m ih =>
    intro k i e us r h1 hw hd h2 h3
    cases us with
    | nil => simp [flats] at h1
    | cons t us =>
      obtain ⟨kd, n, s, vs⟩ := t
      simp only [Wfs, Wf] at hw
      obtain ⟨⟨w0, w1, w2, w3⟩, w4⟩ := hw
      have hi : i < xs.length := by
        rcases Nat.lt_or_ge i xs.length with h | h
        · exact h
        · rw [List.drop_of_length_le h] at hd; simp [flats, flat] at hd
      have hc : xs[i] = ⟨kd, n, s⟩ := by
        rw [List.drop_eq_getElem_cons hi] at hd
        simp only [flats, flat, List.cons_append] at hd
        exact (List.cons.inj hd).1
      have hd2 : xs.drop (i + 1) = flats (vs ++ us) ++ r := by
        rw [List.drop_eq_getElem_cons hi] at hd
        simp only [flats, flat, List.cons_append] at hd
        rw [(List.cons.inj hd).2, flats_append]
      have hm : (flats (vs ++ us)).length = m := by
        simp only [flats, flat, List.cons_append, List.length_cons] at h1
        rw [flats_append]; omega
      have hv : vs.length ≤ (flats (vs ++ us)).length := by have := flats_len (vs ++ us); simp at this; omega
      have hl : (flats (vs ++ us)).length ≤ 2000 := by
        have := congrArg List.length hd2
        rw [List.length_drop, List.length_append] at this; omega
      have hlen := flats_len (vs ++ us)
      rw [show k + (m + 1) = (k + m) + 1 by omega, spec_l2next.l0, if_pos (by simp; omega), if_pos (by omega), if_pos (by omega), Int.toNat_natCast, getD_at hi, hc, wrap_nat (by omega)]
      have := ih k (i + 1) e (vs ++ us) r hm ((Wfs_append _ _).2 ⟨w3, w4⟩) hd2 (by omega) h3
      rw [show i + (m + 1) = i + 1 + m by omega, ← this]
      simp only [List.length_cons, List.length_append] at hlen h2 ⊢
      by_cases hk : kd = 3
      · have hn := w1 hk
        rw [if_pos hk, wrap_id (n := ((us.length + 1 + e : Nat) : Int) + n) (by omega) (by omega), wrap_id (by omega) (by omega)]
        congr 1
        omega
      · rw [if_neg hk, wrap_id (by omega) (by omega)]
        have : vs = [] := w2 hk
        subst this
        congr 1
        simp; omega
theorem next_one (c : Cell) (t : Tm) (r : List Cell) (k : Nat) (hw : Wf t) (hl : (flat t).length + r.length < 2000) (hk : 2000 < k) : spec_l2next.f k (c :: (flat t ++ r)) 1 = some ((1 + (flat t).length : Nat) : Int) := by
  rw [spec_l2next.f]
  obtain ⟨k, rfl⟩ : ∃ q, k = q + 1 + (flat t).length := ⟨k - 1 - (flat t).length, by omega⟩
  have := next_flats (c :: (flat t ++ r)) (by simp; omega) (flat t).length (k + 1) 1 0 [t] r (by simp [flats]) (by simp [Wfs, hw]) (by simp [flats]) (by simp) (by omega)
  rw [show (([t].length + 0 : Nat) : Int) = 1 from rfl, show ((1 : Nat) : Int) = 1 from rfl] at this
  rw [this, spec_l2next.l0, if_neg (by simp)]
theorem next_at (xs : List Cell) (u : Tm) (j k : Nat) (r : List Cell) (hx : xs.length ≤ 2000) (hw : Wf u) (hd : xs.drop j = flat u ++ r) (hk : 2001 < k) : spec_l2next.f k xs (j : Int) = some ((j + (flat u).length : Nat) : Int) := by
  have hl : (flat u).length ≤ 2000 := by have := congrArg List.length hd; rw [List.length_drop, List.length_append] at this; omega
  rw [spec_l2next.f]
  obtain ⟨k, rfl⟩ : ∃ q, k = q + 1 + (flat u).length := ⟨k - 1 - (flat u).length, by omega⟩
  have := next_flats xs hx (flat u).length (k + 1) j 0 [u] r (by simp [flats]) (by simp [Wfs, hw]) (by simpa [flats] using hd) (by simp) (by omega)
  rw [show (([u].length + 0 : Nat) : Int) = 1 from rfl] at this
  rw [this, spec_l2next.l0, if_neg (by simp)]
theorem cut_at (ys : List Cell) (u : Tm) (j : Nat) (r : List Cell) (hd : ys.drop j = flat u ++ r) : (ys.drop (j : Int).toNat).take (((j + (flat u).length : Nat) : Int).toNat - (j : Int).toNat) = flat u := by
  rw [Int.toNat_natCast, Int.toNat_natCast, hd, Nat.add_sub_cancel_left]; simp
theorem cut_one (xs : List Cell) (i : Nat) (hi : i < xs.length) : (xs.drop (i : Int).toNat).take (((i + 1 : Nat) : Int).toNat - (i : Int).toNat) = [xs[i]] := by
  rw [Int.toNat_natCast, Int.toNat_natCast, Nat.add_sub_cancel_left, List.drop_eq_getElem_cons hi]; rfl
theorem args_val (n : Int) (s : List UInt8) (us : List Tm) (k : Nat) (hw : Wf (.mk 3 n s us)) (hl : (flats us).length < 2000) (hk : 10000 < k) : spec_l2args.f k (flat (.mk 3 n s us)) = some (us.map flat) := by
  have hw2 := hw
  simp only [Wf] at hw2
  have hn : (us.length : Int) = n := hw2.2.1 (by trivial)
  have hws := hw2.2.2.2
  have e0 : (flat (.mk 3 n s us)).getD 0 z65 = ⟨3, n, s⟩ := by simp [flat]
  rw [spec_l2args.f, if_neg (by simp [flat] <;> omega), if_pos (by simp [flat] <;> omega), e0, if_neg (by simp)]
  have hul := flats_len us
  have key : ∀ (m k i : Nat), us.length - i = m → i ≤ us.length → m + 3000 < k → spec_l2args.l0 k (flat (.mk 3 n s us)) ((us.take i).map flat) ((1 + (flats (us.take i)).length : Nat) : Int) (i : Int) = some (us.map flat) := by
    intro m
    induction m with
    | zero =>
      intro k i h1 h2 h3
      obtain ⟨k, rfl⟩ : ∃ q, k = q + 1 := ⟨k - 1, by omega⟩
      rw [spec_l2args.l0, e0, if_neg (by show ¬ (i : Int) < n; omega), List.take_of_length_le (by omega)]
    | succ m ih =>
      intro k i h1 h2 h3
      obtain ⟨k, rfl⟩ : ∃ q, k = q + 1 := ⟨k - 1, by omega⟩
      have hi : i < us.length := by omega
      have htd := List.take_append_drop i us
      rw [List.drop_eq_getElem_cons hi] at htd
      have hwi : Wf us[i] := by
        rw [← htd, Wfs_append] at hws
        have := hws.2
        simp only [Wfs] at this
        exact this.1
      have hsp : flats us = flats (us.take i) ++ (flat us[i] ++ flats (us.drop (i + 1))) := by
        conv => lhs; rw [← htd]
        rw [flats_append]; rfl
      have hlen := congrArg List.length hsp
      rw [List.length_append, List.length_append] at hlen
      have hd : (flat (.mk 3 n s us)).drop (1 + (flats (us.take i)).length) = flat us[i] ++ flats (us.drop (i + 1)) := by
        rw [Nat.add_comm]
        show (flats us).drop _ = _
        rw [hsp]; simp
      have hfl : (flat (.mk 3 n s us)).length = (flats us).length + 1 := by simp [flat]
      rw [spec_l2args.l0, e0, if_pos (by show (i : Int) < n; omega), next_at _ us[i] _ k _ (by omega) hwi hd (by omega), Option.bind_some, if_pos (by omega), if_pos (by omega), if_pos (by omega), if_pos (by simp; omega), cut_at _ us[i] _ _ hd, wrap_nat (by omega)]
      have e1 : (us.take i).map flat ++ [flat us[i]] = (us.take (i + 1)).map flat := by rw [List.take_add_one, List.getElem?_eq_getElem hi, List.map_append]; rfl
      have e2 : 1 + (flats (us.take i)).length + (flat us[i]).length = 1 + (flats (us.take (i + 1))).length := by
        rw [List.take_add_one, List.getElem?_eq_getElem hi, flats_append]; simp [flats]; omega
      rw [e1, e2]
      exact ih k (i + 1) (by omega) (by omega) (by omega)
  have := key us.length k 0 rfl (by omega) (by omega)
  simpa [flats] using this
/-! ### the reference's search answers as Run -/
theorem args_ev {u : Tm} (hw : Wf u ∧ (flat u).length ≤ 2000) : Ev (fun k => spec_l2args.f k (flat u)) (u.args.map flat) := by
  cases u with
  | mk a n s us =>
    by_cases h3 : a = 3
    · subst h3
      have hl : (flats us).length < 2000 := by have := hw.2; simp [flat] at this; omega
      exact ⟨10001, fun k hk => args_val n s us k hw.1 hl (by omega)⟩
    · have hu : us = [] := by have := hw.1; simp only [Wf] at this; exact this.2.2.1 h3
      subst hu
      exact ret_ev fun k => by
        have e0 : (flat (.mk a n s [])).getD 0 z65 = ⟨a, n, s⟩ := by simp [flat]
        rw [spec_l2args.f, if_neg (by simp [flat] <;> omega), if_pos (by simp [flat] <;> omega), e0, if_pos (by simpa using h3)]; rfl
def Goes (sub : List Binding) (p : Nat) (st : List (Tm × Tm)) (c : Int) (m' : List (Int × Tm)) (p' : Nat) (g : Nat → Option (Int × GL5st)) : Prop :=
  ∃ (c1 : Int) (sub1 : List Binding) (m1 : List (Int × Tm)) (p1 : Nat), Ev g (c1, (⟨sub1, (p1 : Int)⟩ : GL5st)) ∧ Rel sub1 m1 ∧ sub1.length ≤ p1 ∧ p1 ≤ 20000 ∧ (c1 = 0 → p ≤ p1 ∧ Run m1 p1 st c m' p') ∧ (c1 ≠ 0 → c = c1)
theorem l2_val (n : Nat) (IH : ∀ (sub : List Binding) (m : List (Int × Tm)) (p : Nat) (x y : Tm) (st : List (Tm × Tm)) (c : Int) (m' : List (Int × Tm)) (p' : Nat), 20000 - p ≤ n → p ≤ 20000 → Rel sub m → sub.length ≤ p → Ok2 (x, y) → Run m p ((x, y) :: st) c m' p' → Goes sub p st c m' p' (fun k => spec_l5pair_2.f k ⟨sub, (p : Int)⟩ (flat x) (flat y)))
    (us ws : List Tm) (hlen : us.length = ws.length) (hb : us.length ≤ 2000) (hs : ∀ q, q ∈ us.zip ws → Ok2 q) :
    ∀ (d j : Nat) (sub : List Binding) (m : List (Int × Tm)) (p : Nat) (st : List (Tm × Tm)) (c : Int) (m' : List (Int × Tm)) (p' : Nat), us.length - j = d → j ≤ us.length → 20000 - p ≤ n → p ≤ 20000 → Rel sub m → sub.length ≤ p → Run m p ((us.zip ws).drop j ++ st) c m' p' →
      Goes sub p st c m' p' (fun k => spec_l5pair_2.l2 k (us.map flat) (ws.map flat) (j : Int) sub (p : Int)) := by
  intro d
  induction d with
  | zero =>
    intro j sub m p st c m' p' h1 h2 h3 h4 hr hl r
    have : (us.zip ws).drop j = [] := by rw [List.drop_eq_nil_iff, List.length_zip]; omega
    rw [this, List.nil_append] at r
    exact ⟨0, sub, m, p, Ev.succ (fun k => by rw [spec_l5pair_2.l2, if_neg (by rw [List.length_map]; omega)]) (Ev.ret _), hr, hl, h4, fun _ => ⟨Nat.le_refl _, r⟩, fun h => absurd rfl h⟩
  | succ d ih =>
    intro j sub m p st c m' p' h1 h2 h3 h4 hr hl r
    have hz : (us.zip ws).length = us.length := by rw [List.length_zip]; omega
    have hd : (us.zip ws).drop j = (us[j]'(by omega), ws[j]'(by omega)) :: (us.zip ws).drop (j + 1) := by
      rw [List.drop_eq_getElem_cons (by omega)]; simp
    have hok : Ok2 (us[j]'(by omega), ws[j]'(by omega)) := hs _ (List.mem_of_mem_drop (i := j) (by rw [hd]; exact .head _))
    rw [hd, List.cons_append] at r
    obtain ⟨c1, s1, m1, p1, e, hr1, hl1, hp1, a, b⟩ := IH sub m p _ _ _ c m' p' h3 h4 hr hl hok r
    have g1 : (us.map flat).getD j ([] : List Cell) = flat (us[j]'(by omega)) := by rw [List.getD_eq_getElem?_getD, List.getElem?_map, List.getElem?_eq_getElem (by omega)]; rfl
    have g2 : (ws.map flat).getD j ([] : List Cell) = flat (ws[j]'(by omega)) := by rw [List.getD_eq_getElem?_getD, List.getElem?_map, List.getElem?_eq_getElem (by omega)]; rfl
    have step : ∀ k, spec_l5pair_2.l2 (k + 1) (us.map flat) (ws.map flat) (j : Int) sub (p : Int) = (spec_l5pair_2.f k (⟨sub, (p : Int)⟩ : GL5st) (flat (us[j]'(by omega))) (flat (ws[j]'(by omega)))).bind fun t => (if t.1 ≠ 0 then some (t.1, t.2) else (spec_l5pair_2.l2 k (us.map flat) (ws.map flat) ((j + 1 : Nat) : Int) t.2.sub_ t.2.pairs_)) := fun k => by
      have : IntKind.i64.wrap ((j : Int) + 1) = ((j + 1 : Nat) : Int) := by rw [wrap_id (by omega) (by omega)]; omega
      rw [spec_l5pair_2.l2, if_pos (by rw [List.length_map]; omega), if_pos (by omega), if_pos (by rw [List.length_map]; omega), Int.toNat_natCast, g1, g2, this]
    by_cases h0 : c1 = 0
    · obtain ⟨hpp, r1⟩ := a h0
      obtain ⟨c2, s2, m2, p2, e2, hr2, hl2, hp2, a2, b2⟩ := ih (j + 1) s1 m1 p1 st c m' p' (by omega) (by omega) (by omega) hp1 hr1 hl1 r1
      exact ⟨c2, s2, m2, p2, Ev.succ step (Ev.bind e (Ev.of (fun k => if_neg (by simpa using h0)) e2)), hr2, hl2, hp2, fun h => ⟨by have := (a2 h).1; omega, (a2 h).2⟩, b2⟩
    · exact ⟨c1, s1, m1, p1, Ev.succ step (Ev.bind e (ret_ev fun k => if_pos h0)), hr1, hl1, hp1, fun h => absurd h h0, b⟩
theorem flat_pos (t : Tm) : (0 : Int) < ((flat t).length : Int) := by have := (flat_args t).1; omega
theorem run_spec : ∀ (n : Nat) (sub : List Binding) (m : List (Int × Tm)) (p : Nat) (x y : Tm) (st : List (Tm × Tm)) (c : Int) (m' : List (Int × Tm)) (p' : Nat), 20000 - p ≤ n → p ≤ 20000 → Rel sub m → sub.length ≤ p → Ok2 (x, y) → Run m p ((x, y) :: st) c m' p' → Goes sub p st c m' p' (fun k => spec_l5pair_2.f k ⟨sub, (p : Int)⟩ (flat x) (flat y)) := by
  intro n
  induction n with
  | zero =>
    intro sub m p x y st c m' p' h1 h2 hr hl hok r
    obtain rfl : p = 20000 := by omega
    refine ⟨3, sub, m, 20000, Ev.succ (fun k => by rw [spec_l5pair_2.f, if_pos (by simp)]) (Ev.ret _), hr, hl, h2, fun h => absurd h (by decide), fun _ => ?_⟩
    cases r <;> first | rfl | omega
  | succ n IH =>
    intro sub m p x y st c m' p' h1 h2 hr hl hok r
    by_cases hp : 20000 ≤ p
    · obtain rfl : p = 20000 := by omega
      refine ⟨3, sub, m, 20000, Ev.succ (fun k => by rw [spec_l5pair_2.f, if_pos (by simp)]) (Ev.ret _), hr, hl, h2, fun h => absurd h (by decide), fun _ => ?_⟩
      cases r <;> first | rfl | omega
    · obtain ⟨hx, hy⟩ := hok
      have hp1 : p < 20000 := by omega
      cases r with
      | limit h => omega
      | @same _ _ _ _ u w _ _ _ _ h h1' h2' k1 k2 hn r =>
        have a1 := wk_spec hr (by omega) ((p + 1 : Nat) : Int) h1' hx
        have a2 := wk_spec hr (by omega) ((p + 1 : Nat) : Int) h2' hy
        have e : Ev (fun k => spec_l5pair_2.f k ⟨sub, (p : Int)⟩ (flat x) (flat y)) (0, (⟨sub, ((p + 1 : Nat) : Int)⟩ : GL5st)) := by
          refine Ev.succ (fun k => by rw [spec_l5pair_2.f, if_neg (by simp; omega), wrap1 hp1]) ?_
          refine Ev.bind a1.1 (Ev.bind a2.1 ?_)
          refine Ev.of (fun k => by rw [if_pos (flat_pos _), if_pos (flat_pos _), flat_head, flat_head, if_pos k1, if_pos k2, if_neg (by simp; omega), if_neg (by simp; omega)]) ?_
          exact Ev.succ (h := fun _ => some _) (fun k => rfl) (Ev.ret _)
        exact ⟨0, sub, m, p + 1, e, hr, by omega, by omega, fun _ => ⟨by omega, r⟩, fun h => absurd rfl h⟩
      | @bindL _ _ _ _ u w _ _ _ _ h h1' h2' k1 k2 hn r =>
        have a1 := wk_spec hr (by omega) ((p + 1 : Nat) : Int) h1' hx
        have a2 := wk_spec hr (by omega) ((p + 1 : Nat) : Int) h2' hy
        have wu := wk_wf hr h1' hx
        have ww := wk_wf hr h2' hy
        have e : Ev (fun k => spec_l5pair_2.f k ⟨sub, (p : Int)⟩ (flat x) (flat y)) (0, (⟨ins u.n (flat w) sub, ((p + 1 : Nat) : Int)⟩ : GL5st)) := by
          refine Ev.succ (fun k => by rw [spec_l5pair_2.f, if_neg (by simp; omega), wrap1 hp1]) ?_
          refine Ev.bind a1.1 (Ev.bind a2.1 ?_)
          refine Ev.of (fun k => by rw [if_pos (flat_pos _), if_pos (flat_pos _), flat_head, flat_head, if_pos k1, if_pos k2, if_pos (by simp; omega)]) ?_
          refine Ev.bind (bind_val ⟨sub, ((p + 1 : Nat) : Int)⟩ u.n (flat w) (by simp; omega)) ?_
          exact Ev.succ (h := fun _ => some _) (fun k => rfl) (Ev.ret _)
        exact ⟨0, _, _, p + 1, e, hr.bind (wk_end h1' k1) ww (var_reach ww.1 k2 (by omega) (wk_end h2' k2)), by rw [ins_len]; omega, by omega, fun _ => ⟨by omega, r⟩, fun h => absurd rfl h⟩
      | @bindR _ _ _ _ u w _ _ _ _ h h1' h2' k1 k2 hn r =>
        have a1 := wk_spec hr (by omega) ((p + 1 : Nat) : Int) h1' hx
        have a2 := wk_spec hr (by omega) ((p + 1 : Nat) : Int) h2' hy
        have wu := wk_wf hr h1' hx
        have ww := wk_wf hr h2' hy
        have e : Ev (fun k => spec_l5pair_2.f k ⟨sub, (p : Int)⟩ (flat x) (flat y)) (0, (⟨ins w.n (flat u) sub, ((p + 1 : Nat) : Int)⟩ : GL5st)) := by
          refine Ev.succ (fun k => by rw [spec_l5pair_2.f, if_neg (by simp; omega), wrap1 hp1]) ?_
          refine Ev.bind a1.1 (Ev.bind a2.1 ?_)
          refine Ev.of (fun k => by rw [if_pos (flat_pos _), if_pos (flat_pos _), flat_head, flat_head, if_pos k1, if_pos k2, if_neg (by simp; omega), if_pos (by simp; omega)]) ?_
          refine Ev.bind (bind_val ⟨sub, ((p + 1 : Nat) : Int)⟩ w.n (flat u) (by simp; omega)) ?_
          exact Ev.succ (h := fun _ => some _) (fun k => rfl) (Ev.ret _)
        exact ⟨0, _, _, p + 1, e, hr.bind (wk_end h2' k2) wu (var_reach wu.1 k1 (by omega) (wk_end h1' k1)), by rw [ins_len]; omega, by omega, fun _ => ⟨by omega, r⟩, fun h => absurd rfl h⟩
      | @cyc1 _ _ _ _ u w _ h h1' h2' k1 k2 hh =>
        have a1 := wk_spec hr (by omega) ((p + 1 : Nat) : Int) h1' hx
        have a2 := wk_spec hr (by omega) ((p + 1 : Nat) : Int) h2' hy
        have wu := wk_wf hr h1' hx
        have ww := wk_wf hr h2' hy
        have e : Ev (fun k => spec_l5pair_2.f k ⟨sub, (p : Int)⟩ (flat x) (flat y)) (5, (⟨sub, ((p + 1 : Nat) : Int)⟩ : GL5st)) := by
          refine Ev.succ (fun k => by rw [spec_l5pair_2.f, if_neg (by simp; omega), wrap1 hp1]) ?_
          refine Ev.bind a1.1 (Ev.bind a2.1 ?_)
          refine Ev.of (fun k => by rw [if_pos (flat_pos _), if_pos (flat_pos _), flat_head, flat_head, if_pos k1, if_neg k2]) ?_
          refine Ev.bind (l5stands_val hr (by omega) (wk_end h1' k1) ((p + 1 : Nat) : Int) ww) ?_
          exact ret_ev fun k => by rw [if_pos (by simp [hh])]
        exact ⟨5, _, _, p + 1, e, hr, by omega, by omega, fun h => absurd h (by decide), fun _ => rfl⟩
      | @bind1 _ _ _ _ u w _ _ _ _ h h1' h2' k1 k2 hh r =>
        have a1 := wk_spec hr (by omega) ((p + 1 : Nat) : Int) h1' hx
        have a2 := wk_spec hr (by omega) ((p + 1 : Nat) : Int) h2' hy
        have wu := wk_wf hr h1' hx
        have ww := wk_wf hr h2' hy
        have e : Ev (fun k => spec_l5pair_2.f k ⟨sub, (p : Int)⟩ (flat x) (flat y)) (0, (⟨ins u.n (flat w) sub, ((p + 1 : Nat) : Int)⟩ : GL5st)) := by
          refine Ev.succ (fun k => by rw [spec_l5pair_2.f, if_neg (by simp; omega), wrap1 hp1]) ?_
          refine Ev.bind a1.1 (Ev.bind a2.1 ?_)
          refine Ev.of (fun k => by rw [if_pos (flat_pos _), if_pos (flat_pos _), flat_head, flat_head, if_pos k1, if_neg k2]) ?_
          refine Ev.bind (l5stands_val hr (by omega) (wk_end h1' k1) ((p + 1 : Nat) : Int) ww) ?_
          refine Ev.of (fun k => by rw [if_neg (by simp [hh])]) ?_
          exact Ev.bind (bind_val ⟨sub, ((p + 1 : Nat) : Int)⟩ u.n (flat w) (by simp; omega)) (Ev.ret _)
        exact ⟨0, _, _, p + 1, e, hr.bind (wk_end h1' k1) ww hh, by rw [ins_len]; omega, by omega, fun _ => ⟨by omega, r⟩, fun h => absurd rfl h⟩
      | @cyc2 _ _ _ _ u w _ h h1' h2' k1 k2 hh =>
        have a1 := wk_spec hr (by omega) ((p + 1 : Nat) : Int) h1' hx
        have a2 := wk_spec hr (by omega) ((p + 1 : Nat) : Int) h2' hy
        have wu := wk_wf hr h1' hx
        have ww := wk_wf hr h2' hy
        have e : Ev (fun k => spec_l5pair_2.f k ⟨sub, (p : Int)⟩ (flat x) (flat y)) (5, (⟨sub, ((p + 1 : Nat) : Int)⟩ : GL5st)) := by
          refine Ev.succ (fun k => by rw [spec_l5pair_2.f, if_neg (by simp; omega), wrap1 hp1]) ?_
          refine Ev.bind a1.1 (Ev.bind a2.1 ?_)
          refine Ev.of (fun k => by rw [if_pos (flat_pos _), if_pos (flat_pos _), flat_head, flat_head, if_neg k1, if_pos k2]) ?_
          refine Ev.succ (fun k => by rw [spec_l5pair_2.l1, if_pos k2, wrap1 hp1]) ?_
          refine Ev.bind (l5stands_val hr (by omega) (wk_end h2' k2) ((p + 1 : Nat) : Int) wu) ?_
          exact ret_ev fun k => by rw [if_pos (by simp [hh])]
        exact ⟨5, _, _, p + 1, e, hr, by omega, by omega, fun h => absurd h (by decide), fun _ => rfl⟩
      | @bind2 _ _ _ _ u w _ _ _ _ h h1' h2' k1 k2 hh r =>
        have a1 := wk_spec hr (by omega) ((p + 1 : Nat) : Int) h1' hx
        have a2 := wk_spec hr (by omega) ((p + 1 : Nat) : Int) h2' hy
        have wu := wk_wf hr h1' hx
        have ww := wk_wf hr h2' hy
        have e : Ev (fun k => spec_l5pair_2.f k ⟨sub, (p : Int)⟩ (flat x) (flat y)) (0, (⟨ins w.n (flat u) sub, ((p + 1 : Nat) : Int)⟩ : GL5st)) := by
          refine Ev.succ (fun k => by rw [spec_l5pair_2.f, if_neg (by simp; omega), wrap1 hp1]) ?_
          refine Ev.bind a1.1 (Ev.bind a2.1 ?_)
          refine Ev.of (fun k => by rw [if_pos (flat_pos _), if_pos (flat_pos _), flat_head, flat_head, if_neg k1, if_pos k2]) ?_
          refine Ev.succ (fun k => by rw [spec_l5pair_2.l1, if_pos k2, wrap1 hp1]) ?_
          refine Ev.bind (l5stands_val hr (by omega) (wk_end h2' k2) ((p + 1 : Nat) : Int) wu) ?_
          refine Ev.of (fun k => by rw [if_neg (by simp [hh])]) ?_
          exact Ev.bind (bind_val ⟨sub, ((p + 1 : Nat) : Int)⟩ w.n (flat u) (by simp; omega)) (Ev.ret _)
        exact ⟨0, _, _, p + 1, e, hr.bind (wk_end h2' k2) wu hh, by rw [ins_len]; omega, by omega, fun _ => ⟨by omega, r⟩, fun h => absurd rfl h⟩
      | @fail _ _ _ _ u w _ h h1' h2' k1 k2 hn =>
        have a1 := wk_spec hr (by omega) ((p + 1 : Nat) : Int) h1' hx
        have a2 := wk_spec hr (by omega) ((p + 1 : Nat) : Int) h2' hy
        have wu := wk_wf hr h1' hx
        have ww := wk_wf hr h2' hy
        have e : Ev (fun k => spec_l5pair_2.f k ⟨sub, (p : Int)⟩ (flat x) (flat y)) (4, (⟨sub, ((p + 1 : Nat) : Int)⟩ : GL5st)) := by
          refine Ev.succ (fun k => by rw [spec_l5pair_2.f, if_neg (by simp; omega), wrap1 hp1]) ?_
          refine Ev.bind a1.1 (Ev.bind a2.1 ?_)
          refine Ev.of (fun k => by rw [if_pos (flat_pos _), if_pos (flat_pos _), flat_head, flat_head, if_neg k1, if_neg k2]) ?_
          refine Ev.succ (fun k => by rw [spec_l5pair_2.l1, if_neg k1, wrap1 hp1]) (ret_ev fun k => ?_)
          by_cases a1 : u.kind = w.kind
          · by_cases a2 : u.n = w.n
            · rw [if_neg (by simpa using a1), if_neg (by simpa using a2), if_pos (fun a3 => hn ⟨a1, a2, a3⟩)]
            · rw [if_neg (by simpa using a1), if_pos a2]
          · rw [if_pos a1]
        exact ⟨4, _, _, p + 1, e, hr, by omega, by omega, fun h => absurd h (by decide), fun _ => rfl⟩
      | @args _ _ _ _ u w _ _ _ _ h h1' h2' k1 k2 hn r =>
        have a1 := wk_spec hr (by omega) ((p + 1 : Nat) : Int) h1' hx
        have a2 := wk_spec hr (by omega) ((p + 1 : Nat) : Int) h2' hy
        have wu := wk_wf hr h1' hx
        have ww := wk_wf hr h2' hy
        have ha : u.args.length = w.args.length := args_same wu.1 ww.1 k1 hn
        obtain ⟨c1, s1, m1, p1, e1, b1, b2, b3, b4, b5⟩ := l2_val n IH u.args w.args ha (args_few wu) (zip_ok wu ww) _ 0 sub m (p + 1) st c m' p' rfl (Nat.zero_le _) (by omega) (by omega) hr (by omega) r
        have e : Ev (fun k => spec_l5pair_2.f k ⟨sub, (p : Int)⟩ (flat x) (flat y)) (c1, (⟨s1, (p1 : Int)⟩ : GL5st)) := by
          refine Ev.succ (fun k => by rw [spec_l5pair_2.f, if_neg (by simp; omega), wrap1 hp1]) ?_
          refine Ev.bind a1.1 (Ev.bind a2.1 ?_)
          refine Ev.of (fun k => by rw [if_pos (flat_pos _), if_pos (flat_pos _), flat_head, flat_head, if_neg k1, if_neg k2]) ?_
          refine Ev.succ (fun k => by rw [spec_l5pair_2.l1, if_neg k1, if_neg (by simpa using hn.1), if_neg (by simpa using hn.2.1), if_neg (by simpa using hn.2.2), wrap1 hp1]) ?_
          exact Ev.bind (args_ev wu) (Ev.bind (args_ev ww) e1)
        exact ⟨c1, s1, m1, p1, e, b1, b2, b3, fun h => ⟨by have := (b4 h).1; omega, (b4 h).2⟩, b5⟩
end Go.Proofs.Ytognefkopbbdnaa
