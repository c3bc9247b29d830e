import Derived.Test.YtognefkopbbdnaaPuFu2
namespace Go.Proofs.Ytognefkopbbdnaa
open Go.Sx Go.Sy
set_option linter.unusedVariables false
set_option linter.unusedSimpArgs false
set_option linter.unusedSectionVars false
set_option maxRecDepth 4000
theorem next_flats (xs : List Cell) (hx : xs.length ≤ 2000) : ∀ (m k i e : Nat) (us : List Tm) (r : List Cell), (flats us).length = m → Wfs us → xs.drop i = flats us ++ r → us.length + e ≤ 100000 → e ≤ 50000 →
    spec_l2next.l0 (k + m) xs (i : Int) ((us.length + e : Nat) : Int) = spec_l2next.l0 k xs ((i + m : Nat) : Int) (e : Int) := by
  intro m
  induction m with
  | zero =>
    intro k i e us r h1 hw hd h2 h3
    cases us with
    | nil => simp
    | cons t us => have := flat_pos t; simp only [flats, List.length_append] at h1; omega
  | succ m ih =>
    intro k i e us r h1 hw hd h2 h3
    cases us with
    | nil => simp [flats] at h1
    | cons t us =>
      obtain ⟨kd, n, s, vs⟩ := t
      simp only [Wfs, Wf] at hw
      obtain ⟨⟨w0, w1, w2, w3⟩, w4⟩ := hw
      have hi : i < xs.length := by
        rcases Nat.lt_or_ge i xs.length with h | h
        · exact h
        · rw [List.drop_of_length_le h] at hd; simp [flats, flat] at hd
      have hc : xs[i] = ⟨kd, n, s⟩ := by
        rw [List.drop_eq_getElem_cons hi] at hd
        simp only [flats, flat, List.cons_append] at hd
        exact (List.cons.inj hd).1
      have hd2 : xs.drop (i + 1) = flats (vs ++ us) ++ r := by
        rw [List.drop_eq_getElem_cons hi] at hd
        simp only [flats, flat, List.cons_append] at hd
        rw [(List.cons.inj hd).2, flats_append]
      have hm : (flats (vs ++ us)).length = m := by
        simp only [flats, flat, List.cons_append, List.length_cons] at h1
        rw [flats_append]; omega
      have hv : vs.length ≤ (flats (vs ++ us)).length := by have := flats_len (vs ++ us); simp at this; omega
      have hl : (flats (vs ++ us)).length ≤ 2000 := by
        have := congrArg List.length hd2
        rw [List.length_drop, List.length_append] at this; omega
      have hlen := flats_len (vs ++ us)
      rw [show k + (m + 1) = (k + m) + 1 by omega, spec_l2next.l0, if_pos (by simp; omega), if_pos (by omega), if_pos (by omega), Int.toNat_natCast, getD_at hi, hc, wrap_nat (by omega)]
      have := ih k (i + 1) e (vs ++ us) r hm ((Wfs_append _ _).2 ⟨w3, w4⟩) hd2 (by omega) h3
      rw [show i + (m + 1) = i + 1 + m by omega, ← this]
      simp only [List.length_cons, List.length_append] at hlen h2 ⊢
      by_cases hk : kd = 3
      · have hn := w1 hk
        rw [if_pos hk, wrap_id (n := ((us.length + 1 + e : Nat) : Int) + n) (by omega) (by omega), wrap_id (by omega) (by omega)]
        congr 1
        omega
      · rw [if_neg hk, wrap_id (by omega) (by omega)]
        have : vs = [] := w2 hk
        subst this
        congr 1
        simp; omega
theorem next_at (xs : List Cell) (u : Tm) (j k : Nat) (r : List Cell) (hx : xs.length ≤ 2000) (hw : Wf u) (hd : xs.drop j = flat u ++ r) (hk : 2001 < k) : spec_l2next.f k xs (j : Int) = some ((j + (flat u).length : Nat) : Int) := by
  have hl : (flat u).length ≤ 2000 := by have := congrArg List.length hd; rw [List.length_drop, List.length_append] at this; omega
  rw [spec_l2next.f]
  obtain ⟨k, rfl⟩ : ∃ q, k = q + 1 + (flat u).length := ⟨k - 1 - (flat u).length, by omega⟩
  have := next_flats xs hx (flat u).length (k + 1) j 0 [u] r (by simp [flats]) (by simp [Wfs, hw]) (by simpa [flats] using hd) (by simp) (by omega)
  rw [show (([u].length + 0 : Nat) : Int) = 1 from rfl] at this
  rw [this, spec_l2next.l0, if_neg (by simp)]
theorem cut_at (ys : List Cell) (u : Tm) (j : Nat) (r : List Cell) (hd : ys.drop j = flat u ++ r) : (ys.drop (j : Int).toNat).take (((j + (flat u).length : Nat) : Int).toNat - (j : Int).toNat) = flat u := by
  rw [Int.toNat_natCast, Int.toNat_natCast, hd, Nat.add_sub_cancel_left]; simp
theorem cut_one (xs : List Cell) (i : Nat) (hi : i < xs.length) : (xs.drop (i : Int).toNat).take (((i + 1 : Nat) : Int).toNat - (i : Int).toNat) = [xs[i]] := by
  rw [Int.toNat_natCast, Int.toNat_natCast, Nat.add_sub_cancel_left, List.drop_eq_getElem_cons hi]; rfl
theorem args_val (n : Int) (s : List UInt8) (us : List Tm) (k : Nat) (hw : Wf (.mk 3 n s us)) (hl : (flats us).length < 2000) (hk : 10000 < k) : spec_l2args.f k (flat (.mk 3 n s us)) = some (us.map flat) := by
  have hw2 := hw
  simp only [Wf] at hw2
  have hn : (us.length : Int) = n := hw2.2.1 (by trivial)
  have hws := hw2.2.2.2
  have e0 : (flat (.mk 3 n s us)).getD 0 z65 = ⟨3, n, s⟩ := by simp [flat]
  rw [spec_l2args.f, if_neg (by simp [flat] <;> omega), if_pos (by simp [flat] <;> omega), e0, if_neg (by simp)]
  have hul := flats_len us
  have key : ∀ (m k i : Nat), us.length - i = m → i ≤ us.length → m + 3000 < k → spec_l2args.l0 k (flat (.mk 3 n s us)) ((us.take i).map flat) ((1 + (flats (us.take i)).length : Nat) : Int) (i : Int) = some (us.map flat) := by
    intro m
    induction m with
    | zero =>
      intro k i h1 h2 h3
      obtain ⟨k, rfl⟩ : ∃ q, k = q + 1 := ⟨k - 1, by omega⟩
      rw [spec_l2args.l0, e0, if_neg (by show ¬ (i : Int) < n; omega), List.take_of_length_le (by omega)]
    | succ m ih =>
      intro k i h1 h2 h3
      obtain ⟨k, rfl⟩ : ∃ q, k = q + 1 := ⟨k - 1, by omega⟩
      have hi : i < us.length := by omega
      have htd := List.take_append_drop i us
      rw [List.drop_eq_getElem_cons hi] at htd
      have hwi : Wf us[i] := by
        rw [← htd, Wfs_append] at hws
        have := hws.2
        simp only [Wfs] at this
        exact this.1
      have hsp : flats us = flats (us.take i) ++ (flat us[i] ++ flats (us.drop (i + 1))) := by
        conv => lhs; rw [← htd]
        rw [flats_append]; rfl
      have hlen := congrArg List.length hsp
      rw [List.length_append, List.length_append] at hlen
      have hd : (flat (.mk 3 n s us)).drop (1 + (flats (us.take i)).length) = flat us[i] ++ flats (us.drop (i + 1)) := by
        rw [Nat.add_comm]
        show (flats us).drop _ = _
        rw [hsp]; simp
      have hfl : (flat (.mk 3 n s us)).length = (flats us).length + 1 := by simp [flat]
      rw [spec_l2args.l0, e0, if_pos (by show (i : Int) < n; omega), next_at _ us[i] _ k _ (by omega) hwi hd (by omega), Option.bind_some, if_pos (by omega), if_pos (by omega), if_pos (by omega), if_pos (by simp; omega), cut_at _ us[i] _ _ hd, wrap_nat (by omega)]
      have e1 : (us.take i).map flat ++ [flat us[i]] = (us.take (i + 1)).map flat := by rw [List.take_add_one, List.getElem?_eq_getElem hi, List.map_append]; rfl
      have e2 : 1 + (flats (us.take i)).length + (flat us[i]).length = 1 + (flats (us.take (i + 1))).length := by
        rw [List.take_add_one, List.getElem?_eq_getElem hi, flats_append]; simp [flats]; omega
      rw [e1, e2]
      exact ih k (i + 1) (by omega) (by omega) (by omega)
  have := key us.length k 0 rfl (by omega) (by omega)
  simpa [flats] using this
/-! ### the reference's search answers as Run -/
theorem args_ev {u : Tm} (hw : Wf u ∧ (flat u).length ≤ 2000) : Ev (fun k => spec_l2args.f k (flat u)) (u.args.map flat) := by
  cases u with
  | mk a n s us =>
    by_cases h3 : a = 3
    · subst h3
      have hl : (flats us).length < 2000 := by have := hw.2; simp [flat] at this; omega
      exact ⟨10001, fun k hk => args_val n s us k hw.1 hl (by omega)⟩
    · have hu : us = [] := by have := hw.1; simp only [Wf] at this; exact this.2.2.1 h3
      subst hu
      exact ret_ev fun k => by
        have e0 : (flat (.mk a n s [])).getD 0 z65 = ⟨a, n, s⟩ := by simp [flat]
        rw [spec_l2args.f, if_neg (by simp [flat] <;> omega), if_pos (by simp [flat] <;> omega), e0, if_pos (by simpa using h3)]; rfl
def Goes (sub : List Binding) (p : Nat) (st : List (Tm × Tm)) (c : Int) (m' : List (Int × Tm)) (p' : Nat) (g : Nat → Option (Int × GL5st)) : Prop :=
  ∃ (c1 : Int) (sub1 : List Binding) (m1 : List (Int × Tm)) (p1 : Nat), Ev g (c1, (⟨sub1, (p1 : Int)⟩ : GL5st)) ∧ Rel sub1 m1 ∧ sub1.length ≤ p1 ∧ p1 ≤ 20000 ∧ (c1 = 0 → p ≤ p1 ∧ Run m1 p1 st c m' p') ∧ (c1 ≠ 0 → c = c1)
theorem l2_val (n : Nat) (IH : ∀ (sub : List Binding) (m : List (Int × Tm)) (p : Nat) (x y : Tm) (st : List (Tm × Tm)) (c : Int) (m' : List (Int × Tm)) (p' : Nat), 20000 - p ≤ n → p ≤ 20000 → Rel sub m → sub.length ≤ p → Ok2 (x, y) → Run m p ((x, y) :: st) c m' p' → Goes sub p st c m' p' (fun k => spec_l5pair_2.f k ⟨sub, (p : Int)⟩ (flat x) (flat y)))
    (us ws : List Tm) (hlen : us.length = ws.length) (hb : us.length ≤ 2000) (hs : ∀ q, q ∈ us.zip ws → Ok2 q) :
    ∀ (d j : Nat) (sub : List Binding) (m : List (Int × Tm)) (p : Nat) (st : List (Tm × Tm)) (c : Int) (m' : List (Int × Tm)) (p' : Nat), us.length - j = d → j ≤ us.length → 20000 - p ≤ n → p ≤ 20000 → Rel sub m → sub.length ≤ p → Run m p ((us.zip ws).drop j ++ st) c m' p' →
      Goes sub p st c m' p' (fun k => spec_l5pair_2.l2 k (us.map flat) (ws.map flat) (j : Int) sub (p : Int)) := by
  intro d
  induction d with
  | zero =>
    intro j sub m p st c m' p' h1 h2 h3 h4 hr hl r
    have : (us.zip ws).drop j = [] := by rw [List.drop_eq_nil_iff, List.length_zip]; omega
    rw [this, List.nil_append] at r
    exact ⟨0, sub, m, p, Ev.succ (fun k => by rw [spec_l5pair_2.l2, if_neg (by rw [List.length_map]; omega)]) (Ev.ret _), hr, hl, h4, fun _ => ⟨Nat.le_refl _, r⟩, fun h => absurd rfl h⟩
  | succ d ih =>
    intro j sub m p st c m' p' h1 h2 h3 h4 hr hl r
    have hz : (us.zip ws).length = us.length := by rw [List.length_zip]; omega
    have hd : (us.zip ws).drop j = (us[j]'(by omega), ws[j]'(by omega)) :: (us.zip ws).drop (j + 1) := by
      rw [List.drop_eq_getElem_cons (by omega)]; simp
    have hok : Ok2 (us[j]'(by omega), ws[j]'(by omega)) := hs _ (List.mem_of_mem_drop (i := j) (by rw [hd]; exact .head _))
    rw [hd, List.cons_append] at r
    obtain ⟨c1, s1, m1, p1, e, hr1, hl1, hp1, a, b⟩ := IH sub m p _ _ _ c m' p' h3 h4 hr hl hok r
    have g1 : (us.map flat).getD j ([] : List Cell) = flat (us[j]'(by omega)) := by rw [List.getD_eq_getElem?_getD, List.getElem?_map, List.getElem?_eq_getElem (by omega)]; rfl
    have g2 : (ws.map flat).getD j ([] : List Cell) = flat (ws[j]'(by omega)) := by rw [List.getD_eq_getElem?_getD, List.getElem?_map, List.getElem?_eq_getElem (by omega)]; rfl
    have step : ∀ k, spec_l5pair_2.l2 (k + 1) (us.map flat) (ws.map flat) (j : Int) sub (p : Int) = (spec_l5pair_2.f k (⟨sub, (p : Int)⟩ : GL5st) (flat (us[j]'(by omega))) (flat (ws[j]'(by omega)))).bind fun t => (if t.1 ≠ 0 then some (t.1, t.2) else (spec_l5pair_2.l2 k (us.map flat) (ws.map flat) ((j + 1 : Nat) : Int) t.2.sub_ t.2.pairs_)) := fun k => by
      have : IntKind.i64.wrap ((j : Int) + 1) = ((j + 1 : Nat) : Int) := by rw [wrap_id (by omega) (by omega)]; omega
      rw [spec_l5pair_2.l2, if_pos (by rw [List.length_map]; omega), if_pos (by omega), if_pos (by rw [List.length_map]; omega), Int.toNat_natCast, g1, g2, this]
    by_cases h0 : c1 = 0
    · obtain ⟨hpp, r1⟩ := a h0
      obtain ⟨c2, s2, m2, p2, e2, hr2, hl2, hp2, a2, b2⟩ := ih (j + 1) s1 m1 p1 st c m' p' (by omega) (by omega) (by omega) hp1 hr1 hl1 r1
      exact ⟨c2, s2, m2, p2, Ev.succ step (Ev.bind e (Ev.of (fun k => if_neg (by simpa using h0)) e2)), hr2, hl2, hp2, fun h => ⟨by have := (a2 h).1; omega, (a2 h).2⟩, b2⟩
    · exact ⟨c1, s1, m1, p1, Ev.succ step (Ev.bind e (ret_ev fun k => if_pos h0)), hr1, hl1, hp1, fun h => absurd h h0, b⟩
theorem flat_ipos (t : Tm) : (0 : Int) < ((flat t).length : Int) := by have := (flat_args t).1; omega
theorem run_spec : ∀ (n : Nat) (sub : List Binding) (m : List (Int × Tm)) (p : Nat) (x y : Tm) (st : List (Tm × Tm)) (c : Int) (m' : List (Int × Tm)) (p' : Nat), 20000 - p ≤ n → p ≤ 20000 → Rel sub m → sub.length ≤ p → Ok2 (x, y) → Run m p ((x, y) :: st) c m' p' → Goes sub p st c m' p' (fun k => spec_l5pair_2.f k ⟨sub, (p : Int)⟩ (flat x) (flat y)) := by
  intro n
  induction n with
  | zero =>
    intro sub m p x y st c m' p' h1 h2 hr hl hok r
    obtain rfl : p = 20000 := by omega
    refine ⟨3, sub, m, 20000, Ev.succ (fun k => by rw [spec_l5pair_2.f, if_pos (by simp)]) (Ev.ret _), hr, hl, h2, fun h => absurd h (by decide), fun _ => ?_⟩
    cases r <;> first | rfl | omega
  | succ n IH =>
    intro sub m p x y st c m' p' h1 h2 hr hl hok r
    by_cases hp : 20000 ≤ p
    · obtain rfl : p = 20000 := by omega
      refine ⟨3, sub, m, 20000, Ev.succ (fun k => by rw [spec_l5pair_2.f, if_pos (by simp)]) (Ev.ret _), hr, hl, h2, fun h => absurd h (by decide), fun _ => ?_⟩
      cases r <;> first | rfl | omega
    · obtain ⟨hx, hy⟩ := hok
      have hp1 : p < 20000 := by omega
      cases r with
      | limit h => omega
      | @same _ _ _ _ u w _ _ _ _ h h1' h2' k1 k2 hn r =>
        have a1 := wk_spec hr (by omega) ((p + 1 : Nat) : Int) h1' hx
        have a2 := wk_spec hr (by omega) ((p + 1 : Nat) : Int) h2' hy
        have e : Ev (fun k => spec_l5pair_2.f k ⟨sub, (p : Int)⟩ (flat x) (flat y)) (0, (⟨sub, ((p + 1 : Nat) : Int)⟩ : GL5st)) := by
          refine Ev.succ (fun k => by rw [spec_l5pair_2.f, if_neg (by simp; omega), wrap1 hp1]) ?_
          refine Ev.bind a1.1 (Ev.bind a2.1 ?_)
          refine Ev.of (fun k => by rw [if_pos (flat_ipos _), if_pos (flat_ipos _), flat_head, flat_head, if_pos k1, if_pos k2, if_neg (by simp; omega), if_neg (by simp; omega)]) ?_
          exact Ev.succ (h := fun _ => some _) (fun k => rfl) (Ev.ret _)
        exact ⟨0, sub, m, p + 1, e, hr, by omega, by omega, fun _ => ⟨by omega, r⟩, fun h => absurd rfl h⟩
      | @bindL _ _ _ _ u w _ _ _ _ h h1' h2' k1 k2 hn r =>
        have a1 := wk_spec hr (by omega) ((p + 1 : Nat) : Int) h1' hx
        have a2 := wk_spec hr (by omega) ((p + 1 : Nat) : Int) h2' hy
        have wu := wk_wf hr h1' hx
        have ww := wk_wf hr h2' hy
        have e : Ev (fun k => spec_l5pair_2.f k ⟨sub, (p : Int)⟩ (flat x) (flat y)) (0, (⟨ins u.n (flat w) sub, ((p + 1 : Nat) : Int)⟩ : GL5st)) := by
          refine Ev.succ (fun k => by rw [spec_l5pair_2.f, if_neg (by simp; omega), wrap1 hp1]) ?_
          refine Ev.bind a1.1 (Ev.bind a2.1 ?_)
          refine Ev.of (fun k => by rw [if_pos (flat_ipos _), if_pos (flat_ipos _), flat_head, flat_head, if_pos k1, if_pos k2, if_pos (by simp; omega)]) ?_
          refine Ev.bind (bind_val ⟨sub, ((p + 1 : Nat) : Int)⟩ u.n (flat w) (by simp; omega)) ?_
          exact Ev.succ (h := fun _ => some _) (fun k => rfl) (Ev.ret _)
        exact ⟨0, _, _, p + 1, e, hr.bind (wk_end h1' k1) ww (var_reach ww.1 k2 (by omega) (wk_end h2' k2)), by rw [ins_len]; omega, by omega, fun _ => ⟨by omega, r⟩, fun h => absurd rfl h⟩
      | @bindR _ _ _ _ u w _ _ _ _ h h1' h2' k1 k2 hn r =>
        have a1 := wk_spec hr (by omega) ((p + 1 : Nat) : Int) h1' hx
        have a2 := wk_spec hr (by omega) ((p + 1 : Nat) : Int) h2' hy
        have wu := wk_wf hr h1' hx
        have ww := wk_wf hr h2' hy
        have e : Ev (fun k => spec_l5pair_2.f k ⟨sub, (p : Int)⟩ (flat x) (flat y)) (0, (⟨ins w.n (flat u) sub, ((p + 1 : Nat) : Int)⟩ : GL5st)) := by
          refine Ev.succ (fun k => by rw [spec_l5pair_2.f, if_neg (by simp; omega), wrap1 hp1]) ?_
          refine Ev.bind a1.1 (Ev.bind a2.1 ?_)
          refine Ev.of (fun k => by rw [if_pos (flat_ipos _), if_pos (flat_ipos _), flat_head, flat_head, if_pos k1, if_pos k2, if_neg (by simp; omega), if_pos (by simp; omega)]) ?_
          refine Ev.bind (bind_val ⟨sub, ((p + 1 : Nat) : Int)⟩ w.n (flat u) (by simp; omega)) ?_
          exact Ev.succ (h := fun _ => some _) (fun k => rfl) (Ev.ret _)
        exact ⟨0, _, _, p + 1, e, hr.bind (wk_end h2' k2) wu (var_reach wu.1 k1 (by omega) (wk_end h1' k1)), by rw [ins_len]; omega, by omega, fun _ => ⟨by omega, r⟩, fun h => absurd rfl h⟩
      | @cyc1 _ _ _ _ u w _ h h1' h2' k1 k2 hh =>
        have a1 := wk_spec hr (by omega) ((p + 1 : Nat) : Int) h1' hx
        have a2 := wk_spec hr (by omega) ((p + 1 : Nat) : Int) h2' hy
        have wu := wk_wf hr h1' hx
        have ww := wk_wf hr h2' hy
        have e : Ev (fun k => spec_l5pair_2.f k ⟨sub, (p : Int)⟩ (flat x) (flat y)) (5, (⟨sub, ((p + 1 : Nat) : Int)⟩ : GL5st)) := by
          refine Ev.succ (fun k => by rw [spec_l5pair_2.f, if_neg (by simp; omega), wrap1 hp1]) ?_
          refine Ev.bind a1.1 (Ev.bind a2.1 ?_)
          refine Ev.of (fun k => by rw [if_pos (flat_ipos _), if_pos (flat_ipos _), flat_head, flat_head, if_pos k1, if_neg k2]) ?_
          refine Ev.bind (l5stands_val hr (by omega) (wk_end h1' k1) ((p + 1 : Nat) : Int) ww) ?_
          exact ret_ev fun k => by rw [if_pos (by simp [hh])]
        exact ⟨5, _, _, p + 1, e, hr, by omega, by omega, fun h => absurd h (by decide), fun _ => rfl⟩
      | @bind1 _ _ _ _ u w _ _ _ _ h h1' h2' k1 k2 hh r =>
        have a1 := wk_spec hr (by omega) ((p + 1 : Nat) : Int) h1' hx
        have a2 := wk_spec hr (by omega) ((p + 1 : Nat) : Int) h2' hy
        have wu := wk_wf hr h1' hx
        have ww := wk_wf hr h2' hy
        have e : Ev (fun k => spec_l5pair_2.f k ⟨sub, (p : Int)⟩ (flat x) (flat y)) (0, (⟨ins u.n (flat w) sub, ((p + 1 : Nat) : Int)⟩ : GL5st)) := by
          refine Ev.succ (fun k => by rw [spec_l5pair_2.f, if_neg (by simp; omega), wrap1 hp1]) ?_
          refine Ev.bind a1.1 (Ev.bind a2.1 ?_)
          refine Ev.of (fun k => by rw [if_pos (flat_ipos _), if_pos (flat_ipos _), flat_head, flat_head, if_pos k1, if_neg k2]) ?_
          refine Ev.bind (l5stands_val hr (by omega) (wk_end h1' k1) ((p + 1 : Nat) : Int) ww) ?_
          refine Ev.of (fun k => by rw [if_neg (by simp [hh])]) ?_
          exact Ev.bind (bind_val ⟨sub, ((p + 1 : Nat) : Int)⟩ u.n (flat w) (by simp; omega)) (Ev.ret _)
        exact ⟨0, _, _, p + 1, e, hr.bind (wk_end h1' k1) ww hh, by rw [ins_len]; omega, by omega, fun _ => ⟨by omega, r⟩, fun h => absurd rfl h⟩
      | @cyc2 _ _ _ _ u w _ h h1' h2' k1 k2 hh =>
        have a1 := wk_spec hr (by omega) ((p + 1 : Nat) : Int) h1' hx
        have a2 := wk_spec hr (by omega) ((p + 1 : Nat) : Int) h2' hy
        have wu := wk_wf hr h1' hx
        have ww := wk_wf hr h2' hy
        have e : Ev (fun k => spec_l5pair_2.f k ⟨sub, (p : Int)⟩ (flat x) (flat y)) (5, (⟨sub, ((p + 1 : Nat) : Int)⟩ : GL5st)) := by
          refine Ev.succ (fun k => by rw [spec_l5pair_2.f, if_neg (by simp; omega), wrap1 hp1]) ?_
          refine Ev.bind a1.1 (Ev.bind a2.1 ?_)
          refine Ev.of (fun k => by rw [if_pos (flat_ipos _), if_pos (flat_ipos _), flat_head, flat_head, if_neg k1, if_pos k2]) ?_
          refine Ev.succ (fun k => by rw [spec_l5pair_2.l1, if_pos k2, wrap1 hp1]) ?_
          refine Ev.bind (l5stands_val hr (by omega) (wk_end h2' k2) ((p + 1 : Nat) : Int) wu) ?_
          exact ret_ev fun k => by rw [if_pos (by simp [hh])]
        exact ⟨5, _, _, p + 1, e, hr, by omega, by omega, fun h => absurd h (by decide), fun _ => rfl⟩
      | @bind2 _ _ _ _ u w _ _ _ _ h h1' h2' k1 k2 hh r =>
        have a1 := wk_spec hr (by omega) ((p + 1 : Nat) : Int) h1' hx
        have a2 := wk_spec hr (by omega) ((p + 1 : Nat) : Int) h2' hy
        have wu := wk_wf hr h1' hx
        have ww := wk_wf hr h2' hy
        have e : Ev (fun k => spec_l5pair_2.f k ⟨sub, (p : Int)⟩ (flat x) (flat y)) (0, (⟨ins w.n (flat u) sub, ((p + 1 : Nat) : Int)⟩ : GL5st)) := by
          refine Ev.succ (fun k => by rw [spec_l5pair_2.f, if_neg (by simp; omega), wrap1 hp1]) ?_
          refine Ev.bind a1.1 (Ev.bind a2.1 ?_)
          refine Ev.of (fun k => by rw [if_pos (flat_ipos _), if_pos (flat_ipos _), flat_head, flat_head, if_neg k1, if_pos k2]) ?_
          refine Ev.succ (fun k => by rw [spec_l5pair_2.l1, if_pos k2, wrap1 hp1]) ?_
          refine Ev.bind (l5stands_val hr (by omega) (wk_end h2' k2) ((p + 1 : Nat) : Int) wu) ?_
          refine Ev.of (fun k => by rw [if_neg (by simp [hh])]) ?_
          exact Ev.bind (bind_val ⟨sub, ((p + 1 : Nat) : Int)⟩ w.n (flat u) (by simp; omega)) (Ev.ret _)
        exact ⟨0, _, _, p + 1, e, hr.bind (wk_end h2' k2) wu hh, by rw [ins_len]; omega, by omega, fun _ => ⟨by omega, r⟩, fun h => absurd rfl h⟩
      | @fail _ _ _ _ u w _ h h1' h2' k1 k2 hn =>
        have a1 := wk_spec hr (by omega) ((p + 1 : Nat) : Int) h1' hx
        have a2 := wk_spec hr (by omega) ((p + 1 : Nat) : Int) h2' hy
        have wu := wk_wf hr h1' hx
        have ww := wk_wf hr h2' hy
        have e : Ev (fun k => spec_l5pair_2.f k ⟨sub, (p : Int)⟩ (flat x) (flat y)) (4, (⟨sub, ((p + 1 : Nat) : Int)⟩ : GL5st)) := by
          refine Ev.succ (fun k => by rw [spec_l5pair_2.f, if_neg (by simp; omega), wrap1 hp1]) ?_
          refine Ev.bind a1.1 (Ev.bind a2.1 ?_)
          refine Ev.of (fun k => by rw [if_pos (flat_ipos _), if_pos (flat_ipos _), flat_head, flat_head, if_neg k1, if_neg k2]) ?_
          refine Ev.succ (fun k => by rw [spec_l5pair_2.l1, if_neg k1, wrap1 hp1]) (ret_ev fun k => ?_)
          by_cases a1 : u.kind = w.kind
          · by_cases a2 : u.n = w.n
            · rw [if_neg (by simpa using a1), if_neg (by simpa using a2), if_pos (fun a3 => hn ⟨a1, a2, a3⟩)]
            · rw [if_neg (by simpa using a1), if_pos a2]
          · rw [if_pos a1]
        exact ⟨4, _, _, p + 1, e, hr, by omega, by omega, fun h => absurd h (by decide), fun _ => rfl⟩
      | @args _ _ _ _ u w _ _ _ _ h h1' h2' k1 k2 hn r =>
        have a1 := wk_spec hr (by omega) ((p + 1 : Nat) : Int) h1' hx
        have a2 := wk_spec hr (by omega) ((p + 1 : Nat) : Int) h2' hy
        have wu := wk_wf hr h1' hx
        have ww := wk_wf hr h2' hy
        have ha : u.args.length = w.args.length := args_same wu.1 ww.1 k1 hn
        obtain ⟨c1, s1, m1, p1, e1, b1, b2, b3, b4, b5⟩ := l2_val n IH u.args w.args ha (args_few wu) (zip_ok wu ww) _ 0 sub m (p + 1) st c m' p' rfl (Nat.zero_le _) (by omega) (by omega) hr (by omega) r
        have e : Ev (fun k => spec_l5pair_2.f k ⟨sub, (p : Int)⟩ (flat x) (flat y)) (c1, (⟨s1, (p1 : Int)⟩ : GL5st)) := by
          refine Ev.succ (fun k => by rw [spec_l5pair_2.f, if_neg (by simp; omega), wrap1 hp1]) ?_
          refine Ev.bind a1.1 (Ev.bind a2.1 ?_)
          refine Ev.of (fun k => by rw [if_pos (flat_ipos _), if_pos (flat_ipos _), flat_head, flat_head, if_neg k1, if_neg k2]) ?_
          refine Ev.succ (fun k => by rw [spec_l5pair_2.l1, if_neg k1, if_neg (by simpa using hn.1), if_neg (by simpa using hn.2.1), if_neg (by simpa using hn.2.2), wrap1 hp1]) ?_
          exact Ev.bind (args_ev wu) (Ev.bind (args_ev ww) e1)
        exact ⟨c1, s1, m1, p1, e, b1, b2, b3, fun h => ⟨by have := (b4 h).1; omega, (b4 h).2⟩, b5⟩
/-! ### a term with every bound variable replaced, again and again -/
inductive Xt (m : List (Int × Tm)) : List Cell → List Cell → Prop
  | nil : Xt m [] []
  | cell {c cs r} (h : c.kind = 0 → mget m c.n = none) (t : Xt m cs r) : Xt m (c :: cs) (c :: r)
  | var {c cs r t a} (h : c.kind = 0) (e : mget m c.n = some t) (x : Xt m (flat t) a) (y : Xt m cs r) : Xt m (c :: cs) (a ++ r)
theorem xt_ex {m : List (Int × Tm)} {ρ : Int → Nat} (hρ : ∀ v t, mget m v = some t → ∀ u, u ∈ vs (flat t) → ρ u < ρ v) : ∀ (B : Nat) (cs : List Cell), (∀ v, v ∈ vs cs → ρ v < B) → ∃ r, Xt m cs r := by
  intro B
  induction B with
  | zero =>
    intro cs
    induction cs with
    | nil => exact fun _ => ⟨[], .nil⟩
    | cons c cs ih =>
      intro h
      obtain ⟨r, hr⟩ := ih (fun v hv => h v (by rw [mem_vs] at *; obtain ⟨d, hd, e⟩ := hv; exact ⟨d, .tail _ hd, e⟩))
      by_cases k0 : c.kind = 0
      · exact absurd (h c.n (by rw [mem_vs]; exact ⟨c, .head _, k0, rfl⟩)) (by omega)
      · exact ⟨c :: r, .cell (fun h => absurd h k0) hr⟩
  | succ B IH =>
    intro cs
    induction cs with
    | nil => exact fun _ => ⟨[], .nil⟩
    | cons c cs ih =>
      intro h
      obtain ⟨r, hr⟩ := ih (fun v hv => h v (by rw [mem_vs] at *; obtain ⟨d, hd, e⟩ := hv; exact ⟨d, .tail _ hd, e⟩))
      by_cases k0 : c.kind = 0
      · cases e : mget m c.n with
        | none => exact ⟨c :: r, .cell (fun _ => e) hr⟩
        | some t =>
          have hb := h c.n (by rw [mem_vs]; exact ⟨c, .head _, k0, rfl⟩)
          obtain ⟨a, ha⟩ := IH (flat t) (fun v hv => by have := hρ _ _ e v hv; omega)
          exact ⟨a ++ r, .var k0 e ha hr⟩
      · exact ⟨c :: r, .cell (fun h => absurd h k0) hr⟩
theorem l2copy_val (xs : List Cell) (k : Nat) (hl : xs.length ≤ 1000000) (ht : ∀ c, c ∈ xs → c.text.length ≤ 1000000) (hk : xs.length < k) : spec_l2copy.f k xs = some xs := by
  rw [spec_l2copy.f]
  have key : ∀ (m k i : Nat), xs.length - i = m → i ≤ xs.length → m < k → spec_l2copy.l0 k xs (xs.take i) (i : Int) = some xs := by
    intro m
    induction m with
    | zero =>
      intro k i h1 h2 h3
      obtain ⟨k, rfl⟩ : ∃ q, k = q + 1 := ⟨k - 1, by omega⟩
      rw [spec_l2copy.l0, if_neg (by omega), List.take_of_length_le (by omega)]
    | succ m ih =>
      intro k i h1 h2 h3
      obtain ⟨k, rfl⟩ : ∃ q, k = q + 1 := ⟨k - 1, by omega⟩
      have hi : i < xs.length := by omega
      have hlt := ht _ (List.getElem_mem hi)
      rw [spec_l2copy.l0, if_pos (by omega), if_pos (by omega), Int.toNat_natCast, getD_at hi, spec_l1copy.f, if_pos (by omega), Option.bind_some, if_pos (by rw [List.length_take]; omega), wrap_nat (by omega)]
      have e : xs.take i ++ [(⟨xs[i].kind, xs[i].n, xs[i].text⟩ : Cell)] = xs.take (i + 1) := by rw [List.take_add_one, List.getElem?_eq_getElem hi]; rfl
      rw [e]
      exact ih k (i + 1) (by omega) (by omega) (by omega)
  exact key xs.length k 0 rfl (by omega) hk
/-! ### the reference's expansion -/
def upto (out r : List Cell) : List Cell × Bool := if out.length + r.length ≤ 2000 then (out ++ r, true) else ([], false)
theorem whole_val {sub : List Binding} {m : List (Int × Tm)} (hr : Rel sub m) (hl : sub.length ≤ 1000000) (p : Int) {cs r : List Cell} (h : Xt m cs r) : ∀ (xs out : List Cell) (i : Nat), xs.drop i = cs → xs.length ≤ 2000 → (∀ c, c ∈ xs → c.text.length ≤ 1000000) → out.length ≤ 2000 →
    Ev (fun k => spec_l5whole_2.l0 k ⟨sub, p⟩ xs out (i : Int)) (upto out r) := by
  induction h with
  | nil =>
    intro xs out i hd hx ht ho
    have hi : xs.length ≤ i := by rw [List.drop_eq_nil_iff] at hd; exact hd
    exact Ev.succ (fun k => by rw [spec_l5whole_2.l0, if_neg (by omega)]) (ret_ev fun k => by rw [upto, if_pos (by simpa using ho), List.append_nil])
  | @cell c cs r h t ih =>
    intro xs out i hd hx ht ho
    have hi : i < xs.length := by
      rcases Nat.lt_or_ge i xs.length with q | q
      · exact q
      · rw [List.drop_of_length_le q] at hd; cases hd
    have hc : xs[i] = c ∧ xs.drop (i + 1) = cs := by
      rw [List.drop_eq_getElem_cons hi] at hd; injection hd with a b; exact ⟨a, b⟩
    have hg : xs.getD i z65 = c := by rw [List.getD_eq_getElem?_getD, List.getElem?_eq_getElem hi, hc.1]; rfl
    have w1 : IntKind.i64.wrap ((i : Int) + 1) = ((i + 1 : Nat) : Int) := by rw [wrap_id (by omega) (by omega)]; omega
    have hs : (xs.drop i).take (i + 1 - i) = [c] := by rw [hd]; simp
    have hmem : c ∈ xs := by rw [← hc.1]; exact List.getElem_mem hi
    have e1 : Ev (fun k => spec_l5whole_2.l1 k ⟨sub, p⟩ xs out (i : Int) (-1)) (upto out (c :: r)) := by
      refine Ev.succ (fun k => by rw [spec_l5whole_2.l1, if_neg (by decide), if_pos (by omega), w1, if_pos (by omega), if_pos (by omega), Int.toNat_natCast, Int.toNat_natCast, hs]) ?_
      refine Ev.bind (a := [c]) ⟨5, fun k hk => l2copy_val _ _ (by simp) (fun d hd => by rw [List.mem_singleton.1 hd]; exact ht c hmem) (by simp; omega)⟩ ?_
      refine Ev.of (fun k => if_pos (by simp; omega)) ?_
      by_cases h2 : out.length + 1 ≤ 2000
      · refine Ev.succ (fun k => by rw [spec_l5whole_2.l2, if_neg (by simp), if_neg (by simp; omega), w1]) ?_
        have := ih xs (out ++ [c]) (i + 1) hc.2 hx ht (by simp; omega)
        have e : upto (out ++ [c]) r = upto out (c :: r) := by
          unfold upto; simp only [List.length_append, List.length_cons, List.length_nil, List.append_assoc, List.singleton_append]
          rw [show out.length + (0 + 1) + r.length = out.length + (r.length + 1) by omega]
        rw [← e]; exact this
      · refine Ev.succ (fun k => by rw [spec_l5whole_2.l2, if_neg (by simp), if_pos (by simp; omega)]) (ret_ev fun k => by rw [upto, if_neg (by simp; omega)])
    by_cases k0 : c.kind = 0
    · rcases hr.idx hl c.n with ⟨_, e⟩ | ⟨s, j, hj, e, _⟩
      · exact Ev.succ (fun k => by rw [spec_l5whole_2.l0, if_pos (by omega), if_pos (by omega), Int.toNat_natCast, hg, if_pos k0]) (Ev.bind e e1)
      · rw [h k0] at e; cases e
    · exact Ev.succ (fun k => by rw [spec_l5whole_2.l0, if_pos (by omega), if_pos (by omega), Int.toNat_natCast, hg, if_neg k0]) e1
  | @var c cs r t a h e x y ihx ihy =>
    intro xs out i hd hx ht ho
    have hi : i < xs.length := by
      rcases Nat.lt_or_ge i xs.length with q | q
      · exact q
      · rw [List.drop_of_length_le q] at hd; cases hd
    have hc : xs[i] = c ∧ xs.drop (i + 1) = cs := by
      rw [List.drop_eq_getElem_cons hi] at hd; injection hd with a b; exact ⟨a, b⟩
    have hg : xs.getD i z65 = c := by rw [List.getD_eq_getElem?_getD, List.getElem?_eq_getElem hi, hc.1]; rfl
    have w1 : IntKind.i64.wrap ((i : Int) + 1) = ((i + 1 : Nat) : Int) := by rw [wrap_id (by omega) (by omega)]; omega
    rcases hr.idx hl c.n with ⟨e0, _⟩ | ⟨s, j, hj, e0, e2, e3, e4⟩
    · rw [e] at e0; cases e0
    · rw [e] at e0; injection e0 with e0
      subst e0
      obtain ⟨wt, lt⟩ := hr.wf _ _ e
      have f1 := ihx (flat t) out 0 (by simp) lt (fun d hd => Nat.le_trans (flat_ok _ wt d hd).text (by decide)) ho
      refine Ev.succ (fun k => by rw [spec_l5whole_2.l0, if_pos (by omega), if_pos (by omega), Int.toNat_natCast, hg, if_pos h]) (Ev.bind e2 ?_)
      refine Ev.succ (fun k => by rw [spec_l5whole_2.l1, if_pos (by omega), if_pos (by omega), if_pos (by simp; omega), Int.toNat_natCast, gd hj, e4]) ?_
      refine Ev.bind (a := upto out a) (Ev.succ (fun k => by rw [spec_l5whole_2.f]; rfl) f1) ?_
      by_cases h2 : out.length + a.length ≤ 2000
      · have e5 : upto out a = (out ++ a, true) := if_pos h2
        rw [e5]
        refine Ev.succ (fun k => by rw [spec_l5whole_2.l2, if_neg (by simp), if_neg (by simp; omega), w1]) ?_
        have := ihy xs (out ++ a) (i + 1) hc.2 hx ht (by simp; omega)
        have e6 : upto (out ++ a) r = upto out (a ++ r) := by
          unfold upto; simp only [List.length_append, List.append_assoc, Nat.add_assoc]
        rw [← e6]; exact this
      · have e5 : upto out a = ([], false) := if_neg h2
        rw [e5]
        refine Ev.succ (fun k => by rw [spec_l5whole_2.l2, if_pos (by simp)]) (ret_ev fun k => by rw [upto, if_neg (by rw [List.length_append]; omega)])
/-! ### the program's expansion -/
theorem xt_walk {m : List (Int × Tm)} {t u : Tm} {r : List Cell} (h : Wk m t u) (hw : Wf t) (hm : ∀ v s, mget m v = some s → Wf s) (x : Xt m (flat t) r) : Xt m (flat u) r := by
  induction h with
  | stop _ => exact x
  | @step t s u h0 h _ ih =>
    apply ih (hm _ _ h)
    cases t with
    | mk k n z us =>
      have hk : k = 0 := h0
      have : us = [] := by simp only [Wf] at hw; exact hw.2.2.1 (by omega)
      subst this
      subst hk
      simp only [flat, flats] at x
      cases x with
      | cell h' _ => have e1 := h' rfl; have e2 : mget m n = some s := h; rw [e1] at e2; cases e2
      | var _ e a b =>
        have e2 : mget m n = some s := h
        rw [show (⟨0, n, z⟩ : Cell).n = n from rfl, e2] at e
        injection e with e
        subst e
        cases b
        rw [List.append_nil]; exact a
theorem xt_split {m : List (Int × Tm)} : ∀ (a b r : List Cell), Xt m (a ++ b) r → ∃ x y, r = x ++ y ∧ Xt m a x ∧ Xt m b y := by
  intro a
  induction a with
  | nil => exact fun b r h => ⟨[], r, rfl, .nil, h⟩
  | cons c a ih =>
    intro b r h
    rw [List.cons_append] at h
    cases h with
    | cell h t =>
      obtain ⟨x, y, e, h1, h2⟩ := ih b _ t
      exact ⟨c :: x, y, by rw [e]; rfl, .cell h h1, h2⟩
    | @var _ _ r' t z h0 e x t' =>
      obtain ⟨x', y, e', h1, h2⟩ := ih b _ t'
      exact ⟨z ++ x', y, by rw [e', List.append_assoc], .var h0 e x h1, h2⟩
theorem full_args {m : List (Int × Tm)} {N : Nat} (IH : ∀ (t : Tm) (r out : List Cell), r.length ≤ N → Wf t ∧ (flat t).length ≤ 2000 → Xt m (flat t) r → out.length ≤ 2000 → Ev (fun k => impl_full_2.f k m t out 2000) (upto out r)) (u : Tm) (hu : Wf u ∧ (flat u).length ≤ 2000) : ∀ (d j : Nat) (r out : List Cell), u.args.length - j = d → j ≤ u.args.length → r.length ≤ N → Xt m (flats (u.args.drop j)) r → out.length ≤ 2000 → Ev (fun k => impl_full_2.l1 k m 2000 u out (j : Int)) (upto out r) := by
  have hb := args_few hu
  intro d
  induction d with
  | zero =>
    intro j r out h1 h2 h3 x ho
    rw [List.drop_of_length_le (by omega)] at x
    cases x
    exact Ev.succ (fun k => by rw [impl_full_2.l1, if_neg (by omega)]) (ret_ev fun k => by rw [upto, if_pos (by simpa using ho), List.append_nil])
  | succ d ih =>
    intro j r out h1 h2 h3 x ho
    have hj : j < u.args.length := by omega
    rw [List.drop_eq_getElem_cons hj] at x
    obtain ⟨a, b, rfl, xa, xb⟩ := xt_split (flat u.args[j]) (flats (u.args.drop (j + 1))) r x
    rw [List.length_append] at h3
    have g1 : u.args.getD j (Tm.mk 0 0 [] []) = u.args[j] := by rw [List.getD_eq_getElem?_getD, List.getElem?_eq_getElem hj]; rfl
    have w1 : IntKind.i64.wrap ((j : Int) + 1) = ((j + 1 : Nat) : Int) := by rw [wrap_id (by omega) (by omega)]; omega
    have e1 := IH u.args[j] a out (by omega) (args_ok hu (List.getElem_mem hj)) xa ho
    refine Ev.succ (fun k => by rw [impl_full_2.l1, if_pos (by omega), if_pos (by omega), Int.toNat_natCast, g1, w1]) (Ev.bind e1 ?_)
    by_cases h5 : out.length + a.length ≤ 2000
    · have e5 : upto out a = (out ++ a, true) := if_pos h5
      rw [e5]
      refine Ev.of (fun k => if_neg (by simp)) ?_
      have := ih (j + 1) b (out ++ a) (by omega) (by omega) (by omega) xb (by simp; omega)
      have e6 : upto (out ++ a) b = upto out (a ++ b) := by
        unfold upto; simp only [List.length_append, List.append_assoc, Nat.add_assoc]
      rw [← e6]; exact this
    · have e5 : upto out a = ([], false) := if_neg h5
      rw [e5]
      exact ret_ev fun k => by rw [if_pos (by simp), upto, if_neg (by rw [List.length_append]; omega)]
/-! ### the program's expansion, whole -/
theorem okc_nil {k n : Int} {s : List UInt8} (h : Okc ⟨k, n, s⟩) (h3 : ¬ k ≥ 2) : s = [] := by
  rcases h with h | h | h | h
  · exact h.2.2.2
  · exact h.2.2.2
  · have : k = 2 := h.1
    omega
  · have : k = 3 := h.1
    omega
theorem full_val {sub : List Binding} {m : List (Int × Tm)} (hr : Rel sub m) : ∀ (N : Nat) (t : Tm) (r out : List Cell), r.length ≤ N → Wf t ∧ (flat t).length ≤ 2000 → Xt m (flat t) r → out.length ≤ 2000 → Ev (fun k => impl_full_2.f k m t out 2000) (upto out r) := by
  intro N
  induction N with
  | zero =>
    intro t r out h1 hw x ho
    cases t with
    | mk k n s us =>
      simp only [flat] at x
      obtain ⟨u, hu⟩ := wk_ex hr (.mk k n s us)
      have xu := xt_walk hu hw.1 (fun v s e => (hr.wf v s e).1) (by simpa [flat] using x)
      have eu := wk_end hu
      cases u with
      | mk k' n' s' us' =>
        simp only [flat] at xu
        cases xu with
        | cell _ _ => simp at h1
        | var h e _ _ => rw [show mget m n' = none from eu h] at e; cases e
  | succ N IH =>
    intro t r out h1 hw x ho
    obtain ⟨u, hu⟩ := wk_ex hr t
    have xu := xt_walk hu hw.1 (fun v s e => (hr.wf v s e).1) x
    have eu := wk_end hu
    have wu := wk_wf hr hu hw
    refine Ev.succ (fun k => by rw [impl_full_2.f]) (Ev.bind (wk_impl hu) ?_)
    cases u with
    | mk k' n' s' us' =>
      simp only [flat] at xu
      cases xu with
      | var h e _ _ => rw [show mget m n' = none from eu h] at e; cases e
      | @cell _ _ r' h xr =>
        simp only [List.length_cons] at h1
        by_cases h2 : (out.length : Int) ≥ 2000
        · exact ret_ev fun k => by rw [if_pos h2, upto, if_neg (by simp; omega)]
        · refine Ev.of (fun k => if_neg h2) ?_
          have e1 := full_args IH (.mk k' n' s' us') wu us'.length 0 r' (out ++ [⟨k', n', s'⟩]) rfl (Nat.zero_le _) (by omega) xr (by simp; omega)
          have e6 : upto (out ++ [⟨k', n', s'⟩]) r' = upto out (⟨k', n', s'⟩ :: r') := by
            unfold upto; simp only [List.length_append, List.length_cons, List.length_nil, List.append_assoc, List.singleton_append]
            rw [show out.length + (0 + 1) + r'.length = out.length + (r'.length + 1) by omega]
          rw [e6] at e1
          have e2 : Ev (fun k => impl_full_2.l0 k m out 2000 (.mk k' n' s' us') s') (upto out (⟨k', n', s'⟩ :: r')) :=
            Ev.succ (fun k => by rw [impl_full_2.l0, if_pos (by omega)]; rfl) e1
          have hc := flat_ok _ wu.1 ⟨k', n', s'⟩ (by simp [flat])
          by_cases h3 : (Tm.mk k' n' s' us').kind ≥ 2
          · exact Ev.of (fun k => by rw [if_pos h3, if_pos (show (Tm.mk k' n' s' us').text.length ≤ 9223372036854775807 from Nat.le_trans hc.text (by decide))]; rfl) e2
          · have hs : s' = [] := okc_nil hc h3
            subst hs
            exact Ev.of (fun k => by rw [if_neg h3]) e2
/-! ### the keys in order -/
theorem skeys_rel {sub : List Binding} {m : List (Int × Tm)} (hr : Rel sub m) : skeys m = sub.map (·.var) := by
  unfold skeys
  rw [isort_perm hr.keys]
  unfold isort
  refine List.mergeSort_of_pairwise ?_
  refine List.pairwise_map.2 (hr.srt.imp fun h => ?_)
  simp only [decide_eq_true_eq]
  omega
theorem rel_nil : Rel [] [] := by
  refine ⟨List.Pairwise.nil, List.Perm.nil, fun b h => absurd h (by simp), fun v t h => ?_, ⟨fun _ => 0, fun v t h => ?_⟩⟩
  · cases h
  · cases h
/-! ### the final loops -/
def fin : List (Int × List Cell) → List Binding → List Binding × Int
  | [], acc => (acc, 0)
  | (v, r) :: t, acc => if r.length ≤ 2000 then fin t (acc ++ [⟨v, r⟩]) else ([], 3)
theorem spec_fin {sub : List Binding} {m : List (Int × Tm)} (hr : Rel sub m) (hl : sub.length ≤ 1000) (p : Int) (c : Int) (rs : List (Int × List Cell)) (hlen : rs.length = sub.length) (hx : ∀ (j : Nat) (hj : j < sub.length), (rs[j]'(by omega)).1 = sub[j].var ∧ Xt m sub[j].term (rs[j]'(by omega)).2) :
    ∀ (d j : Nat) (acc : List Binding), sub.length - j = d → j ≤ sub.length → acc.length ≤ j → Ev (fun k => spec_Unify.l0 k (c, ⟨sub, p⟩) acc (j : Int)) (fin (rs.drop j) acc) := by
  intro d
  induction d with
  | zero =>
    intro j acc h1 h2 h3
    rw [List.drop_of_length_le (by omega)]
    exact Ev.succ (h := fun _ => some (acc, 0)) (fun k => by rw [spec_Unify.l0, if_neg (by simp; omega)]) (Ev.ret _)
  | succ d ih =>
    intro j acc h1 h2 h3
    have hj : j < sub.length := by omega
    have hd : rs.drop j = (rs[j]'(by omega)) :: rs.drop (j + 1) := List.drop_eq_getElem_cons (by omega)
    obtain ⟨x1, x2⟩ := hx j hj
    have w1 : IntKind.i64.wrap ((j : Int) + 1) = ((j + 1 : Nat) : Int) := by rw [wrap_id (by omega) (by omega)]; omega
    obtain ⟨t, et, ef⟩ := hr.term _ (List.getElem_mem hj)
    obtain ⟨wt, lt⟩ := hr.wf _ _ et
    have e1 : Ev (fun k => spec_l5whole_2.f k ⟨sub, p⟩ sub[j].term []) (upto [] (rs[j]'(by omega)).2) :=
      Ev.succ (fun k => by rw [spec_l5whole_2.f]; rfl) (whole_val hr (by omega) p x2 _ [] 0 (by simp) (by rw [ef]; exact lt) (by rw [ef]; exact fun d hd => Nat.le_trans (flat_ok _ wt d hd).text (by decide)) (by simp))
    refine Ev.succ (fun k => by rw [spec_Unify.l0, if_pos (by simp; omega), if_pos (by omega), Int.toNat_natCast]; dsimp only; rw [gd hj, w1]) (Ev.bind e1 ?_)
    rw [hd]
    by_cases h5 : (rs[j]'(by omega)).2.length ≤ 2000
    · have e5 : upto [] (rs[j]'(by omega)).2 = ((rs[j]'(by omega)).2, true) := by unfold upto; rw [if_pos (by simpa using h5)]; rfl
      rw [e5]
      refine Ev.of (fun k => by rw [if_neg (by simp), if_pos (by omega)]) ?_
      have := ih (j + 1) (acc ++ [⟨sub[j].var, (rs[j]'(by omega)).2⟩]) (by omega) (by omega) (by simp; omega)
      rw [fin, if_pos h5, x1]; exact this
    · have e5 : upto [] (rs[j]'(by omega)).2 = ([], false) := by unfold upto; rw [if_neg (by simpa using h5)]
      rw [e5]
      exact ret_ev fun k => by rw [if_pos (by simp), fin, if_neg h5]
theorem full_var {m : List (Int × Tm)} {sub : List Binding} (hr : Rel sub m) {v : Int} {t : Tm} (e : mget m v = some t) {out : List Cell} {q : List Cell × Bool} (h : Ev (fun k => impl_full_2.f k m t out 2000) q) : Ev (fun k => impl_full_2.f k m (.mk 0 v [] []) out 2000) q := by
  obtain ⟨u, hu⟩ := wk_ex hr t
  obtain ⟨K1, h1⟩ := wk_impl hu
  obtain ⟨K2, h2⟩ := wk_impl (Wk.step (t := .mk 0 v [] []) rfl e hu)
  obtain ⟨K3, h3⟩ := h
  refine ⟨K1 + K2 + K3 + 1, fun k hk => ?_⟩
  obtain ⟨k, rfl⟩ : ∃ j, k = j + 1 := ⟨k - 1, by omega⟩
  have a1 := h1 k (by omega)
  have a2 := h2 k (by omega)
  have a3 := h3 (k + 1) (by omega)
  simp only at a1 a2 a3
  rw [impl_full_2.f, a1] at a3
  show impl_full_2.f (k + 1) m (.mk 0 v [] []) out 2000 = some q
  rw [impl_full_2.f, a2]
  exact a3
theorem impl_fin {sub : List Binding} {m : List (Int × Tm)} (hr : Rel sub m) (hl : sub.length ≤ 1000) (c : Int) (rs : List (Int × List Cell)) (hlen : rs.length = sub.length) (hx : ∀ (j : Nat) (hj : j < sub.length), (rs[j]'(by omega)).1 = sub[j].var ∧ Xt m sub[j].term (rs[j]'(by omega)).2) :
    ∀ (d j : Nat) (acc : List Binding), sub.length - j = d → j ≤ sub.length → acc.length ≤ j → Ev (fun k => impl_Unify.l0 k (c, m) acc (j : Int)) (fin (rs.drop j) acc) := by
  have hk := skeys_rel hr
  intro d
  induction d with
  | zero =>
    intro j acc h1 h2 h3
    rw [List.drop_of_length_le (by omega)]
    exact Ev.succ (h := fun _ => some (acc, 0)) (fun k => by rw [impl_Unify.l0, if_neg (by simp [hk]; omega)]) (Ev.ret _)
  | succ d ih =>
    intro j acc h1 h2 h3
    have hj : j < sub.length := by omega
    have hd : rs.drop j = (rs[j]'(by omega)) :: rs.drop (j + 1) := List.drop_eq_getElem_cons (by omega)
    obtain ⟨x1, x2⟩ := hx j hj
    have w1 : IntKind.i64.wrap ((j : Int) + 1) = ((j + 1 : Nat) : Int) := by rw [wrap_id (by omega) (by omega)]; omega
    obtain ⟨t, et, ef⟩ := hr.term _ (List.getElem_mem hj)
    obtain ⟨wt, lt⟩ := hr.wf _ _ et
    have gk : (sub.map (·.var)).getD j (0 : Int) = sub[j].var := by rw [List.getD_eq_getElem?_getD, List.getElem?_map, List.getElem?_eq_getElem hj]; rfl
    rw [ef] at x2
    have e1 := full_var hr et (full_val hr _ t _ [] (Nat.le_refl _) ⟨wt, lt⟩ x2 (by simp))
    refine Ev.succ (fun k => by rw [impl_Unify.l0]; dsimp only; rw [hk, if_pos (by simp; omega), if_pos (by omega), Int.toNat_natCast, gk, w1, impl_variable.f, Option.bind_some]) (Ev.bind e1 ?_)
    rw [hd]
    by_cases h5 : (rs[j]'(by omega)).2.length ≤ 2000
    · have e5 : upto [] (rs[j]'(by omega)).2 = ((rs[j]'(by omega)).2, true) := by unfold upto; rw [if_pos (by simpa using h5)]; rfl
      rw [e5]
      refine Ev.of (fun k => by rw [if_neg (by simp), if_pos (by omega)]) ?_
      have := ih (j + 1) (acc ++ [⟨sub[j].var, (rs[j]'(by omega)).2⟩]) (by omega) (by omega) (by simp; omega)
      rw [fin, if_pos h5, x1]; exact this
    · have e5 : upto [] (rs[j]'(by omega)).2 = ([], false) := by unfold upto; rw [if_neg (by simpa using h5)]
      rw [e5]
      exact ret_ev fun k => by rw [if_pos (by simp), fin, if_neg h5]
end Go.Proofs.Ytognefkopbbdnaa
