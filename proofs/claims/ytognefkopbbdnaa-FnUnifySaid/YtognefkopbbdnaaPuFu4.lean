import Derived.Test.YtognefkopbbdnaaPuFu3
namespace Go.Proofs.Ytognefkopbbdnaa
open Go.Sx Go.Sy
set_option linter.unusedVariables false
set_option linter.unusedSimpArgs false
set_option linter.unusedSectionVars false
set_option maxRecDepth 4000
/-! ### terms that are valid -/
instance (c : Cell) : Decidable (Okc c) := by unfold Okc; infer_instance
theorem l2cell_val (c : Cell) : spec_l2cell.f c = some (decide (Okc c)) := by
  have e : ∀ l : List UInt8, (l.length : Int) = 0 ↔ l = [] := fun l => ⟨fun hl => List.eq_nil_of_length_eq_zero (by omega), fun h => by rw [h]; rfl⟩
  unfold spec_l2cell.f
  simp only [e]
  repeat' split
  all_goals refine congrArg some ?_
  all_goals first
    | (rw [eq_comm, decide_eq_false_iff_not]; unfold Okc; omega)
    | (rw [eq_comm, decide_eq_true_iff]; unfold Okc; omega)
    | (refine decide_eq_decide.2 ?_; unfold Okc; omega)
    | (refine decide_eq_decide.2 ?_; unfold Okc; simp only [*]; simp; try omega)
    | (rw [eq_comm, decide_eq_false_iff_not]; unfold Okc; simp only [*]; simp; try omega)
theorem cellOk_val (c : Cell) : impl_cellOk.f c = some (decide (Okc c)) := by
  have e : ∀ l : List UInt8, (l.length : Int) = 0 ↔ l = [] := fun l => ⟨fun hl => List.eq_nil_of_length_eq_zero (by omega), fun h => by rw [h]; rfl⟩
  unfold impl_cellOk.f
  simp only [e]
  repeat' split
  all_goals refine congrArg some ?_
  all_goals first
    | (rw [eq_comm, decide_eq_false_iff_not]; unfold Okc; omega)
    | (rw [eq_comm, decide_eq_true_iff]; unfold Okc; omega)
    | (refine decide_eq_decide.2 ?_; unfold Okc; omega)
    | (refine decide_eq_decide.2 ?_; unfold Okc; simp only [*]; simp; try omega)
    | (rw [eq_comm, decide_eq_false_iff_not]; unfold Okc; simp only [*]; simp; try omega)
theorem valid_l0 (xs : List Cell) (hl : xs.length < 9223372036854775807) : ∀ (m k i : Nat) (n : Int), xs.length - i = m → i ≤ xs.length → m < k → impl_ValidTerm.l0 k xs n (i : Int) = spec_ValidTerm.l0 k xs n (i : Int) ∧ ∃ b, spec_ValidTerm.l0 k xs n (i : Int) = some b := by
  intro m
  induction m with
  | zero =>
    intro k i n h1 h2 h3
    obtain ⟨k, rfl⟩ : ∃ q, k = q + 1 := ⟨k - 1, by omega⟩
    rw [impl_ValidTerm.l0, spec_ValidTerm.l0, if_neg (by omega), if_neg (by omega)]
    exact ⟨rfl, _, rfl⟩
  | succ m ih =>
    intro k i n h1 h2 h3
    obtain ⟨k, rfl⟩ : ∃ q, k = q + 1 := ⟨k - 1, by omega⟩
    rw [impl_ValidTerm.l0, spec_ValidTerm.l0, if_pos (show (i : Int) < (xs.length : Int) by omega), if_pos (show (0 : Int) ≤ (i : Int) by omega), if_pos (show (i : Int) < (xs.length : Int) by omega), wrap_nat (by omega)]
    by_cases hn : n = 0
    · rw [if_pos hn, if_pos hn]; exact ⟨rfl, _, rfl⟩
    · rw [if_neg hn, if_neg hn, if_pos (show (0 : Int) ≤ (i : Int) by omega), l2cell_val, cellOk_val, Option.bind_some, Option.bind_some]
      split
      · exact ⟨rfl, _, rfl⟩
      · split
        · exact ih k (i + 1) _ (by omega) (by omega) (by omega)
        · exact ih k (i + 1) _ (by omega) (by omega) (by omega)
theorem valid_eq (xs : List Cell) (k : Nat) (hl : xs.length < 9223372036854775807) (hk : xs.length < k) : impl_ValidTerm.f k xs = spec_ValidTerm.f k xs ∧ ∃ b, spec_ValidTerm.f k xs = some b := by
  rw [impl_ValidTerm.f, spec_ValidTerm.f]
  split
  · exact ⟨rfl, _, rfl⟩
  · exact valid_l0 xs hl xs.length k 0 1 rfl (by omega) hk
theorem valid_trees (xs : List Cell) (hl : xs.length ≤ 2000) : ∀ (m k i n : Nat), xs.length - i = m → i ≤ xs.length → n ≤ 1 + 20 * i → spec_ValidTerm.l0 k xs (n : Int) (i : Int) = some true →
    ∃ ts, ts.length = n ∧ flats ts = xs.drop i ∧ Wfs ts := by
  intro m
  induction m with
  | zero =>
    intro k i n h1 h2 h3 h
    obtain ⟨k, rfl⟩ : ∃ q, k = q + 1 := by
      cases k with
      | zero => rw [spec_ValidTerm.l0] at h; cases h
      | succ q => exact ⟨q, rfl⟩
    rw [spec_ValidTerm.l0, if_neg (by omega)] at h
    have h0 : n = 0 := by simpa using h
    exact ⟨[], by simp [h0], by rw [List.drop_of_length_le (by omega)]; simp [flats], by simp [Wfs]⟩
  | succ m ih =>
    intro k i n h1 h2 h3 h
    obtain ⟨k, rfl⟩ : ∃ q, k = q + 1 := by
      cases k with
      | zero => rw [spec_ValidTerm.l0] at h; cases h
      | succ q => exact ⟨q, rfl⟩
    have hi : i < xs.length := by omega
    rw [spec_ValidTerm.l0, if_pos (by omega), Int.toNat_natCast, getD_at hi, wrap_nat (by omega), l2cell_val] at h
    by_cases hn : (n : Int) = 0
    · rw [if_pos hn] at h; simp at h
    rw [if_neg hn, if_pos (by omega), Option.bind_some] at h
    by_cases hb : Okc xs[i]
    · rw [if_neg (by simpa using hb), wrap_id (n := (n : Int) - 1) (by omega) (by omega)] at h
      by_cases hk : xs[i].kind = 3
      · obtain ⟨p1, p2⟩ := hb.n3 hk
        rw [if_pos hk, wrap_id (n := (n : Int) - 1 + xs[i].n) (by omega) (by omega), show (n : Int) - 1 + xs[i].n = ((n - 1 + xs[i].n.toNat : Nat) : Int) by omega] at h
        obtain ⟨ts, e1, e2, e3⟩ := ih k (i + 1) (n - 1 + xs[i].n.toNat) (by omega) (by omega) (by omega) h
        refine ⟨Tm.mk xs[i].kind xs[i].n xs[i].text (ts.take xs[i].n.toNat) :: ts.drop xs[i].n.toNat, by simp; omega, ?_, ?_⟩
        · rw [List.drop_eq_getElem_cons hi, ← e2]
          conv => rhs; rw [← List.take_append_drop xs[i].n.toNat ts]
          rw [flats_append]
          simp [flats, flat]
        · rw [← List.take_append_drop xs[i].n.toNat ts, Wfs_append] at e3
          simp only [Wfs, Wf]
          exact ⟨⟨hb, fun _ => by rw [List.length_take]; omega, fun h => absurd hk h, e3.1⟩, e3.2⟩
      · rw [if_neg hk, show (n : Int) - 1 = ((n - 1 : Nat) : Int) by omega] at h
        obtain ⟨ts, e1, e2, e3⟩ := ih k (i + 1) (n - 1) (by omega) (by omega) (by omega) h
        refine ⟨Tm.mk xs[i].kind xs[i].n xs[i].text [] :: ts, by simp; omega, ?_, ?_⟩
        · rw [List.drop_eq_getElem_cons hi, ← e2]; simp [flats, flat]
        · simp only [Wfs, Wf]
          exact ⟨⟨hb, fun h => absurd h hk, fun _ => trivial, trivial⟩, e3⟩
    · rw [if_pos (by simpa using hb)] at h; simp at h
theorem valid_tree (xs : List Cell) (k : Nat) (h : spec_ValidTerm.f k xs = some true) : xs.length ≤ 2000 ∧ ∃ t, flat t = xs ∧ Wf t := by
  rw [spec_ValidTerm.f] at h
  split at h
  · simp at h
  · rename_i hl
    have hl' : xs.length ≤ 2000 := by omega
    obtain ⟨ts, e1, e2, e3⟩ := valid_trees xs hl' xs.length k 0 1 rfl (by omega) (by omega) h
    refine ⟨hl', ?_⟩
    match ts, e1, e2, e3 with
    | [t], _, e2, e3 =>
      refine ⟨t, by simpa [flats] using e2, ?_⟩
      simp only [Wfs] at e3
      exact e3.1
theorem valid_flats (xs : List Cell) (hx : xs.length ≤ 2000) : ∀ (m k i e : Nat) (us : List Tm) (r : List Cell), (flats us).length = m → Wfs us → xs.drop i = flats us ++ r → us.length + e ≤ 100000 → e ≤ 50000 →
    spec_ValidTerm.l0 (k + m) xs ((us.length + e : Nat) : Int) (i : Int) = spec_ValidTerm.l0 k xs (e : Int) ((i + m : Nat) : Int) := by
  intro m
  induction m with
  | zero =>
    intro k i e us r h1 hw hd h2 h3
    cases us with
    | nil => simp
    | cons t us => have := flat_pos t; simp only [flats, List.length_append] at h1; omega
  | succ m ih =>
    intro k i e us r h1 hw hd h2 h3
    cases us with
    | nil => simp [flats] at h1
    | cons t us =>
      obtain ⟨kd, n, s, vs⟩ := t
      simp only [Wfs, Wf] at hw
      obtain ⟨⟨w0, w1, w2, w3⟩, w4⟩ := hw
      have hi : i < xs.length := by
        rcases Nat.lt_or_ge i xs.length with h | h
        · exact h
        · rw [List.drop_of_length_le h] at hd; simp [flats, flat] at hd
      have hc : xs[i] = ⟨kd, n, s⟩ := by
        rw [List.drop_eq_getElem_cons hi] at hd
        simp only [flats, flat, List.cons_append] at hd
        exact (List.cons.inj hd).1
      have hd2 : xs.drop (i + 1) = flats (vs ++ us) ++ r := by
        rw [List.drop_eq_getElem_cons hi] at hd
        simp only [flats, flat, List.cons_append] at hd
        rw [(List.cons.inj hd).2, flats_append]
      have hm : (flats (vs ++ us)).length = m := by
        simp only [flats, flat, List.cons_append, List.length_cons] at h1
        rw [flats_append]; omega
      have hl : (flats (vs ++ us)).length ≤ 2000 := by
        have := congrArg List.length hd2
        rw [List.length_drop, List.length_append] at this; omega
      have hlen := flats_len (vs ++ us)
      rw [show k + (m + 1) = (k + m) + 1 by omega, spec_ValidTerm.l0, if_pos (by omega), if_neg (by simp; omega), if_pos (by omega), Int.toNat_natCast, getD_at hi, hc, wrap_nat (by omega), l2cell_val, Option.bind_some, if_neg (by simpa using w0)]
      have := ih k (i + 1) e (vs ++ us) r hm ((Wfs_append _ _).2 ⟨w3, w4⟩) hd2 (by omega) h3
      rw [show i + (m + 1) = i + 1 + m by omega, ← this]
      simp only [List.length_cons, List.length_append] at hlen h2 ⊢
      by_cases hk : kd = 3
      · have hn := w1 hk
        rw [if_pos hk, wrap_id (n := ((us.length + 1 + e : Nat) : Int) - 1) (by omega) (by omega), wrap_id (by omega) (by omega)]
        congr 1
        omega
      · rw [if_neg hk, wrap_id (by omega) (by omega)]
        have : vs = [] := w2 hk
        subst this
        congr 1
        simp; omega
/-- the cells of a term that is valid -/
noncomputable def okT (xs : List Cell) : Bool := @decide (xs.length ≤ 2000 ∧ ∃ t, flat t = xs ∧ Wf t) (Classical.propDecidable _)
theorem okT_iff (xs : List Cell) : okT xs = true ↔ (xs.length ≤ 2000 ∧ ∃ t, flat t = xs ∧ Wf t) := by unfold okT; exact @decide_eq_true_iff _ (Classical.propDecidable _)
theorem valid_val (xs : List Cell) (k : Nat) (hl : xs.length < 9223372036854775807) (hk : xs.length < k) : spec_ValidTerm.f k xs = some (okT xs) := by
  obtain ⟨_, b, e⟩ := valid_eq xs k hl hk
  cases b with
  | true => rw [e, (okT_iff xs).2 (valid_tree xs k e)]
  | false =>
    rw [e]
    by_cases h : okT xs = true
    · obtain ⟨h1, t, rfl, hw⟩ := (okT_iff xs).1 h
      exfalso
      rw [spec_ValidTerm.f, if_neg (by omega)] at e
      obtain ⟨k, rfl⟩ : ∃ q, k = q + 1 + (flat t).length := ⟨k - 1 - (flat t).length, by omega⟩
      have := valid_flats (flat t) h1 (flat t).length (k + 1) 0 0 [t] [] (by simp [flats]) (by simp [Wfs, hw]) (by simp [flats]) (by simp) (by omega)
      rw [show (([t].length + 0 : Nat) : Int) = 1 from rfl, show ((0 : Nat) : Int) = 0 from rfl] at this
      rw [this, spec_ValidTerm.l0, if_neg (by omega)] at e
      simp at e
    · rw [show okT xs = false by simpa using h]
theorem valid_val' (xs : List Cell) (k : Nat) (hl : xs.length < 9223372036854775807) (hk : xs.length < k) : impl_ValidTerm.f k xs = some (okT xs) := by
  rw [(valid_eq xs k hl hk).1, valid_val xs k hl hk]
/-! ### cells to trees -/
mutual
theorem from_flat : ∀ (t : Tm) (k : Nat) (r : List Cell), Wf t → 3 * (flat t).length < k → (flat t).length + r.length ≤ 2000 → impl_fromCells.f k (flat t ++ r) = some (t, r)
  | .mk kd n s us, k, r, hw, hk, hl => by
    obtain ⟨k, rfl⟩ : ∃ q, k = q + 1 := ⟨k - 1, by omega⟩
    simp only [flat, List.length_cons] at hk hl
    simp only [Wf] at hw
    obtain ⟨w0, w1, w2, w6⟩ := hw
    have e0 : flat (Tm.mk kd n s us) ++ r = ⟨kd, n, s⟩ :: (flats us ++ r) := by simp [flat]
    rw [e0, impl_fromCells.f, if_pos (by simp; omega), if_pos (by simp; omega), drop1]
    show (if kd = 3 then impl_fromCells.l0 k _ _ 0 [] else some (Tm.mk kd n s [], flats us ++ r)) = _
    by_cases h : kd = 3
    · rw [if_pos h]
      have a3 := w1 h
      have ⟨a1, a2⟩ := w0.n3 h
      have a1 : 1 ≤ n := a1
      have a2 : n ≤ 20 := a2
      have := from_flats us k ⟨kd, n, s⟩ (flats us ++ r) r [] w6 (by omega) (by omega) (by simp; omega) (by simp; omega)
      simpa using this
    · rw [if_neg h, w2 h]; simp [flats]
theorem from_flats : ∀ (us : List Tm) (k : Nat) (c : Cell) (z r : List Cell) (acc : List Tm), Wfs us → 3 * (flats us).length + 1 < k → (flats us).length + r.length ≤ 2000 → ((acc.length + us.length : Nat) : Int) = c.n → acc.length + us.length ≤ 20 →
    impl_fromCells.l0 k (c :: z) (flats us ++ r) (acc.length : Int) acc = some (Tm.mk c.kind c.n c.text (acc ++ us), r)
  | [], k, c, z, r, acc, hw, hk, hl, hn, hb => by
    obtain ⟨k, rfl⟩ : ∃ q, k = q + 1 := ⟨k - 1, by omega⟩
    rw [impl_fromCells.l0]
    show (if (acc.length : Int) < c.n then _ else some (Tm.mk c.kind c.n c.text acc, flats [] ++ r)) = _
    rw [if_neg (by simp at hn; omega)]
    simp [flats]
  | t :: us, k, c, z, r, acc, hw, hk, hl, hn, hb => by
    obtain ⟨k, rfl⟩ : ∃ q, k = q + 1 := ⟨k - 1, by omega⟩
    simp only [Wfs] at hw
    simp only [flats, List.length_append] at hk hl
    simp only [List.length_cons] at hn hb
    have hp := flat_pos t
    have e0 : flats (t :: us) ++ r = flat t ++ (flats us ++ r) := by simp [flats]
    rw [e0, impl_fromCells.l0]
    rw [from_flat t k (flats us ++ r) hw.1 (by omega) (by simp; omega), Option.bind_some]
    show (if (acc.length : Int) < c.n then _ else _) = _
    rw [if_pos (by omega), if_pos (by omega), wrap_nat (by omega)]
    have := from_flats us k c z r (acc ++ [t]) hw.2 (by omega) (by omega) (by simp; omega) (by simp; omega)
    simpa using this
end
theorem tree_flat (t : Tm) (k : Nat) (hw : Wf t) (hl : (flat t).length ≤ 2000) (hk : 6000 < k) : impl_tree.f k (flat t) = some t := by
  rw [impl_tree.f]
  have := from_flat t k [] hw (by omega) (by simpa using hl)
  rw [List.append_nil] at this
  rw [this]; rfl
/-! ### both answers -/
theorem rs_ex {m : List (Int × Tm)} {ρ : Int → Nat} (hρ : ∀ v t, mget m v = some t → ∀ u, u ∈ vs (flat t) → ρ u < ρ v) : ∀ sub : List Binding, ∃ rs : List (Int × List Cell), ∃ hlen : rs.length = sub.length, ∀ (j : Nat) (hj : j < sub.length), (rs[j]'(by omega)).1 = sub[j].var ∧ Xt m sub[j].term (rs[j]'(by omega)).2
  | [] => ⟨[], rfl, fun j hj => absurd hj (by simp)⟩
  | b :: sub => by
    obtain ⟨rs, hl, h⟩ := rs_ex hρ sub
    obtain ⟨B, hB⟩ := bound_ex ρ (vs b.term)
    obtain ⟨r, hr⟩ := xt_ex hρ B b.term hB
    refine ⟨(b.var, r) :: rs, by simp [hl], fun j hj => ?_⟩
    cases j with
    | zero => exact ⟨rfl, hr⟩
    | succ j => exact h j (by simpa using hj)
/-- what a run's end is made into -/
def Ans (c : Int) (m : List (Int × Tm)) (sub : List Binding) (r : List Binding × Int) : Prop :=
  (c ≠ 0 ∧ r = ([], c)) ∨ (c = 0 ∧ 1000 < sub.length ∧ r = ([], 3)) ∨ (c = 0 ∧ sub.length ≤ 1000 ∧ ∃ (rs : List (Int × List Cell)) (hlen : rs.length = sub.length), (∀ (j : Nat) (hj : j < sub.length), (rs[j]'(by omega)).1 = sub[j].var ∧ Xt m sub[j].term (rs[j]'(by omega)).2) ∧ r = fin rs [])
theorem ans_ex {sub : List Binding} {m : List (Int × Tm)} (hr : Rel sub m) (c : Int) : ∃ r, Ans c m sub r := by
  obtain ⟨ρ, hρ⟩ := hr.acyc
  by_cases hc : c = 0
  · by_cases hl : 1000 < sub.length
    · exact ⟨_, .inr (.inl ⟨hc, hl, rfl⟩)⟩
    · obtain ⟨rs, hlen, h⟩ := rs_ex hρ sub
      exact ⟨_, .inr (.inr ⟨hc, by omega, rs, hlen, h, rfl⟩)⟩
  · exact ⟨_, .inl ⟨hc, rfl⟩⟩
theorem Rel.len {sub : List Binding} {m : List (Int × Tm)} (h : Rel sub m) : m.length = sub.length := by
  have := h.keys.length_eq
  simpa using this
theorem okT_flat {t : Tm} (h : Wf t ∧ (flat t).length ≤ 2000) : okT (flat t) = true := (okT_iff _).2 ⟨h.2, t, rfl, h.1⟩
theorem impl_unify_val {x y : Tm} (hx : Wf x ∧ (flat x).length ≤ 2000) (hy : Wf y ∧ (flat y).length ≤ 2000) {c : Int} {m : List (Int × Tm)} {p : Nat} (h : Run [] 0 [(x, y)] c m p) {sub : List Binding} (hr : Rel sub m) {r : List Binding × Int} (ha : Ans c m sub r) : Ev (fun k => impl_Unify.f k (flat x) (flat y)) r := by
  have hs : ∀ q, q ∈ [(x, y)] → Ok2 q := fun q hq => by rw [List.mem_singleton.1 hq]; exact ⟨hx, hy⟩
  have e1 := run_impl h [] rel_nil (Nat.le_refl _) (by omega) hs (by simp)
  have e2 : Ev (fun k => impl_unify.f k [] x y) (c, m) := Ev.of (fun k => by rw [impl_unify.f]; rfl) e1
  have hx2 := hx.2
  have hy2 := hy.2
  have hml := hr.len
  have v1 : Ev (fun k => impl_ValidTerm.f k (flat x)) true := ⟨2001, fun k hk => by show impl_ValidTerm.f k (flat x) = _; rw [valid_val' _ k (by omega) (by omega), okT_flat hx]⟩
  have v2 : Ev (fun k => impl_ValidTerm.f k (flat y)) true := ⟨2001, fun k hk => by show impl_ValidTerm.f k (flat y) = _; rw [valid_val' _ k (by omega) (by omega), okT_flat hy]⟩
  have t1 : Ev (fun k => impl_tree.f k (flat x)) x := ⟨6001, fun k hk => tree_flat x k hx.1 hx.2 (by omega)⟩
  have t2 : Ev (fun k => impl_tree.f k (flat y)) y := ⟨6001, fun k hk => tree_flat y k hy.1 hy.2 (by omega)⟩
  refine Ev.of (fun k => by rw [impl_Unify.f]) (Ev.bind v1 (Ev.of (fun k => if_neg (not_not_intro rfl)) (Ev.bind v2 (Ev.of (fun k => if_neg (not_not_intro rfl)) (Ev.bind t1 (Ev.bind t2 (Ev.bind e2 ?_)))))))
  rcases ha with ⟨hc, rfl⟩ | ⟨hc, hl, rfl⟩ | ⟨hc, hl, rs, hlen, hrs, rfl⟩
  · exact ret_ev fun k => if_pos hc
  · exact ret_ev fun k => by rw [if_neg (by simpa using hc), if_pos (by show (m.length : Int) > 1000; omega)]
  · refine Ev.of (fun k => by rw [if_neg (by simpa using hc), if_neg (by show ¬ (m.length : Int) > 1000; omega), if_pos (by show m.length ≤ 1000000; omega)]) ?_
    exact impl_fin hr hl c rs hlen hrs _ 0 [] rfl (Nat.zero_le _) (by simp)
theorem spec_unify_val {x y : Tm} (hx : Wf x ∧ (flat x).length ≤ 2000) (hy : Wf y ∧ (flat y).length ≤ 2000) : ∃ (c : Int) (m : List (Int × Tm)) (p : Nat) (sub : List Binding) (r : List Binding × Int), Run [] 0 [(x, y)] c m p ∧ Rel sub m ∧ Ans c m sub r ∧ Ev (fun k => spec_Unify.f k (flat x) (flat y)) r := by
  have hs : ∀ q, q ∈ [(x, y)] → Ok2 q := fun q hq => by rw [List.mem_singleton.1 hq]; exact ⟨hx, hy⟩
  obtain ⟨c, m, p, sub0, h, hr0, _, _⟩ := run_ex 20000 [] [] 0 [(x, y)] rfl (Nat.zero_le _) rel_nil (Nat.zero_le _) hs
  obtain ⟨c1, sub1, m1, p1, e1, hr1, hl1, hp1, g1, g2⟩ := run_spec 20000 [] [] 0 x y [] c m p (by omega) (Nat.zero_le _) rel_nil (Nat.zero_le _) ⟨hx, hy⟩ h
  have hx2 := hx.2
  have hy2 := hy.2
  have v1 : Ev (fun k => spec_ValidTerm.f k (flat x)) true := ⟨2001, fun k hk => by show spec_ValidTerm.f k (flat x) = _; rw [valid_val _ k (by omega) (by omega), okT_flat hx]⟩
  have v2 : Ev (fun k => spec_ValidTerm.f k (flat y)) true := ⟨2001, fun k hk => by show spec_ValidTerm.f k (flat y) = _; rw [valid_val _ k (by omega) (by omega), okT_flat hy]⟩
  by_cases hc : c1 = 0
  · have hrun := (g1 hc).2
    cases hrun
    obtain ⟨r, ha⟩ := ans_ex hr1 0
    refine ⟨0, _, _, sub1, r, h, hr1, ha, ?_⟩
    refine Ev.of (fun k => by rw [spec_Unify.f]) (Ev.bind v1 (Ev.of (fun k => if_neg (not_not_intro rfl)) (Ev.bind v2 (Ev.of (fun k => if_neg (not_not_intro rfl)) (Ev.bind e1 ?_)))))
    rcases ha with ⟨hc', rfl⟩ | ⟨_, hl, rfl⟩ | ⟨_, hl, rs, hlen, hrs, rfl⟩
    · exact absurd rfl hc'
    · exact ret_ev fun k => by rw [if_neg (by simpa using hc), if_pos (by show (sub1.length : Int) > 1000; omega)]
    · refine Ev.of (fun k => by rw [if_neg (by simpa using hc), if_neg (by show ¬ (sub1.length : Int) > 1000; omega)]) ?_
      exact spec_fin hr1 hl _ c1 rs hlen hrs _ 0 [] rfl (Nat.zero_le _) (by simp)
  · have hcc := g2 hc
    subst hcc
    refine ⟨c, m, p, sub0, ([], c), h, hr0, .inl ⟨hc, rfl⟩, ?_⟩
    refine Ev.of (fun k => by rw [spec_Unify.f]) (Ev.bind v1 (Ev.of (fun k => if_neg (not_not_intro rfl)) (Ev.bind v2 (Ev.of (fun k => if_neg (not_not_intro rfl)) (Ev.bind e1 ?_)))))
    exact ret_ev fun k => if_pos hc
/-! ### what is drawn: it comes to an end, and is not large -/
def TE {β : Type} (g : Nat → Option β) (P : β → Prop) : Prop := ∃ r, Ev g r ∧ P r
section
variable {α β : Type} {P Q : β → Prop}
theorem TE.ret {r : β} (h : P r) : TE (fun _ => some r) P := ⟨r, Ev.ret r, h⟩
theorem TE.of {g h : Nat → Option β} (e : ∀ k, g k = h k) (H : TE h P) : TE g P := by
  obtain ⟨r, h1, h2⟩ := H; exact ⟨r, Ev.of e h1, h2⟩
theorem TE.succ {g h : Nat → Option β} (e : ∀ k, g (k + 1) = h k) (H : TE h P) : TE g P := by
  obtain ⟨r, h1, h2⟩ := H; exact ⟨r, Ev.succ e h1, h2⟩
theorem TE.bind {f : Nat → Option α} {h : Nat → α → Option β} {R : α → Prop} (Hf : TE f R) (Hh : ∀ a, R a → TE (fun k => h k a) P) : TE (fun k => (f k).bind (h k)) P := by
  obtain ⟨a, e1, h1⟩ := Hf
  obtain ⟨r, e2, h2⟩ := Hh a h1
  exact ⟨r, Ev.bind e1 e2, h2⟩
theorem TE.ite {c : Prop} [Decidable c] {a b : Nat → Option β} (h1 : c → TE a P) (h2 : ¬ c → TE b P) : TE (fun k => if c then a k else b k) P := by
  by_cases h : c
  · exact TE.of (fun k => if_pos h) (h1 h)
  · exact TE.of (fun k => if_neg h) (h2 h)
theorem TE.pos {c : Prop} [Decidable c] {a b : Nat → Option β} (h : c) (h1 : TE a P) : TE (fun k => if c then a k else b k) P := TE.of (fun k => if_pos h) h1
theorem TE.imp {g : Nat → Option β} (H : TE g Q) (h : ∀ r, Q r → P r) : TE g P := by
  obtain ⟨r, h1, h2⟩ := H; exact ⟨r, h1, h r h2⟩
end
def RD (r : GL4rd) : Prop := 0 ≤ r.i_ ∧ r.i_ ≤ (r.b_.length : Int) ∧ r.b_.length ≤ 500
theorem tmod_rng {a n : Int} (ha : 0 ≤ a) (hn : 0 < n) : 0 ≤ Int.tmod a n ∧ Int.tmod a n < n := by
  rw [Int.tmod_eq_emod_of_nonneg ha]
  exact ⟨Int.emod_nonneg _ (by omega), Int.emod_lt_of_pos _ hn⟩
theorem open_te (x : List UInt8) (h : x.length ≤ 1048576) : TE (fun _ => spec_l4open.f x) RD := by
  refine TE.of (fun k => by rw [spec_l4open.f]) (TE.ite (fun c => TE.pos (by omega) (TE.ret ⟨by simp, by simp, by simp; omega⟩)) fun c => TE.pos (by omega) (TE.pos (by omega) (TE.ret ⟨by simp, by simp, ?_⟩)))
  simp; omega
theorem next_te {r : GL4rd} (h : RD r) : TE (fun _ => spec_l4rd_next_2.f r) (fun t => 0 ≤ t.1 ∧ t.1 ≤ 255 ∧ RD t.2) := by
  obtain ⟨h1, h2, h3⟩ := h
  refine TE.of (fun k => by rw [spec_l4rd_next_2.f]) (TE.ite (fun c => TE.ret ⟨by simp, by simp, h1, h2, h3⟩) fun c => TE.pos h1 (TE.pos (by omega) (TE.ret ⟨?_, ?_, ?_, ?_, ?_⟩)))
  · simp
  · have := (r.b_.getD (r.i_).toNat (0 : UInt8)).toNat_lt; simp only; omega
  all_goals simp only [wrap_id (n := r.i_ + 1) (by omega) (by omega)]
  · omega
  · omega
  · exact h3
theorem getD_len {L : List (List UInt8)} {i : Nat} {n : Nat} (h : L.all (fun s => decide (s.length ≤ n)) = true) : (L.getD i []).length ≤ n := by
  rw [List.getD_eq_getElem?_getD]
  cases e : L[i]? with
  | none => simp
  | some s => exact of_decide_eq_true (List.all_eq_true.1 h s (List.mem_of_getElem? e))
theorem name_te {r : GL4rd} (h : RD r) : TE (fun _ => spec_l4name.f r) (fun t => t.1.length ≤ 100 ∧ RD t.2) := by
  refine TE.of (fun k => by rw [spec_l4name.f]) (TE.bind (next_te h) fun t ⟨h1, h2, h3⟩ => ?_)
  have a := tmod_rng h1 (show (0 : Int) < 6 by omega)
  have b := tmod_rng h1 (show (0 : Int) < 28 by omega)
  refine TE.ite (fun c => TE.pos a.1 (TE.pos (by omega) (TE.pos (Nat.le_trans (getD_len (n := 100) (by decide)) (by decide)) (TE.ret ⟨getD_len (by decide), h3⟩)))) fun c => TE.pos b.1 (TE.pos (by omega) (TE.pos (Nat.le_trans (getD_len (n := 100) (by decide)) (by decide)) (TE.ret ⟨getD_len (by decide), h3⟩)))
theorem int_te {r : GL4rd} (h : RD r) : TE (fun _ => spec_l4int_2.f r) (fun t => RD t.2) := by
  refine TE.of (fun k => by rw [spec_l4int_2.f]) (TE.bind (next_te h) fun t ⟨h1, h2, h3⟩ => ?_)
  have a := tmod_rng h1 (show (0 : Int) < 8 by omega)
  exact TE.ite (fun c => TE.pos a.1 (TE.pos (by omega) (TE.ret h3))) fun c => TE.ret h3
/-- cells that are few and short -/
def TB (n : Nat) (t : List Cell) : Prop := t.length ≤ n ∧ ∀ c, c ∈ t → c.text.length ≤ 1000
theorem TB.app {n m : Nat} {a b : List Cell} (h : TB n a) (g : TB m b) : TB (n + m) (a ++ b) :=
  ⟨by rw [List.length_append]; have := h.1; have := g.1; omega, fun c hc => (List.mem_append.1 hc).elim (h.2 c) (g.2 c)⟩
theorem TB.one {c : Cell} (h : c.text.length ≤ 1000) : TB 1 [c] := ⟨by simp, fun d hd => by rw [List.mem_singleton.1 hd]; exact h⟩
theorem TB.le {n m : Nat} {a : List Cell} (h : TB n a) (hl : n ≤ m) : TB m a := ⟨Nat.le_trans h.1 hl, h.2⟩
theorem atom_te {s : List UInt8} (h : s.length ≤ 1000) : TE (fun _ => spec_l2atom.f s) (fun t => TB 1 t ∧ t ≠ []) :=
  TE.of (fun k => by rw [spec_l2atom.f]) (TE.pos (Nat.le_trans h (by decide)) (TE.ret ⟨TB.one h, by simp⟩))
theorem copy_te {n : Nat} {t : List Cell} (h : TB n t) (hn : n ≤ 1000000) : TE (fun k => spec_l2copy.f k t) (fun u => u = t) :=
  ⟨t, ⟨n + 1, fun k hk => l2copy_val t k (by have := h.1; omega) (fun c hc => Nat.le_trans (h.2 c hc) (by decide)) (by have := h.1; omega)⟩, rfl⟩
theorem comp_te {s : List UInt8} (hs : s.length ≤ 1000) (L : List (List Cell)) (n : Nat) (hL : L.length ≤ 1000) (hn : n ≤ 100000) (h : ∀ t, t ∈ L → TB n t) : TE (fun k => spec_l2comp.f k s L) (fun t => TB (1 + L.length * n) t ∧ t ≠ []) := by
  refine TE.of (fun k => by rw [spec_l2comp.f]) (TE.pos (Nat.le_trans hs (by decide)) ?_)
  have key : ∀ (m i : Nat) (acc : List Cell), L.length - i = m → i ≤ L.length → TB (1 + i * n) acc → acc ≠ [] → TE (fun k => spec_l2comp.l0 k L acc (i : Int)) (fun t => TB (1 + L.length * n) t ∧ t ≠ []) := by
    intro m
    induction m with
    | zero =>
      intro i acc h1 h2 h3 h4
      obtain rfl : i = L.length := by omega
      exact TE.succ (fun k => by rw [spec_l2comp.l0, if_neg (by omega)]) (TE.ret ⟨h3, h4⟩)
    | succ m ih =>
      intro i acc h1 h2 h3 h4
      have hi : i < L.length := by omega
      have hb := h _ (List.getElem_mem hi)
      have hin : i * n ≤ 1000 * 100000 := Nat.mul_le_mul (by omega) hn
      refine TE.succ (fun k => by rw [spec_l2comp.l0, if_pos (by omega), if_pos (by omega), Int.toNat_natCast, getD_at hi, wrap_nat (by omega)]) (TE.bind (copy_te hb (by omega)) fun t ht => ?_)
      subst ht
      have h5 := h3.app hb
      refine TE.pos (by have := h5.1; rw [List.length_append] at this; omega) (ih (i + 1) _ (by omega) (by omega) ?_ (by simp [h4]))
      exact h5.le (by rw [Nat.add_mul]; omega)
  exact key L.length 0 _ rfl (Nat.zero_le _) ((TB.one hs).le (by omega)) (by simp)
theorem pair_te {s : List UInt8} (hs : s.length ≤ 1000) {a b : List Cell} {n : Nat} (ha : TB n a) (hb : TB n b) (hn : n ≤ 100000) : TE (fun k => spec_l2pair.f k s a b) (fun t => TB (1 + 2 * n) t ∧ t ≠ []) := by
  refine TE.of (fun k => by rw [spec_l2pair.f]) (TE.bind (comp_te hs [a, b] n (by simp) hn fun t ht => ?_) fun t ht => TE.ret ht)
  rcases List.mem_cons.1 ht with rfl | ht
  · exact ha
  · rw [List.mem_singleton.1 ht]; exact hb
theorem list_te (L : List (List Cell)) (z : List Cell) (n : Nat) (hL : L.length ≤ 1000) (hn : n ≤ 100000) (h : ∀ t, t ∈ L → TB n t) (hz : TB n z) (hz0 : z ≠ []) : TE (fun k => spec_l2list.f k L z) (fun t => TB (L.length * (n + 1) + n) t ∧ t ≠ []) := by
  refine TE.of (fun k => by rw [spec_l2list.f]) ?_
  have key : ∀ (m i : Nat) (acc : List Cell), L.length - i = m → i ≤ L.length → TB (i * (n + 1)) acc → TE (fun k => spec_l2list.l0 k L z acc (i : Int)) (fun t => TB (L.length * (n + 1) + n) t ∧ t ≠ []) := by
    intro m
    induction m with
    | zero =>
      intro i acc h1 h2 h3
      obtain rfl : i = L.length := by omega
      have hin : L.length * (n + 1) ≤ 1000 * 100001 := Nat.mul_le_mul (by omega) (by omega)
      refine TE.succ (fun k => by rw [spec_l2list.l0, if_neg (by omega)]) (TE.bind (copy_te hz (by omega)) fun t ht => ?_)
      subst ht
      have h5 := h3.app hz
      have hal : acc.length ≤ 1000 * 100001 := Nat.le_trans h3.1 hin
      exact TE.pos (by have := hz.1; omega) (TE.ret ⟨h5, by simp [hz0]⟩)
    | succ m ih =>
      intro i acc h1 h2 h3
      have hi : i < L.length := by omega
      have hb := h _ (List.getElem_mem hi)
      have hin : i * (n + 1) ≤ 1000 * 100001 := Nat.mul_le_mul (by omega) (by omega)
      have hc : TB 1 [(⟨3, 2, [(46 : UInt8)]⟩ : Cell)] := TB.one (by simp)
      have h4 := h3.app hc
      have hal : acc.length ≤ 1000 * 100001 := Nat.le_trans h3.1 hin
      refine TE.succ (fun k => by rw [spec_l2list.l0, if_pos (by omega), if_pos (by omega), if_pos (by omega), Int.toNat_natCast, getD_at hi, wrap_nat (by omega)]) (TE.bind (copy_te hb (by omega)) fun t ht => ?_)
      subst ht
      have h5 := h4.app hb
      refine TE.pos (by have := hb.1; simp only [List.length_append, List.length_cons, List.length_nil]; omega) (ih (i + 1) _ (by omega) (by omega) ?_)
      exact h5.le (by rw [Nat.add_mul]; omega)
  exact key L.length 0 [] rfl (Nat.zero_le _) ⟨by simp, fun c hc => by cases hc⟩
end Go.Proofs.Ytognefkopbbdnaa
