import Derived.Test.YtognefkopbbdnaaWkVr2
import Derived.Test.YtognefkopbbdnaaZ2
namespace Go.Proofs.Ytognefkopbbdnaa
open Go.Sx Go.Sy
set_option linter.unusedVariables false
set_option linter.unusedSimpArgs false
set_option linter.unusedSectionVars false
set_option maxRecDepth 4000
/-! ### sizes, copies, equality: cells -/
theorem left_m1 {b : Int} {n : Nat} (h : left b n < 0) : left b n = -1 := by unfold left at *; split <;> (split at h <;> first | rfl | omega)
theorem szByteS_val (xs : List UInt8) (b : Int) (h0 : 0 ≤ b) (h1 : b ≤ 1048576) (hl : xs.length ≤ 9223372036854775807) : laws_szByteS.f xs b = some (left b xs.length) := by
  rw [laws_szByteS.f]; exact sz0 h0 h1 hl
theorem szCell_val (x : Cell) (b : Int) (h0 : 0 ≤ b) (h1 : b ≤ 1048576) (hl : x.text.length ≤ 9223372036854775807) : laws_szCell.f x b = some (left b x.text.length) := by
  rw [laws_szCell.f, szByteS_val _ _ h0 h1 hl, Option.bind_some]
  split
  · rename_i h; rw [left_m1 h]
  · rfl
theorem szCellS_val (xs : List Cell) (k : Nat) (b : Int) (h0 : 0 ≤ b) (h1 : b ≤ 1048576) (hl : xs.length ≤ 9223372036854775807) (ht : ∀ c, c ∈ xs → c.text.length ≤ 9223372036854775807) (hk : 1048577 < k) :
    laws_szCellS.f k xs b = some (left b (wCells xs)) := by
  rw [laws_szCellS.f]
  refine szT h0 h1 hl fun h => ?_
  have hq := left_le h
  rw [left_wrap h0 h1 hl h]
  exact szL (B := 0) (z := z68) (fun x => x.text.length) (fun k b i => laws_szCellS.l0 k xs b i) (fun _ => laws_szCell.f) (fun _ _ _ => rfl) (by omega) (fun x hx _ _ b q0 q1 => szCell_val x b q0 q1 (ht x hx)) k (by omega) _ (by omega) (by omega)
theorem toByteS_id (xs : List UInt8) (k : Nat) (hl : xs.length ≤ 1048576) (hk : xs.length < k) : laws_toByteS.f k xs = some xs := by
  rw [laws_toByteS.f, if_pos (by omega), if_pos (by omega)]
  exact toF (z := 0) (fun k i ys => laws_toByteS.l0 k xs i ys) (fun _ _ _ => rfl) (by omega) k hk _ (by simp)
theorem toCell_id (x : Cell) (k : Nat) (hl : x.text.length ≤ 1048576) (hk : 1048577 ≤ k) : laws_toCell.f k x = some x := by
  rw [laws_toCell.f, toByteS_id _ k hl (by omega)]; rfl
theorem wCells_len {xs : List Cell} {n : Nat} (hl : wCells xs ≤ n) : xs.length ≤ n := Nat.le_trans (Nat.le_add_right _ _) hl
theorem wCells_mem {xs : List Cell} {n : Nat} (hl : wCells xs ≤ n) {x : Cell} (hx : x ∈ xs) : x.text.length ≤ n := Nat.le_trans (Nat.le_trans (wts_mem (fun x : Cell => x.text.length) hx) (Nat.le_add_left _ _)) hl
theorem toCellS_id (xs : List Cell) (k : Nat) (hl : wCells xs ≤ 1048576) (hk : 2097154 < k) : laws_toCellS.f k xs = some xs := by
  have hl2 := wCells_len hl
  rw [laws_toCellS.f, if_pos (by omega), if_pos (by omega)]
  exact toL (z := z68) (B := 1048577) (fun k i ys => laws_toCellS.l0 k xs i ys) laws_toCell.f (fun _ _ _ => rfl) (by omega) (fun x hx k hk => toCell_id x k (wCells_mem hl hx) hk) k (by omega) _ (by simp)
theorem eqByteS_id (xs : List UInt8) (k : Nat) (hl : xs.length ≤ 1048576) (hk : xs.length < k) : laws_eqByteS.f k xs xs = some true := by
  rw [laws_eqByteS.f, if_neg (by simp)]
  exact eqF (z := 0) (fun k i => laws_eqByteS.l0 k xs xs i) (fun _ _ => rfl) (by omega) k hk
theorem eqCell_id (x : Cell) (k : Nat) (hl : x.text.length ≤ 1048576) (hk : 1048577 ≤ k) : laws_eqCell.f k x x = some true := by
  rw [laws_eqCell.f, if_neg (by simp), if_neg (by simp), eqByteS_id _ k hl (by omega), Option.bind_some, if_neg (by simp)]
theorem eqCellS_id (xs : List Cell) (k : Nat) (hl : wCells xs ≤ 1048576) (hk : 2097154 < k) : laws_eqCellS.f k xs xs = some true := by
  have hl2 := wCells_len hl
  rw [laws_eqCellS.f, if_neg (by simp)]
  exact eqL (z := z65) (z' := z65) (B := 1048577) (fun k i => laws_eqCellS.l0 k xs xs i) laws_eqCell.f (fun _ _ => rfl) (by omega) (fun x hx k hk => eqCell_id x k (wCells_mem hl hx) hk) k (by omega)
/-! ### terms that are valid -/
instance (c : Cell) : Decidable (Okc c) := by unfold Okc; infer_instance
theorem l2cell_val (c : Cell) : spec_l2cell.f c = some (decide (Okc c)) := by
  have e : ∀ l : List UInt8, (l.length : Int) = 0 ↔ l = [] := fun l => ⟨fun hl => List.eq_nil_of_length_eq_zero (by omega), fun h => by rw [h]; rfl⟩
  unfold spec_l2cell.f
  simp only [e]
  repeat' split
  all_goals refine congrArg some ?_
  all_goals first
    | (rw [eq_comm, decide_eq_false_iff_not]; unfold Okc; omega)
    | (rw [eq_comm, decide_eq_true_iff]; unfold Okc; omega)
    | (refine decide_eq_decide.2 ?_; unfold Okc; omega)
    | (refine decide_eq_decide.2 ?_; unfold Okc; simp only [*]; simp; try omega)
    | (rw [eq_comm, decide_eq_false_iff_not]; unfold Okc; simp only [*]; simp; try omega)
theorem cellOk_val (c : Cell) : impl_cellOk.f c = some (decide (Okc c)) := by
  have e : ∀ l : List UInt8, (l.length : Int) = 0 ↔ l = [] := fun l => ⟨fun hl => List.eq_nil_of_length_eq_zero (by omega), fun h => by rw [h]; rfl⟩
  unfold impl_cellOk.f
  simp only [e]
  repeat' split
  all_goals refine congrArg some ?_
  all_goals first
    | (rw [eq_comm, decide_eq_false_iff_not]; unfold Okc; omega)
    | (rw [eq_comm, decide_eq_true_iff]; unfold Okc; omega)
    | (refine decide_eq_decide.2 ?_; unfold Okc; omega)
    | (refine decide_eq_decide.2 ?_; unfold Okc; simp only [*]; simp; try omega)
    | (rw [eq_comm, decide_eq_false_iff_not]; unfold Okc; simp only [*]; simp; try omega)
theorem valid_l0 (xs : List Cell) (hl : xs.length < 9223372036854775807) : ∀ (m k i : Nat) (n : Int), xs.length - i = m → i ≤ xs.length → m < k → impl_ValidTerm.l0 k xs n (i : Int) = spec_ValidTerm.l0 k xs n (i : Int) ∧ ∃ b, spec_ValidTerm.l0 k xs n (i : Int) = some b := by
  intro m
  induction m with
  | zero =>
    intro k i n h1 h2 h3
    obtain ⟨k, rfl⟩ : ∃ q, k = q + 1 := ⟨k - 1, by omega⟩
    rw [impl_ValidTerm.l0, spec_ValidTerm.l0, if_neg (by omega), if_neg (by omega)]
    exact ⟨rfl, _, rfl⟩
  | succ m ih =>
    intro k i n h1 h2 h3
    obtain ⟨k, rfl⟩ : ∃ q, k = q + 1 := ⟨k - 1, by omega⟩
    rw [impl_ValidTerm.l0, spec_ValidTerm.l0, if_pos (show (i : Int) < (xs.length : Int) by omega), if_pos (show (0 : Int) ≤ (i : Int) by omega), if_pos (show (i : Int) < (xs.length : Int) by omega), wrap_nat (by omega)]
    by_cases hn : n = 0
    · rw [if_pos hn, if_pos hn]; exact ⟨rfl, _, rfl⟩
    · rw [if_neg hn, if_neg hn, if_pos (show (0 : Int) ≤ (i : Int) by omega), l2cell_val, cellOk_val, Option.bind_some, Option.bind_some]
      split
      · exact ⟨rfl, _, rfl⟩
      · split
        · exact ih k (i + 1) _ (by omega) (by omega) (by omega)
        · exact ih k (i + 1) _ (by omega) (by omega) (by omega)
theorem valid_eq (xs : List Cell) (k : Nat) (hl : xs.length < 9223372036854775807) (hk : xs.length < k) : impl_ValidTerm.f k xs = spec_ValidTerm.f k xs ∧ ∃ b, spec_ValidTerm.f k xs = some b := by
  rw [impl_ValidTerm.f, spec_ValidTerm.f]
  split
  · exact ⟨rfl, _, rfl⟩
  · exact valid_l0 xs hl xs.length k 0 1 rfl (by omega) hk
theorem valid_trees (xs : List Cell) (hl : xs.length ≤ 2000) : ∀ (m k i n : Nat), xs.length - i = m → i ≤ xs.length → n ≤ 1 + 20 * i → spec_ValidTerm.l0 k xs (n : Int) (i : Int) = some true →
    ∃ ts, ts.length = n ∧ flats ts = xs.drop i ∧ Wfs ts := by
  intro m
  induction m with
  | zero =>
    intro k i n h1 h2 h3 h
    obtain ⟨k, rfl⟩ : ∃ q, k = q + 1 := by
      cases k with
      | zero => rw [spec_ValidTerm.l0] at h; cases h
      | succ q => exact ⟨q, rfl⟩
    rw [spec_ValidTerm.l0, if_neg (by omega)] at h
    have h0 : n = 0 := by simpa using h
    exact ⟨[], by simp [h0], by rw [List.drop_of_length_le (by omega)]; simp [flats], by simp [Wfs]⟩
  | succ m ih =>
    intro k i n h1 h2 h3 h
    obtain ⟨k, rfl⟩ : ∃ q, k = q + 1 := by
      cases k with
      | zero => rw [spec_ValidTerm.l0] at h; cases h
      | succ q => exact ⟨q, rfl⟩
    have hi : i < xs.length := by omega
    rw [spec_ValidTerm.l0, if_pos (by omega), Int.toNat_natCast, getD_at hi, wrap_nat (by omega), l2cell_val] at h
    by_cases hn : (n : Int) = 0
    · rw [if_pos hn] at h; simp at h
    rw [if_neg hn, if_pos (by omega), Option.bind_some] at h
    by_cases hb : Okc xs[i]
    · rw [if_neg (by simpa using hb), wrap_id (n := (n : Int) - 1) (by omega) (by omega)] at h
      by_cases hk : xs[i].kind = 3
      · obtain ⟨p1, p2⟩ := hb.n3 hk
        rw [if_pos hk, wrap_id (n := (n : Int) - 1 + xs[i].n) (by omega) (by omega), show (n : Int) - 1 + xs[i].n = ((n - 1 + xs[i].n.toNat : Nat) : Int) by omega] at h
        obtain ⟨ts, e1, e2, e3⟩ := ih k (i + 1) (n - 1 + xs[i].n.toNat) (by omega) (by omega) (by omega) h
        refine ⟨Tm.mk xs[i].kind xs[i].n xs[i].text (ts.take xs[i].n.toNat) :: ts.drop xs[i].n.toNat, by simp; omega, ?_, ?_⟩
        · rw [List.drop_eq_getElem_cons hi, ← e2]
          conv => rhs; rw [← List.take_append_drop xs[i].n.toNat ts]
          rw [flats_append]
          simp [flats, flat]
        · rw [← List.take_append_drop xs[i].n.toNat ts, Wfs_append] at e3
          simp only [Wfs, Wf]
          exact ⟨⟨hb, fun _ => by rw [List.length_take]; omega, fun h => absurd hk h, e3.1⟩, e3.2⟩
      · rw [if_neg hk, show (n : Int) - 1 = ((n - 1 : Nat) : Int) by omega] at h
        obtain ⟨ts, e1, e2, e3⟩ := ih k (i + 1) (n - 1) (by omega) (by omega) (by omega) h
        refine ⟨Tm.mk xs[i].kind xs[i].n xs[i].text [] :: ts, by simp; omega, ?_, ?_⟩
        · rw [List.drop_eq_getElem_cons hi, ← e2]; simp [flats, flat]
        · simp only [Wfs, Wf]
          exact ⟨⟨hb, fun h => absurd h hk, fun _ => trivial, trivial⟩, e3⟩
    · rw [if_pos (by simpa using hb)] at h; simp at h
theorem valid_tree (xs : List Cell) (k : Nat) (h : spec_ValidTerm.f k xs = some true) : xs.length ≤ 2000 ∧ ∃ t, flat t = xs ∧ Wf t := by
  rw [spec_ValidTerm.f] at h
  split at h
  · simp at h
  · rename_i hl
    have hl' : xs.length ≤ 2000 := by omega
    obtain ⟨ts, e1, e2, e3⟩ := valid_trees xs hl' xs.length k 0 1 rfl (by omega) (by omega) h
    refine ⟨hl', ?_⟩
    match ts, e1, e2, e3 with
    | [t], _, e2, e3 =>
      refine ⟨t, by simpa [flats] using e2, ?_⟩
      simp only [Wfs] at e3
      exact e3.1
theorem valid_flats (xs : List Cell) (hx : xs.length ≤ 2000) : ∀ (m k i e : Nat) (us : List Tm) (r : List Cell), (flats us).length = m → Wfs us → xs.drop i = flats us ++ r → us.length + e ≤ 100000 → e ≤ 50000 →
    spec_ValidTerm.l0 (k + m) xs ((us.length + e : Nat) : Int) (i : Int) = spec_ValidTerm.l0 k xs (e : Int) ((i + m : Nat) : Int) := by
  intro m
  induction m with
  | zero =>
    intro k i e us r h1 hw hd h2 h3
    cases us with
    | nil => simp
    | cons t us => have := flat_pos t; simp only [flats, List.length_append] at h1; omega
  | succ m ih =>
    intro k i e us r h1 hw hd h2 h3
    cases us with
    | nil => simp [flats] at h1
    | cons t us =>
      obtain ⟨kd, n, s, vs⟩ := t
      simp only [Wfs, Wf] at hw
      obtain ⟨⟨w0, w1, w2, w3⟩, w4⟩ := hw
      have hi : i < xs.length := by
        rcases Nat.lt_or_ge i xs.length with h | h
        · exact h
        · rw [List.drop_of_length_le h] at hd; simp [flats, flat] at hd
      have hc : xs[i] = ⟨kd, n, s⟩ := by
        rw [List.drop_eq_getElem_cons hi] at hd
        simp only [flats, flat, List.cons_append] at hd
        exact (List.cons.inj hd).1
      have hd2 : xs.drop (i + 1) = flats (vs ++ us) ++ r := by
        rw [List.drop_eq_getElem_cons hi] at hd
        simp only [flats, flat, List.cons_append] at hd
        rw [(List.cons.inj hd).2, flats_append]
      have hm : (flats (vs ++ us)).length = m := by
        simp only [flats, flat, List.cons_append, List.length_cons] at h1
        rw [flats_append]; omega
      have hl : (flats (vs ++ us)).length ≤ 2000 := by
        have := congrArg List.length hd2
        rw [List.length_drop, List.length_append] at this; omega
      have hlen := flats_len (vs ++ us)
      rw [show k + (m + 1) = (k + m) + 1 by omega, spec_ValidTerm.l0, if_pos (by omega), if_neg (by simp; omega), if_pos (by omega), Int.toNat_natCast, getD_at hi, hc, wrap_nat (by omega), l2cell_val, Option.bind_some, if_neg (by simpa using w0)]
      have := ih k (i + 1) e (vs ++ us) r hm ((Wfs_append _ _).2 ⟨w3, w4⟩) hd2 (by omega) h3
      rw [show i + (m + 1) = i + 1 + m by omega, ← this]
      simp only [List.length_cons, List.length_append] at hlen h2 ⊢
      by_cases hk : kd = 3
      · have hn := w1 hk
        rw [if_pos hk, wrap_id (n := ((us.length + 1 + e : Nat) : Int) - 1) (by omega) (by omega), wrap_id (by omega) (by omega)]
        congr 1
        omega
      · rw [if_neg hk, wrap_id (by omega) (by omega)]
        have : vs = [] := w2 hk
        subst this
        congr 1
        simp; omega
/-- the cells of a term that is valid -/
noncomputable def okT (xs : List Cell) : Bool := @decide (xs.length ≤ 2000 ∧ ∃ t, flat t = xs ∧ Wf t) (Classical.propDecidable _)
theorem okT_iff (xs : List Cell) : okT xs = true ↔ (xs.length ≤ 2000 ∧ ∃ t, flat t = xs ∧ Wf t) := by unfold okT; exact @decide_eq_true_iff _ (Classical.propDecidable _)
theorem valid_val (xs : List Cell) (k : Nat) (hl : xs.length < 9223372036854775807) (hk : xs.length < k) : spec_ValidTerm.f k xs = some (okT xs) := by
  obtain ⟨_, b, e⟩ := valid_eq xs k hl hk
  cases b with
  | true => rw [e, (okT_iff xs).2 (valid_tree xs k e)]
  | false =>
    rw [e]
    by_cases h : okT xs = true
    · obtain ⟨h1, t, rfl, hw⟩ := (okT_iff xs).1 h
      exfalso
      rw [spec_ValidTerm.f, if_neg (by omega)] at e
      obtain ⟨k, rfl⟩ : ∃ q, k = q + 1 + (flat t).length := ⟨k - 1 - (flat t).length, by omega⟩
      have := valid_flats (flat t) h1 (flat t).length (k + 1) 0 0 [t] [] (by simp [flats]) (by simp [Wfs, hw]) (by simp [flats]) (by simp) (by omega)
      rw [show (([t].length + 0 : Nat) : Int) = 1 from rfl, show ((0 : Nat) : Int) = 0 from rfl] at this
      rw [this, spec_ValidTerm.l0, if_neg (by omega)] at e
      simp at e
    · rw [show okT xs = false by simpa using h]
theorem valid_val' (xs : List Cell) (k : Nat) (hl : xs.length < 9223372036854775807) (hk : xs.length < k) : impl_ValidTerm.f k xs = some (okT xs) := by
  rw [(valid_eq xs k hl hk).1, valid_val xs k hl hk]
theorem okT_all : ∀ (xs : List (List Cell)), xs.all okT = true → ∃ us : List Tm, us.map flat = xs ∧ Wfs us
  | [], _ => ⟨[], rfl, by simp [Wfs]⟩
  | x :: xs, h => by
    rw [List.all_cons, Bool.and_eq_true] at h
    obtain ⟨_, t, rfl, hw⟩ := (okT_iff x).1 h.1
    obtain ⟨us, rfl, hws⟩ := okT_all xs h.2
    exact ⟨t :: us, rfl, by simp only [Wfs]; exact ⟨hw, hws⟩⟩
/-! ### cells to trees -/
mutual
theorem from_flat : ∀ (t : Tm) (k : Nat) (r : List Cell), Wf t → 3 * (flat t).length < k → (flat t).length + r.length ≤ 2000 → impl_fromCells.f k (flat t ++ r) = some (t, r)
  | .mk kd n s us, k, r, hw, hk, hl => by
    obtain ⟨k, rfl⟩ : ∃ q, k = q + 1 := ⟨k - 1, by omega⟩
    simp only [flat, List.length_cons] at hk hl
    simp only [Wf] at hw
    obtain ⟨w0, w1, w2, w6⟩ := hw
    have e0 : flat (Tm.mk kd n s us) ++ r = ⟨kd, n, s⟩ :: (flats us ++ r) := by simp [flat]
    rw [e0, impl_fromCells.f, if_pos (by simp; omega), if_pos (by simp; omega), drop1]
    show (if kd = 3 then impl_fromCells.l0 k _ _ 0 [] else some (Tm.mk kd n s [], flats us ++ r)) = _
    by_cases h : kd = 3
    · rw [if_pos h]
      have a3 := w1 h
      have ⟨a1, a2⟩ := w0.n3 h
      have a1 : 1 ≤ n := a1
      have a2 : n ≤ 20 := a2
      have := from_flats us k ⟨kd, n, s⟩ (flats us ++ r) r [] w6 (by omega) (by omega) (by simp; omega) (by simp; omega)
      simpa using this
    · rw [if_neg h, w2 h]; simp [flats]
theorem from_flats : ∀ (us : List Tm) (k : Nat) (c : Cell) (z r : List Cell) (acc : List Tm), Wfs us → 3 * (flats us).length + 1 < k → (flats us).length + r.length ≤ 2000 → ((acc.length + us.length : Nat) : Int) = c.n → acc.length + us.length ≤ 20 →
    impl_fromCells.l0 k (c :: z) (flats us ++ r) (acc.length : Int) acc = some (Tm.mk c.kind c.n c.text (acc ++ us), r)
  | [], k, c, z, r, acc, hw, hk, hl, hn, hb => by
    obtain ⟨k, rfl⟩ : ∃ q, k = q + 1 := ⟨k - 1, by omega⟩
    rw [impl_fromCells.l0]
    show (if (acc.length : Int) < c.n then _ else some (Tm.mk c.kind c.n c.text acc, flats [] ++ r)) = _
    rw [if_neg (by simp at hn; omega)]
    simp [flats]
  | t :: us, k, c, z, r, acc, hw, hk, hl, hn, hb => by
    obtain ⟨k, rfl⟩ : ∃ q, k = q + 1 := ⟨k - 1, by omega⟩
    simp only [Wfs] at hw
    simp only [flats, List.length_append] at hk hl
    simp only [List.length_cons] at hn hb
    have hp := flat_pos t
    have e0 : flats (t :: us) ++ r = flat t ++ (flats us ++ r) := by simp [flats]
    rw [e0, impl_fromCells.l0]
    rw [from_flat t k (flats us ++ r) hw.1 (by omega) (by simp; omega), Option.bind_some]
    show (if (acc.length : Int) < c.n then _ else _) = _
    rw [if_pos (by omega), if_pos (by omega), wrap_nat (by omega)]
    have := from_flats us k c z r (acc ++ [t]) hw.2 (by omega) (by omega) (by simp; omega) (by simp; omega)
    simpa using this
end
theorem tree_flat (t : Tm) (k : Nat) (hw : Wf t) (hl : (flat t).length ≤ 2000) (hk : 6000 < k) : impl_tree.f k (flat t) = some t := by
  rw [impl_tree.f]
  have := from_flat t k [] hw (by omega) (by simpa using hl)
  rw [List.append_nil] at this
  rw [this]; rfl
theorem l2copy_val (xs : List Cell) (k : Nat) (hl : xs.length ≤ 1000000) (ht : ∀ c, c ∈ xs → c.text.length ≤ 1000000) (hk : xs.length < k) : spec_l2copy.f k xs = some xs := by
  rw [spec_l2copy.f]
  have key : ∀ (m k i : Nat), xs.length - i = m → i ≤ xs.length → m < k → spec_l2copy.l0 k xs (xs.take i) (i : Int) = some xs := by
    intro m
    induction m with
    | zero =>
      intro k i h1 h2 h3
      obtain ⟨k, rfl⟩ : ∃ q, k = q + 1 := ⟨k - 1, by omega⟩
      rw [spec_l2copy.l0, if_neg (by omega), List.take_of_length_le (by omega)]
    | succ m ih =>
      intro k i h1 h2 h3
      obtain ⟨k, rfl⟩ : ∃ q, k = q + 1 := ⟨k - 1, by omega⟩
      have hi : i < xs.length := by omega
      have hlt := ht _ (List.getElem_mem hi)
      rw [spec_l2copy.l0, if_pos (by omega), if_pos (by omega), Int.toNat_natCast, getD_at hi, spec_l1copy.f, if_pos (by omega), Option.bind_some, if_pos (by rw [List.length_take]; omega), wrap_nat (by omega)]
      have e : xs.take i ++ [(⟨xs[i].kind, xs[i].n, xs[i].text⟩ : Cell)] = xs.take (i + 1) := by rw [List.take_add_one, List.getElem?_eq_getElem hi]; rfl
      rw [e]
      exact ih k (i + 1) (by omega) (by omega) (by omega)
  exact key xs.length k 0 rfl (by omega) hk
/-! ### FnExactTermVars -/
def addV (acc : List Int) (c : Cell) : List Int := if c.kind = 0 ∧ c.n ∉ acc then acc ++ [c.n] else acc
def varsC (xs : List Cell) (acc : List Int) : List Int := xs.foldl addV acc
theorem addV_len (acc : List Int) (c : Cell) : (addV acc c).length ≤ acc.length + 1 := by unfold addV; split <;> simp
theorem varsC_len : ∀ (xs : List Cell) (acc : List Int), (varsC xs acc).length ≤ acc.length + xs.length
  | [], acc => by simp [varsC]
  | x :: xs, acc => by
    have := varsC_len xs (addV acc x)
    have := addV_len acc x
    simp only [varsC, List.foldl_cons, List.length_cons] at *
    omega
theorem l2find_val (vs : List Int) (x : Int) (k : Nat) (hl : vs.length ≤ 1048576) (hk : vs.length < k) : ∃ r, spec_l2find.f k vs x = some r ∧ (r < 0 ↔ x ∉ vs) := by
  rw [spec_l2find.f]
  have key : ∀ (m k i : Nat), vs.length - i = m → i ≤ vs.length → m < k → ∃ r, spec_l2find.l0 k vs x (i : Int) = some r ∧ (r < 0 ↔ x ∉ vs.drop i) := by
    intro m
    induction m with
    | zero =>
      intro k i h1 h2 h3
      obtain ⟨k, rfl⟩ : ∃ q, k = q + 1 := ⟨k - 1, by omega⟩
      rw [spec_l2find.l0, if_neg (by omega), List.drop_of_length_le (by omega)]
      exact ⟨-1, rfl, by simp⟩
    | succ m ih =>
      intro k i h1 h2 h3
      obtain ⟨k, rfl⟩ : ∃ q, k = q + 1 := ⟨k - 1, by omega⟩
      have hi : i < vs.length := by omega
      rw [spec_l2find.l0, if_pos (by omega), if_pos (by omega), Int.toNat_natCast, getD_at hi, List.drop_eq_getElem_cons hi]
      by_cases h : vs[i] = x
      · rw [if_pos h]; exact ⟨i, rfl, by simp [h]⟩
      · rw [if_neg h, wrap_nat (by omega)]
        obtain ⟨r, e1, e2⟩ := ih k (i + 1) (by omega) (by omega) (by omega)
        exact ⟨r, e1, e2.trans ⟨fun a b => (List.mem_cons.1 b).elim (fun q => h q.symm) a, fun a b => a (.tail _ b)⟩⟩
  exact key vs.length k 0 rfl (by omega) hk
theorem l2vars_val (xs : List Cell) (acc : List Int) (k : Nat) (hl : xs.length + acc.length ≤ 100000) (hk : 200001 + xs.length < k) : spec_l2vars_2.f k xs acc = some (varsC xs acc) := by
  rw [spec_l2vars_2.f]
  have key : ∀ (m k i : Nat) (acc : List Int), xs.length - i = m → i ≤ xs.length → 200001 + m < k → m + acc.length ≤ 100000 → spec_l2vars_2.l0 k xs acc (i : Int) = some (varsC (xs.drop i) acc) := by
    intro m
    induction m with
    | zero =>
      intro k i acc h1 h2 h3 h4
      obtain ⟨k, rfl⟩ : ∃ q, k = q + 1 := ⟨k - 1, by omega⟩
      rw [spec_l2vars_2.l0, if_neg (by omega), List.drop_of_length_le (by omega)]; rfl
    | succ m ih =>
      intro k i acc h1 h2 h3 h4
      obtain ⟨k, rfl⟩ : ∃ q, k = q + 1 := ⟨k - 1, by omega⟩
      have hi : i < xs.length := by omega
      rw [spec_l2vars_2.l0, if_pos (by omega), if_pos (by omega), Int.toNat_natCast, getD_at hi, List.drop_eq_getElem_cons hi, wrap_nat (by omega)]
      show _ = some (varsC (xs.drop (i + 1)) (addV acc xs[i]))
      by_cases h : xs[i].kind = 0
      · obtain ⟨r, e1, e2⟩ := l2find_val acc xs[i].n k (by omega) (by omega)
        rw [if_pos h, e1, Option.bind_some]
        by_cases hr : r < 0
        · rw [if_pos hr, if_pos (by omega), show addV acc xs[i] = acc ++ [xs[i].n] by unfold addV; rw [if_pos ⟨h, e2.1 hr⟩]]
          exact ih k (i + 1) _ (by omega) (by omega) (by omega) (by simp; omega)
        · rw [if_neg hr, show addV acc xs[i] = acc by unfold addV; rw [if_neg (fun q => hr (e2.2 q.2))]]
          exact ih k (i + 1) _ (by omega) (by omega) (by omega) (by omega)
      · rw [if_neg h, show addV acc xs[i] = acc by unfold addV; rw [if_neg (fun q => h q.1)]]
        exact ih k (i + 1) _ (by omega) (by omega) (by omega) (by omega)
  exact key xs.length k 0 acc rfl (by omega) (by omega) (by omega)
theorem varsC_app (a b : List Cell) (acc : List Int) : varsC (a ++ b) acc = varsC b (varsC a acc) := by simp [varsC]
/-! ### numbering the variables -/
def num : List Int → Int → Nat
  | [], _ => 0
  | x :: xs, v => if x = v then 0 else num xs v + 1
theorem num_eq {x v : Int} {xs : List Int} (h : x = v) : num (x :: xs) v = 0 := by simp [num, h]
theorem num_ne {x v : Int} {xs : List Int} (h : ¬ x = v) : num (x :: xs) v = num xs v + 1 := by simp [num, h]
theorem num_app : ∀ (vs ws : List Int) (v : Int), v ∈ vs → num (vs ++ ws) v = num vs v
  | [], ws, v, h => by cases h
  | x :: vs, ws, v, h => by
    by_cases hx : x = v
    · simp [num, hx]
    · have h2 : v ∈ vs := (List.mem_cons.1 h).elim (fun q => absurd q.symm hx) id
      simp [num, hx, num_app vs ws v h2]
theorem num_new : ∀ (vs : List Int) (v : Int), v ∉ vs → num (vs ++ [v]) v = vs.length
  | [], v, _ => by simp [num]
  | x :: vs, v, h => by
    have h1 : ¬ x = v := fun q => h (List.mem_cons.2 (.inl q.symm))
    have h2 : v ∉ vs := fun q => h (.tail _ q)
    simp [num, h1, num_new vs v h2]
theorem num_lt : ∀ (vs : List Int) (v : Int), v ∈ vs → num vs v < vs.length
  | [], v, h => by cases h
  | x :: vs, v, h => by
    by_cases hx : x = v
    · simp [num, hx]
    · have h2 : v ∈ vs := (List.mem_cons.1 h).elim (fun q => absurd q.symm hx) id
      have := num_lt vs v h2
      simp [num, hx]; exact this
theorem l2find_num (vs : List Int) (x : Int) (k : Nat) (hl : vs.length ≤ 1048576) (hk : vs.length < k) (hx : x ∈ vs) : spec_l2find.f k vs x = some (num vs x : Int) := by
  rw [spec_l2find.f]
  have key : ∀ (m k i : Nat), vs.length - i = m → i ≤ vs.length → m < k → x ∈ vs.drop i → spec_l2find.l0 k vs x (i : Int) = some ((i + num (vs.drop i) x : Nat) : Int) := by
    intro m
    induction m with
    | zero =>
      intro k i h1 h2 h3 h4
      rw [List.drop_of_length_le (by omega)] at h4; cases h4
    | succ m ih =>
      intro k i h1 h2 h3 h4
      obtain ⟨k, rfl⟩ : ∃ q, k = q + 1 := ⟨k - 1, by omega⟩
      have hi : i < vs.length := by omega
      rw [spec_l2find.l0, if_pos (by omega), if_pos (by omega), Int.toNat_natCast, getD_at hi]
      rw [List.drop_eq_getElem_cons hi] at h4 ⊢
      by_cases h : vs[i] = x
      · rw [if_pos h, num_eq h]; rfl
      · rw [if_neg h, wrap_nat (by omega), ih k (i + 1) (by omega) (by omega) (by omega) ((List.mem_cons.1 h4).elim (fun q => absurd q.symm h) id)]
        rw [num_ne h]; congr 2; omega
  have := key vs.length k 0 rfl (by omega) hk hx
  simpa using this
def ren (vs : List Int) (c : Cell) : Cell := if c.kind = 0 then { c with n := (num vs c.n : Int) } else c
theorem addV_pre (acc : List Int) (c : Cell) : ∃ ws, addV acc c = acc ++ ws := by unfold addV; split <;> first | exact ⟨_, rfl⟩ | exact ⟨[], by simp⟩
theorem varsC_pre : ∀ (xs : List Cell) (acc : List Int), ∃ ws, varsC xs acc = acc ++ ws
  | [], acc => ⟨[], by simp [varsC]⟩
  | x :: xs, acc => by
    obtain ⟨a, ha⟩ := addV_pre acc x
    obtain ⟨b, hb⟩ := varsC_pre xs (addV acc x)
    exact ⟨a ++ b, by show varsC xs (addV acc x) = _; rw [hb, ha, List.append_assoc]⟩
theorem addV_mem (acc : List Int) (c : Cell) (h : c.kind = 0) : c.n ∈ addV acc c := by
  unfold addV
  by_cases h2 : c.n ∈ acc
  · rw [if_neg (fun q => q.2 h2)]; exact h2
  · rw [if_pos ⟨h, h2⟩]; simp
theorem varsC_mem : ∀ (xs : List Cell) (acc : List Int) (c : Cell), c ∈ xs → c.kind = 0 → c.n ∈ varsC xs acc
  | [], acc, c, h, _ => by cases h
  | x :: xs, acc, c, h, hk => by
    show c.n ∈ varsC xs (addV acc x)
    rcases List.mem_cons.1 h with rfl | h
    · obtain ⟨ws, e⟩ := varsC_pre xs (addV acc c)
      rw [e]; exact List.mem_append_left _ (addV_mem acc c hk)
    · exact varsC_mem xs (addV acc x) c h hk
theorem ren_ext (xs : List Cell) (vs ws : List Int) (h : ∀ c, c ∈ xs → c.kind = 0 → c.n ∈ vs) : xs.map (ren (vs ++ ws)) = xs.map (ren vs) := by
  apply List.map_congr_left
  intro c hc
  unfold ren
  by_cases hk : c.kind = 0
  · rw [if_pos hk, if_pos hk, num_app vs ws _ (h c hc hk)]
  · rw [if_neg hk, if_neg hk]
theorem l2renumber_val (xs : List Cell) (vs : List Int) (k : Nat) (hl : xs.length ≤ 100000) (ht : ∀ c, c ∈ xs → c.text.length ≤ 1000000) (hv : vs.length ≤ 100000) (hm : ∀ c, c ∈ xs → c.kind = 0 → c.n ∈ vs) (hk : 300000 < k) : spec_l2renumber.f k xs vs = some (xs.map (ren vs)) := by
  rw [spec_l2renumber.f, l2copy_val xs k (by omega) ht (by omega), Option.bind_some]
  have key : ∀ (m k i : Nat) (ys : List Cell), xs.length - i = m → i ≤ xs.length → m + 100001 < k → ys.length = xs.length → ys.drop i = xs.drop i → ys.take i = (xs.map (ren vs)).take i → spec_l2renumber.l0 k vs xs (i : Int) ys = some (xs.map (ren vs)) := by
    intro m
    induction m with
    | zero =>
      intro k i ys h1 h2 h3 h4 h5 h6
      obtain ⟨k, rfl⟩ : ∃ q, k = q + 1 := ⟨k - 1, by omega⟩
      rw [spec_l2renumber.l0, if_neg (by omega)]
      rw [List.take_of_length_le (by omega), List.take_of_length_le (by simp; omega)] at h6
      rw [h6]
    | succ m ih =>
      intro k i ys h1 h2 h3 h4 h5 h6
      obtain ⟨k, rfl⟩ : ∃ q, k = q + 1 := ⟨k - 1, by omega⟩
      have hi : i < xs.length := by omega
      have hi2 : i < ys.length := by omega
      have hc : ys[i] = xs[i] := by
        rw [List.drop_eq_getElem_cons hi, List.drop_eq_getElem_cons hi2] at h5
        exact (List.cons.inj h5).1
      have hd : ys.drop (i + 1) = xs.drop (i + 1) := by
        rw [List.drop_eq_getElem_cons hi, List.drop_eq_getElem_cons hi2] at h5
        exact (List.cons.inj h5).2
      rw [spec_l2renumber.l0, if_pos (by omega), if_pos (by omega), Int.toNat_natCast, getD_at hi2, hc, wrap_nat (by omega)]
      have hmem := List.getElem_mem hi
      by_cases hk : xs[i].kind = 0
      · rw [if_pos hk, l2find_num vs _ k (by omega) (by omega) (hm _ hmem hk), Option.bind_some]
        refine ih k (i + 1) _ (by omega) (by omega) (by omega) (by simpa using h4) (by rw [List.drop_set_of_lt (by omega)]; exact hd) ?_
        refine take_set hi2 h6 ?_
        rw [List.getElem?_map, List.getElem?_eq_getElem hi]
        unfold ren
        simp [hk]
      · rw [if_neg hk]
        refine ih k (i + 1) ys (by omega) (by omega) (by omega) h4 hd ?_
        rw [List.take_add_one, List.take_add_one, h6, List.getElem?_eq_getElem hi2, List.getElem?_map, List.getElem?_eq_getElem hi, hc]
        simp [ren, hk]
  exact key xs.length k 0 xs rfl (by omega) (by omega) rfl rfl (by simp)
/-- the map holds the numbers of those seen -/
def NumOK (m : List (Int × Int)) (acc : List Int) : Prop := m.length = acc.length ∧ ∀ v, mget m v = if v ∈ acc then some (num acc v : Int) else none
theorem mset_len {m : List (Int × Int)} {v x : Int} (h : mget m v = none) : (mset m v x).length = m.length + 1 := by
  induction m with
  | nil => rfl
  | cons p m ih =>
    unfold mget at h
    by_cases hp : p.1 = v
    · rw [if_pos hp] at h; cases h
    · rw [if_neg hp] at h
      unfold mset
      rw [if_neg hp, List.length_cons, List.length_cons, ih h]
theorem count_val (m : List (Int × Int)) (acc : List Int) (v : Int) (h : NumOK m acc) (hl : acc.length ≤ 100000) : ∃ m', impl_counter_c1.f v m 0 = some (Tm.mk 0 (num (addV acc ⟨0, v, []⟩) v : Int) [] [], m') ∧ NumOK m' (addV acc ⟨0, v, []⟩) := by
  rw [impl_counter_c1.f]
  have hv := h.2 v
  by_cases hm : v ∈ acc
  · rw [if_pos hm] at hv
    have ea : addV acc ⟨0, v, []⟩ = acc := by unfold addV; rw [if_neg (fun q => q.2 hm)]
    rw [hv, if_pos (c := (some (num acc v : Int)).isSome = true) rfl, impl_variable.f, ea]
    exact ⟨m, rfl, h⟩
  · rw [if_neg hm] at hv
    have ea : addV acc ⟨0, v, []⟩ = acc ++ [v] := by unfold addV; rw [if_pos ⟨rfl, hm⟩]
    have e : IntKind.i64.wrap (0 + (m.length : Int)) = (acc.length : Int) := by have := h.1; rw [wrap_id (by omega) (by omega)]; omega
    rw [hv, if_neg (by simp), impl_variable.f, e, ea, num_new acc v hm]
    refine ⟨_, rfl, by rw [mset_len hv, h.1]; simp, fun j => ?_⟩
    rw [mget_mset]
    by_cases hj : j = v
    · subst hj; rw [if_pos rfl, if_pos (by simp), num_new acc j hm]
    · rw [if_neg hj, h.2 j]
      by_cases hja : j ∈ acc
      · rw [if_pos hja, if_pos (by simp [hja]), num_app acc [v] j hja]
      · rw [if_neg hja, if_neg (by simp [hja, hj])]
theorem ren_okc {vs : List Int} {c : Cell} (h : Okc c) (hv : vs.length ≤ 1000000) (hm : c.kind = 0 → c.n ∈ vs) : Okc (ren vs c) := by
  unfold ren
  by_cases hk : c.kind = 0
  · rw [if_pos hk]
    have := num_lt vs c.n (hm hk)
    rcases h with ⟨_, _, _, h⟩ | ⟨h, _⟩ | ⟨h, _⟩ | ⟨h, _⟩
    · exact .inl ⟨hk, by show (0 : Int) ≤ (num vs c.n : Int); omega, by show (num vs c.n : Int) ≤ 1000000; omega, h⟩
    all_goals omega
  · rw [if_neg hk]; exact h
mutual
theorem mapped_flat : ∀ (t : Tm) (k : Nat) (m : List (Int × Int)) (acc : List Int), Wf t → 4 * (flat t).length < k → (flat t).length + acc.length ≤ 100000 → NumOK m acc →
    ∃ t' m', impl_node_mapped.f k t m 0 = some (t', m') ∧ NumOK m' (varsC (flat t) acc) ∧ flat t' = (flat t).map (ren (varsC (flat t) acc)) ∧ Wf t'
  | .mk kd n s us, k, m, acc, hw, hk, hl, hs => by
    simp only [flat, List.length_cons] at hk hl
    simp only [Wf] at hw
    obtain ⟨w0, w1, w2, w6⟩ := hw
    obtain ⟨k, rfl⟩ : ∃ q, k = q + 3 := ⟨k - 3, by omega⟩
    rw [impl_node_mapped.f]
    show ∃ t' m', (if kd = 0 then (impl_counter_c1.f n m 0).bind fun t24 => some (t24.1, t24.2) else (if kd = 3 then impl_node_mapped.l0 (k + 2) (Tm.mk kd n s us) 0 0 m [] else some (Tm.mk kd n s us, m))) = some (t', m') ∧ _
    by_cases h0 : kd = 0
    · subst h0
      have hu : us = [] := w2 (by omega)
      have hs0 : s = [] := by
        rcases w0 with ⟨_, _, _, h⟩ | ⟨h, _⟩ | ⟨h, _⟩ | ⟨h, _⟩
        · exact h
        all_goals exact absurd (show (0 : Int) = _ from h) (by decide)
      subst hu; subst hs0
      obtain ⟨m', e1, e2⟩ := count_val m acc n hs (by omega)
      rw [if_pos rfl, e1, Option.bind_some]
      have hmem := addV_mem acc ⟨0, n, []⟩ rfl
      have hlen := addV_len acc ⟨0, n, []⟩
      have hnl := num_lt _ _ hmem
      refine ⟨_, m', rfl, e2, by simp [flat, flats, varsC, ren], ?_⟩
      simp only [Wf, Wfs]
      exact ⟨.inl ⟨rfl, by show (0 : Int) ≤ (num (addV acc ⟨0, n, []⟩) n : Int); omega, by show (num (addV acc ⟨0, n, []⟩) n : Int) ≤ 1000000; have : num (addV acc ⟨0, n, []⟩) n < (addV acc ⟨0, n, []⟩).length := hnl; omega, rfl⟩, by simp, by simp, trivial⟩
    rw [if_neg h0]
    have ea : addV acc ⟨kd, n, s⟩ = acc := by unfold addV; rw [if_neg (fun q => h0 q.1)]
    have ev : varsC (flat (Tm.mk kd n s us)) acc = varsC (flats us) acc := by
      simp only [flat]
      show varsC (flats us) (addV acc ⟨kd, n, s⟩) = _
      rw [ea]
    rw [ev]
    by_cases h3 : kd = 3
    · rw [if_pos h3]
      subst h3
      obtain ⟨us', m', e1, e2, e3, e4, e5⟩ := mapped_flats us [] (k + 1) (Tm.mk 3 n s us) m acc [] rfl w6 (by omega) (by omega) hs (by have := flats_len us; simp; omega) rfl
      refine ⟨Tm.mk 3 n s us', m', by have := e1; simp only [List.nil_append] at this; exact this, e2, ?_, ?_⟩
      · simp only [flat, List.map_cons, e3]
        congr 1
      · simp only [Wf]
        refine ⟨w0, fun _ => ?_, fun h => ?_, e4⟩
        · rw [e5]; exact w1 rfl
        · simp at h
    · rw [if_neg h3]
      have hu : us = [] := w2 h3
      subst hu
      refine ⟨_, m, rfl, hs, by simp [flat, flats, ren, h0], ?_⟩
      simp only [Wf]
      exact ⟨w0, w1, fun _ => trivial, w6⟩
theorem mapped_flats : ∀ (us vs : List Tm) (k : Nat) (t : Tm) (m : List (Int × Int)) (acc : List Int) (out : List Tm), t.args = vs ++ us → Wfs us → 4 * (flats us).length + 1 < k + 1 → (flats us).length + acc.length ≤ 100000 → NumOK m acc → vs.length + us.length ≤ 1000000 → out.length = vs.length →
    ∃ us' m', impl_node_mapped.l0 (k + 1) t 0 (vs.length : Int) m out = some (Tm.mk 3 t.n t.text (out ++ us'), m') ∧ NumOK m' (varsC (flats us) acc) ∧ flats us' = (flats us).map (ren (varsC (flats us) acc)) ∧ Wfs us' ∧ us'.length = us.length
  | [], vs, k, t, m, acc, out, ha, hw, hk, hl, hs, hv, ho => by
    rw [impl_node_mapped.l0, ha, if_neg (by simp)]
    exact ⟨[], m, by simp, hs, by simp [flats], by simp [Wfs], rfl⟩
  | u :: us, vs, k, t, m, acc, out, ha, hw, hk, hl, hs, hv, ho => by
    simp only [Wfs] at hw
    simp only [flats, List.length_append] at hk hl ⊢
    have hp := flat_pos u
    simp only [List.length_cons] at hv
    obtain ⟨k, rfl⟩ : ∃ q, k = q + 1 := ⟨k - 1, by omega⟩
    rw [impl_node_mapped.l0, ha, if_pos (by simp; omega), if_pos (by omega)]
    have hg : (vs ++ u :: us).getD ((vs.length : Int)).toNat (Tm.mk 0 0 [] []) = u := by
      rw [Int.toNat_natCast, List.getD_eq_getElem?_getD, List.getElem?_append_right (by omega), Nat.sub_self]; rfl
    obtain ⟨u', m1, e1, e2, e3, e4⟩ := mapped_flat u (k + 1) m acc hw.1 (by omega) (by omega) hs
    have hq := varsC_len (flat u) acc
    rw [hg, e1, Option.bind_some, if_pos (by omega), wrap_nat (by omega)]
    obtain ⟨us', m2, f1, f2, f3, f4, f5⟩ := mapped_flats us (vs ++ [u]) k t m1 (varsC (flat u) acc) (out ++ [u']) (by rw [ha]; simp) hw.2 (by omega) (by omega) e2 (by simp; omega) (by simp [ho])
    rw [show ((vs ++ [u]).length : Int) = ((vs.length + 1 : Nat) : Int) by simp] at f1
    refine ⟨u' :: us', m2, by rw [f1]; simp, by rw [varsC_app]; exact f2, ?_, by simp only [Wfs]; exact ⟨e4, f4⟩, by simp [f5]⟩
    simp only [flats]
    rw [varsC_app, List.map_append, f3, e3]
    congr 1
    obtain ⟨ws, ew⟩ := varsC_pre (flats us) (varsC (flat u) acc)
    rw [ew, ren_ext _ _ _ (fun c hc hk => varsC_mem (flat u) acc c hc hk)]
end
theorem renumbered_val (t : Tm) (k : Nat) (hw : Wf t) (hl : (flat t).length ≤ 2000) (hk : 9000 < k) : ∃ t', impl_renumbered.f k t = some t' ∧ flat t' = (flat t).map (ren (varsC (flat t) [])) ∧ Wf t' := by
  obtain ⟨t', m', e1, _, e3, e4⟩ := mapped_flat t k [] [] hw (by omega) (by simp; omega) ⟨rfl, fun v => by simp [mget]⟩
  rw [impl_renumbered.f, impl_counter.f, Option.bind_some, e1]
  exact ⟨t', rfl, e3, e4⟩
theorem spec_ren (t : Tm) (k : Nat) (hw : Wf t) (hl : (flat t).length ≤ 2000) (hk : 2000000 < k) : spec_l2vars_2.f k (flat t) [] = some (varsC (flat t) []) ∧ spec_l2renumber.f k (flat t) (varsC (flat t) []) = some ((flat t).map (ren (varsC (flat t) []))) := by
  have := varsC_len (flat t) []
  exact ⟨l2vars_val _ [] k (by simp; omega) (by omega), l2renumber_val _ _ k (by omega) (fun c hc => Nat.le_trans (flat_ok t hw c hc).text (by decide)) (by simp at this; omega) (fun c hc h => varsC_mem _ _ c hc h) (by omega)⟩
/-! ### the order of cell lists -/
def cmp : List Cell → List Cell → Int
  | a :: x, b :: y =>
    if a.kind ≠ b.kind then (if a.kind < b.kind then -1 else 1)
    else if a.n ≠ b.n then (if a.n < b.n then -1 else 1)
    else if a.text ≠ b.text then (if Op.bytesLess a.text b.text = true then -1 else 1)
    else cmp x y
  | _, _ => 0
theorem l2compare_l0 (xs ys : List Cell) (hl : xs.length ≤ 2000) : ∀ (m k i : Nat), xs.length - i = m → i ≤ xs.length → m < k → spec_l2compare.l0 k xs ys (i : Int) = some (cmp (xs.drop i) (ys.drop i)) := by
  intro m
  induction m with
  | zero =>
    intro k i h1 h2 h3
    obtain ⟨k, rfl⟩ : ∃ q, k = q + 1 := ⟨k - 1, by omega⟩
    rw [spec_l2compare.l0, if_neg (by omega), List.drop_of_length_le (show xs.length ≤ i by omega)]
    rfl
  | succ m ih =>
    intro k i h1 h2 h3
    obtain ⟨k, rfl⟩ : ∃ q, k = q + 1 := ⟨k - 1, by omega⟩
    have hi : i < xs.length := by omega
    have hg : xs.getD i z65 = xs[i] := by rw [List.getD_eq_getElem?_getD, List.getElem?_eq_getElem hi]; rfl
    rw [spec_l2compare.l0, if_pos (by omega), Int.toNat_natCast, hg]
    by_cases hj : i < ys.length
    · have hg2 : ys.getD i z65 = ys[i] := by rw [List.getD_eq_getElem?_getD, List.getElem?_eq_getElem hj]; rfl
      rw [if_pos (by omega), if_pos (by omega), hg2, wrap_nat (by omega), ih k (i + 1) (by omega) (by omega) (by omega), List.drop_eq_getElem_cons hi, List.drop_eq_getElem_cons hj, cmp]
      split
      · simp [spec_l2sign.f]; split <;> rfl
      · split
        · simp [spec_l2sign.f]; split <;> rfl
        · split
          · simp [spec_l2sign.f]; split <;> rfl
          · rfl
    · rw [if_neg (by omega), List.drop_of_length_le (show ys.length ≤ i by omega)]
      cases xs.drop i <;> rfl
theorem l2compare_val (xs ys : List Cell) (k : Nat) (hl : xs.length ≤ 2000) (hk : xs.length < k) : spec_l2compare.f k xs ys = some (cmp xs ys) := by
  rw [spec_l2compare.f]
  exact l2compare_l0 xs ys hl xs.length k 0 rfl (by omega) hk
theorem cInt (a b : Int) : impl_compareInt.f a b = some (if a < b then -1 else if b < a then 1 else 0) := by
  rw [impl_compareInt.f]
  split
  · rfl
  · split <;> rfl
theorem cText {a b : List UInt8} (h : a ≠ b) : impl_compareText.f a b = some (if Op.bytesLess a b = true then -1 else 1) := by
  rw [impl_compareText.f]
  split
  · rfl
  · rename_i h1
    rw [if_pos (by simp [h, Bool.not_eq_true] at h1 ⊢; simp [h1, h])]
theorem bytesLess_self : ∀ s : List UInt8, Op.bytesLess s s = false
  | [] => rfl
  | a :: s => by simp [Op.bytesLess, bytesLess_self s]
theorem cmp_cons (a n a' n' : Int) (s s' : List UInt8) (x y : List Cell) : cmp (⟨a, n, s⟩ :: x) (⟨a', n', s'⟩ :: y) = if a = a' then if n = n' then if s = s' then cmp x y else (if Op.bytesLess s s' = true then -1 else 1) else (if n < n' then -1 else 1) else (if a < a' then -1 else 1) := by
  rw [cmp]
  show (if a ≠ a' then _ else if n ≠ n' then _ else if s ≠ s' then _ else _) = _
  by_cases h1 : a = a'
  · rw [if_neg (by simp [h1]), if_pos h1]
    by_cases h2 : n = n'
    · rw [if_neg (by simp [h2]), if_pos h2]
      by_cases h3 : s = s'
      · rw [if_neg (by simp [h3]), if_pos h3]
      · rw [if_pos h3, if_neg h3]
    · rw [if_pos h2, if_neg h2]
  · rw [if_pos h1, if_neg h1]
theorem okc_parts {k n : Int} {s : List UInt8} (h : Okc ⟨k, n, s⟩) : (k = 0 ∨ k = 1 ∨ k = 2 ∨ k = 3) ∧ (k = 0 ∨ k = 1 → s = []) ∧ (k = 2 → n = 0) ∧ (k = 3 → 1 ≤ n ∧ n ≤ 20) := by
  unfold Okc at h
  simp only at h
  rcases h with ⟨h, _, _, h2⟩ | ⟨h, _, _, h2⟩ | ⟨h, h2, _⟩ | ⟨h, h2, h3, _⟩
  · exact ⟨.inl h, fun _ => h2, fun q => by omega, fun q => by omega⟩
  · exact ⟨.inr (.inl h), fun _ => h2, fun q => by omega, fun q => by omega⟩
  · exact ⟨.inr (.inr (.inl h)), fun q => by omega, fun _ => h2, fun q => by omega⟩
  · exact ⟨.inr (.inr (.inr h)), fun q => by omega, fun q => by omega, fun _ => ⟨h2, h3⟩⟩
theorem comp_f (k : Nat) (a n a' n' : Int) (s s' : List UInt8) (us us' : List Tm) : impl_compare.f (k + 2) (.mk a n s us) (.mk a' n' s' us') =
    if a = a' then (if a = 0 ∨ a = 1 then (impl_compareInt.f n n').bind fun t => some t else if a = 2 then (impl_compareText.f s s').bind fun t => some t else if n = n' then if s = s' then impl_compare.l1 k (.mk a n s us) (.mk a' n' s' us') 0 else (impl_compareText.f s s').bind fun t => some t else (impl_compareInt.f n n').bind fun t => some t) else (impl_compareInt.f a a').bind fun t => some t := by
  have hl1 : ∀ b : Bool, impl_compare.l0 (k + 1) (.mk a n s us) (.mk a' n' s' us') b = if b = true then (impl_compareInt.f n n').bind fun t => some t else if a = 2 then (impl_compareText.f s s').bind fun t => some t else if n = n' then if s = s' then impl_compare.l1 k (.mk a n s us) (.mk a' n' s' us') 0 else (impl_compareText.f s s').bind fun t => some t else (impl_compareInt.f n n').bind fun t => some t := fun b => by
    rw [impl_compare.l0]
    show (if b = true then _ else if a = 2 then _ else if n ≠ n' then _ else if s ≠ s' then _ else _) = _
    by_cases h2 : n = n'
    · rw [if_neg (c := n ≠ n') (by simp [h2]), if_pos h2]
      by_cases h3 : s = s'
      · rw [if_neg (c := s ≠ s') (by simp [h3]), if_pos h3]; rfl
      · rw [if_pos h3, if_neg h3]; rfl
    · rw [if_pos h2, if_neg h2]; rfl
  rw [impl_compare.f]
  show (if a ≠ a' then _ else if a = 0 then impl_compare.l0 (k + 1) (.mk a n s us) (.mk a' n' s' us') (decide (a = 0)) else impl_compare.l0 (k + 1) (.mk a n s us) (.mk a' n' s' us') (decide (a = 1))) = _
  by_cases h1 : a = a'
  · rw [if_neg (by simp [h1]), if_pos h1, hl1, hl1]
    by_cases h0 : a = 0
    · simp [h0]
    · by_cases h01 : a = 1
      · simp [h01]
      · simp [h0, h01]
  · rw [if_pos h1, if_neg h1]; rfl
mutual
theorem cmp_flat : ∀ (t u : Tm) (k : Nat), Wf t → Wf u → 5 * (flat t).length < k → (flat t).length ≤ 2000 →
    ∃ v, impl_compare.f k t u = some v ∧ ∀ r1 r2, cmp (flat t ++ r1) (flat u ++ r2) = if v ≠ 0 then v else cmp r1 r2
  | .mk a n s us, .mk a' n' s' us', k, hw, hw', hk, hl => by
    simp only [flat, List.length_cons] at hk hl
    obtain ⟨k, rfl⟩ : ∃ q, k = q + 2 := ⟨k - 2, by omega⟩
    simp only [Wf] at hw hw'
    obtain ⟨w0, w1, w2, w6⟩ := hw
    obtain ⟨w0', w1', w2', w6'⟩ := hw'
    obtain ⟨w5, w3, w4, w7⟩ := okc_parts w0
    obtain ⟨w5', w3', w4', w7'⟩ := okc_parts w0'
    have sgn : ∀ x y : Int, x ≠ y → ((if x < y then (-1 : Int) else if y < x then 1 else 0) = if x < y then -1 else 1) ∧ (if x < y then (-1 : Int) else 1) ≠ 0 := fun x y h => by
      constructor
      · split
        · rfl
        · rw [if_pos (by omega)]
      · split <;> omega
    have key : ∀ v : Int, v ≠ 0 → ∀ z : Int, v = if v ≠ 0 then v else z := fun v hv z => by rw [if_pos hv]
    rw [comp_f]
    simp only [flat, List.cons_append]
    by_cases h1 : a = a'
    · subst h1
      rw [if_pos rfl]
      by_cases h01 : a = 0 ∨ a = 1
      · rw [if_pos h01, cInt, w3 h01, w3' h01, w2 (by omega), w2' (by omega)]
        refine ⟨_, rfl, fun r1 r2 => ?_⟩
        rw [cmp_cons, if_pos rfl]
        by_cases hn : n = n'
        · subst hn; simp [flats]
        · rw [if_neg hn, (sgn n n' hn).1]
          exact key _ (sgn n n' hn).2 _
      · rw [if_neg h01]
        by_cases h2 : a = 2
        · rw [if_pos h2, w4 h2, w4' h2, w2 (by omega), w2' (by omega)]
          by_cases hs : s = s'
          · subst hs
            refine ⟨0, ?_, fun r1 r2 => ?_⟩
            · have : Op.bytesLess s s = false := bytesLess_self s
              rw [impl_compareText.f, if_neg (by simp [this]), if_neg (by simp)]; rfl
            · rw [cmp_cons]; simp [flats]
          · rw [cText hs]
            refine ⟨_, rfl, fun r1 r2 => ?_⟩
            rw [cmp_cons, if_pos rfl, if_pos rfl, if_neg hs]
            refine key _ ?_ _
            split <;> omega
        · rw [if_neg h2]
          have h3 : a = 3 := by omega
          by_cases hn : n = n'
          · subst hn
            rw [if_pos rfl]
            by_cases hs : s = s'
            · subst hs
              rw [if_pos rfl]
              obtain ⟨_, b2⟩ := w7 h3
              have b3 := w1 h3
              have b3' := w1' h3
              obtain ⟨v, e1, e2⟩ := cmp_flats us us' k (.mk a n s us) (.mk a n s us') [] [] (by omega) rfl rfl rfl w6 w6' (by omega) (by simp; omega) (by omega)
              refine ⟨v, e1, fun r1 r2 => ?_⟩
              rw [cmp_cons, if_pos rfl, if_pos rfl, if_pos rfl]
              exact e2 r1 r2
            · rw [if_neg hs, cText hs]
              refine ⟨_, rfl, fun r1 r2 => ?_⟩
              rw [cmp_cons, if_pos rfl, if_pos rfl, if_neg hs]
              refine key _ ?_ _
              split <;> omega
          · rw [if_neg hn, cInt]
            refine ⟨_, rfl, fun r1 r2 => ?_⟩
            rw [cmp_cons, if_pos rfl, if_neg hn, (sgn n n' hn).1]
            exact key _ (sgn n n' hn).2 _
    · rw [if_neg h1, cInt]
      refine ⟨_, rfl, fun r1 r2 => ?_⟩
      rw [cmp_cons, if_neg h1, (sgn a a' h1).1]
      exact key _ (sgn a a' h1).2 _
theorem cmp_flats : ∀ (us vs : List Tm) (k : Nat) (t u : Tm) (p q : List Tm), us.length = vs.length → t.args = p ++ us → u.args = q ++ vs → p.length = q.length → Wfs us → Wfs vs → 5 * (flats us).length + 1 < k → p.length + us.length ≤ 20 → (flats us).length ≤ 2000 →
    ∃ v, impl_compare.l1 k t u (p.length : Int) = some v ∧ ∀ r1 r2, cmp (flats us ++ r1) (flats vs ++ r2) = if v ≠ 0 then v else cmp r1 r2
  | [], [], k, t, u, p, q, h1, h2, h3, h4, hw, hw', hk, hb, hl => by
    obtain ⟨k, rfl⟩ : ∃ q, k = q + 1 := ⟨k - 1, by omega⟩
    rw [impl_compare.l1, if_neg (by rw [h2]; simp)]
    exact ⟨0, rfl, fun r1 r2 => by simp [flats]⟩
  | [], _ :: _, k, t, u, p, q, h1, h2, h3, h4, hw, hw', hk, hb, hl => by simp at h1
  | _ :: _, [], k, t, u, p, q, h1, h2, h3, h4, hw, hw', hk, hb, hl => by simp at h1
  | a :: us, b :: vs, k, t, u, p, q, h1, h2, h3, h4, hw, hw', hk, hb, hl => by
    obtain ⟨k, rfl⟩ : ∃ q, k = q + 1 := ⟨k - 1, by omega⟩
    simp only [Wfs] at hw hw'
    simp only [flats, List.length_append] at hk hl
    simp only [List.length_cons] at h1 hb
    have hp := flat_pos a
    obtain ⟨v, e1, e2⟩ := cmp_flat a b k hw.1 hw'.1 (by omega) (by omega)
    obtain ⟨v2, f1, f2⟩ := cmp_flats us vs k t u (p ++ [a]) (q ++ [b]) (by omega) (by rw [h2]; simp) (by rw [h3]; simp) (by simp [h4]) hw.2 hw'.2 (by omega) (by simp; omega) (by omega)
    have g1 : t.args.getD p.length (Tm.mk 0 0 [] []) = a := by rw [h2]; simp
    have g2 : u.args.getD p.length (Tm.mk 0 0 [] []) = b := by rw [h3, h4]; simp
    rw [impl_compare.l1, if_pos (by rw [h2]; simp; omega), if_pos (by omega), if_pos (by rw [h3]; simp; omega), Int.toNat_natCast, g1, g2, e1, Option.bind_some]
    by_cases hv : v = 0
    · rw [if_neg (by simp [hv]), wrap_nat (by omega)]
      refine ⟨v2, by simpa using f1, fun r1 r2 => ?_⟩
      simp only [flats, List.append_assoc]
      rw [e2, if_neg (by simp [hv]), f2]
    · rw [if_pos hv]
      refine ⟨v, rfl, fun r1 r2 => ?_⟩
      simp only [flats, List.append_assoc]
      rw [e2]
      simp [hv]
end
theorem compare_val (t u : Tm) (k : Nat) (w1 : Wf t) (w2 : Wf u) (hl : (flat t).length ≤ 2000) (hk : 20000 < k) : impl_compare.f k t u = some (cmp (flat t) (flat u)) := by
  obtain ⟨v, e1, e2⟩ := cmp_flat t u k w1 w2 (by omega) hl
  have e3 := e2 [] []
  rw [List.append_nil, List.append_nil] at e3
  rw [e1, e3]
  split
  · rfl
  · rename_i hv
    have : v = 0 := by simpa using hv
    rw [this]; rfl
/-! ### two terms -/
theorem two_law (xs ys : List Cell) (f : Nat → List Cell → List Cell → Option Bool) (g : Nat → List Cell → List Cell → Option Bool) (k : Nat) (hk : 3000000 < k) (lx : xs.length ≤ 9223372036854775807) (ly : ys.length ≤ 9223372036854775807) (hx : ∀ c, c ∈ xs → c.text.length ≤ 9223372036854775807) (hy : ∀ c, c ∈ ys → c.text.length ≤ 9223372036854775807)
    (h : xs.length ≤ 1048576 → ys.length ≤ 1048576 → ∃ b, f k xs ys = some b ∧ g k xs ys = some b) :
    ((laws_szCellS.f k xs 1048576).bind fun t11 => (if t11 < 0 then some true else ((laws_szCellS.f k ys t11).bind fun t18 => (if t18 < 0 then some true else ((laws_toCellS.f k xs).bind fun t25 => ((laws_toCellS.f k ys).bind fun t37 => ((g k t25 t37).bind fun t49 => ((laws_toCellS.f k xs).bind fun t68 => ((laws_toCellS.f k ys).bind fun t80 => ((f k t68 t80).bind fun t92 => (if t92 ≠ t49 then some false else ((laws_toCellS.f k xs).bind fun t112 => ((laws_eqCellS.f k t68 t112).bind fun t124 => (if ¬ (t124 = true) then some false else ((laws_toCellS.f k ys).bind fun t144 => ((laws_eqCellS.f k t80 t144).bind fun t156 => (if ¬ (t156 = true) then some false else some true))))))))))))))))) = some true := by
  rw [szCellS_val xs _ _ (by omega) (by omega) lx hx (by omega), Option.bind_some]
  by_cases h1 : left 1048576 (wCells xs) < 0
  · rw [if_pos h1]
  have q1 := left_le h1
  rw [if_neg h1, szCellS_val ys _ _ q1.2.1 (by omega) ly hy (by omega), Option.bind_some]
  by_cases h2 : left (left 1048576 (wCells xs)) (wCells ys) < 0
  · rw [if_pos h2]
  have q2 := left_le h2
  have w1 : wCells xs ≤ 1048576 := by omega
  have w2 : wCells ys ≤ 1048576 := by omega
  obtain ⟨b, e1, e2⟩ := h (wCells_len w1) (wCells_len w2)
  rw [if_neg h2, toCellS_id xs _ w1 (by omega), toCellS_id ys _ w2 (by omega)]
  simp only [Option.bind_some, e1, e2, eqCellS_id xs k w1 (by omega), eqCellS_id ys k w2 (by omega)]
  rw [if_neg (by simp), if_neg (by simp), if_neg (by simp)]
/-! ### FnExactVariant -/
theorem variant_eq (xs ys : List Cell) (k : Nat) (hx : xs.length ≤ 1048576) (hy : ys.length ≤ 1048576) (hk : 3000000 < k) : ∃ b, impl_Variant.f k xs ys = some b ∧ spec_Variant.f k xs ys = some b := by
  rw [impl_Variant.f, spec_Variant.f]
  simp only [valid_val xs k (by omega) (by omega), valid_val' xs k (by omega) (by omega), valid_val ys k (by omega) (by omega), valid_val' ys k (by omega) (by omega), Option.bind_some]
  cases h : okT xs with
  | false => exact ⟨false, rfl, rfl⟩
  | true =>
    cases h2 : okT ys with
    | false => exact ⟨false, rfl, rfl⟩
    | true =>
      simp only [eq_self, not_true_eq_false, if_false]
      by_cases hl : (xs.length : Int) ≠ (ys.length : Int)
      · rw [if_pos hl, if_pos hl]; exact ⟨false, rfl, rfl⟩
      rw [if_neg hl, if_neg hl]
      obtain ⟨a1, t, rfl, a3⟩ := (okT_iff xs).1 h
      obtain ⟨b1, u, rfl, b3⟩ := (okT_iff ys).1 h2
      obtain ⟨t', e1, e2, e3⟩ := renumbered_val t k a3 a1 (by omega)
      obtain ⟨u', g1, g2, g3⟩ := renumbered_val u k b3 b1 (by omega)
      obtain ⟨f1, f2⟩ := spec_ren t k a3 a1 (by omega)
      obtain ⟨f3, f4⟩ := spec_ren u k b3 b1 (by omega)
      have l1 : (flat t').length = (flat t).length := by rw [e2]; simp
      have s1 : spec_Renumber.f k (flat t) = some (flat t') := by
        rw [spec_Renumber.f, valid_val _ k (by omega) (by omega), h, Option.bind_some, if_neg (by simp), f1]
        simp only [Option.bind_some]
        rw [f2, e2]; rfl
      have s2 : spec_Renumber.f k (flat u) = some (flat u') := by
        rw [spec_Renumber.f, valid_val _ k (by omega) (by omega), h2, Option.bind_some, if_neg (by simp), f3]
        simp only [Option.bind_some]
        rw [f4, g2]; rfl
      simp only [tree_flat t k a3 a1 (by omega), tree_flat u k b3 b1 (by omega), e1, g1, s1, s2, Option.bind_some, compare_val t' u' k e3 g3 (by omega) (by omega), l2compare_val (flat t') (flat u') k (by omega) (by omega)]
      exact ⟨_, rfl, rfl⟩
theorem variant_true (xs ys : List Cell) (lx : xs.length ≤ 9223372036854775807) (ly : ys.length ≤ 9223372036854775807) (hx : ∀ c, c ∈ xs → c.text.length ≤ 9223372036854775807) (hy : ∀ c, c ∈ ys → c.text.length ≤ 9223372036854775807) : laws_FnExactVariant.f 4000000 xs ys = some true := by
  rw [laws_FnExactVariant.f]
  exact two_law xs ys impl_Variant.f spec_Variant.f 4000000 (by omega) lx ly hx hy (fun h1 h2 => variant_eq xs ys _ h1 h2 (by omega))
end Go.Proofs.Ytognefkopbbdnaa
