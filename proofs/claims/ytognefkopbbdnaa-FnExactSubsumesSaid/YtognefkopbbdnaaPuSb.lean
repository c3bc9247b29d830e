import Derived.Test.YtognefkopbbdnaaWkSb2
import Derived.Test.YtognefkopbbdnaaZ2
namespace Go.Proofs.Ytognefkopbbdnaa
open Go.Sx Go.Sy
set_option linter.unusedVariables false
set_option linter.unusedSimpArgs false
set_option linter.unusedSectionVars false
set_option maxRecDepth 4000
/-! ### sizes, copies, equality: cells -/
theorem left_m1 {b : Int} {n : Nat} (h : left b n < 0) : left b n = -1 := by unfold left at *; split <;> (split at h <;> first | rfl | omega)
theorem szByteS_val (xs : List UInt8) (b : Int) (h0 : 0 ≤ b) (h1 : b ≤ 1048576) (hl : xs.length ≤ 9223372036854775807) : laws_szByteS.f xs b = some (left b xs.length) := by
  rw [laws_szByteS.f]; exact sz0 h0 h1 hl
theorem szCell_val (x : Cell) (b : Int) (h0 : 0 ≤ b) (h1 : b ≤ 1048576) (hl : x.text.length ≤ 9223372036854775807) : laws_szCell.f x b = some (left b x.text.length) := by
  rw [laws_szCell.f, szByteS_val _ _ h0 h1 hl, Option.bind_some]
  split
  · rename_i h; rw [left_m1 h]
  · rfl
theorem szCellS_val (xs : List Cell) (k : Nat) (b : Int) (h0 : 0 ≤ b) (h1 : b ≤ 1048576) (hl : xs.length ≤ 9223372036854775807) (ht : ∀ c, c ∈ xs → c.text.length ≤ 9223372036854775807) (hk : 1048577 < k) :
    laws_szCellS.f k xs b = some (left b (wCells xs)) := by
  rw [laws_szCellS.f]
  refine szT h0 h1 hl fun h => ?_
  have hq := left_le h
  rw [left_wrap h0 h1 hl h]
  exact szL (B := 0) (z := z68) (fun x => x.text.length) (fun k b i => laws_szCellS.l0 k xs b i) (fun _ => laws_szCell.f) (fun _ _ _ => rfl) (by omega) (fun x hx _ _ b q0 q1 => szCell_val x b q0 q1 (ht x hx)) k (by omega) _ (by omega) (by omega)
theorem toByteS_id (xs : List UInt8) (k : Nat) (hl : xs.length ≤ 1048576) (hk : xs.length < k) : laws_toByteS.f k xs = some xs := by
  rw [laws_toByteS.f, if_pos (by omega), if_pos (by omega)]
  exact toF (z := 0) (fun k i ys => laws_toByteS.l0 k xs i ys) (fun _ _ _ => rfl) (by omega) k hk _ (by simp)
theorem toCell_id (x : Cell) (k : Nat) (hl : x.text.length ≤ 1048576) (hk : 1048577 ≤ k) : laws_toCell.f k x = some x := by
  rw [laws_toCell.f, toByteS_id _ k hl (by omega)]; rfl
theorem wCells_len {xs : List Cell} {n : Nat} (hl : wCells xs ≤ n) : xs.length ≤ n := Nat.le_trans (Nat.le_add_right _ _) hl
theorem wCells_mem {xs : List Cell} {n : Nat} (hl : wCells xs ≤ n) {x : Cell} (hx : x ∈ xs) : x.text.length ≤ n := Nat.le_trans (Nat.le_trans (wts_mem (fun x : Cell => x.text.length) hx) (Nat.le_add_left _ _)) hl
theorem toCellS_id (xs : List Cell) (k : Nat) (hl : wCells xs ≤ 1048576) (hk : 2097154 < k) : laws_toCellS.f k xs = some xs := by
  have hl2 := wCells_len hl
  rw [laws_toCellS.f, if_pos (by omega), if_pos (by omega)]
  exact toL (z := z68) (B := 1048577) (fun k i ys => laws_toCellS.l0 k xs i ys) laws_toCell.f (fun _ _ _ => rfl) (by omega) (fun x hx k hk => toCell_id x k (wCells_mem hl hx) hk) k (by omega) _ (by simp)
theorem eqByteS_id (xs : List UInt8) (k : Nat) (hl : xs.length ≤ 1048576) (hk : xs.length < k) : laws_eqByteS.f k xs xs = some true := by
  rw [laws_eqByteS.f, if_neg (by simp)]
  exact eqF (z := 0) (fun k i => laws_eqByteS.l0 k xs xs i) (fun _ _ => rfl) (by omega) k hk
theorem eqCell_id (x : Cell) (k : Nat) (hl : x.text.length ≤ 1048576) (hk : 1048577 ≤ k) : laws_eqCell.f k x x = some true := by
  rw [laws_eqCell.f, if_neg (by simp), if_neg (by simp), eqByteS_id _ k hl (by omega), Option.bind_some, if_neg (by simp)]
theorem eqCellS_id (xs : List Cell) (k : Nat) (hl : wCells xs ≤ 1048576) (hk : 2097154 < k) : laws_eqCellS.f k xs xs = some true := by
  have hl2 := wCells_len hl
  rw [laws_eqCellS.f, if_neg (by simp)]
  exact eqL (z := z65) (z' := z65) (B := 1048577) (fun k i => laws_eqCellS.l0 k xs xs i) laws_eqCell.f (fun _ _ => rfl) (by omega) (fun x hx k hk => eqCell_id x k (wCells_mem hl hx) hk) k (by omega)
/-! ### terms that are valid -/
instance (c : Cell) : Decidable (Okc c) := by unfold Okc; infer_instance
theorem l2cell_val (c : Cell) : spec_l2cell.f c = some (decide (Okc c)) := by
  have e : ∀ l : List UInt8, (l.length : Int) = 0 ↔ l = [] := fun l => ⟨fun hl => List.eq_nil_of_length_eq_zero (by omega), fun h => by rw [h]; rfl⟩
  unfold spec_l2cell.f
  simp only [e]
  repeat' split
  all_goals refine congrArg some ?_
  all_goals first
    | (rw [eq_comm, decide_eq_false_iff_not]; unfold Okc; omega)
    | (rw [eq_comm, decide_eq_true_iff]; unfold Okc; omega)
    | (refine decide_eq_decide.2 ?_; unfold Okc; omega)
    | (refine decide_eq_decide.2 ?_; unfold Okc; simp only [*]; simp; try omega)
    | (rw [eq_comm, decide_eq_false_iff_not]; unfold Okc; simp only [*]; simp; try omega)
theorem cellOk_val (c : Cell) : impl_cellOk.f c = some (decide (Okc c)) := by
  have e : ∀ l : List UInt8, (l.length : Int) = 0 ↔ l = [] := fun l => ⟨fun hl => List.eq_nil_of_length_eq_zero (by omega), fun h => by rw [h]; rfl⟩
  unfold impl_cellOk.f
  simp only [e]
  repeat' split
  all_goals refine congrArg some ?_
  all_goals first
    | (rw [eq_comm, decide_eq_false_iff_not]; unfold Okc; omega)
    | (rw [eq_comm, decide_eq_true_iff]; unfold Okc; omega)
    | (refine decide_eq_decide.2 ?_; unfold Okc; omega)
    | (refine decide_eq_decide.2 ?_; unfold Okc; simp only [*]; simp; try omega)
    | (rw [eq_comm, decide_eq_false_iff_not]; unfold Okc; simp only [*]; simp; try omega)
theorem valid_l0 (xs : List Cell) (hl : xs.length < 9223372036854775807) : ∀ (m k i : Nat) (n : Int), xs.length - i = m → i ≤ xs.length → m < k → impl_ValidTerm.l0 k xs n (i : Int) = spec_ValidTerm.l0 k xs n (i : Int) ∧ ∃ b, spec_ValidTerm.l0 k xs n (i : Int) = some b := by
  intro m
  induction m with
  | zero =>
    intro k i n h1 h2 h3
    obtain ⟨k, rfl⟩ : ∃ q, k = q + 1 := ⟨k - 1, by omega⟩
    rw [impl_ValidTerm.l0, spec_ValidTerm.l0, if_neg (by omega), if_neg (by omega)]
    exact ⟨rfl, _, rfl⟩
  | succ m ih =>
    intro k i n h1 h2 h3
    obtain ⟨k, rfl⟩ : ∃ q, k = q + 1 := ⟨k - 1, by omega⟩
    rw [impl_ValidTerm.l0, spec_ValidTerm.l0, if_pos (show (i : Int) < (xs.length : Int) by omega), if_pos (show (0 : Int) ≤ (i : Int) by omega), if_pos (show (i : Int) < (xs.length : Int) by omega), wrap_nat (by omega)]
    by_cases hn : n = 0
    · rw [if_pos hn, if_pos hn]; exact ⟨rfl, _, rfl⟩
    · rw [if_neg hn, if_neg hn, if_pos (show (0 : Int) ≤ (i : Int) by omega), l2cell_val, cellOk_val, Option.bind_some, Option.bind_some]
      split
      · exact ⟨rfl, _, rfl⟩
      · split
        · exact ih k (i + 1) _ (by omega) (by omega) (by omega)
        · exact ih k (i + 1) _ (by omega) (by omega) (by omega)
theorem valid_eq (xs : List Cell) (k : Nat) (hl : xs.length < 9223372036854775807) (hk : xs.length < k) : impl_ValidTerm.f k xs = spec_ValidTerm.f k xs ∧ ∃ b, spec_ValidTerm.f k xs = some b := by
  rw [impl_ValidTerm.f, spec_ValidTerm.f]
  split
  · exact ⟨rfl, _, rfl⟩
  · exact valid_l0 xs hl xs.length k 0 1 rfl (by omega) hk
theorem valid_trees (xs : List Cell) (hl : xs.length ≤ 2000) : ∀ (m k i n : Nat), xs.length - i = m → i ≤ xs.length → n ≤ 1 + 20 * i → spec_ValidTerm.l0 k xs (n : Int) (i : Int) = some true →
    ∃ ts, ts.length = n ∧ flats ts = xs.drop i ∧ Wfs ts := by
  intro m
  induction m with
  | zero =>
    intro k i n h1 h2 h3 h
    obtain ⟨k, rfl⟩ : ∃ q, k = q + 1 := by
      cases k with
      | zero => rw [spec_ValidTerm.l0] at h; cases h
      | succ q => exact ⟨q, rfl⟩
    rw [spec_ValidTerm.l0, if_neg (by omega)] at h
    have h0 : n = 0 := by simpa using h
    exact ⟨[], by simp [h0], by rw [List.drop_of_length_le (by omega)]; simp [flats], by simp [Wfs]⟩
  | succ m ih =>
    intro k i n h1 h2 h3 h
    obtain ⟨k, rfl⟩ : ∃ q, k = q + 1 := by
      cases k with
      | zero => rw [spec_ValidTerm.l0] at h; cases h
      | succ q => exact ⟨q, rfl⟩
    have hi : i < xs.length := by omega
    rw [spec_ValidTerm.l0, if_pos (by omega), Int.toNat_natCast, getD_at hi, wrap_nat (by omega), l2cell_val] at h
    by_cases hn : (n : Int) = 0
    · rw [if_pos hn] at h; simp at h
    rw [if_neg hn, if_pos (by omega), Option.bind_some] at h
    by_cases hb : Okc xs[i]
    · rw [if_neg (by simpa using hb), wrap_id (n := (n : Int) - 1) (by omega) (by omega)] at h
      by_cases hk : xs[i].kind = 3
      · obtain ⟨p1, p2⟩ := hb.n3 hk
        rw [if_pos hk, wrap_id (n := (n : Int) - 1 + xs[i].n) (by omega) (by omega), show (n : Int) - 1 + xs[i].n = ((n - 1 + xs[i].n.toNat : Nat) : Int) by omega] at h
        obtain ⟨ts, e1, e2, e3⟩ := ih k (i + 1) (n - 1 + xs[i].n.toNat) (by omega) (by omega) (by omega) h
        refine ⟨Tm.mk xs[i].kind xs[i].n xs[i].text (ts.take xs[i].n.toNat) :: ts.drop xs[i].n.toNat, by simp; omega, ?_, ?_⟩
        · rw [List.drop_eq_getElem_cons hi, ← e2]
          conv => rhs; rw [← List.take_append_drop xs[i].n.toNat ts]
          rw [flats_append]
          simp [flats, flat]
        · rw [← List.take_append_drop xs[i].n.toNat ts, Wfs_append] at e3
          simp only [Wfs, Wf]
          exact ⟨⟨hb, fun _ => by rw [List.length_take]; omega, fun h => absurd hk h, e3.1⟩, e3.2⟩
      · rw [if_neg hk, show (n : Int) - 1 = ((n - 1 : Nat) : Int) by omega] at h
        obtain ⟨ts, e1, e2, e3⟩ := ih k (i + 1) (n - 1) (by omega) (by omega) (by omega) h
        refine ⟨Tm.mk xs[i].kind xs[i].n xs[i].text [] :: ts, by simp; omega, ?_, ?_⟩
        · rw [List.drop_eq_getElem_cons hi, ← e2]; simp [flats, flat]
        · simp only [Wfs, Wf]
          exact ⟨⟨hb, fun h => absurd h hk, fun _ => trivial, trivial⟩, e3⟩
    · rw [if_pos (by simpa using hb)] at h; simp at h
theorem valid_tree (xs : List Cell) (k : Nat) (h : spec_ValidTerm.f k xs = some true) : xs.length ≤ 2000 ∧ ∃ t, flat t = xs ∧ Wf t := by
  rw [spec_ValidTerm.f] at h
  split at h
  · simp at h
  · rename_i hl
    have hl' : xs.length ≤ 2000 := by omega
    obtain ⟨ts, e1, e2, e3⟩ := valid_trees xs hl' xs.length k 0 1 rfl (by omega) (by omega) h
    refine ⟨hl', ?_⟩
    match ts, e1, e2, e3 with
    | [t], _, e2, e3 =>
      refine ⟨t, by simpa [flats] using e2, ?_⟩
      simp only [Wfs] at e3
      exact e3.1
theorem valid_flats (xs : List Cell) (hx : xs.length ≤ 2000) : ∀ (m k i e : Nat) (us : List Tm) (r : List Cell), (flats us).length = m → Wfs us → xs.drop i = flats us ++ r → us.length + e ≤ 100000 → e ≤ 50000 →
    spec_ValidTerm.l0 (k + m) xs ((us.length + e : Nat) : Int) (i : Int) = spec_ValidTerm.l0 k xs (e : Int) ((i + m : Nat) : Int) := by
  intro m
  induction m with
  | zero =>
    intro k i e us r h1 hw hd h2 h3
    cases us with
    | nil => simp
    | cons t us => have := flat_pos t; simp only [flats, List.length_append] at h1; omega
  | succ m ih =>
    intro k i e us r h1 hw hd h2 h3
    cases us with
    | nil => simp [flats] at h1
    | cons t us =>
      obtain ⟨kd, n, s, vs⟩ := t
      simp only [Wfs, Wf] at hw
      obtain ⟨⟨w0, w1, w2, w3⟩, w4⟩ := hw
      have hi : i < xs.length := by
        rcases Nat.lt_or_ge i xs.length with h | h
        · exact h
        · rw [List.drop_of_length_le h] at hd; simp [flats, flat] at hd
      have hc : xs[i] = ⟨kd, n, s⟩ := by
        rw [List.drop_eq_getElem_cons hi] at hd
        simp only [flats, flat, List.cons_append] at hd
        exact (List.cons.inj hd).1
      have hd2 : xs.drop (i + 1) = flats (vs ++ us) ++ r := by
        rw [List.drop_eq_getElem_cons hi] at hd
        simp only [flats, flat, List.cons_append] at hd
        rw [(List.cons.inj hd).2, flats_append]
      have hm : (flats (vs ++ us)).length = m := by
        simp only [flats, flat, List.cons_append, List.length_cons] at h1
        rw [flats_append]; omega
      have hl : (flats (vs ++ us)).length ≤ 2000 := by
        have := congrArg List.length hd2
        rw [List.length_drop, List.length_append] at this; omega
      have hlen := flats_len (vs ++ us)
      rw [show k + (m + 1) = (k + m) + 1 by omega, spec_ValidTerm.l0, if_pos (by omega), if_neg (by simp; omega), if_pos (by omega), Int.toNat_natCast, getD_at hi, hc, wrap_nat (by omega), l2cell_val, Option.bind_some, if_neg (by simpa using w0)]
      have := ih k (i + 1) e (vs ++ us) r hm ((Wfs_append _ _).2 ⟨w3, w4⟩) hd2 (by omega) h3
      rw [show i + (m + 1) = i + 1 + m by omega, ← this]
      simp only [List.length_cons, List.length_append] at hlen h2 ⊢
      by_cases hk : kd = 3
      · have hn := w1 hk
        rw [if_pos hk, wrap_id (n := ((us.length + 1 + e : Nat) : Int) - 1) (by omega) (by omega), wrap_id (by omega) (by omega)]
        congr 1
        omega
      · rw [if_neg hk, wrap_id (by omega) (by omega)]
        have : vs = [] := w2 hk
        subst this
        congr 1
        simp; omega
/-- the cells of a term that is valid -/
noncomputable def okT (xs : List Cell) : Bool := @decide (xs.length ≤ 2000 ∧ ∃ t, flat t = xs ∧ Wf t) (Classical.propDecidable _)
theorem okT_iff (xs : List Cell) : okT xs = true ↔ (xs.length ≤ 2000 ∧ ∃ t, flat t = xs ∧ Wf t) := by unfold okT; exact @decide_eq_true_iff _ (Classical.propDecidable _)
theorem valid_val (xs : List Cell) (k : Nat) (hl : xs.length < 9223372036854775807) (hk : xs.length < k) : spec_ValidTerm.f k xs = some (okT xs) := by
  obtain ⟨_, b, e⟩ := valid_eq xs k hl hk
  cases b with
  | true => rw [e, (okT_iff xs).2 (valid_tree xs k e)]
  | false =>
    rw [e]
    by_cases h : okT xs = true
    · obtain ⟨h1, t, rfl, hw⟩ := (okT_iff xs).1 h
      exfalso
      rw [spec_ValidTerm.f, if_neg (by omega)] at e
      obtain ⟨k, rfl⟩ : ∃ q, k = q + 1 + (flat t).length := ⟨k - 1 - (flat t).length, by omega⟩
      have := valid_flats (flat t) h1 (flat t).length (k + 1) 0 0 [t] [] (by simp [flats]) (by simp [Wfs, hw]) (by simp [flats]) (by simp) (by omega)
      rw [show (([t].length + 0 : Nat) : Int) = 1 from rfl, show ((0 : Nat) : Int) = 0 from rfl] at this
      rw [this, spec_ValidTerm.l0, if_neg (by omega)] at e
      simp at e
    · rw [show okT xs = false by simpa using h]
theorem valid_val' (xs : List Cell) (k : Nat) (hl : xs.length < 9223372036854775807) (hk : xs.length < k) : impl_ValidTerm.f k xs = some (okT xs) := by
  rw [(valid_eq xs k hl hk).1, valid_val xs k hl hk]
theorem okT_all : ∀ (xs : List (List Cell)), xs.all okT = true → ∃ us : List Tm, us.map flat = xs ∧ Wfs us
  | [], _ => ⟨[], rfl, by simp [Wfs]⟩
  | x :: xs, h => by
    rw [List.all_cons, Bool.and_eq_true] at h
    obtain ⟨_, t, rfl, hw⟩ := (okT_iff x).1 h.1
    obtain ⟨us, rfl, hws⟩ := okT_all xs h.2
    exact ⟨t :: us, rfl, by simp only [Wfs]; exact ⟨hw, hws⟩⟩
/-! ### cells to trees -/
mutual
theorem from_flat : ∀ (t : Tm) (k : Nat) (r : List Cell), Wf t → 3 * (flat t).length < k → (flat t).length + r.length ≤ 2000 → impl_fromCells.f k (flat t ++ r) = some (t, r)
  | .mk kd n s us, k, r, hw, hk, hl => by
    obtain ⟨k, rfl⟩ : ∃ q, k = q + 1 := ⟨k - 1, by omega⟩
    simp only [flat, List.length_cons] at hk hl
    simp only [Wf] at hw
    obtain ⟨w0, w1, w2, w6⟩ := hw
    have e0 : flat (Tm.mk kd n s us) ++ r = ⟨kd, n, s⟩ :: (flats us ++ r) := by simp [flat]
    rw [e0, impl_fromCells.f, if_pos (by simp; omega), if_pos (by simp; omega), drop1]
    show (if kd = 3 then impl_fromCells.l0 k _ _ 0 [] else some (Tm.mk kd n s [], flats us ++ r)) = _
    by_cases h : kd = 3
    · rw [if_pos h]
      have a3 := w1 h
      have ⟨a1, a2⟩ := w0.n3 h
      have a1 : 1 ≤ n := a1
      have a2 : n ≤ 20 := a2
      have := from_flats us k ⟨kd, n, s⟩ (flats us ++ r) r [] w6 (by omega) (by omega) (by simp; omega) (by simp; omega)
      simpa using this
    · rw [if_neg h, w2 h]; simp [flats]
theorem from_flats : ∀ (us : List Tm) (k : Nat) (c : Cell) (z r : List Cell) (acc : List Tm), Wfs us → 3 * (flats us).length + 1 < k → (flats us).length + r.length ≤ 2000 → ((acc.length + us.length : Nat) : Int) = c.n → acc.length + us.length ≤ 20 →
    impl_fromCells.l0 k (c :: z) (flats us ++ r) (acc.length : Int) acc = some (Tm.mk c.kind c.n c.text (acc ++ us), r)
  | [], k, c, z, r, acc, hw, hk, hl, hn, hb => by
    obtain ⟨k, rfl⟩ : ∃ q, k = q + 1 := ⟨k - 1, by omega⟩
    rw [impl_fromCells.l0]
    show (if (acc.length : Int) < c.n then _ else some (Tm.mk c.kind c.n c.text acc, flats [] ++ r)) = _
    rw [if_neg (by simp at hn; omega)]
    simp [flats]
  | t :: us, k, c, z, r, acc, hw, hk, hl, hn, hb => by
    obtain ⟨k, rfl⟩ : ∃ q, k = q + 1 := ⟨k - 1, by omega⟩
    simp only [Wfs] at hw
    simp only [flats, List.length_append] at hk hl
    simp only [List.length_cons] at hn hb
    have hp := flat_pos t
    have e0 : flats (t :: us) ++ r = flat t ++ (flats us ++ r) := by simp [flats]
    rw [e0, impl_fromCells.l0]
    rw [from_flat t k (flats us ++ r) hw.1 (by omega) (by simp; omega), Option.bind_some]
    show (if (acc.length : Int) < c.n then _ else _) = _
    rw [if_pos (by omega), if_pos (by omega), wrap_nat (by omega)]
    have := from_flats us k c z r (acc ++ [t]) hw.2 (by omega) (by omega) (by simp; omega) (by simp; omega)
    simpa using this
end
theorem tree_flat (t : Tm) (k : Nat) (hw : Wf t) (hl : (flat t).length ≤ 2000) (hk : 6000 < k) : impl_tree.f k (flat t) = some t := by
  rw [impl_tree.f]
  have := from_flat t k [] hw (by omega) (by simpa using hl)
  rw [List.append_nil] at this
  rw [this]; rfl
theorem next_flats (xs : List Cell) (hx : xs.length ≤ 2000) : ∀ (m k i e : Nat) (us : List Tm) (r : List Cell), (flats us).length = m → Wfs us → xs.drop i = flats us ++ r → us.length + e ≤ 100000 → e ≤ 50000 →
    spec_l2next.l0 (k + m) xs (i : Int) ((us.length + e : Nat) : Int) = spec_l2next.l0 k xs ((i + m : Nat) : Int) (e : Int) := by
  intro m
  induction m with
  | zero =>
    intro k i e us r h1 hw hd h2 h3
    cases us with
    | nil => simp
    | cons t us => have := flat_pos t; simp only [flats, List.length_append] at h1; omega
  | succ m ih =>
    intro k i e us r h1 hw hd h2 h3
    cases us with
    | nil => simp [flats] at h1
    | cons t us =>
      obtain ⟨kd, n, s, vs⟩ := t
      simp only [Wfs, Wf] at hw
      obtain ⟨⟨w0, w1, w2, w3⟩, w4⟩ := hw
      have hi : i < xs.length := by
        rcases Nat.lt_or_ge i xs.length with h | h
        · exact h
        · rw [List.drop_of_length_le h] at hd; simp [flats, flat] at hd
      have hc : xs[i] = ⟨kd, n, s⟩ := by
        rw [List.drop_eq_getElem_cons hi] at hd
        simp only [flats, flat, List.cons_append] at hd
        exact (List.cons.inj hd).1
      have hd2 : xs.drop (i + 1) = flats (vs ++ us) ++ r := by
        rw [List.drop_eq_getElem_cons hi] at hd
        simp only [flats, flat, List.cons_append] at hd
        rw [(List.cons.inj hd).2, flats_append]
      have hm : (flats (vs ++ us)).length = m := by
        simp only [flats, flat, List.cons_append, List.length_cons] at h1
        rw [flats_append]; omega
      have hv : vs.length ≤ (flats (vs ++ us)).length := by have := flats_len (vs ++ us); simp at this; omega
      have hl : (flats (vs ++ us)).length ≤ 2000 := by
        have := congrArg List.length hd2
        rw [List.length_drop, List.length_append] at this; omega
      have hlen := flats_len (vs ++ us)
      rw [show k + (m + 1) = (k + m) + 1 by omega, spec_l2next.l0, if_pos (by simp; omega), if_pos (by omega), if_pos (by omega), Int.toNat_natCast, getD_at hi, hc, wrap_nat (by omega)]
      have := ih k (i + 1) e (vs ++ us) r hm ((Wfs_append _ _).2 ⟨w3, w4⟩) hd2 (by omega) h3
      rw [show i + (m + 1) = i + 1 + m by omega, ← this]
      simp only [List.length_cons, List.length_append] at hlen h2 ⊢
      by_cases hk : kd = 3
      · have hn := w1 hk
        rw [if_pos hk, wrap_id (n := ((us.length + 1 + e : Nat) : Int) + n) (by omega) (by omega), wrap_id (by omega) (by omega)]
        congr 1
        omega
      · rw [if_neg hk, wrap_id (by omega) (by omega)]
        have : vs = [] := w2 hk
        subst this
        congr 1
        simp; omega
theorem next_one (c : Cell) (t : Tm) (r : List Cell) (k : Nat) (hw : Wf t) (hl : (flat t).length + r.length < 2000) (hk : 2000 < k) : spec_l2next.f k (c :: (flat t ++ r)) 1 = some ((1 + (flat t).length : Nat) : Int) := by
  rw [spec_l2next.f]
  obtain ⟨k, rfl⟩ : ∃ q, k = q + 1 + (flat t).length := ⟨k - 1 - (flat t).length, by omega⟩
  have := next_flats (c :: (flat t ++ r)) (by simp; omega) (flat t).length (k + 1) 1 0 [t] r (by simp [flats]) (by simp [Wfs, hw]) (by simp [flats]) (by simp) (by omega)
  rw [show (([t].length + 0 : Nat) : Int) = 1 from rfl, show ((1 : Nat) : Int) = 1 from rfl] at this
  rw [this, spec_l2next.l0, if_neg (by simp)]
theorem l2find_val (vs : List Int) (x : Int) (k : Nat) (hl : vs.length ≤ 1048576) (hk : vs.length < k) : ∃ r, spec_l2find.f k vs x = some r ∧ (r < 0 ↔ x ∉ vs) := by
  rw [spec_l2find.f]
  have key : ∀ (m k i : Nat), vs.length - i = m → i ≤ vs.length → m < k → ∃ r, spec_l2find.l0 k vs x (i : Int) = some r ∧ (r < 0 ↔ x ∉ vs.drop i) := by
    intro m
    induction m with
    | zero =>
      intro k i h1 h2 h3
      obtain ⟨k, rfl⟩ : ∃ q, k = q + 1 := ⟨k - 1, by omega⟩
      rw [spec_l2find.l0, if_neg (by omega), List.drop_of_length_le (by omega)]
      exact ⟨-1, rfl, by simp⟩
    | succ m ih =>
      intro k i h1 h2 h3
      obtain ⟨k, rfl⟩ : ∃ q, k = q + 1 := ⟨k - 1, by omega⟩
      have hi : i < vs.length := by omega
      rw [spec_l2find.l0, if_pos (by omega), if_pos (by omega), Int.toNat_natCast, getD_at hi, List.drop_eq_getElem_cons hi]
      by_cases h : vs[i] = x
      · rw [if_pos h]; exact ⟨i, rfl, by simp [h]⟩
      · rw [if_neg h, wrap_nat (by omega)]
        obtain ⟨r, e1, e2⟩ := ih k (i + 1) (by omega) (by omega) (by omega)
        exact ⟨r, e1, e2.trans ⟨fun a b => (List.mem_cons.1 b).elim (fun q => h q.symm) a, fun a b => a (.tail _ b)⟩⟩
  exact key vs.length k 0 rfl (by omega) hk
/-! ### numbering the variables -/
def num : List Int → Int → Nat
  | [], _ => 0
  | x :: xs, v => if x = v then 0 else num xs v + 1
theorem num_eq {x v : Int} {xs : List Int} (h : x = v) : num (x :: xs) v = 0 := by simp [num, h]
theorem num_ne {x v : Int} {xs : List Int} (h : ¬ x = v) : num (x :: xs) v = num xs v + 1 := by simp [num, h]
theorem num_app : ∀ (vs ws : List Int) (v : Int), v ∈ vs → num (vs ++ ws) v = num vs v
  | [], ws, v, h => by cases h
  | x :: vs, ws, v, h => by
    by_cases hx : x = v
    · simp [num, hx]
    · have h2 : v ∈ vs := (List.mem_cons.1 h).elim (fun q => absurd q.symm hx) id
      simp [num, hx, num_app vs ws v h2]
theorem num_new : ∀ (vs : List Int) (v : Int), v ∉ vs → num (vs ++ [v]) v = vs.length
  | [], v, _ => by simp [num]
  | x :: vs, v, h => by
    have h1 : ¬ x = v := fun q => h (List.mem_cons.2 (.inl q.symm))
    have h2 : v ∉ vs := fun q => h (.tail _ q)
    simp [num, h1, num_new vs v h2]
theorem num_lt : ∀ (vs : List Int) (v : Int), v ∈ vs → num vs v < vs.length
  | [], v, h => by cases h
  | x :: vs, v, h => by
    by_cases hx : x = v
    · simp [num, hx]
    · have h2 : v ∈ vs := (List.mem_cons.1 h).elim (fun q => absurd q.symm hx) id
      have := num_lt vs v h2
      simp [num, hx]; exact this
theorem l2find_num (vs : List Int) (x : Int) (k : Nat) (hl : vs.length ≤ 1048576) (hk : vs.length < k) (hx : x ∈ vs) : spec_l2find.f k vs x = some (num vs x : Int) := by
  rw [spec_l2find.f]
  have key : ∀ (m k i : Nat), vs.length - i = m → i ≤ vs.length → m < k → x ∈ vs.drop i → spec_l2find.l0 k vs x (i : Int) = some ((i + num (vs.drop i) x : Nat) : Int) := by
    intro m
    induction m with
    | zero =>
      intro k i h1 h2 h3 h4
      rw [List.drop_of_length_le (by omega)] at h4; cases h4
    | succ m ih =>
      intro k i h1 h2 h3 h4
      obtain ⟨k, rfl⟩ : ∃ q, k = q + 1 := ⟨k - 1, by omega⟩
      have hi : i < vs.length := by omega
      rw [spec_l2find.l0, if_pos (by omega), if_pos (by omega), Int.toNat_natCast, getD_at hi]
      rw [List.drop_eq_getElem_cons hi] at h4 ⊢
      by_cases h : vs[i] = x
      · rw [if_pos h, num_eq h]; rfl
      · rw [if_neg h, wrap_nat (by omega), ih k (i + 1) (by omega) (by omega) (by omega) ((List.mem_cons.1 h4).elim (fun q => absurd q.symm h) id)]
        rw [num_ne h]; congr 2; omega
  have := key vs.length k 0 rfl (by omega) hk hx
  simpa using this
/-! ### the order of cell lists -/
def cmp : List Cell → List Cell → Int
  | a :: x, b :: y =>
    if a.kind ≠ b.kind then (if a.kind < b.kind then -1 else 1)
    else if a.n ≠ b.n then (if a.n < b.n then -1 else 1)
    else if a.text ≠ b.text then (if Op.bytesLess a.text b.text = true then -1 else 1)
    else cmp x y
  | _, _ => 0
theorem l2compare_l0 (xs ys : List Cell) (hl : xs.length ≤ 2000) : ∀ (m k i : Nat), xs.length - i = m → i ≤ xs.length → m < k → spec_l2compare.l0 k xs ys (i : Int) = some (cmp (xs.drop i) (ys.drop i)) := by
  intro m
  induction m with
  | zero =>
    intro k i h1 h2 h3
    obtain ⟨k, rfl⟩ : ∃ q, k = q + 1 := ⟨k - 1, by omega⟩
    rw [spec_l2compare.l0, if_neg (by omega), List.drop_of_length_le (show xs.length ≤ i by omega)]
    rfl
  | succ m ih =>
    intro k i h1 h2 h3
    obtain ⟨k, rfl⟩ : ∃ q, k = q + 1 := ⟨k - 1, by omega⟩
    have hi : i < xs.length := by omega
    have hg : xs.getD i z65 = xs[i] := by rw [List.getD_eq_getElem?_getD, List.getElem?_eq_getElem hi]; rfl
    rw [spec_l2compare.l0, if_pos (by omega), Int.toNat_natCast, hg]
    by_cases hj : i < ys.length
    · have hg2 : ys.getD i z65 = ys[i] := by rw [List.getD_eq_getElem?_getD, List.getElem?_eq_getElem hj]; rfl
      rw [if_pos (by omega), if_pos (by omega), hg2, wrap_nat (by omega), ih k (i + 1) (by omega) (by omega) (by omega), List.drop_eq_getElem_cons hi, List.drop_eq_getElem_cons hj, cmp]
      split
      · simp [spec_l2sign.f]; split <;> rfl
      · split
        · simp [spec_l2sign.f]; split <;> rfl
        · split
          · simp [spec_l2sign.f]; split <;> rfl
          · rfl
    · rw [if_neg (by omega), List.drop_of_length_le (show ys.length ≤ i by omega)]
      cases xs.drop i <;> rfl
theorem l2compare_val (xs ys : List Cell) (k : Nat) (hl : xs.length ≤ 2000) (hk : xs.length < k) : spec_l2compare.f k xs ys = some (cmp xs ys) := by
  rw [spec_l2compare.f]
  exact l2compare_l0 xs ys hl xs.length k 0 rfl (by omega) hk
theorem cInt (a b : Int) : impl_compareInt.f a b = some (if a < b then -1 else if b < a then 1 else 0) := by
  rw [impl_compareInt.f]
  split
  · rfl
  · split <;> rfl
theorem cText {a b : List UInt8} (h : a ≠ b) : impl_compareText.f a b = some (if Op.bytesLess a b = true then -1 else 1) := by
  rw [impl_compareText.f]
  split
  · rfl
  · rename_i h1
    rw [if_pos (by simp [h, Bool.not_eq_true] at h1 ⊢; simp [h1, h])]
theorem bytesLess_self : ∀ s : List UInt8, Op.bytesLess s s = false
  | [] => rfl
  | a :: s => by simp [Op.bytesLess, bytesLess_self s]
theorem cmp_cons (a n a' n' : Int) (s s' : List UInt8) (x y : List Cell) : cmp (⟨a, n, s⟩ :: x) (⟨a', n', s'⟩ :: y) = if a = a' then if n = n' then if s = s' then cmp x y else (if Op.bytesLess s s' = true then -1 else 1) else (if n < n' then -1 else 1) else (if a < a' then -1 else 1) := by
  rw [cmp]
  show (if a ≠ a' then _ else if n ≠ n' then _ else if s ≠ s' then _ else _) = _
  by_cases h1 : a = a'
  · rw [if_neg (by simp [h1]), if_pos h1]
    by_cases h2 : n = n'
    · rw [if_neg (by simp [h2]), if_pos h2]
      by_cases h3 : s = s'
      · rw [if_neg (by simp [h3]), if_pos h3]
      · rw [if_pos h3, if_neg h3]
    · rw [if_pos h2, if_neg h2]
  · rw [if_pos h1, if_neg h1]
theorem okc_parts {k n : Int} {s : List UInt8} (h : Okc ⟨k, n, s⟩) : (k = 0 ∨ k = 1 ∨ k = 2 ∨ k = 3) ∧ (k = 0 ∨ k = 1 → s = []) ∧ (k = 2 → n = 0) ∧ (k = 3 → 1 ≤ n ∧ n ≤ 20) := by
  unfold Okc at h
  simp only at h
  rcases h with ⟨h, _, _, h2⟩ | ⟨h, _, _, h2⟩ | ⟨h, h2, _⟩ | ⟨h, h2, h3, _⟩
  · exact ⟨.inl h, fun _ => h2, fun q => by omega, fun q => by omega⟩
  · exact ⟨.inr (.inl h), fun _ => h2, fun q => by omega, fun q => by omega⟩
  · exact ⟨.inr (.inr (.inl h)), fun q => by omega, fun _ => h2, fun q => by omega⟩
  · exact ⟨.inr (.inr (.inr h)), fun q => by omega, fun q => by omega, fun _ => ⟨h2, h3⟩⟩
theorem comp_f (k : Nat) (a n a' n' : Int) (s s' : List UInt8) (us us' : List Tm) : impl_compare.f (k + 2) (.mk a n s us) (.mk a' n' s' us') =
    if a = a' then (if a = 0 ∨ a = 1 then (impl_compareInt.f n n').bind fun t => some t else if a = 2 then (impl_compareText.f s s').bind fun t => some t else if n = n' then if s = s' then impl_compare.l1 k (.mk a n s us) (.mk a' n' s' us') 0 else (impl_compareText.f s s').bind fun t => some t else (impl_compareInt.f n n').bind fun t => some t) else (impl_compareInt.f a a').bind fun t => some t := by
  have hl1 : ∀ b : Bool, impl_compare.l0 (k + 1) (.mk a n s us) (.mk a' n' s' us') b = if b = true then (impl_compareInt.f n n').bind fun t => some t else if a = 2 then (impl_compareText.f s s').bind fun t => some t else if n = n' then if s = s' then impl_compare.l1 k (.mk a n s us) (.mk a' n' s' us') 0 else (impl_compareText.f s s').bind fun t => some t else (impl_compareInt.f n n').bind fun t => some t := fun b => by
    rw [impl_compare.l0]
    show (if b = true then _ else if a = 2 then _ else if n ≠ n' then _ else if s ≠ s' then _ else _) = _
    by_cases h2 : n = n'
    · rw [if_neg (c := n ≠ n') (by simp [h2]), if_pos h2]
      by_cases h3 : s = s'
      · rw [if_neg (c := s ≠ s') (by simp [h3]), if_pos h3]; rfl
      · rw [if_pos h3, if_neg h3]; rfl
    · rw [if_pos h2, if_neg h2]; rfl
  rw [impl_compare.f]
  show (if a ≠ a' then _ else if a = 0 then impl_compare.l0 (k + 1) (.mk a n s us) (.mk a' n' s' us') (decide (a = 0)) else impl_compare.l0 (k + 1) (.mk a n s us) (.mk a' n' s' us') (decide (a = 1))) = _
  by_cases h1 : a = a'
  · rw [if_neg (by simp [h1]), if_pos h1, hl1, hl1]
    by_cases h0 : a = 0
    · simp [h0]
    · by_cases h01 : a = 1
      · simp [h01]
      · simp [h0, h01]
  · rw [if_pos h1, if_neg h1]; rfl
mutual
theorem cmp_flat : ∀ (t u : Tm) (k : Nat), Wf t → Wf u → 5 * (flat t).length < k → (flat t).length ≤ 2000 →
    ∃ v, impl_compare.f k t u = some v ∧ ∀ r1 r2, cmp (flat t ++ r1) (flat u ++ r2) = if v ≠ 0 then v else cmp r1 r2
  | .mk a n s us, .mk a' n' s' us', k, hw, hw', hk, hl => by
    simp only [flat, List.length_cons] at hk hl
    obtain ⟨k, rfl⟩ : ∃ q, k = q + 2 := ⟨k - 2, by omega⟩
    simp only [Wf] at hw hw'
    obtain ⟨w0, w1, w2, w6⟩ := hw
    obtain ⟨w0', w1', w2', w6'⟩ := hw'
    obtain ⟨w5, w3, w4, w7⟩ := okc_parts w0
    obtain ⟨w5', w3', w4', w7'⟩ := okc_parts w0'
    have sgn : ∀ x y : Int, x ≠ y → ((if x < y then (-1 : Int) else if y < x then 1 else 0) = if x < y then -1 else 1) ∧ (if x < y then (-1 : Int) else 1) ≠ 0 := fun x y h => by
      constructor
      · split
        · rfl
        · rw [if_pos (by omega)]
      · split <;> omega
    have key : ∀ v : Int, v ≠ 0 → ∀ z : Int, v = if v ≠ 0 then v else z := fun v hv z => by rw [if_pos hv]
    rw [comp_f]
    simp only [flat, List.cons_append]
    by_cases h1 : a = a'
    · subst h1
      rw [if_pos rfl]
      by_cases h01 : a = 0 ∨ a = 1
      · rw [if_pos h01, cInt, w3 h01, w3' h01, w2 (by omega), w2' (by omega)]
        refine ⟨_, rfl, fun r1 r2 => ?_⟩
        rw [cmp_cons, if_pos rfl]
        by_cases hn : n = n'
        · subst hn; simp [flats]
        · rw [if_neg hn, (sgn n n' hn).1]
          exact key _ (sgn n n' hn).2 _
      · rw [if_neg h01]
        by_cases h2 : a = 2
        · rw [if_pos h2, w4 h2, w4' h2, w2 (by omega), w2' (by omega)]
          by_cases hs : s = s'
          · subst hs
            refine ⟨0, ?_, fun r1 r2 => ?_⟩
            · have : Op.bytesLess s s = false := bytesLess_self s
              rw [impl_compareText.f, if_neg (by simp [this]), if_neg (by simp)]; rfl
            · rw [cmp_cons]; simp [flats]
          · rw [cText hs]
            refine ⟨_, rfl, fun r1 r2 => ?_⟩
            rw [cmp_cons, if_pos rfl, if_pos rfl, if_neg hs]
            refine key _ ?_ _
            split <;> omega
        · rw [if_neg h2]
          have h3 : a = 3 := by omega
          by_cases hn : n = n'
          · subst hn
            rw [if_pos rfl]
            by_cases hs : s = s'
            · subst hs
              rw [if_pos rfl]
              obtain ⟨_, b2⟩ := w7 h3
              have b3 := w1 h3
              have b3' := w1' h3
              obtain ⟨v, e1, e2⟩ := cmp_flats us us' k (.mk a n s us) (.mk a n s us') [] [] (by omega) rfl rfl rfl w6 w6' (by omega) (by simp; omega) (by omega)
              refine ⟨v, e1, fun r1 r2 => ?_⟩
              rw [cmp_cons, if_pos rfl, if_pos rfl, if_pos rfl]
              exact e2 r1 r2
            · rw [if_neg hs, cText hs]
              refine ⟨_, rfl, fun r1 r2 => ?_⟩
              rw [cmp_cons, if_pos rfl, if_pos rfl, if_neg hs]
              refine key _ ?_ _
              split <;> omega
          · rw [if_neg hn, cInt]
            refine ⟨_, rfl, fun r1 r2 => ?_⟩
            rw [cmp_cons, if_pos rfl, if_neg hn, (sgn n n' hn).1]
            exact key _ (sgn n n' hn).2 _
    · rw [if_neg h1, cInt]
      refine ⟨_, rfl, fun r1 r2 => ?_⟩
      rw [cmp_cons, if_neg h1, (sgn a a' h1).1]
      exact key _ (sgn a a' h1).2 _
theorem cmp_flats : ∀ (us vs : List Tm) (k : Nat) (t u : Tm) (p q : List Tm), us.length = vs.length → t.args = p ++ us → u.args = q ++ vs → p.length = q.length → Wfs us → Wfs vs → 5 * (flats us).length + 1 < k → p.length + us.length ≤ 20 → (flats us).length ≤ 2000 →
    ∃ v, impl_compare.l1 k t u (p.length : Int) = some v ∧ ∀ r1 r2, cmp (flats us ++ r1) (flats vs ++ r2) = if v ≠ 0 then v else cmp r1 r2
  | [], [], k, t, u, p, q, h1, h2, h3, h4, hw, hw', hk, hb, hl => by
    obtain ⟨k, rfl⟩ : ∃ q, k = q + 1 := ⟨k - 1, by omega⟩
    rw [impl_compare.l1, if_neg (by rw [h2]; simp)]
    exact ⟨0, rfl, fun r1 r2 => by simp [flats]⟩
  | [], _ :: _, k, t, u, p, q, h1, h2, h3, h4, hw, hw', hk, hb, hl => by simp at h1
  | _ :: _, [], k, t, u, p, q, h1, h2, h3, h4, hw, hw', hk, hb, hl => by simp at h1
  | a :: us, b :: vs, k, t, u, p, q, h1, h2, h3, h4, hw, hw', hk, hb, hl => by
    obtain ⟨k, rfl⟩ : ∃ q, k = q + 1 := ⟨k - 1, by omega⟩
    simp only [Wfs] at hw hw'
    simp only [flats, List.length_append] at hk hl
    simp only [List.length_cons] at h1 hb
    have hp := flat_pos a
    obtain ⟨v, e1, e2⟩ := cmp_flat a b k hw.1 hw'.1 (by omega) (by omega)
    obtain ⟨v2, f1, f2⟩ := cmp_flats us vs k t u (p ++ [a]) (q ++ [b]) (by omega) (by rw [h2]; simp) (by rw [h3]; simp) (by simp [h4]) hw.2 hw'.2 (by omega) (by simp; omega) (by omega)
    have g1 : t.args.getD p.length (Tm.mk 0 0 [] []) = a := by rw [h2]; simp
    have g2 : u.args.getD p.length (Tm.mk 0 0 [] []) = b := by rw [h3, h4]; simp
    rw [impl_compare.l1, if_pos (by rw [h2]; simp; omega), if_pos (by omega), if_pos (by rw [h3]; simp; omega), Int.toNat_natCast, g1, g2, e1, Option.bind_some]
    by_cases hv : v = 0
    · rw [if_neg (by simp [hv]), wrap_nat (by omega)]
      refine ⟨v2, by simpa using f1, fun r1 r2 => ?_⟩
      simp only [flats, List.append_assoc]
      rw [e2, if_neg (by simp [hv]), f2]
    · rw [if_pos hv]
      refine ⟨v, rfl, fun r1 r2 => ?_⟩
      simp only [flats, List.append_assoc]
      rw [e2]
      simp [hv]
end
theorem compare_val (t u : Tm) (k : Nat) (w1 : Wf t) (w2 : Wf u) (hl : (flat t).length ≤ 2000) (hk : 20000 < k) : impl_compare.f k t u = some (cmp (flat t) (flat u)) := by
  obtain ⟨v, e1, e2⟩ := cmp_flat t u k w1 w2 (by omega) hl
  have e3 := e2 [] []
  rw [List.append_nil, List.append_nil] at e3
  rw [e1, e3]
  split
  · rfl
  · rename_i hv
    have : v = 0 := by simpa using hv
    rw [this]; rfl
/-! ### two terms -/
theorem two_law (xs ys : List Cell) (f : Nat → List Cell → List Cell → Option Bool) (g : Nat → List Cell → List Cell → Option Bool) (k : Nat) (hk : 3000000 < k) (lx : xs.length ≤ 9223372036854775807) (ly : ys.length ≤ 9223372036854775807) (hx : ∀ c, c ∈ xs → c.text.length ≤ 9223372036854775807) (hy : ∀ c, c ∈ ys → c.text.length ≤ 9223372036854775807)
    (h : xs.length ≤ 1048576 → ys.length ≤ 1048576 → ∃ b, f k xs ys = some b ∧ g k xs ys = some b) :
    ((laws_szCellS.f k xs 1048576).bind fun t11 => (if t11 < 0 then some true else ((laws_szCellS.f k ys t11).bind fun t18 => (if t18 < 0 then some true else ((laws_toCellS.f k xs).bind fun t25 => ((laws_toCellS.f k ys).bind fun t37 => ((g k t25 t37).bind fun t49 => ((laws_toCellS.f k xs).bind fun t68 => ((laws_toCellS.f k ys).bind fun t80 => ((f k t68 t80).bind fun t92 => (if t92 ≠ t49 then some false else ((laws_toCellS.f k xs).bind fun t112 => ((laws_eqCellS.f k t68 t112).bind fun t124 => (if ¬ (t124 = true) then some false else ((laws_toCellS.f k ys).bind fun t144 => ((laws_eqCellS.f k t80 t144).bind fun t156 => (if ¬ (t156 = true) then some false else some true))))))))))))))))) = some true := by
  rw [szCellS_val xs _ _ (by omega) (by omega) lx hx (by omega), Option.bind_some]
  by_cases h1 : left 1048576 (wCells xs) < 0
  · rw [if_pos h1]
  have q1 := left_le h1
  rw [if_neg h1, szCellS_val ys _ _ q1.2.1 (by omega) ly hy (by omega), Option.bind_some]
  by_cases h2 : left (left 1048576 (wCells xs)) (wCells ys) < 0
  · rw [if_pos h2]
  have q2 := left_le h2
  have w1 : wCells xs ≤ 1048576 := by omega
  have w2 : wCells ys ≤ 1048576 := by omega
  obtain ⟨b, e1, e2⟩ := h (wCells_len w1) (wCells_len w2)
  rw [if_neg h2, toCellS_id xs _ w1 (by omega), toCellS_id ys _ w2 (by omega)]
  simp only [Option.bind_some, e1, e2, eqCellS_id xs k w1 (by omega), eqCellS_id ys k w2 (by omega)]
  rw [if_neg (by simp), if_neg (by simp), if_neg (by simp)]
/-! ### FnExactSubsumes -/
theorem cmp_self : ∀ xs : List Cell, cmp xs xs = 0
  | [] => rfl
  | ⟨a, n, s⟩ :: xs => by rw [cmp_cons, if_pos rfl, if_pos rfl, if_pos rfl]; exact cmp_self xs
theorem cmp_eq : ∀ xs ys : List Cell, xs.length = ys.length → cmp xs ys = 0 → xs = ys
  | [], [], _, _ => rfl
  | [], _ :: _, h, _ => by simp at h
  | _ :: _, [], h, _ => by simp at h
  | ⟨a, n, s⟩ :: xs, ⟨a', n', s'⟩ :: ys, hl, h => by
    rw [cmp_cons] at h
    by_cases h1 : a = a'
    · rw [if_pos h1] at h
      by_cases h2 : n = n'
      · rw [if_pos h2] at h
        by_cases h3 : s = s'
        · rw [if_pos h3] at h
          rw [cmp_eq xs ys (by simpa using hl) h, h1, h2, h3]
        · rw [if_neg h3] at h; split at h <;> omega
      · rw [if_neg h2] at h; split at h <;> omega
    · rw [if_neg h1] at h; split at h <;> omega
mutual
theorem tree_eq : ∀ (t u : Tm) (r1 r2 : List Cell), Wf t → Wf u → cmp (flat t ++ r1) (flat u ++ r2) = 0 → flat t = flat u ∧ cmp r1 r2 = 0
  | .mk a n s us, .mk a' n' s' vs, r1, r2, hw, hw', h => by
    simp only [Wf] at hw hw'
    obtain ⟨w0, w1, w2, w6⟩ := hw
    obtain ⟨w0', w1', w2', w6'⟩ := hw'
    simp only [flat, List.cons_append] at h ⊢
    rw [cmp_cons] at h
    by_cases h1 : a = a'
    · rw [if_pos h1] at h
      by_cases h2 : n = n'
      · rw [if_pos h2] at h
        by_cases h3 : s = s'
        · rw [if_pos h3] at h
          have hl : us.length = vs.length := by
            by_cases hk : a = 3
            · have := w1 hk
              have := w1' (h1 ▸ hk)
              omega
            · rw [w2 hk, w2' (fun q => hk (h1.trans q))]
          obtain ⟨e1, e2⟩ := trees_eq us vs r1 r2 hl w6 w6' h
          rw [e1, h1, h2, h3]
          exact ⟨rfl, e2⟩
        · rw [if_neg h3] at h; split at h <;> omega
      · rw [if_neg h2] at h; split at h <;> omega
    · rw [if_neg h1] at h; split at h <;> omega
theorem trees_eq : ∀ (us vs : List Tm) (r1 r2 : List Cell), us.length = vs.length → Wfs us → Wfs vs → cmp (flats us ++ r1) (flats vs ++ r2) = 0 → flats us = flats vs ∧ cmp r1 r2 = 0
  | [], [], r1, r2, _, _, _, h => ⟨rfl, by simpa [flats] using h⟩
  | [], _ :: _, _, _, hl, _, _, _ => by simp at hl
  | _ :: _, [], _, _, hl, _, _, _ => by simp at hl
  | t :: us, u :: vs, r1, r2, hl, hw, hw', h => by
    simp only [Wfs] at hw hw'
    simp only [flats, List.append_assoc] at h ⊢
    obtain ⟨e1, e2⟩ := tree_eq t u _ _ hw.1 hw'.1 h
    obtain ⟨e3, e4⟩ := trees_eq us vs r1 r2 (by simpa using hl) hw.2 hw'.2 e2
    rw [e1, e3]; exact ⟨rfl, e4⟩
end
abbrev MT := List (Int × Tm)
mutual
def matchT : Tm → MT → Tm → Bool × MT
  | .mk k n s ts, m, u => if k = 0 then (if (mget m n).isSome = true then (decide (cmp (flat ((mget m n).getD (Tm.mk 0 0 [] []))) (flat u) = 0), m) else (true, mset m n u)) else if k = u.kind ∧ n = u.n ∧ s = u.text then matchTs ts m u.args else (false, m)
def matchTs : List Tm → MT → List Tm → Bool × MT
  | [], m, _ => (true, m)
  | t :: ts, m, us => if (matchT t m (us.headD (Tm.mk 0 0 [] []))).1 then matchTs ts (matchT t m (us.headD (Tm.mk 0 0 [] []))).2 us.tail else (false, (matchT t m (us.headD (Tm.mk 0 0 [] []))).2)
end
theorem matchTs_cons (t u : Tm) (ts us : List Tm) (m : MT) : matchTs (t :: ts) m (u :: us) = if (matchT t m u).1 = true then matchTs ts (matchT t m u).2 us else (false, (matchT t m u).2) := by rw [matchTs]; rfl
def MOK (m : MT) : Prop := ∀ v u, mget m v = some u → Wf u ∧ (flat u).length ≤ 2000
mutual
theorem matches_val : ∀ (t u : Tm) (k : Nat) (m : MT), Wf t → Wf u → 4 * (flat t).length + 30000 < k → (flat u).length ≤ 2000 → MOK m → impl_matches.f k m t u = some (matchT t m u) ∧ MOK (matchT t m u).2
  | .mk a n s ts, u, k, m, hw, hw', hk, hl, hm => by
    simp only [flat, List.length_cons] at hk
    simp only [Wf] at hw
    obtain ⟨w0, w1, w2, w6⟩ := hw
    obtain ⟨k, rfl⟩ : ∃ q, k = q + 2 := ⟨k - 2, by omega⟩
    rw [impl_matches.f, matchT]
    show (if a = 0 then (if (mget m n).isSome = true then ((impl_compare.f (k + 1) ((mget m n).getD (Tm.mk 0 0 [] [])) u).bind fun t27 => some ((decide (t27 = 0)), m)) else some (true, mset m n u)) else (if a ≠ u.kind then some (false, m) else (if n ≠ u.n then some (false, m) else (if s ≠ u.text then some (false, m) else impl_matches.l0 (k + 1) (.mk a n s ts) u 0 m)))) = _ ∧ _
    by_cases h0 : a = 0
    · rw [if_pos h0, if_pos h0]
      by_cases hs : (mget m n).isSome = true
      · rw [if_pos hs, if_pos hs]
        obtain ⟨v, hv⟩ := Option.isSome_iff_exists.1 hs
        have hq := hm n v hv
        rw [hv, Option.getD_some, compare_val v u (k + 1) hq.1 hw' hq.2 (by omega), Option.bind_some]
        exact ⟨rfl, hm⟩
      · rw [if_neg hs, if_neg hs]
        refine ⟨rfl, fun v w h => ?_⟩
        rw [mget_mset] at h
        by_cases hv : v = n
        · rw [if_pos hv] at h; injection h with h; subst h; exact ⟨hw', hl⟩
        · rw [if_neg hv] at h; exact hm v w h
    rw [if_neg h0, if_neg h0]
    by_cases h1 : a = u.kind
    · by_cases h2 : n = u.n
      · by_cases h3 : s = u.text
        · rw [if_neg (by simpa using h1), if_neg (by simpa using h2), if_neg (by simpa using h3), if_pos ⟨h1, h2, h3⟩]
          obtain ⟨a', n', s', us⟩ := u
          have h1 : a = a' := h1
          have h2 : n = n' := h2
          have h3 : s = s' := h3
          simp only [Wf] at hw'
          have hlen : ts.length = us.length := by
            by_cases hk3 : a = 3
            · have := w1 hk3
              have := hw'.2.1 (h1 ▸ hk3)
              omega
            · rw [w2 hk3, hw'.2.2.1 (fun q => hk3 (h1.trans q))]
          simp only [flat, List.length_cons] at hl
          exact matches_vals ts us [] [] k (.mk a n s ts) (.mk a' n' s' us) m rfl rfl rfl hlen w6 hw'.2.2.2 (by omega) (by omega) hm (by have := flats_len us; simp; omega)
        · rw [if_neg (by simpa using h1), if_neg (by simpa using h2), if_pos h3, if_neg (fun q => h3 q.2.2)]; exact ⟨rfl, hm⟩
      · rw [if_neg (by simpa using h1), if_pos h2, if_neg (fun q => h2 q.2.1)]; exact ⟨rfl, hm⟩
    · rw [if_pos h1, if_neg (fun q => h1 q.1)]; exact ⟨rfl, hm⟩
theorem matches_vals : ∀ (ts us p q : List Tm) (k : Nat) (t u : Tm) (m : MT), t.args = p ++ ts → u.args = q ++ us → p.length = q.length → ts.length = us.length → Wfs ts → Wfs us → 4 * (flats ts).length + 30001 < k + 1 → (flats us).length ≤ 2000 → MOK m → p.length + ts.length ≤ 1000000 →
    impl_matches.l0 (k + 1) t u (p.length : Int) m = some (matchTs ts m us) ∧ MOK (matchTs ts m us).2
  | [], us, p, q, k, t, u, m, h1, h2, h3, h4, hw, hw', hk, hl, hm, hb => by
    rw [impl_matches.l0, h1, if_neg (by simp), matchTs]; exact ⟨rfl, hm⟩
  | _ :: _, [], p, q, k, t, u, m, h1, h2, h3, h4, hw, hw', hk, hl, hm, hb => by simp at h4
  | a :: ts, b :: us, p, q, k, t, u, m, h1, h2, h3, h4, hw, hw', hk, hl, hm, hb => by
    simp only [Wfs] at hw hw'
    simp only [flats, List.length_append] at hk hl
    simp only [List.length_cons] at h4 hb
    have hp := flat_pos a
    obtain ⟨k, rfl⟩ : ∃ q, k = q + 1 := ⟨k - 1, by omega⟩
    have g1 : t.args.getD p.length (Tm.mk 0 0 [] []) = a := by rw [h1]; simp
    have g2 : u.args.getD p.length (Tm.mk 0 0 [] []) = b := by rw [h2, h3]; simp
    obtain ⟨e1, e2⟩ := matches_val a b (k + 1) m hw.1 hw'.1 (by omega) (by omega) hm
    rw [impl_matches.l0, if_pos (by rw [h1]; simp; omega), if_pos (by omega), if_pos (by rw [h2]; simp; omega), Int.toNat_natCast, g1, g2, e1, Option.bind_some, matchTs_cons]
    by_cases hv : (matchT a m b).1 = true
    · rw [if_neg (by simpa using hv), if_pos hv, wrap_nat (by omega)]
      have := matches_vals ts us (p ++ [a]) (q ++ [b]) k t u (matchT a m b).2 (by rw [h1]; simp) (by rw [h2]; simp) (by simp [h3]) (by omega) hw.2 hw'.2 (by omega) (by omega) e2 (by simp; omega)
      rw [show ((p ++ [a]).length : Int) = ((p.length + 1 : Nat) : Int) by simp] at this
      exact this
    · rw [if_pos hv, if_neg hv]; exact ⟨rfl, e2⟩
end
/-- the lists of names and values, and the map -/
def SM (vars : List Int) (vals : List (List Cell)) (m : MT) : Prop := vars.length = vals.length ∧ ∀ v, if v ∈ vars then ∃ u, mget m v = some u ∧ vals[num vars v]? = some (flat u) ∧ Wf u ∧ (flat u).length ≤ 2000 else mget m v = none
theorem next_at (xs : List Cell) (u : Tm) (j k : Nat) (r : List Cell) (hx : xs.length ≤ 2000) (hw : Wf u) (hd : xs.drop j = flat u ++ r) (hk : 2001 < k) : spec_l2next.f k xs (j : Int) = some ((j + (flat u).length : Nat) : Int) := by
  have hl : (flat u).length ≤ 2000 := by have := congrArg List.length hd; rw [List.length_drop, List.length_append] at this; omega
  rw [spec_l2next.f]
  obtain ⟨k, rfl⟩ : ∃ q, k = q + 1 + (flat u).length := ⟨k - 1 - (flat u).length, by omega⟩
  have := next_flats xs hx (flat u).length (k + 1) j 0 [u] r (by simp [flats]) (by simp [Wfs, hw]) (by simpa [flats] using hd) (by simp) (by omega)
  rw [show (([u].length + 0 : Nat) : Int) = 1 from rfl] at this
  rw [this, spec_l2next.l0, if_neg (by simp)]
theorem cut_at (ys : List Cell) (u : Tm) (j : Nat) (r : List Cell) (hd : ys.drop j = flat u ++ r) : (ys.drop (j : Int).toNat).take (((j + (flat u).length : Nat) : Int).toNat - (j : Int).toNat) = flat u := by
  rw [Int.toNat_natCast, Int.toNat_natCast, hd, Nat.add_sub_cancel_left]; simp
theorem cut_one (xs : List Cell) (i : Nat) (hi : i < xs.length) : (xs.drop (i : Int).toNat).take (((i + 1 : Nat) : Int).toNat - (i : Int).toNat) = [xs[i]] := by
  rw [Int.toNat_natCast, Int.toNat_natCast, Nat.add_sub_cancel_left, List.drop_eq_getElem_cons hi]; rfl
theorem cut_one' (xs : List Cell) (i : Nat) (hi : i < xs.length) : (xs.drop i).take (((i + 1 : Nat) : Int).toNat - i) = [xs[i]] := by
  rw [Int.toNat_natCast, Nat.add_sub_cancel_left, List.drop_eq_getElem_cons hi]; rfl
theorem drop_len {xs a r : List Cell} {i : Nat} (h : xs.drop i = a ++ r) (hp : 1 ≤ a.length) : i + a.length + r.length = xs.length := by
  have h2 := congrArg List.length h
  rw [List.length_drop, List.length_append] at h2
  omega
theorem drop_next {xs a r : List Cell} {i : Nat} (h : xs.drop i = a ++ r) : xs.drop (i + a.length) = r := by
  rw [← List.drop_drop, h]; simp
theorem ar1 (K F : Nat) : K + 1 + 2 * F = K + 2 * (F + 1) - 1 := by omega
theorem ar2 (K F k' : Nat) (h : K + 1 ≤ k') : K ≤ k' := by omega
section
variable (xs ys : List Cell) (hx : xs.length ≤ 2000) (hy : ys.length ≤ 2000)
include hx hy
mutual
theorem sub_tree : ∀ (t u : Tm) (K i j : Nat) (m : MT) (vars : List Int) (vals : List (List Cell)) (r1 r2 : List Cell), Wf t → Wf u → xs.drop i = flat t ++ r1 → ys.drop j = flat u ++ r2 → 100000 < K → SM vars vals m → vars.length ≤ i →
    ((matchT t m u).1 = true ∧ ∃ k' vars' vals', K ≤ k' ∧ spec_Subsumes.l0 (K + 2 * (flat t).length) xs ys vars vals (j : Int) (i : Int) = spec_Subsumes.l0 k' xs ys vars' vals' ((j + (flat u).length : Nat) : Int) ((i + (flat t).length : Nat) : Int) ∧ SM vars' vals' (matchT t m u).2 ∧ vars'.length ≤ i + (flat t).length) ∨
    ((matchT t m u).1 = false ∧ spec_Subsumes.l0 (K + 2 * (flat t).length) xs ys vars vals (j : Int) (i : Int) = some false)
  | .mk a n s ts, u, K, i, j, m, vars, vals, r1, r2, hw, hw', hd1, hd2, hK, hs, hv => by
    have hp1 := flat_pos (Tm.mk a n s ts)
    have hp2 := flat_pos u
    have q1 := drop_len hd1 hp1
    have q2 := drop_len hd2 hp2
    simp only [Wf] at hw
    obtain ⟨w0, w1, w2, w6⟩ := hw
    have hi : i < xs.length := by omega
    have hj : j < ys.length := by omega
    have hc : xs[i] = ⟨a, n, s⟩ := by
      rw [List.drop_eq_getElem_cons hi] at hd1
      simp only [flat, List.cons_append] at hd1
      exact (List.cons.inj hd1).1
    have hvl : vars.length ≤ 2000 := by omega
    rw [show K + 2 * (flat (Tm.mk a n s ts)).length = (K + 2 * (flat (Tm.mk a n s ts)).length - 1) + 1 by omega, spec_Subsumes.l0, if_pos (by omega), if_neg (by omega), if_pos (by omega), Int.toNat_natCast, getD_at hi, hc]
    generalize hk1 : K + 2 * (flat (Tm.mk a n s ts)).length - 1 = k1
    by_cases h0 : a = 0
    · have hmT : matchT (.mk a n s ts) m u = if (mget m n).isSome = true then (decide (cmp (flat ((mget m n).getD (Tm.mk 0 0 [] []))) (flat u) = 0), m) else (true, mset m n u) := by rw [matchT, if_pos h0]
      rw [if_pos h0, next_at ys u j k1 r2 hy hw' hd2 (by omega), Option.bind_some, if_pos (by omega), if_pos (by omega), if_pos (by omega), cut_at ys u j r2 hd2]
      have hts : ts = [] := w2 (by omega)
      subst hts
      have hf1 : (flat (Tm.mk a n s [])).length = 1 := by simp [flat, flats]
      rw [hf1] at hk1 ⊢
      obtain ⟨k2, rfl⟩ : ∃ q, k1 = q + 1 := ⟨k1 - 1, by omega⟩
      have step : ∀ V L, spec_Subsumes.l1 (k2 + 1) xs ys (j : Int) (i : Int) ((j + (flat u).length : Nat) : Int) V L = spec_Subsumes.l0 k2 xs ys V L ((j + (flat u).length : Nat) : Int) ((i + 1 : Nat) : Int) := fun V L => by
        rw [spec_Subsumes.l1, cut_at ys u j r2 hd2, wrap_nat (by omega), wrap_id (by omega) (by omega)]; rfl
      have hsv := hs.2 n
      by_cases hm : n ∈ vars
      · rw [if_pos hm] at hsv
        obtain ⟨v, g1, g2, g3, g4⟩ := hsv
        have hlt := num_lt vars n hm
        have hvals : num vars n < vals.length := by rw [← hs.1]; exact hlt
        have hg : vals.getD (num vars n) ([] : List Cell) = flat v := by rw [List.getD_eq_getElem?_getD, g2]; rfl
        rw [l2find_num vars n (k2 + 1) (by omega) (by omega) hm, Option.bind_some, if_neg (by omega), if_pos (by omega), if_pos (by omega), Int.toNat_natCast, hg]
        rw [g1, if_pos (show (some v).isSome = true from rfl), Option.getD_some] at hmT
        rw [hmT]
        clear hmT
        by_cases hl : ((flat v).length : Int) ≠ ((flat u).length : Int)
        · rw [if_pos hl]
          refine .inr ⟨?_, rfl⟩
          simp only [decide_eq_false_iff_not]
          intro hc0
          have := (tree_eq v u [] [] g3 hw' (by simpa using hc0)).1
          rw [this] at hl; exact hl rfl
        · rw [if_neg hl, l2compare_val _ _ (k2 + 1) g4 (by omega), Option.bind_some]
          by_cases hc0 : cmp (flat v) (flat u) = 0
          · rw [if_neg (by simpa using hc0), step]
            exact .inl ⟨by simpa using hc0, k2, vars, vals, by omega, rfl, hs, by omega⟩
          · rw [if_pos hc0]
            exact .inr ⟨by simpa using hc0, rfl⟩
      · rw [if_neg hm] at hsv
        obtain ⟨r, f1, f2⟩ := l2find_val vars n (k2 + 1) (by omega) (by omega)
        rw [f1, Option.bind_some, if_pos (f2.2 hm), if_pos (by omega), if_pos (by have := hs.1; omega), step]
        rw [hsv, if_neg (by simp)] at hmT
        rw [hmT]
        refine .inl ⟨rfl, k2, _, _, by omega, rfl, ⟨by simp [hs.1], fun w => ?_⟩, by simp; omega⟩
        rw [mget_mset]
        by_cases hw : w = n
        · subst hw
          rw [if_pos (by simp), if_pos rfl, num_new vars w hm, hs.1]
          exact ⟨u, rfl, by simp, hw', by omega⟩
        · rw [if_neg hw]
          have := hs.2 w
          by_cases hwv : w ∈ vars
          · rw [if_pos hwv] at this
            rw [if_pos (by simp [hwv]), num_app vars [n] w hwv]
            obtain ⟨z, z1, z2, z3⟩ := this
            exact ⟨z, z1, by rw [List.getElem?_append_left (by rw [← hs.1]; exact num_lt vars w hwv)]; exact z2, z3⟩
          · rw [if_neg hwv] at this
            rw [if_neg (by simp [hwv, hw])]; exact this
    · rw [if_neg h0, wrap_nat (by omega), wrap_nat (by omega), if_pos (by omega), if_pos (by omega), if_pos (by omega), if_pos (by omega), if_pos (by omega), cut_one' xs i hi, cut_one ys j hj, l2compare_val _ _ k1 (by simp) (by simp; omega), Option.bind_some, hc]
      obtain ⟨a', n', s', us⟩ := u
      have hmT : matchT (.mk a n s ts) m (.mk a' n' s' us) = if a = a' ∧ n = n' ∧ s = s' then matchTs ts m us else (false, m) := by rw [matchT, if_neg h0]; rfl
      have hc2 : ys[j] = ⟨a', n', s'⟩ := by
        rw [List.drop_eq_getElem_cons hj] at hd2
        simp only [flat, List.cons_append] at hd2
        exact (List.cons.inj hd2).1
      rw [hc2]
      have hcc : cmp [⟨a, n, s⟩] [⟨a', n', s'⟩] = 0 ↔ (a = a' ∧ n = n' ∧ s = s') := by
        constructor
        · intro h
          have := cmp_eq [⟨a, n, s⟩] [⟨a', n', s'⟩] rfl h
          have h2 := (List.cons.inj this).1
          exact ⟨congrArg Cell.kind h2, congrArg Cell.n h2, congrArg Cell.text h2⟩
        · rintro ⟨rfl, rfl, rfl⟩; exact cmp_self _
      by_cases he : a = a' ∧ n = n' ∧ s = s'
      · rw [if_neg (by simpa using hcc.2 he)]
        rw [if_pos he] at hmT
        rw [hmT]
        simp only [Wf] at hw'
        have hlen : ts.length = us.length := by
          by_cases hk3 : a = 3
          · have x1 := w1 hk3
            have x2 := hw'.2.1 (he.1 ▸ hk3)
            have x3 := he.2.1
            clear he hcc hmT
            omega
          · rw [w2 hk3, hw'.2.2.1 (fun q => hk3 (he.1.trans q))]
        have d1 : xs.drop (i + 1) = flats ts ++ r1 := by
          rw [List.drop_eq_getElem_cons hi] at hd1
          simp only [flat, List.cons_append] at hd1
          exact (List.cons.inj hd1).2
        have d2 : ys.drop (j + 1) = flats us ++ r2 := by
          rw [List.drop_eq_getElem_cons hj] at hd2
          simp only [flat, List.cons_append] at hd2
          exact (List.cons.inj hd2).2
        have f1 : (flat (Tm.mk a n s ts)).length = (flats ts).length + 1 := by simp [flat]
        have f2 : (flat (Tm.mk a' n' s' us)).length = (flats us).length + 1 := by simp [flat]
        rw [f1] at hk1 ⊢
        rw [f2]
        have hws := hw'.2.2.2
        clear he hcc hmT hw' w0 w1 w2 hc hc2
        have := sub_trees ts us (K + 1) (i + 1) (j + 1) m vars vals r1 r2 hlen w6 hws d1 d2 (by omega) hs (by omega)
        rw [(ar1 K (flats ts).length).trans hk1] at this
        clear hk1 hs hd1 hd2 d1 d2 hi hj
        rcases this with ⟨g1, k', v1, v2, g2, g3, g4, g5⟩ | ⟨g1, g2⟩
        · exact .inl ⟨g1, k', v1, v2, by omega, by rw [g3]; congr 2 <;> omega, g4, by omega⟩
        · exact .inr ⟨g1, g2⟩
      · rw [if_pos (fun q => he (hcc.1 q))]
        rw [if_neg he] at hmT
        rw [hmT]
        exact .inr ⟨rfl, rfl⟩
theorem sub_trees : ∀ (ts us : List Tm) (K i j : Nat) (m : MT) (vars : List Int) (vals : List (List Cell)) (r1 r2 : List Cell), ts.length = us.length → Wfs ts → Wfs us → xs.drop i = flats ts ++ r1 → ys.drop j = flats us ++ r2 → 100000 < K → SM vars vals m → vars.length ≤ i →
    ((matchTs ts m us).1 = true ∧ ∃ k' vars' vals', K ≤ k' ∧ spec_Subsumes.l0 (K + 2 * (flats ts).length) xs ys vars vals (j : Int) (i : Int) = spec_Subsumes.l0 k' xs ys vars' vals' ((j + (flats us).length : Nat) : Int) ((i + (flats ts).length : Nat) : Int) ∧ SM vars' vals' (matchTs ts m us).2 ∧ vars'.length ≤ i + (flats ts).length) ∨
    ((matchTs ts m us).1 = false ∧ spec_Subsumes.l0 (K + 2 * (flats ts).length) xs ys vars vals (j : Int) (i : Int) = some false)
  | [], [], K, i, j, m, vars, vals, r1, r2, hl, hw, hw', hd1, hd2, hK, hs, hv => by
    rw [matchTs]
    exact .inl ⟨rfl, K, vars, vals, Nat.le_refl _, by simp [flats], hs, by omega⟩
  | [], _ :: _, K, i, j, m, vars, vals, r1, r2, hl, hw, hw', hd1, hd2, hK, hs, hv => by simp at hl
  | _ :: _, [], K, i, j, m, vars, vals, r1, r2, hl, hw, hw', hd1, hd2, hK, hs, hv => by simp at hl
  | t :: ts, u :: us, K, i, j, m, vars, vals, r1, r2, hl, hw, hw', hd1, hd2, hK, hs, hv => by
    simp only [Wfs] at hw hw'
    simp only [flats, List.append_assoc] at hd1 hd2
    rw [matchTs_cons]
    simp only [flats, List.length_append]
    have h1 := sub_tree t u (K + 2 * (flats ts).length) i j m vars vals _ _ hw.1 hw'.1 hd1 hd2 (by omega) hs hv
    rw [show K + 2 * ((flat t).length + (flats ts).length) = K + 2 * (flats ts).length + 2 * (flat t).length by omega]
    rcases h1 with ⟨g1, k', v1, v2, g2, g3, g4, g5⟩ | ⟨g1, g2⟩
    · rw [if_pos g1, g3]
      have h2 := sub_trees ts us (k' - 2 * (flats ts).length) (i + (flat t).length) (j + (flat u).length) (matchT t m u).2 v1 v2 r1 r2 (by simpa using hl) hw.2 hw'.2 (drop_next hd1) (drop_next hd2) (by omega) g4 g5
      rw [show k' - 2 * (flats ts).length + 2 * (flats ts).length = k' by omega] at h2
      rcases h2 with ⟨e1, k2, z1, z2, e2, e3, e4, e5⟩ | ⟨e1, e2⟩
      · exact .inl ⟨e1, k2, z1, z2, by omega, by rw [e3]; congr 2 <;> omega, e4, by omega⟩
      · exact .inr ⟨e1, e2⟩
    · rw [if_neg (by simp [g1])]
      exact .inr ⟨rfl, g2⟩
end
end
theorem subsumes_eq (xs ys : List Cell) (k : Nat) (hx : xs.length ≤ 1048576) (hy : ys.length ≤ 1048576) (hk : 3000000 < k) : ∃ b, impl_Subsumes.f k xs ys = some b ∧ spec_Subsumes.f k xs ys = some b := by
  rw [impl_Subsumes.f, spec_Subsumes.f]
  simp only [valid_val xs k (by omega) (by omega), valid_val' xs k (by omega) (by omega), valid_val ys k (by omega) (by omega), valid_val' ys k (by omega) (by omega), Option.bind_some]
  cases h : okT xs with
  | false => exact ⟨false, rfl, rfl⟩
  | true =>
    cases h2 : okT ys with
    | false => exact ⟨false, rfl, rfl⟩
    | true =>
      simp only [eq_self, not_true_eq_false, if_false, if_true]
      obtain ⟨a1, t, rfl, a3⟩ := (okT_iff xs).1 h
      obtain ⟨b1, u, rfl, b3⟩ := (okT_iff ys).1 h2
      simp only [tree_flat t k a3 a1 (by omega), tree_flat u k b3 b1 (by omega), Option.bind_some]
      obtain ⟨e1, _⟩ := matches_val t u k [] a3 b3 (by omega) b1 (fun v w hv => by cases hv)
      rw [e1, Option.bind_some]
      have key := sub_tree (flat t) (flat u) a1 b1 t u (k - 2 * (flat t).length) 0 0 [] [] [] [] [] a3 b3 (by simp) (by simp) (by omega) ⟨rfl, fun v => by simp [mget]⟩ (by simp)
      rw [show k - 2 * (flat t).length + 2 * (flat t).length = k by omega] at key
      rcases key with ⟨g1, k', v1, v2, g2, g3, _, _⟩ | ⟨g1, g2⟩
      · rw [show (((0 : Nat)) : Int) = 0 from rfl] at g3
        refine ⟨true, by rw [g1], ?_⟩
        rw [g3]
        obtain ⟨k', rfl⟩ : ∃ q, k' = q + 1 := ⟨k' - 1, by omega⟩
        rw [spec_Subsumes.l0, if_neg (by omega)]
        simp
      · exact ⟨false, by rw [g1], g2⟩
theorem subsumes_true (xs ys : List Cell) (lx : xs.length ≤ 9223372036854775807) (ly : ys.length ≤ 9223372036854775807) (hx : ∀ c, c ∈ xs → c.text.length ≤ 9223372036854775807) (hy : ∀ c, c ∈ ys → c.text.length ≤ 9223372036854775807) : laws_FnExactSubsumes.f 4000000 xs ys = some true := by
  rw [laws_FnExactSubsumes.f]
  exact two_law xs ys impl_Subsumes.f spec_Subsumes.f 4000000 (by omega) lx ly hx hy (fun h1 h2 => subsumes_eq xs ys _ h1 h2 (by omega))
end Go.Proofs.Ytognefkopbbdnaa
