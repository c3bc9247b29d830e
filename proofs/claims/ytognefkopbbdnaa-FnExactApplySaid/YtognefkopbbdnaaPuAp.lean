import Derived.Test.YtognefkopbbdnaaWkAp2
import Derived.Test.YtognefkopbbdnaaZ2
namespace Go.Proofs.Ytognefkopbbdnaa
open Go.Sx Go.Sy
set_option linter.unusedVariables false
set_option linter.unusedSimpArgs false
set_option linter.unusedSectionVars false
set_option maxRecDepth 4000
/-! ### sizes, copies, equality: cells -/
theorem left_m1 {b : Int} {n : Nat} (h : left b n < 0) : left b n = -1 := by unfold left at *; split <;> (split at h <;> first | rfl | omega)
theorem szByteS_val (xs : List UInt8) (b : Int) (h0 : 0 ≤ b) (h1 : b ≤ 1048576) (hl : xs.length ≤ 9223372036854775807) : laws_szByteS.f xs b = some (left b xs.length) := by
  rw [laws_szByteS.f]; exact sz0 h0 h1 hl
theorem szCell_val (x : Cell) (b : Int) (h0 : 0 ≤ b) (h1 : b ≤ 1048576) (hl : x.text.length ≤ 9223372036854775807) : laws_szCell.f x b = some (left b x.text.length) := by
  rw [laws_szCell.f, szByteS_val _ _ h0 h1 hl, Option.bind_some]
  split
  · rename_i h; rw [left_m1 h]
  · rfl
theorem szCellS_val (xs : List Cell) (k : Nat) (b : Int) (h0 : 0 ≤ b) (h1 : b ≤ 1048576) (hl : xs.length ≤ 9223372036854775807) (ht : ∀ c, c ∈ xs → c.text.length ≤ 9223372036854775807) (hk : 1048577 < k) :
    laws_szCellS.f k xs b = some (left b (wCells xs)) := by
  rw [laws_szCellS.f]
  refine szT h0 h1 hl fun h => ?_
  have hq := left_le h
  rw [left_wrap h0 h1 hl h]
  exact szL (B := 0) (z := z68) (fun x => x.text.length) (fun k b i => laws_szCellS.l0 k xs b i) (fun _ => laws_szCell.f) (fun _ _ _ => rfl) (by omega) (fun x hx _ _ b q0 q1 => szCell_val x b q0 q1 (ht x hx)) k (by omega) _ (by omega) (by omega)
theorem toByteS_id (xs : List UInt8) (k : Nat) (hl : xs.length ≤ 1048576) (hk : xs.length < k) : laws_toByteS.f k xs = some xs := by
  rw [laws_toByteS.f, if_pos (by omega), if_pos (by omega)]
  exact toF (z := 0) (fun k i ys => laws_toByteS.l0 k xs i ys) (fun _ _ _ => rfl) (by omega) k hk _ (by simp)
theorem toCell_id (x : Cell) (k : Nat) (hl : x.text.length ≤ 1048576) (hk : 1048577 ≤ k) : laws_toCell.f k x = some x := by
  rw [laws_toCell.f, toByteS_id _ k hl (by omega)]; rfl
theorem wCells_len {xs : List Cell} {n : Nat} (hl : wCells xs ≤ n) : xs.length ≤ n := Nat.le_trans (Nat.le_add_right _ _) hl
theorem wCells_mem {xs : List Cell} {n : Nat} (hl : wCells xs ≤ n) {x : Cell} (hx : x ∈ xs) : x.text.length ≤ n := Nat.le_trans (Nat.le_trans (wts_mem (fun x : Cell => x.text.length) hx) (Nat.le_add_left _ _)) hl
theorem toCellS_id (xs : List Cell) (k : Nat) (hl : wCells xs ≤ 1048576) (hk : 2097154 < k) : laws_toCellS.f k xs = some xs := by
  have hl2 := wCells_len hl
  rw [laws_toCellS.f, if_pos (by omega), if_pos (by omega)]
  exact toL (z := z68) (B := 1048577) (fun k i ys => laws_toCellS.l0 k xs i ys) laws_toCell.f (fun _ _ _ => rfl) (by omega) (fun x hx k hk => toCell_id x k (wCells_mem hl hx) hk) k (by omega) _ (by simp)
theorem eqByteS_id (xs : List UInt8) (k : Nat) (hl : xs.length ≤ 1048576) (hk : xs.length < k) : laws_eqByteS.f k xs xs = some true := by
  rw [laws_eqByteS.f, if_neg (by simp)]
  exact eqF (z := 0) (fun k i => laws_eqByteS.l0 k xs xs i) (fun _ _ => rfl) (by omega) k hk
theorem eqCell_id (x : Cell) (k : Nat) (hl : x.text.length ≤ 1048576) (hk : 1048577 ≤ k) : laws_eqCell.f k x x = some true := by
  rw [laws_eqCell.f, if_neg (by simp), if_neg (by simp), eqByteS_id _ k hl (by omega), Option.bind_some, if_neg (by simp)]
theorem eqCellS_id (xs : List Cell) (k : Nat) (hl : wCells xs ≤ 1048576) (hk : 2097154 < k) : laws_eqCellS.f k xs xs = some true := by
  have hl2 := wCells_len hl
  rw [laws_eqCellS.f, if_neg (by simp)]
  exact eqL (z := z65) (z' := z65) (B := 1048577) (fun k i => laws_eqCellS.l0 k xs xs i) laws_eqCell.f (fun _ _ => rfl) (by omega) (fun x hx k hk => eqCell_id x k (wCells_mem hl hx) hk) k (by omega)
/-! ### marks -/
def PB (n m : Int) (x : UInt8) : Prop := m = n + 1 ∧ x = b8 n
theorem markByteS_val (xs : List UInt8) (k : Nat) (n : Int) (hl : xs.length ≤ 1048576) (hk : 1048577 < k) (h0 : 0 ≤ n) (hn : n ≤ 8000000000000000000) :
    ∃ ys, laws_markByteS_2.f k xs n = some (n + (xs.length : Int), ys) ∧ ys.length = xs.length ∧ HL PB n (n + (xs.length : Int)) ys := by
  rw [laws_markByteS_2.f]
  have e : wts (fun _ : UInt8 => 1) xs = xs.length := by
    induction xs with
    | nil => rfl
    | cons x xs ih => rw [wts_cons, ih (by simp at hl; omega), List.length_cons]; omega
  have := markL (U := 9000000000000000000) (P := PB) (B := 0) (z := (0 : UInt8)) (w := fun _ => 1) (xs := xs) (fun k n i ys => laws_markByteS_2.l0 k xs n i ys) (fun _ _ n => if n + 1 ≤ 9000000000000000000 ∧ 0 ≤ n then some (n + 1, b8 n) else some (IntKind.i64.wrap (n + 1), b8 n))
    (fun k n i ys hi hy => by
      show laws_markByteS_2.l0 (k + 1) xs n i ys = _
      rw [laws_markByteS_2.l0, if_pos (by omega), if_pos (by omega), Int.toNat_natCast]
      by_cases hh : n + 1 ≤ 9000000000000000000 ∧ 0 ≤ n
      · rw [if_pos hh, Option.bind_some, wrap_id (n := n + 1) (by omega) (by omega)]
      · rw [if_neg hh, Option.bind_some])
    (fun k n ys => by
      show laws_markByteS_2.l0 (k + 1) xs n xs.length ys = _
      rw [laws_markByteS_2.l0, if_neg (by omega)])
    (by omega) (fun x _ k _ n q0 q1 => ⟨b8 n, by rw [if_pos ⟨q1, q0⟩]; rfl, rfl, rfl⟩) k (by omega) n h0 (by rw [e]; omega)
  rw [e] at this
  exact this
def PC (n m : Int) (c : Cell) : Prop := c.kind = n ∧ c.n = n + 1 ∧ HL PB (n + 2) m c.text ∧ c.text.length ≤ 1048576 ∧ m ≤ 9000000000000000000
theorem getD_set_self {α : Type} {ys : List α} {i : Nat} {x z : α} (h : i < ys.length) : (ys.set i x).getD i z = x := by
  rw [List.getD_eq_getElem?_getD, List.getElem?_set_self h]; rfl
theorem markCellS_val (xs : List Cell) (k : Nat) (n : Int) (hl : wCells xs ≤ 1048576) (hk : 2097155 < k) (h0 : 0 ≤ n) (hn : n + (wts (fun x : Cell => 2 + x.text.length) xs : Int) ≤ 8000000000000000000) :
    ∃ ys, laws_markCellS_2.f k xs n = some (n + (wts (fun x : Cell => 2 + x.text.length) xs : Int), ys) ∧ ys.length = xs.length ∧ HL PC n (n + (wts (fun x : Cell => 2 + x.text.length) xs : Int)) ys := by
  have hl2 := wCells_len hl
  rw [laws_markCellS_2.f]
  refine markL (U := 8000000000000000000) (P := PC) (B := 1048578) (z := z65) (w := fun x => 2 + x.text.length) (xs := xs) (fun k n i ys => laws_markCellS_2.l0 k xs n i ys)
    (fun k c n => (laws_markByteS_2.f k c.text (IntKind.i64.wrap (IntKind.i64.wrap (n + 1) + 1))).bind fun t => some (t.1, ⟨n, IntKind.i64.wrap (n + 1), t.2⟩)) ?_ ?_ (by omega) ?_ k (by omega) n h0 (by omega)
  · intro k n i ys hi hy
    show laws_markCellS_2.l0 (k + 1) xs n i ys = _
    rw [laws_markCellS_2.l0, if_pos (by omega), if_pos (by omega), Int.toNat_natCast]
    have e1 : i < (ys.set i { ys.getD i z65 with kind := n }).length := by rw [List.length_set]; exact hi
    simp only [getD_set_self hi, List.set_set, getD_set_self e1]
    cases laws_markByteS_2.f k (ys.getD i z65).text (IntKind.i64.wrap (IntKind.i64.wrap (n + 1) + 1)) <;> rfl
  · intro k n ys
    show laws_markCellS_2.l0 (k + 1) xs n xs.length ys = _
    rw [laws_markCellS_2.l0, if_neg (by omega)]
  · intro x hx k hk n q0 q1
    rw [wrap_id (n := n + 1) (by omega) (by omega), wrap_id (n := n + 1 + 1) (by omega) (by omega)]
    obtain ⟨ys, e1, e2, e3⟩ := markByteS_val x.text k (n + 1 + 1) (wCells_mem hl hx) (by omega) (by omega) (by omega)
    rw [e1, Option.bind_some]
    have e : n + 1 + 1 + (x.text.length : Int) = n + ((2 + x.text.length : Nat) : Int) := by omega
    refine ⟨⟨n, n + 1, ys⟩, by rw [e], rfl, rfl, ?_, by rw [e2]; exact wCells_mem hl hx, by omega⟩
    rw [← e]
    exact (show n + 2 = n + 1 + 1 by omega) ▸ e3
theorem heldByteS_val (xs : List UInt8) (k : Nat) (n m : Int) (hl : xs.length ≤ 1048576) (hk : 1048577 < k) (h0 : 0 ≤ n) (hm : m ≤ 9000000000000000000) (h : HL PB n m xs) : laws_heldByteS.f k xs n = some m ∧ n ≤ m := by
  rw [laws_heldByteS.f]
  have key : ∀ (q k i : Nat) (n : Int), xs.length - i = q → i ≤ xs.length → q < k → 0 ≤ n → HL PB n m (xs.drop i) → laws_heldByteS.l0 k xs n (i : Int) = some m ∧ n ≤ m := by
    intro q
    induction q with
    | zero =>
      intro k i n h1 h2 h3 h4 h5
      obtain ⟨k, rfl⟩ : ∃ q, k = q + 1 := ⟨k - 1, by omega⟩
      rw [List.drop_of_length_le (by omega)] at h5
      cases h5
      rw [laws_heldByteS.l0, if_neg (by omega)]
      exact ⟨rfl, Int.le_refl _⟩
    | succ q ih =>
      intro k i n h1 h2 h3 h4 h5
      obtain ⟨k, rfl⟩ : ∃ q, k = q + 1 := ⟨k - 1, by omega⟩
      have hi : i < xs.length := by omega
      rw [List.drop_eq_getElem_cons hi] at h5
      cases h5 with
      | cons p hr =>
        obtain ⟨rfl, p2⟩ := p
        have hle : n + 1 ≤ m := hr.le (fun _ _ _ h => by have := h.1; omega)
        rw [laws_heldByteS.l0, if_pos (by omega), if_pos (by omega), Int.toNat_natCast, getD_at hi, p2, if_neg (by simp), wrap_nat (by omega), wrap_id (n := n + 1) (by omega) (by omega)]
        obtain ⟨f1, f2⟩ := ih k (i + 1) (n + 1) (by omega) (by omega) (by omega) (by omega) hr
        exact ⟨f1, by omega⟩
  exact key xs.length k 0 n rfl (by omega) (by omega) h0 h
theorem heldCellS_val (xs : List Cell) (k : Nat) (n m : Int) (hl : xs.length ≤ 1048576) (hk : 2097155 < k) (h0 : 0 ≤ n) (h : HL PC n m xs) : laws_heldCellS.f k xs n = some m ∧ n ≤ m := by
  rw [laws_heldCellS.f]
  refine heldL (P := PC) (B := 1048578) (z := z65) (fun k n i => laws_heldCellS.l0 k xs n i) (fun k c n => if c.kind ≠ n then some (-1) else if c.n ≠ IntKind.i64.wrap (n + 1) then some (-1) else laws_heldByteS.f k c.text (IntKind.i64.wrap (IntKind.i64.wrap (n + 1) + 1))) ?_ (by omega) ?_ k (by omega) n h0 h
  · intro k n i
    show laws_heldCellS.l0 (k + 1) xs n i = _
    rw [laws_heldCellS.l0]
    split
    · split
      · generalize xs.getD i.toNat z65 = c
        by_cases h1 : c.kind ≠ n
        · rw [if_pos h1, if_pos h1, Option.bind_some, if_pos (by omega)]
        · rw [if_neg h1, if_neg h1]
          by_cases h2 : c.n ≠ IntKind.i64.wrap (n + 1)
          · rw [if_pos h2, if_pos h2, Option.bind_some, if_pos (by omega)]
          · rw [if_neg h2, if_neg h2]
      · rfl
    · rfl
  · intro n m c _ p h0 k hk
    obtain ⟨p1, p2, p3, p4, p5⟩ := p
    have hle := p3.le (fun _ _ _ h => by have := h.1; omega)
    rw [wrap_id (n := n + 1) (by omega) (by omega), wrap_id (n := n + 1 + 1) (by omega) (by omega), if_neg (by omega), if_neg (by omega)]
    obtain ⟨f1, f2⟩ := heldByteS_val c.text k (n + 1 + 1) m p4 (by omega) (by omega) p5 ((show n + 2 = n + 1 + 1 by omega) ▸ p3)
    exact ⟨f1, by omega⟩
/-! ### terms that are valid -/
instance (c : Cell) : Decidable (Okc c) := by unfold Okc; infer_instance
theorem l2cell_val (c : Cell) : spec_l2cell.f c = some (decide (Okc c)) := by
  have e : ∀ l : List UInt8, (l.length : Int) = 0 ↔ l = [] := fun l => ⟨fun hl => List.eq_nil_of_length_eq_zero (by omega), fun h => by rw [h]; rfl⟩
  unfold spec_l2cell.f
  simp only [e]
  repeat' split
  all_goals refine congrArg some ?_
  all_goals first
    | (rw [eq_comm, decide_eq_false_iff_not]; unfold Okc; omega)
    | (rw [eq_comm, decide_eq_true_iff]; unfold Okc; omega)
    | (refine decide_eq_decide.2 ?_; unfold Okc; omega)
    | (refine decide_eq_decide.2 ?_; unfold Okc; simp only [*]; simp; try omega)
    | (rw [eq_comm, decide_eq_false_iff_not]; unfold Okc; simp only [*]; simp; try omega)
theorem cellOk_val (c : Cell) : impl_cellOk.f c = some (decide (Okc c)) := by
  have e : ∀ l : List UInt8, (l.length : Int) = 0 ↔ l = [] := fun l => ⟨fun hl => List.eq_nil_of_length_eq_zero (by omega), fun h => by rw [h]; rfl⟩
  unfold impl_cellOk.f
  simp only [e]
  repeat' split
  all_goals refine congrArg some ?_
  all_goals first
    | (rw [eq_comm, decide_eq_false_iff_not]; unfold Okc; omega)
    | (rw [eq_comm, decide_eq_true_iff]; unfold Okc; omega)
    | (refine decide_eq_decide.2 ?_; unfold Okc; omega)
    | (refine decide_eq_decide.2 ?_; unfold Okc; simp only [*]; simp; try omega)
    | (rw [eq_comm, decide_eq_false_iff_not]; unfold Okc; simp only [*]; simp; try omega)
theorem valid_l0 (xs : List Cell) (hl : xs.length < 9223372036854775807) : ∀ (m k i : Nat) (n : Int), xs.length - i = m → i ≤ xs.length → m < k → impl_ValidTerm.l0 k xs n (i : Int) = spec_ValidTerm.l0 k xs n (i : Int) ∧ ∃ b, spec_ValidTerm.l0 k xs n (i : Int) = some b := by
  intro m
  induction m with
  | zero =>
    intro k i n h1 h2 h3
    obtain ⟨k, rfl⟩ : ∃ q, k = q + 1 := ⟨k - 1, by omega⟩
    rw [impl_ValidTerm.l0, spec_ValidTerm.l0, if_neg (by omega), if_neg (by omega)]
    exact ⟨rfl, _, rfl⟩
  | succ m ih =>
    intro k i n h1 h2 h3
    obtain ⟨k, rfl⟩ : ∃ q, k = q + 1 := ⟨k - 1, by omega⟩
    rw [impl_ValidTerm.l0, spec_ValidTerm.l0, if_pos (show (i : Int) < (xs.length : Int) by omega), if_pos (show (0 : Int) ≤ (i : Int) by omega), if_pos (show (i : Int) < (xs.length : Int) by omega), wrap_nat (by omega)]
    by_cases hn : n = 0
    · rw [if_pos hn, if_pos hn]; exact ⟨rfl, _, rfl⟩
    · rw [if_neg hn, if_neg hn, if_pos (show (0 : Int) ≤ (i : Int) by omega), l2cell_val, cellOk_val, Option.bind_some, Option.bind_some]
      split
      · exact ⟨rfl, _, rfl⟩
      · split
        · exact ih k (i + 1) _ (by omega) (by omega) (by omega)
        · exact ih k (i + 1) _ (by omega) (by omega) (by omega)
theorem valid_eq (xs : List Cell) (k : Nat) (hl : xs.length < 9223372036854775807) (hk : xs.length < k) : impl_ValidTerm.f k xs = spec_ValidTerm.f k xs ∧ ∃ b, spec_ValidTerm.f k xs = some b := by
  rw [impl_ValidTerm.f, spec_ValidTerm.f]
  split
  · exact ⟨rfl, _, rfl⟩
  · exact valid_l0 xs hl xs.length k 0 1 rfl (by omega) hk
theorem valid_trees (xs : List Cell) (hl : xs.length ≤ 2000) : ∀ (m k i n : Nat), xs.length - i = m → i ≤ xs.length → n ≤ 1 + 20 * i → spec_ValidTerm.l0 k xs (n : Int) (i : Int) = some true →
    ∃ ts, ts.length = n ∧ flats ts = xs.drop i ∧ Wfs ts := by
  intro m
  induction m with
  | zero =>
    intro k i n h1 h2 h3 h
    obtain ⟨k, rfl⟩ : ∃ q, k = q + 1 := by
      cases k with
      | zero => rw [spec_ValidTerm.l0] at h; cases h
      | succ q => exact ⟨q, rfl⟩
    rw [spec_ValidTerm.l0, if_neg (by omega)] at h
    have h0 : n = 0 := by simpa using h
    exact ⟨[], by simp [h0], by rw [List.drop_of_length_le (by omega)]; simp [flats], by simp [Wfs]⟩
  | succ m ih =>
    intro k i n h1 h2 h3 h
    obtain ⟨k, rfl⟩ : ∃ q, k = q + 1 := by
      cases k with
      | zero => rw [spec_ValidTerm.l0] at h; cases h
      | succ q => exact ⟨q, rfl⟩
    have hi : i < xs.length := by omega
    rw [spec_ValidTerm.l0, if_pos (by omega), Int.toNat_natCast, getD_at hi, wrap_nat (by omega), l2cell_val] at h
    by_cases hn : (n : Int) = 0
    · rw [if_pos hn] at h; simp at h
    rw [if_neg hn, if_pos (by omega), Option.bind_some] at h
    by_cases hb : Okc xs[i]
    · rw [if_neg (by simpa using hb), wrap_id (n := (n : Int) - 1) (by omega) (by omega)] at h
      by_cases hk : xs[i].kind = 3
      · obtain ⟨p1, p2⟩ := hb.n3 hk
        rw [if_pos hk, wrap_id (n := (n : Int) - 1 + xs[i].n) (by omega) (by omega), show (n : Int) - 1 + xs[i].n = ((n - 1 + xs[i].n.toNat : Nat) : Int) by omega] at h
        obtain ⟨ts, e1, e2, e3⟩ := ih k (i + 1) (n - 1 + xs[i].n.toNat) (by omega) (by omega) (by omega) h
        refine ⟨Tm.mk xs[i].kind xs[i].n xs[i].text (ts.take xs[i].n.toNat) :: ts.drop xs[i].n.toNat, by simp; omega, ?_, ?_⟩
        · rw [List.drop_eq_getElem_cons hi, ← e2]
          conv => rhs; rw [← List.take_append_drop xs[i].n.toNat ts]
          rw [flats_append]
          simp [flats, flat]
        · rw [← List.take_append_drop xs[i].n.toNat ts, Wfs_append] at e3
          simp only [Wfs, Wf]
          exact ⟨⟨hb, fun _ => by rw [List.length_take]; omega, fun h => absurd hk h, e3.1⟩, e3.2⟩
      · rw [if_neg hk, show (n : Int) - 1 = ((n - 1 : Nat) : Int) by omega] at h
        obtain ⟨ts, e1, e2, e3⟩ := ih k (i + 1) (n - 1) (by omega) (by omega) (by omega) h
        refine ⟨Tm.mk xs[i].kind xs[i].n xs[i].text [] :: ts, by simp; omega, ?_, ?_⟩
        · rw [List.drop_eq_getElem_cons hi, ← e2]; simp [flats, flat]
        · simp only [Wfs, Wf]
          exact ⟨⟨hb, fun h => absurd h hk, fun _ => trivial, trivial⟩, e3⟩
    · rw [if_pos (by simpa using hb)] at h; simp at h
theorem valid_tree (xs : List Cell) (k : Nat) (h : spec_ValidTerm.f k xs = some true) : xs.length ≤ 2000 ∧ ∃ t, flat t = xs ∧ Wf t := by
  rw [spec_ValidTerm.f] at h
  split at h
  · simp at h
  · rename_i hl
    have hl' : xs.length ≤ 2000 := by omega
    obtain ⟨ts, e1, e2, e3⟩ := valid_trees xs hl' xs.length k 0 1 rfl (by omega) (by omega) h
    refine ⟨hl', ?_⟩
    match ts, e1, e2, e3 with
    | [t], _, e2, e3 =>
      refine ⟨t, by simpa [flats] using e2, ?_⟩
      simp only [Wfs] at e3
      exact e3.1
theorem valid_flats (xs : List Cell) (hx : xs.length ≤ 2000) : ∀ (m k i e : Nat) (us : List Tm) (r : List Cell), (flats us).length = m → Wfs us → xs.drop i = flats us ++ r → us.length + e ≤ 100000 → e ≤ 50000 →
    spec_ValidTerm.l0 (k + m) xs ((us.length + e : Nat) : Int) (i : Int) = spec_ValidTerm.l0 k xs (e : Int) ((i + m : Nat) : Int) := by
  intro m
  induction m with
  | zero =>
    intro k i e us r h1 hw hd h2 h3
    cases us with
    | nil => simp
    | cons t us => have := flat_pos t; simp only [flats, List.length_append] at h1; omega
  | succ m ih =>
    intro k i e us r h1 hw hd h2 h3
    cases us with
    | nil => simp [flats] at h1
    | cons t us =>
      obtain ⟨kd, n, s, vs⟩ := t
      simp only [Wfs, Wf] at hw
      obtain ⟨⟨w0, w1, w2, w3⟩, w4⟩ := hw
      have hi : i < xs.length := by
        rcases Nat.lt_or_ge i xs.length with h | h
        · exact h
        · rw [List.drop_of_length_le h] at hd; simp [flats, flat] at hd
      have hc : xs[i] = ⟨kd, n, s⟩ := by
        rw [List.drop_eq_getElem_cons hi] at hd
        simp only [flats, flat, List.cons_append] at hd
        exact (List.cons.inj hd).1
      have hd2 : xs.drop (i + 1) = flats (vs ++ us) ++ r := by
        rw [List.drop_eq_getElem_cons hi] at hd
        simp only [flats, flat, List.cons_append] at hd
        rw [(List.cons.inj hd).2, flats_append]
      have hm : (flats (vs ++ us)).length = m := by
        simp only [flats, flat, List.cons_append, List.length_cons] at h1
        rw [flats_append]; omega
      have hl : (flats (vs ++ us)).length ≤ 2000 := by
        have := congrArg List.length hd2
        rw [List.length_drop, List.length_append] at this; omega
      have hlen := flats_len (vs ++ us)
      rw [show k + (m + 1) = (k + m) + 1 by omega, spec_ValidTerm.l0, if_pos (by omega), if_neg (by simp; omega), if_pos (by omega), Int.toNat_natCast, getD_at hi, hc, wrap_nat (by omega), l2cell_val, Option.bind_some, if_neg (by simpa using w0)]
      have := ih k (i + 1) e (vs ++ us) r hm ((Wfs_append _ _).2 ⟨w3, w4⟩) hd2 (by omega) h3
      rw [show i + (m + 1) = i + 1 + m by omega, ← this]
      simp only [List.length_cons, List.length_append] at hlen h2 ⊢
      by_cases hk : kd = 3
      · have hn := w1 hk
        rw [if_pos hk, wrap_id (n := ((us.length + 1 + e : Nat) : Int) - 1) (by omega) (by omega), wrap_id (by omega) (by omega)]
        congr 1
        omega
      · rw [if_neg hk, wrap_id (by omega) (by omega)]
        have : vs = [] := w2 hk
        subst this
        congr 1
        simp; omega
/-- the cells of a term that is valid -/
noncomputable def okT (xs : List Cell) : Bool := @decide (xs.length ≤ 2000 ∧ ∃ t, flat t = xs ∧ Wf t) (Classical.propDecidable _)
theorem okT_iff (xs : List Cell) : okT xs = true ↔ (xs.length ≤ 2000 ∧ ∃ t, flat t = xs ∧ Wf t) := by unfold okT; exact @decide_eq_true_iff _ (Classical.propDecidable _)
theorem valid_val (xs : List Cell) (k : Nat) (hl : xs.length < 9223372036854775807) (hk : xs.length < k) : spec_ValidTerm.f k xs = some (okT xs) := by
  obtain ⟨_, b, e⟩ := valid_eq xs k hl hk
  cases b with
  | true => rw [e, (okT_iff xs).2 (valid_tree xs k e)]
  | false =>
    rw [e]
    by_cases h : okT xs = true
    · obtain ⟨h1, t, rfl, hw⟩ := (okT_iff xs).1 h
      exfalso
      rw [spec_ValidTerm.f, if_neg (by omega)] at e
      obtain ⟨k, rfl⟩ : ∃ q, k = q + 1 + (flat t).length := ⟨k - 1 - (flat t).length, by omega⟩
      have := valid_flats (flat t) h1 (flat t).length (k + 1) 0 0 [t] [] (by simp [flats]) (by simp [Wfs, hw]) (by simp [flats]) (by simp) (by omega)
      rw [show (([t].length + 0 : Nat) : Int) = 1 from rfl, show ((0 : Nat) : Int) = 0 from rfl] at this
      rw [this, spec_ValidTerm.l0, if_neg (by omega)] at e
      simp at e
    · rw [show okT xs = false by simpa using h]
theorem valid_val' (xs : List Cell) (k : Nat) (hl : xs.length < 9223372036854775807) (hk : xs.length < k) : impl_ValidTerm.f k xs = some (okT xs) := by
  rw [(valid_eq xs k hl hk).1, valid_val xs k hl hk]
theorem okT_all : ∀ (xs : List (List Cell)), xs.all okT = true → ∃ us : List Tm, us.map flat = xs ∧ Wfs us
  | [], _ => ⟨[], rfl, by simp [Wfs]⟩
  | x :: xs, h => by
    rw [List.all_cons, Bool.and_eq_true] at h
    obtain ⟨_, t, rfl, hw⟩ := (okT_iff x).1 h.1
    obtain ⟨us, rfl, hws⟩ := okT_all xs h.2
    exact ⟨t :: us, rfl, by simp only [Wfs]; exact ⟨hw, hws⟩⟩
/-! ### cells to trees -/
mutual
theorem from_flat : ∀ (t : Tm) (k : Nat) (r : List Cell), Wf t → 3 * (flat t).length < k → (flat t).length + r.length ≤ 2000 → impl_fromCells.f k (flat t ++ r) = some (t, r)
  | .mk kd n s us, k, r, hw, hk, hl => by
    obtain ⟨k, rfl⟩ : ∃ q, k = q + 1 := ⟨k - 1, by omega⟩
    simp only [flat, List.length_cons] at hk hl
    simp only [Wf] at hw
    obtain ⟨w0, w1, w2, w6⟩ := hw
    have e0 : flat (Tm.mk kd n s us) ++ r = ⟨kd, n, s⟩ :: (flats us ++ r) := by simp [flat]
    rw [e0, impl_fromCells.f, if_pos (by simp; omega), if_pos (by simp; omega), drop1]
    show (if kd = 3 then impl_fromCells.l0 k _ _ 0 [] else some (Tm.mk kd n s [], flats us ++ r)) = _
    by_cases h : kd = 3
    · rw [if_pos h]
      have a3 := w1 h
      have ⟨a1, a2⟩ := w0.n3 h
      have a1 : 1 ≤ n := a1
      have a2 : n ≤ 20 := a2
      have := from_flats us k ⟨kd, n, s⟩ (flats us ++ r) r [] w6 (by omega) (by omega) (by simp; omega) (by simp; omega)
      simpa using this
    · rw [if_neg h, w2 h]; simp [flats]
theorem from_flats : ∀ (us : List Tm) (k : Nat) (c : Cell) (z r : List Cell) (acc : List Tm), Wfs us → 3 * (flats us).length + 1 < k → (flats us).length + r.length ≤ 2000 → ((acc.length + us.length : Nat) : Int) = c.n → acc.length + us.length ≤ 20 →
    impl_fromCells.l0 k (c :: z) (flats us ++ r) (acc.length : Int) acc = some (Tm.mk c.kind c.n c.text (acc ++ us), r)
  | [], k, c, z, r, acc, hw, hk, hl, hn, hb => by
    obtain ⟨k, rfl⟩ : ∃ q, k = q + 1 := ⟨k - 1, by omega⟩
    rw [impl_fromCells.l0]
    show (if (acc.length : Int) < c.n then _ else some (Tm.mk c.kind c.n c.text acc, flats [] ++ r)) = _
    rw [if_neg (by simp at hn; omega)]
    simp [flats]
  | t :: us, k, c, z, r, acc, hw, hk, hl, hn, hb => by
    obtain ⟨k, rfl⟩ : ∃ q, k = q + 1 := ⟨k - 1, by omega⟩
    simp only [Wfs] at hw
    simp only [flats, List.length_append] at hk hl
    simp only [List.length_cons] at hn hb
    have hp := flat_pos t
    have e0 : flats (t :: us) ++ r = flat t ++ (flats us ++ r) := by simp [flats]
    rw [e0, impl_fromCells.l0]
    rw [from_flat t k (flats us ++ r) hw.1 (by omega) (by simp; omega), Option.bind_some]
    show (if (acc.length : Int) < c.n then _ else _) = _
    rw [if_pos (by omega), if_pos (by omega), wrap_nat (by omega)]
    have := from_flats us k c z r (acc ++ [t]) hw.2 (by omega) (by omega) (by simp; omega) (by simp; omega)
    simpa using this
end
theorem tree_flat (t : Tm) (k : Nat) (hw : Wf t) (hl : (flat t).length ≤ 2000) (hk : 6000 < k) : impl_tree.f k (flat t) = some t := by
  rw [impl_tree.f]
  have := from_flat t k [] hw (by omega) (by simpa using hl)
  rw [List.append_nil] at this
  rw [this]; rfl
/-! ### trees to cells -/
mutual
theorem put_flat : ∀ (t : Tm) (k : Nat) (acc : List Cell), Wf t → 4 * (flat t).length < k → acc.length + (flat t).length ≤ 1000000 → impl_node_put_2.f k t acc = some (acc ++ flat t)
  | .mk kd n s us, k, acc, hw, hk, hl => by
    obtain ⟨k, rfl⟩ : ∃ q, k = q + 3 := ⟨k - 3, by simp [flat] at hk; omega⟩
    simp only [flat, List.length_cons] at hk hl
    simp only [Wf] at hw
    obtain ⟨w0, w1, w2, w6⟩ := hw
    have ht := w0.text
    have e0 : impl_node_put_2.f (k + 3) (Tm.mk kd n s us) acc = impl_node_put_2.l0 (k + 2) (Tm.mk kd n s us) acc s := by
      rw [impl_node_put_2.f]
      show (if kd ≥ 2 then (if s.length ≤ 9223372036854775807 then impl_node_put_2.l0 (k + 2) _ acc s else none) else impl_node_put_2.l0 (k + 2) _ acc []) = _
      by_cases h : kd ≥ 2
      · rw [if_pos h, if_pos (Nat.le_trans ht (by decide))]
      · rw [if_neg h]
        rcases w0 with ⟨_, _, _, h1⟩ | ⟨_, _, _, h1⟩ | ⟨h1, _⟩ | ⟨h1, _⟩
        · have : s = [] := h1
          rw [this]
        · have : s = [] := h1
          rw [this]
        · exact absurd (show kd = 2 from h1) (by omega)
        · exact absurd (show kd = 3 from h1) (by omega)
    rw [e0, impl_node_put_2.l0, if_pos (by omega)]
    have := put_flats us [] k (Tm.mk kd n s us) (acc ++ [⟨kd, n, s⟩]) rfl w6 (by omega) (by simp; omega) (by have := flats_len us; simp; omega)
    simp only [List.length_nil] at this
    exact this.trans (by simp [flat])
theorem put_flats : ∀ (us vs : List Tm) (k : Nat) (t : Tm) (acc : List Cell), t.args = vs ++ us → Wfs us → 4 * (flats us).length + 2 < k + 1 → acc.length + (flats us).length ≤ 1000000 → vs.length + us.length ≤ 1000000 →
    impl_node_put_2.l1 (k + 1) t acc (vs.length : Int) = some (acc ++ flats us)
  | [], vs, k, t, acc, ha, hw, hk, hl, hv => by
    rw [impl_node_put_2.l1, ha, if_neg (by simp)]; simp [flats]
  | u :: us, vs, k, t, acc, ha, hw, hk, hl, hv => by
    simp only [Wfs] at hw
    simp only [flats, List.length_append] at hk hl
    have hp := flat_pos u
    simp only [List.length_cons] at hv
    obtain ⟨k, rfl⟩ : ∃ q, k = q + 1 := ⟨k - 1, by omega⟩
    rw [impl_node_put_2.l1, ha, if_pos (by simp; omega), if_pos (by omega)]
    have hg : (vs ++ u :: us).getD ((vs.length : Int)).toNat (Tm.mk 0 0 [] []) = u := by
      rw [Int.toNat_natCast, List.getD_eq_getElem?_getD, List.getElem?_append_right (by omega), Nat.sub_self]; rfl
    rw [hg, impl_node_cut_2.f, put_flat u k acc hw.1 (by omega) (by omega), Option.bind_some, Option.bind_some, wrap_nat (by omega)]
    have := put_flats us (vs ++ [u]) k t (acc ++ flat u) (by rw [ha]; simp) hw.2 (by omega) (by simp; omega) (by simp; omega)
    rw [show ((vs ++ [u]).length : Int) = ((vs.length + 1 : Nat) : Int) by simp] at this
    rw [this]; simp [flats]
end
theorem cells_flat (t : Tm) (k : Nat) (hw : Wf t) (hl : (flat t).length ≤ 100000) (hk : 400000 < k) : impl_node_cells.f k t = some (flat t) := by
  rw [impl_node_cells.f, put_flat t k [] hw (by omega) (by simp; omega)]; simp
theorem l2copy_val (xs : List Cell) (k : Nat) (hl : xs.length ≤ 1000000) (ht : ∀ c, c ∈ xs → c.text.length ≤ 1000000) (hk : xs.length < k) : spec_l2copy.f k xs = some xs := by
  rw [spec_l2copy.f]
  have key : ∀ (m k i : Nat), xs.length - i = m → i ≤ xs.length → m < k → spec_l2copy.l0 k xs (xs.take i) (i : Int) = some xs := by
    intro m
    induction m with
    | zero =>
      intro k i h1 h2 h3
      obtain ⟨k, rfl⟩ : ∃ q, k = q + 1 := ⟨k - 1, by omega⟩
      rw [spec_l2copy.l0, if_neg (by omega), List.take_of_length_le (by omega)]
    | succ m ih =>
      intro k i h1 h2 h3
      obtain ⟨k, rfl⟩ : ∃ q, k = q + 1 := ⟨k - 1, by omega⟩
      have hi : i < xs.length := by omega
      have hlt := ht _ (List.getElem_mem hi)
      rw [spec_l2copy.l0, if_pos (by omega), if_pos (by omega), Int.toNat_natCast, getD_at hi, spec_l1copy.f, if_pos (by omega), Option.bind_some, if_pos (by rw [List.length_take]; omega), wrap_nat (by omega)]
      have e : xs.take i ++ [(⟨xs[i].kind, xs[i].n, xs[i].text⟩ : Cell)] = xs.take (i + 1) := by rw [List.take_add_one, List.getElem?_eq_getElem hi]; rfl
      rw [e]
      exact ih k (i + 1) (by omega) (by omega) (by omega)
  exact key xs.length k 0 rfl (by omega) hk
/-! ### bindings -/
def wBs (xs : List Binding) : Nat := xs.length + wts (fun b : Binding => wCells b.term) xs
theorem wBs_len {xs : List Binding} {n : Nat} (hl : wBs xs ≤ n) : xs.length ≤ n := Nat.le_trans (Nat.le_add_right _ _) hl
theorem wBs_mem {xs : List Binding} {n : Nat} (hl : wBs xs ≤ n) {x : Binding} (hx : x ∈ xs) : wCells x.term ≤ n := Nat.le_trans (Nat.le_trans (wts_mem (fun b : Binding => wCells b.term) hx) (Nat.le_add_left _ _)) hl
theorem szBinding_val (x : Binding) (k : Nat) (b : Int) (h0 : 0 ≤ b) (h1 : b ≤ 1048576) (hl : x.term.length ≤ 9223372036854775807) (ht : ∀ c, c ∈ x.term → c.text.length ≤ 9223372036854775807) (hk : 1048577 < k) : laws_szBinding.f k x b = some (left b (wCells x.term)) := by
  rw [laws_szBinding.f, szCellS_val _ k b h0 h1 hl ht hk, Option.bind_some]
  split
  · rename_i h; rw [left_m1 h]
  · rfl
theorem szBindingS_val (xs : List Binding) (k : Nat) (b : Int) (h0 : 0 ≤ b) (h1 : b ≤ 1048576) (hl : xs.length ≤ 9223372036854775807) (ht : ∀ x, x ∈ xs → x.term.length ≤ 9223372036854775807 ∧ ∀ c, c ∈ x.term → c.text.length ≤ 9223372036854775807) (hk : 2097156 < k) :
    laws_szBindingS.f k xs b = some (left b (wBs xs)) := by
  rw [laws_szBindingS.f]
  refine szT h0 h1 hl fun h => ?_
  have hq := left_le h
  rw [left_wrap h0 h1 hl h]
  exact szL (B := 1048578) (z := z98) (fun b : Binding => wCells b.term) (fun k b i => laws_szBindingS.l0 k xs b i) laws_szBinding.f (fun _ _ _ => rfl) (by omega) (fun x hx k hk b q0 q1 => szBinding_val x k b q0 q1 (ht x hx).1 (ht x hx).2 (by omega)) k (by omega) _ (by omega) (by omega)
theorem toBindingS_id (xs : List Binding) (k : Nat) (hl : wBs xs ≤ 1048576) (hk : 3145731 < k) : laws_toBindingS.f k xs = some xs := by
  have hl2 := wBs_len hl
  rw [laws_toBindingS.f, if_pos (by omega), if_pos (by omega)]
  exact toL (z := z98) (B := 2097155) (fun k i ys => laws_toBindingS.l0 k xs i ys) laws_toBinding.f (fun _ _ _ => rfl) (by omega) (fun x hx k hk => by rw [laws_toBinding.f, toCellS_id x.term k (wBs_mem hl hx) (by omega)]; rfl) k (by omega) _ (by simp)
theorem eqBindingS_id (xs : List Binding) (k : Nat) (hl : wBs xs ≤ 1048576) (hk : 3145731 < k) : laws_eqBindingS.f k xs xs = some true := by
  have hl2 := wBs_len hl
  rw [laws_eqBindingS.f, if_neg (by simp)]
  exact eqL (z := z63) (z' := z63) (B := 2097155) (fun k i => laws_eqBindingS.l0 k xs xs i) laws_eqBinding.f (fun _ _ => rfl) (by omega) (fun x hx k hk => by rw [laws_eqBinding.f, if_neg (by simp), eqCellS_id x.term k (wBs_mem hl hx) (by omega), Option.bind_some, if_neg (by simp)]) k (by omega)
theorem markBindingS_val (xs : List Binding) (k : Nat) (n : Int) (hl : wBs xs ≤ 1048576) (hk : 3145735 < k) (h0 : 0 ≤ n) (hn : n ≤ 1000000) : ∃ m ys, laws_markBindingS_2.f k xs n = some (m, ys) ∧ n ≤ m ∧ m ≤ n + 4000000 := by
  have hl2 := wBs_len hl
  rw [laws_markBindingS_2.f]
  have hw : wts (fun b : Binding => 1 + wts (fun x : Cell => 2 + x.text.length) b.term) xs ≤ xs.length + 2 * wts (fun b : Binding => wCells b.term) xs := by
    clear hl hl2
    induction xs with
    | nil => simp [wts]
    | cons x xs ih => rw [wts_cons, wts_cons, List.length_cons]; have := wts2 x.term; omega
  have hl3 : wts (fun b : Binding => wCells b.term) xs ≤ 1048576 := Nat.le_trans (Nat.le_add_left _ _) hl
  obtain ⟨ys, e1, _, _⟩ := markL (U := 7000000000000000000) (P := fun _ _ _ => True) (B := 2097156) (z := z63) (w := fun b : Binding => 1 + wts (fun x : Cell => 2 + x.text.length) b.term) (xs := xs) (fun k n i ys => laws_markBindingS_2.l0 k xs n i ys)
    (fun k c n => (laws_markCellS_2.f k c.term (IntKind.i64.wrap (n + 1))).bind fun t => some (t.1, ⟨n, t.2⟩))
    (fun k n i ys hi hy => by
      show laws_markBindingS_2.l0 (k + 1) xs n i ys = _
      rw [laws_markBindingS_2.l0, if_pos (by omega), if_pos (by omega), Int.toNat_natCast]
      simp only [getD_set_self hi, List.set_set]
      cases laws_markCellS_2.f k (ys.getD i z63).term (IntKind.i64.wrap (n + 1)) <;> rfl)
    (fun k n ys => by
      show laws_markBindingS_2.l0 (k + 1) xs n xs.length ys = _
      rw [laws_markBindingS_2.l0, if_neg (by omega)]) (by omega)
    (fun x hx k hk n q0 q1 => by
      rw [wrap_id (n := n + 1) (by omega) (by omega)]
      obtain ⟨ys, e1, e2, e3⟩ := markCellS_val x.term k (n + 1) (wBs_mem hl hx) (by omega) (by omega) (by omega)
      rw [e1, Option.bind_some]
      exact ⟨⟨n, ys⟩, by congr 2; omega, trivial⟩) k (by omega) n h0 (by omega)
  exact ⟨_, ys, e1, by omega, by omega⟩
/-! ### a substitution that is valid -/
def OkSub (xs : List Binding) : Prop := ∀ j (h : j < xs.length), okT xs[j].term = true ∧ 0 ≤ xs[j].var ∧ xs[j].var ≤ 1000000 ∧ ∀ i (hi : i < j), (xs[i]'(Nat.lt_trans hi h)).var < xs[j].var
theorem sub_valid (xs : List Binding) (hb : ∀ x, x ∈ xs → x.term.length ≤ 1048576) (hl : xs.length ≤ 1000) : ∀ (m k i : Nat), xs.length - i = m → i ≤ xs.length → m + 1100000 < k → ∃ b, spec_l5valid.l0 k xs (i : Int) = some b ∧ impl_validSub.l0 k xs (i : Int) = some b ∧
    (b = true → ∀ j (h : j < xs.length), i ≤ j → okT xs[j].term = true ∧ 0 ≤ xs[j].var ∧ xs[j].var ≤ 1000000 ∧ ∀ q, j = q + 1 → ∀ hq : q < xs.length, xs[q].var < xs[j].var) := by
  intro m
  induction m with
  | zero =>
    intro k i h1 h2 h3
    obtain ⟨k, rfl⟩ : ∃ q, k = q + 1 := ⟨k - 1, by omega⟩
    rw [spec_l5valid.l0, impl_validSub.l0, if_neg (by omega), if_neg (by omega)]
    exact ⟨true, rfl, rfl, fun _ j h h4 => by omega⟩
  | succ m ih =>
    intro k i h1 h2 h3
    obtain ⟨k, rfl⟩ : ∃ q, k = q + 1 := ⟨k - 1, by omega⟩
    have hi : i < xs.length := by omega
    have hbi := hb _ (List.getElem_mem hi)
    rw [spec_l5valid.l0, impl_validSub.l0, if_pos (show (i : Int) < (xs.length : Int) by omega), if_pos (show (0 : Int) ≤ (i : Int) by omega), if_pos (show (i : Int) < (xs.length : Int) by omega), if_pos (show (0 : Int) ≤ (i : Int) by omega), Int.toNat_natCast, getD_at hi, valid_val _ _ (by omega) (by omega), valid_val' _ _ (by omega) (by omega), Option.bind_some, Option.bind_some, wrap_nat (by omega)]
    by_cases c1 : xs[i].var < 0
    · rw [if_pos c1, if_pos c1]; exact ⟨false, rfl, rfl, fun h => by cases h⟩
    rw [if_neg c1, if_neg c1]
    by_cases c2 : xs[i].var > 1000000
    · rw [if_pos c2, if_pos c2]; exact ⟨false, rfl, rfl, fun h => by cases h⟩
    rw [if_neg c2, if_neg c2]
    obtain ⟨b, e1, e2, e3⟩ := ih k (i + 1) (by omega) (by omega) (by omega)
    rw [e1, e2]
    by_cases c3 : (i : Int) > 0
    · have hw : IntKind.i64.wrap ((i : Int) - 1) = ((i - 1 : Nat) : Int) := by rw [wrap_id (by omega) (by omega)]; omega
      have hi1 : i - 1 < xs.length := by omega
      rw [if_pos c3, hw, if_pos (show (0 : Int) ≤ ((i - 1 : Nat) : Int) by omega), if_pos (show ((i - 1 : Nat) : Int) < (xs.length : Int) by omega), Int.toNat_natCast, getD_at hi1]
      by_cases c4 : xs[i - 1].var ≥ xs[i].var
      · rw [if_pos c4]; exact ⟨false, rfl, rfl, fun h => by cases h⟩
      · rw [if_neg c4]
        cases hv : okT xs[i].term with
        | false => exact ⟨false, rfl, rfl, fun h => by cases h⟩
        | true =>
          rw [if_neg (by simp)]
          refine ⟨b, rfl, rfl, fun hbt j h h4 => ?_⟩
          rcases Nat.lt_or_ge i j with h5 | h5
          · exact e3 hbt j h h5
          · obtain rfl : i = j := by omega
            exact ⟨hv, by omega, by omega, fun q hq hq2 => by
              have : i - 1 = q := by omega
              subst this; omega⟩
    · rw [if_neg c3]
      cases hv : okT xs[i].term with
      | false => exact ⟨false, rfl, rfl, fun h => by cases h⟩
      | true =>
        rw [if_neg (by simp)]
        refine ⟨b, rfl, rfl, fun hbt j h h4 => ?_⟩
        rcases Nat.lt_or_ge i j with h5 | h5
        · exact e3 hbt j h h5
        · obtain rfl : i = j := by omega
          exact ⟨hv, by omega, by omega, fun q hq hq2 => by omega⟩
theorem sub_ok (xs : List Binding) (k : Nat) (hb : ∀ x, x ∈ xs → x.term.length ≤ 1048576) (hk : 2000000 < k) : ∃ b, spec_l5valid.f k xs = some b ∧ impl_validSub.f k xs = some b ∧ (b = true → xs.length ≤ 1000 ∧ OkSub xs) := by
  rw [spec_l5valid.f, impl_validSub.f]
  by_cases h : (xs.length : Int) > 1000
  · rw [if_pos h, if_pos h]; exact ⟨false, rfl, rfl, fun h => by cases h⟩
  rw [if_neg h, if_neg h]
  obtain ⟨b, e1, e2, e3⟩ := sub_valid xs hb (by omega) xs.length k 0 rfl (by omega) (by omega)
  refine ⟨b, e1, e2, fun hbt => ⟨by omega, fun j hj => ?_⟩⟩
  have f := e3 hbt
  obtain ⟨g1, g2, g3, _⟩ := f j hj (Nat.zero_le _)
  refine ⟨g1, g2, g3, fun i hi => ?_⟩
  have key : ∀ d i (hd : i + d + 1 < xs.length), (xs[i]'(by omega)).var < (xs[i + d + 1]'hd).var := by
    intro d
    induction d with
    | zero => intro i hd; exact (f (i + 0 + 1) hd (Nat.zero_le _)).2.2.2 i rfl (by omega)
    | succ d ih =>
      intro i hd
      have a := ih i (by omega)
      have b := (f (i + (d + 1) + 1) hd (Nat.zero_le _)).2.2.2 (i + d + 1) (by omega) (by omega)
      omega
  have := key (j - i - 1) i (by omega)
  have e : i + (j - i - 1) + 1 = j := by omega
  simp only [e] at this
  exact this
def lk : List Binding → Int → Option (List Cell)
  | [], _ => none
  | b :: bs, v => if b.var = v then some b.term else lk bs v
theorem lk_none : ∀ (bs : List Binding) (v : Int), (∀ b, b ∈ bs → b.var ≠ v) → lk bs v = none
  | [], v, _ => rfl
  | b :: bs, v, h => by rw [lk, if_neg (h b (.head _))]; exact lk_none bs v fun c hc => h c (.tail _ hc)
theorem lk_app : ∀ (ds bs : List Binding) (v : Int), lk (ds ++ bs) v = (lk ds v).or (lk bs v)
  | [], bs, v => rfl
  | a :: ds, bs, v => by
    simp only [List.cons_append, lk]
    split
    · rfl
    · exact lk_app ds bs v
theorem lk_at (xs : List Binding) (h : OkSub xs) (j : Nat) (hj : j < xs.length) : lk xs xs[j].var = some xs[j].term := by
  have e : xs = xs.take j ++ xs[j] :: xs.drop (j + 1) := by rw [← List.drop_eq_getElem_cons hj, List.take_append_drop]
  have : lk (xs.take j ++ xs[j] :: xs.drop (j + 1)) xs[j].var = some xs[j].term := by
    rw [lk_app, lk_none (xs.take j) xs[j].var (fun b hb => ?_)]
    · rw [lk, if_pos rfl]; rfl
    · obtain ⟨i, hi, rfl⟩ := List.getElem_of_mem hb
      rw [List.length_take] at hi
      rw [List.getElem_take]
      have := (h j hj).2.2.2 i (by omega)
      omega
  rw [← e] at this
  exact this
theorem index_val (xs : List Binding) (v : Int) (k : Nat) (h : OkSub xs) (hl : xs.length ≤ 1000) (hk : 1001 < k) : ∃ r, spec_l5index.f k xs v = some r ∧ ((∃ (j : Nat) (hj : j < xs.length), r = (j : Int) ∧ xs[j].var = v) ∨ (r = -1 ∧ ∀ b, b ∈ xs → b.var ≠ v)) := by
  rw [spec_l5index.f]
  have key : ∀ (d k lo hi : Nat), hi - lo = d → lo ≤ hi → hi ≤ xs.length → d < k → (∀ i (q : i < xs.length), i < lo → xs[i].var < v) → (∀ i (q : i < xs.length), hi ≤ i → v ≤ xs[i].var) →
      ∃ r, spec_l5index.l0 k xs v (lo : Int) (hi : Int) = some r ∧ ((∃ (j : Nat) (hj : j < xs.length), r = (j : Int) ∧ xs[j].var = v) ∨ (r = -1 ∧ ∀ b, b ∈ xs → b.var ≠ v)) := by
    intro d
    induction d using Nat.strongRecOn with
    | _ d ih =>
      intro k lo hi h1 h2 h3 h4 h5 h6
      obtain ⟨k, rfl⟩ : ∃ q, k = q + 1 := ⟨k - 1, by omega⟩
      rw [spec_l5index.l0]
      by_cases hlt : (lo : Int) < (hi : Int)
      · have hm : IntKind.i64.wrap (Int.tdiv (IntKind.i64.wrap ((lo : Int) + (hi : Int))) 2) = (((lo + hi) / 2 : Nat) : Int) := by
          rw [wrap_id (n := (lo : Int) + (hi : Int)) (by omega) (by omega)]
          have : Int.tdiv ((lo : Int) + (hi : Int)) 2 = (((lo + hi) / 2 : Nat) : Int) := rfl
          rw [this, wrap_id (by omega) (by omega)]
        have hmid : (lo + hi) / 2 < xs.length := by omega
        rw [if_pos hlt, hm, if_pos (by omega), if_pos (by omega), Int.toNat_natCast, getD_at hmid]
        by_cases hv : xs[(lo + hi) / 2].var < v
        · rw [if_pos hv, wrap_nat (by omega)]
          refine ih (hi - ((lo + hi) / 2 + 1)) (by omega) k ((lo + hi) / 2 + 1) hi rfl (by omega) h3 (by omega) (fun i q hi2 => ?_) h6
          rcases Nat.lt_or_ge i ((lo + hi) / 2) with h7 | h7
          · have := (h _ hmid).2.2.2 i h7; omega
          · have : i = (lo + hi) / 2 := by omega
            subst this; exact hv
        · rw [if_neg hv]
          refine ih ((lo + hi) / 2 - lo) (by omega) k lo ((lo + hi) / 2) rfl (by omega) (by omega) (by omega) h5 (fun i q hi2 => ?_)
          rcases Nat.lt_or_ge ((lo + hi) / 2) i with h7 | h7
          · have := (h i q).2.2.2 _ h7; omega
          · have : i = (lo + hi) / 2 := by omega
            subst this; omega
      · rw [if_neg hlt]
        have none_ : (∀ (q : lo < xs.length), xs[lo].var ≠ v) → ∀ b, b ∈ xs → b.var ≠ v := fun hq b hb => by
          obtain ⟨i, hi2, rfl⟩ := List.getElem_of_mem hb
          rcases Nat.lt_or_ge i lo with h7 | h7
          · have := h5 i hi2 h7; omega
          · rcases Nat.lt_or_ge lo i with h8 | h8
            · have a := (h i hi2).2.2.2 lo h8
              have b := h6 lo (by omega) (by omega)
              omega
            · have : i = lo := by omega
              subst this; exact hq hi2
        by_cases hlo : (lo : Int) < (xs.length : Int)
        · have hlo' : lo < xs.length := by omega
          rw [if_pos hlo, if_pos (by omega), Int.toNat_natCast, getD_at hlo']
          by_cases hv : xs[lo].var = v
          · rw [if_pos hv]; exact ⟨_, rfl, .inl ⟨lo, hlo', rfl, hv⟩⟩
          · rw [if_neg hv]; exact ⟨_, rfl, .inr ⟨rfl, none_ fun _ => hv⟩⟩
        · rw [if_neg hlo]; exact ⟨_, rfl, .inr ⟨rfl, none_ fun q => by omega⟩⟩
  exact key xs.length k 0 xs.length rfl (by omega) (by omega) (by omega) (fun i q h => by omega) (fun i q h => by omega)
/-! ### FnExactApply -/
def rep (bs : List Binding) (c : Cell) : List Cell := if c.kind = 0 then (lk bs c.n).getD [c] else [c]
def apl (bs : List Binding) : List Cell → List Cell → List Cell × Int
  | [], out => (out, 0)
  | c :: cs, out => if ((out ++ rep bs c).length : Int) > 2000 then ([], 3) else apl bs cs (out ++ rep bs c)
theorem lk_ok {bs : List Binding} (h : OkSub bs) {v : Int} {t : List Cell} (ht : lk bs v = some t) : okT t = true := by
  have : ∀ l : List Binding, (∀ b, b ∈ l → okT b.term = true) → ∀ t, lk l v = some t → okT t = true := by
    intro l
    induction l with
    | nil => intro _ t h; cases h
    | cons b l ih =>
      intro hb t h
      rw [lk] at h
      split at h
      · injection h with h; subst h; exact hb b (.head _)
      · exact ih (fun c hc => hb c (.tail _ hc)) t h
  exact this bs (fun b hb => by obtain ⟨i, hi, rfl⟩ := List.getElem_of_mem hb; exact (h i hi).1) t ht
theorem rep_ok {bs : List Binding} (h : OkSub bs) {c : Cell} (hc : Okc c) : (rep bs c).length ≤ 2000 ∧ ∀ d, d ∈ rep bs c → Okc d := by
  have one : ([c] : List Cell).length ≤ 2000 ∧ ∀ d, d ∈ [c] → Okc d := ⟨by simp, fun d hd => by rw [List.mem_singleton.1 hd]; exact hc⟩
  unfold rep
  split
  · cases hl : lk bs c.n with
    | none => exact one
    | some t =>
      obtain ⟨h1, u, rfl, hw⟩ := (okT_iff t).1 (lk_ok h hl)
      exact ⟨h1, flat_ok u hw⟩
  · exact one
theorem apl_ok (bs : List Binding) (h : OkSub bs) : ∀ (cs out : List Cell), (∀ c, c ∈ cs → Okc c) → (∀ c, c ∈ out → Okc c) → out.length ≤ 2000 → (apl bs cs out).1.length ≤ 2000 ∧ ∀ d, d ∈ (apl bs cs out).1 → Okc d
  | [], out, _, h2, h3 => ⟨h3, h2⟩
  | c :: cs, out, h1, h2, h3 => by
    rw [apl]
    split
    · exact ⟨by simp, fun d hd => by cases hd⟩
    · refine apl_ok bs h cs _ (fun d hd => h1 d (.tail _ hd)) (fun d hd => ?_) (by omega)
      rcases List.mem_append.1 hd with hd | hd
      · exact h2 d hd
      · exact (rep_ok h (h1 c (.head _))).2 d hd
theorem spec_apply (bs : List Binding) (t : List Cell) (hl : bs.length ≤ 1000) (h : OkSub bs) (ht : t.length ≤ 2000) (hok : ∀ c, c ∈ t → Okc c) : ∀ (m k i : Nat) (out : List Cell), t.length - i = m → i ≤ t.length → 2 * m + 10000 < k → out.length ≤ 2000 → spec_Apply.l0 k bs t out (i : Int) = some (apl bs (t.drop i) out) := by
  intro m
  induction m with
  | zero =>
    intro k i out h1 h2 h3 h4
    obtain ⟨k, rfl⟩ : ∃ q, k = q + 1 := ⟨k - 1, by omega⟩
    rw [spec_Apply.l0, if_neg (by omega), List.drop_of_length_le (by omega)]; rfl
  | succ m ih =>
    intro k i out h1 h2 h3 h4
    obtain ⟨k, rfl⟩ : ∃ q, k = q + 2 := ⟨k - 2, by omega⟩
    have hi : i < t.length := by omega
    have hci := hok _ (List.getElem_mem hi)
    have one : spec_Apply.l1 (k + 1) bs t out (i : Int) (-1) = if ((out ++ [t[i]]).length : Int) > 2000 then some ([], 3) else some (apl bs (t.drop (i + 1)) (out ++ [t[i]])) := by
      have cut : (t.drop (i : Int).toNat).take (((i + 1 : Nat) : Int).toNat - (i : Int).toNat) = [t[i]] := by
        rw [Int.toNat_natCast, Int.toNat_natCast, Nat.add_sub_cancel_left, List.drop_eq_getElem_cons hi]; rfl
      rw [spec_Apply.l1, if_neg (by omega), if_pos (by omega), wrap_nat (by omega), if_pos (by omega), if_pos (by omega), cut, l2copy_val _ _ (by simp) (fun c hc => by rw [List.mem_singleton.1 hc]; exact Nat.le_trans hci.text (by decide)) (by simp; omega), Option.bind_some, if_pos (by simp; omega)]
      split
      · rfl
      · rename_i hq
        exact ih k (i + 1) _ (by omega) (by omega) (by omega) (by omega)
    rw [spec_Apply.l0, if_pos (by omega), if_pos (by omega), Int.toNat_natCast, getD_at hi, List.drop_eq_getElem_cons hi, apl]
    by_cases hk : t[i].kind = 0
    · obtain ⟨r, e1, e2⟩ := index_val bs t[i].n (k + 1) h hl (by omega)
      rw [if_pos hk, e1, Option.bind_some]
      rcases e2 with ⟨j, hj, rfl, e3⟩ | ⟨rfl, e3⟩
      · have hlk : lk bs t[i].n = some bs[j].term := by rw [← e3]; exact lk_at bs h j hj
        have hrep : rep bs t[i] = bs[j].term := by unfold rep; rw [if_pos hk, hlk]; rfl
        have hjo := rep_ok h hci
        rw [hrep] at hjo ⊢
        rw [spec_Apply.l1, if_pos (by omega), if_pos (by omega), if_pos (by omega), Int.toNat_natCast, getD_at hj, l2copy_val _ _ (by omega) (fun c hc => Nat.le_trans (hjo.2 c hc).text (by decide)) (by omega), Option.bind_some, if_pos (by omega), wrap_nat (by omega)]
        split
        · rfl
        · exact ih k (i + 1) _ (by omega) (by omega) (by omega) (by omega)
      · have hrep : rep bs t[i] = [t[i]] := by unfold rep; rw [if_pos hk, lk_none bs _ e3]; rfl
        rw [one, hrep]
        split <;> rfl
    · have hrep : rep bs t[i] = [t[i]] := by unfold rep; rw [if_neg hk]
      rw [if_neg hk, one, hrep]
      split <;> rfl
theorem impl_map (bs : List Binding) (t : List Cell) (hl : bs.length ≤ 1000) (h : OkSub bs) : ∀ (m k i : Nat) (M : List (Int × List Cell)), bs.length - i = m → i ≤ bs.length → m < k → (∀ v, mget M v = lk (bs.take i) v) → ∃ M', impl_Apply.l0 k bs t (i : Int) M = impl_Apply.l1 (k - m - 1) t M' [] 0 ∧ ∀ v, mget M' v = lk bs v := by
  intro m
  induction m with
  | zero =>
    intro k i M h1 h2 h3 h4
    obtain ⟨k, rfl⟩ : ∃ q, k = q + 1 := ⟨k - 1, by omega⟩
    rw [impl_Apply.l0, if_neg (by omega)]
    rw [List.take_of_length_le (by omega)] at h4
    exact ⟨M, rfl, h4⟩
  | succ m ih =>
    intro k i M h1 h2 h3 h4
    obtain ⟨k, rfl⟩ : ∃ q, k = q + 1 := ⟨k - 1, by omega⟩
    have hi : i < bs.length := by omega
    rw [impl_Apply.l0, if_pos (by omega), if_pos (by omega), Int.toNat_natCast, getD_at hi, wrap_nat (by omega)]
    obtain ⟨M', e1, e2⟩ := ih k (i + 1) (mset M bs[i].var bs[i].term) (by omega) (by omega) (by omega) (fun v => by
      rw [mget_mset, List.take_add_one, List.getElem?_eq_getElem hi, lk_app, h4 v]
      by_cases hv : v = bs[i].var
      · rw [if_pos hv, lk_none (bs.take i) v (fun b hb => ?_)]
        · simp [lk, hv]
        · obtain ⟨j, hj, rfl⟩ := List.getElem_of_mem hb
          rw [List.length_take] at hj
          rw [List.getElem_take]
          have := (h i hi).2.2.2 j (by omega)
          omega
      · rw [if_neg hv]
        have : ¬ bs[i].var = v := fun q => hv q.symm
        simp [lk, this])
    exact ⟨M', by rw [e1]; congr 1; omega, e2⟩
theorem impl_apply (bs : List Binding) (t : List Cell) (M : List (Int × List Cell)) (h : OkSub bs) (hM : ∀ v, mget M v = lk bs v) (ht : t.length ≤ 2000) (hok : ∀ c, c ∈ t → Okc c) : ∀ (m k i : Nat) (out : List Cell), t.length - i = m → i ≤ t.length → m + 500000 < k → out.length ≤ 2000 → impl_Apply.l1 k t M out (i : Int) = some (apl bs (t.drop i) out) := by
  intro m
  induction m with
  | zero =>
    intro k i out h1 h2 h3 h4
    obtain ⟨k, rfl⟩ : ∃ q, k = q + 1 := ⟨k - 1, by omega⟩
    rw [impl_Apply.l1, if_neg (by omega), List.drop_of_length_le (by omega)]; rfl
  | succ m ih =>
    intro k i out h1 h2 h3 h4
    obtain ⟨k, rfl⟩ : ∃ q, k = q + 1 := ⟨k - 1, by omega⟩
    have hi : i < t.length := by omega
    have hci := hok _ (List.getElem_mem hi)
    have htx := hci.text
    rw [impl_Apply.l1, if_pos (by omega), if_pos (by omega), Int.toNat_natCast, getD_at hi, List.drop_eq_getElem_cons hi, apl, wrap_nat (by omega), hM]
    have one : (if 0 + t[i].text.length ≤ 140737488355328 then (if out.length + 1 ≤ 3518437208883 then (if ((out ++ [t[i]]).length : Int) > 2000 then some ([], 3) else impl_Apply.l1 k t M (out ++ [t[i]]) ((i + 1 : Nat) : Int)) else none) else none) = if ((out ++ [t[i]]).length : Int) > 2000 then some (([] : List Cell), (3 : Int)) else some (apl bs (t.drop (i + 1)) (out ++ [t[i]])) := by
      rw [if_pos (by omega), if_pos (by omega)]
      split
      · rfl
      · exact ih k (i + 1) _ (by omega) (by omega) (by omega) (by omega)
    cases hl : lk bs t[i].n with
    | none =>
      have hrep : rep bs t[i] = [t[i]] := by
        unfold rep; split
        · rw [hl]; rfl
        · rfl
      rw [if_neg (by simp), one, hrep]
      split <;> rfl
    | some u =>
      rw [if_pos (by simp)]
      by_cases hk : t[i].kind = 0
      · have hrep : rep bs t[i] = u := by unfold rep; rw [if_pos hk, hl]; rfl
        obtain ⟨b1, w, rfl, b3⟩ := (okT_iff u).1 (lk_ok h hl)
        rw [if_pos hk, Option.getD_some, tree_flat w k b3 b1 (by omega), Option.bind_some, cells_flat w k b3 (by omega) (by omega), Option.bind_some, if_pos (by omega), hrep]
        split
        · rfl
        · exact ih k (i + 1) _ (by omega) (by omega) (by omega) (by omega)
      · have hrep : rep bs t[i] = [t[i]] := by unfold rep; rw [if_neg hk]
        rw [if_neg hk, one, hrep]
        split <;> rfl
theorem apply_eq (bs : List Binding) (xs : List Cell) (k : Nat) (hb : ∀ x, x ∈ bs → x.term.length ≤ 1048576) (hx : xs.length ≤ 1048576) (hk : 3000000 < k) : ∃ r : List Cell × Int, impl_Apply.f k bs xs = some r ∧ spec_Apply.f k bs xs = some r ∧ wCells r.1 ≤ 1048576 := by
  have w0 : wCells ([] : List Cell) ≤ 1048576 := by simp [wCells, wts]
  obtain ⟨b, e1, e2, e3⟩ := sub_ok bs k hb (by omega)
  rw [impl_Apply.f, spec_Apply.f, e1, e2, Option.bind_some, Option.bind_some]
  cases b with
  | false => exact ⟨([], 1), rfl, rfl, w0⟩
  | true =>
    obtain ⟨hl, hs⟩ := e3 rfl
    simp only [valid_val xs k (by omega) (by omega), valid_val' xs k (by omega) (by omega), Option.bind_some, eq_self, not_true_eq_false, if_false]
    cases hv : okT xs with
    | false => exact ⟨([], 1), rfl, rfl, w0⟩
    | true =>
      obtain ⟨a1, t, rfl, a3⟩ := (okT_iff xs).1 hv
      have hok := flat_ok t a3
      simp only [eq_self, not_true_eq_false, if_false]
      obtain ⟨M', f1, f2⟩ := impl_map bs (flat t) hl hs bs.length k 0 [] rfl (by omega) (by omega) (fun v => by simp [mget, lk])
      have g1 := impl_apply bs (flat t) M' hs f2 a1 hok (flat t).length (k - bs.length - 1) 0 [] rfl (by omega) (by omega) (by simp)
      have g2 := spec_apply bs (flat t) hl hs a1 hok (flat t).length k 0 [] rfl (by omega) (by omega) (by simp)
      rw [show ((0 : Nat) : Int) = 0 from rfl] at f1 g1 g2
      rw [List.drop_zero] at g1 g2
      obtain ⟨q1, q2⟩ := apl_ok bs hs (flat t) [] hok (fun c hc => by cases hc) (by simp)
      have := wCells_ok q2
      exact ⟨apl bs (flat t) [], by rw [f1, g1], g2, by omega⟩
theorem apply_true (bs : List Binding) (xs : List Cell) (lb : bs.length ≤ 9223372036854775807) (hb : ∀ x, x ∈ bs → x.term.length ≤ 9223372036854775807 ∧ ∀ c, c ∈ x.term → c.text.length ≤ 9223372036854775807) (lx : xs.length ≤ 9223372036854775807) (hx : ∀ c, c ∈ xs → c.text.length ≤ 9223372036854775807) : laws_FnExactApply.f 5000000 bs xs = some true := by
  rw [laws_FnExactApply.f, szBindingS_val bs _ _ (by omega) (by omega) lb hb (by omega), Option.bind_some]
  by_cases h1 : left 1048576 (wBs bs) < 0
  · rw [if_pos h1]
  have q1 := left_le h1
  rw [if_neg h1, szCellS_val xs _ _ q1.2.1 (by omega) lx hx (by omega), Option.bind_some]
  by_cases h2 : left (left 1048576 (wBs bs)) (wCells xs) < 0
  · rw [if_pos h2]
  have q2 := left_le h2
  have w1 : wBs bs ≤ 1048576 := by omega
  have w2 : wCells xs ≤ 1048576 := by omega
  obtain ⟨r, e1, e2, e3⟩ := apply_eq bs xs 5000000 (fun x hx => wCells_len (wBs_mem w1 hx)) (wCells_len w2) (by omega)
  obtain ⟨m, ms, m1, m2, m3⟩ := markBindingS_val bs 5000000 1 w1 (by omega) (by omega) (by omega)
  have hws := wts2 xs
  have hws2 := wts2 r.1
  obtain ⟨ys, n1, n2, n3⟩ := markCellS_val xs 5000000 m w2 (by omega) (by omega) (by omega)
  obtain ⟨zs, p1, p2, p3⟩ := markCellS_val r.1 5000000 1 e3 (by omega) (by omega) (by omega)
  obtain ⟨o1, o2⟩ := heldCellS_val zs 5000000 1 _ (by rw [p2]; exact wCells_len e3) (by omega) (by omega) p3
  rw [if_neg h2, toBindingS_id bs _ w1 (by omega), toCellS_id xs _ w2 (by omega)]
  simp only [Option.bind_some, e1, e2, eqCellS_id r.1 5000000 e3 (by omega), eqCellS_id xs 5000000 w2 (by omega), eqBindingS_id bs 5000000 w1 (by omega), m1, n1, p1, o1]
  rw [if_neg (by simp), if_neg (by simp), if_neg (by simp), if_neg (by simp), if_neg (by omega), if_neg (by simp), if_neg (by omega), if_neg (by simp), if_neg (by simp), if_neg (by simp), if_neg (by omega), if_neg (by simp)]
end Go.Proofs.Ytognefkopbbdnaa
