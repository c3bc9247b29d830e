import Derived.Test.YtognefkopbbdnaaWkRn2
import Derived.Test.YtognefkopbbdnaaZ2
namespace Go.Proofs.Ytognefkopbbdnaa
open Go.Sx Go.Sy
set_option linter.unusedVariables false
set_option linter.unusedSimpArgs false
set_option linter.unusedSectionVars false
set_option maxRecDepth 4000
/-! ### sizes, copies, equality: cells -/
theorem left_m1 {b : Int} {n : Nat} (h : left b n < 0) : left b n = -1 := by unfold left at *; split <;> (split at h <;> first | rfl | omega)
theorem szByteS_val (xs : List UInt8) (b : Int) (h0 : 0 ≤ b) (h1 : b ≤ 1048576) (hl : xs.length ≤ 9223372036854775807) : laws_szByteS.f xs b = some (left b xs.length) := by
  rw [laws_szByteS.f]; exact sz0 h0 h1 hl
theorem szCell_val (x : Cell) (b : Int) (h0 : 0 ≤ b) (h1 : b ≤ 1048576) (hl : x.text.length ≤ 9223372036854775807) : laws_szCell.f x b = some (left b x.text.length) := by
  rw [laws_szCell.f, szByteS_val _ _ h0 h1 hl, Option.bind_some]
  split
  · rename_i h; rw [left_m1 h]
  · rfl
theorem szCellS_val (xs : List Cell) (k : Nat) (b : Int) (h0 : 0 ≤ b) (h1 : b ≤ 1048576) (hl : xs.length ≤ 9223372036854775807) (ht : ∀ c, c ∈ xs → c.text.length ≤ 9223372036854775807) (hk : 1048577 < k) :
    laws_szCellS.f k xs b = some (left b (wCells xs)) := by
  rw [laws_szCellS.f]
  refine szT h0 h1 hl fun h => ?_
  have hq := left_le h
  rw [left_wrap h0 h1 hl h]
  exact szL (B := 0) (z := z68) (fun x => x.text.length) (fun k b i => laws_szCellS.l0 k xs b i) (fun _ => laws_szCell.f) (fun _ _ _ => rfl) (by omega) (fun x hx _ _ b q0 q1 => szCell_val x b q0 q1 (ht x hx)) k (by omega) _ (by omega) (by omega)
theorem toByteS_id (xs : List UInt8) (k : Nat) (hl : xs.length ≤ 1048576) (hk : xs.length < k) : laws_toByteS.f k xs = some xs := by
  rw [laws_toByteS.f, if_pos (by omega), if_pos (by omega)]
  exact toF (z := 0) (fun k i ys => laws_toByteS.l0 k xs i ys) (fun _ _ _ => rfl) (by omega) k hk _ (by simp)
theorem toCell_id (x : Cell) (k : Nat) (hl : x.text.length ≤ 1048576) (hk : 1048577 ≤ k) : laws_toCell.f k x = some x := by
  rw [laws_toCell.f, toByteS_id _ k hl (by omega)]; rfl
theorem wCells_len {xs : List Cell} {n : Nat} (hl : wCells xs ≤ n) : xs.length ≤ n := Nat.le_trans (Nat.le_add_right _ _) hl
theorem wCells_mem {xs : List Cell} {n : Nat} (hl : wCells xs ≤ n) {x : Cell} (hx : x ∈ xs) : x.text.length ≤ n := Nat.le_trans (Nat.le_trans (wts_mem (fun x : Cell => x.text.length) hx) (Nat.le_add_left _ _)) hl
theorem toCellS_id (xs : List Cell) (k : Nat) (hl : wCells xs ≤ 1048576) (hk : 2097154 < k) : laws_toCellS.f k xs = some xs := by
  have hl2 := wCells_len hl
  rw [laws_toCellS.f, if_pos (by omega), if_pos (by omega)]
  exact toL (z := z68) (B := 1048577) (fun k i ys => laws_toCellS.l0 k xs i ys) laws_toCell.f (fun _ _ _ => rfl) (by omega) (fun x hx k hk => toCell_id x k (wCells_mem hl hx) hk) k (by omega) _ (by simp)
theorem eqByteS_id (xs : List UInt8) (k : Nat) (hl : xs.length ≤ 1048576) (hk : xs.length < k) : laws_eqByteS.f k xs xs = some true := by
  rw [laws_eqByteS.f, if_neg (by simp)]
  exact eqF (z := 0) (fun k i => laws_eqByteS.l0 k xs xs i) (fun _ _ => rfl) (by omega) k hk
theorem eqCell_id (x : Cell) (k : Nat) (hl : x.text.length ≤ 1048576) (hk : 1048577 ≤ k) : laws_eqCell.f k x x = some true := by
  rw [laws_eqCell.f, if_neg (by simp), if_neg (by simp), eqByteS_id _ k hl (by omega), Option.bind_some, if_neg (by simp)]
theorem eqCellS_id (xs : List Cell) (k : Nat) (hl : wCells xs ≤ 1048576) (hk : 2097154 < k) : laws_eqCellS.f k xs xs = some true := by
  have hl2 := wCells_len hl
  rw [laws_eqCellS.f, if_neg (by simp)]
  exact eqL (z := z65) (z' := z65) (B := 1048577) (fun k i => laws_eqCellS.l0 k xs xs i) laws_eqCell.f (fun _ _ => rfl) (by omega) (fun x hx k hk => eqCell_id x k (wCells_mem hl hx) hk) k (by omega)
/-! ### marks -/
def PB (n m : Int) (x : UInt8) : Prop := m = n + 1 ∧ x = b8 n
theorem markByteS_val (xs : List UInt8) (k : Nat) (n : Int) (hl : xs.length ≤ 1048576) (hk : 1048577 < k) (h0 : 0 ≤ n) (hn : n ≤ 8000000000000000000) :
    ∃ ys, laws_markByteS_2.f k xs n = some (n + (xs.length : Int), ys) ∧ ys.length = xs.length ∧ HL PB n (n + (xs.length : Int)) ys := by
  rw [laws_markByteS_2.f]
  have e : wts (fun _ : UInt8 => 1) xs = xs.length := by
    induction xs with
    | nil => rfl
    | cons x xs ih => rw [wts_cons, ih (by simp at hl; omega), List.length_cons]; omega
  have := markL (U := 9000000000000000000) (P := PB) (B := 0) (z := (0 : UInt8)) (w := fun _ => 1) (xs := xs) (fun k n i ys => laws_markByteS_2.l0 k xs n i ys) (fun _ _ n => if n + 1 ≤ 9000000000000000000 ∧ 0 ≤ n then some (n + 1, b8 n) else some (IntKind.i64.wrap (n + 1), b8 n))
    (fun k n i ys hi hy => by
      show laws_markByteS_2.l0 (k + 1) xs n i ys = _
      rw [laws_markByteS_2.l0, if_pos (by omega), if_pos (by omega), Int.toNat_natCast]
      by_cases hh : n + 1 ≤ 9000000000000000000 ∧ 0 ≤ n
      · rw [if_pos hh, Option.bind_some, wrap_id (n := n + 1) (by omega) (by omega)]
      · rw [if_neg hh, Option.bind_some])
    (fun k n ys => by
      show laws_markByteS_2.l0 (k + 1) xs n xs.length ys = _
      rw [laws_markByteS_2.l0, if_neg (by omega)])
    (by omega) (fun x _ k _ n q0 q1 => ⟨b8 n, by rw [if_pos ⟨q1, q0⟩]; rfl, rfl, rfl⟩) k (by omega) n h0 (by rw [e]; omega)
  rw [e] at this
  exact this
def PC (n m : Int) (c : Cell) : Prop := c.kind = n ∧ c.n = n + 1 ∧ HL PB (n + 2) m c.text ∧ c.text.length ≤ 1048576 ∧ m ≤ 9000000000000000000
theorem getD_set_self {α : Type} {ys : List α} {i : Nat} {x z : α} (h : i < ys.length) : (ys.set i x).getD i z = x := by
  rw [List.getD_eq_getElem?_getD, List.getElem?_set_self h]; rfl
theorem markCellS_val (xs : List Cell) (k : Nat) (n : Int) (hl : wCells xs ≤ 1048576) (hk : 2097155 < k) (h0 : 0 ≤ n) (hn : n + (wts (fun x : Cell => 2 + x.text.length) xs : Int) ≤ 8000000000000000000) :
    ∃ ys, laws_markCellS_2.f k xs n = some (n + (wts (fun x : Cell => 2 + x.text.length) xs : Int), ys) ∧ ys.length = xs.length ∧ HL PC n (n + (wts (fun x : Cell => 2 + x.text.length) xs : Int)) ys := by
  have hl2 := wCells_len hl
  rw [laws_markCellS_2.f]
  refine markL (U := 8000000000000000000) (P := PC) (B := 1048578) (z := z65) (w := fun x => 2 + x.text.length) (xs := xs) (fun k n i ys => laws_markCellS_2.l0 k xs n i ys)
    (fun k c n => (laws_markByteS_2.f k c.text (IntKind.i64.wrap (IntKind.i64.wrap (n + 1) + 1))).bind fun t => some (t.1, ⟨n, IntKind.i64.wrap (n + 1), t.2⟩)) ?_ ?_ (by omega) ?_ k (by omega) n h0 (by omega)
  · intro k n i ys hi hy
    show laws_markCellS_2.l0 (k + 1) xs n i ys = _
    rw [laws_markCellS_2.l0, if_pos (by omega), if_pos (by omega), Int.toNat_natCast]
    have e1 : i < (ys.set i { ys.getD i z65 with kind := n }).length := by rw [List.length_set]; exact hi
    simp only [getD_set_self hi, List.set_set, getD_set_self e1]
    cases laws_markByteS_2.f k (ys.getD i z65).text (IntKind.i64.wrap (IntKind.i64.wrap (n + 1) + 1)) <;> rfl
  · intro k n ys
    show laws_markCellS_2.l0 (k + 1) xs n xs.length ys = _
    rw [laws_markCellS_2.l0, if_neg (by omega)]
  · intro x hx k hk n q0 q1
    rw [wrap_id (n := n + 1) (by omega) (by omega), wrap_id (n := n + 1 + 1) (by omega) (by omega)]
    obtain ⟨ys, e1, e2, e3⟩ := markByteS_val x.text k (n + 1 + 1) (wCells_mem hl hx) (by omega) (by omega) (by omega)
    rw [e1, Option.bind_some]
    have e : n + 1 + 1 + (x.text.length : Int) = n + ((2 + x.text.length : Nat) : Int) := by omega
    refine ⟨⟨n, n + 1, ys⟩, by rw [e], rfl, rfl, ?_, by rw [e2]; exact wCells_mem hl hx, by omega⟩
    rw [← e]
    exact (show n + 2 = n + 1 + 1 by omega) ▸ e3
theorem heldByteS_val (xs : List UInt8) (k : Nat) (n m : Int) (hl : xs.length ≤ 1048576) (hk : 1048577 < k) (h0 : 0 ≤ n) (hm : m ≤ 9000000000000000000) (h : HL PB n m xs) : laws_heldByteS.f k xs n = some m ∧ n ≤ m := by
  rw [laws_heldByteS.f]
  have key : ∀ (q k i : Nat) (n : Int), xs.length - i = q → i ≤ xs.length → q < k → 0 ≤ n → HL PB n m (xs.drop i) → laws_heldByteS.l0 k xs n (i : Int) = some m ∧ n ≤ m := by
    intro q
    induction q with
    | zero =>
      intro k i n h1 h2 h3 h4 h5
      obtain ⟨k, rfl⟩ : ∃ q, k = q + 1 := ⟨k - 1, by omega⟩
      rw [List.drop_of_length_le (by omega)] at h5
      cases h5
      rw [laws_heldByteS.l0, if_neg (by omega)]
      exact ⟨rfl, Int.le_refl _⟩
    | succ q ih =>
      intro k i n h1 h2 h3 h4 h5
      obtain ⟨k, rfl⟩ : ∃ q, k = q + 1 := ⟨k - 1, by omega⟩
      have hi : i < xs.length := by omega
      rw [List.drop_eq_getElem_cons hi] at h5
      cases h5 with
      | cons p hr =>
        obtain ⟨rfl, p2⟩ := p
        have hle : n + 1 ≤ m := hr.le (fun _ _ _ h => by have := h.1; omega)
        rw [laws_heldByteS.l0, if_pos (by omega), if_pos (by omega), Int.toNat_natCast, getD_at hi, p2, if_neg (by simp), wrap_nat (by omega), wrap_id (n := n + 1) (by omega) (by omega)]
        obtain ⟨f1, f2⟩ := ih k (i + 1) (n + 1) (by omega) (by omega) (by omega) (by omega) hr
        exact ⟨f1, by omega⟩
  exact key xs.length k 0 n rfl (by omega) (by omega) h0 h
theorem heldCellS_val (xs : List Cell) (k : Nat) (n m : Int) (hl : xs.length ≤ 1048576) (hk : 2097155 < k) (h0 : 0 ≤ n) (h : HL PC n m xs) : laws_heldCellS.f k xs n = some m ∧ n ≤ m := by
  rw [laws_heldCellS.f]
  refine heldL (P := PC) (B := 1048578) (z := z65) (fun k n i => laws_heldCellS.l0 k xs n i) (fun k c n => if c.kind ≠ n then some (-1) else if c.n ≠ IntKind.i64.wrap (n + 1) then some (-1) else laws_heldByteS.f k c.text (IntKind.i64.wrap (IntKind.i64.wrap (n + 1) + 1))) ?_ (by omega) ?_ k (by omega) n h0 h
  · intro k n i
    show laws_heldCellS.l0 (k + 1) xs n i = _
    rw [laws_heldCellS.l0]
    split
    · split
      · generalize xs.getD i.toNat z65 = c
        by_cases h1 : c.kind ≠ n
        · rw [if_pos h1, if_pos h1, Option.bind_some, if_pos (by omega)]
        · rw [if_neg h1, if_neg h1]
          by_cases h2 : c.n ≠ IntKind.i64.wrap (n + 1)
          · rw [if_pos h2, if_pos h2, Option.bind_some, if_pos (by omega)]
          · rw [if_neg h2, if_neg h2]
      · rfl
    · rfl
  · intro n m c _ p h0 k hk
    obtain ⟨p1, p2, p3, p4, p5⟩ := p
    have hle := p3.le (fun _ _ _ h => by have := h.1; omega)
    rw [wrap_id (n := n + 1) (by omega) (by omega), wrap_id (n := n + 1 + 1) (by omega) (by omega), if_neg (by omega), if_neg (by omega)]
    obtain ⟨f1, f2⟩ := heldByteS_val c.text k (n + 1 + 1) m p4 (by omega) (by omega) p5 ((show n + 2 = n + 1 + 1 by omega) ▸ p3)
    exact ⟨f1, by omega⟩
/-! ### terms that are valid -/
instance (c : Cell) : Decidable (Okc c) := by unfold Okc; infer_instance
theorem l2cell_val (c : Cell) : spec_l2cell.f c = some (decide (Okc c)) := by
  have e : ∀ l : List UInt8, (l.length : Int) = 0 ↔ l = [] := fun l => ⟨fun hl => List.eq_nil_of_length_eq_zero (by omega), fun h => by rw [h]; rfl⟩
  unfold spec_l2cell.f
  simp only [e]
  repeat' split
  all_goals refine congrArg some ?_
  all_goals first
    | (rw [eq_comm, decide_eq_false_iff_not]; unfold Okc; omega)
    | (rw [eq_comm, decide_eq_true_iff]; unfold Okc; omega)
    | (refine decide_eq_decide.2 ?_; unfold Okc; omega)
    | (refine decide_eq_decide.2 ?_; unfold Okc; simp only [*]; simp; try omega)
    | (rw [eq_comm, decide_eq_false_iff_not]; unfold Okc; simp only [*]; simp; try omega)
theorem cellOk_val (c : Cell) : impl_cellOk.f c = some (decide (Okc c)) := by
  have e : ∀ l : List UInt8, (l.length : Int) = 0 ↔ l = [] := fun l => ⟨fun hl => List.eq_nil_of_length_eq_zero (by omega), fun h => by rw [h]; rfl⟩
  unfold impl_cellOk.f
  simp only [e]
  repeat' split
  all_goals refine congrArg some ?_
  all_goals first
    | (rw [eq_comm, decide_eq_false_iff_not]; unfold Okc; omega)
    | (rw [eq_comm, decide_eq_true_iff]; unfold Okc; omega)
    | (refine decide_eq_decide.2 ?_; unfold Okc; omega)
    | (refine decide_eq_decide.2 ?_; unfold Okc; simp only [*]; simp; try omega)
    | (rw [eq_comm, decide_eq_false_iff_not]; unfold Okc; simp only [*]; simp; try omega)
theorem valid_l0 (xs : List Cell) (hl : xs.length < 9223372036854775807) : ∀ (m k i : Nat) (n : Int), xs.length - i = m → i ≤ xs.length → m < k → impl_ValidTerm.l0 k xs n (i : Int) = spec_ValidTerm.l0 k xs n (i : Int) ∧ ∃ b, spec_ValidTerm.l0 k xs n (i : Int) = some b := by
  intro m
  induction m with
  | zero =>
    intro k i n h1 h2 h3
    obtain ⟨k, rfl⟩ : ∃ q, k = q + 1 := ⟨k - 1, by omega⟩
    rw [impl_ValidTerm.l0, spec_ValidTerm.l0, if_neg (by omega), if_neg (by omega)]
    exact ⟨rfl, _, rfl⟩
  | succ m ih =>
    intro k i n h1 h2 h3
    obtain ⟨k, rfl⟩ : ∃ q, k = q + 1 := ⟨k - 1, by omega⟩
    rw [impl_ValidTerm.l0, spec_ValidTerm.l0, if_pos (show (i : Int) < (xs.length : Int) by omega), if_pos (show (0 : Int) ≤ (i : Int) by omega), if_pos (show (i : Int) < (xs.length : Int) by omega), wrap_nat (by omega)]
    by_cases hn : n = 0
    · rw [if_pos hn, if_pos hn]; exact ⟨rfl, _, rfl⟩
    · rw [if_neg hn, if_neg hn, if_pos (show (0 : Int) ≤ (i : Int) by omega), l2cell_val, cellOk_val, Option.bind_some, Option.bind_some]
      split
      · exact ⟨rfl, _, rfl⟩
      · split
        · exact ih k (i + 1) _ (by omega) (by omega) (by omega)
        · exact ih k (i + 1) _ (by omega) (by omega) (by omega)
theorem valid_eq (xs : List Cell) (k : Nat) (hl : xs.length < 9223372036854775807) (hk : xs.length < k) : impl_ValidTerm.f k xs = spec_ValidTerm.f k xs ∧ ∃ b, spec_ValidTerm.f k xs = some b := by
  rw [impl_ValidTerm.f, spec_ValidTerm.f]
  split
  · exact ⟨rfl, _, rfl⟩
  · exact valid_l0 xs hl xs.length k 0 1 rfl (by omega) hk
theorem valid_trees (xs : List Cell) (hl : xs.length ≤ 2000) : ∀ (m k i n : Nat), xs.length - i = m → i ≤ xs.length → n ≤ 1 + 20 * i → spec_ValidTerm.l0 k xs (n : Int) (i : Int) = some true →
    ∃ ts, ts.length = n ∧ flats ts = xs.drop i ∧ Wfs ts := by
  intro m
  induction m with
  | zero =>
    intro k i n h1 h2 h3 h
    obtain ⟨k, rfl⟩ : ∃ q, k = q + 1 := by
      cases k with
      | zero => rw [spec_ValidTerm.l0] at h; cases h
      | succ q => exact ⟨q, rfl⟩
    rw [spec_ValidTerm.l0, if_neg (by omega)] at h
    have h0 : n = 0 := by simpa using h
    exact ⟨[], by simp [h0], by rw [List.drop_of_length_le (by omega)]; simp [flats], by simp [Wfs]⟩
  | succ m ih =>
    intro k i n h1 h2 h3 h
    obtain ⟨k, rfl⟩ : ∃ q, k = q + 1 := by
      cases k with
      | zero => rw [spec_ValidTerm.l0] at h; cases h
      | succ q => exact ⟨q, rfl⟩
    have hi : i < xs.length := by omega
    rw [spec_ValidTerm.l0, if_pos (by omega), Int.toNat_natCast, getD_at hi, wrap_nat (by omega), l2cell_val] at h
    by_cases hn : (n : Int) = 0
    · rw [if_pos hn] at h; simp at h
    rw [if_neg hn, if_pos (by omega), Option.bind_some] at h
    by_cases hb : Okc xs[i]
    · rw [if_neg (by simpa using hb), wrap_id (n := (n : Int) - 1) (by omega) (by omega)] at h
      by_cases hk : xs[i].kind = 3
      · obtain ⟨p1, p2⟩ := hb.n3 hk
        rw [if_pos hk, wrap_id (n := (n : Int) - 1 + xs[i].n) (by omega) (by omega), show (n : Int) - 1 + xs[i].n = ((n - 1 + xs[i].n.toNat : Nat) : Int) by omega] at h
        obtain ⟨ts, e1, e2, e3⟩ := ih k (i + 1) (n - 1 + xs[i].n.toNat) (by omega) (by omega) (by omega) h
        refine ⟨Tm.mk xs[i].kind xs[i].n xs[i].text (ts.take xs[i].n.toNat) :: ts.drop xs[i].n.toNat, by simp; omega, ?_, ?_⟩
        · rw [List.drop_eq_getElem_cons hi, ← e2]
          conv => rhs; rw [← List.take_append_drop xs[i].n.toNat ts]
          rw [flats_append]
          simp [flats, flat]
        · rw [← List.take_append_drop xs[i].n.toNat ts, Wfs_append] at e3
          simp only [Wfs, Wf]
          exact ⟨⟨hb, fun _ => by rw [List.length_take]; omega, fun h => absurd hk h, e3.1⟩, e3.2⟩
      · rw [if_neg hk, show (n : Int) - 1 = ((n - 1 : Nat) : Int) by omega] at h
        obtain ⟨ts, e1, e2, e3⟩ := ih k (i + 1) (n - 1) (by omega) (by omega) (by omega) h
        refine ⟨Tm.mk xs[i].kind xs[i].n xs[i].text [] :: ts, by simp; omega, ?_, ?_⟩
        · rw [List.drop_eq_getElem_cons hi, ← e2]; simp [flats, flat]
        · simp only [Wfs, Wf]
          exact ⟨⟨hb, fun h => absurd h hk, fun _ => trivial, trivial⟩, e3⟩
    · rw [if_pos (by simpa using hb)] at h; simp at h
theorem valid_tree (xs : List Cell) (k : Nat) (h : spec_ValidTerm.f k xs = some true) : xs.length ≤ 2000 ∧ ∃ t, flat t = xs ∧ Wf t := by
  rw [spec_ValidTerm.f] at h
  split at h
  · simp at h
  · rename_i hl
    have hl' : xs.length ≤ 2000 := by omega
    obtain ⟨ts, e1, e2, e3⟩ := valid_trees xs hl' xs.length k 0 1 rfl (by omega) (by omega) h
    refine ⟨hl', ?_⟩
    match ts, e1, e2, e3 with
    | [t], _, e2, e3 =>
      refine ⟨t, by simpa [flats] using e2, ?_⟩
      simp only [Wfs] at e3
      exact e3.1
theorem valid_flats (xs : List Cell) (hx : xs.length ≤ 2000) : ∀ (m k i e : Nat) (us : List Tm) (r : List Cell), (flats us).length = m → Wfs us → xs.drop i = flats us ++ r → us.length + e ≤ 100000 → e ≤ 50000 →
    spec_ValidTerm.l0 (k + m) xs ((us.length + e : Nat) : Int) (i : Int) = spec_ValidTerm.l0 k xs (e : Int) ((i + m : Nat) : Int) := by
  intro m
  induction m with
  | zero =>
    intro k i e us r h1 hw hd h2 h3
    cases us with
    | nil => simp
    | cons t us => have := flat_pos t; simp only [flats, List.length_append] at h1; omega
  | succ m ih =>
    intro k i e us r h1 hw hd h2 h3
    cases us with
    | nil => simp [flats] at h1
    | cons t us =>
      obtain ⟨kd, n, s, vs⟩ := t
      simp only [Wfs, Wf] at hw
      obtain ⟨⟨w0, w1, w2, w3⟩, w4⟩ := hw
      have hi : i < xs.length := by
        rcases Nat.lt_or_ge i xs.length with h | h
        · exact h
        · rw [List.drop_of_length_le h] at hd; simp [flats, flat] at hd
      have hc : xs[i] = ⟨kd, n, s⟩ := by
        rw [List.drop_eq_getElem_cons hi] at hd
        simp only [flats, flat, List.cons_append] at hd
        exact (List.cons.inj hd).1
      have hd2 : xs.drop (i + 1) = flats (vs ++ us) ++ r := by
        rw [List.drop_eq_getElem_cons hi] at hd
        simp only [flats, flat, List.cons_append] at hd
        rw [(List.cons.inj hd).2, flats_append]
      have hm : (flats (vs ++ us)).length = m := by
        simp only [flats, flat, List.cons_append, List.length_cons] at h1
        rw [flats_append]; omega
      have hl : (flats (vs ++ us)).length ≤ 2000 := by
        have := congrArg List.length hd2
        rw [List.length_drop, List.length_append] at this; omega
      have hlen := flats_len (vs ++ us)
      rw [show k + (m + 1) = (k + m) + 1 by omega, spec_ValidTerm.l0, if_pos (by omega), if_neg (by simp; omega), if_pos (by omega), Int.toNat_natCast, getD_at hi, hc, wrap_nat (by omega), l2cell_val, Option.bind_some, if_neg (by simpa using w0)]
      have := ih k (i + 1) e (vs ++ us) r hm ((Wfs_append _ _).2 ⟨w3, w4⟩) hd2 (by omega) h3
      rw [show i + (m + 1) = i + 1 + m by omega, ← this]
      simp only [List.length_cons, List.length_append] at hlen h2 ⊢
      by_cases hk : kd = 3
      · have hn := w1 hk
        rw [if_pos hk, wrap_id (n := ((us.length + 1 + e : Nat) : Int) - 1) (by omega) (by omega), wrap_id (by omega) (by omega)]
        congr 1
        omega
      · rw [if_neg hk, wrap_id (by omega) (by omega)]
        have : vs = [] := w2 hk
        subst this
        congr 1
        simp; omega
/-- the cells of a term that is valid -/
noncomputable def okT (xs : List Cell) : Bool := @decide (xs.length ≤ 2000 ∧ ∃ t, flat t = xs ∧ Wf t) (Classical.propDecidable _)
theorem okT_iff (xs : List Cell) : okT xs = true ↔ (xs.length ≤ 2000 ∧ ∃ t, flat t = xs ∧ Wf t) := by unfold okT; exact @decide_eq_true_iff _ (Classical.propDecidable _)
theorem valid_val (xs : List Cell) (k : Nat) (hl : xs.length < 9223372036854775807) (hk : xs.length < k) : spec_ValidTerm.f k xs = some (okT xs) := by
  obtain ⟨_, b, e⟩ := valid_eq xs k hl hk
  cases b with
  | true => rw [e, (okT_iff xs).2 (valid_tree xs k e)]
  | false =>
    rw [e]
    by_cases h : okT xs = true
    · obtain ⟨h1, t, rfl, hw⟩ := (okT_iff xs).1 h
      exfalso
      rw [spec_ValidTerm.f, if_neg (by omega)] at e
      obtain ⟨k, rfl⟩ : ∃ q, k = q + 1 + (flat t).length := ⟨k - 1 - (flat t).length, by omega⟩
      have := valid_flats (flat t) h1 (flat t).length (k + 1) 0 0 [t] [] (by simp [flats]) (by simp [Wfs, hw]) (by simp [flats]) (by simp) (by omega)
      rw [show (([t].length + 0 : Nat) : Int) = 1 from rfl, show ((0 : Nat) : Int) = 0 from rfl] at this
      rw [this, spec_ValidTerm.l0, if_neg (by omega)] at e
      simp at e
    · rw [show okT xs = false by simpa using h]
theorem valid_val' (xs : List Cell) (k : Nat) (hl : xs.length < 9223372036854775807) (hk : xs.length < k) : impl_ValidTerm.f k xs = some (okT xs) := by
  rw [(valid_eq xs k hl hk).1, valid_val xs k hl hk]
theorem okT_all : ∀ (xs : List (List Cell)), xs.all okT = true → ∃ us : List Tm, us.map flat = xs ∧ Wfs us
  | [], _ => ⟨[], rfl, by simp [Wfs]⟩
  | x :: xs, h => by
    rw [List.all_cons, Bool.and_eq_true] at h
    obtain ⟨_, t, rfl, hw⟩ := (okT_iff x).1 h.1
    obtain ⟨us, rfl, hws⟩ := okT_all xs h.2
    exact ⟨t :: us, rfl, by simp only [Wfs]; exact ⟨hw, hws⟩⟩
/-! ### cells to trees -/
mutual
theorem from_flat : ∀ (t : Tm) (k : Nat) (r : List Cell), Wf t → 3 * (flat t).length < k → (flat t).length + r.length ≤ 2000 → impl_fromCells.f k (flat t ++ r) = some (t, r)
  | .mk kd n s us, k, r, hw, hk, hl => by
    obtain ⟨k, rfl⟩ : ∃ q, k = q + 1 := ⟨k - 1, by omega⟩
    simp only [flat, List.length_cons] at hk hl
    simp only [Wf] at hw
    obtain ⟨w0, w1, w2, w6⟩ := hw
    have e0 : flat (Tm.mk kd n s us) ++ r = ⟨kd, n, s⟩ :: (flats us ++ r) := by simp [flat]
    rw [e0, impl_fromCells.f, if_pos (by simp; omega), if_pos (by simp; omega), drop1]
    show (if kd = 3 then impl_fromCells.l0 k _ _ 0 [] else some (Tm.mk kd n s [], flats us ++ r)) = _
    by_cases h : kd = 3
    · rw [if_pos h]
      have a3 := w1 h
      have ⟨a1, a2⟩ := w0.n3 h
      have a1 : 1 ≤ n := a1
      have a2 : n ≤ 20 := a2
      have := from_flats us k ⟨kd, n, s⟩ (flats us ++ r) r [] w6 (by omega) (by omega) (by simp; omega) (by simp; omega)
      simpa using this
    · rw [if_neg h, w2 h]; simp [flats]
theorem from_flats : ∀ (us : List Tm) (k : Nat) (c : Cell) (z r : List Cell) (acc : List Tm), Wfs us → 3 * (flats us).length + 1 < k → (flats us).length + r.length ≤ 2000 → ((acc.length + us.length : Nat) : Int) = c.n → acc.length + us.length ≤ 20 →
    impl_fromCells.l0 k (c :: z) (flats us ++ r) (acc.length : Int) acc = some (Tm.mk c.kind c.n c.text (acc ++ us), r)
  | [], k, c, z, r, acc, hw, hk, hl, hn, hb => by
    obtain ⟨k, rfl⟩ : ∃ q, k = q + 1 := ⟨k - 1, by omega⟩
    rw [impl_fromCells.l0]
    show (if (acc.length : Int) < c.n then _ else some (Tm.mk c.kind c.n c.text acc, flats [] ++ r)) = _
    rw [if_neg (by simp at hn; omega)]
    simp [flats]
  | t :: us, k, c, z, r, acc, hw, hk, hl, hn, hb => by
    obtain ⟨k, rfl⟩ : ∃ q, k = q + 1 := ⟨k - 1, by omega⟩
    simp only [Wfs] at hw
    simp only [flats, List.length_append] at hk hl
    simp only [List.length_cons] at hn hb
    have hp := flat_pos t
    have e0 : flats (t :: us) ++ r = flat t ++ (flats us ++ r) := by simp [flats]
    rw [e0, impl_fromCells.l0]
    rw [from_flat t k (flats us ++ r) hw.1 (by omega) (by simp; omega), Option.bind_some]
    show (if (acc.length : Int) < c.n then _ else _) = _
    rw [if_pos (by omega), if_pos (by omega), wrap_nat (by omega)]
    have := from_flats us k c z r (acc ++ [t]) hw.2 (by omega) (by omega) (by simp; omega) (by simp; omega)
    simpa using this
end
theorem tree_flat (t : Tm) (k : Nat) (hw : Wf t) (hl : (flat t).length ≤ 2000) (hk : 6000 < k) : impl_tree.f k (flat t) = some t := by
  rw [impl_tree.f]
  have := from_flat t k [] hw (by omega) (by simpa using hl)
  rw [List.append_nil] at this
  rw [this]; rfl
/-! ### trees to cells -/
mutual
theorem put_flat : ∀ (t : Tm) (k : Nat) (acc : List Cell), Wf t → 4 * (flat t).length < k → acc.length + (flat t).length ≤ 1000000 → impl_node_put_2.f k t acc = some (acc ++ flat t)
  | .mk kd n s us, k, acc, hw, hk, hl => by
    obtain ⟨k, rfl⟩ : ∃ q, k = q + 3 := ⟨k - 3, by simp [flat] at hk; omega⟩
    simp only [flat, List.length_cons] at hk hl
    simp only [Wf] at hw
    obtain ⟨w0, w1, w2, w6⟩ := hw
    have ht := w0.text
    have e0 : impl_node_put_2.f (k + 3) (Tm.mk kd n s us) acc = impl_node_put_2.l0 (k + 2) (Tm.mk kd n s us) acc s := by
      rw [impl_node_put_2.f]
      show (if kd ≥ 2 then (if s.length ≤ 9223372036854775807 then impl_node_put_2.l0 (k + 2) _ acc s else none) else impl_node_put_2.l0 (k + 2) _ acc []) = _
      by_cases h : kd ≥ 2
      · rw [if_pos h, if_pos (Nat.le_trans ht (by decide))]
      · rw [if_neg h]
        rcases w0 with ⟨_, _, _, h1⟩ | ⟨_, _, _, h1⟩ | ⟨h1, _⟩ | ⟨h1, _⟩
        · have : s = [] := h1
          rw [this]
        · have : s = [] := h1
          rw [this]
        · exact absurd (show kd = 2 from h1) (by omega)
        · exact absurd (show kd = 3 from h1) (by omega)
    rw [e0, impl_node_put_2.l0, if_pos (by omega)]
    have := put_flats us [] k (Tm.mk kd n s us) (acc ++ [⟨kd, n, s⟩]) rfl w6 (by omega) (by simp; omega) (by have := flats_len us; simp; omega)
    simp only [List.length_nil] at this
    exact this.trans (by simp [flat])
theorem put_flats : ∀ (us vs : List Tm) (k : Nat) (t : Tm) (acc : List Cell), t.args = vs ++ us → Wfs us → 4 * (flats us).length + 2 < k + 1 → acc.length + (flats us).length ≤ 1000000 → vs.length + us.length ≤ 1000000 →
    impl_node_put_2.l1 (k + 1) t acc (vs.length : Int) = some (acc ++ flats us)
  | [], vs, k, t, acc, ha, hw, hk, hl, hv => by
    rw [impl_node_put_2.l1, ha, if_neg (by simp)]; simp [flats]
  | u :: us, vs, k, t, acc, ha, hw, hk, hl, hv => by
    simp only [Wfs] at hw
    simp only [flats, List.length_append] at hk hl
    have hp := flat_pos u
    simp only [List.length_cons] at hv
    obtain ⟨k, rfl⟩ : ∃ q, k = q + 1 := ⟨k - 1, by omega⟩
    rw [impl_node_put_2.l1, ha, if_pos (by simp; omega), if_pos (by omega)]
    have hg : (vs ++ u :: us).getD ((vs.length : Int)).toNat (Tm.mk 0 0 [] []) = u := by
      rw [Int.toNat_natCast, List.getD_eq_getElem?_getD, List.getElem?_append_right (by omega), Nat.sub_self]; rfl
    rw [hg, impl_node_cut_2.f, put_flat u k acc hw.1 (by omega) (by omega), Option.bind_some, Option.bind_some, wrap_nat (by omega)]
    have := put_flats us (vs ++ [u]) k t (acc ++ flat u) (by rw [ha]; simp) hw.2 (by omega) (by simp; omega) (by simp; omega)
    rw [show ((vs ++ [u]).length : Int) = ((vs.length + 1 : Nat) : Int) by simp] at this
    rw [this]; simp [flats]
end
theorem cells_flat (t : Tm) (k : Nat) (hw : Wf t) (hl : (flat t).length ≤ 100000) (hk : 400000 < k) : impl_node_cells.f k t = some (flat t) := by
  rw [impl_node_cells.f, put_flat t k [] hw (by omega) (by simp; omega)]; simp
theorem l2copy_val (xs : List Cell) (k : Nat) (hl : xs.length ≤ 1000000) (ht : ∀ c, c ∈ xs → c.text.length ≤ 1000000) (hk : xs.length < k) : spec_l2copy.f k xs = some xs := by
  rw [spec_l2copy.f]
  have key : ∀ (m k i : Nat), xs.length - i = m → i ≤ xs.length → m < k → spec_l2copy.l0 k xs (xs.take i) (i : Int) = some xs := by
    intro m
    induction m with
    | zero =>
      intro k i h1 h2 h3
      obtain ⟨k, rfl⟩ : ∃ q, k = q + 1 := ⟨k - 1, by omega⟩
      rw [spec_l2copy.l0, if_neg (by omega), List.take_of_length_le (by omega)]
    | succ m ih =>
      intro k i h1 h2 h3
      obtain ⟨k, rfl⟩ : ∃ q, k = q + 1 := ⟨k - 1, by omega⟩
      have hi : i < xs.length := by omega
      have hlt := ht _ (List.getElem_mem hi)
      rw [spec_l2copy.l0, if_pos (by omega), if_pos (by omega), Int.toNat_natCast, getD_at hi, spec_l1copy.f, if_pos (by omega), Option.bind_some, if_pos (by rw [List.length_take]; omega), wrap_nat (by omega)]
      have e : xs.take i ++ [(⟨xs[i].kind, xs[i].n, xs[i].text⟩ : Cell)] = xs.take (i + 1) := by rw [List.take_add_one, List.getElem?_eq_getElem hi]; rfl
      rw [e]
      exact ih k (i + 1) (by omega) (by omega) (by omega)
  exact key xs.length k 0 rfl (by omega) hk
/-! ### FnExactTermVars -/
def addV (acc : List Int) (c : Cell) : List Int := if c.kind = 0 ∧ c.n ∉ acc then acc ++ [c.n] else acc
def varsC (xs : List Cell) (acc : List Int) : List Int := xs.foldl addV acc
theorem addV_len (acc : List Int) (c : Cell) : (addV acc c).length ≤ acc.length + 1 := by unfold addV; split <;> simp
theorem varsC_len : ∀ (xs : List Cell) (acc : List Int), (varsC xs acc).length ≤ acc.length + xs.length
  | [], acc => by simp [varsC]
  | x :: xs, acc => by
    have := varsC_len xs (addV acc x)
    have := addV_len acc x
    simp only [varsC, List.foldl_cons, List.length_cons] at *
    omega
theorem l2find_val (vs : List Int) (x : Int) (k : Nat) (hl : vs.length ≤ 1048576) (hk : vs.length < k) : ∃ r, spec_l2find.f k vs x = some r ∧ (r < 0 ↔ x ∉ vs) := by
  rw [spec_l2find.f]
  have key : ∀ (m k i : Nat), vs.length - i = m → i ≤ vs.length → m < k → ∃ r, spec_l2find.l0 k vs x (i : Int) = some r ∧ (r < 0 ↔ x ∉ vs.drop i) := by
    intro m
    induction m with
    | zero =>
      intro k i h1 h2 h3
      obtain ⟨k, rfl⟩ : ∃ q, k = q + 1 := ⟨k - 1, by omega⟩
      rw [spec_l2find.l0, if_neg (by omega), List.drop_of_length_le (by omega)]
      exact ⟨-1, rfl, by simp⟩
    | succ m ih =>
      intro k i h1 h2 h3
      obtain ⟨k, rfl⟩ : ∃ q, k = q + 1 := ⟨k - 1, by omega⟩
      have hi : i < vs.length := by omega
      rw [spec_l2find.l0, if_pos (by omega), if_pos (by omega), Int.toNat_natCast, getD_at hi, List.drop_eq_getElem_cons hi]
      by_cases h : vs[i] = x
      · rw [if_pos h]; exact ⟨i, rfl, by simp [h]⟩
      · rw [if_neg h, wrap_nat (by omega)]
        obtain ⟨r, e1, e2⟩ := ih k (i + 1) (by omega) (by omega) (by omega)
        exact ⟨r, e1, e2.trans ⟨fun a b => (List.mem_cons.1 b).elim (fun q => h q.symm) a, fun a b => a (.tail _ b)⟩⟩
  exact key vs.length k 0 rfl (by omega) hk
theorem l2vars_val (xs : List Cell) (acc : List Int) (k : Nat) (hl : xs.length + acc.length ≤ 100000) (hk : 200001 + xs.length < k) : spec_l2vars_2.f k xs acc = some (varsC xs acc) := by
  rw [spec_l2vars_2.f]
  have key : ∀ (m k i : Nat) (acc : List Int), xs.length - i = m → i ≤ xs.length → 200001 + m < k → m + acc.length ≤ 100000 → spec_l2vars_2.l0 k xs acc (i : Int) = some (varsC (xs.drop i) acc) := by
    intro m
    induction m with
    | zero =>
      intro k i acc h1 h2 h3 h4
      obtain ⟨k, rfl⟩ : ∃ q, k = q + 1 := ⟨k - 1, by omega⟩
      rw [spec_l2vars_2.l0, if_neg (by omega), List.drop_of_length_le (by omega)]; rfl
    | succ m ih =>
      intro k i acc h1 h2 h3 h4
      obtain ⟨k, rfl⟩ : ∃ q, k = q + 1 := ⟨k - 1, by omega⟩
      have hi : i < xs.length := by omega
      rw [spec_l2vars_2.l0, if_pos (by omega), if_pos (by omega), Int.toNat_natCast, getD_at hi, List.drop_eq_getElem_cons hi, wrap_nat (by omega)]
      show _ = some (varsC (xs.drop (i + 1)) (addV acc xs[i]))
      by_cases h : xs[i].kind = 0
      · obtain ⟨r, e1, e2⟩ := l2find_val acc xs[i].n k (by omega) (by omega)
        rw [if_pos h, e1, Option.bind_some]
        by_cases hr : r < 0
        · rw [if_pos hr, if_pos (by omega), show addV acc xs[i] = acc ++ [xs[i].n] by unfold addV; rw [if_pos ⟨h, e2.1 hr⟩]]
          exact ih k (i + 1) _ (by omega) (by omega) (by omega) (by simp; omega)
        · rw [if_neg hr, show addV acc xs[i] = acc by unfold addV; rw [if_neg (fun q => hr (e2.2 q.2))]]
          exact ih k (i + 1) _ (by omega) (by omega) (by omega) (by omega)
      · rw [if_neg h, show addV acc xs[i] = acc by unfold addV; rw [if_neg (fun q => h q.1)]]
        exact ih k (i + 1) _ (by omega) (by omega) (by omega) (by omega)
  exact key xs.length k 0 acc rfl (by omega) (by omega) (by omega)
theorem varsC_app (a b : List Cell) (acc : List Int) : varsC (a ++ b) acc = varsC b (varsC a acc) := by simp [varsC]
/-! ### numbering the variables -/
def num : List Int → Int → Nat
  | [], _ => 0
  | x :: xs, v => if x = v then 0 else num xs v + 1
theorem num_eq {x v : Int} {xs : List Int} (h : x = v) : num (x :: xs) v = 0 := by simp [num, h]
theorem num_ne {x v : Int} {xs : List Int} (h : ¬ x = v) : num (x :: xs) v = num xs v + 1 := by simp [num, h]
theorem num_app : ∀ (vs ws : List Int) (v : Int), v ∈ vs → num (vs ++ ws) v = num vs v
  | [], ws, v, h => by cases h
  | x :: vs, ws, v, h => by
    by_cases hx : x = v
    · simp [num, hx]
    · have h2 : v ∈ vs := (List.mem_cons.1 h).elim (fun q => absurd q.symm hx) id
      simp [num, hx, num_app vs ws v h2]
theorem num_new : ∀ (vs : List Int) (v : Int), v ∉ vs → num (vs ++ [v]) v = vs.length
  | [], v, _ => by simp [num]
  | x :: vs, v, h => by
    have h1 : ¬ x = v := fun q => h (List.mem_cons.2 (.inl q.symm))
    have h2 : v ∉ vs := fun q => h (.tail _ q)
    simp [num, h1, num_new vs v h2]
theorem num_lt : ∀ (vs : List Int) (v : Int), v ∈ vs → num vs v < vs.length
  | [], v, h => by cases h
  | x :: vs, v, h => by
    by_cases hx : x = v
    · simp [num, hx]
    · have h2 : v ∈ vs := (List.mem_cons.1 h).elim (fun q => absurd q.symm hx) id
      have := num_lt vs v h2
      simp [num, hx]; exact this
theorem l2find_num (vs : List Int) (x : Int) (k : Nat) (hl : vs.length ≤ 1048576) (hk : vs.length < k) (hx : x ∈ vs) : spec_l2find.f k vs x = some (num vs x : Int) := by
  rw [spec_l2find.f]
  have key : ∀ (m k i : Nat), vs.length - i = m → i ≤ vs.length → m < k → x ∈ vs.drop i → spec_l2find.l0 k vs x (i : Int) = some ((i + num (vs.drop i) x : Nat) : Int) := by
    intro m
    induction m with
    | zero =>
      intro k i h1 h2 h3 h4
      rw [List.drop_of_length_le (by omega)] at h4; cases h4
    | succ m ih =>
      intro k i h1 h2 h3 h4
      obtain ⟨k, rfl⟩ : ∃ q, k = q + 1 := ⟨k - 1, by omega⟩
      have hi : i < vs.length := by omega
      rw [spec_l2find.l0, if_pos (by omega), if_pos (by omega), Int.toNat_natCast, getD_at hi]
      rw [List.drop_eq_getElem_cons hi] at h4 ⊢
      by_cases h : vs[i] = x
      · rw [if_pos h, num_eq h]; rfl
      · rw [if_neg h, wrap_nat (by omega), ih k (i + 1) (by omega) (by omega) (by omega) ((List.mem_cons.1 h4).elim (fun q => absurd q.symm h) id)]
        rw [num_ne h]; congr 2; omega
  have := key vs.length k 0 rfl (by omega) hk hx
  simpa using this
def ren (vs : List Int) (c : Cell) : Cell := if c.kind = 0 then { c with n := (num vs c.n : Int) } else c
theorem addV_pre (acc : List Int) (c : Cell) : ∃ ws, addV acc c = acc ++ ws := by unfold addV; split <;> first | exact ⟨_, rfl⟩ | exact ⟨[], by simp⟩
theorem varsC_pre : ∀ (xs : List Cell) (acc : List Int), ∃ ws, varsC xs acc = acc ++ ws
  | [], acc => ⟨[], by simp [varsC]⟩
  | x :: xs, acc => by
    obtain ⟨a, ha⟩ := addV_pre acc x
    obtain ⟨b, hb⟩ := varsC_pre xs (addV acc x)
    exact ⟨a ++ b, by show varsC xs (addV acc x) = _; rw [hb, ha, List.append_assoc]⟩
theorem addV_mem (acc : List Int) (c : Cell) (h : c.kind = 0) : c.n ∈ addV acc c := by
  unfold addV
  by_cases h2 : c.n ∈ acc
  · rw [if_neg (fun q => q.2 h2)]; exact h2
  · rw [if_pos ⟨h, h2⟩]; simp
theorem varsC_mem : ∀ (xs : List Cell) (acc : List Int) (c : Cell), c ∈ xs → c.kind = 0 → c.n ∈ varsC xs acc
  | [], acc, c, h, _ => by cases h
  | x :: xs, acc, c, h, hk => by
    show c.n ∈ varsC xs (addV acc x)
    rcases List.mem_cons.1 h with rfl | h
    · obtain ⟨ws, e⟩ := varsC_pre xs (addV acc c)
      rw [e]; exact List.mem_append_left _ (addV_mem acc c hk)
    · exact varsC_mem xs (addV acc x) c h hk
theorem ren_ext (xs : List Cell) (vs ws : List Int) (h : ∀ c, c ∈ xs → c.kind = 0 → c.n ∈ vs) : xs.map (ren (vs ++ ws)) = xs.map (ren vs) := by
  apply List.map_congr_left
  intro c hc
  unfold ren
  by_cases hk : c.kind = 0
  · rw [if_pos hk, if_pos hk, num_app vs ws _ (h c hc hk)]
  · rw [if_neg hk, if_neg hk]
theorem l2renumber_val (xs : List Cell) (vs : List Int) (k : Nat) (hl : xs.length ≤ 100000) (ht : ∀ c, c ∈ xs → c.text.length ≤ 1000000) (hv : vs.length ≤ 100000) (hm : ∀ c, c ∈ xs → c.kind = 0 → c.n ∈ vs) (hk : 300000 < k) : spec_l2renumber.f k xs vs = some (xs.map (ren vs)) := by
  rw [spec_l2renumber.f, l2copy_val xs k (by omega) ht (by omega), Option.bind_some]
  have key : ∀ (m k i : Nat) (ys : List Cell), xs.length - i = m → i ≤ xs.length → m + 100001 < k → ys.length = xs.length → ys.drop i = xs.drop i → ys.take i = (xs.map (ren vs)).take i → spec_l2renumber.l0 k vs xs (i : Int) ys = some (xs.map (ren vs)) := by
    intro m
    induction m with
    | zero =>
      intro k i ys h1 h2 h3 h4 h5 h6
      obtain ⟨k, rfl⟩ : ∃ q, k = q + 1 := ⟨k - 1, by omega⟩
      rw [spec_l2renumber.l0, if_neg (by omega)]
      rw [List.take_of_length_le (by omega), List.take_of_length_le (by simp; omega)] at h6
      rw [h6]
    | succ m ih =>
      intro k i ys h1 h2 h3 h4 h5 h6
      obtain ⟨k, rfl⟩ : ∃ q, k = q + 1 := ⟨k - 1, by omega⟩
      have hi : i < xs.length := by omega
      have hi2 : i < ys.length := by omega
      have hc : ys[i] = xs[i] := by
        rw [List.drop_eq_getElem_cons hi, List.drop_eq_getElem_cons hi2] at h5
        exact (List.cons.inj h5).1
      have hd : ys.drop (i + 1) = xs.drop (i + 1) := by
        rw [List.drop_eq_getElem_cons hi, List.drop_eq_getElem_cons hi2] at h5
        exact (List.cons.inj h5).2
      rw [spec_l2renumber.l0, if_pos (by omega), if_pos (by omega), Int.toNat_natCast, getD_at hi2, hc, wrap_nat (by omega)]
      have hmem := List.getElem_mem hi
      by_cases hk : xs[i].kind = 0
      · rw [if_pos hk, l2find_num vs _ k (by omega) (by omega) (hm _ hmem hk), Option.bind_some]
        refine ih k (i + 1) _ (by omega) (by omega) (by omega) (by simpa using h4) (by rw [List.drop_set_of_lt (by omega)]; exact hd) ?_
        refine take_set hi2 h6 ?_
        rw [List.getElem?_map, List.getElem?_eq_getElem hi]
        unfold ren
        simp [hk]
      · rw [if_neg hk]
        refine ih k (i + 1) ys (by omega) (by omega) (by omega) h4 hd ?_
        rw [List.take_add_one, List.take_add_one, h6, List.getElem?_eq_getElem hi2, List.getElem?_map, List.getElem?_eq_getElem hi, hc]
        simp [ren, hk]
  exact key xs.length k 0 xs rfl (by omega) (by omega) rfl rfl (by simp)
/-- the map holds the numbers of those seen -/
def NumOK (m : List (Int × Int)) (acc : List Int) : Prop := m.length = acc.length ∧ ∀ v, mget m v = if v ∈ acc then some (num acc v : Int) else none
theorem mset_len {m : List (Int × Int)} {v x : Int} (h : mget m v = none) : (mset m v x).length = m.length + 1 := by
  induction m with
  | nil => rfl
  | cons p m ih =>
    unfold mget at h
    by_cases hp : p.1 = v
    · rw [if_pos hp] at h; cases h
    · rw [if_neg hp] at h
      unfold mset
      rw [if_neg hp, List.length_cons, List.length_cons, ih h]
theorem count_val (m : List (Int × Int)) (acc : List Int) (v : Int) (h : NumOK m acc) (hl : acc.length ≤ 100000) : ∃ m', impl_counter_c1.f v m 0 = some (Tm.mk 0 (num (addV acc ⟨0, v, []⟩) v : Int) [] [], m') ∧ NumOK m' (addV acc ⟨0, v, []⟩) := by
  rw [impl_counter_c1.f]
  have hv := h.2 v
  by_cases hm : v ∈ acc
  · rw [if_pos hm] at hv
    have ea : addV acc ⟨0, v, []⟩ = acc := by unfold addV; rw [if_neg (fun q => q.2 hm)]
    rw [hv, if_pos (c := (some (num acc v : Int)).isSome = true) rfl, impl_variable.f, ea]
    exact ⟨m, rfl, h⟩
  · rw [if_neg hm] at hv
    have ea : addV acc ⟨0, v, []⟩ = acc ++ [v] := by unfold addV; rw [if_pos ⟨rfl, hm⟩]
    have e : IntKind.i64.wrap (0 + (m.length : Int)) = (acc.length : Int) := by have := h.1; rw [wrap_id (by omega) (by omega)]; omega
    rw [hv, if_neg (by simp), impl_variable.f, e, ea, num_new acc v hm]
    refine ⟨_, rfl, by rw [mset_len hv, h.1]; simp, fun j => ?_⟩
    rw [mget_mset]
    by_cases hj : j = v
    · subst hj; rw [if_pos rfl, if_pos (by simp), num_new acc j hm]
    · rw [if_neg hj, h.2 j]
      by_cases hja : j ∈ acc
      · rw [if_pos hja, if_pos (by simp [hja]), num_app acc [v] j hja]
      · rw [if_neg hja, if_neg (by simp [hja, hj])]
theorem ren_okc {vs : List Int} {c : Cell} (h : Okc c) (hv : vs.length ≤ 1000000) (hm : c.kind = 0 → c.n ∈ vs) : Okc (ren vs c) := by
  unfold ren
  by_cases hk : c.kind = 0
  · rw [if_pos hk]
    have := num_lt vs c.n (hm hk)
    rcases h with ⟨_, _, _, h⟩ | ⟨h, _⟩ | ⟨h, _⟩ | ⟨h, _⟩
    · exact .inl ⟨hk, by show (0 : Int) ≤ (num vs c.n : Int); omega, by show (num vs c.n : Int) ≤ 1000000; omega, h⟩
    all_goals omega
  · rw [if_neg hk]; exact h
mutual
theorem mapped_flat : ∀ (t : Tm) (k : Nat) (m : List (Int × Int)) (acc : List Int), Wf t → 4 * (flat t).length < k → (flat t).length + acc.length ≤ 100000 → NumOK m acc →
    ∃ t' m', impl_node_mapped.f k t m 0 = some (t', m') ∧ NumOK m' (varsC (flat t) acc) ∧ flat t' = (flat t).map (ren (varsC (flat t) acc)) ∧ Wf t'
  | .mk kd n s us, k, m, acc, hw, hk, hl, hs => by
    simp only [flat, List.length_cons] at hk hl
    simp only [Wf] at hw
    obtain ⟨w0, w1, w2, w6⟩ := hw
    obtain ⟨k, rfl⟩ : ∃ q, k = q + 3 := ⟨k - 3, by omega⟩
    rw [impl_node_mapped.f]
    show ∃ t' m', (if kd = 0 then (impl_counter_c1.f n m 0).bind fun t24 => some (t24.1, t24.2) else (if kd = 3 then impl_node_mapped.l0 (k + 2) (Tm.mk kd n s us) 0 0 m [] else some (Tm.mk kd n s us, m))) = some (t', m') ∧ _
    by_cases h0 : kd = 0
    · subst h0
      have hu : us = [] := w2 (by omega)
      have hs0 : s = [] := by
        rcases w0 with ⟨_, _, _, h⟩ | ⟨h, _⟩ | ⟨h, _⟩ | ⟨h, _⟩
        · exact h
        all_goals exact absurd (show (0 : Int) = _ from h) (by decide)
      subst hu; subst hs0
      obtain ⟨m', e1, e2⟩ := count_val m acc n hs (by omega)
      rw [if_pos rfl, e1, Option.bind_some]
      have hmem := addV_mem acc ⟨0, n, []⟩ rfl
      have hlen := addV_len acc ⟨0, n, []⟩
      have hnl := num_lt _ _ hmem
      refine ⟨_, m', rfl, e2, by simp [flat, flats, varsC, ren], ?_⟩
      simp only [Wf, Wfs]
      exact ⟨.inl ⟨rfl, by show (0 : Int) ≤ (num (addV acc ⟨0, n, []⟩) n : Int); omega, by show (num (addV acc ⟨0, n, []⟩) n : Int) ≤ 1000000; have : num (addV acc ⟨0, n, []⟩) n < (addV acc ⟨0, n, []⟩).length := hnl; omega, rfl⟩, by simp, by simp, trivial⟩
    rw [if_neg h0]
    have ea : addV acc ⟨kd, n, s⟩ = acc := by unfold addV; rw [if_neg (fun q => h0 q.1)]
    have ev : varsC (flat (Tm.mk kd n s us)) acc = varsC (flats us) acc := by
      simp only [flat]
      show varsC (flats us) (addV acc ⟨kd, n, s⟩) = _
      rw [ea]
    rw [ev]
    by_cases h3 : kd = 3
    · rw [if_pos h3]
      subst h3
      obtain ⟨us', m', e1, e2, e3, e4, e5⟩ := mapped_flats us [] (k + 1) (Tm.mk 3 n s us) m acc [] rfl w6 (by omega) (by omega) hs (by have := flats_len us; simp; omega) rfl
      refine ⟨Tm.mk 3 n s us', m', by have := e1; simp only [List.nil_append] at this; exact this, e2, ?_, ?_⟩
      · simp only [flat, List.map_cons, e3]
        congr 1
      · simp only [Wf]
        refine ⟨w0, fun _ => ?_, fun h => ?_, e4⟩
        · rw [e5]; exact w1 rfl
        · simp at h
    · rw [if_neg h3]
      have hu : us = [] := w2 h3
      subst hu
      refine ⟨_, m, rfl, hs, by simp [flat, flats, ren, h0], ?_⟩
      simp only [Wf]
      exact ⟨w0, w1, fun _ => trivial, w6⟩
theorem mapped_flats : ∀ (us vs : List Tm) (k : Nat) (t : Tm) (m : List (Int × Int)) (acc : List Int) (out : List Tm), t.args = vs ++ us → Wfs us → 4 * (flats us).length + 1 < k + 1 → (flats us).length + acc.length ≤ 100000 → NumOK m acc → vs.length + us.length ≤ 1000000 → out.length = vs.length →
    ∃ us' m', impl_node_mapped.l0 (k + 1) t 0 (vs.length : Int) m out = some (Tm.mk 3 t.n t.text (out ++ us'), m') ∧ NumOK m' (varsC (flats us) acc) ∧ flats us' = (flats us).map (ren (varsC (flats us) acc)) ∧ Wfs us' ∧ us'.length = us.length
  | [], vs, k, t, m, acc, out, ha, hw, hk, hl, hs, hv, ho => by
    rw [impl_node_mapped.l0, ha, if_neg (by simp)]
    exact ⟨[], m, by simp, hs, by simp [flats], by simp [Wfs], rfl⟩
  | u :: us, vs, k, t, m, acc, out, ha, hw, hk, hl, hs, hv, ho => by
    simp only [Wfs] at hw
    simp only [flats, List.length_append] at hk hl ⊢
    have hp := flat_pos u
    simp only [List.length_cons] at hv
    obtain ⟨k, rfl⟩ : ∃ q, k = q + 1 := ⟨k - 1, by omega⟩
    rw [impl_node_mapped.l0, ha, if_pos (by simp; omega), if_pos (by omega)]
    have hg : (vs ++ u :: us).getD ((vs.length : Int)).toNat (Tm.mk 0 0 [] []) = u := by
      rw [Int.toNat_natCast, List.getD_eq_getElem?_getD, List.getElem?_append_right (by omega), Nat.sub_self]; rfl
    obtain ⟨u', m1, e1, e2, e3, e4⟩ := mapped_flat u (k + 1) m acc hw.1 (by omega) (by omega) hs
    have hq := varsC_len (flat u) acc
    rw [hg, e1, Option.bind_some, if_pos (by omega), wrap_nat (by omega)]
    obtain ⟨us', m2, f1, f2, f3, f4, f5⟩ := mapped_flats us (vs ++ [u]) k t m1 (varsC (flat u) acc) (out ++ [u']) (by rw [ha]; simp) hw.2 (by omega) (by omega) e2 (by simp; omega) (by simp [ho])
    rw [show ((vs ++ [u]).length : Int) = ((vs.length + 1 : Nat) : Int) by simp] at f1
    refine ⟨u' :: us', m2, by rw [f1]; simp, by rw [varsC_app]; exact f2, ?_, by simp only [Wfs]; exact ⟨e4, f4⟩, by simp [f5]⟩
    simp only [flats]
    rw [varsC_app, List.map_append, f3, e3]
    congr 1
    obtain ⟨ws, ew⟩ := varsC_pre (flats us) (varsC (flat u) acc)
    rw [ew, ren_ext _ _ _ (fun c hc hk => varsC_mem (flat u) acc c hc hk)]
end
theorem renumbered_val (t : Tm) (k : Nat) (hw : Wf t) (hl : (flat t).length ≤ 2000) (hk : 9000 < k) : ∃ t', impl_renumbered.f k t = some t' ∧ flat t' = (flat t).map (ren (varsC (flat t) [])) ∧ Wf t' := by
  obtain ⟨t', m', e1, _, e3, e4⟩ := mapped_flat t k [] [] hw (by omega) (by simp; omega) ⟨rfl, fun v => by simp [mget]⟩
  rw [impl_renumbered.f, impl_counter.f, Option.bind_some, e1]
  exact ⟨t', rfl, e3, e4⟩
theorem spec_ren (t : Tm) (k : Nat) (hw : Wf t) (hl : (flat t).length ≤ 2000) (hk : 2000000 < k) : spec_l2vars_2.f k (flat t) [] = some (varsC (flat t) []) ∧ spec_l2renumber.f k (flat t) (varsC (flat t) []) = some ((flat t).map (ren (varsC (flat t) []))) := by
  have := varsC_len (flat t) []
  exact ⟨l2vars_val _ [] k (by simp; omega) (by omega), l2renumber_val _ _ k (by omega) (fun c hc => Nat.le_trans (flat_ok t hw c hc).text (by decide)) (by simp at this; omega) (fun c hc h => varsC_mem _ _ c hc h) (by omega)⟩
theorem renumber_eq (xs : List Cell) (k : Nat) (hl : xs.length ≤ 1048576) (hk : 2000000 < k) : ∃ r, impl_Renumber.f k xs = some r ∧ spec_Renumber.f k xs = some r ∧ wCells r ≤ 1048576 := by
  rw [impl_Renumber.f, spec_Renumber.f, valid_val xs k (by omega) (by omega), valid_val' xs k (by omega) (by omega), Option.bind_some, Option.bind_some]
  cases h : okT xs with
  | false => exact ⟨[], rfl, rfl, by simp [wCells, wts]⟩
  | true =>
    obtain ⟨hl1, t, rfl, hw⟩ := (okT_iff xs).1 h
    obtain ⟨t', e1, e2, e3⟩ := renumbered_val t k hw hl1 (by omega)
    obtain ⟨f1, f2⟩ := spec_ren t k hw hl1 (by omega)
    have hl2 : (flat t').length = (flat t).length := by rw [e2]; simp
    rw [if_neg (by simp), if_neg (by simp), tree_flat t k hw hl1 (by omega), Option.bind_some, e1, Option.bind_some, cells_flat t' k e3 (by omega) (by omega), f1]
    simp only [Option.bind_some]
    rw [f2, ← e2]
    have := wCells_ok (flat_ok t' e3)
    exact ⟨flat t', rfl, rfl, by omega⟩
theorem renumber_true (xs : List Cell) (hl : xs.length ≤ 9223372036854775807) (ht : ∀ c, c ∈ xs → c.text.length ≤ 9223372036854775807) : laws_FnExactRenumber.f 4000000 xs = some true := by
  rw [laws_FnExactRenumber.f, szCellS_val xs _ _ (by omega) (by omega) hl ht (by omega), Option.bind_some]
  by_cases h : left 1048576 (wCells xs) < 0
  · rw [if_pos h]
  have hq := left_le h
  have hw : wCells xs ≤ 1048576 := by omega
  have hl2 := wCells_len hw
  obtain ⟨r, e1, e2, e3⟩ := renumber_eq xs 4000000 hl2 (by omega)
  have hws := wts2 xs
  have hws2 := wts2 r
  obtain ⟨ys, m1, m2, m3⟩ := markCellS_val xs 4000000 1 hw (by omega) (by omega) (by omega)
  obtain ⟨zs, n1, n2, n3⟩ := markCellS_val r 4000000 1 e3 (by omega) (by omega) (by omega)
  obtain ⟨o1, o2⟩ := heldCellS_val zs 4000000 1 _ (by rw [n2]; exact wCells_len e3) (by omega) (by omega) n3
  rw [if_neg h, toCellS_id xs _ hw (by omega)]
  simp only [Option.bind_some, e1, e2, eqCellS_id r 4000000 e3 (by omega), eqCellS_id xs 4000000 hw (by omega), m1, n1, o1]
  rw [if_neg (by simp), if_neg (by simp), if_neg (by omega), if_neg (by simp), if_neg (by omega), if_neg (by simp), if_neg (by simp), if_neg (by omega), if_neg (by simp)]
end Go.Proofs.Ytognefkopbbdnaa
