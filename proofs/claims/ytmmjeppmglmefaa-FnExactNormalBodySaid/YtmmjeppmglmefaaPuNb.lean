import Derived.Test.YtmmjeppmglmefaaWkNb2
import Derived.Test.YtmmjeppmglmefaaZ2
namespace Go.Proofs.Ytmmjeppmglmefaa
open Go.Sx Go.Sy
set_option linter.unusedVariables false
set_option linter.unusedSimpArgs false
set_option linter.unusedSectionVars false
set_option maxRecDepth 4000
/-! ### sizes, copies, equality: cells -/
theorem left_m1 {b : Int} {n : Nat} (h : left b n < 0) : left b n = -1 := by unfold left at *; split <;> (split at h <;> first | rfl | omega)
theorem szByteS_val (xs : List UInt8) (b : Int) (h0 : 0 ≤ b) (h1 : b ≤ 1048576) (hl : xs.length ≤ 9223372036854775807) : laws_szByteS.f xs b = some (left b xs.length) := by
  rw [laws_szByteS.f]; exact sz0 h0 h1 hl
theorem szCell_val (x : Cell) (b : Int) (h0 : 0 ≤ b) (h1 : b ≤ 1048576) (hl : x.text.length ≤ 9223372036854775807) : laws_szCell.f x b = some (left b x.text.length) := by
  rw [laws_szCell.f, szByteS_val _ _ h0 h1 hl, Option.bind_some]
  split
  · rename_i h; rw [left_m1 h]
  · rfl
theorem szCellS_val (xs : List Cell) (k : Nat) (b : Int) (h0 : 0 ≤ b) (h1 : b ≤ 1048576) (hl : xs.length ≤ 9223372036854775807) (ht : ∀ c, c ∈ xs → c.text.length ≤ 9223372036854775807) (hk : 1048577 < k) :
    laws_szCellS.f k xs b = some (left b (wCells xs)) := by
  rw [laws_szCellS.f]
  refine szT h0 h1 hl fun h => ?_
  have hq := left_le h
  rw [left_wrap h0 h1 hl h]
  exact szL (B := 0) (z := z34) (fun x => x.text.length) (fun k b i => laws_szCellS.l0 k xs b i) (fun _ => laws_szCell.f) (fun _ _ _ => rfl) (by omega) (fun x hx _ _ b q0 q1 => szCell_val x b q0 q1 (ht x hx)) k (by omega) _ (by omega) (by omega)
theorem toByteS_id (xs : List UInt8) (k : Nat) (hl : xs.length ≤ 1048576) (hk : xs.length < k) : laws_toByteS.f k xs = some xs := by
  rw [laws_toByteS.f, if_pos (by omega), if_pos (by omega)]
  exact toF (z := 0) (fun k i ys => laws_toByteS.l0 k xs i ys) (fun _ _ _ => rfl) (by omega) k hk _ (by simp)
theorem toCell_id (x : Cell) (k : Nat) (hl : x.text.length ≤ 1048576) (hk : 1048577 ≤ k) : laws_toCell.f k x = some x := by
  rw [laws_toCell.f, toByteS_id _ k hl (by omega)]; rfl
theorem wCells_len {xs : List Cell} {n : Nat} (hl : wCells xs ≤ n) : xs.length ≤ n := Nat.le_trans (Nat.le_add_right _ _) hl
theorem wCells_mem {xs : List Cell} {n : Nat} (hl : wCells xs ≤ n) {x : Cell} (hx : x ∈ xs) : x.text.length ≤ n := Nat.le_trans (Nat.le_trans (wts_mem (fun x : Cell => x.text.length) hx) (Nat.le_add_left _ _)) hl
theorem toCellS_id (xs : List Cell) (k : Nat) (hl : wCells xs ≤ 1048576) (hk : 2097154 < k) : laws_toCellS.f k xs = some xs := by
  have hl2 := wCells_len hl
  rw [laws_toCellS.f, if_pos (by omega), if_pos (by omega)]
  exact toL (z := z34) (B := 1048577) (fun k i ys => laws_toCellS.l0 k xs i ys) laws_toCell.f (fun _ _ _ => rfl) (by omega) (fun x hx k hk => toCell_id x k (wCells_mem hl hx) hk) k (by omega) _ (by simp)
theorem eqByteS_id (xs : List UInt8) (k : Nat) (hl : xs.length ≤ 1048576) (hk : xs.length < k) : laws_eqByteS.f k xs xs = some true := by
  rw [laws_eqByteS.f, if_neg (by simp)]
  exact eqF (z := 0) (fun k i => laws_eqByteS.l0 k xs xs i) (fun _ _ => rfl) (by omega) k hk
theorem eqCell_id (x : Cell) (k : Nat) (hl : x.text.length ≤ 1048576) (hk : 1048577 ≤ k) : laws_eqCell.f k x x = some true := by
  rw [laws_eqCell.f, if_neg (by simp), if_neg (by simp), eqByteS_id _ k hl (by omega), Option.bind_some, if_neg (by simp)]
theorem eqCellS_id (xs : List Cell) (k : Nat) (hl : wCells xs ≤ 1048576) (hk : 2097154 < k) : laws_eqCellS.f k xs xs = some true := by
  have hl2 := wCells_len hl
  rw [laws_eqCellS.f, if_neg (by simp)]
  exact eqL (z := z36) (z' := z36) (B := 1048577) (fun k i => laws_eqCellS.l0 k xs xs i) laws_eqCell.f (fun _ _ => rfl) (by omega) (fun x hx k hk => eqCell_id x k (wCells_mem hl hx) hk) k (by omega)
/-! ### marks -/
def PB (n m : Int) (x : UInt8) : Prop := m = n + 1 ∧ x = b8 n
theorem markByteS_val (xs : List UInt8) (k : Nat) (n : Int) (hl : xs.length ≤ 1048576) (hk : 1048577 < k) (h0 : 0 ≤ n) (hn : n ≤ 8000000000000000000) :
    ∃ ys, laws_markByteS_2.f k xs n = some (n + (xs.length : Int), ys) ∧ ys.length = xs.length ∧ HL PB n (n + (xs.length : Int)) ys := by
  rw [laws_markByteS_2.f]
  have e : wts (fun _ : UInt8 => 1) xs = xs.length := by
    induction xs with
    | nil => rfl
    | cons x xs ih => rw [wts_cons, ih (by simp at hl; omega), List.length_cons]; omega
  have := markL (U := 9000000000000000000) (P := PB) (B := 0) (z := (0 : UInt8)) (w := fun _ => 1) (xs := xs) (fun k n i ys => laws_markByteS_2.l0 k xs n i ys) (fun _ _ n => if n + 1 ≤ 9000000000000000000 ∧ 0 ≤ n then some (n + 1, b8 n) else some (IntKind.i64.wrap (n + 1), b8 n))
    (fun k n i ys hi hy => by
      show laws_markByteS_2.l0 (k + 1) xs n i ys = _
      rw [laws_markByteS_2.l0, if_pos (by omega), if_pos (by omega), Int.toNat_natCast]
      by_cases hh : n + 1 ≤ 9000000000000000000 ∧ 0 ≤ n
      · rw [if_pos hh, Option.bind_some, wrap_id (n := n + 1) (by omega) (by omega)]
      · rw [if_neg hh, Option.bind_some])
    (fun k n ys => by
      show laws_markByteS_2.l0 (k + 1) xs n xs.length ys = _
      rw [laws_markByteS_2.l0, if_neg (by omega)])
    (by omega) (fun x _ k _ n q0 q1 => ⟨b8 n, by rw [if_pos ⟨q1, q0⟩]; rfl, rfl, rfl⟩) k (by omega) n h0 (by rw [e]; omega)
  rw [e] at this
  exact this
def PC (n m : Int) (c : Cell) : Prop := c.kind = n ∧ c.n = n + 1 ∧ HL PB (n + 2) m c.text ∧ c.text.length ≤ 1048576 ∧ m ≤ 9000000000000000000
theorem getD_set_self {α : Type} {ys : List α} {i : Nat} {x z : α} (h : i < ys.length) : (ys.set i x).getD i z = x := by
  rw [List.getD_eq_getElem?_getD, List.getElem?_set_self h]; rfl
theorem markCellS_val (xs : List Cell) (k : Nat) (n : Int) (hl : wCells xs ≤ 1048576) (hk : 2097155 < k) (h0 : 0 ≤ n) (hn : n + (wts (fun x : Cell => 2 + x.text.length) xs : Int) ≤ 8000000000000000000) :
    ∃ ys, laws_markCellS_2.f k xs n = some (n + (wts (fun x : Cell => 2 + x.text.length) xs : Int), ys) ∧ ys.length = xs.length ∧ HL PC n (n + (wts (fun x : Cell => 2 + x.text.length) xs : Int)) ys := by
  have hl2 := wCells_len hl
  rw [laws_markCellS_2.f]
  refine markL (U := 8000000000000000000) (P := PC) (B := 1048578) (z := z36) (w := fun x => 2 + x.text.length) (xs := xs) (fun k n i ys => laws_markCellS_2.l0 k xs n i ys)
    (fun k c n => (laws_markByteS_2.f k c.text (IntKind.i64.wrap (IntKind.i64.wrap (n + 1) + 1))).bind fun t => some (t.1, ⟨n, IntKind.i64.wrap (n + 1), t.2⟩)) ?_ ?_ (by omega) ?_ k (by omega) n h0 (by omega)
  · intro k n i ys hi hy
    show laws_markCellS_2.l0 (k + 1) xs n i ys = _
    rw [laws_markCellS_2.l0, if_pos (by omega), if_pos (by omega), Int.toNat_natCast]
    have e1 : i < (ys.set i { ys.getD i z36 with kind := n }).length := by rw [List.length_set]; exact hi
    simp only [getD_set_self hi, List.set_set, getD_set_self e1]
    cases laws_markByteS_2.f k (ys.getD i z36).text (IntKind.i64.wrap (IntKind.i64.wrap (n + 1) + 1)) <;> rfl
  · intro k n ys
    show laws_markCellS_2.l0 (k + 1) xs n xs.length ys = _
    rw [laws_markCellS_2.l0, if_neg (by omega)]
  · intro x hx k hk n q0 q1
    rw [wrap_id (n := n + 1) (by omega) (by omega), wrap_id (n := n + 1 + 1) (by omega) (by omega)]
    obtain ⟨ys, e1, e2, e3⟩ := markByteS_val x.text k (n + 1 + 1) (wCells_mem hl hx) (by omega) (by omega) (by omega)
    rw [e1, Option.bind_some]
    have e : n + 1 + 1 + (x.text.length : Int) = n + ((2 + x.text.length : Nat) : Int) := by omega
    refine ⟨⟨n, n + 1, ys⟩, by rw [e], rfl, rfl, ?_, by rw [e2]; exact wCells_mem hl hx, by omega⟩
    rw [← e]
    exact (show n + 2 = n + 1 + 1 by omega) ▸ e3
theorem heldByteS_val (xs : List UInt8) (k : Nat) (n m : Int) (hl : xs.length ≤ 1048576) (hk : 1048577 < k) (h0 : 0 ≤ n) (hm : m ≤ 9000000000000000000) (h : HL PB n m xs) : laws_heldByteS.f k xs n = some m ∧ n ≤ m := by
  rw [laws_heldByteS.f]
  have key : ∀ (q k i : Nat) (n : Int), xs.length - i = q → i ≤ xs.length → q < k → 0 ≤ n → HL PB n m (xs.drop i) → laws_heldByteS.l0 k xs n (i : Int) = some m ∧ n ≤ m := by
    intro q
    induction q with
    | zero =>
      intro k i n h1 h2 h3 h4 h5
      obtain ⟨k, rfl⟩ : ∃ q, k = q + 1 := ⟨k - 1, by omega⟩
      rw [List.drop_of_length_le (by omega)] at h5
      cases h5
      rw [laws_heldByteS.l0, if_neg (by omega)]
      exact ⟨rfl, Int.le_refl _⟩
    | succ q ih =>
      intro k i n h1 h2 h3 h4 h5
      obtain ⟨k, rfl⟩ : ∃ q, k = q + 1 := ⟨k - 1, by omega⟩
      have hi : i < xs.length := by omega
      rw [List.drop_eq_getElem_cons hi] at h5
      cases h5 with
      | cons p hr =>
        obtain ⟨rfl, p2⟩ := p
        have hle : n + 1 ≤ m := hr.le (fun _ _ _ h => by have := h.1; omega)
        rw [laws_heldByteS.l0, if_pos (by omega), if_pos (by omega), Int.toNat_natCast, getD_at hi, p2, if_neg (by simp), wrap_nat (by omega), wrap_id (n := n + 1) (by omega) (by omega)]
        obtain ⟨f1, f2⟩ := ih k (i + 1) (n + 1) (by omega) (by omega) (by omega) (by omega) hr
        exact ⟨f1, by omega⟩
  exact key xs.length k 0 n rfl (by omega) (by omega) h0 h
theorem heldCellS_val (xs : List Cell) (k : Nat) (n m : Int) (hl : xs.length ≤ 1048576) (hk : 2097155 < k) (h0 : 0 ≤ n) (h : HL PC n m xs) : laws_heldCellS.f k xs n = some m ∧ n ≤ m := by
  rw [laws_heldCellS.f]
  refine heldL (P := PC) (B := 1048578) (z := z36) (fun k n i => laws_heldCellS.l0 k xs n i) (fun k c n => if c.kind ≠ n then some (-1) else if c.n ≠ IntKind.i64.wrap (n + 1) then some (-1) else laws_heldByteS.f k c.text (IntKind.i64.wrap (IntKind.i64.wrap (n + 1) + 1))) ?_ (by omega) ?_ k (by omega) n h0 h
  · intro k n i
    show laws_heldCellS.l0 (k + 1) xs n i = _
    rw [laws_heldCellS.l0]
    split
    · split
      · generalize xs.getD i.toNat z36 = c
        by_cases h1 : c.kind ≠ n
        · rw [if_pos h1, if_pos h1, Option.bind_some, if_pos (by omega)]
        · rw [if_neg h1, if_neg h1]
          by_cases h2 : c.n ≠ IntKind.i64.wrap (n + 1)
          · rw [if_pos h2, if_pos h2, Option.bind_some, if_pos (by omega)]
          · rw [if_neg h2, if_neg h2]
      · rfl
    · rfl
  · intro n m c _ p h0 k hk
    obtain ⟨p1, p2, p3, p4, p5⟩ := p
    have hle := p3.le (fun _ _ _ h => by have := h.1; omega)
    rw [wrap_id (n := n + 1) (by omega) (by omega), wrap_id (n := n + 1 + 1) (by omega) (by omega), if_neg (by omega), if_neg (by omega)]
    obtain ⟨f1, f2⟩ := heldByteS_val c.text k (n + 1 + 1) m p4 (by omega) (by omega) p5 ((show n + 2 = n + 1 + 1 by omega) ▸ p3)
    exact ⟨f1, by omega⟩
/-! ### terms that are valid -/
instance (c : Cell) : Decidable (Okc c) := by unfold Okc; infer_instance
theorem l2cell_val (c : Cell) : spec_l2cell.f c = some (decide (Okc c)) := by
  have e : ∀ l : List UInt8, (l.length : Int) = 0 ↔ l = [] := fun l => ⟨fun hl => List.eq_nil_of_length_eq_zero (by omega), fun h => by rw [h]; rfl⟩
  unfold spec_l2cell.f
  simp only [e]
  repeat' split
  all_goals refine congrArg some ?_
  all_goals first
    | (rw [eq_comm, decide_eq_false_iff_not]; unfold Okc; omega)
    | (rw [eq_comm, decide_eq_true_iff]; unfold Okc; omega)
    | (refine decide_eq_decide.2 ?_; unfold Okc; omega)
    | (refine decide_eq_decide.2 ?_; unfold Okc; simp only [*]; simp; try omega)
    | (rw [eq_comm, decide_eq_false_iff_not]; unfold Okc; simp only [*]; simp; try omega)
theorem cellOk_val (c : Cell) : impl_cellOk.f c = some (decide (Okc c)) := by
  have e : ∀ l : List UInt8, (l.length : Int) = 0 ↔ l = [] := fun l => ⟨fun hl => List.eq_nil_of_length_eq_zero (by omega), fun h => by rw [h]; rfl⟩
  unfold impl_cellOk.f
  simp only [e]
  repeat' split
  all_goals refine congrArg some ?_
  all_goals first
    | (rw [eq_comm, decide_eq_false_iff_not]; unfold Okc; omega)
    | (rw [eq_comm, decide_eq_true_iff]; unfold Okc; omega)
    | (refine decide_eq_decide.2 ?_; unfold Okc; omega)
    | (refine decide_eq_decide.2 ?_; unfold Okc; simp only [*]; simp; try omega)
    | (rw [eq_comm, decide_eq_false_iff_not]; unfold Okc; simp only [*]; simp; try omega)
theorem valid_l0 (xs : List Cell) (hl : xs.length < 9223372036854775807) : ∀ (m k i : Nat) (n : Int), xs.length - i = m → i ≤ xs.length → m < k → impl_ValidTerm.l0 k xs n (i : Int) = spec_ValidTerm.l0 k xs n (i : Int) ∧ ∃ b, spec_ValidTerm.l0 k xs n (i : Int) = some b := by
  intro m
  induction m with
  | zero =>
    intro k i n h1 h2 h3
    obtain ⟨k, rfl⟩ : ∃ q, k = q + 1 := ⟨k - 1, by omega⟩
    rw [impl_ValidTerm.l0, spec_ValidTerm.l0, if_neg (by omega), if_neg (by omega)]
    exact ⟨rfl, _, rfl⟩
  | succ m ih =>
    intro k i n h1 h2 h3
    obtain ⟨k, rfl⟩ : ∃ q, k = q + 1 := ⟨k - 1, by omega⟩
    rw [impl_ValidTerm.l0, spec_ValidTerm.l0, if_pos (show (i : Int) < (xs.length : Int) by omega), if_pos (show (0 : Int) ≤ (i : Int) by omega), if_pos (show (i : Int) < (xs.length : Int) by omega), wrap_nat (by omega)]
    by_cases hn : n = 0
    · rw [if_pos hn, if_pos hn]; exact ⟨rfl, _, rfl⟩
    · rw [if_neg hn, if_neg hn, if_pos (show (0 : Int) ≤ (i : Int) by omega), l2cell_val, cellOk_val, Option.bind_some, Option.bind_some]
      split
      · exact ⟨rfl, _, rfl⟩
      · split
        · exact ih k (i + 1) _ (by omega) (by omega) (by omega)
        · exact ih k (i + 1) _ (by omega) (by omega) (by omega)
theorem valid_eq (xs : List Cell) (k : Nat) (hl : xs.length < 9223372036854775807) (hk : xs.length < k) : impl_ValidTerm.f k xs = spec_ValidTerm.f k xs ∧ ∃ b, spec_ValidTerm.f k xs = some b := by
  rw [impl_ValidTerm.f, spec_ValidTerm.f]
  split
  · exact ⟨rfl, _, rfl⟩
  · exact valid_l0 xs hl xs.length k 0 1 rfl (by omega) hk
theorem valid_trees (xs : List Cell) (hl : xs.length ≤ 2000) : ∀ (m k i n : Nat), xs.length - i = m → i ≤ xs.length → n ≤ 1 + 20 * i → spec_ValidTerm.l0 k xs (n : Int) (i : Int) = some true →
    ∃ ts, ts.length = n ∧ flats ts = xs.drop i ∧ Wfs ts := by
  intro m
  induction m with
  | zero =>
    intro k i n h1 h2 h3 h
    obtain ⟨k, rfl⟩ : ∃ q, k = q + 1 := by
      cases k with
      | zero => rw [spec_ValidTerm.l0] at h; cases h
      | succ q => exact ⟨q, rfl⟩
    rw [spec_ValidTerm.l0, if_neg (by omega)] at h
    have h0 : n = 0 := by simpa using h
    exact ⟨[], by simp [h0], by rw [List.drop_of_length_le (by omega)]; simp [flats], by simp [Wfs]⟩
  | succ m ih =>
    intro k i n h1 h2 h3 h
    obtain ⟨k, rfl⟩ : ∃ q, k = q + 1 := by
      cases k with
      | zero => rw [spec_ValidTerm.l0] at h; cases h
      | succ q => exact ⟨q, rfl⟩
    have hi : i < xs.length := by omega
    rw [spec_ValidTerm.l0, if_pos (by omega), Int.toNat_natCast, getD_at hi, wrap_nat (by omega), l2cell_val] at h
    by_cases hn : (n : Int) = 0
    · rw [if_pos hn] at h; simp at h
    rw [if_neg hn, if_pos (by omega), Option.bind_some] at h
    by_cases hb : Okc xs[i]
    · rw [if_neg (by simpa using hb), wrap_id (n := (n : Int) - 1) (by omega) (by omega)] at h
      by_cases hk : xs[i].kind = 3
      · obtain ⟨p1, p2⟩ := hb.n3 hk
        rw [if_pos hk, wrap_id (n := (n : Int) - 1 + xs[i].n) (by omega) (by omega), show (n : Int) - 1 + xs[i].n = ((n - 1 + xs[i].n.toNat : Nat) : Int) by omega] at h
        obtain ⟨ts, e1, e2, e3⟩ := ih k (i + 1) (n - 1 + xs[i].n.toNat) (by omega) (by omega) (by omega) h
        refine ⟨Tm.mk xs[i].kind xs[i].n xs[i].text (ts.take xs[i].n.toNat) :: ts.drop xs[i].n.toNat, by simp; omega, ?_, ?_⟩
        · rw [List.drop_eq_getElem_cons hi, ← e2]
          conv => rhs; rw [← List.take_append_drop xs[i].n.toNat ts]
          rw [flats_append]
          simp [flats, flat]
        · rw [← List.take_append_drop xs[i].n.toNat ts, Wfs_append] at e3
          simp only [Wfs, Wf]
          exact ⟨⟨hb, fun _ => by rw [List.length_take]; omega, fun h => absurd hk h, e3.1⟩, e3.2⟩
      · rw [if_neg hk, show (n : Int) - 1 = ((n - 1 : Nat) : Int) by omega] at h
        obtain ⟨ts, e1, e2, e3⟩ := ih k (i + 1) (n - 1) (by omega) (by omega) (by omega) h
        refine ⟨Tm.mk xs[i].kind xs[i].n xs[i].text [] :: ts, by simp; omega, ?_, ?_⟩
        · rw [List.drop_eq_getElem_cons hi, ← e2]; simp [flats, flat]
        · simp only [Wfs, Wf]
          exact ⟨⟨hb, fun h => absurd h hk, fun _ => trivial, trivial⟩, e3⟩
    · rw [if_pos (by simpa using hb)] at h; simp at h
theorem valid_tree (xs : List Cell) (k : Nat) (h : spec_ValidTerm.f k xs = some true) : xs.length ≤ 2000 ∧ ∃ t, flat t = xs ∧ Wf t := by
  rw [spec_ValidTerm.f] at h
  split at h
  · simp at h
  · rename_i hl
    have hl' : xs.length ≤ 2000 := by omega
    obtain ⟨ts, e1, e2, e3⟩ := valid_trees xs hl' xs.length k 0 1 rfl (by omega) (by omega) h
    refine ⟨hl', ?_⟩
    match ts, e1, e2, e3 with
    | [t], _, e2, e3 =>
      refine ⟨t, by simpa [flats] using e2, ?_⟩
      simp only [Wfs] at e3
      exact e3.1
theorem valid_flats (xs : List Cell) (hx : xs.length ≤ 2000) : ∀ (m k i e : Nat) (us : List Tm) (r : List Cell), (flats us).length = m → Wfs us → xs.drop i = flats us ++ r → us.length + e ≤ 100000 → e ≤ 50000 →
    spec_ValidTerm.l0 (k + m) xs ((us.length + e : Nat) : Int) (i : Int) = spec_ValidTerm.l0 k xs (e : Int) ((i + m : Nat) : Int) := by
  intro m
  induction m with
  | zero =>
    intro k i e us r h1 hw hd h2 h3
    cases us with
    | nil => simp
    | cons t us => have := flat_pos t; simp only [flats, List.length_append] at h1; omega
  | succ m ih =>
    intro k i e us r h1 hw hd h2 h3
    cases us with
    | nil => simp [flats] at h1
    | cons t us =>
      obtain ⟨kd, n, s, vs⟩ := t
      simp only [Wfs, Wf] at hw
      obtain ⟨⟨w0, w1, w2, w3⟩, w4⟩ := hw
      have hi : i < xs.length := by
        rcases Nat.lt_or_ge i xs.length with h | h
        · exact h
        · rw [List.drop_of_length_le h] at hd; simp [flats, flat] at hd
      have hc : xs[i] = ⟨kd, n, s⟩ := by
        rw [List.drop_eq_getElem_cons hi] at hd
        simp only [flats, flat, List.cons_append] at hd
        exact (List.cons.inj hd).1
      have hd2 : xs.drop (i + 1) = flats (vs ++ us) ++ r := by
        rw [List.drop_eq_getElem_cons hi] at hd
        simp only [flats, flat, List.cons_append] at hd
        rw [(List.cons.inj hd).2, flats_append]
      have hm : (flats (vs ++ us)).length = m := by
        simp only [flats, flat, List.cons_append, List.length_cons] at h1
        rw [flats_append]; omega
      have hl : (flats (vs ++ us)).length ≤ 2000 := by
        have := congrArg List.length hd2
        rw [List.length_drop, List.length_append] at this; omega
      have hlen := flats_len (vs ++ us)
      rw [show k + (m + 1) = (k + m) + 1 by omega, spec_ValidTerm.l0, if_pos (by omega), if_neg (by simp; omega), if_pos (by omega), Int.toNat_natCast, getD_at hi, hc, wrap_nat (by omega), l2cell_val, Option.bind_some, if_neg (by simpa using w0)]
      have := ih k (i + 1) e (vs ++ us) r hm ((Wfs_append _ _).2 ⟨w3, w4⟩) hd2 (by omega) h3
      rw [show i + (m + 1) = i + 1 + m by omega, ← this]
      simp only [List.length_cons, List.length_append] at hlen h2 ⊢
      by_cases hk : kd = 3
      · have hn := w1 hk
        rw [if_pos hk, wrap_id (n := ((us.length + 1 + e : Nat) : Int) - 1) (by omega) (by omega), wrap_id (by omega) (by omega)]
        congr 1
        omega
      · rw [if_neg hk, wrap_id (by omega) (by omega)]
        have : vs = [] := w2 hk
        subst this
        congr 1
        simp; omega
/-- the cells of a term that is valid -/
noncomputable def okT (xs : List Cell) : Bool := @decide (xs.length ≤ 2000 ∧ ∃ t, flat t = xs ∧ Wf t) (Classical.propDecidable _)
theorem okT_iff (xs : List Cell) : okT xs = true ↔ (xs.length ≤ 2000 ∧ ∃ t, flat t = xs ∧ Wf t) := by unfold okT; exact @decide_eq_true_iff _ (Classical.propDecidable _)
theorem valid_val (xs : List Cell) (k : Nat) (hl : xs.length < 9223372036854775807) (hk : xs.length < k) : spec_ValidTerm.f k xs = some (okT xs) := by
  obtain ⟨_, b, e⟩ := valid_eq xs k hl hk
  cases b with
  | true => rw [e, (okT_iff xs).2 (valid_tree xs k e)]
  | false =>
    rw [e]
    by_cases h : okT xs = true
    · obtain ⟨h1, t, rfl, hw⟩ := (okT_iff xs).1 h
      exfalso
      rw [spec_ValidTerm.f, if_neg (by omega)] at e
      obtain ⟨k, rfl⟩ : ∃ q, k = q + 1 + (flat t).length := ⟨k - 1 - (flat t).length, by omega⟩
      have := valid_flats (flat t) h1 (flat t).length (k + 1) 0 0 [t] [] (by simp [flats]) (by simp [Wfs, hw]) (by simp [flats]) (by simp) (by omega)
      rw [show (([t].length + 0 : Nat) : Int) = 1 from rfl, show ((0 : Nat) : Int) = 0 from rfl] at this
      rw [this, spec_ValidTerm.l0, if_neg (by omega)] at e
      simp at e
    · rw [show okT xs = false by simpa using h]
theorem valid_val' (xs : List Cell) (k : Nat) (hl : xs.length < 9223372036854775807) (hk : xs.length < k) : impl_ValidTerm.f k xs = some (okT xs) := by
  rw [(valid_eq xs k hl hk).1, valid_val xs k hl hk]
theorem okT_all : ∀ (xs : List (List Cell)), xs.all okT = true → ∃ us : List Tm, us.map flat = xs ∧ Wfs us
  | [], _ => ⟨[], rfl, by simp [Wfs]⟩
  | x :: xs, h => by
    rw [List.all_cons, Bool.and_eq_true] at h
    obtain ⟨_, t, rfl, hw⟩ := (okT_iff x).1 h.1
    obtain ⟨us, rfl, hws⟩ := okT_all xs h.2
    exact ⟨t :: us, rfl, by simp only [Wfs]; exact ⟨hw, hws⟩⟩
/-! ### cells to trees -/
mutual
theorem from_flat : ∀ (t : Tm) (k : Nat) (r : List Cell), Wf t → 3 * (flat t).length < k → (flat t).length + r.length ≤ 2000 → impl_fromCells.f k (flat t ++ r) = some (t, r)
  | .mk kd n s us, k, r, hw, hk, hl => by
    obtain ⟨k, rfl⟩ : ∃ q, k = q + 1 := ⟨k - 1, by omega⟩
    simp only [flat, List.length_cons] at hk hl
    simp only [Wf] at hw
    obtain ⟨w0, w1, w2, w6⟩ := hw
    have e0 : flat (Tm.mk kd n s us) ++ r = ⟨kd, n, s⟩ :: (flats us ++ r) := by simp [flat]
    rw [e0, impl_fromCells.f, if_pos (by simp; omega), if_pos (by simp; omega), drop1]
    show (if kd = 3 then impl_fromCells.l0 k _ _ 0 [] else some (Tm.mk kd n s [], flats us ++ r)) = _
    by_cases h : kd = 3
    · rw [if_pos h]
      have a3 := w1 h
      have ⟨a1, a2⟩ := w0.n3 h
      have a1 : 1 ≤ n := a1
      have a2 : n ≤ 20 := a2
      have := from_flats us k ⟨kd, n, s⟩ (flats us ++ r) r [] w6 (by omega) (by omega) (by simp; omega) (by simp; omega)
      simpa using this
    · rw [if_neg h, w2 h]; simp [flats]
theorem from_flats : ∀ (us : List Tm) (k : Nat) (c : Cell) (z r : List Cell) (acc : List Tm), Wfs us → 3 * (flats us).length + 1 < k → (flats us).length + r.length ≤ 2000 → ((acc.length + us.length : Nat) : Int) = c.n → acc.length + us.length ≤ 20 →
    impl_fromCells.l0 k (c :: z) (flats us ++ r) (acc.length : Int) acc = some (Tm.mk c.kind c.n c.text (acc ++ us), r)
  | [], k, c, z, r, acc, hw, hk, hl, hn, hb => by
    obtain ⟨k, rfl⟩ : ∃ q, k = q + 1 := ⟨k - 1, by omega⟩
    rw [impl_fromCells.l0]
    show (if (acc.length : Int) < c.n then _ else some (Tm.mk c.kind c.n c.text acc, flats [] ++ r)) = _
    rw [if_neg (by simp at hn; omega)]
    simp [flats]
  | t :: us, k, c, z, r, acc, hw, hk, hl, hn, hb => by
    obtain ⟨k, rfl⟩ : ∃ q, k = q + 1 := ⟨k - 1, by omega⟩
    simp only [Wfs] at hw
    simp only [flats, List.length_append] at hk hl
    simp only [List.length_cons] at hn hb
    have hp := flat_pos t
    have e0 : flats (t :: us) ++ r = flat t ++ (flats us ++ r) := by simp [flats]
    rw [e0, impl_fromCells.l0]
    rw [from_flat t k (flats us ++ r) hw.1 (by omega) (by simp; omega), Option.bind_some]
    show (if (acc.length : Int) < c.n then _ else _) = _
    rw [if_pos (by omega), if_pos (by omega), wrap_nat (by omega)]
    have := from_flats us k c z r (acc ++ [t]) hw.2 (by omega) (by omega) (by simp; omega) (by simp; omega)
    simpa using this
end
theorem tree_flat (t : Tm) (k : Nat) (hw : Wf t) (hl : (flat t).length ≤ 2000) (hk : 6000 < k) : impl_tree.f k (flat t) = some t := by
  rw [impl_tree.f]
  have := from_flat t k [] hw (by omega) (by simpa using hl)
  rw [List.append_nil] at this
  rw [this]; rfl
/-! ### trees to cells -/
mutual
theorem put_flat : ∀ (t : Tm) (k : Nat) (acc : List Cell), Wf t → 4 * (flat t).length < k → acc.length + (flat t).length ≤ 1000000 → impl_node_put_2.f k t acc = some (acc ++ flat t)
  | .mk kd n s us, k, acc, hw, hk, hl => by
    obtain ⟨k, rfl⟩ : ∃ q, k = q + 3 := ⟨k - 3, by simp [flat] at hk; omega⟩
    simp only [flat, List.length_cons] at hk hl
    simp only [Wf] at hw
    obtain ⟨w0, w1, w2, w6⟩ := hw
    have ht := w0.text
    have e0 : impl_node_put_2.f (k + 3) (Tm.mk kd n s us) acc = impl_node_put_2.l0 (k + 2) (Tm.mk kd n s us) acc s := by
      rw [impl_node_put_2.f]
      show (if kd ≥ 2 then (if s.length ≤ 9223372036854775807 then impl_node_put_2.l0 (k + 2) _ acc s else none) else impl_node_put_2.l0 (k + 2) _ acc []) = _
      by_cases h : kd ≥ 2
      · rw [if_pos h, if_pos (Nat.le_trans ht (by decide))]
      · rw [if_neg h]
        rcases w0 with ⟨_, _, _, h1⟩ | ⟨_, _, _, h1⟩ | ⟨h1, _⟩ | ⟨h1, _⟩
        · have : s = [] := h1
          rw [this]
        · have : s = [] := h1
          rw [this]
        · exact absurd (show kd = 2 from h1) (by omega)
        · exact absurd (show kd = 3 from h1) (by omega)
    rw [e0, impl_node_put_2.l0, if_pos (by omega)]
    have := put_flats us [] k (Tm.mk kd n s us) (acc ++ [⟨kd, n, s⟩]) rfl w6 (by omega) (by simp; omega) (by have := flats_len us; simp; omega)
    simp only [List.length_nil] at this
    exact this.trans (by simp [flat])
theorem put_flats : ∀ (us vs : List Tm) (k : Nat) (t : Tm) (acc : List Cell), t.args = vs ++ us → Wfs us → 4 * (flats us).length + 2 < k + 1 → acc.length + (flats us).length ≤ 1000000 → vs.length + us.length ≤ 1000000 →
    impl_node_put_2.l1 (k + 1) t acc (vs.length : Int) = some (acc ++ flats us)
  | [], vs, k, t, acc, ha, hw, hk, hl, hv => by
    rw [impl_node_put_2.l1, ha, if_neg (by simp)]; simp [flats]
  | u :: us, vs, k, t, acc, ha, hw, hk, hl, hv => by
    simp only [Wfs] at hw
    simp only [flats, List.length_append] at hk hl
    have hp := flat_pos u
    simp only [List.length_cons] at hv
    obtain ⟨k, rfl⟩ : ∃ q, k = q + 1 := ⟨k - 1, by omega⟩
    rw [impl_node_put_2.l1, ha, if_pos (by simp; omega), if_pos (by omega)]
    have hg : (vs ++ u :: us).getD ((vs.length : Int)).toNat (Tm.mk 0 0 [] []) = u := by
      rw [Int.toNat_natCast, List.getD_eq_getElem?_getD, List.getElem?_append_right (by omega), Nat.sub_self]; rfl
    rw [hg, impl_node_cut_2.f, put_flat u k acc hw.1 (by omega) (by omega), Option.bind_some, Option.bind_some, wrap_nat (by omega)]
    have := put_flats us (vs ++ [u]) k t (acc ++ flat u) (by rw [ha]; simp) hw.2 (by omega) (by simp; omega) (by simp; omega)
    rw [show ((vs ++ [u]).length : Int) = ((vs.length + 1 : Nat) : Int) by simp] at this
    rw [this]; simp [flats]
end
theorem cells_flat (t : Tm) (k : Nat) (hw : Wf t) (hl : (flat t).length ≤ 100000) (hk : 400000 < k) : impl_node_cells.f k t = some (flat t) := by
  rw [impl_node_cells.f, put_flat t k [] hw (by omega) (by simp; omega)]; simp
/-! ### names and ends -/
def isT (t : Tm) (s : List UInt8) (a : Int) : Bool := decide (t.text = s) && (if a = 0 then decide (t.kind = 2) else (decide (t.kind = 3) && decide (t.n = a)))
theorem l2is_flat (t : Tm) (r : List Cell) (s : List UInt8) (a : Int) : spec_l2is.f (flat t ++ r) s a = some (isT t s a) := by
  obtain ⟨kd, n, s', us⟩ := t
  have e : (flat (Tm.mk kd n s' us) ++ r).getD 0 z36 = ⟨kd, n, s'⟩ := by simp [flat]
  rw [spec_l2is.f, e, if_pos (by simp [flat]; omega)]
  unfold isT
  show (if s' ≠ s then _ else (if a = 0 then some (decide (kd = 2)) else (if kd = 3 then some (decide (n = a)) else some false))) = some (decide (s' = s) && (if a = 0 then decide (kd = 2) else (decide (kd = 3) && decide (n = a))))
  by_cases h : s' = s
  · rw [if_neg (by simpa using h)]
    by_cases h2 : a = 0
    · simp [h, h2]
    · by_cases h3 : kd = 3 <;> simp [h, h2, h3]
  · rw [if_pos h]; simp [h]
theorem nodeis_val (t : Tm) (s : List UInt8) (a : Int) : impl_node_is.f t s a = some (isT t s a) := by
  rw [impl_node_is.f]
  unfold isT
  by_cases h2 : a = 0
  · by_cases h : t.text = s <;> by_cases h3 : t.kind = 2 <;> simp [h, h2, h3]
  · by_cases h : t.text = s <;> by_cases h3 : t.kind = 3 <;> simp [h, h2, h3]
theorem next_flats (xs : List Cell) (hx : xs.length ≤ 2000) : ∀ (m k i e : Nat) (us : List Tm) (r : List Cell), (flats us).length = m → Wfs us → xs.drop i = flats us ++ r → us.length + e ≤ 100000 → e ≤ 50000 →
    spec_l2next.l0 (k + m) xs (i : Int) ((us.length + e : Nat) : Int) = spec_l2next.l0 k xs ((i + m : Nat) : Int) (e : Int) := by
  intro m
  induction m with
  | zero =>
    intro k i e us r h1 hw hd h2 h3
    cases us with
    | nil => simp
    | cons t us => have := flat_pos t; simp only [flats, List.length_append] at h1; omega
  | succ m ih =>
    intro k i e us r h1 hw hd h2 h3
    cases us with
    | nil => simp [flats] at h1
    | cons t us =>
      obtain ⟨kd, n, s, vs⟩ := t
      simp only [Wfs, Wf] at hw
      obtain ⟨⟨w0, w1, w2, w3⟩, w4⟩ := hw
      have hi : i < xs.length := by
        rcases Nat.lt_or_ge i xs.length with h | h
        · exact h
        · rw [List.drop_of_length_le h] at hd; simp [flats, flat] at hd
      have hc : xs[i] = ⟨kd, n, s⟩ := by
        rw [List.drop_eq_getElem_cons hi] at hd
        simp only [flats, flat, List.cons_append] at hd
        exact (List.cons.inj hd).1
      have hd2 : xs.drop (i + 1) = flats (vs ++ us) ++ r := by
        rw [List.drop_eq_getElem_cons hi] at hd
        simp only [flats, flat, List.cons_append] at hd
        rw [(List.cons.inj hd).2, flats_append]
      have hm : (flats (vs ++ us)).length = m := by
        simp only [flats, flat, List.cons_append, List.length_cons] at h1
        rw [flats_append]; omega
      have hv : vs.length ≤ (flats (vs ++ us)).length := by have := flats_len (vs ++ us); simp at this; omega
      have hl : (flats (vs ++ us)).length ≤ 2000 := by
        have := congrArg List.length hd2
        rw [List.length_drop, List.length_append] at this; omega
      have hlen := flats_len (vs ++ us)
      rw [show k + (m + 1) = (k + m) + 1 by omega, spec_l2next.l0, if_pos (by simp; omega), if_pos (by omega), if_pos (by omega), Int.toNat_natCast, getD_at hi, hc, wrap_nat (by omega)]
      have := ih k (i + 1) e (vs ++ us) r hm ((Wfs_append _ _).2 ⟨w3, w4⟩) hd2 (by omega) h3
      rw [show i + (m + 1) = i + 1 + m by omega, ← this]
      simp only [List.length_cons, List.length_append] at hlen h2 ⊢
      by_cases hk : kd = 3
      · have hn := w1 hk
        rw [if_pos hk, wrap_id (n := ((us.length + 1 + e : Nat) : Int) + n) (by omega) (by omega), wrap_id (by omega) (by omega)]
        congr 1
        omega
      · rw [if_neg hk, wrap_id (by omega) (by omega)]
        have : vs = [] := w2 hk
        subst this
        congr 1
        simp; omega
theorem next_one (c : Cell) (t : Tm) (r : List Cell) (k : Nat) (hw : Wf t) (hl : (flat t).length + r.length < 2000) (hk : 2000 < k) : spec_l2next.f k (c :: (flat t ++ r)) 1 = some ((1 + (flat t).length : Nat) : Int) := by
  rw [spec_l2next.f]
  obtain ⟨k, rfl⟩ : ∃ q, k = q + 1 + (flat t).length := ⟨k - 1 - (flat t).length, by omega⟩
  have := next_flats (c :: (flat t ++ r)) (by simp; omega) (flat t).length (k + 1) 1 0 [t] r (by simp [flats]) (by simp [Wfs, hw]) (by simp [flats]) (by simp) (by omega)
  rw [show (([t].length + 0 : Nat) : Int) = 1 from rfl, show ((1 : Nat) : Int) = 1 from rfl] at this
  rw [this, spec_l2next.l0, if_neg (by simp)]
theorem next_at (xs : List Cell) (u : Tm) (j k : Nat) (r : List Cell) (hx : xs.length ≤ 2000) (hw : Wf u) (hd : xs.drop j = flat u ++ r) (hk : 2001 < k) : spec_l2next.f k xs (j : Int) = some ((j + (flat u).length : Nat) : Int) := by
  have hl : (flat u).length ≤ 2000 := by have := congrArg List.length hd; rw [List.length_drop, List.length_append] at this; omega
  rw [spec_l2next.f]
  obtain ⟨k, rfl⟩ : ∃ q, k = q + 1 + (flat u).length := ⟨k - 1 - (flat u).length, by omega⟩
  have := next_flats xs hx (flat u).length (k + 1) j 0 [u] r (by simp [flats]) (by simp [Wfs, hw]) (by simpa [flats] using hd) (by simp) (by omega)
  rw [show (([u].length + 0 : Nat) : Int) = 1 from rfl] at this
  rw [this, spec_l2next.l0, if_neg (by simp)]
theorem cut_at (ys : List Cell) (u : Tm) (j : Nat) (r : List Cell) (hd : ys.drop j = flat u ++ r) : (ys.drop (j : Int).toNat).take (((j + (flat u).length : Nat) : Int).toNat - (j : Int).toNat) = flat u := by
  rw [Int.toNat_natCast, Int.toNat_natCast, hd, Nat.add_sub_cancel_left]; simp
theorem cut_one (xs : List Cell) (i : Nat) (hi : i < xs.length) : (xs.drop (i : Int).toNat).take (((i + 1 : Nat) : Int).toNat - (i : Int).toNat) = [xs[i]] := by
  rw [Int.toNat_natCast, Int.toNat_natCast, Nat.add_sub_cancel_left, List.drop_eq_getElem_cons hi]; rfl
theorem l2copy_val (xs : List Cell) (k : Nat) (hl : xs.length ≤ 1000000) (ht : ∀ c, c ∈ xs → c.text.length ≤ 1000000) (hk : xs.length < k) : spec_l2copy.f k xs = some xs := by
  rw [spec_l2copy.f]
  have key : ∀ (m k i : Nat), xs.length - i = m → i ≤ xs.length → m < k → spec_l2copy.l0 k xs (xs.take i) (i : Int) = some xs := by
    intro m
    induction m with
    | zero =>
      intro k i h1 h2 h3
      obtain ⟨k, rfl⟩ : ∃ q, k = q + 1 := ⟨k - 1, by omega⟩
      rw [spec_l2copy.l0, if_neg (by omega), List.take_of_length_le (by omega)]
    | succ m ih =>
      intro k i h1 h2 h3
      obtain ⟨k, rfl⟩ : ∃ q, k = q + 1 := ⟨k - 1, by omega⟩
      have hi : i < xs.length := by omega
      have hlt := ht _ (List.getElem_mem hi)
      rw [spec_l2copy.l0, if_pos (by omega), if_pos (by omega), Int.toNat_natCast, getD_at hi, spec_l1copy.f, if_pos (by omega), Option.bind_some, if_pos (by rw [List.length_take]; omega), wrap_nat (by omega)]
      have e : xs.take i ++ [(⟨xs[i].kind, xs[i].n, xs[i].text⟩ : Cell)] = xs.take (i + 1) := by rw [List.take_add_one, List.getElem?_eq_getElem hi]; rfl
      rw [e]
      exact ih k (i + 1) (by omega) (by omega) (by omega)
  exact key xs.length k 0 rfl (by omega) hk
theorem okc_parts {k n : Int} {s : List UInt8} (h : Okc ⟨k, n, s⟩) : (k = 0 ∨ k = 1 ∨ k = 2 ∨ k = 3) ∧ (k = 0 ∨ k = 1 → s = []) ∧ (k = 2 → n = 0) ∧ (k = 3 → 1 ≤ n ∧ n ≤ 20) := by
  unfold Okc at h
  simp only at h
  rcases h with ⟨h, _, _, h2⟩ | ⟨h, _, _, h2⟩ | ⟨h, h2, _⟩ | ⟨h, h2, h3, _⟩
  · exact ⟨.inl h, fun _ => h2, fun q => by omega, fun q => by omega⟩
  · exact ⟨.inr (.inl h), fun _ => h2, fun q => by omega, fun q => by omega⟩
  · exact ⟨.inr (.inr (.inl h)), fun q => by omega, fun _ => h2, fun q => by omega⟩
  · exact ⟨.inr (.inr (.inr h)), fun q => by omega, fun q => by omega, fun _ => ⟨h2, h3⟩⟩
/-! ### FnExactNormalBody -/
def dol (s : List UInt8) : Bool := match s with
  | [] => false
  | c :: _ => c == 36
def constr (k n : Int) (s : List UInt8) : Bool := isT (.mk k n s []) [44] 2 || isT (.mk k n s []) [59] 2 || isT (.mk k n s []) [45, 62] 2 || isT (.mk k n s []) [92, 43] 1 || isT (.mk k n s []) [111, 110, 99, 101] 1 || isT (.mk k n s []) [102, 111, 114, 97, 108, 108] 2 || isT (.mk k n s []) [33] 0
def fin (k n : Int) (s : List UInt8) (ps : List Tm) : Tm :=
  if isT (.mk k n s []) [111, 110, 99, 101] 1 then .mk 3 2 [45, 62] [ps.getD 0 (.mk 0 0 [] []), .mk 2 0 [116, 114, 117, 101] []]
  else if isT (.mk k n s []) [102, 111, 114, 97, 108, 108] 2 then .mk 3 1 [92, 43] [.mk 3 2 [44] [ps.getD 0 (.mk 0 0 [] []), .mk 3 1 [92, 43] (ps.drop 1)]]
  else .mk 3 (ps.length : Int) s ps
mutual
def norm : Tm → Option Tm
  | .mk k n s us => if k = 0 then some (.mk 3 1 [99, 97, 108, 108] [.mk k n s us]) else if k = 1 ∨ dol s = true then none else if constr k n s = false ∨ k = 2 then some (.mk k n s us) else (normAll us).map (fin k n s)
def normAll : List Tm → Option (List Tm)
  | [] => some []
  | u :: us => (norm u).bind fun a => (normAll us).map fun b => a :: b
end
theorem isT_mk (k n : Int) (s : List UInt8) (us : List Tm) (z : List UInt8) (a : Int) : isT (.mk k n s us) z a = isT (.mk k n s []) z a := rfl
theorem dol_val (s : List UInt8) : spec_l8dollar.f s = some (dol s) := by
  rw [spec_l8dollar.f]
  cases s with
  | nil => rfl
  | cons c s =>
    rw [if_pos (by simp <;> omega), if_pos (by simp <;> omega)]
    show some (decide ((c.toNat : Int) = 36)) = some (c == 36)
    congr 1
    by_cases h : c = 36
    · subst h; rfl
    · have h2 : ¬ (c.toNat : Int) = 36 := fun e => h (UInt8.toNat_inj.1 (by show c.toNat = 36; omega))
      simp [h, h2]
theorem prefix_val (s : List UInt8) : strings_HasPrefix.f s [36] = some (dol s) := by
  rw [strings_HasPrefix.f, stringslite_HasPrefix.f]
  cases s with
  | nil => rfl
  | cons c s =>
    rw [if_pos (by simp <;> omega), if_pos (by simp <;> omega), if_pos (by simp <;> omega)]
    show some (decide ([c] = [36])) = some (c == 36)
    congr 1
    by_cases h : c = 36 <;> simp [h]
theorem construct_val (t : Tm) : spec_l8construct.f (flat t) = some (constr t.kind t.n t.text) := by
  have e : ∀ z a, spec_l2is.f (flat t) z a = some (isT (.mk t.kind t.n t.text []) z a) := fun z a => by
    have := l2is_flat t [] z a
    rw [List.append_nil] at this
    rw [this]; rfl
  rw [spec_l8construct.f]
  simp only [e, Option.bind_some, constr]
  cases isT (.mk t.kind t.n t.text []) [44] 2 <;> cases isT (.mk t.kind t.n t.text []) [59] 2 <;> cases isT (.mk t.kind t.n t.text []) [45, 62] 2 <;> cases isT (.mk t.kind t.n t.text []) [92, 43] 1 <;> cases isT (.mk t.kind t.n t.text []) [111, 110, 99, 101] 1 <;> cases isT (.mk t.kind t.n t.text []) [102, 111, 114, 97, 108, 108] 2 <;> rfl
theorem flats_map : ∀ us : List Tm, (us.map flat).flatten = flats us
  | [] => rfl
  | u :: us => by simp [flats, flats_map us]
theorem comp_val (s : List UInt8) (us : List Tm) (k : Nat) (hs : s.length ≤ 1000) (hl : (flats us).length ≤ 100000) (ht : ∀ c, c ∈ flats us → c.text.length ≤ 1000000) (hk : 300000 < k) : spec_l2comp.f k s (us.map flat) = some (flat (.mk 3 (us.length : Int) s us)) := by
  rw [spec_l2comp.f, if_pos (by omega), List.length_map]
  have hul := flats_len us
  have key : ∀ (m k i : Nat), us.length - i = m → i ≤ us.length → m + 100001 < k → spec_l2comp.l0 k (us.map flat) (⟨3, (us.length : Int), s⟩ :: flats (us.take i)) (i : Int) = some (flat (.mk 3 (us.length : Int) s us)) := by
    intro m
    induction m with
    | zero =>
      intro k i h1 h2 h3
      obtain ⟨k, rfl⟩ : ∃ q, k = q + 1 := ⟨k - 1, by omega⟩
      rw [spec_l2comp.l0, if_neg (by simp; omega), List.take_of_length_le (by omega)]; rfl
    | succ m ih =>
      intro k i h1 h2 h3
      obtain ⟨k, rfl⟩ : ∃ q, k = q + 1 := ⟨k - 1, by omega⟩
      have hi : i < us.length := by omega
      have hg : (us.map flat).getD i ([] : List Cell) = flat us[i] := by rw [getD_at (by simpa using hi), List.getElem_map]
      have hsp : flats us = flats (us.take i) ++ (flat us[i] ++ flats (us.drop (i + 1))) := by
        have htd := List.take_append_drop i us
        rw [List.drop_eq_getElem_cons hi] at htd
        conv => lhs; rw [← htd]
        rw [flats_append]; rfl
      have hlen := congrArg List.length hsp
      rw [List.length_append, List.length_append] at hlen
      rw [spec_l2comp.l0, if_pos (by simp; omega), if_pos (by omega), Int.toNat_natCast, hg, l2copy_val _ _ (by omega) (fun c hc => ht c (by rw [hsp]; exact List.mem_append_right _ (List.mem_append_left _ hc))) (by omega), Option.bind_some, if_pos (by simp; omega), wrap_nat (by omega)]
      have e : (⟨3, (us.length : Int), s⟩ :: flats (us.take i)) ++ flat us[i] = (⟨3, (us.length : Int), s⟩ : Cell) :: flats (us.take (i + 1)) := by
        rw [List.take_add_one, List.getElem?_eq_getElem hi, flats_append]; simp [flats]
      rw [e]
      exact ih k (i + 1) (by omega) (by omega) (by omega)
  have := key us.length k 0 rfl (by omega) (by omega)
  simpa [flats] using this
theorem args_val (n : Int) (s : List UInt8) (us : List Tm) (k : Nat) (hw : Wf (.mk 3 n s us)) (hl : (flats us).length < 2000) (hk : 10000 < k) : spec_l2args.f k (flat (.mk 3 n s us)) = some (us.map flat) := by
  have hw2 := hw
  simp only [Wf] at hw2
  have hn : (us.length : Int) = n := hw2.2.1 (by trivial)
  have hws := hw2.2.2.2
  have e0 : (flat (.mk 3 n s us)).getD 0 z36 = ⟨3, n, s⟩ := by simp [flat]
  rw [spec_l2args.f, if_neg (by simp [flat] <;> omega), if_pos (by simp [flat] <;> omega), e0, if_neg (by simp)]
  have hul := flats_len us
  have key : ∀ (m k i : Nat), us.length - i = m → i ≤ us.length → m + 3000 < k → spec_l2args.l0 k (flat (.mk 3 n s us)) ((us.take i).map flat) ((1 + (flats (us.take i)).length : Nat) : Int) (i : Int) = some (us.map flat) := by
    intro m
    induction m with
    | zero =>
      intro k i h1 h2 h3
      obtain ⟨k, rfl⟩ : ∃ q, k = q + 1 := ⟨k - 1, by omega⟩
      rw [spec_l2args.l0, e0, if_neg (by show ¬ (i : Int) < n; omega), List.take_of_length_le (by omega)]
    | succ m ih =>
      intro k i h1 h2 h3
      obtain ⟨k, rfl⟩ : ∃ q, k = q + 1 := ⟨k - 1, by omega⟩
      have hi : i < us.length := by omega
      have htd := List.take_append_drop i us
      rw [List.drop_eq_getElem_cons hi] at htd
      have hwi : Wf us[i] := by
        rw [← htd, Wfs_append] at hws
        have := hws.2
        simp only [Wfs] at this
        exact this.1
      have hsp : flats us = flats (us.take i) ++ (flat us[i] ++ flats (us.drop (i + 1))) := by
        conv => lhs; rw [← htd]
        rw [flats_append]; rfl
      have hlen := congrArg List.length hsp
      rw [List.length_append, List.length_append] at hlen
      have hd : (flat (.mk 3 n s us)).drop (1 + (flats (us.take i)).length) = flat us[i] ++ flats (us.drop (i + 1)) := by
        rw [Nat.add_comm]
        show (flats us).drop _ = _
        rw [hsp]; simp
      have hfl : (flat (.mk 3 n s us)).length = (flats us).length + 1 := by simp [flat]
      rw [spec_l2args.l0, e0, if_pos (by show (i : Int) < n; omega), next_at _ us[i] _ k _ (by omega) hwi hd (by omega), Option.bind_some, if_pos (by omega), if_pos (by omega), if_pos (by omega), if_pos (by simp; omega), cut_at _ us[i] _ _ hd, wrap_nat (by omega)]
      have e1 : (us.take i).map flat ++ [flat us[i]] = (us.take (i + 1)).map flat := by rw [List.take_add_one, List.getElem?_eq_getElem hi, List.map_append]; rfl
      have e2 : 1 + (flats (us.take i)).length + (flat us[i]).length = 1 + (flats (us.take (i + 1))).length := by
        rw [List.take_add_one, List.getElem?_eq_getElem hi, flats_append]; simp [flats]; omega
      rw [e1, e2]
      exact ih k (i + 1) (by omega) (by omega) (by omega)
  have := key us.length k 0 rfl (by omega) (by omega)
  simpa [flats] using this
theorem normAll_len : ∀ (us vs : List Tm), normAll us = some vs → vs.length = us.length
  | [], vs, h => by simp [normAll] at h; simp [h]
  | u :: us, vs, h => by
    rw [normAll] at h
    obtain ⟨a, _, h⟩ := Option.bind_eq_some_iff.1 h
    obtain ⟨b, hb, h⟩ := Option.map_eq_some_iff.1 h
    have := normAll_len us b hb
    rw [← h, List.length_cons, List.length_cons, this]
/-- a construct's shape -/
theorem isT_parts {k n : Int} {s z : List UInt8} {us : List Tm} {a : Int} (h : isT (.mk k n s us) z a = true) (ha : a ≠ 0) : s = z ∧ k = 3 ∧ n = a := by
  unfold isT at h
  rw [if_neg ha] at h
  simp only [Bool.and_eq_true, decide_eq_true_eq] at h
  exact h
theorem fin_ok (k n : Int) (s : List UInt8) (ps : List Tm) (hk : k = 3) (hn : (ps.length : Int) = n) (hn2 : 1 ≤ n) (hn3 : n ≤ 20) (hs : s.length ≤ 100) (hw : Wfs ps) : Wf (fin k n s ps) ∧ (flat (fin k n s ps)).length ≤ (flats ps).length + 4 := by
  have ok2 : ∀ (a b : List UInt8) (z : Int), a.length ≤ 100 → z = 1 ∨ z = 2 → Okc ⟨3, z, a⟩ := fun a b z h1 h2 => .inr (.inr (.inr ⟨rfl, by show (1 : Int) ≤ z; omega, by show z ≤ 20; omega, h1⟩))
  unfold fin
  by_cases h1 : isT (.mk k n s []) [111, 110, 99, 101] 1 = true
  · rw [if_pos h1]
    obtain ⟨_, _, h1⟩ := isT_parts h1 (by decide)
    match ps, hn with
    | [p], _ =>
      simp only [Wfs] at hw
      refine ⟨?_, by simp [flat, flats]⟩
      simp only [Wf, Wfs, List.getD_cons_zero]
      exact ⟨ok2 _ [] 2 (by decide) (.inr rfl), by simp, by simp, hw.1, ⟨.inr (.inr (.inl ⟨rfl, rfl, by decide⟩)), by simp, by simp, trivial⟩, trivial⟩
    | [], hn => exact absurd hn (by simp; omega)
    | p :: q :: r, hn => exact absurd hn (by simp; omega)
  rw [if_neg h1]
  by_cases h2 : isT (.mk k n s []) [102, 111, 114, 97, 108, 108] 2 = true
  · rw [if_pos h2]
    obtain ⟨_, _, h2⟩ := isT_parts h2 (by decide)
    match ps, hn with
    | [p, q], _ =>
      simp only [Wfs] at hw
      refine ⟨?_, by simp [flat, flats]; omega⟩
      simp only [Wf, Wfs, List.getD_cons_zero, List.drop_succ_cons, List.drop_zero]
      exact ⟨ok2 _ [] 1 (by decide) (.inl rfl), by simp, by simp, ⟨ok2 _ [] 2 (by decide) (.inr rfl), by simp, by simp, hw.1, ⟨ok2 _ [] 1 (by decide) (.inl rfl), by simp, by simp, hw.2.1, trivial⟩, trivial⟩, trivial⟩
    | [], hn => exact absurd hn (by simp; omega)
    | [p], hn => exact absurd hn (by simp; omega)
    | p :: q :: r :: z, hn => exact absurd hn (by simp; omega)
  rw [if_neg h2]
  refine ⟨?_, by simp [flat]⟩
  simp only [Wf]
  exact ⟨.inr (.inr (.inr ⟨rfl, by show (1 : Int) ≤ (ps.length : Int); omega, by show (ps.length : Int) ≤ 20; omega, hs⟩)), fun _ => trivial, by simp, hw⟩
mutual
theorem norm_ok : ∀ (t u : Tm), Wf t → norm t = some u → Wf u ∧ (flat u).length ≤ 5 * (flat t).length
  | .mk k n s us, u, hw, h => by
    have hw2 := hw
    simp only [Wf] at hw2
    obtain ⟨w0, w1, w2, w3⟩ := hw2
    rw [norm] at h
    have hp := flat_pos (.mk k n s us)
    by_cases h0 : k = 0
    · rw [if_pos h0] at h
      injection h with h
      subst h
      refine ⟨?_, by simp only [flat, flats, List.length_cons, List.length_append, List.length_nil] at hp ⊢; omega⟩
      simp only [Wf, Wfs]
      exact ⟨.inr (.inr (.inr ⟨rfl, by decide, by decide, by decide⟩)), by simp, by simp, ⟨w0, w1, w2, w3⟩, trivial⟩
    rw [if_neg h0] at h
    by_cases h1 : k = 1 ∨ dol s = true
    · rw [if_pos h1] at h; cases h
    rw [if_neg h1] at h
    by_cases h2 : constr k n s = false ∨ k = 2
    · rw [if_pos h2] at h
      injection h with h
      subst h
      exact ⟨hw, by omega⟩
    rw [if_neg h2] at h
    obtain ⟨vs, hv, h⟩ := Option.map_eq_some_iff.1 h
    have hk : k = 3 := by
      rcases (okc_parts w0).1 with q | q | q | q
      · exact absurd q h0
      · exact absurd (.inl q) h1
      · exact absurd (.inr q) h2
      · exact q
    have hl := normAll_len us vs hv
    have hn := w1 hk
    obtain ⟨n1, n2⟩ := (okc_parts w0).2.2.2 hk
    obtain ⟨a1, a2⟩ := normAll_ok us vs w3 hv
    have b := fin_ok k n s vs hk (by omega) n1 n2 w0.text a1
    rw [h] at b
    refine ⟨b.1, ?_⟩
    simp only [flat, List.length_cons]
    omega
theorem normAll_ok : ∀ (us vs : List Tm), Wfs us → normAll us = some vs → Wfs vs ∧ (flats vs).length ≤ 5 * (flats us).length
  | [], vs, _, h => by
    rw [normAll] at h
    injection h with h
    subst h
    exact ⟨by simp [Wfs], by simp [flats]⟩
  | u :: us, vs, hw, h => by
    simp only [Wfs] at hw
    rw [normAll] at h
    obtain ⟨a, ha, h⟩ := Option.bind_eq_some_iff.1 h
    obtain ⟨b, hb, h⟩ := Option.map_eq_some_iff.1 h
    subst h
    obtain ⟨a1, a2⟩ := norm_ok u a hw.1 ha
    obtain ⟨b1, b2⟩ := normAll_ok us b hw.2 hb
    exact ⟨by simp only [Wfs]; exact ⟨a1, b1⟩, by simp only [flats, List.length_append]; omega⟩
end
def res (o : Option Tm) : List Cell × Int := match o with
  | none => ([], 4)
  | some u => (flat u, 0)
theorem comp_wf (s : List UInt8) (us : List Tm) (k : Nat) (hs : s.length ≤ 1000) (hw : Wfs us) (hl : (flats us).length ≤ 100000) (hk : 300000 < k) : spec_l2comp.f k s (us.map flat) = some (flat (.mk 3 (us.length : Int) s us)) :=
  comp_val s us k hs hl (fun c hc => Nat.le_trans (flats_ok us hw c hc).text (by decide)) hk
theorem true_wf : Wf (.mk 2 0 [116, 114, 117, 101] []) := by
  simp only [Wf, Wfs]
  exact ⟨.inr (.inr (.inl ⟨rfl, rfl, by decide⟩)), by simp, by simp, trivial⟩
mutual
theorem body_flat : ∀ (t : Tm) (k : Nat), Wf t → (flat t).length ≤ 2000 → 3 * (flat t).length + 400000 < k → spec_l8body.f k (flat t) = some (res (norm t))
  | .mk kd n s us, k, hw, hl, hk => by
    have hw2 := hw
    simp only [Wf] at hw2
    obtain ⟨w0, w1, w2, w3⟩ := hw2
    have htx := w0.text
    have htx : s.length ≤ 100 := htx
    obtain ⟨k, rfl⟩ : ∃ q, k = q + 1 := ⟨k - 1, by omega⟩
    have e0 : (flat (.mk kd n s us)).getD 0 z36 = ⟨kd, n, s⟩ := by simp [flat]
    have hp := flat_pos (.mk kd n s us)
    rw [spec_l8body.f, if_pos (by omega), e0]
    have hcopy : spec_l2copy.f k (flat (.mk kd n s us)) = some (flat (.mk kd n s us)) := l2copy_val _ _ (by omega) (fun c hc => Nat.le_trans (flat_ok _ hw c hc).text (by decide)) (by omega)
    by_cases h0 : kd = 0
    · have hc := comp_wf [99, 97, 108, 108] [.mk kd n s us] k (by decide) (by simp only [Wfs]; exact ⟨hw, trivial⟩) (by simp [flats]; omega) (by omega)
      rw [show [Tm.mk kd n s us].map flat = [flat (Tm.mk kd n s us)] from rfl] at hc
      have hN : norm (.mk kd n s us) = some (.mk 3 1 [99, 97, 108, 108] [.mk kd n s us]) := by rw [norm, if_pos h0]
      rw [hN, if_pos h0, hc]; rfl
    rw [if_neg h0]
    by_cases h1 : kd = 1
    · have hN : norm (.mk kd n s us) = none := by rw [norm, if_neg h0, if_pos (.inl h1)]
      rw [hN, if_pos h1]; rfl
    rw [if_neg h1, dol_val, Option.bind_some]
    cases hd : dol s with
    | true =>
      have hN : norm (.mk kd n s us) = none := by rw [norm, if_neg h0, if_pos (.inr hd)]
      rw [hN, if_pos rfl]; rfl
    | false =>
      have hc := construct_val (.mk kd n s us)
      have hc : spec_l8construct.f (flat (.mk kd n s us)) = some (constr kd n s) := hc
      have hN0 : norm (.mk kd n s us) = if constr kd n s = false ∨ kd = 2 then some (.mk kd n s us) else (normAll us).map (fin kd n s) := by rw [norm, if_neg h0, if_neg (by simp [h1, hd])]
      rw [hc, Option.bind_some, if_neg (by simp)]
      cases hcc : constr kd n s with
      | false =>
        rw [if_pos (by simp), hcopy, hN0, if_pos (.inl hcc)]; rfl
      | true =>
        rw [if_neg (by simp)]
        by_cases h2 : kd = 2
        · rw [if_pos h2, hcopy, hN0, if_pos (.inr h2)]; rfl
        · rw [if_neg h2, hN0, if_neg (by simp [h2, hcc])]
          have hk3 : kd = 3 := by
            rcases (okc_parts w0).1 with q | q | q | q
            · exact absurd q h0
            · exact absurd q h1
            · exact absurd q h2
            · exact q
          subst hk3
          have hfl : (flat (.mk 3 n s us)).length = (flats us).length + 1 := by simp [flat]
          rw [args_val n s us k hw (by omega) (by omega), Option.bind_some]
          have := body_flats us [] [] k n s (w1 rfl) htx rfl w3 (by simp [Wfs]) (by omega) (by simp only [flats, List.length_nil]; omega) (by omega)
          simpa using this
theorem body_flats : ∀ (us vs acc : List Tm) (k : Nat) (n : Int) (s : List UInt8), ((vs ++ us).length : Int) = n → s.length ≤ 100 → acc.length = vs.length → Wfs us → Wfs acc → (flats us).length ≤ 2000 → (flats acc).length + 5 * (flats us).length ≤ 20000 → 3 * (flats us).length + 400001 < k →
    spec_l8body.l0 k (flat (.mk 3 n s (vs ++ us))) ((vs ++ us).map flat) (acc.map flat) (vs.length : Int) = some (res ((normAll us).map fun bs => fin 3 n s (acc ++ bs)))
  | [], vs, acc, k, n, s, hn, hs, ha, hw, hwa, hl, hla, hk => by
    obtain ⟨k, rfl⟩ : ∃ q, k = q + 1 := ⟨k - 1, by omega⟩
    have e0 : (flat (.mk 3 n s (vs ++ []))).getD 0 z36 = ⟨3, n, s⟩ := by simp [flat]
    have il : ∀ z a, spec_l2is.f (flat (.mk 3 n s (vs ++ []))) z a = some (isT (.mk 3 n s []) z a) := fun z a => by
      have := l2is_flat (.mk 3 n s (vs ++ [])) [] z a
      rw [List.append_nil] at this
      rw [this]; rfl
    simp only [flats, List.length_nil] at hla
    simp only [List.append_nil] at hn
    rw [spec_l8body.l0, if_neg (by simp), il, il, Option.bind_some, e0, normAll, Option.map_some, List.append_nil]
    unfold fin
    by_cases h1 : isT (.mk 3 n s []) [111, 110, 99, 101] 1 = true
    · rw [if_pos h1, if_pos h1]
      have hn1 := (isT_parts h1 (by decide)).2.2
      match acc, ha, hwa, hla with
      | [p], _, hwa, hla =>
        have c := comp_wf [45, 62] [p, .mk 2 0 [116, 114, 117, 101] []] k (by decide) (by simp only [Wfs] at hwa ⊢; exact ⟨hwa.1, true_wf, trivial⟩) (by simp [flats, flat] at hla ⊢; omega) (by omega)
        rw [if_pos (by simp), spec_l2atom.f, if_pos (by decide), Option.bind_some, spec_l2pair.f]
        have c2 : spec_l2comp.f k [45, 62] [([p].map flat).getD 0 [], [(⟨2, 0, [116, 114, 117, 101]⟩ : Cell)]] = some (flat (.mk 3 2 [45, 62] [p, .mk 2 0 [116, 114, 117, 101] []])) := c
        rw [c2]; rfl
      | [], ha, _, _ => exact absurd ha (by simp; omega)
      | p :: q :: r, ha, _, _ => exact absurd ha (by simp; omega)
    rw [if_neg h1, if_neg h1, Option.bind_some]
    by_cases h2 : isT (.mk 3 n s []) [102, 111, 114, 97, 108, 108] 2 = true
    · rw [if_pos h2, if_pos h2]
      have hn2 := (isT_parts h2 (by decide)).2.2
      match acc, ha, hwa, hla with
      | [p, q], _, hwa, hla =>
        simp only [Wfs] at hwa
        have hq : Wf (.mk 3 1 [92, 43] [q]) := by
          simp only [Wf, Wfs]
          exact ⟨.inr (.inr (.inr ⟨rfl, by decide, by decide, by decide⟩)), by simp, by simp, hwa.2.1, trivial⟩
        have hpq : Wf (.mk 3 2 [44] [p, .mk 3 1 [92, 43] [q]]) := by
          simp only [Wf, Wfs] at hq ⊢
          exact ⟨.inr (.inr (.inr ⟨rfl, by decide, by decide, by decide⟩)), by simp, by simp, hwa.1, hq, trivial⟩
        simp only [flats, List.length_append, List.length_nil] at hla
        have c1 := comp_wf [92, 43] [q] k (by decide) (by simp only [Wfs]; exact ⟨hwa.2.1, trivial⟩) (by simp [flats]; omega) (by omega)
        have c2 := comp_wf [44] [p, .mk 3 1 [92, 43] [q]] k (by decide) (by simp only [Wfs]; exact ⟨hwa.1, hq, trivial⟩) (by simp [flats, flat]; omega) (by omega)
        have c3 := comp_wf [92, 43] [.mk 3 2 [44] [p, .mk 3 1 [92, 43] [q]]] k (by decide) (by simp only [Wfs]; exact ⟨hpq, trivial⟩) (by simp [flats, flat]; omega) (by omega)
        have d1 : spec_l2comp.f k [92, 43] (([p, q].map flat).drop (1 : Int).toNat) = some (flat (.mk 3 1 [92, 43] [q])) := c1
        have d2 : spec_l2comp.f k [44] [([p, q].map flat).getD 0 [], flat (.mk 3 1 [92, 43] [q])] = some (flat (.mk 3 2 [44] [p, .mk 3 1 [92, 43] [q]])) := c2
        have d3 : spec_l2comp.f k [92, 43] [flat (.mk 3 2 [44] [p, .mk 3 1 [92, 43] [q]])] = some (flat (.mk 3 1 [92, 43] [.mk 3 2 [44] [p, .mk 3 1 [92, 43] [q]]])) := c3
        rw [if_pos (by simp), if_pos (by simp), d1, Option.bind_some, spec_l2pair.f, d2, Option.bind_some, Option.bind_some, d3]; rfl
      | [], ha, _, _ => exact absurd ha (by simp; omega)
      | [p], ha, _, _ => exact absurd ha (by simp; omega)
      | p :: q :: r :: z, ha, _, _ => exact absurd ha (by simp; omega)
    rw [if_neg h2, if_neg h2]
    have c := comp_wf s acc k (by omega) hwa (by omega) (by omega)
    rw [show (⟨3, n, s⟩ : Cell).text = s from rfl, c]; rfl
  | u :: us, vs, acc, k, n, s, hn, hs, ha, hw, hwa, hl, hla, hk => by
    simp only [Wfs] at hw
    simp only [flats, List.length_append] at hl hla hk
    have hp := flat_pos u
    obtain ⟨k, rfl⟩ : ∃ q, k = q + 1 := ⟨k - 1, by omega⟩
    have hg : ((vs ++ u :: us).map flat).getD vs.length ([] : List Cell) = flat u := by
      rw [List.getD_eq_getElem?_getD, List.map_append, List.getElem?_append_right (by simp), List.length_map, Nat.sub_self]; rfl
    have hnb : vs.length ≤ 1000000 := by
      have := flats_len acc
      omega
    rw [spec_l8body.l0, if_pos (by simp; omega), if_pos (by omega), Int.toNat_natCast, hg, body_flat u k hw.1 (by omega) (by omega), Option.bind_some, normAll]
    cases hu : norm u with
    | none => rfl
    | some a =>
      obtain ⟨a1, a2⟩ := norm_ok u a hw.1 hu
      rw [show (res (some a)).2 = 0 from rfl, if_neg (by simp), if_pos (by simp; omega), wrap_nat (by omega)]
      have := body_flats us (vs ++ [u]) (acc ++ [a]) k n s (by rw [← hn]; simp) hs (by simp [ha]) hw.2 ((Wfs_append _ _).2 ⟨hwa, by simp only [Wfs]; exact ⟨a1, trivial⟩⟩) (by omega) (by rw [flats_append, List.length_append]; simp only [flats, List.append_nil]; omega) (by omega)
      rw [show ((vs ++ [u]).length : Int) = ((vs.length + 1 : Nat) : Int) by simp] at this
      have e1 : (acc ++ [a]).map flat = acc.map flat ++ [(res (some a)).1] := by simp [res]
      rw [e1] at this
      simp only [List.append_assoc, List.singleton_append] at this
      rw [this, Option.bind_some, Option.map_map]
      rfl
end
theorem is_mk (k n : Int) (s : List UInt8) (us : List Tm) (z : List UInt8) (a : Int) : impl_node_is.f (.mk k n s us) z a = some (isT (.mk k n s []) z a) := by rw [nodeis_val]; rfl
theorem normal_val : ∀ (m : Nat) (t : Tm) (k : Nat), (flat t).length = m → Wf t → 3 * m < k → impl_normal.f k t = some (norm t) := by
  intro m
  induction m using Nat.strongRecOn with
  | _ m ih =>
    intro t k hm hw hk
    obtain ⟨kd, n, s, us⟩ := t
    have hw2 := hw
    simp only [Wf] at hw2
    obtain ⟨w0, w1, w2, w3⟩ := hw2
    have hfl : (flat (.mk kd n s us)).length = (flats us).length + 1 := by simp [flat]
    obtain ⟨k, rfl⟩ : ∃ q, k = q + 3 := ⟨k - 3, by omega⟩
    rw [impl_normal.f]
    show (if kd = 0 then _ else if kd = 1 then impl_normal.l0 (k + 2) (.mk kd n s us) (decide (kd = 1)) else (strings_HasPrefix.f s [36]).bind fun t52 => impl_normal.l0 (k + 2) (.mk kd n s us) t52) = _
    by_cases h0 : kd = 0
    · rw [if_pos h0, norm, if_pos h0]; rfl
    rw [if_neg h0, prefix_val, Option.bind_some]
    have hl0 : ∀ b, impl_normal.l0 (k + 2) (.mk kd n s us) b = if b = true then some none else impl_normal.l1 (k + 1) (.mk kd n s us) (isT (.mk kd n s []) [44] 2 || isT (.mk kd n s []) [59] 2 || isT (.mk kd n s []) [45, 62] 2) := fun b => by
      rw [impl_normal.l0]
      simp only [is_mk, Option.bind_some]
      cases isT (.mk kd n s []) [44] 2 <;> cases isT (.mk kd n s []) [59] 2 <;> cases isT (.mk kd n s []) [45, 62] 2 <;> rfl
    rw [hl0, hl0]
    by_cases h1 : kd = 1
    · rw [if_pos h1, if_pos (by simp [h1]), norm, if_neg h0, if_pos (.inl h1)]
    rw [if_neg h1]
    cases hd : dol s with
    | true => rw [if_pos rfl, norm, if_neg h0, if_pos (.inr hd)]
    | false =>
      rw [if_neg (by simp)]
      have hN0 : norm (.mk kd n s us) = if constr kd n s = false ∨ kd = 2 then some (.mk kd n s us) else (normAll us).map (fin kd n s) := by rw [norm, if_neg h0, if_neg (by simp [h1, hd])]
      rw [hN0, impl_normal.l1]
      simp only [is_mk, Option.bind_some]
      have two : ∀ z, isT (.mk kd n s []) z 2 = true → kd = 3 ∧ s = z ∧ ∃ a b, us = [a, b] ∧ impl_normal.f k a = some (norm a) ∧ impl_normal.f k b = some (norm b) := fun z hz => by
        obtain ⟨e1, e2, e3⟩ := isT_parts hz (by decide)
        have hn := w1 e2
        match us, hn, w3, hfl with
        | [a, b], _, w3, hfl =>
          simp only [Wfs] at w3
          simp only [flats, List.length_append, List.length_nil] at hfl
          have := flat_pos a
          have := flat_pos b
          exact ⟨e2, e1, a, b, rfl, ih _ (by omega) a k rfl w3.1 (by omega), ih _ (by omega) b k rfl w3.2.1 (by omega)⟩
        | [], hn, _, _ => exact absurd hn (by simp; omega)
        | [a], hn, _, _ => exact absurd hn (by simp; omega)
        | a :: b :: c :: r, hn, _, _ => exact absurd hn (by simp; omega)
      have one : ∀ z, isT (.mk kd n s []) z 1 = true → kd = 3 ∧ s = z ∧ ∃ a, us = [a] ∧ impl_normal.f k a = some (norm a) := fun z hz => by
        obtain ⟨e1, e2, e3⟩ := isT_parts hz (by decide)
        have hn := w1 e2
        match us, hn, w3, hfl with
        | [a], _, w3, hfl =>
          simp only [Wfs] at w3
          simp only [flats, List.length_append, List.length_nil] at hfl
          have := flat_pos a
          exact ⟨e2, e1, a, rfl, ih _ (by omega) a k rfl w3.1 (by omega)⟩
        | [], hn, _, _ => exact absurd hn (by simp; omega)
        | a :: b :: r, hn, _, _ => exact absurd hn (by simp; omega)
      cases hb : (isT (.mk kd n s []) [44] 2 || isT (.mk kd n s []) [59] 2 || isT (.mk kd n s []) [45, 62] 2) with
      | true =>
        have hc : constr kd n s = true := by
          unfold constr
          rw [hb]; rfl
        have hz : ∃ z, isT (.mk kd n s []) z 2 = true ∧ z ≠ [102, 111, 114, 97, 108, 108] ∧ z ≠ [111, 110, 99, 101] := by
          simp only [Bool.or_eq_true] at hb
          rcases hb with (hb | hb) | hb
          · exact ⟨_, hb, by decide, by decide⟩
          · exact ⟨_, hb, by decide, by decide⟩
          · exact ⟨_, hb, by decide, by decide⟩
        obtain ⟨z, hz, hz1, hz2⟩ := hz
        obtain ⟨rfl, rfl, a, b, rfl, ea, eb⟩ := two z hz
        have f1 : isT (.mk 3 n s []) [111, 110, 99, 101] 1 = false := by simp [isT, Tm.text, hz2]
        have f2 : isT (.mk 3 n s []) [102, 111, 114, 97, 108, 108] 2 = false := by simp [isT, Tm.text, hz1]
        rw [if_neg (c := constr 3 n s = false ∨ (3 : Int) = 2) (by simp [hc]), if_pos rfl]
        show (if 0 < (([a, b] : List Tm).length : Int) then (if 1 < (([a, b] : List Tm).length : Int) then (impl_normal.f k a).bind fun t152 => (impl_normal.f k b).bind fun t164 => (impl_normal_c1.f s t152 t164).bind fun t176 => some t176 else none) else none) = _
        rw [if_pos (by simp), if_pos (by simp), ea, eb, normAll, normAll, normAll]
        cases norm a with
        | none => rfl
        | some a' =>
          cases norm b with
          | none => rfl
          | some b' =>
            show _ = some (some (fin 3 n s [a', b']))
            unfold fin
            rw [if_neg (by simp [f1]), if_neg (by simp [f2])]; rfl
      | false =>
        rw [if_neg (by simp)]
        by_cases g1 : isT (.mk kd n s []) [92, 43] 1 = true
        · obtain ⟨rfl, rfl, a, rfl, ea⟩ := one _ g1
          have hc : constr 3 n [92, 43] = true := by unfold constr; rw [hb, g1]; rfl
          rw [if_pos g1, if_neg (c := constr 3 n [92, 43] = false ∨ (3 : Int) = 2) (by simp [hc])]
          show (if 0 < (([a] : List Tm).length : Int) then (impl_normal.f k a).bind fun t207 => (impl_normal_c2.f t207).bind fun t217 => some t217 else none) = _
          rw [if_pos (by simp), ea, normAll, normAll]
          cases norm a with
          | none => rfl
          | some a' =>
            show _ = some (some (fin 3 n [92, 43] [a']))
            unfold fin
            rw [if_neg (by simp [isT, Tm.text]), if_neg (by simp [isT, Tm.text])]; rfl
        rw [if_neg g1]
        by_cases g2 : isT (.mk kd n s []) [111, 110, 99, 101] 1 = true
        · obtain ⟨rfl, rfl, a, rfl, ea⟩ := one _ g2
          have hc : constr 3 n [111, 110, 99, 101] = true := by unfold constr; rw [hb, g2]; simp
          rw [if_pos g2, if_neg (c := constr 3 n [111, 110, 99, 101] = false ∨ (3 : Int) = 2) (by simp [hc])]
          show (if 0 < (([a] : List Tm).length : Int) then (impl_normal.f k a).bind fun t244 => (impl_atom.f [116, 114, 117, 101]).bind fun t254 => (impl_normal_c1_2.f [45, 62] t244 t254).bind fun t264 => some t264 else none) = _
          rw [if_pos (by simp), ea, normAll, normAll]
          cases norm a with
          | none => rfl
          | some a' =>
            show _ = some (some (fin 3 n [111, 110, 99, 101] [a']))
            unfold fin
            rw [if_pos g2]; rfl
        rw [if_neg g2]
        by_cases g3 : isT (.mk kd n s []) [102, 111, 114, 97, 108, 108] 2 = true
        · obtain ⟨rfl, rfl, a, b, rfl, ea, eb⟩ := two _ g3
          have hc : constr 3 n [102, 111, 114, 97, 108, 108] = true := by unfold constr; rw [hb, g3]; simp
          rw [if_pos g3, if_neg (c := constr 3 n [102, 111, 114, 97, 108, 108] = false ∨ (3 : Int) = 2) (by simp [hc])]
          show (if 0 < (([a, b] : List Tm).length : Int) then (if 1 < (([a, b] : List Tm).length : Int) then (impl_normal.f k a).bind fun t336 => (impl_normal.f k b).bind fun t348 => (impl_normal_c2.f t348).bind fun t360 => (impl_normal_c1.f [44] t336 t360).bind fun t372 => (impl_normal_c2.f t372).bind fun t384 => some t384 else none) else none) = _
          rw [if_pos (by simp), if_pos (by simp), ea, eb, normAll, normAll, normAll]
          cases norm a with
          | none => cases norm b <;> rfl
          | some a' =>
            cases norm b with
            | none => rfl
            | some b' =>
              show _ = some (some (fin 3 n [102, 111, 114, 97, 108, 108] [a', b']))
              unfold fin
              rw [if_neg (by simp [isT, Tm.text]), if_pos g3]; rfl
        rw [if_neg g3]
        by_cases hc : constr kd n s = false ∨ kd = 2
        · rw [if_pos hc]
        · exfalso
          have hc1 : constr kd n s = true := by
            cases q : constr kd n s with
            | true => rfl
            | false => exact absurd (.inl q) hc
          unfold constr at hc1
          rw [hb, show isT (.mk kd n s []) [92, 43] 1 = false by simpa using g1, show isT (.mk kd n s []) [111, 110, 99, 101] 1 = false by simpa using g2, show isT (.mk kd n s []) [102, 111, 114, 97, 108, 108] 2 = false by simpa using g3] at hc1
          simp only [Bool.false_or] at hc1
          unfold isT at hc1
          rw [if_pos rfl] at hc1
          simp only [Bool.and_eq_true, decide_eq_true_eq] at hc1
          exact hc (.inr hc1.2)
mutual
theorem size_val : ∀ (t : Tm) (k : Nat) (lim : Int), Wf t → 3 * (flat t).length < k → (flat t).length ≤ 100000 → 0 ≤ lim → lim ≤ 100000 → ∃ r, impl_node_size.f k t lim = some r ∧ 1 ≤ r ∧ r ≤ ((flat t).length : Int) ∧ (((flat t).length : Int) ≤ lim → r = ((flat t).length : Int)) ∧ (lim < ((flat t).length : Int) → lim < r)
  | .mk kd n s us, k, lim, hw, hk, hl, h0, h1 => by
    simp only [Wf] at hw
    simp only [flat, List.length_cons] at hk hl ⊢
    obtain ⟨k, rfl⟩ : ∃ q, k = q + 2 := ⟨k - 2, by omega⟩
    rw [impl_node_size.f]
    obtain ⟨r, e1, e2, e3, e4, e5⟩ := sizes_val us [] k (.mk kd n s us) lim 1 rfl hw.2.2.2 (by omega) (by omega) h0 h1 (by omega) (by omega) (by have := flats_len us; simp; omega)
    exact ⟨r, e1, by omega, by push_cast; omega, fun h => by rw [e4 (by push_cast at h; omega)]; push_cast; omega, fun h => e5 (by push_cast at h; omega)⟩
theorem sizes_val : ∀ (us vs : List Tm) (k : Nat) (t : Tm) (lim x : Int), t.args = vs ++ us → Wfs us → 3 * (flats us).length + 2 < k + 2 → (flats us).length ≤ 100000 → 0 ≤ lim → lim ≤ 100000 → 1 ≤ x → x ≤ 200000 → vs.length + us.length ≤ 1000000 →
    ∃ r, impl_node_size.l0 (k + 1) t lim x (vs.length : Int) = some r ∧ x ≤ r ∧ r ≤ x + ((flats us).length : Int) ∧ (x + ((flats us).length : Int) ≤ lim → r = x + ((flats us).length : Int)) ∧ (lim < x + ((flats us).length : Int) → lim < r)
  | [], vs, k, t, lim, x, ha, hw, hk, hl, h0, h1, hx, hx2, hv => by
    rw [impl_node_size.l0, ha, if_neg (by simp)]
    exact ⟨x, rfl, by omega, by simp [flats], fun h => by simp [flats], fun h => by simpa [flats] using h⟩
  | u :: us, vs, k, t, lim, x, ha, hw, hk, hl, h0, h1, hx, hx2, hv => by
    simp only [Wfs] at hw
    simp only [flats, List.length_append] at hk hl ⊢
    have hp := flat_pos u
    simp only [List.length_cons] at hv
    obtain ⟨k, rfl⟩ : ∃ q, k = q + 1 := ⟨k - 1, by omega⟩
    rw [impl_node_size.l0, ha, if_pos (by simp; omega), if_pos (by omega)]
    by_cases hxl : x > lim
    · rw [if_pos hxl]; exact ⟨x, rfl, by omega, by push_cast; omega, fun h => by push_cast at h; omega, fun _ => by omega⟩
    rw [if_neg hxl]
    have hg : (vs ++ u :: us).getD ((vs.length : Int)).toNat (Tm.mk 0 0 [] []) = u := by
      rw [Int.toNat_natCast, List.getD_eq_getElem?_getD, List.getElem?_append_right (by omega), Nat.sub_self]; rfl
    obtain ⟨r1, e1, e2, e3, e4, e5⟩ := size_val u (k + 1) (lim - x) hw.1 (by omega) (by omega) (by omega) (by omega)
    rw [hg, wrap_id (n := lim - x) (by omega) (by omega), e1, Option.bind_some, wrap_id (by omega) (by omega), wrap_nat (by omega)]
    by_cases hbig : lim < x + r1
    · have := sizes_stop us (vs ++ [u]) k t lim (x + r1) (by rw [ha]; simp) (by omega) (by simp; omega)
      rw [show ((vs ++ [u]).length : Int) = ((vs.length + 1 : Nat) : Int) by simp] at this
      refine ⟨x + r1, this, by omega, by push_cast; omega, fun h => ?_, fun _ => hbig⟩
      push_cast at h
      have := e4 (by omega)
      omega
    · obtain ⟨r, f1, f2, f3, f4, f5⟩ := sizes_val us (vs ++ [u]) k t lim (x + r1) (by rw [ha]; simp) hw.2 (by omega) (by omega) h0 h1 (by omega) (by omega) (by simp; omega)
      rw [show ((vs ++ [u]).length : Int) = ((vs.length + 1 : Nat) : Int) by simp] at f1
      have hr1 : r1 = ((flat u).length : Int) := by
        by_cases h : lim - x < ((flat u).length : Int)
        · have := e5 h; omega
        · exact e4 (by omega)
      exact ⟨r, f1, by omega, by push_cast; omega, fun h => by push_cast at h; rw [f4 (by omega)]; push_cast; omega, fun h => f5 (by push_cast at h; omega)⟩
theorem sizes_stop : ∀ (us vs : List Tm) (k : Nat) (t : Tm) (lim x : Int), t.args = vs ++ us → lim < x → vs.length + us.length ≤ 1000000 → impl_node_size.l0 (k + 1) t lim x (vs.length : Int) = some x
  | [], vs, k, t, lim, x, ha, hx, hv => by rw [impl_node_size.l0, ha, if_neg (by simp)]
  | u :: us, vs, k, t, lim, x, ha, hx, hv => by rw [impl_node_size.l0, ha, if_pos (by simp; omega), if_pos (by omega), if_pos (by omega)]
end
theorem normalBody_eq (xs : List Cell) (k : Nat) (hl : xs.length ≤ 1048576) (hk : 3000000 < k) : ∃ r : List Cell × Int, impl_NormalBody.f k xs = some r ∧ spec_NormalBody.f k xs = some r ∧ wCells r.1 ≤ 1048576 := by
  have w0 : wCells ([] : List Cell) ≤ 1048576 := by simp [wCells, wts]
  rw [impl_NormalBody.f, spec_NormalBody.f, valid_val xs k (by omega) (by omega), valid_val' xs k (by omega) (by omega), Option.bind_some, Option.bind_some]
  cases h : okT xs with
  | false => exact ⟨([], 1), rfl, rfl, w0⟩
  | true =>
    obtain ⟨hl1, t, rfl, hw⟩ := (okT_iff xs).1 h
    rw [if_neg (by simp), if_neg (by simp), tree_flat t k hw hl1 (by omega), Option.bind_some, body_flat t k hw hl1 (by omega), Option.bind_some, impl_normalCode.f, normal_val _ t k rfl hw (by omega), Option.bind_some]
    cases hn : norm t with
    | none => exact ⟨([], 4), rfl, rfl, w0⟩
    | some u =>
      obtain ⟨u1, u2⟩ := norm_ok t u hw hn
      obtain ⟨r, e1, e2, e3, e4, e5⟩ := size_val u k 2000 u1 (by omega) (by omega) (by omega) (by omega)
      simp only [Option.isSome_some, not_true_eq_false, if_false, Option.getD_some, e1, Option.bind_some]
      by_cases hb : (flat u).length ≤ 2000
      · have hr := e4 (by omega)
        rw [if_neg (by omega)]
        have := wCells_ok (flat_ok u u1)
        refine ⟨(flat u, 0), ?_, ?_, by show wCells (flat u) ≤ _; omega⟩
        · simp only [Option.bind_some, ne_eq, not_true_eq_false, if_false, Option.isSome_some, if_true, Option.getD_some, cells_flat u k u1 (by omega) (by omega)]
        · exact (show (if (0 : Int) ≠ 0 then some (([] : List Cell), (0 : Int)) else if ((flat u).length : Int) > 2000 then some ([], 3) else some (flat u, 0)) = some (flat u, 0) from by rw [if_neg (c := (0 : Int) ≠ 0) (by simp), if_neg (by omega)])
      · have hr := e5 (by omega)
        rw [if_pos (by omega)]
        exact ⟨([], 3), rfl, (show (if (0 : Int) ≠ 0 then some (([] : List Cell), (0 : Int)) else if ((flat u).length : Int) > 2000 then some ([], 3) else some (flat u, 0)) = some ([], 3) from by rw [if_neg (c := (0 : Int) ≠ 0) (by simp), if_pos (by omega)]), w0⟩
theorem normalBody_true (xs : List Cell) (hl : xs.length ≤ 9223372036854775807) (ht : ∀ c, c ∈ xs → c.text.length ≤ 9223372036854775807) : laws_FnExactNormalBody.f 4000000 xs = some true := by
  rw [laws_FnExactNormalBody.f, szCellS_val xs _ _ (by omega) (by omega) hl ht (by omega), Option.bind_some]
  by_cases h : left 1048576 (wCells xs) < 0
  · rw [if_pos h]
  have hq := left_le h
  have hw : wCells xs ≤ 1048576 := by omega
  have hl2 := wCells_len hw
  obtain ⟨r, e1, e2, e3⟩ := normalBody_eq xs 4000000 hl2 (by omega)
  have hws := wts2 xs
  have hws2 := wts2 r.1
  obtain ⟨ys, m1, m2, m3⟩ := markCellS_val xs 4000000 1 hw (by omega) (by omega) (by omega)
  obtain ⟨zs, n1, n2, n3⟩ := markCellS_val r.1 4000000 1 e3 (by omega) (by omega) (by omega)
  obtain ⟨o1, o2⟩ := heldCellS_val zs 4000000 1 _ (by rw [n2]; exact wCells_len e3) (by omega) (by omega) n3
  rw [if_neg h, toCellS_id xs _ hw (by omega)]
  simp only [Option.bind_some, e1, e2, eqCellS_id r.1 4000000 e3 (by omega), eqCellS_id xs 4000000 hw (by omega), m1, n1, o1]
  rw [if_neg (by simp), if_neg (by simp), if_neg (by simp), if_neg (by omega), if_neg (by simp), if_neg (by omega), if_neg (by simp), if_neg (by simp), if_neg (by simp), if_neg (by omega), if_neg (by simp)]
end Go.Proofs.Ytmmjeppmglmefaa
