import Derived.Test.YtmmjeppmglmefaaWkTg4
import Derived.Test.YtmmjeppmglmefaaZ2
namespace Go.Proofs.Ytmmjeppmglmefaa
open Go.Sx Go.Sy
set_option linter.unusedVariables false
set_option linter.unusedSimpArgs false
set_option linter.unusedSectionVars false
set_option maxRecDepth 4000
/-! ### sizes, copies, equality: cells -/
theorem left_m1 {b : Int} {n : Nat} (h : left b n < 0) : left b n = -1 := by unfold left at *; split <;> (split at h <;> first | rfl | omega)
theorem szByteS_val (xs : List UInt8) (b : Int) (h0 : 0 ≤ b) (h1 : b ≤ 1048576) (hl : xs.length ≤ 9223372036854775807) : laws_szByteS.f xs b = some (left b xs.length) := by
  rw [laws_szByteS.f]; exact sz0 h0 h1 hl
theorem szCell_val (x : Cell) (b : Int) (h0 : 0 ≤ b) (h1 : b ≤ 1048576) (hl : x.text.length ≤ 9223372036854775807) : laws_szCell.f x b = some (left b x.text.length) := by
  rw [laws_szCell.f, szByteS_val _ _ h0 h1 hl, Option.bind_some]
  split
  · rename_i h; rw [left_m1 h]
  · rfl
theorem szCellS_val (xs : List Cell) (k : Nat) (b : Int) (h0 : 0 ≤ b) (h1 : b ≤ 1048576) (hl : xs.length ≤ 9223372036854775807) (ht : ∀ c, c ∈ xs → c.text.length ≤ 9223372036854775807) (hk : 1048577 < k) :
    laws_szCellS.f k xs b = some (left b (wCells xs)) := by
  rw [laws_szCellS.f]
  refine szT h0 h1 hl fun h => ?_
  have hq := left_le h
  rw [left_wrap h0 h1 hl h]
  exact szL (B := 0) (z := z34) (fun x => x.text.length) (fun k b i => laws_szCellS.l0 k xs b i) (fun _ => laws_szCell.f) (fun _ _ _ => rfl) (by omega) (fun x hx _ _ b q0 q1 => szCell_val x b q0 q1 (ht x hx)) k (by omega) _ (by omega) (by omega)
theorem toByteS_id (xs : List UInt8) (k : Nat) (hl : xs.length ≤ 1048576) (hk : xs.length < k) : laws_toByteS.f k xs = some xs := by
  rw [laws_toByteS.f, if_pos (by omega), if_pos (by omega)]
  exact toF (z := 0) (fun k i ys => laws_toByteS.l0 k xs i ys) (fun _ _ _ => rfl) (by omega) k hk _ (by simp)
theorem toCell_id (x : Cell) (k : Nat) (hl : x.text.length ≤ 1048576) (hk : 1048577 ≤ k) : laws_toCell.f k x = some x := by
  rw [laws_toCell.f, toByteS_id _ k hl (by omega)]; rfl
theorem wCells_len {xs : List Cell} {n : Nat} (hl : wCells xs ≤ n) : xs.length ≤ n := Nat.le_trans (Nat.le_add_right _ _) hl
theorem wCells_mem {xs : List Cell} {n : Nat} (hl : wCells xs ≤ n) {x : Cell} (hx : x ∈ xs) : x.text.length ≤ n := Nat.le_trans (Nat.le_trans (wts_mem (fun x : Cell => x.text.length) hx) (Nat.le_add_left _ _)) hl
theorem toCellS_id (xs : List Cell) (k : Nat) (hl : wCells xs ≤ 1048576) (hk : 2097154 < k) : laws_toCellS.f k xs = some xs := by
  have hl2 := wCells_len hl
  rw [laws_toCellS.f, if_pos (by omega), if_pos (by omega)]
  exact toL (z := z34) (B := 1048577) (fun k i ys => laws_toCellS.l0 k xs i ys) laws_toCell.f (fun _ _ _ => rfl) (by omega) (fun x hx k hk => toCell_id x k (wCells_mem hl hx) hk) k (by omega) _ (by simp)
theorem eqByteS_id (xs : List UInt8) (k : Nat) (hl : xs.length ≤ 1048576) (hk : xs.length < k) : laws_eqByteS.f k xs xs = some true := by
  rw [laws_eqByteS.f, if_neg (by simp)]
  exact eqF (z := 0) (fun k i => laws_eqByteS.l0 k xs xs i) (fun _ _ => rfl) (by omega) k hk
theorem eqCell_id (x : Cell) (k : Nat) (hl : x.text.length ≤ 1048576) (hk : 1048577 ≤ k) : laws_eqCell.f k x x = some true := by
  rw [laws_eqCell.f, if_neg (by simp), if_neg (by simp), eqByteS_id _ k hl (by omega), Option.bind_some, if_neg (by simp)]
theorem eqCellS_id (xs : List Cell) (k : Nat) (hl : wCells xs ≤ 1048576) (hk : 2097154 < k) : laws_eqCellS.f k xs xs = some true := by
  have hl2 := wCells_len hl
  rw [laws_eqCellS.f, if_neg (by simp)]
  exact eqL (z := z36) (z' := z36) (B := 1048577) (fun k i => laws_eqCellS.l0 k xs xs i) laws_eqCell.f (fun _ _ => rfl) (by omega) (fun x hx k hk => eqCell_id x k (wCells_mem hl hx) hk) k (by omega)
/-! ### marks -/
def PB (n m : Int) (x : UInt8) : Prop := m = n + 1 ∧ x = b8 n
theorem markByteS_val (xs : List UInt8) (k : Nat) (n : Int) (hl : xs.length ≤ 1048576) (hk : 1048577 < k) (h0 : 0 ≤ n) (hn : n ≤ 8000000000000000000) :
    ∃ ys, laws_markByteS_2.f k xs n = some (n + (xs.length : Int), ys) ∧ ys.length = xs.length ∧ HL PB n (n + (xs.length : Int)) ys := by
  rw [laws_markByteS_2.f]
  have e : wts (fun _ : UInt8 => 1) xs = xs.length := by
    induction xs with
    | nil => rfl
    | cons x xs ih => rw [wts_cons, ih (by simp at hl; omega), List.length_cons]; omega
  have := markL (U := 9000000000000000000) (P := PB) (B := 0) (z := (0 : UInt8)) (w := fun _ => 1) (xs := xs) (fun k n i ys => laws_markByteS_2.l0 k xs n i ys) (fun _ _ n => if n + 1 ≤ 9000000000000000000 ∧ 0 ≤ n then some (n + 1, b8 n) else some (IntKind.i64.wrap (n + 1), b8 n))
    (fun k n i ys hi hy => by
      show laws_markByteS_2.l0 (k + 1) xs n i ys = _
      rw [laws_markByteS_2.l0, if_pos (by omega), if_pos (by omega), Int.toNat_natCast]
      by_cases hh : n + 1 ≤ 9000000000000000000 ∧ 0 ≤ n
      · rw [if_pos hh, Option.bind_some, wrap_id (n := n + 1) (by omega) (by omega)]
      · rw [if_neg hh, Option.bind_some])
    (fun k n ys => by
      show laws_markByteS_2.l0 (k + 1) xs n xs.length ys = _
      rw [laws_markByteS_2.l0, if_neg (by omega)])
    (by omega) (fun x _ k _ n q0 q1 => ⟨b8 n, by rw [if_pos ⟨q1, q0⟩]; rfl, rfl, rfl⟩) k (by omega) n h0 (by rw [e]; omega)
  rw [e] at this
  exact this
def PC (n m : Int) (c : Cell) : Prop := c.kind = n ∧ c.n = n + 1 ∧ HL PB (n + 2) m c.text ∧ c.text.length ≤ 1048576 ∧ m ≤ 9000000000000000000
theorem getD_set_self {α : Type} {ys : List α} {i : Nat} {x z : α} (h : i < ys.length) : (ys.set i x).getD i z = x := by
  rw [List.getD_eq_getElem?_getD, List.getElem?_set_self h]; rfl
theorem markCellS_val (xs : List Cell) (k : Nat) (n : Int) (hl : wCells xs ≤ 1048576) (hk : 2097155 < k) (h0 : 0 ≤ n) (hn : n + (wts (fun x : Cell => 2 + x.text.length) xs : Int) ≤ 8000000000000000000) :
    ∃ ys, laws_markCellS_2.f k xs n = some (n + (wts (fun x : Cell => 2 + x.text.length) xs : Int), ys) ∧ ys.length = xs.length ∧ HL PC n (n + (wts (fun x : Cell => 2 + x.text.length) xs : Int)) ys := by
  have hl2 := wCells_len hl
  rw [laws_markCellS_2.f]
  refine markL (U := 8000000000000000000) (P := PC) (B := 1048578) (z := z36) (w := fun x => 2 + x.text.length) (xs := xs) (fun k n i ys => laws_markCellS_2.l0 k xs n i ys)
    (fun k c n => (laws_markByteS_2.f k c.text (IntKind.i64.wrap (IntKind.i64.wrap (n + 1) + 1))).bind fun t => some (t.1, ⟨n, IntKind.i64.wrap (n + 1), t.2⟩)) ?_ ?_ (by omega) ?_ k (by omega) n h0 (by omega)
  · intro k n i ys hi hy
    show laws_markCellS_2.l0 (k + 1) xs n i ys = _
    rw [laws_markCellS_2.l0, if_pos (by omega), if_pos (by omega), Int.toNat_natCast]
    have e1 : i < (ys.set i { ys.getD i z36 with kind := n }).length := by rw [List.length_set]; exact hi
    simp only [getD_set_self hi, List.set_set, getD_set_self e1]
    cases laws_markByteS_2.f k (ys.getD i z36).text (IntKind.i64.wrap (IntKind.i64.wrap (n + 1) + 1)) <;> rfl
  · intro k n ys
    show laws_markCellS_2.l0 (k + 1) xs n xs.length ys = _
    rw [laws_markCellS_2.l0, if_neg (by omega)]
  · intro x hx k hk n q0 q1
    rw [wrap_id (n := n + 1) (by omega) (by omega), wrap_id (n := n + 1 + 1) (by omega) (by omega)]
    obtain ⟨ys, e1, e2, e3⟩ := markByteS_val x.text k (n + 1 + 1) (wCells_mem hl hx) (by omega) (by omega) (by omega)
    rw [e1, Option.bind_some]
    have e : n + 1 + 1 + (x.text.length : Int) = n + ((2 + x.text.length : Nat) : Int) := by omega
    refine ⟨⟨n, n + 1, ys⟩, by rw [e], rfl, rfl, ?_, by rw [e2]; exact wCells_mem hl hx, by omega⟩
    rw [← e]
    exact (show n + 2 = n + 1 + 1 by omega) ▸ e3
theorem heldByteS_val (xs : List UInt8) (k : Nat) (n m : Int) (hl : xs.length ≤ 1048576) (hk : 1048577 < k) (h0 : 0 ≤ n) (hm : m ≤ 9000000000000000000) (h : HL PB n m xs) : laws_heldByteS.f k xs n = some m ∧ n ≤ m := by
  rw [laws_heldByteS.f]
  have key : ∀ (q k i : Nat) (n : Int), xs.length - i = q → i ≤ xs.length → q < k → 0 ≤ n → HL PB n m (xs.drop i) → laws_heldByteS.l0 k xs n (i : Int) = some m ∧ n ≤ m := by
    intro q
    induction q with
    | zero =>
      intro k i n h1 h2 h3 h4 h5
      obtain ⟨k, rfl⟩ : ∃ q, k = q + 1 := ⟨k - 1, by omega⟩
      rw [List.drop_of_length_le (by omega)] at h5
      cases h5
      rw [laws_heldByteS.l0, if_neg (by omega)]
      exact ⟨rfl, Int.le_refl _⟩
    | succ q ih =>
      intro k i n h1 h2 h3 h4 h5
      obtain ⟨k, rfl⟩ : ∃ q, k = q + 1 := ⟨k - 1, by omega⟩
      have hi : i < xs.length := by omega
      rw [List.drop_eq_getElem_cons hi] at h5
      cases h5 with
      | cons p hr =>
        obtain ⟨rfl, p2⟩ := p
        have hle : n + 1 ≤ m := hr.le (fun _ _ _ h => by have := h.1; omega)
        rw [laws_heldByteS.l0, if_pos (by omega), if_pos (by omega), Int.toNat_natCast, getD_at hi, p2, if_neg (by simp), wrap_nat (by omega), wrap_id (n := n + 1) (by omega) (by omega)]
        obtain ⟨f1, f2⟩ := ih k (i + 1) (n + 1) (by omega) (by omega) (by omega) (by omega) hr
        exact ⟨f1, by omega⟩
  exact key xs.length k 0 n rfl (by omega) (by omega) h0 h
theorem heldCellS_val (xs : List Cell) (k : Nat) (n m : Int) (hl : xs.length ≤ 1048576) (hk : 2097155 < k) (h0 : 0 ≤ n) (h : HL PC n m xs) : laws_heldCellS.f k xs n = some m ∧ n ≤ m := by
  rw [laws_heldCellS.f]
  refine heldL (P := PC) (B := 1048578) (z := z36) (fun k n i => laws_heldCellS.l0 k xs n i) (fun k c n => if c.kind ≠ n then some (-1) else if c.n ≠ IntKind.i64.wrap (n + 1) then some (-1) else laws_heldByteS.f k c.text (IntKind.i64.wrap (IntKind.i64.wrap (n + 1) + 1))) ?_ (by omega) ?_ k (by omega) n h0 h
  · intro k n i
    show laws_heldCellS.l0 (k + 1) xs n i = _
    rw [laws_heldCellS.l0]
    split
    · split
      · generalize xs.getD i.toNat z36 = c
        by_cases h1 : c.kind ≠ n
        · rw [if_pos h1, if_pos h1, Option.bind_some, if_pos (by omega)]
        · rw [if_neg h1, if_neg h1]
          by_cases h2 : c.n ≠ IntKind.i64.wrap (n + 1)
          · rw [if_pos h2, if_pos h2, Option.bind_some, if_pos (by omega)]
          · rw [if_neg h2, if_neg h2]
      · rfl
    · rfl
  · intro n m c _ p h0 k hk
    obtain ⟨p1, p2, p3, p4, p5⟩ := p
    have hle := p3.le (fun _ _ _ h => by have := h.1; omega)
    rw [wrap_id (n := n + 1) (by omega) (by omega), wrap_id (n := n + 1 + 1) (by omega) (by omega), if_neg (by omega), if_neg (by omega)]
    obtain ⟨f1, f2⟩ := heldByteS_val c.text k (n + 1 + 1) m p4 (by omega) (by omega) p5 ((show n + 2 = n + 1 + 1 by omega) ▸ p3)
    exact ⟨f1, by omega⟩
/-! ### terms that are valid -/
instance (c : Cell) : Decidable (Okc c) := by unfold Okc; infer_instance
theorem l2cell_val (c : Cell) : spec_l2cell.f c = some (decide (Okc c)) := by
  have e : ∀ l : List UInt8, (l.length : Int) = 0 ↔ l = [] := fun l => ⟨fun hl => List.eq_nil_of_length_eq_zero (by omega), fun h => by rw [h]; rfl⟩
  unfold spec_l2cell.f
  simp only [e]
  repeat' split
  all_goals refine congrArg some ?_
  all_goals first
    | (rw [eq_comm, decide_eq_false_iff_not]; unfold Okc; omega)
    | (rw [eq_comm, decide_eq_true_iff]; unfold Okc; omega)
    | (refine decide_eq_decide.2 ?_; unfold Okc; omega)
    | (refine decide_eq_decide.2 ?_; unfold Okc; simp only [*]; simp; try omega)
    | (rw [eq_comm, decide_eq_false_iff_not]; unfold Okc; simp only [*]; simp; try omega)
theorem cellOk_val (c : Cell) : impl_cellOk.f c = some (decide (Okc c)) := by
  have e : ∀ l : List UInt8, (l.length : Int) = 0 ↔ l = [] := fun l => ⟨fun hl => List.eq_nil_of_length_eq_zero (by omega), fun h => by rw [h]; rfl⟩
  unfold impl_cellOk.f
  simp only [e]
  repeat' split
  all_goals refine congrArg some ?_
  all_goals first
    | (rw [eq_comm, decide_eq_false_iff_not]; unfold Okc; omega)
    | (rw [eq_comm, decide_eq_true_iff]; unfold Okc; omega)
    | (refine decide_eq_decide.2 ?_; unfold Okc; omega)
    | (refine decide_eq_decide.2 ?_; unfold Okc; simp only [*]; simp; try omega)
    | (rw [eq_comm, decide_eq_false_iff_not]; unfold Okc; simp only [*]; simp; try omega)
theorem valid_l0 (xs : List Cell) (hl : xs.length < 9223372036854775807) : ∀ (m k i : Nat) (n : Int), xs.length - i = m → i ≤ xs.length → m < k → impl_ValidTerm.l0 k xs n (i : Int) = spec_ValidTerm.l0 k xs n (i : Int) ∧ ∃ b, spec_ValidTerm.l0 k xs n (i : Int) = some b := by
  intro m
  induction m with
  | zero =>
    intro k i n h1 h2 h3
    obtain ⟨k, rfl⟩ : ∃ q, k = q + 1 := ⟨k - 1, by omega⟩
    rw [impl_ValidTerm.l0, spec_ValidTerm.l0, if_neg (by omega), if_neg (by omega)]
    exact ⟨rfl, _, rfl⟩
  | succ m ih =>
    intro k i n h1 h2 h3
    obtain ⟨k, rfl⟩ : ∃ q, k = q + 1 := ⟨k - 1, by omega⟩
    rw [impl_ValidTerm.l0, spec_ValidTerm.l0, if_pos (show (i : Int) < (xs.length : Int) by omega), if_pos (show (0 : Int) ≤ (i : Int) by omega), if_pos (show (i : Int) < (xs.length : Int) by omega), wrap_nat (by omega)]
    by_cases hn : n = 0
    · rw [if_pos hn, if_pos hn]; exact ⟨rfl, _, rfl⟩
    · rw [if_neg hn, if_neg hn, if_pos (show (0 : Int) ≤ (i : Int) by omega), l2cell_val, cellOk_val, Option.bind_some, Option.bind_some]
      split
      · exact ⟨rfl, _, rfl⟩
      · split
        · exact ih k (i + 1) _ (by omega) (by omega) (by omega)
        · exact ih k (i + 1) _ (by omega) (by omega) (by omega)
theorem valid_eq (xs : List Cell) (k : Nat) (hl : xs.length < 9223372036854775807) (hk : xs.length < k) : impl_ValidTerm.f k xs = spec_ValidTerm.f k xs ∧ ∃ b, spec_ValidTerm.f k xs = some b := by
  rw [impl_ValidTerm.f, spec_ValidTerm.f]
  split
  · exact ⟨rfl, _, rfl⟩
  · exact valid_l0 xs hl xs.length k 0 1 rfl (by omega) hk
theorem valid_trees (xs : List Cell) (hl : xs.length ≤ 2000) : ∀ (m k i n : Nat), xs.length - i = m → i ≤ xs.length → n ≤ 1 + 20 * i → spec_ValidTerm.l0 k xs (n : Int) (i : Int) = some true →
    ∃ ts, ts.length = n ∧ flats ts = xs.drop i ∧ Wfs ts := by
  intro m
  induction m with
  | zero =>
    intro k i n h1 h2 h3 h
    obtain ⟨k, rfl⟩ : ∃ q, k = q + 1 := by
      cases k with
      | zero => rw [spec_ValidTerm.l0] at h; cases h
      | succ q => exact ⟨q, rfl⟩
    rw [spec_ValidTerm.l0, if_neg (by omega)] at h
    have h0 : n = 0 := by simpa using h
    exact ⟨[], by simp [h0], by rw [List.drop_of_length_le (by omega)]; simp [flats], by simp [Wfs]⟩
  | succ m ih =>
    intro k i n h1 h2 h3 h
    obtain ⟨k, rfl⟩ : ∃ q, k = q + 1 := by
      cases k with
      | zero => rw [spec_ValidTerm.l0] at h; cases h
      | succ q => exact ⟨q, rfl⟩
    have hi : i < xs.length := by omega
    rw [spec_ValidTerm.l0, if_pos (by omega), Int.toNat_natCast, getD_at hi, wrap_nat (by omega), l2cell_val] at h
    by_cases hn : (n : Int) = 0
    · rw [if_pos hn] at h; simp at h
    rw [if_neg hn, if_pos (by omega), Option.bind_some] at h
    by_cases hb : Okc xs[i]
    · rw [if_neg (by simpa using hb), wrap_id (n := (n : Int) - 1) (by omega) (by omega)] at h
      by_cases hk : xs[i].kind = 3
      · obtain ⟨p1, p2⟩ := hb.n3 hk
        rw [if_pos hk, wrap_id (n := (n : Int) - 1 + xs[i].n) (by omega) (by omega), show (n : Int) - 1 + xs[i].n = ((n - 1 + xs[i].n.toNat : Nat) : Int) by omega] at h
        obtain ⟨ts, e1, e2, e3⟩ := ih k (i + 1) (n - 1 + xs[i].n.toNat) (by omega) (by omega) (by omega) h
        refine ⟨Tm.mk xs[i].kind xs[i].n xs[i].text (ts.take xs[i].n.toNat) :: ts.drop xs[i].n.toNat, by simp; omega, ?_, ?_⟩
        · rw [List.drop_eq_getElem_cons hi, ← e2]
          conv => rhs; rw [← List.take_append_drop xs[i].n.toNat ts]
          rw [flats_append]
          simp [flats, flat]
        · rw [← List.take_append_drop xs[i].n.toNat ts, Wfs_append] at e3
          simp only [Wfs, Wf]
          exact ⟨⟨hb, fun _ => by rw [List.length_take]; omega, fun h => absurd hk h, e3.1⟩, e3.2⟩
      · rw [if_neg hk, show (n : Int) - 1 = ((n - 1 : Nat) : Int) by omega] at h
        obtain ⟨ts, e1, e2, e3⟩ := ih k (i + 1) (n - 1) (by omega) (by omega) (by omega) h
        refine ⟨Tm.mk xs[i].kind xs[i].n xs[i].text [] :: ts, by simp; omega, ?_, ?_⟩
        · rw [List.drop_eq_getElem_cons hi, ← e2]; simp [flats, flat]
        · simp only [Wfs, Wf]
          exact ⟨⟨hb, fun h => absurd h hk, fun _ => trivial, trivial⟩, e3⟩
    · rw [if_pos (by simpa using hb)] at h; simp at h
theorem valid_tree (xs : List Cell) (k : Nat) (h : spec_ValidTerm.f k xs = some true) : xs.length ≤ 2000 ∧ ∃ t, flat t = xs ∧ Wf t := by
  rw [spec_ValidTerm.f] at h
  split at h
  · simp at h
  · rename_i hl
    have hl' : xs.length ≤ 2000 := by omega
    obtain ⟨ts, e1, e2, e3⟩ := valid_trees xs hl' xs.length k 0 1 rfl (by omega) (by omega) h
    refine ⟨hl', ?_⟩
    match ts, e1, e2, e3 with
    | [t], _, e2, e3 =>
      refine ⟨t, by simpa [flats] using e2, ?_⟩
      simp only [Wfs] at e3
      exact e3.1
theorem valid_flats (xs : List Cell) (hx : xs.length ≤ 2000) : ∀ (m k i e : Nat) (us : List Tm) (r : List Cell), (flats us).length = m → Wfs us → xs.drop i = flats us ++ r → us.length + e ≤ 100000 → e ≤ 50000 →
    spec_ValidTerm.l0 (k + m) xs ((us.length + e : Nat) : Int) (i : Int) = spec_ValidTerm.l0 k xs (e : Int) ((i + m : Nat) : Int) := by
  intro m
  induction m with
  | zero =>
    intro k i e us r h1 hw hd h2 h3
    cases us with
    | nil => simp
    | cons t us => have := flat_pos t; simp only [flats, List.length_append] at h1; omega
  | succ m ih =>
    intro k i e us r h1 hw hd h2 h3
    cases us with
    | nil => simp [flats] at h1
    | cons t us =>
      obtain ⟨kd, n, s, vs⟩ := t
      simp only [Wfs, Wf] at hw
      obtain ⟨⟨w0, w1, w2, w3⟩, w4⟩ := hw
      have hi : i < xs.length := by
        rcases Nat.lt_or_ge i xs.length with h | h
        · exact h
        · rw [List.drop_of_length_le h] at hd; simp [flats, flat] at hd
      have hc : xs[i] = ⟨kd, n, s⟩ := by
        rw [List.drop_eq_getElem_cons hi] at hd
        simp only [flats, flat, List.cons_append] at hd
        exact (List.cons.inj hd).1
      have hd2 : xs.drop (i + 1) = flats (vs ++ us) ++ r := by
        rw [List.drop_eq_getElem_cons hi] at hd
        simp only [flats, flat, List.cons_append] at hd
        rw [(List.cons.inj hd).2, flats_append]
      have hm : (flats (vs ++ us)).length = m := by
        simp only [flats, flat, List.cons_append, List.length_cons] at h1
        rw [flats_append]; omega
      have hl : (flats (vs ++ us)).length ≤ 2000 := by
        have := congrArg List.length hd2
        rw [List.length_drop, List.length_append] at this; omega
      have hlen := flats_len (vs ++ us)
      rw [show k + (m + 1) = (k + m) + 1 by omega, spec_ValidTerm.l0, if_pos (by omega), if_neg (by simp; omega), if_pos (by omega), Int.toNat_natCast, getD_at hi, hc, wrap_nat (by omega), l2cell_val, Option.bind_some, if_neg (by simpa using w0)]
      have := ih k (i + 1) e (vs ++ us) r hm ((Wfs_append _ _).2 ⟨w3, w4⟩) hd2 (by omega) h3
      rw [show i + (m + 1) = i + 1 + m by omega, ← this]
      simp only [List.length_cons, List.length_append] at hlen h2 ⊢
      by_cases hk : kd = 3
      · have hn := w1 hk
        rw [if_pos hk, wrap_id (n := ((us.length + 1 + e : Nat) : Int) - 1) (by omega) (by omega), wrap_id (by omega) (by omega)]
        congr 1
        omega
      · rw [if_neg hk, wrap_id (by omega) (by omega)]
        have : vs = [] := w2 hk
        subst this
        congr 1
        simp; omega
/-- the cells of a term that is valid -/
noncomputable def okT (xs : List Cell) : Bool := @decide (xs.length ≤ 2000 ∧ ∃ t, flat t = xs ∧ Wf t) (Classical.propDecidable _)
theorem okT_iff (xs : List Cell) : okT xs = true ↔ (xs.length ≤ 2000 ∧ ∃ t, flat t = xs ∧ Wf t) := by unfold okT; exact @decide_eq_true_iff _ (Classical.propDecidable _)
theorem valid_val (xs : List Cell) (k : Nat) (hl : xs.length < 9223372036854775807) (hk : xs.length < k) : spec_ValidTerm.f k xs = some (okT xs) := by
  obtain ⟨_, b, e⟩ := valid_eq xs k hl hk
  cases b with
  | true => rw [e, (okT_iff xs).2 (valid_tree xs k e)]
  | false =>
    rw [e]
    by_cases h : okT xs = true
    · obtain ⟨h1, t, rfl, hw⟩ := (okT_iff xs).1 h
      exfalso
      rw [spec_ValidTerm.f, if_neg (by omega)] at e
      obtain ⟨k, rfl⟩ : ∃ q, k = q + 1 + (flat t).length := ⟨k - 1 - (flat t).length, by omega⟩
      have := valid_flats (flat t) h1 (flat t).length (k + 1) 0 0 [t] [] (by simp [flats]) (by simp [Wfs, hw]) (by simp [flats]) (by simp) (by omega)
      rw [show (([t].length + 0 : Nat) : Int) = 1 from rfl, show ((0 : Nat) : Int) = 0 from rfl] at this
      rw [this, spec_ValidTerm.l0, if_neg (by omega)] at e
      simp at e
    · rw [show okT xs = false by simpa using h]
theorem valid_val' (xs : List Cell) (k : Nat) (hl : xs.length < 9223372036854775807) (hk : xs.length < k) : impl_ValidTerm.f k xs = some (okT xs) := by
  rw [(valid_eq xs k hl hk).1, valid_val xs k hl hk]
theorem okT_all : ∀ (xs : List (List Cell)), xs.all okT = true → ∃ us : List Tm, us.map flat = xs ∧ Wfs us
  | [], _ => ⟨[], rfl, by simp [Wfs]⟩
  | x :: xs, h => by
    rw [List.all_cons, Bool.and_eq_true] at h
    obtain ⟨_, t, rfl, hw⟩ := (okT_iff x).1 h.1
    obtain ⟨us, rfl, hws⟩ := okT_all xs h.2
    exact ⟨t :: us, rfl, by simp only [Wfs]; exact ⟨hw, hws⟩⟩
/-! ### cells to trees -/
mutual
theorem from_flat : ∀ (t : Tm) (k : Nat) (r : List Cell), Wf t → 3 * (flat t).length < k → (flat t).length + r.length ≤ 2000 → impl_fromCells.f k (flat t ++ r) = some (t, r)
  | .mk kd n s us, k, r, hw, hk, hl => by
    obtain ⟨k, rfl⟩ : ∃ q, k = q + 1 := ⟨k - 1, by omega⟩
    simp only [flat, List.length_cons] at hk hl
    simp only [Wf] at hw
    obtain ⟨w0, w1, w2, w6⟩ := hw
    have e0 : flat (Tm.mk kd n s us) ++ r = ⟨kd, n, s⟩ :: (flats us ++ r) := by simp [flat]
    rw [e0, impl_fromCells.f, if_pos (by simp; omega), if_pos (by simp; omega), drop1]
    show (if kd = 3 then impl_fromCells.l0 k _ _ 0 [] else some (Tm.mk kd n s [], flats us ++ r)) = _
    by_cases h : kd = 3
    · rw [if_pos h]
      have a3 := w1 h
      have ⟨a1, a2⟩ := w0.n3 h
      have a1 : 1 ≤ n := a1
      have a2 : n ≤ 20 := a2
      have := from_flats us k ⟨kd, n, s⟩ (flats us ++ r) r [] w6 (by omega) (by omega) (by simp; omega) (by simp; omega)
      simpa using this
    · rw [if_neg h, w2 h]; simp [flats]
theorem from_flats : ∀ (us : List Tm) (k : Nat) (c : Cell) (z r : List Cell) (acc : List Tm), Wfs us → 3 * (flats us).length + 1 < k → (flats us).length + r.length ≤ 2000 → ((acc.length + us.length : Nat) : Int) = c.n → acc.length + us.length ≤ 20 →
    impl_fromCells.l0 k (c :: z) (flats us ++ r) (acc.length : Int) acc = some (Tm.mk c.kind c.n c.text (acc ++ us), r)
  | [], k, c, z, r, acc, hw, hk, hl, hn, hb => by
    obtain ⟨k, rfl⟩ : ∃ q, k = q + 1 := ⟨k - 1, by omega⟩
    rw [impl_fromCells.l0]
    show (if (acc.length : Int) < c.n then _ else some (Tm.mk c.kind c.n c.text acc, flats [] ++ r)) = _
    rw [if_neg (by simp at hn; omega)]
    simp [flats]
  | t :: us, k, c, z, r, acc, hw, hk, hl, hn, hb => by
    obtain ⟨k, rfl⟩ : ∃ q, k = q + 1 := ⟨k - 1, by omega⟩
    simp only [Wfs] at hw
    simp only [flats, List.length_append] at hk hl
    simp only [List.length_cons] at hn hb
    have hp := flat_pos t
    have e0 : flats (t :: us) ++ r = flat t ++ (flats us ++ r) := by simp [flats]
    rw [e0, impl_fromCells.l0]
    rw [from_flat t k (flats us ++ r) hw.1 (by omega) (by simp; omega), Option.bind_some]
    show (if (acc.length : Int) < c.n then _ else _) = _
    rw [if_pos (by omega), if_pos (by omega), wrap_nat (by omega)]
    have := from_flats us k c z r (acc ++ [t]) hw.2 (by omega) (by omega) (by simp; omega) (by simp; omega)
    simpa using this
end
theorem tree_flat (t : Tm) (k : Nat) (hw : Wf t) (hl : (flat t).length ≤ 2000) (hk : 6000 < k) : impl_tree.f k (flat t) = some t := by
  rw [impl_tree.f]
  have := from_flat t k [] hw (by omega) (by simpa using hl)
  rw [List.append_nil] at this
  rw [this]; rfl
/-! ### names and ends -/
def isT (t : Tm) (s : List UInt8) (a : Int) : Bool := decide (t.text = s) && (if a = 0 then decide (t.kind = 2) else (decide (t.kind = 3) && decide (t.n = a)))
theorem l2is_flat (t : Tm) (r : List Cell) (s : List UInt8) (a : Int) : spec_l2is.f (flat t ++ r) s a = some (isT t s a) := by
  obtain ⟨kd, n, s', us⟩ := t
  have e : (flat (Tm.mk kd n s' us) ++ r).getD 0 z36 = ⟨kd, n, s'⟩ := by simp [flat]
  rw [spec_l2is.f, e, if_pos (by simp [flat]; omega)]
  unfold isT
  show (if s' ≠ s then _ else (if a = 0 then some (decide (kd = 2)) else (if kd = 3 then some (decide (n = a)) else some false))) = some (decide (s' = s) && (if a = 0 then decide (kd = 2) else (decide (kd = 3) && decide (n = a))))
  by_cases h : s' = s
  · rw [if_neg (by simpa using h)]
    by_cases h2 : a = 0
    · simp [h, h2]
    · by_cases h3 : kd = 3 <;> simp [h, h2, h3]
  · rw [if_pos h]; simp [h]
theorem nodeis_val (t : Tm) (s : List UInt8) (a : Int) : impl_node_is.f t s a = some (isT t s a) := by
  rw [impl_node_is.f]
  unfold isT
  by_cases h2 : a = 0
  · by_cases h : t.text = s <;> by_cases h3 : t.kind = 2 <;> simp [h, h2, h3]
  · by_cases h : t.text = s <;> by_cases h3 : t.kind = 3 <;> simp [h, h2, h3]
theorem next_flats (xs : List Cell) (hx : xs.length ≤ 2000) : ∀ (m k i e : Nat) (us : List Tm) (r : List Cell), (flats us).length = m → Wfs us → xs.drop i = flats us ++ r → us.length + e ≤ 100000 → e ≤ 50000 →
    spec_l2next.l0 (k + m) xs (i : Int) ((us.length + e : Nat) : Int) = spec_l2next.l0 k xs ((i + m : Nat) : Int) (e : Int) := by
  intro m
  induction m with
  | zero =>
    intro k i e us r h1 hw hd h2 h3
    cases us with
    | nil => simp
    | cons t us => have := flat_pos t; simp only [flats, List.length_append] at h1; omega
  | succ m ih =>
    intro k i e us r h1 hw hd h2 h3
    cases us with
    | nil => simp [flats] at h1
    | cons t us =>
      obtain ⟨kd, n, s, vs⟩ := t
      simp only [Wfs, Wf] at hw
      obtain ⟨⟨w0, w1, w2, w3⟩, w4⟩ := hw
      have hi : i < xs.length := by
        rcases Nat.lt_or_ge i xs.length with h | h
        · exact h
        · rw [List.drop_of_length_le h] at hd; simp [flats, flat] at hd
      have hc : xs[i] = ⟨kd, n, s⟩ := by
        rw [List.drop_eq_getElem_cons hi] at hd
        simp only [flats, flat, List.cons_append] at hd
        exact (List.cons.inj hd).1
      have hd2 : xs.drop (i + 1) = flats (vs ++ us) ++ r := by
        rw [List.drop_eq_getElem_cons hi] at hd
        simp only [flats, flat, List.cons_append] at hd
        rw [(List.cons.inj hd).2, flats_append]
      have hm : (flats (vs ++ us)).length = m := by
        simp only [flats, flat, List.cons_append, List.length_cons] at h1
        rw [flats_append]; omega
      have hv : vs.length ≤ (flats (vs ++ us)).length := by have := flats_len (vs ++ us); simp at this; omega
      have hl : (flats (vs ++ us)).length ≤ 2000 := by
        have := congrArg List.length hd2
        rw [List.length_drop, List.length_append] at this; omega
      have hlen := flats_len (vs ++ us)
      rw [show k + (m + 1) = (k + m) + 1 by omega, spec_l2next.l0, if_pos (by simp; omega), if_pos (by omega), if_pos (by omega), Int.toNat_natCast, getD_at hi, hc, wrap_nat (by omega)]
      have := ih k (i + 1) e (vs ++ us) r hm ((Wfs_append _ _).2 ⟨w3, w4⟩) hd2 (by omega) h3
      rw [show i + (m + 1) = i + 1 + m by omega, ← this]
      simp only [List.length_cons, List.length_append] at hlen h2 ⊢
      by_cases hk : kd = 3
      · have hn := w1 hk
        rw [if_pos hk, wrap_id (n := ((us.length + 1 + e : Nat) : Int) + n) (by omega) (by omega), wrap_id (by omega) (by omega)]
        congr 1
        omega
      · rw [if_neg hk, wrap_id (by omega) (by omega)]
        have : vs = [] := w2 hk
        subst this
        congr 1
        simp; omega
theorem next_one (c : Cell) (t : Tm) (r : List Cell) (k : Nat) (hw : Wf t) (hl : (flat t).length + r.length < 2000) (hk : 2000 < k) : spec_l2next.f k (c :: (flat t ++ r)) 1 = some ((1 + (flat t).length : Nat) : Int) := by
  rw [spec_l2next.f]
  obtain ⟨k, rfl⟩ : ∃ q, k = q + 1 + (flat t).length := ⟨k - 1 - (flat t).length, by omega⟩
  have := next_flats (c :: (flat t ++ r)) (by simp; omega) (flat t).length (k + 1) 1 0 [t] r (by simp [flats]) (by simp [Wfs, hw]) (by simp [flats]) (by simp) (by omega)
  rw [show (([t].length + 0 : Nat) : Int) = 1 from rfl, show ((1 : Nat) : Int) = 1 from rfl] at this
  rw [this, spec_l2next.l0, if_neg (by simp)]
theorem next_at (xs : List Cell) (u : Tm) (j k : Nat) (r : List Cell) (hx : xs.length ≤ 2000) (hw : Wf u) (hd : xs.drop j = flat u ++ r) (hk : 2001 < k) : spec_l2next.f k xs (j : Int) = some ((j + (flat u).length : Nat) : Int) := by
  have hl : (flat u).length ≤ 2000 := by have := congrArg List.length hd; rw [List.length_drop, List.length_append] at this; omega
  rw [spec_l2next.f]
  obtain ⟨k, rfl⟩ : ∃ q, k = q + 1 + (flat u).length := ⟨k - 1 - (flat u).length, by omega⟩
  have := next_flats xs hx (flat u).length (k + 1) j 0 [u] r (by simp [flats]) (by simp [Wfs, hw]) (by simpa [flats] using hd) (by simp) (by omega)
  rw [show (([u].length + 0 : Nat) : Int) = 1 from rfl] at this
  rw [this, spec_l2next.l0, if_neg (by simp)]
theorem cut_at (ys : List Cell) (u : Tm) (j : Nat) (r : List Cell) (hd : ys.drop j = flat u ++ r) : (ys.drop (j : Int).toNat).take (((j + (flat u).length : Nat) : Int).toNat - (j : Int).toNat) = flat u := by
  rw [Int.toNat_natCast, Int.toNat_natCast, hd, Nat.add_sub_cancel_left]; simp
theorem cut_one (xs : List Cell) (i : Nat) (hi : i < xs.length) : (xs.drop (i : Int).toNat).take (((i + 1 : Nat) : Int).toNat - (i : Int).toNat) = [xs[i]] := by
  rw [Int.toNat_natCast, Int.toNat_natCast, Nat.add_sub_cancel_left, List.drop_eq_getElem_cons hi]; rfl
theorem l2copy_val (xs : List Cell) (k : Nat) (hl : xs.length ≤ 1000000) (ht : ∀ c, c ∈ xs → c.text.length ≤ 1000000) (hk : xs.length < k) : spec_l2copy.f k xs = some xs := by
  rw [spec_l2copy.f]
  have key : ∀ (m k i : Nat), xs.length - i = m → i ≤ xs.length → m < k → spec_l2copy.l0 k xs (xs.take i) (i : Int) = some xs := by
    intro m
    induction m with
    | zero =>
      intro k i h1 h2 h3
      obtain ⟨k, rfl⟩ : ∃ q, k = q + 1 := ⟨k - 1, by omega⟩
      rw [spec_l2copy.l0, if_neg (by omega), List.take_of_length_le (by omega)]
    | succ m ih =>
      intro k i h1 h2 h3
      obtain ⟨k, rfl⟩ : ∃ q, k = q + 1 := ⟨k - 1, by omega⟩
      have hi : i < xs.length := by omega
      have hlt := ht _ (List.getElem_mem hi)
      rw [spec_l2copy.l0, if_pos (by omega), if_pos (by omega), Int.toNat_natCast, getD_at hi, spec_l1copy.f, if_pos (by omega), Option.bind_some, if_pos (by rw [List.length_take]; omega), wrap_nat (by omega)]
      have e : xs.take i ++ [(⟨xs[i].kind, xs[i].n, xs[i].text⟩ : Cell)] = xs.take (i + 1) := by rw [List.take_add_one, List.getElem?_eq_getElem hi]; rfl
      rw [e]
      exact ih k (i + 1) (by omega) (by omega) (by omega)
  exact key xs.length k 0 rfl (by omega) hk
theorem okc_parts {k n : Int} {s : List UInt8} (h : Okc ⟨k, n, s⟩) : (k = 0 ∨ k = 1 ∨ k = 2 ∨ k = 3) ∧ (k = 0 ∨ k = 1 → s = []) ∧ (k = 2 → n = 0) ∧ (k = 3 → 1 ≤ n ∧ n ≤ 20) := by
  unfold Okc at h
  simp only at h
  rcases h with ⟨h, _, _, h2⟩ | ⟨h, _, _, h2⟩ | ⟨h, h2, _⟩ | ⟨h, h2, h3, _⟩
  · exact ⟨.inl h, fun _ => h2, fun q => by omega, fun q => by omega⟩
  · exact ⟨.inr (.inl h), fun _ => h2, fun q => by omega, fun q => by omega⟩
  · exact ⟨.inr (.inr (.inl h)), fun q => by omega, fun _ => h2, fun q => by omega⟩
  · exact ⟨.inr (.inr (.inr h)), fun q => by omega, fun q => by omega, fun _ => ⟨h2, h3⟩⟩
/-! ### what a term is built of -/
theorem isT_mk (k n : Int) (s : List UInt8) (us : List Tm) (z : List UInt8) (a : Int) : isT (.mk k n s us) z a = isT (.mk k n s []) z a := rfl
theorem is_mk (k n : Int) (s : List UInt8) (us : List Tm) (z : List UInt8) (a : Int) : impl_node_is.f (.mk k n s us) z a = some (isT (.mk k n s []) z a) := by rw [nodeis_val]; rfl
theorem flats_map : ∀ us : List Tm, (us.map flat).flatten = flats us
  | [] => rfl
  | u :: us => by simp [flats, flats_map us]
theorem comp_val (s : List UInt8) (us : List Tm) (k : Nat) (hs : s.length ≤ 1000) (hl : (flats us).length ≤ 100000) (ht : ∀ c, c ∈ flats us → c.text.length ≤ 1000000) (hk : 300000 < k) : spec_l2comp.f k s (us.map flat) = some (flat (.mk 3 (us.length : Int) s us)) := by
  rw [spec_l2comp.f, if_pos (by omega), List.length_map]
  have hul := flats_len us
  have key : ∀ (m k i : Nat), us.length - i = m → i ≤ us.length → m + 100001 < k → spec_l2comp.l0 k (us.map flat) (⟨3, (us.length : Int), s⟩ :: flats (us.take i)) (i : Int) = some (flat (.mk 3 (us.length : Int) s us)) := by
    intro m
    induction m with
    | zero =>
      intro k i h1 h2 h3
      obtain ⟨k, rfl⟩ : ∃ q, k = q + 1 := ⟨k - 1, by omega⟩
      rw [spec_l2comp.l0, if_neg (by simp; omega), List.take_of_length_le (by omega)]; rfl
    | succ m ih =>
      intro k i h1 h2 h3
      obtain ⟨k, rfl⟩ : ∃ q, k = q + 1 := ⟨k - 1, by omega⟩
      have hi : i < us.length := by omega
      have hg : (us.map flat).getD i ([] : List Cell) = flat us[i] := by rw [getD_at (by simpa using hi), List.getElem_map]
      have hsp : flats us = flats (us.take i) ++ (flat us[i] ++ flats (us.drop (i + 1))) := by
        have htd := List.take_append_drop i us
        rw [List.drop_eq_getElem_cons hi] at htd
        conv => lhs; rw [← htd]
        rw [flats_append]; rfl
      have hlen := congrArg List.length hsp
      rw [List.length_append, List.length_append] at hlen
      rw [spec_l2comp.l0, if_pos (by simp; omega), if_pos (by omega), Int.toNat_natCast, hg, l2copy_val _ _ (by omega) (fun c hc => ht c (by rw [hsp]; exact List.mem_append_right _ (List.mem_append_left _ hc))) (by omega), Option.bind_some, if_pos (by simp; omega), wrap_nat (by omega)]
      have e : (⟨3, (us.length : Int), s⟩ :: flats (us.take i)) ++ flat us[i] = (⟨3, (us.length : Int), s⟩ : Cell) :: flats (us.take (i + 1)) := by
        rw [List.take_add_one, List.getElem?_eq_getElem hi, flats_append]; simp [flats]
      rw [e]
      exact ih k (i + 1) (by omega) (by omega) (by omega)
  have := key us.length k 0 rfl (by omega) (by omega)
  simpa [flats] using this
theorem args_val (n : Int) (s : List UInt8) (us : List Tm) (k : Nat) (hw : Wf (.mk 3 n s us)) (hl : (flats us).length < 2000) (hk : 10000 < k) : spec_l2args.f k (flat (.mk 3 n s us)) = some (us.map flat) := by
  have hw2 := hw
  simp only [Wf] at hw2
  have hn : (us.length : Int) = n := hw2.2.1 (by trivial)
  have hws := hw2.2.2.2
  have e0 : (flat (.mk 3 n s us)).getD 0 z36 = ⟨3, n, s⟩ := by simp [flat]
  rw [spec_l2args.f, if_neg (by simp [flat] <;> omega), if_pos (by simp [flat] <;> omega), e0, if_neg (by simp)]
  have hul := flats_len us
  have key : ∀ (m k i : Nat), us.length - i = m → i ≤ us.length → m + 3000 < k → spec_l2args.l0 k (flat (.mk 3 n s us)) ((us.take i).map flat) ((1 + (flats (us.take i)).length : Nat) : Int) (i : Int) = some (us.map flat) := by
    intro m
    induction m with
    | zero =>
      intro k i h1 h2 h3
      obtain ⟨k, rfl⟩ : ∃ q, k = q + 1 := ⟨k - 1, by omega⟩
      rw [spec_l2args.l0, e0, if_neg (by show ¬ (i : Int) < n; omega), List.take_of_length_le (by omega)]
    | succ m ih =>
      intro k i h1 h2 h3
      obtain ⟨k, rfl⟩ : ∃ q, k = q + 1 := ⟨k - 1, by omega⟩
      have hi : i < us.length := by omega
      have htd := List.take_append_drop i us
      rw [List.drop_eq_getElem_cons hi] at htd
      have hwi : Wf us[i] := by
        rw [← htd, Wfs_append] at hws
        have := hws.2
        simp only [Wfs] at this
        exact this.1
      have hsp : flats us = flats (us.take i) ++ (flat us[i] ++ flats (us.drop (i + 1))) := by
        conv => lhs; rw [← htd]
        rw [flats_append]; rfl
      have hlen := congrArg List.length hsp
      rw [List.length_append, List.length_append] at hlen
      have hd : (flat (.mk 3 n s us)).drop (1 + (flats (us.take i)).length) = flat us[i] ++ flats (us.drop (i + 1)) := by
        rw [Nat.add_comm]
        show (flats us).drop _ = _
        rw [hsp]; simp
      have hfl : (flat (.mk 3 n s us)).length = (flats us).length + 1 := by simp [flat]
      rw [spec_l2args.l0, e0, if_pos (by show (i : Int) < n; omega), next_at _ us[i] _ k _ (by omega) hwi hd (by omega), Option.bind_some, if_pos (by omega), if_pos (by omega), if_pos (by omega), if_pos (by simp; omega), cut_at _ us[i] _ _ hd, wrap_nat (by omega)]
      have e1 : (us.take i).map flat ++ [flat us[i]] = (us.take (i + 1)).map flat := by rw [List.take_add_one, List.getElem?_eq_getElem hi, List.map_append]; rfl
      have e2 : 1 + (flats (us.take i)).length + (flat us[i]).length = 1 + (flats (us.take (i + 1))).length := by
        rw [List.take_add_one, List.getElem?_eq_getElem hi, flats_append]; simp [flats]; omega
      rw [e1, e2]
      exact ih k (i + 1) (by omega) (by omega) (by omega)
  have := key us.length k 0 rfl (by omega) (by omega)
  simpa [flats] using this
/-- a construct's shape -/
theorem isT_parts {k n : Int} {s z : List UInt8} {us : List Tm} {a : Int} (h : isT (.mk k n s us) z a = true) (ha : a ≠ 0) : s = z ∧ k = 3 ∧ n = a := by
  unfold isT at h
  rw [if_neg ha] at h
  simp only [Bool.and_eq_true, decide_eq_true_eq] at h
  exact h
/-! ### FnExactTermVars -/
def addV (acc : List Int) (c : Cell) : List Int := if c.kind = 0 ∧ c.n ∉ acc then acc ++ [c.n] else acc
def varsC (xs : List Cell) (acc : List Int) : List Int := xs.foldl addV acc
theorem addV_len (acc : List Int) (c : Cell) : (addV acc c).length ≤ acc.length + 1 := by unfold addV; split <;> simp
theorem varsC_len : ∀ (xs : List Cell) (acc : List Int), (varsC xs acc).length ≤ acc.length + xs.length
  | [], acc => by simp [varsC]
  | x :: xs, acc => by
    have := varsC_len xs (addV acc x)
    have := addV_len acc x
    simp only [varsC, List.foldl_cons, List.length_cons] at *
    omega
theorem varsC_app (a b : List Cell) (acc : List Int) : varsC (a ++ b) acc = varsC b (varsC a acc) := by simp [varsC]
def Seen (m : List (Int × Bool)) (acc : List Int) : Prop := ∀ n, (mget m n).getD false = true ↔ n ∈ acc
mutual
theorem vars_flat : ∀ (t : Tm) (k : Nat) (m : List (Int × Bool)) (acc : List Int), 4 * (flat t).length < k → (flat t).length + acc.length ≤ 100000 → Seen m acc → ∃ m', impl_node_vars_2.f k t m acc = some (varsC (flat t) acc, m') ∧ Seen m' (varsC (flat t) acc)
  | .mk kd n s us, k, m, acc, hk, hl, hs => by
    simp only [flat, List.length_cons] at hk hl
    obtain ⟨k, rfl⟩ : ∃ q, k = q + 3 := ⟨k - 3, by omega⟩
    have e0 : ∃ m1, impl_node_vars_2.f (k + 3) (Tm.mk kd n s us) m acc = impl_node_vars_2.l0 (k + 2) (Tm.mk kd n s us) (addV acc ⟨kd, n, s⟩) m1 ∧ Seen m1 (addV acc ⟨kd, n, s⟩) := by
      rw [impl_node_vars_2.f]
      show ∃ m1, (if kd = 0 then (if ¬ (((mget m n).getD false) = true) then (if acc.length + 1 ≤ 17592186044416 then impl_node_vars_2.l0 (k + 2) _ (acc ++ [n]) (mset m n true) else none) else impl_node_vars_2.l0 (k + 2) _ acc m) else impl_node_vars_2.l0 (k + 2) _ acc m) = _ ∧ _
      by_cases h : kd = 0
      · rw [if_pos h]
        by_cases h2 : ¬ ((mget m n).getD false) = true
        · rw [if_pos h2, if_pos (by omega), show addV acc ⟨kd, n, s⟩ = acc ++ [n] by unfold addV; rw [if_pos ⟨h, fun q => h2 ((hs n).2 q)⟩]]
          refine ⟨mset m n true, rfl, fun j => ?_⟩
          rw [mget_mset]
          by_cases hj : j = n
          · simp [hj]
          · rw [if_neg hj, hs j]; simp [hj]
        · rw [if_neg h2, show addV acc ⟨kd, n, s⟩ = acc by unfold addV; rw [if_neg (fun q => h2 (fun w => q.2 ((hs n).1 w)))]]
          exact ⟨m, rfl, hs⟩
      · rw [if_neg h, show addV acc ⟨kd, n, s⟩ = acc by unfold addV; rw [if_neg (fun q => h q.1)]]
        exact ⟨m, rfl, hs⟩
    obtain ⟨m1, e1, s1⟩ := e0
    have ha := addV_len acc ⟨kd, n, s⟩
    obtain ⟨m2, e2, s2⟩ := vars_flats us [] k (Tm.mk kd n s us) m1 (addV acc ⟨kd, n, s⟩) rfl (by omega) (by omega) s1 (by have := flats_len us; simp; omega)
    refine ⟨m2, ?_, s2⟩
    rw [e1, impl_node_vars_2.l0]
    exact e2
theorem vars_flats : ∀ (us vs : List Tm) (k : Nat) (t : Tm) (m : List (Int × Bool)) (acc : List Int), t.args = vs ++ us → 4 * (flats us).length + 1 < k + 1 → (flats us).length + acc.length ≤ 100000 → Seen m acc → vs.length + us.length ≤ 1000000 →
    ∃ m', impl_node_vars_2.l1 (k + 1) t acc (vs.length : Int) m = some (varsC (flats us) acc, m') ∧ Seen m' (varsC (flats us) acc)
  | [], vs, k, t, m, acc, ha, hk, hl, hs, hv => by
    rw [impl_node_vars_2.l1, ha, if_neg (by simp)]
    exact ⟨m, rfl, hs⟩
  | u :: us, vs, k, t, m, acc, ha, hk, hl, hs, hv => by
    simp only [flats, List.length_append] at hk hl ⊢
    have hp := flat_pos u
    simp only [List.length_cons] at hv
    obtain ⟨k, rfl⟩ : ∃ q, k = q + 1 := ⟨k - 1, by omega⟩
    rw [impl_node_vars_2.l1, ha, if_pos (by simp; omega), if_pos (by omega)]
    have hg : (vs ++ u :: us).getD ((vs.length : Int)).toNat (Tm.mk 0 0 [] []) = u := by
      rw [Int.toNat_natCast, List.getD_eq_getElem?_getD, List.getElem?_append_right (by omega), Nat.sub_self]; rfl
    obtain ⟨m1, e1, s1⟩ := vars_flat u (k + 1) m acc (by omega) (by omega) hs
    have hq := varsC_len (flat u) acc
    rw [hg, e1, Option.bind_some, wrap_nat (by omega)]
    obtain ⟨m2, e2, s2⟩ := vars_flats us (vs ++ [u]) k t m1 (varsC (flat u) acc) (by rw [ha]; simp) (by omega) (by omega) s1 (by simp; omega)
    rw [show ((vs ++ [u]).length : Int) = ((vs.length + 1 : Nat) : Int) by simp] at e2
    rw [varsC_app]
    exact ⟨m2, e2, s2⟩
end
theorem varsOf_val (t : Tm) (k : Nat) (hl : (flat t).length ≤ 2000) (hk : 8000 < k) : impl_varsOf.f k t = some (varsC (flat t) []) := by
  obtain ⟨m, e, _⟩ := vars_flat t k [] [] (by omega) (by simp; omega) (fun n => by simp [mget])
  rw [impl_varsOf.f, e]; rfl
/-! ### trees whose texts are short -/
mutual
def Wt : Tm → Prop
  | .mk k _ s us => s.length ≤ 100 ∧ (k < 2 → s = []) ∧ Wts us
def Wts : List Tm → Prop
  | [] => True
  | t :: ts => Wt t ∧ Wts ts
end
theorem Wts_append : ∀ (a b : List Tm), Wts (a ++ b) ↔ Wts a ∧ Wts b
  | [], b => by simp [Wts]
  | t :: a, b => by simp [Wts, Wts_append a b, and_assoc]
mutual
theorem Wf.wt : ∀ t : Tm, Wf t → Wt t
  | .mk k n s us, h => by
    simp only [Wf] at h
    simp only [Wt]
    refine ⟨h.1.text, fun hk => ?_, Wfs.wts us h.2.2.2⟩
    rcases h.1 with ⟨_, _, _, h1⟩ | ⟨_, _, _, h1⟩ | ⟨h1, _⟩ | ⟨h1, _⟩
    · exact h1
    · exact h1
    · exact absurd (show k = 2 from h1) (by omega)
    · exact absurd (show k = 3 from h1) (by omega)
theorem Wfs.wts : ∀ ts : List Tm, Wfs ts → Wts ts
  | [], _ => by simp [Wts]
  | t :: ts, h => by
    simp only [Wfs] at h
    simp only [Wts]
    exact ⟨Wf.wt t h.1, Wfs.wts ts h.2⟩
end
mutual
theorem wt_text : ∀ t : Tm, Wt t → ∀ c, c ∈ flat t → c.text.length ≤ 100
  | .mk k n s us, h, c, hc => by
    simp only [Wt] at h
    simp only [flat] at hc
    rcases List.mem_cons.1 hc with rfl | hc
    · exact h.1
    · exact wts_text us h.2.2 c hc
theorem wts_text : ∀ ts : List Tm, Wts ts → ∀ c, c ∈ flats ts → c.text.length ≤ 100
  | [], _, c, hc => by simp [flats] at hc
  | t :: ts, h, c, hc => by
    simp only [Wts] at h
    simp only [flats] at hc
    rcases List.mem_append.1 hc with hc | hc
    · exact wt_text t h.1 c hc
    · exact wts_text ts h.2 c hc
end
theorem wCells_wt {xs : List Cell} (h : ∀ c, c ∈ xs → c.text.length ≤ 100) : wCells xs ≤ 101 * xs.length := by
  have := wts_bound (fun x : Cell => x.text.length) (n := 100) (xs := xs) h
  unfold wCells; omega
/-! ### trees to cells -/
mutual
theorem putw : ∀ (t : Tm) (k : Nat) (acc : List Cell), Wt t → 4 * (flat t).length < k → acc.length + (flat t).length ≤ 1000000 → impl_node_put_2.f k t acc = some (acc ++ flat t)
  | .mk kd n s us, k, acc, hw, hk, hl => by
    obtain ⟨k, rfl⟩ : ∃ q, k = q + 3 := ⟨k - 3, by simp [flat] at hk; omega⟩
    simp only [flat, List.length_cons] at hk hl
    simp only [Wt] at hw
    obtain ⟨w0, w1, w6⟩ := hw
    have e0 : impl_node_put_2.f (k + 3) (Tm.mk kd n s us) acc = impl_node_put_2.l0 (k + 2) (Tm.mk kd n s us) acc s := by
      rw [impl_node_put_2.f]
      show (if kd ≥ 2 then (if s.length ≤ 9223372036854775807 then impl_node_put_2.l0 (k + 2) _ acc s else none) else impl_node_put_2.l0 (k + 2) _ acc []) = _
      by_cases h : kd ≥ 2
      · rw [if_pos h, if_pos (Nat.le_trans w0 (by decide))]
      · rw [if_neg h, w1 (by omega)]
    rw [e0, impl_node_put_2.l0, if_pos (by omega)]
    have := putws us [] k (Tm.mk kd n s us) (acc ++ [⟨kd, n, s⟩]) rfl w6 (by omega) (by simp; omega) (by have := flats_len us; simp; omega)
    simp only [List.length_nil] at this
    exact this.trans (by simp [flat])
theorem putws : ∀ (us vs : List Tm) (k : Nat) (t : Tm) (acc : List Cell), t.args = vs ++ us → Wts us → 4 * (flats us).length + 2 < k + 1 → acc.length + (flats us).length ≤ 1000000 → vs.length + us.length ≤ 1000000 →
    impl_node_put_2.l1 (k + 1) t acc (vs.length : Int) = some (acc ++ flats us)
  | [], vs, k, t, acc, ha, hw, hk, hl, hv => by
    rw [impl_node_put_2.l1, ha, if_neg (by simp)]; simp [flats]
  | u :: us, vs, k, t, acc, ha, hw, hk, hl, hv => by
    simp only [Wts] at hw
    simp only [flats, List.length_append] at hk hl
    have hp := flat_pos u
    simp only [List.length_cons] at hv
    obtain ⟨k, rfl⟩ : ∃ q, k = q + 1 := ⟨k - 1, by omega⟩
    rw [impl_node_put_2.l1, ha, if_pos (by simp; omega), if_pos (by omega)]
    have hg : (vs ++ u :: us).getD ((vs.length : Int)).toNat (Tm.mk 0 0 [] []) = u := by
      rw [Int.toNat_natCast, List.getD_eq_getElem?_getD, List.getElem?_append_right (by omega), Nat.sub_self]; rfl
    rw [hg, impl_node_cut_2.f, putw u k acc hw.1 (by omega) (by omega), Option.bind_some, Option.bind_some, wrap_nat (by omega)]
    have := putws us (vs ++ [u]) k t (acc ++ flat u) (by rw [ha]; simp) hw.2 (by omega) (by simp; omega) (by simp; omega)
    rw [show ((vs ++ [u]).length : Int) = ((vs.length + 1 : Nat) : Int) by simp] at this
    rw [this]; simp [flats]
end
theorem cellsw (t : Tm) (k : Nat) (hw : Wt t) (hl : (flat t).length ≤ 100000) (hk : 400000 < k) : impl_node_cells.f k t = some (flat t) := by
  rw [impl_node_cells.f, putw t k [] hw (by omega) (by simp; omega)]; simp
mutual
theorem sizew : ∀ (t : Tm) (k : Nat) (lim : Int), 3 * (flat t).length < k → (flat t).length ≤ 100000 → 0 ≤ lim → lim ≤ 100000 → ∃ r, impl_node_size.f k t lim = some r ∧ 1 ≤ r ∧ r ≤ ((flat t).length : Int) ∧ (((flat t).length : Int) ≤ lim → r = ((flat t).length : Int)) ∧ (lim < ((flat t).length : Int) → lim < r)
  | .mk kd n s us, k, lim, hk, hl, h0, h1 => by
    simp only [flat, List.length_cons] at hk hl ⊢
    obtain ⟨k, rfl⟩ : ∃ q, k = q + 2 := ⟨k - 2, by omega⟩
    rw [impl_node_size.f]
    obtain ⟨r, e1, e2, e3, e4, e5⟩ := sizews us [] k (.mk kd n s us) lim 1 rfl (by omega) (by omega) h0 h1 (by omega) (by omega) (by have := flats_len us; simp; omega)
    exact ⟨r, e1, by omega, by push_cast; omega, fun h => by rw [e4 (by push_cast at h; omega)]; push_cast; omega, fun h => e5 (by push_cast at h; omega)⟩
theorem sizews : ∀ (us vs : List Tm) (k : Nat) (t : Tm) (lim x : Int), t.args = vs ++ us → 3 * (flats us).length + 2 < k + 2 → (flats us).length ≤ 100000 → 0 ≤ lim → lim ≤ 100000 → 1 ≤ x → x ≤ 200000 → vs.length + us.length ≤ 1000000 →
    ∃ r, impl_node_size.l0 (k + 1) t lim x (vs.length : Int) = some r ∧ x ≤ r ∧ r ≤ x + ((flats us).length : Int) ∧ (x + ((flats us).length : Int) ≤ lim → r = x + ((flats us).length : Int)) ∧ (lim < x + ((flats us).length : Int) → lim < r)
  | [], vs, k, t, lim, x, ha, hk, hl, h0, h1, hx, hx2, hv => by
    rw [impl_node_size.l0, ha, if_neg (by simp)]
    exact ⟨x, rfl, by omega, by simp [flats], fun h => by simp [flats], fun h => by simpa [flats] using h⟩
  | u :: us, vs, k, t, lim, x, ha, hk, hl, h0, h1, hx, hx2, hv => by
    simp only [flats, List.length_append] at hk hl ⊢
    have hp := flat_pos u
    simp only [List.length_cons] at hv
    obtain ⟨k, rfl⟩ : ∃ q, k = q + 1 := ⟨k - 1, by omega⟩
    rw [impl_node_size.l0, ha, if_pos (by simp; omega), if_pos (by omega)]
    by_cases hxl : x > lim
    · rw [if_pos hxl]; exact ⟨x, rfl, by omega, by push_cast; omega, fun h => by push_cast at h; omega, fun _ => by omega⟩
    rw [if_neg hxl]
    have hg : (vs ++ u :: us).getD ((vs.length : Int)).toNat (Tm.mk 0 0 [] []) = u := by
      rw [Int.toNat_natCast, List.getD_eq_getElem?_getD, List.getElem?_append_right (by omega), Nat.sub_self]; rfl
    obtain ⟨r1, e1, e2, e3, e4, e5⟩ := sizew u (k + 1) (lim - x) (by omega) (by omega) (by omega) (by omega)
    rw [hg, wrap_id (n := lim - x) (by omega) (by omega), e1, Option.bind_some, wrap_id (by omega) (by omega), wrap_nat (by omega)]
    by_cases hbig : lim < x + r1
    · have := sizews_stop us (vs ++ [u]) k t lim (x + r1) (by rw [ha]; simp) (by omega) (by simp; omega)
      rw [show ((vs ++ [u]).length : Int) = ((vs.length + 1 : Nat) : Int) by simp] at this
      refine ⟨x + r1, this, by omega, by push_cast; omega, fun h => ?_, fun _ => hbig⟩
      push_cast at h
      have := e4 (by omega)
      omega
    · obtain ⟨r, f1, f2, f3, f4, f5⟩ := sizews us (vs ++ [u]) k t lim (x + r1) (by rw [ha]; simp) (by omega) (by omega) h0 h1 (by omega) (by omega) (by simp; omega)
      rw [show ((vs ++ [u]).length : Int) = ((vs.length + 1 : Nat) : Int) by simp] at f1
      have hr1 : r1 = ((flat u).length : Int) := by
        by_cases h : lim - x < ((flat u).length : Int)
        · have := e5 h; omega
        · exact e4 (by omega)
      exact ⟨r, f1, by omega, by push_cast; omega, fun h => by push_cast at h; rw [f4 (by omega)]; push_cast; omega, fun h => f5 (by push_cast at h; omega)⟩
theorem sizews_stop : ∀ (us vs : List Tm) (k : Nat) (t : Tm) (lim x : Int), t.args = vs ++ us → lim < x → vs.length + us.length ≤ 1000000 → impl_node_size.l0 (k + 1) t lim x (vs.length : Int) = some x
  | [], vs, k, t, lim, x, ha, hx, hv => by rw [impl_node_size.l0, ha, if_neg (by simp)]
  | u :: us, vs, k, t, lim, x, ha, hx, hv => by rw [impl_node_size.l0, ha, if_pos (by simp; omega), if_pos (by omega), if_pos (by omega)]
end
/-! ### FnExactTranslateGrammar -/
def fc (c d : Int) : Int := if c = 0 then d else c
theorem fc0 (c : Int) : fc c 0 = c := by unfold fc; split <;> simp_all
theorem fc_fc (c d e : Int) : fc (fc c d) e = fc c (fc d e) := by unfold fc; split <;> simp_all
theorem fc_eq0 {c d : Int} (h : fc c d = 0) : c = 0 ∧ d = 0 := by unfold fc at h; split at h <;> simp_all
def nilT : Tm := .mk 2 0 [91, 93] []
theorem nil_wt : Wt nilT := by simp [nilT, Wt, Wts]
def varT (n : Int) : Tm := .mk 0 n [] []
theorem var_wt (n : Int) : Wt (varT n) := by simp [varT, Wt, Wts]
theorem var_len (n : Int) : (flat (varT n)).length = 1 := by simp [varT, flat, flats]
theorem new_val (nx c : Int) (h0 : 0 ≤ nx) (h1 : nx ≤ 1000000000) : spec_l8new.f ⟨nx, c⟩ = some (flat (varT nx), ⟨nx + 1, c⟩) := by
  rw [spec_l8new.f, wrap_id (n := nx + 1) (by omega) (by omega), wrap_id (by omega) (by omega), spec_l2var.f, Option.bind_some, show nx + 1 - 1 = nx by omega]; rfl
theorem need_val (nx c : Int) (h0 : 0 ≤ nx) (h1 : nx ≤ 1000000000) : impl_grammar_need.f ⟨nx, c⟩ = some (varT nx, ⟨nx + 1, c⟩) := by
  rw [impl_grammar_need.f, wrap_id (n := nx + 1) (by omega) (by omega), wrap_id (by omega) (by omega), impl_variable.f, Option.bind_some, show nx + 1 - 1 = nx by omega]; rfl
theorem fault_val (nx c d : Int) : spec_l8fault.f ⟨nx, c⟩ d = some (flat nilT, ⟨nx, fc c d⟩) := by
  rw [spec_l8fault.f, spec_l2atom.f, if_pos (c := ([91, 93] : List UInt8).length ≤ 9223372036854775807) (by decide), Option.bind_some, Option.bind_some]
  unfold fc
  show (if c = 0 then _ else _) = _
  split <;> rfl
theorem ifault_val (nx c d : Int) : impl_grammar_fault.f ⟨nx, c⟩ d = some ⟨nx, fc c d⟩ := by
  rw [impl_grammar_fault.f]
  unfold fc
  show (if c = 0 then _ else _) = _
  split <;> rfl
theorem comp_wt (s : List UInt8) (us : List Tm) (k : Nat) (hs : s.length ≤ 1000) (hw : Wts us) (hl : (flats us).length ≤ 100000) (hk : 300000 < k) : spec_l2comp.f k s (us.map flat) = some (flat (.mk 3 (us.length : Int) s us)) :=
  comp_val s us k hs hl (fun c hc => Nat.le_trans (wts_text us hw c hc) (by decide)) hk
theorem pair_wt (s : List UInt8) (x y : Tm) (k : Nat) (hs : s.length ≤ 100) (hx : Wt x) (hy : Wt y) (hl : (flat x).length + (flat y).length ≤ 100000) (hk : 300000 < k) : spec_l2pair.f k s (flat x) (flat y) = some (flat (.mk 3 2 s [x, y])) := by
  have := comp_wt s [x, y] k (by omega) (by simp only [Wts]; exact ⟨hx, hy, trivial⟩) (by simp [flats]; omega) hk
  rw [spec_l2pair.f, show [flat x, flat y] = [x, y].map flat from rfl, this]; rfl
theorem pair_ok (s : List UInt8) (x y : Tm) (hs : s.length ≤ 100) (hx : Wt x) (hy : Wt y) : Wt (.mk 3 2 s [x, y]) ∧ (flat (.mk 3 2 s [x, y])).length = 1 + (flat x).length + (flat y).length := by
  refine ⟨?_, by simp [flat, flats]; omega⟩
  simp only [Wt, Wts]
  exact ⟨hs, fun h => absurd h (by decide), hx, hy, trivial⟩
theorem one_ok (s : List UInt8) (x : Tm) (hs : s.length ≤ 100) (hx : Wt x) : Wt (.mk 3 1 s [x]) ∧ (flat (.mk 3 1 s [x])).length = 1 + (flat x).length := by
  refine ⟨?_, by simp [flat, flats]; omega⟩
  simp only [Wt, Wts]
  exact ⟨hs, fun h => absurd h (by decide), hx, trivial⟩
theorem args_any (kd n : Int) (s : List UInt8) (us : List Tm) (k : Nat) (hw : Wf (.mk kd n s us)) (hl : (flats us).length < 2000) (hk : 10000 < k) : spec_l2args.f k (flat (.mk kd n s us)) = some (us.map flat) := by
  by_cases h : kd = 3
  · subst h; exact args_val n s us k hw hl hk
  · simp only [Wf] at hw
    rw [hw.2.2.1 h, spec_l2args.f, if_neg (by simp [flat]; omega), if_pos (by simp [flat] <;> omega), if_pos (by show kd ≠ 3; exact h)]; rfl
/-! lists -/
def dotC : Cell := ⟨3, 2, [46]⟩
def fl : List (List Cell) → List Cell
  | [] => []
  | x :: xs => dotC :: x ++ fl xs
theorem fl_app : ∀ (a b : List (List Cell)), fl (a ++ b) = fl a ++ fl b
  | [], b => rfl
  | x :: a, b => by simp [fl, fl_app a b]
def sum1 (xs : List (List Cell)) : Nat := wts (fun x : List Cell => 1 + x.length) xs
theorem fl_len : ∀ xs : List (List Cell), (fl xs).length = sum1 xs
  | [] => rfl
  | x :: xs => by have := fl_len xs; unfold sum1 at *; rw [wts_cons, ← this]; simp [fl]; omega
theorem sum1_len (xs : List (List Cell)) : xs.length ≤ sum1 xs := by
  induction xs with
  | nil => simp
  | cons x xs ih => unfold sum1 at *; rw [wts_cons, List.length_cons]; omega
theorem sum1_mem {xs : List (List Cell)} {x : List Cell} (h : x ∈ xs) : 1 + x.length ≤ sum1 xs := wts_mem (fun x : List Cell => 1 + x.length) h
def listE (e : Tm) : List Tm → Tm
  | [] => e
  | u :: us => .mk 3 2 [46] [u, listE e us]
theorem listE_flat (e : Tm) : ∀ us : List Tm, flat (listE e us) = fl (us.map flat) ++ flat e
  | [] => rfl
  | u :: us => by simp [listE, flat, flats, fl, listE_flat e us, dotC]
theorem listE_wt (e : Tm) (he : Wt e) : ∀ us : List Tm, Wts us → Wt (listE e us)
  | [], _ => he
  | u :: us, h => by
    simp only [Wts] at h
    simp only [listE, Wt, Wts]
    exact ⟨by decide, by simp, h.1, listE_wt e he us h.2, trivial⟩
theorem l2list_val (xs : List (List Cell)) (e : List Cell) (k : Nat) (hs : sum1 xs ≤ 2000) (he : e.length ≤ 10 ∧ ∀ c, c ∈ e → c.text.length ≤ 1000000) (ht : ∀ x, x ∈ xs → ∀ c, c ∈ x → c.text.length ≤ 1000000) (hk : 10000 < k) : spec_l2list.f k xs e = some (fl xs ++ e) := by
  rw [spec_l2list.f]
  have hx := sum1_len xs
  have key : ∀ (m k i : Nat), xs.length - i = m → i ≤ xs.length → m + 3000 < k → spec_l2list.l0 k xs e (fl (xs.take i)) (i : Int) = some (fl xs ++ e) := by
    intro m
    induction m with
    | zero =>
      intro k i h1 h2 h3
      obtain ⟨k, rfl⟩ : ∃ q, k = q + 1 := ⟨k - 1, by omega⟩
      have hfl := fl_len xs
      rw [spec_l2list.l0, if_neg (by omega), List.take_of_length_le (by omega), l2copy_val _ _ (by omega) he.2 (by omega), Option.bind_some, if_pos (by omega)]
    | succ m ih =>
      intro k i h1 h2 h3
      obtain ⟨k, rfl⟩ : ∃ q, k = q + 1 := ⟨k - 1, by omega⟩
      have hi : i < xs.length := by omega
      have hmem := List.getElem_mem hi
      have hli := sum1_mem hmem
      have hfl : (fl (xs.take i)).length ≤ 2000 := by
        have := fl_len xs
        rw [← List.take_append_drop i xs, fl_app, List.length_append] at this
        rw [List.take_append_drop] at this; omega
      rw [spec_l2list.l0, if_pos (by omega), if_pos (by omega), if_pos (by omega), Int.toNat_natCast, getD_at hi, l2copy_val _ _ (by omega) (ht _ hmem) (by omega), Option.bind_some, if_pos (by simp; omega), wrap_nat (by omega)]
      have e : (fl (xs.take i) ++ [(⟨3, 2, [(46 : UInt8)]⟩ : Cell)]) ++ xs[i] = fl (xs.take (i + 1)) := by
        rw [List.take_add_one, List.getElem?_eq_getElem hi, fl_app]; simp [fl, dotC]
      rw [e]
      exact ih k (i + 1) (by omega) (by omega) (by omega)
  exact key xs.length k 0 rfl (by omega) (by omega)
theorem listOf_val (us : List Tm) (e : Tm) (hl : us.length ≤ 2000) (k : Nat) (hk : us.length < k) : impl_listOf.f k us e = some (listE e us) := by
  have key : ∀ (i k : Nat), i ≤ us.length → i < k → impl_listOf.l0 k us (listE e (us.drop i)) ((i : Int) - 1) = some (listE e us) := by
    intro i
    induction i with
    | zero =>
      intro k h1 h2
      obtain ⟨k, rfl⟩ : ∃ q, k = q + 1 := ⟨k - 1, by omega⟩
      rw [impl_listOf.l0, if_neg (by omega)]; simp
    | succ i ih =>
      intro k h1 h2
      obtain ⟨k, rfl⟩ : ∃ q, k = q + 1 := ⟨k - 1, by omega⟩
      have hi : i < us.length := by omega
      rw [show ((i + 1 : Nat) : Int) - 1 = (i : Int) by omega, impl_listOf.l0, if_pos (by omega), if_pos (by omega), if_pos (by omega), Int.toNat_natCast, getD_at hi, impl_comp.f, Option.bind_some, wrap_id (by omega) (by omega)]
      have e : (Tm.mk 3 ([us[i], listE e (us.drop (i + 1))].length : Int) [46] [us[i], listE e (us.drop (i + 1))]) = listE e (us.drop i) := by
        rw [List.drop_eq_getElem_cons hi]; rfl
      rw [e]
      exact ih k (by omega) (by omega)
  rw [impl_listOf.f, wrap_id (by omega) (by omega)]
  have := key us.length k (by omega) (by omega)
  rw [List.drop_length] at this
  exact this
theorem items_tree : ∀ (m : Nat) (t : Tm), (flat t).length = m → m ≤ 2000 → Wf t → ∃ (us : List Tm) (e : Tm),
    (∀ (k : Nat) (acc : List (List Cell)), 3000 + m < k → acc.length + m ≤ 100000 → spec_l2items.l0 k (flat t) acc = some (acc ++ us.map flat, flat e)) ∧
    (∀ (k : Nat) (acc : List Tm), m < k → acc.length + m ≤ 100000 → impl_itemsOf.l0 k t acc = some (acc ++ us, e)) ∧ Wfs us ∧ Wf e ∧ sum1 (us.map flat) + (flat e).length = m ∧ (isT t [46] 2 = false → us = [] ∧ e = t) := by
  intro m
  induction m using Nat.strongRecOn with
  | _ m ih =>
    intro t hm hm2 hw
    by_cases hi : isT t [46] 2 = true
    · obtain ⟨kd, n, s, us⟩ := t
      have h3 : s = [46] ∧ kd = 3 ∧ n = 2 := isT_parts hi (by decide)
      obtain ⟨rfl, rfl, rfl⟩ := h3
      simp only [Wf] at hw
      have hl := hw.2.1 (by trivial)
      match us, hl with
      | [a, b], _ =>
        have hw2 : Wf a ∧ Wf b := by have := hw.2.2.2; simpa [Wfs] using this
        have ef : flat (Tm.mk 3 2 [46] [a, b]) = ⟨3, 2, [46]⟩ :: (flat a ++ flat b) := by simp [flat, flats]
        have hp := flat_pos a
        have hq := flat_pos b
        rw [ef, List.length_cons, List.length_append] at hm
        obtain ⟨us, e, f1, f2, f3, f4, f5, f6⟩ := ih (flat b).length (by omega) b rfl (by omega) hw2.2
        refine ⟨a :: us, e, fun k acc hk ha => ?_, fun k acc hk ha => ?_, by simp only [Wfs]; exact ⟨hw2.1, f3⟩, f4, by unfold sum1 at *; rw [List.map_cons, wts_cons]; omega, fun h => by rw [hi] at h; cases h⟩
        · obtain ⟨k, rfl⟩ : ∃ q, k = q + 1 := ⟨k - 1, by omega⟩
          have e1 := l2is_flat (Tm.mk 3 2 [46] [a, b]) [] [46] 2
          rw [List.append_nil] at e1
          rw [spec_l2items.l0, e1, hi, Option.bind_some, if_pos rfl, ef, next_one _ a (flat b) k hw2.1 (by omega) (by omega), Option.bind_some, if_pos (by omega), if_pos (by simp; omega), if_pos (by omega), if_pos (by omega)]
          have d1 : ((⟨3, 2, [46]⟩ : Cell) :: (flat a ++ flat b)).drop (((1 + (flat a).length : Nat) : Int)).toNat = flat b := by
            rw [Int.toNat_natCast, Nat.add_comm]; simp
          have d2 : (((⟨3, 2, [46]⟩ : Cell) :: (flat a ++ flat b)).drop (1 : Int).toNat).take ((((1 + (flat a).length : Nat) : Int)).toNat - (1 : Int).toNat) = flat a := by
            rw [drop1, Int.toNat_natCast, show (1 : Int).toNat = 1 from rfl, Nat.add_sub_cancel_left]; simp
          rw [d1, d2, f1 k _ (by omega) (by simp; omega)]
          simp
        · obtain ⟨k, rfl⟩ : ∃ q, k = q + 1 := ⟨k - 1, by omega⟩
          rw [impl_itemsOf.l0, nodeis_val, hi, Option.bind_some, if_pos rfl]
          show (if 0 < (([a, b] : List Tm).length : Int) then (if acc.length + 1 ≤ 17592186044416 then (if 1 < (([a, b] : List Tm).length : Int) then impl_itemsOf.l0 k b (acc ++ [a]) else none) else none) else none) = _
          rw [if_pos (by simp), if_pos (by omega), if_pos (by simp), f2 k _ (by omega) (by simp; omega)]
          simp
    · have hi' : isT t [46] 2 = false := by simpa using hi
      refine ⟨[], t, fun k acc hk ha => ?_, fun k acc hk ha => ?_, by simp [Wfs], hw, by simp [sum1, wts]; omega, fun _ => ⟨rfl, rfl⟩⟩
      · obtain ⟨k, rfl⟩ : ∃ q, k = q + 1 := ⟨k - 1, by omega⟩
        have e1 := l2is_flat t [] [46] 2
        rw [List.append_nil] at e1
        rw [spec_l2items.l0, e1, hi', Option.bind_some, if_neg (by simp)]; simp
      · obtain ⟨k, rfl⟩ : ∃ q, k = q + 1 := ⟨k - 1, by omega⟩
        rw [impl_itemsOf.l0, nodeis_val, hi', Option.bind_some, if_neg (by simp)]; simp
theorem sum1_flats : ∀ us : List Tm, sum1 (us.map flat) = us.length + (flats us).length
  | [] => rfl
  | u :: us => by have := sum1_flats us; unfold sum1 at *; rw [List.map_cons, wts_cons, this]; simp [flats]; omega
/-- terminals: what both make of them -/
theorem terms_val (t S E : Tm) (hl : (flat t).length ≤ 2000) (hw : Wf t) (hS : Wt S) (hE : Wt E) (lS : (flat S).length = 1) (lE : (flat E).length = 1) : ∃ (us : List Tm) (e : Tm),
    (∀ k, 100000 < k → impl_itemsOf.f k t = some (us, e)) ∧ (isT t [46] 2 = false → e = t) ∧ Wt (listE E us) ∧ (flat (listE E us)).length ≤ (flat t).length ∧ us.length ≤ 2000 ∧
    (∀ k nx c, 400000 < k → spec_l8terminals.f k ⟨nx, c⟩ (flat t) (flat S) (flat E) = some (if isT e [91, 93] 0 = true then (flat (.mk 3 2 [61] [S, listE E us]), ⟨nx, c⟩) else (flat nilT, ⟨nx, fc c 4⟩))) := by
  obtain ⟨us, e, f1, f2, f3, f4, f5, f6⟩ := items_tree _ t rfl hl hw
  have hp := flat_pos e
  have hsf := sum1_flats us
  have hL : Wt (listE E us) := listE_wt E hE us (Wfs.wts us f3)
  have hLl : (flat (listE E us)).length ≤ (flat t).length := by rw [listE_flat, List.length_append, fl_len]; omega
  refine ⟨us, e, fun k hk => by rw [impl_itemsOf.f, f2 k [] (by omega) (by simp; omega)]; rfl, fun h => (f6 h).2, hL, hLl, by omega, fun k nx c hk => ?_⟩
  have e1 := l2is_flat e [] [91, 93] 0
  rw [List.append_nil] at e1
  rw [spec_l8terminals.f, spec_l2items.f, f1 k [] (by omega) (by simp; omega), Option.bind_some, e1, Option.bind_some]
  cases isT e [91, 93] 0 with
  | false => rw [if_pos (by simp), fault_val]; rfl
  | true =>
    rw [if_neg (by simp), if_pos rfl, List.nil_append, l2list_val (us.map flat) _ k (by omega) ⟨by omega, fun c hc => Nat.le_trans (wt_text E hE c hc) (by decide)⟩ (fun x hx c hc => by
      obtain ⟨u, hu, rfl⟩ := List.mem_map.1 hx
      exact Nat.le_trans (wts_text us (Wfs.wts us f3) c (by rw [← flats_map us]; exact List.mem_flatten.2 ⟨_, List.mem_map_of_mem hu, hc⟩)) (by decide)) (by omega), Option.bind_some, ← listE_flat, pair_wt _ S _ k (by decide) hS hL (by omega) (by omega)]; rfl
theorem more_val (kd n : Int) (s : List UInt8) (us : List Tm) (S E : Tm) (hw : Wf (.mk kd n s us)) (hl : (flats us).length < 2000) (hS : Wt S) (hE : Wt E) (lS : (flat S).length = 1) (lE : (flat E).length = 1) (hk2 : ¬ kd < 2) : ∃ (d : Int) (T T' : Tm), Wt T ∧ (flat T).length ≤ 3 + (flats us).length ∧ (flat T').length ≤ 3 + (flats us).length ∧ (d = 0 → T' = T) ∧
    (∀ k nx c, 400000 < k → spec_l8more.f k ⟨nx, c⟩ (flat (.mk kd n s us)) (flat S) (flat E) = some (flat T, ⟨nx, fc c d⟩)) ∧
    (∀ nx c, impl_grammar_more.f ⟨nx, c⟩ (.mk kd n s us) S E = some (T', ⟨nx, fc c d⟩)) := by
  have hw2 := hw
  simp only [Wf] at hw2
  have hlen := flats_len us
  have hs : s.length ≤ 100 := hw2.1.text
  have hfl : (flat (.mk 3 ((us ++ [S, E]).length : Int) s (us ++ [S, E]))).length ≤ 3 + (flats us).length := by simp [flat, flats, flats_append]; omega
  have hargs : us.map flat ++ [flat S, flat E] = (us ++ [S, E]).map flat := by simp
  have hT : Wts (us ++ [S, E]) := (Wts_append _ _).2 ⟨Wfs.wts us hw2.2.2.2, by simp only [Wts]; exact ⟨hS, hE, trivial⟩⟩
  have himpl : ∀ nx c, impl_grammar_more.l0 0 (.mk kd n s us) S E nx c = some (.mk 3 ((us ++ [S, E]).length : Int) s (us ++ [S, E]), ⟨nx, c⟩) := fun nx c => by
    rw [impl_grammar_more.l0]
    show (if 0 + us.length ≤ 17592186044416 then (if (([] : List Tm) ++ us).length + 2 ≤ 17592186044416 then ((impl_comp.f s ((([] : List Tm) ++ us) ++ [S, E])).bind fun t139 => (impl_grammar_more.l1 0 nx c t139)) else none) else none) = _
    rw [if_pos (by omega), if_pos (by simp; omega), impl_comp.f]; rfl
  have hari : impl_node_arity.f (.mk kd n s us) = some (us.length : Int) := rfl
  by_cases hn : us.length + 2 > 20
  · refine ⟨3, nilT, _, nil_wt, by simp [nilT, flat, flats]; omega, hfl, fun h => absurd h (by decide), fun k nx c hk => ?_, fun nx c => ?_⟩
    · rw [spec_l8more.f, args_any kd n s us k hw hl (by omega), Option.bind_some, if_pos (by simp; omega), hargs, if_pos (by simp; omega), fault_val]; rfl
    · rw [impl_grammar_more.f, hari, Option.bind_some, wrap_id (by omega) (by omega), if_pos (by omega), ifault_val, Option.bind_some, himpl]
  · refine ⟨0, _, _, ?_, hfl, hfl, fun _ => rfl, fun k nx c hk => ?_, fun nx c => ?_⟩
    · simp only [Wt]; exact ⟨hs, by simp, hT⟩
    · rw [spec_l8more.f, args_any kd n s us k hw hl (by omega), Option.bind_some, if_pos (by simp; omega), hargs, if_neg (by simp; omega), if_pos (by simp [flat] <;> omega), show ((flat (Tm.mk kd n s us)).getD 0 z36).text = s from rfl, comp_wt s _ k (by omega) hT (by rw [flats_append]; simp [flats]; omega) (by omega), Option.bind_some, fc0]
    · rw [impl_grammar_more.f, hari, Option.bind_some, wrap_id (by omega) (by omega), if_neg (by omega), himpl, fc0]
theorem bind_eta {α β : Type} (o : Option (α × β)) : (o.bind fun t => some (t.1, t.2)) = o := by cases o <;> rfl
theorem phr : ∀ (m : Nat) (t : Tm), (flat t).length = m → m ≤ 2000 → Wf t → ∀ (S E : Tm) (nx : Int), Wt S → Wt E → (flat S).length = 1 → (flat E).length = 1 → 0 ≤ nx → nx + (m : Int) ≤ 2000000 →
    ∃ (n' d : Int) (T T' : Tm), nx ≤ n' ∧ n' ≤ nx + (m : Int) ∧ Wt T ∧ (flat T).length ≤ 5 * m ∧ (flat T').length ≤ 5 * m ∧ (d = 0 → T' = T) ∧
      (∀ k c, 3 * m + 500000 < k → spec_l8phrase.f k ⟨nx, c⟩ (flat t) (flat S) (flat E) = some (flat T, ⟨n', fc c d⟩)) ∧
      (∀ k c, 3 * m + 200000 < k → impl_grammar_body.f k ⟨nx, c⟩ t S E = some (T', ⟨n', fc c d⟩)) := by
  intro m
  induction m using Nat.strongRecOn with
  | _ m ih =>
    intro t hm hm2 hw S E nx hS hE lS lE hn0 hn1
    obtain ⟨kd, n, s, us⟩ := t
    have hw2 := hw
    simp only [Wf] at hw2
    obtain ⟨w0, w1, w2, w3⟩ := hw2
    have hs : s.length ≤ 100 := w0.text
    have hfl : (flat (.mk kd n s us)).length = (flats us).length + 1 := by simp [flat]
    have hwt : Wt (.mk kd n s us) := Wf.wt _ hw
    have e0 : (flat (.mk kd n s us)).getD 0 z36 = ⟨kd, n, s⟩ := by simp [flat]
    have hpos : (0 : Int) < ((flat (.mk kd n s us)).length : Int) := by omega
    have il : ∀ z a, spec_l2is.f (flat (.mk kd n s us)) z a = some (isT (.mk kd n s []) z a) := fun z a => by
      have := l2is_flat (.mk kd n s us) [] z a
      rw [List.append_nil] at this
      rw [this]; rfl
    have ia : ∀ z a, impl_node_is.f (.mk kd n s us) z a = some (isT (.mk kd n s []) z a) := fun z a => is_mk kd n s us z a
    have hargs : ∀ k, 10000 < k → spec_l2args.f k (flat (.mk kd n s us)) = some (us.map flat) := fun k hk => args_any kd n s us k hw (by omega) hk
    have hsame : ∀ k, 300000 < k → spec_l2pair.f k [61] (flat S) (flat E) = some (flat (.mk 3 2 [61] [S, E])) := fun k hk => pair_wt [61] S E k (by decide) hS hE (by omega) hk
    have okSame := pair_ok [61] S E (by decide) hS hE
    have c1 : impl_grammar_body_c1.f E S = some (.mk 3 2 [61] [S, E]) := rfl
    -- 1. a variable, a number
    by_cases h0 : kd = 0
    · have hus : us = [] := w2 (by omega)
      have hWs : Wts [.mk kd n s us, S, E] := by simp only [Wts]; exact ⟨hwt, hS, hE, trivial⟩
      refine ⟨nx, 0, .mk 3 3 [112, 104, 114, 97, 115, 101] [.mk kd n s us, S, E], _, by omega, by omega, ?_, ?_, ?_, fun _ => rfl, fun k c hk => ?_, fun k c hk => ?_⟩
      · simp only [Wt]; exact ⟨by decide, fun h => absurd h (by decide), hWs⟩
      · simp only [flat, flats, List.length_cons, List.length_append, List.length_nil] at *; omega
      · simp only [flat, flats, List.length_cons, List.length_append, List.length_nil] at *; omega
      · obtain ⟨k, rfl⟩ : ∃ q, k = q + 1 := ⟨k - 1, by omega⟩
        have := comp_wt [112, 104, 114, 97, 115, 101] [.mk kd n s us, S, E] k (by decide) hWs (by simp only [flats, List.length_append, List.length_nil]; omega) (by omega)
        rw [spec_l8phrase.f, if_pos hpos, e0, if_pos h0, show [flat (Tm.mk kd n s us), flat S, flat E] = [Tm.mk kd n s us, S, E].map flat from rfl, this, fc0]; rfl
      · obtain ⟨k, rfl⟩ : ∃ q, k = q + 1 := ⟨k - 1, by omega⟩
        rw [impl_grammar_body.f, if_pos (c := (Tm.mk kd n s us).kind = 0) h0, impl_comp.f, fc0]; rfl
    by_cases h1 : kd = 1
    · refine ⟨nx, 4, nilT, .mk kd n s us, by omega, by omega, nil_wt, by simp [nilT, flat, flats]; omega, by omega, fun h => absurd h (by decide), fun k c hk => ?_, fun k c hk => ?_⟩
      · obtain ⟨k, rfl⟩ : ∃ q, k = q + 1 := ⟨k - 1, by omega⟩
        rw [spec_l8phrase.f, if_pos hpos, e0, if_neg h0, if_pos h1, fault_val]; rfl
      · obtain ⟨k, rfl⟩ : ∃ q, k = q + 1 := ⟨k - 1, by omega⟩
        rw [impl_grammar_body.f, if_neg (c := (Tm.mk kd n s us).kind = 0) h0, if_pos (c := (Tm.mk kd n s us).kind = 1) h1, ifault_val]; rfl
    have hbody : ∀ k c, impl_grammar_body.f (k + 1) ⟨nx, c⟩ (.mk kd n s us) S E = impl_grammar_body.l0 k ⟨nx, c⟩ (.mk kd n s us) S E (isT (.mk kd n s []) [44] 2 || isT (.mk kd n s []) [45, 62] 2) := fun k c => by
      rw [impl_grammar_body.f, if_neg (c := (Tm.mk kd n s us).kind = 0) h0, if_neg (c := (Tm.mk kd n s us).kind = 1) h1, ia, Option.bind_some]
      cases isT (.mk kd n s []) [44] 2 with
      | true => rfl
      | false => rw [if_neg (by simp), ia]; rfl
    have two : ∀ z, isT (.mk kd n s []) z 2 = true → ∃ a b, us = [a, b] ∧ Wf a ∧ Wf b ∧ m = (flat a).length + (flat b).length + 1 := fun z hz => by
      obtain ⟨e1, e2, e3⟩ := isT_parts hz (by decide)
      have hn := w1 e2
      match us, hn, w3, hfl with
      | [a, b], _, w3, hfl =>
        simp only [Wfs] at w3
        simp only [flats, List.length_append, List.length_nil] at hfl
        exact ⟨a, b, rfl, w3.1, w3.2.1, by omega⟩
      | [], hn, _, _ => exact absurd hn (by simp; omega)
      | [a], hn, _, _ => exact absurd hn (by simp; omega)
      | a :: b :: c :: l, hn, _, _ => exact absurd hn (by simp; omega)
    have one : ∀ z, isT (.mk kd n s []) z 1 = true → ∃ a, us = [a] ∧ Wf a ∧ m = (flat a).length + 1 := fun z hz => by
      obtain ⟨e1, e2, e3⟩ := isT_parts hz (by decide)
      have hn := w1 e2
      match us, hn, w3, hfl with
      | [a], _, w3, hfl =>
        simp only [Wfs] at w3
        simp only [flats, List.length_append, List.length_nil] at hfl
        exact ⟨a, rfl, w3.1, by omega⟩
      | [], hn, _, _ => exact absurd hn (by simp; omega)
      | a :: b :: l, hn, _, _ => exact absurd hn (by simp; omega)
    -- 2. , and ->
    by_cases h2 : (isT (.mk kd n s []) [44] 2 || isT (.mk kd n s []) [45, 62] 2) = true
    · obtain ⟨a, b, rfl, wa, wb, hab⟩ : ∃ a b, us = [a, b] ∧ Wf a ∧ Wf b ∧ m = (flat a).length + (flat b).length + 1 := by
        rcases Bool.or_eq_true _ _ ▸ h2 with h | h <;> exact two _ h
      have pa := flat_pos a
      have pb := flat_pos b
      obtain ⟨n1, d1, T1, T1', a1, a2, a3, a4, a5, a6, a7, a8⟩ := ih (flat a).length (by omega) a rfl (by omega) wa S (varT nx) (nx + 1) hS (var_wt nx) lS (var_len nx) (by omega) (by omega)
      obtain ⟨n2, d2, T2, T2', b1, b2, b3, b4, b5, b6, b7, b8⟩ := ih (flat b).length (by omega) b rfl (by omega) wb (varT nx) E n1 (var_wt nx) hE (var_len nx) lE (by omega) (by omega)
      have okT := pair_ok s T1 T2 hs a3 b3
      refine ⟨n2, fc d1 d2, .mk 3 2 s [T1, T2], .mk 3 2 s [T1', T2'], by omega, by omega, okT.1, by omega, ?_, fun h => ?_, fun k c hk => ?_, fun k c hk => ?_⟩
      · simp only [flat, flats, List.length_cons, List.length_append, List.length_nil]; omega
      · obtain ⟨q1, q2⟩ := fc_eq0 h
        rw [a6 q1, b6 q2]
      · obtain ⟨k, rfl⟩ : ∃ q, k = q + 1 := ⟨k - 1, by omega⟩
        have hp := pair_wt s T1 T2 k hs a3 b3 (by omega) (by omega)
        have r1 : ∀ {β : Type} (f : List Cell × GL8gram → Option β), ((spec_l8new.f ⟨nx, c⟩).bind f) = f (flat (varT nx), ⟨nx + 1, c⟩) := fun f => by rw [new_val nx c hn0 (by omega)]; rfl
        have tail : ((spec_l8new.f ⟨nx, c⟩).bind fun t103 => (if 0 < (([a, b].map flat).length : Int) then ((spec_l8phrase.f k t103.2 (([a, b].map flat).getD 0 ([] : List Cell)) (flat S) t103.1).bind fun t136 => (if 1 < (([a, b].map flat).length : Int) then ((spec_l8phrase.f k t136.2 (([a, b].map flat).getD 1 ([] : List Cell)) t103.1 (flat E)).bind fun t202 => ((spec_l2pair.f k s t136.1 t202.1).bind fun t231 => some (t231, t202.2))) else none)) else none)) = some (flat (.mk 3 2 s [T1, T2]), (⟨n2, fc c (fc d1 d2)⟩ : GL8gram)) := by
          rw [r1, if_pos (by simp)]
          show ((spec_l8phrase.f k ⟨nx + 1, c⟩ (flat a) (flat S) (flat (varT nx))).bind _) = _
          rw [a7 k c (by omega), Option.bind_some, if_pos (by simp)]
          show ((spec_l8phrase.f k ⟨n1, fc c d1⟩ (flat b) (flat (varT nx)) (flat E)).bind _) = _
          rw [b7 k _ (by omega), Option.bind_some, hp, fc_fc]; rfl
        rw [spec_l8phrase.f, if_pos hpos, e0, if_neg h0, if_neg h1, hargs k (by omega), Option.bind_some, il, Option.bind_some]
        cases hc : isT (.mk kd n s []) [44] 2 with
        | true => rw [if_pos rfl]; exact tail
        | false =>
          rw [hc, Bool.false_or] at h2
          rw [if_neg (by simp), il, h2, Option.bind_some, if_pos rfl]
          exact tail
      · obtain ⟨k, rfl⟩ : ∃ q, k = q + 2 := ⟨k - 2, by omega⟩
        rw [hbody, h2, impl_grammar_body.l0, if_pos rfl, need_val nx c hn0 (by omega), Option.bind_some]
        show (if 0 < (([a, b] : List Tm).length : Int) then ((impl_grammar_body.f k ⟨nx + 1, c⟩ a S (varT nx)).bind _) else none) = _
        rw [if_pos (by simp), a8 k c (by omega), Option.bind_some]
        show (if 1 < (([a, b] : List Tm).length : Int) then ((impl_grammar_body.f k ⟨n1, fc c d1⟩ b (varT nx) E).bind _) else none) = _
        rw [if_pos (by simp), b8 k _ (by omega), Option.bind_some, fc_fc]; rfl
    have h2' : isT (.mk kd n s []) [44] 2 = false ∧ isT (.mk kd n s []) [45, 62] 2 = false := by
      cases q : isT (.mk kd n s []) [44] 2 <;> cases q2 : isT (.mk kd n s []) [45, 62] 2 <;> simp [q, q2] at h2 ⊢
    have hi2 : (isT (.mk kd n s []) [44] 2 || isT (.mk kd n s []) [45, 62] 2) = false := by simpa using h2
    have hsp : ∀ k c, 500000 < k → spec_l8phrase.f (k + 1) ⟨nx, c⟩ (flat (.mk kd n s us)) (flat S) (flat E) = spec_l8phrase.f (k + 1) ⟨nx, c⟩ (flat (.mk kd n s us)) (flat S) (flat E) := fun _ _ _ => rfl
    -- 3. ;
    by_cases h3 : isT (.mk kd n s []) [59] 2 = true
    · obtain ⟨a, b, rfl, wa, wb, hab⟩ := two _ h3
      have pa := flat_pos a
      have pb := flat_pos b
      obtain ⟨n1, d1, T1, T1', a1, a2, a3, a4, a5, a6, a7, a8⟩ := ih (flat a).length (by omega) a rfl (by omega) wa S E nx hS hE lS lE (by omega) (by omega)
      obtain ⟨n2, d2, T2, T2', b1, b2, b3, b4, b5, b6, b7, b8⟩ := ih (flat b).length (by omega) b rfl (by omega) wb S E n1 hS hE lS lE (by omega) (by omega)
      have okT := pair_ok [59] T1 T2 (by decide) a3 b3
      refine ⟨n2, fc d1 d2, .mk 3 2 [59] [T1, T2], .mk 3 2 [59] [T1', T2'], by omega, by omega, okT.1, by omega, ?_, fun h => ?_, fun k c hk => ?_, fun k c hk => ?_⟩
      · simp only [flat, flats, List.length_cons, List.length_append, List.length_nil]; omega
      · obtain ⟨q1, q2⟩ := fc_eq0 h
        rw [a6 q1, b6 q2]
      · obtain ⟨k, rfl⟩ : ∃ q, k = q + 1 := ⟨k - 1, by omega⟩
        have hp := pair_wt [59] T1 T2 k (by decide) a3 b3 (by omega) (by omega)
        rw [spec_l8phrase.f, if_pos hpos, e0, if_neg h0, if_neg h1, hargs k (by omega), Option.bind_some, il, h2'.1, Option.bind_some, if_neg (by simp), il, h2'.2, Option.bind_some, if_neg (by simp), il, h3, Option.bind_some, if_pos rfl, if_pos (by simp)]
        show ((spec_l8phrase.f k ⟨nx, c⟩ (flat a) (flat S) (flat E)).bind _) = _
        rw [a7 k c (by omega), Option.bind_some, if_pos (by simp)]
        show ((spec_l8phrase.f k ⟨n1, fc c d1⟩ (flat b) (flat S) (flat E)).bind _) = _
        rw [b7 k _ (by omega), Option.bind_some, hp, fc_fc]; rfl
      · obtain ⟨k, rfl⟩ : ∃ q, k = q + 2 := ⟨k - 2, by omega⟩
        rw [hbody, hi2, impl_grammar_body.l0, if_neg (by simp), ia, h3, Option.bind_some, if_pos rfl]
        show (if 0 < (([a, b] : List Tm).length : Int) then ((impl_grammar_body.f k ⟨nx, c⟩ a S E).bind _) else none) = _
        rw [if_pos (by simp), a8 k c (by omega), Option.bind_some]
        show (if 1 < (([a, b] : List Tm).length : Int) then ((impl_grammar_body.f k ⟨n1, fc c d1⟩ b S E).bind _) else none) = _
        rw [if_pos (by simp), b8 k _ (by omega), Option.bind_some, fc_fc]; rfl
    have h3' : isT (.mk kd n s []) [59] 2 = false := by simpa using h3
    -- 4. \+
    by_cases h4 : isT (.mk kd n s []) [92, 43] 1 = true
    · obtain ⟨a, rfl, wa, hab⟩ := one _ h4
      have pa := flat_pos a
      obtain ⟨n1, d1, T1, T1', a1, a2, a3, a4, a5, a6, a7, a8⟩ := ih (flat a).length (by omega) a rfl (by omega) wa S (varT nx) (nx + 1) hS (var_wt nx) lS (var_len nx) (by omega) (by omega)
      have okN := one_ok [92, 43] T1 (by decide) a3
      have okT := pair_ok [44] (.mk 3 1 [92, 43] [T1]) (.mk 3 2 [61] [S, E]) (by decide) okN.1 okSame.1
      refine ⟨n1, d1, .mk 3 2 [44] [.mk 3 1 [92, 43] [T1], .mk 3 2 [61] [S, E]], .mk 3 2 [44] [.mk 3 1 [92, 43] [T1'], .mk 3 2 [61] [S, E]], by omega, by omega, okT.1, by omega, ?_, fun h => by rw [a6 h], fun k c hk => ?_, fun k c hk => ?_⟩
      · simp only [flat, flats, List.length_cons, List.length_append, List.length_nil]; omega
      · obtain ⟨k, rfl⟩ : ∃ q, k = q + 1 := ⟨k - 1, by omega⟩
        have hq := comp_wt [92, 43] [T1] k (by decide) (by simp only [Wts]; exact ⟨a3, trivial⟩) (by simp [flats]; omega) (by omega)
        have hp := pair_wt [44] (.mk 3 1 [92, 43] [T1]) (.mk 3 2 [61] [S, E]) k (by decide) okN.1 okSame.1 (by omega) (by omega)
        rw [spec_l8phrase.f, if_pos hpos, e0, if_neg h0, if_neg h1, hargs k (by omega), Option.bind_some, il, h2'.1, Option.bind_some, if_neg (by simp), il, h2'.2, Option.bind_some, if_neg (by simp), il, h3', Option.bind_some, if_neg (by simp), hsame k (by omega), Option.bind_some, il, h4, Option.bind_some, if_pos rfl, new_val nx c hn0 (by omega), Option.bind_some, if_pos (by simp)]
        show ((spec_l8phrase.f k ⟨nx + 1, c⟩ (flat a) (flat S) (flat (varT nx))).bind _) = _
        rw [a7 k c (by omega), Option.bind_some]
        show ((spec_l2comp.f k [92, 43] ([T1].map flat)).bind _) = _
        rw [hq, Option.bind_some]
        show ((spec_l2pair.f k [44] (flat (.mk 3 1 [92, 43] [T1])) (flat (.mk 3 2 [61] [S, E]))).bind _) = _
        rw [hp]; rfl
      · obtain ⟨k, rfl⟩ : ∃ q, k = q + 2 := ⟨k - 2, by omega⟩
        rw [hbody, hi2, impl_grammar_body.l0, if_neg (by simp), ia, h3', Option.bind_some, if_neg (by simp), ia, h4, Option.bind_some, if_pos rfl, need_val nx c hn0 (by omega), Option.bind_some]
        show (if 0 < (([a] : List Tm).length : Int) then ((impl_grammar_body.f k ⟨nx + 1, c⟩ a S (varT nx)).bind _) else none) = _
        rw [if_pos (by simp), a8 k c (by omega)]; rfl
    have h4' : isT (.mk kd n s []) [92, 43] 1 = false := by simpa using h4
    -- 5. !
    by_cases h5 : isT (.mk kd n s []) [33] 0 = true
    · have okT := pair_ok [44] (.mk kd n s us) (.mk 3 2 [61] [S, E]) (by decide) hwt okSame.1
      refine ⟨nx, 0, .mk 3 2 [44] [.mk kd n s us, .mk 3 2 [61] [S, E]], _, by omega, by omega, okT.1, by omega, by omega, fun _ => rfl, fun k c hk => ?_, fun k c hk => ?_⟩
      · obtain ⟨k, rfl⟩ : ∃ q, k = q + 1 := ⟨k - 1, by omega⟩
        have hp := pair_wt [44] (.mk kd n s us) (.mk 3 2 [61] [S, E]) k (by decide) hwt okSame.1 (by omega) (by omega)
        rw [spec_l8phrase.f, if_pos hpos, e0, if_neg h0, if_neg h1, hargs k (by omega), Option.bind_some, il, h2'.1, Option.bind_some, if_neg (by simp), il, h2'.2, Option.bind_some, if_neg (by simp), il, h3', Option.bind_some, if_neg (by simp), hsame k (by omega), Option.bind_some, il, h4', Option.bind_some, if_neg (by simp), il, h5, Option.bind_some, if_pos rfl, hp, fc0]; rfl
      · obtain ⟨k, rfl⟩ : ∃ q, k = q + 2 := ⟨k - 2, by omega⟩
        rw [hbody, hi2, impl_grammar_body.l0, if_neg (by simp), ia, h3', Option.bind_some, if_neg (by simp), ia, h4', Option.bind_some, if_neg (by simp), ia, h5, Option.bind_some, if_pos rfl, c1, fc0]; rfl
    have h5' : isT (.mk kd n s []) [33] 0 = false := by simpa using h5
    -- 6. {}
    by_cases h6 : isT (.mk kd n s []) [123, 125] 1 = true
    · obtain ⟨a, rfl, wa, hab⟩ := one _ h6
      have okT := pair_ok [44] a (.mk 3 2 [61] [S, E]) (by decide) (Wf.wt a wa) okSame.1
      refine ⟨nx, 0, .mk 3 2 [44] [a, .mk 3 2 [61] [S, E]], _, by omega, by omega, okT.1, by omega, by omega, fun _ => rfl, fun k c hk => ?_, fun k c hk => ?_⟩
      · obtain ⟨k, rfl⟩ : ∃ q, k = q + 1 := ⟨k - 1, by omega⟩
        have hp := pair_wt [44] a (.mk 3 2 [61] [S, E]) k (by decide) (Wf.wt a wa) okSame.1 (by omega) (by omega)
        rw [spec_l8phrase.f, if_pos hpos, e0, if_neg h0, if_neg h1, hargs k (by omega), Option.bind_some, il, h2'.1, Option.bind_some, if_neg (by simp), il, h2'.2, Option.bind_some, if_neg (by simp), il, h3', Option.bind_some, if_neg (by simp), hsame k (by omega), Option.bind_some, il, h4', Option.bind_some, if_neg (by simp), il, h5', Option.bind_some, if_neg (by simp), il, h6, Option.bind_some, if_pos rfl, if_pos (by simp)]
        show ((spec_l2pair.f k [44] (flat a) (flat (.mk 3 2 [61] [S, E]))).bind _) = _
        rw [hp, fc0]; rfl
      · obtain ⟨k, rfl⟩ : ∃ q, k = q + 2 := ⟨k - 2, by omega⟩
        rw [hbody, hi2, impl_grammar_body.l0, if_neg (by simp), ia, h3', Option.bind_some, if_neg (by simp), ia, h4', Option.bind_some, if_neg (by simp), ia, h5', Option.bind_some, if_neg (by simp), ia, h6, Option.bind_some, if_pos rfl]
        show (if 0 < (([a] : List Tm).length : Int) then ((impl_grammar_body_c1.f E S).bind _) else none) = _
        rw [if_pos (by simp), c1, fc0]; rfl
    have h6' : isT (.mk kd n s []) [123, 125] 1 = false := by simpa using h6
    -- 7. lists and the rest
    obtain ⟨vs, e, t1, t2, t3, t4, t5, t6⟩ := terms_val (.mk kd n s us) S E (by omega) hw hS hE lS lE
    have hspec : ∀ k c, 500000 < k → spec_l8phrase.f (k + 1) ⟨nx, c⟩ (flat (.mk kd n s us)) (flat S) (flat E) =
        if (isT (.mk kd n s []) [91, 93] 0 || isT (.mk kd n s []) [46] 2) = true then spec_l8terminals.f k ⟨nx, c⟩ (flat (.mk kd n s us)) (flat S) (flat E) else spec_l8more.f k ⟨nx, c⟩ (flat (.mk kd n s us)) (flat S) (flat E) := fun k c hk => by
      rw [spec_l8phrase.f, if_pos hpos, e0, if_neg h0, if_neg h1, hargs k (by omega), Option.bind_some, il, h2'.1, Option.bind_some, if_neg (by simp), il, h2'.2, Option.bind_some, if_neg (by simp), il, h3', Option.bind_some, if_neg (by simp), hsame k (by omega), Option.bind_some, il, h4', Option.bind_some, if_neg (by simp), il, h5', Option.bind_some, if_neg (by simp), il, h6', Option.bind_some, if_neg (by simp), il, Option.bind_some]
      cases isT (.mk kd n s []) [91, 93] 0 with
      | true => rw [if_pos rfl, Bool.true_or, if_pos rfl]; exact bind_eta _
      | false =>
        rw [if_neg (by simp), il, Option.bind_some, Bool.false_or]
        split <;> exact bind_eta _
    have himpl : ∀ k c, 200000 < k → impl_grammar_body.f (k + 2) ⟨nx, c⟩ (.mk kd n s us) S E =
        if isT e [91, 93] 0 = true then some (.mk 3 2 [61] [S, listE E vs], ⟨nx, c⟩) else if isT (.mk kd n s []) [46] 2 = true then some (.mk kd n s us, ⟨nx, fc c 4⟩) else impl_grammar_more.f ⟨nx, c⟩ (.mk kd n s us) S E := fun k c hk => by
      rw [hbody, hi2, impl_grammar_body.l0, if_neg (by simp), ia, h3', Option.bind_some, if_neg (by simp), ia, h4', Option.bind_some, if_neg (by simp), ia, h5', Option.bind_some, if_neg (by simp), ia, h6', Option.bind_some, if_neg (by simp), impl_isList.f, t1 k (by omega), Option.bind_some, nodeis_val, Option.bind_some, Option.bind_some]
      cases isT e [91, 93] 0 with
      | true =>
        rw [if_pos rfl, if_pos rfl, Option.bind_some, listOf_val vs E t5 k (by omega)]; rfl
      | false =>
        rw [if_neg (by simp), if_neg (by simp), ia, Option.bind_some, ifault_val]
        split
        · rfl
        · exact bind_eta _
    by_cases h7 : isT e [91, 93] 0 = true
    · have okT := pair_ok [61] S (listE E vs) (by decide) hS t3
      have hor : (isT (.mk kd n s []) [91, 93] 0 || isT (.mk kd n s []) [46] 2) = true := by
        cases q : isT (.mk kd n s []) [46] 2 with
        | true => simp
        | false =>
          have := t2 q
          rw [this] at h7
          rw [Bool.or_false]; exact h7
      refine ⟨nx, 0, .mk 3 2 [61] [S, listE E vs], _, by omega, by omega, okT.1, by omega, by omega, fun _ => rfl, fun k c hk => ?_, fun k c hk => ?_⟩
      · obtain ⟨k, rfl⟩ : ∃ q, k = q + 1 := ⟨k - 1, by omega⟩
        rw [hspec k c (by omega), if_pos hor, t6 k nx c (by omega), if_pos h7, fc0]
      · obtain ⟨k, rfl⟩ : ∃ q, k = q + 2 := ⟨k - 2, by omega⟩
        rw [himpl k c (by omega), if_pos h7, fc0]
    by_cases h8 : isT (.mk kd n s []) [46] 2 = true
    · refine ⟨nx, 4, nilT, .mk kd n s us, by omega, by omega, nil_wt, by simp [nilT, flat, flats]; omega, by omega, fun h => absurd h (by decide), fun k c hk => ?_, fun k c hk => ?_⟩
      · obtain ⟨k, rfl⟩ : ∃ q, k = q + 1 := ⟨k - 1, by omega⟩
        rw [hspec k c (by omega), if_pos (by rw [h8]; simp), t6 k nx c (by omega), if_neg h7]
      · obtain ⟨k, rfl⟩ : ∃ q, k = q + 2 := ⟨k - 2, by omega⟩
        rw [himpl k c (by omega), if_neg h7, if_pos h8]
    have h8' : isT (.mk kd n s []) [46] 2 = false := by simpa using h8
    have h9 : (isT (.mk kd n s []) [91, 93] 0 || isT (.mk kd n s []) [46] 2) = false := by
      have := t2 h8'
      rw [this] at h7
      rw [h8', Bool.or_false]
      show isT (.mk kd n s us) [91, 93] 0 = false
      simpa using h7
    obtain ⟨d, T, T', m1, m2, m3, m4, m5, m6⟩ := more_val kd n s us S E hw (by omega) hS hE lS lE (by rcases (okc_parts w0).1 with q | q | q | q <;> omega)
    refine ⟨nx, d, T, T', by omega, by omega, m1, by omega, by omega, m4, fun k c hk => ?_, fun k c hk => ?_⟩
    · obtain ⟨k, rfl⟩ : ∃ q, k = q + 1 := ⟨k - 1, by omega⟩
      rw [hspec k c (by omega), if_neg (by rw [h9]; simp), m5 k nx c (by omega)]
    · obtain ⟨k, rfl⟩ : ∃ q, k = q + 2 := ⟨k - 2, by omega⟩
      rw [himpl k c (by omega), if_neg h7, if_neg h8, m6 nx c]
/-! the greatest variable -/
def mxv (m : Int) (c : Cell) : Int := if c.kind = 0 ∧ c.n > m then c.n else m
def mx (m v : Int) : Int := if v > m then v else m
theorem mx_le {m v : Int} (h : v ≤ m) : mx m v = m := by unfold mx; rw [if_neg (by omega)]
theorem mx_ge (m v : Int) : m ≤ mx m v ∧ v ≤ mx m v := by unfold mx; split <;> omega
theorem foldl_mx_ge : ∀ (l : List Int) (m : Int), m ≤ l.foldl mx m
  | [], m => Int.le_refl _
  | v :: l, m => Int.le_trans (mx_ge m v).1 (foldl_mx_ge l (mx m v))
theorem foldl_mx_mem : ∀ (l : List Int) (m v : Int), v ∈ l → v ≤ l.foldl mx m
  | w :: l, m, v, h => by
    rcases List.mem_cons.1 h with rfl | h
    · exact Int.le_trans (mx_ge m v).2 (foldl_mx_ge l _)
    · exact foldl_mx_mem l _ v h
theorem mxv_vars : ∀ (xs : List Cell) (acc : List Int) (m : Int), xs.foldl mxv (acc.foldl mx m) = (varsC xs acc).foldl mx m
  | [], acc, m => rfl
  | c :: xs, acc, m => by
    have ih := mxv_vars xs (addV acc c) m
    have e : mxv (acc.foldl mx m) c = (addV acc c).foldl mx m := by
      unfold addV mxv
      by_cases h : c.kind = 0
      · by_cases h2 : c.n ∈ acc
        · have := foldl_mx_mem acc m c.n h2
          rw [if_neg (by omega), if_neg (by simp [h2])]
        · rw [if_pos (c := c.kind = 0 ∧ c.n ∉ acc) ⟨h, h2⟩, List.foldl_append]
          show _ = if c.n > acc.foldl mx m then c.n else acc.foldl mx m
          by_cases h3 : c.n > acc.foldl mx m
          · rw [if_pos ⟨h, h3⟩, if_pos h3]
          · rw [if_neg (by omega), if_neg h3]
      · rw [if_neg (by omega), if_neg (by simp [h])]
    show xs.foldl mxv (mxv (acc.foldl mx m) c) = _
    rw [e, ih]; rfl
theorem smax_val (xs : List Cell) (k : Nat) (hl : xs.length ≤ 100000) (hk : xs.length < k) : spec_l8maxVar.f k xs = some (xs.foldl mxv (-1)) := by
  rw [spec_l8maxVar.f]
  have key : ∀ (m k i : Nat) (a : Int), xs.length - i = m → i ≤ xs.length → m < k → spec_l8maxVar.l0 k xs a (i : Int) = some ((xs.drop i).foldl mxv a) := by
    intro m
    induction m with
    | zero =>
      intro k i a h1 h2 h3
      obtain ⟨k, rfl⟩ : ∃ q, k = q + 1 := ⟨k - 1, by omega⟩
      rw [spec_l8maxVar.l0, if_neg (by omega), List.drop_of_length_le (by omega)]; rfl
    | succ m ih =>
      intro k i a h1 h2 h3
      obtain ⟨k, rfl⟩ : ∃ q, k = q + 1 := ⟨k - 1, by omega⟩
      have hi : i < xs.length := by omega
      rw [spec_l8maxVar.l0, if_pos (by omega), if_pos (by omega), Int.toNat_natCast, getD_at hi, List.drop_eq_getElem_cons hi, wrap_nat (by omega)]
      show _ = some ((xs.drop (i + 1)).foldl mxv (mxv a xs[i]))
      by_cases h : xs[i].kind = 0
      · rw [if_pos h]
        by_cases h4 : xs[i].n > a
        · rw [if_pos h4, show mxv a xs[i] = xs[i].n by unfold mxv; rw [if_pos ⟨h, h4⟩]]; exact ih k (i + 1) _ (by omega) (by omega) (by omega)
        · rw [if_neg h4, show mxv a xs[i] = a by unfold mxv; rw [if_neg (by omega)]]; exact ih k (i + 1) _ (by omega) (by omega) (by omega)
      · rw [if_neg h, show mxv a xs[i] = a by unfold mxv; rw [if_neg (by omega)]]; exact ih k (i + 1) _ (by omega) (by omega) (by omega)
  exact key xs.length k 0 (-1) rfl (by omega) hk
theorem imax_val (t : Tm) (k : Nat) (hl : (flat t).length ≤ 2000) (hk : 20000 < k) : impl_maxVar.f k t = some ((flat t).foldl mxv (-1)) := by
  rw [impl_maxVar.f, varsOf_val t k hl (by omega), Option.bind_some]
  have hvl := varsC_len (flat t) []
  rw [List.length_nil] at hvl
  have e := mxv_vars (flat t) [] (-1)
  rw [show ([] : List Int).foldl mx (-1) = -1 from rfl] at e
  rw [e]
  generalize varsC (flat t) [] = vs at hvl ⊢
  have key : ∀ (m k i : Nat) (a : Int), vs.length - i = m → i ≤ vs.length → m < k → impl_maxVar.l0 k vs a (i : Int) = some ((vs.drop i).foldl mx a) := by
    intro m
    induction m with
    | zero =>
      intro k i a h1 h2 h3
      obtain ⟨k, rfl⟩ : ∃ q, k = q + 1 := ⟨k - 1, by omega⟩
      rw [impl_maxVar.l0, if_neg (by omega), List.drop_of_length_le (by omega)]; rfl
    | succ m ih =>
      intro k i a h1 h2 h3
      obtain ⟨k, rfl⟩ : ∃ q, k = q + 1 := ⟨k - 1, by omega⟩
      have hi : i < vs.length := by omega
      rw [impl_maxVar.l0, if_pos (by omega), if_pos (by omega), Int.toNat_natCast, getD_at hi, List.drop_eq_getElem_cons hi, wrap_nat (by omega)]
      exact ih k (i + 1) _ (by omega) (by omega) (by omega)
  exact key vs.length k 0 (-1) rfl (by omega) (by omega)
theorem mxv_bound : ∀ (xs : List Cell) (m : Int), (∀ c, c ∈ xs → c.kind = 0 → c.n ≤ 1000000) → -1 ≤ m → m ≤ 1000000 → -1 ≤ xs.foldl mxv m ∧ xs.foldl mxv m ≤ 1000000
  | [], m, _, h0, h1 => ⟨h0, h1⟩
  | c :: xs, m, h, h0, h1 => by
    refine mxv_bound xs (mxv m c) (fun d hd => h d (.tail _ hd)) ?_ ?_
    · unfold mxv; split <;> omega
    · unfold mxv
      split
      · rename_i q
        exact h c (.head _) q.1
      · exact h1
/-! the clause -/
def Rel (i : Option (Option Tm × Int)) (s : Option (List Cell × Int)) : Prop := ∃ (o : Option Tm) (d : Int), i = some (o, d) ∧ ((d ≠ 0 ∧ s = some ([], d)) ∨ (d = 0 ∧ ∃ T, o = some T ∧ Wt T ∧ (flat T).length ≤ 2000 ∧ s = some (flat T, 0)))
theorem last_val (H H' X X' : Tm) (n c : Int) (k : Nat) (hH : Wt H) (hX : Wt X) (lH : (flat H).length ≤ 20000) (lH' : (flat H').length ≤ 20000) (lX : (flat X).length ≤ 20000) (lX' : (flat X').length ≤ 20000) (he : c = 0 → H' = H ∧ X' = X) (hn0 : 0 ≤ n) (hn1 : n ≤ 1000000000) (hk : 500000 < k) (g1 g2 : GL8gram) :
    Rel (impl_translated.l1 k (H', g1) (some X') n c) (spec_TranslateGrammar.l1 k (flat H, g2) (flat X) n c) := by
  have hT' : (flat (.mk 3 2 [58, 45] [H', X'])).length = 1 + (flat H').length + (flat X').length := by simp [flat, flats]; omega
  obtain ⟨r, r1, r2, r3, r4, r5⟩ := sizew (.mk 3 2 [58, 45] [H', X']) k 2000 (by omega) (by omega) (by decide) (by decide)
  have hI : impl_translated.l1 k (H', g1) (some X') n c = if r > 2000 then (if fc c 3 ≠ 0 then some (none, fc c 3) else some (some (.mk 3 2 [58, 45] [H', X']), 0)) else if n - 1 > 1000000 then (if fc c 3 ≠ 0 then some (none, fc c 3) else some (some (.mk 3 2 [58, 45] [H', X']), 0)) else if c ≠ 0 then some (none, c) else some (some (.mk 3 2 [58, 45] [H', X']), 0) := by
    rw [impl_translated.l1, if_pos (show (some X').isSome = true from rfl)]
    show ((impl_node_size.f k (.mk 3 2 [58, 45] [H', X']) 2000).bind _) = _
    rw [r1, Option.bind_some, ifault_val, wrap_id (by omega) (by omega)]
    rfl
  rw [hI]
  by_cases hc : c = 0
  · obtain ⟨rfl, rfl⟩ := he hc
    subst hc
    have ok := pair_ok [58, 45] H' X' (by decide) hH hX
    have hS : spec_TranslateGrammar.l1 k (flat H', g2) (flat X') n 0 = if ((flat (.mk 3 2 [58, 45] [H', X'])).length : Int) > 2000 then some ([], 3) else if n - 1 > 1000000 then some ([], 3) else some (flat (.mk 3 2 [58, 45] [H', X']), 0) := by
      rw [spec_TranslateGrammar.l1, if_neg (by simp), pair_wt [58, 45] H' X' k (by decide) hH hX (by omega) (by omega), Option.bind_some, wrap_id (by omega) (by omega)]
    rw [hS]
    have f3 : fc 0 3 = 3 := rfl
    by_cases hr : (2000 : Int) < ((flat (.mk 3 2 [58, 45] [H', X'])).length : Int)
    · rw [if_pos (r5 hr), if_pos (by simp [f3]), if_pos hr]
      exact ⟨none, 3, rfl, .inl ⟨by decide, rfl⟩⟩
    · have := r4 (by omega)
      rw [if_neg (by omega), if_neg hr]
      by_cases hn : n - 1 > 1000000
      · rw [if_pos hn, if_pos (by simp [f3]), if_pos hn]
        exact ⟨none, 3, rfl, .inl ⟨by decide, rfl⟩⟩
      · rw [if_neg hn, if_neg (by simp), if_neg hn]
        exact ⟨_, 0, rfl, .inr ⟨rfl, _, rfl, ok.1, by omega, rfl⟩⟩
  · have f3 : fc c 3 = c := by unfold fc; rw [if_neg hc]
    rw [f3, if_pos hc]
    refine ⟨none, c, ?_, .inl ⟨hc, ?_⟩⟩
    · split
      · rfl
      · split <;> rfl
    · rw [spec_TranslateGrammar.l1, if_pos hc]
theorem kinds2 {kd n : Int} {s : List UInt8} {us : List Tm} (hw : Wf (.mk kd n s us)) : kd = 0 ∨ kd = 1 ∨ (¬ kd < 2 ∧ kd ≠ 0 ∧ kd ≠ 1) := by
  simp only [Wf] at hw
  rcases (okc_parts hw.1).1 with q | q | q | q <;> omega
theorem clause_val (A B : Tm) (q n : Int) (s : List UInt8) (P : Option Tm) (A0 : Tm) (mv : Int) (k : Nat) (hA : Wf A) (hB : Wf B) (hP : ∀ p, P = some p → Wf p) (lA : (flat A).length < 2000) (lB : (flat B).length < 2000) (lP : ∀ p, P = some p → (flat p).length < 2000) (h0 : -1 ≤ mv) (h1 : mv ≤ 1000000) (hk : 600000 < k) :
    Rel (impl_translated.l0 k (.mk q n s [A0, B]) mv A P) (spec_TranslateGrammar.l0 k mv [flat A0, flat B] (flat A) (match P with | none => [] | some p => flat p)) := by
  obtain ⟨kd, na, sa, us⟩ := A
  have e0 : (flat (.mk kd na sa us)).getD 0 z36 = ⟨kd, na, sa⟩ := by simp [flat]
  have hpos : (0 : Int) < ((flat (.mk kd na sa us)).length : Int) := by simp [flat] <;> omega
  have hfl : (flat (.mk kd na sa us)).length = (flats us).length + 1 := by simp [flat]
  have il : ∀ z a, spec_l2is.f (flat (.mk kd na sa us)) z a = some (isT (.mk kd na sa []) z a) := fun z a => by
    have := l2is_flat (.mk kd na sa us) [] z a
    rw [List.append_nil] at this
    rw [this]; rfl
  have ia : ∀ z a, impl_node_is.f (.mk kd na sa us) z a = some (isT (.mk kd na sa []) z a) := fun z a => is_mk kd na sa us z a
  have w1 : IntKind.i64.wrap (mv + 1) = mv + 1 := wrap_id (by omega) (by omega)
  have n1 := need_val (mv + 1) 0 (by omega) (by omega)
  have n2 := need_val (mv + 1 + 1) 0 (by omega) (by omega)
  have s1 := new_val (mv + 1) 0 (by omega) (by omega)
  have s2 := new_val (mv + 1 + 1) 0 (by omega) (by omega)
  rw [impl_translated.l0, spec_TranslateGrammar.l0, w1, n1, Option.bind_some, n2, Option.bind_some, if_pos hpos, e0]
  rcases kinds2 hA with h | h | ⟨hk2, hk0, hk1⟩
  · rw [if_pos (show (Tm.mk kd na sa us).kind < 2 by show kd < 2; omega), if_pos h]
    exact ⟨none, 4, rfl, .inl ⟨by decide, rfl⟩⟩
  · rw [if_pos (show (Tm.mk kd na sa us).kind < 2 by show kd < 2; omega), if_neg (show ¬ kd = 0 by omega), if_pos h]
    exact ⟨none, 4, rfl, .inl ⟨by decide, rfl⟩⟩
  rw [if_neg (show ¬ (Tm.mk kd na sa us).kind < 2 from hk2), if_neg hk0, if_neg hk1, il, ia, Option.bind_some, Option.bind_some]
  cases isT (.mk kd na sa []) [91, 93] 0 with
  | true => rw [if_pos rfl, if_pos rfl]; exact ⟨none, 4, rfl, .inl ⟨by decide, rfl⟩⟩
  | false =>
    rw [if_neg (by simp), if_neg (by simp), il, ia, Option.bind_some, Option.bind_some]
    cases isT (.mk kd na sa []) [46] 2 with
    | true => rw [if_pos rfl, if_pos rfl]; exact ⟨none, 4, rfl, .inl ⟨by decide, rfl⟩⟩
    | false =>
      obtain ⟨d, T, T', m1, m2, m3, m4, m5, m6⟩ := more_val kd na sa us (varT (mv + 1)) (varT (mv + 1 + 1)) hA (by omega) (var_wt _) (var_wt _) (var_len _) (var_len _) hk2
      rw [if_neg (by simp), if_neg (by simp), s1, Option.bind_some, s2, Option.bind_some, m5 k _ 0 (by omega), m6, Option.bind_some, Option.bind_some]
      have hfd : fc 0 d = d := rfl
      rw [hfd]
      cases P with
      | none =>
        rw [if_pos (show ¬ (none : Option Tm).isSome = true by simp), if_neg (show ¬ ((([] : List Cell).length : Int) > 0) by simp)]
        obtain ⟨n', e, X, X', b1, b2, b3, b4, b5, b6, b7, b8⟩ := phr (flat B).length B rfl (by omega) hB (varT (mv + 1)) (varT (mv + 1 + 1)) (mv + 1 + 1 + 1) (var_wt _) (var_wt _) (var_len _) (var_len _) (by omega) (by omega)
        show Rel (if 1 < (([A0, B] : List Tm).length : Int) then ((impl_grammar_body.f k ⟨mv + 1 + 1 + 1, d⟩ B (varT (mv + 1)) (varT (mv + 1 + 1))).bind _) else none) (if 1 < (([flat A0, flat B] : List (List Cell)).length : Int) then ((spec_l8phrase.f k ⟨mv + 1 + 1 + 1, d⟩ (flat B) (flat (varT (mv + 1))) (flat (varT (mv + 1 + 1)))).bind _) else none)
        rw [if_pos (by simp), if_pos (by simp), b7 k d (by omega), b8 k d (by omega), Option.bind_some, Option.bind_some]
        exact last_val T T' X X' n' (fc d e) k m1 b3 (by omega) (by omega) (by omega) (by omega) (fun h => by
          obtain ⟨q1, q2⟩ := fc_eq0 h
          exact ⟨m4 q1, b6 q2⟩) (by omega) (by omega) (by omega) _ _
      | some p =>
        have hp := hP p rfl
        have lp := lP p rfl
        have pp := flat_pos p
        have n3 := need_val (mv + 1 + 1 + 1) d (by omega) (by omega)
        have s3 := new_val (mv + 1 + 1 + 1) d (by omega) (by omega)
        obtain ⟨vs, e, t1, t2, t3, t4, t5, t6⟩ := terms_val p (varT (mv + 1 + 1)) (varT (mv + 1 + 1 + 1)) (by omega) hp (var_wt _) (var_wt _) (var_len _) (var_len _)
        obtain ⟨n', d2, X, X', b1, b2, b3, b4, b5, b6, b7, b8⟩ := phr (flat B).length B rfl (by omega) hB (varT (mv + 1)) (varT (mv + 1 + 1 + 1)) (mv + 1 + 1 + 1 + 1) (var_wt _) (var_wt _) (var_len _) (var_len _) (by omega) (by omega)
        rw [if_neg (show ¬ ¬ (some p).isSome = true by simp), if_pos (show ((flat p).length : Int) > 0 by omega), s3, n3, Option.bind_some, Option.bind_some]
        show Rel ((impl_itemsOf.f k p).bind fun t198 => (if 1 < (([A0, B] : List Tm).length : Int) then ((impl_grammar_body.f k ⟨mv + 1 + 1 + 1 + 1, d⟩ B (varT (mv + 1)) (varT (mv + 1 + 1 + 1))).bind _) else none)) (if 1 < (([flat A0, flat B] : List (List Cell)).length : Int) then ((spec_l8phrase.f k ⟨mv + 1 + 1 + 1 + 1, d⟩ (flat B) (flat (varT (mv + 1))) (flat (varT (mv + 1 + 1 + 1)))).bind _) else none)
        rw [t1 k (by omega), Option.bind_some, if_pos (by simp), if_pos (by simp), b7 k d (by omega), b8 k d (by omega), Option.bind_some, Option.bind_some, t6 k n' (fc d d2) (by omega), Option.bind_some, nodeis_val, Option.bind_some]
        have okE := pair_ok [61] (varT (mv + 1 + 1)) (listE (varT (mv + 1 + 1 + 1)) vs) (by decide) (var_wt _) t3
        rw [var_len] at okE
        have okB := pair_ok [44] X (.mk 3 2 [61] [varT (mv + 1 + 1), listE (varT (mv + 1 + 1 + 1)) vs]) (by decide) b3 okE.1
        have okB' : (flat (.mk 3 2 [44] [X', .mk 3 2 [61] [varT (mv + 1 + 1), listE (varT (mv + 1 + 1 + 1)) vs]])).length ≤ 20000 := by
          have := okE.2
          rw [show flat (.mk 3 2 [44] [X', .mk 3 2 [61] [varT (mv + 1 + 1), listE (varT (mv + 1 + 1 + 1)) vs]]) = ⟨3, 2, [44]⟩ :: (flat X' ++ (flat (.mk 3 2 [61] [varT (mv + 1 + 1), listE (varT (mv + 1 + 1 + 1)) vs]) ++ [])) from rfl]
          simp only [List.length_cons, List.length_append, List.length_nil]; omega
        cases isT e [91, 93] 0 with
        | true =>
          rw [if_pos rfl, if_neg (by simp), listOf_val vs _ t5 k (by omega), Option.bind_some, pair_wt [44] X _ k (by decide) b3 okE.1 (by omega) (by omega), Option.bind_some]
          exact last_val T T' (.mk 3 2 [44] [X, .mk 3 2 [61] [varT (mv + 1 + 1), listE (varT (mv + 1 + 1 + 1)) vs]]) (.mk 3 2 [44] [X', .mk 3 2 [61] [varT (mv + 1 + 1), listE (varT (mv + 1 + 1 + 1)) vs]]) n' (fc d d2) k m1 okB.1 (by omega) (by omega) (by omega) okB' (fun h => by
            obtain ⟨q1, q2⟩ := fc_eq0 h
            exact ⟨m4 q1, by rw [b6 q2]⟩) (by omega) (by omega) (by omega) _ _
        | false =>
          have okN := pair_ok [44] X nilT (by decide) b3 nil_wt
          have lN : (flat nilT).length = 1 := by simp [nilT, flat, flats]
          rw [lN] at okN
          rw [if_pos (show ¬ (false = true) by simp), if_neg (show ¬ (false = true) by simp), ifault_val, Option.bind_some, listOf_val vs _ t5 k (by omega), Option.bind_some]
          show Rel _ ((spec_l2pair.f k [44] (flat X) (flat nilT)).bind _)
          rw [pair_wt [44] X nilT k (by decide) b3 nil_wt (by omega) (by omega), Option.bind_some]
          exact last_val T T' (.mk 3 2 [44] [X, nilT]) (.mk 3 2 [44] [X', .mk 3 2 [61] [varT (mv + 1 + 1), listE (varT (mv + 1 + 1 + 1)) vs]]) n' (fc (fc d d2) 4) k m1 okN.1 (by omega) (by omega) (by omega) okB' (fun h => by
            obtain ⟨q1, q2⟩ := fc_eq0 h
            exact absurd q2 (by decide)) (by omega) (by omega) (by omega) _ _
theorem translate_eq (xs : List Cell) (k : Nat) (hl : xs.length ≤ 1048576) (hk : 3000000 < k) : ∃ r : List Cell × Int, impl_TranslateGrammar.f k xs = some r ∧ spec_TranslateGrammar.f k xs = some r ∧ wCells r.1 ≤ 1048576 := by
  have w0 : wCells ([] : List Cell) ≤ 1048576 := by simp [wCells, wts]
  rw [impl_TranslateGrammar.f, spec_TranslateGrammar.f, valid_val xs k (by omega) (by omega), valid_val' xs k (by omega) (by omega), Option.bind_some, Option.bind_some]
  cases h : okT xs with
  | false => exact ⟨([], 1), rfl, rfl, w0⟩
  | true =>
    obtain ⟨hl1, t, rfl, hw⟩ := (okT_iff xs).1 h
    have e1 := l2is_flat t [] [45, 45, 62] 2
    rw [List.append_nil] at e1
    rw [if_neg (by simp), if_neg (by simp), tree_flat t k hw hl1 (by omega), Option.bind_some, nodeis_val, e1, Option.bind_some, Option.bind_some]
    cases hi : isT t [45, 45, 62] 2 with
    | false => exact ⟨([], 1), rfl, rfl, w0⟩
    | true =>
      rw [if_neg (by simp), if_neg (by simp)]
      have hmv := mxv_bound (flat t) (-1) (fun c hc h0 => by
        rcases flat_ok t hw c hc with q | q | q | q
        · exact q.2.2.1
        · exact absurd (h0.symm.trans q.1) (by decide)
        · exact absurd (h0.symm.trans q.1) (by decide)
        · exact absurd (h0.symm.trans q.1) (by decide)) (by decide) (by decide)
      have sm := smax_val (flat t) k (by omega) (by omega)
      have im := imax_val t k hl1 (by omega)
      rw [sm, Option.bind_some, impl_translated.f, im, Option.bind_some]
      generalize (flat t).foldl mxv (-1) = mv at hmv
      obtain ⟨kd, n, s, us⟩ := t
      obtain ⟨rfl, rfl, rfl⟩ := isT_parts hi (by decide)
      have hw2 := hw
      simp only [Wf] at hw2
      have hn := hw2.2.1 (by trivial)
      have key : ∃ A B P, us = [A, B] ∧ Rel (if 0 < (us.length : Int) then ((impl_node_is.f (us.getD 0 (Tm.mk 0 0 [] [])) ([44] : List UInt8) 2).bind fun t49 => (if t49 = true then (if 0 < (((us.getD 0 (Tm.mk 0 0 [] [])).args).length : Int) then (if 1 < (((us.getD 0 (Tm.mk 0 0 [] [])).args).length : Int) then (impl_translated.l0 k (.mk 3 2 [45, 45, 62] us) mv (((us.getD 0 (Tm.mk 0 0 [] [])).args).getD 0 (Tm.mk 0 0 [] [])) (some (((us.getD 0 (Tm.mk 0 0 [] [])).args).getD 1 (Tm.mk 0 0 [] [])))) else none) else none) else (impl_translated.l0 k (.mk 3 2 [45, 45, 62] us) mv (us.getD 0 (Tm.mk 0 0 [] [])) none))) else none)
          ((spec_l2args.f k (flat (.mk 3 2 [45, 45, 62] us))).bind fun t33 => (if 0 < (t33.length : Int) then ((spec_l2is.f (t33.getD 0 ([] : List Cell)) ([44] : List UInt8) 2).bind fun t80 => (if t80 = true then ((spec_l2args.f k (t33.getD 0 ([] : List Cell))).bind fun t87 => (if 0 < (t87.length : Int) then (if 1 < (t87.length : Int) then (spec_TranslateGrammar.l0 k mv t33 (t87.getD 0 ([] : List Cell)) (t87.getD 1 ([] : List Cell))) else none) else none)) else (spec_TranslateGrammar.l0 k mv t33 (t33.getD 0 ([] : List Cell)) []))) else none)) ∧ P = 0 := by
        have hfl : (flat (.mk 3 2 [45, 45, 62] us)).length = (flats us).length + 1 := by simp [flat]
        rw [args_val 2 [45, 45, 62] us k hw (by omega) (by omega), Option.bind_some]
        match us, hn, hw2.2.2.2, hfl with
        | [A, B], _, w3, hfl =>
          simp only [Wfs] at w3
          simp only [flats, List.length_append, List.length_nil] at hfl
          have pA := flat_pos A
          have pB := flat_pos B
          refine ⟨A, B, 0, rfl, ?_, rfl⟩
          rw [if_pos (show (0 : Int) < (([A, B] : List Tm).length : Int) by simp), if_pos (show (0 : Int) < ((([A, B] : List Tm).map flat).length : Int) by simp)]
          show Rel ((impl_node_is.f A [44] 2).bind _) ((spec_l2is.f (flat A) [44] 2).bind _)
          have e2 := l2is_flat A [] [44] 2
          rw [List.append_nil] at e2
          rw [nodeis_val, e2, Option.bind_some, Option.bind_some]
          cases hA : isT A [44] 2 with
          | false =>
            rw [if_neg (by simp), if_neg (by simp)]
            exact clause_val A B 3 2 [45, 45, 62] none A mv k w3.1 w3.2.1 (fun p h => by cases h) (by omega) (by omega) (fun p h => by cases h) hmv.1 hmv.2 (by omega)
          | true =>
            rw [if_pos rfl, if_pos rfl]
            obtain ⟨ka, na, sa, vs⟩ := A
            obtain ⟨rfl, rfl, rfl⟩ := isT_parts hA (by decide)
            have hwA := w3.1
            have hwA2 := hwA
            simp only [Wf] at hwA2
            have hnA := hwA2.2.1 (by trivial)
            show Rel (if 0 < (vs.length : Int) then (if 1 < (vs.length : Int) then impl_translated.l0 k _ mv (vs.getD 0 (Tm.mk 0 0 [] [])) (some (vs.getD 1 (Tm.mk 0 0 [] []))) else none) else none) ((spec_l2args.f k (flat (.mk 3 2 [44] vs))).bind _)
            have hfA : (flat (.mk 3 2 [44] vs)).length = (flats vs).length + 1 := by simp [flat]
            rw [args_val 2 [44] vs k hwA (by omega) (by omega), Option.bind_some]
            match vs, hnA, hwA2.2.2.2, hfA with
            | [a, p], _, w4, hfA =>
              simp only [Wfs] at w4
              simp only [flats, List.length_append, List.length_nil] at hfA
              have pa := flat_pos a
              have pp := flat_pos p
              rw [if_pos (show (0 : Int) < (([a, p] : List Tm).length : Int) by simp), if_pos (show (1 : Int) < (([a, p] : List Tm).length : Int) by simp), if_pos (show (0 : Int) < ((([a, p] : List Tm).map flat).length : Int) by simp), if_pos (show (1 : Int) < ((([a, p] : List Tm).map flat).length : Int) by simp)]
              exact clause_val a B 3 2 [45, 45, 62] (some p) _ mv k w4.1 w3.2.1 (fun q h => by cases h; exact w4.2.1) (by omega) (by omega) (fun q h => by cases h; omega) hmv.1 hmv.2 (by omega)
            | [], hnA, _, _ => exact absurd hnA (by simp)
            | [a], hnA, _, _ => exact absurd hnA (by simp)
            | a :: b :: c :: l, hnA, _, _ => exact absurd hnA (by simp; omega)
        | [], hn, _, _ => exact absurd hn (by simp)
        | [a], hn, _, _ => exact absurd hn (by simp)
        | a :: b :: c :: l, hn, _, _ => exact absurd hn (by simp; omega)
      obtain ⟨A, B, P, _, ⟨o, d, q1, q2⟩, _⟩ := key
      have q4 : (if 0 < ((Tm.mk 3 2 [45, 45, 62] us).args.length : Int) then ((impl_node_is.f ((Tm.mk 3 2 [45, 45, 62] us).args.getD 0 (Tm.mk 0 0 [] [])) ([44] : List UInt8) 2).bind fun t49 => (if t49 = true then (if 0 < ((((Tm.mk 3 2 [45, 45, 62] us).args.getD 0 (Tm.mk 0 0 [] [])).args).length : Int) then (if 1 < ((((Tm.mk 3 2 [45, 45, 62] us).args.getD 0 (Tm.mk 0 0 [] [])).args).length : Int) then (impl_translated.l0 k (.mk 3 2 [45, 45, 62] us) mv ((((Tm.mk 3 2 [45, 45, 62] us).args.getD 0 (Tm.mk 0 0 [] [])).args).getD 0 (Tm.mk 0 0 [] [])) (some ((((Tm.mk 3 2 [45, 45, 62] us).args.getD 0 (Tm.mk 0 0 [] [])).args).getD 1 (Tm.mk 0 0 [] [])))) else none) else none) else (impl_translated.l0 k (.mk 3 2 [45, 45, 62] us) mv ((Tm.mk 3 2 [45, 45, 62] us).args.getD 0 (Tm.mk 0 0 [] [])) none))) else none) = some (o, d) := q1
      rw [q4, Option.bind_some]
      rcases q2 with ⟨hd, q3⟩ | ⟨rfl, T, rfl, hT, lT, q3⟩
      · rw [if_pos hd]
        exact ⟨([], d), rfl, q3, w0⟩
      · rw [if_neg (by simp), if_pos (show (some T).isSome = true from rfl)]
        show ∃ r, ((impl_node_cells.f k T).bind _) = some r ∧ _
        rw [cellsw T k hT (by omega) (by omega), Option.bind_some]
        have := wCells_wt (wt_text T hT)
        exact ⟨(flat T, 0), rfl, q3, by show wCells (flat T) ≤ _; omega⟩
theorem translateGrammar_true (xs : List Cell) (hl : xs.length ≤ 9223372036854775807) (ht : ∀ c, c ∈ xs → c.text.length ≤ 9223372036854775807) : laws_FnExactTranslateGrammar.f 4000000 xs = some true := by
  rw [laws_FnExactTranslateGrammar.f, szCellS_val xs _ _ (by omega) (by omega) hl ht (by omega), Option.bind_some]
  by_cases h : left 1048576 (wCells xs) < 0
  · rw [if_pos h]
  have hq := left_le h
  have hw : wCells xs ≤ 1048576 := by omega
  have hl2 := wCells_len hw
  obtain ⟨r, e1, e2, e3⟩ := translate_eq xs 4000000 hl2 (by omega)
  have hws := wts2 xs
  have hws2 := wts2 r.1
  obtain ⟨ys, m1, m2, m3⟩ := markCellS_val xs 4000000 1 hw (by omega) (by omega) (by omega)
  obtain ⟨zs, n1, n2, n3⟩ := markCellS_val r.1 4000000 1 e3 (by omega) (by omega) (by omega)
  obtain ⟨o1, o2⟩ := heldCellS_val zs 4000000 1 _ (by rw [n2]; exact wCells_len e3) (by omega) (by omega) n3
  rw [if_neg h, toCellS_id xs _ hw (by omega)]
  simp only [Option.bind_some, e1, e2, eqCellS_id r.1 4000000 e3 (by omega), eqCellS_id xs 4000000 hw (by omega), m1, n1, o1]
  rw [if_neg (by simp), if_neg (by simp), if_neg (by simp), if_neg (by omega), if_neg (by simp), if_neg (by omega), if_neg (by simp), if_neg (by simp), if_neg (by simp), if_neg (by omega), if_neg (by simp)]
end Go.Proofs.Ytmmjeppmglmefaa
