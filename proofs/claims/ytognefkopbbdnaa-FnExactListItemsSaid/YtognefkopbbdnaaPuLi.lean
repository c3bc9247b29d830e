import Derived.Test.YtognefkopbbdnaaWkLi2
import Derived.Test.YtognefkopbbdnaaZ2
namespace Go.Proofs.Ytognefkopbbdnaa
open Go.Sx Go.Sy
set_option linter.unusedVariables false
set_option linter.unusedSimpArgs false
set_option linter.unusedSectionVars false
set_option maxRecDepth 4000
/-! ### sizes, copies, equality: cells -/
theorem left_m1 {b : Int} {n : Nat} (h : left b n < 0) : left b n = -1 := by unfold left at *; split <;> (split at h <;> first | rfl | omega)
theorem szByteS_val (xs : List UInt8) (b : Int) (h0 : 0 ≤ b) (h1 : b ≤ 1048576) (hl : xs.length ≤ 9223372036854775807) : laws_szByteS.f xs b = some (left b xs.length) := by
  rw [laws_szByteS.f]; exact sz0 h0 h1 hl
theorem szCell_val (x : Cell) (b : Int) (h0 : 0 ≤ b) (h1 : b ≤ 1048576) (hl : x.text.length ≤ 9223372036854775807) : laws_szCell.f x b = some (left b x.text.length) := by
  rw [laws_szCell.f, szByteS_val _ _ h0 h1 hl, Option.bind_some]
  split
  · rename_i h; rw [left_m1 h]
  · rfl
theorem szCellS_val (xs : List Cell) (k : Nat) (b : Int) (h0 : 0 ≤ b) (h1 : b ≤ 1048576) (hl : xs.length ≤ 9223372036854775807) (ht : ∀ c, c ∈ xs → c.text.length ≤ 9223372036854775807) (hk : 1048577 < k) :
    laws_szCellS.f k xs b = some (left b (wCells xs)) := by
  rw [laws_szCellS.f]
  refine szT h0 h1 hl fun h => ?_
  have hq := left_le h
  rw [left_wrap h0 h1 hl h]
  exact szL (B := 0) (z := z68) (fun x => x.text.length) (fun k b i => laws_szCellS.l0 k xs b i) (fun _ => laws_szCell.f) (fun _ _ _ => rfl) (by omega) (fun x hx _ _ b q0 q1 => szCell_val x b q0 q1 (ht x hx)) k (by omega) _ (by omega) (by omega)
theorem toByteS_id (xs : List UInt8) (k : Nat) (hl : xs.length ≤ 1048576) (hk : xs.length < k) : laws_toByteS.f k xs = some xs := by
  rw [laws_toByteS.f, if_pos (by omega), if_pos (by omega)]
  exact toF (z := 0) (fun k i ys => laws_toByteS.l0 k xs i ys) (fun _ _ _ => rfl) (by omega) k hk _ (by simp)
theorem toCell_id (x : Cell) (k : Nat) (hl : x.text.length ≤ 1048576) (hk : 1048577 ≤ k) : laws_toCell.f k x = some x := by
  rw [laws_toCell.f, toByteS_id _ k hl (by omega)]; rfl
theorem wCells_len {xs : List Cell} {n : Nat} (hl : wCells xs ≤ n) : xs.length ≤ n := Nat.le_trans (Nat.le_add_right _ _) hl
theorem wCells_mem {xs : List Cell} {n : Nat} (hl : wCells xs ≤ n) {x : Cell} (hx : x ∈ xs) : x.text.length ≤ n := Nat.le_trans (Nat.le_trans (wts_mem (fun x : Cell => x.text.length) hx) (Nat.le_add_left _ _)) hl
theorem toCellS_id (xs : List Cell) (k : Nat) (hl : wCells xs ≤ 1048576) (hk : 2097154 < k) : laws_toCellS.f k xs = some xs := by
  have hl2 := wCells_len hl
  rw [laws_toCellS.f, if_pos (by omega), if_pos (by omega)]
  exact toL (z := z68) (B := 1048577) (fun k i ys => laws_toCellS.l0 k xs i ys) laws_toCell.f (fun _ _ _ => rfl) (by omega) (fun x hx k hk => toCell_id x k (wCells_mem hl hx) hk) k (by omega) _ (by simp)
theorem eqByteS_id (xs : List UInt8) (k : Nat) (hl : xs.length ≤ 1048576) (hk : xs.length < k) : laws_eqByteS.f k xs xs = some true := by
  rw [laws_eqByteS.f, if_neg (by simp)]
  exact eqF (z := 0) (fun k i => laws_eqByteS.l0 k xs xs i) (fun _ _ => rfl) (by omega) k hk
theorem eqCell_id (x : Cell) (k : Nat) (hl : x.text.length ≤ 1048576) (hk : 1048577 ≤ k) : laws_eqCell.f k x x = some true := by
  rw [laws_eqCell.f, if_neg (by simp), if_neg (by simp), eqByteS_id _ k hl (by omega), Option.bind_some, if_neg (by simp)]
theorem eqCellS_id (xs : List Cell) (k : Nat) (hl : wCells xs ≤ 1048576) (hk : 2097154 < k) : laws_eqCellS.f k xs xs = some true := by
  have hl2 := wCells_len hl
  rw [laws_eqCellS.f, if_neg (by simp)]
  exact eqL (z := z65) (z' := z65) (B := 1048577) (fun k i => laws_eqCellS.l0 k xs xs i) laws_eqCell.f (fun _ _ => rfl) (by omega) (fun x hx k hk => eqCell_id x k (wCells_mem hl hx) hk) k (by omega)
theorem wCellss_len {xs : List (List Cell)} {n : Nat} (hl : wCellss xs ≤ n) : xs.length ≤ n := Nat.le_trans (Nat.le_add_right _ _) hl
theorem wCellss_mem {xs : List (List Cell)} {n : Nat} (hl : wCellss xs ≤ n) {x : List Cell} (hx : x ∈ xs) : wCells x ≤ n := Nat.le_trans (Nat.le_trans (wts_mem wCells hx) (Nat.le_add_left _ _)) hl
theorem eqCellSS_id (xs : List (List Cell)) (k : Nat) (hl : wCellss xs ≤ 1048576) (hk : 3145731 < k) : laws_eqCellSS.f k xs xs = some true := by
  have hl2 := wCellss_len hl
  rw [laws_eqCellSS.f, if_neg (by simp)]
  exact eqL (z := ([] : List Cell)) (z' := ([] : List Cell)) (B := 2097155) (fun k i => laws_eqCellSS.l0 k xs xs i) laws_eqCellS.f (fun _ _ => rfl) (by omega) (fun x hx k hk => eqCellS_id x k (wCellss_mem hl hx) (by omega)) k (by omega)
/-! ### marks -/
def PB (n m : Int) (x : UInt8) : Prop := m = n + 1 ∧ x = b8 n
theorem markByteS_val (xs : List UInt8) (k : Nat) (n : Int) (hl : xs.length ≤ 1048576) (hk : 1048577 < k) (h0 : 0 ≤ n) (hn : n ≤ 8000000000000000000) :
    ∃ ys, laws_markByteS_2.f k xs n = some (n + (xs.length : Int), ys) ∧ ys.length = xs.length ∧ HL PB n (n + (xs.length : Int)) ys := by
  rw [laws_markByteS_2.f]
  have e : wts (fun _ : UInt8 => 1) xs = xs.length := by
    induction xs with
    | nil => rfl
    | cons x xs ih => rw [wts_cons, ih (by simp at hl; omega), List.length_cons]; omega
  have := markL (U := 9000000000000000000) (P := PB) (B := 0) (z := (0 : UInt8)) (w := fun _ => 1) (xs := xs) (fun k n i ys => laws_markByteS_2.l0 k xs n i ys) (fun _ _ n => if n + 1 ≤ 9000000000000000000 ∧ 0 ≤ n then some (n + 1, b8 n) else some (IntKind.i64.wrap (n + 1), b8 n))
    (fun k n i ys hi hy => by
      show laws_markByteS_2.l0 (k + 1) xs n i ys = _
      rw [laws_markByteS_2.l0, if_pos (by omega), if_pos (by omega), Int.toNat_natCast]
      by_cases hh : n + 1 ≤ 9000000000000000000 ∧ 0 ≤ n
      · rw [if_pos hh, Option.bind_some, wrap_id (n := n + 1) (by omega) (by omega)]
      · rw [if_neg hh, Option.bind_some])
    (fun k n ys => by
      show laws_markByteS_2.l0 (k + 1) xs n xs.length ys = _
      rw [laws_markByteS_2.l0, if_neg (by omega)])
    (by omega) (fun x _ k _ n q0 q1 => ⟨b8 n, by rw [if_pos ⟨q1, q0⟩]; rfl, rfl, rfl⟩) k (by omega) n h0 (by rw [e]; omega)
  rw [e] at this
  exact this
theorem heldByteS_val (xs : List UInt8) (k : Nat) (n m : Int) (hl : xs.length ≤ 1048576) (hk : 1048577 < k) (h0 : 0 ≤ n) (hm : m ≤ 9000000000000000000) (h : HL PB n m xs) : laws_heldByteS.f k xs n = some m ∧ n ≤ m := by
  rw [laws_heldByteS.f]
  have key : ∀ (q k i : Nat) (n : Int), xs.length - i = q → i ≤ xs.length → q < k → 0 ≤ n → HL PB n m (xs.drop i) → laws_heldByteS.l0 k xs n (i : Int) = some m ∧ n ≤ m := by
    intro q
    induction q with
    | zero =>
      intro k i n h1 h2 h3 h4 h5
      obtain ⟨k, rfl⟩ : ∃ q, k = q + 1 := ⟨k - 1, by omega⟩
      rw [List.drop_of_length_le (by omega)] at h5
      cases h5
      rw [laws_heldByteS.l0, if_neg (by omega)]
      exact ⟨rfl, Int.le_refl _⟩
    | succ q ih =>
      intro k i n h1 h2 h3 h4 h5
      obtain ⟨k, rfl⟩ : ∃ q, k = q + 1 := ⟨k - 1, by omega⟩
      have hi : i < xs.length := by omega
      rw [List.drop_eq_getElem_cons hi] at h5
      cases h5 with
      | cons p hr =>
        obtain ⟨rfl, p2⟩ := p
        have hle : n + 1 ≤ m := hr.le (fun _ _ _ h => by have := h.1; omega)
        rw [laws_heldByteS.l0, if_pos (by omega), if_pos (by omega), Int.toNat_natCast, getD_at hi, p2, if_neg (by simp), wrap_nat (by omega), wrap_id (n := n + 1) (by omega) (by omega)]
        obtain ⟨f1, f2⟩ := ih k (i + 1) (n + 1) (by omega) (by omega) (by omega) (by omega) hr
        exact ⟨f1, by omega⟩
  exact key xs.length k 0 n rfl (by omega) (by omega) h0 h
def PC (n m : Int) (c : Cell) : Prop := c.kind = n ∧ c.n = n + 1 ∧ HL PB (n + 2) m c.text ∧ c.text.length ≤ 1048576 ∧ m ≤ 9000000000000000000
theorem getD_set_self {α : Type} {ys : List α} {i : Nat} {x z : α} (h : i < ys.length) : (ys.set i x).getD i z = x := by
  rw [List.getD_eq_getElem?_getD, List.getElem?_set_self h]; rfl
theorem markCellS_val (xs : List Cell) (k : Nat) (n : Int) (hl : wCells xs ≤ 1048576) (hk : 2097155 < k) (h0 : 0 ≤ n) (hn : n + (wts (fun x : Cell => 2 + x.text.length) xs : Int) ≤ 8000000000000000000) :
    ∃ ys, laws_markCellS_2.f k xs n = some (n + (wts (fun x : Cell => 2 + x.text.length) xs : Int), ys) ∧ ys.length = xs.length ∧ HL PC n (n + (wts (fun x : Cell => 2 + x.text.length) xs : Int)) ys := by
  have hl2 := wCells_len hl
  rw [laws_markCellS_2.f]
  refine markL (U := 8000000000000000000) (P := PC) (B := 1048578) (z := z65) (w := fun x => 2 + x.text.length) (xs := xs) (fun k n i ys => laws_markCellS_2.l0 k xs n i ys)
    (fun k c n => (laws_markByteS_2.f k c.text (IntKind.i64.wrap (IntKind.i64.wrap (n + 1) + 1))).bind fun t => some (t.1, ⟨n, IntKind.i64.wrap (n + 1), t.2⟩)) ?_ ?_ (by omega) ?_ k (by omega) n h0 (by omega)
  · intro k n i ys hi hy
    show laws_markCellS_2.l0 (k + 1) xs n i ys = _
    rw [laws_markCellS_2.l0, if_pos (by omega), if_pos (by omega), Int.toNat_natCast]
    have e1 : i < (ys.set i { ys.getD i z65 with kind := n }).length := by rw [List.length_set]; exact hi
    simp only [getD_set_self hi, List.set_set, getD_set_self e1]
    cases laws_markByteS_2.f k (ys.getD i z65).text (IntKind.i64.wrap (IntKind.i64.wrap (n + 1) + 1)) <;> rfl
  · intro k n ys
    show laws_markCellS_2.l0 (k + 1) xs n xs.length ys = _
    rw [laws_markCellS_2.l0, if_neg (by omega)]
  · intro x hx k hk n q0 q1
    rw [wrap_id (n := n + 1) (by omega) (by omega), wrap_id (n := n + 1 + 1) (by omega) (by omega)]
    obtain ⟨ys, e1, e2, e3⟩ := markByteS_val x.text k (n + 1 + 1) (wCells_mem hl hx) (by omega) (by omega) (by omega)
    rw [e1, Option.bind_some]
    have e : n + 1 + 1 + (x.text.length : Int) = n + ((2 + x.text.length : Nat) : Int) := by omega
    refine ⟨⟨n, n + 1, ys⟩, by rw [e], rfl, rfl, ?_, by rw [e2]; exact wCells_mem hl hx, by omega⟩
    rw [← e]
    exact (show n + 2 = n + 1 + 1 by omega) ▸ e3
theorem heldCellS_val (xs : List Cell) (k : Nat) (n m : Int) (hl : xs.length ≤ 1048576) (hk : 2097155 < k) (h0 : 0 ≤ n) (h : HL PC n m xs) : laws_heldCellS.f k xs n = some m ∧ n ≤ m := by
  rw [laws_heldCellS.f]
  refine heldL (P := PC) (B := 1048578) (z := z65) (fun k n i => laws_heldCellS.l0 k xs n i) (fun k c n => if c.kind ≠ n then some (-1) else if c.n ≠ IntKind.i64.wrap (n + 1) then some (-1) else laws_heldByteS.f k c.text (IntKind.i64.wrap (IntKind.i64.wrap (n + 1) + 1))) ?_ (by omega) ?_ k (by omega) n h0 h
  · intro k n i
    show laws_heldCellS.l0 (k + 1) xs n i = _
    rw [laws_heldCellS.l0]
    split
    · split
      · generalize xs.getD i.toNat z65 = c
        by_cases h1 : c.kind ≠ n
        · rw [if_pos h1, if_pos h1, Option.bind_some, if_pos (by omega)]
        · rw [if_neg h1, if_neg h1]
          by_cases h2 : c.n ≠ IntKind.i64.wrap (n + 1)
          · rw [if_pos h2, if_pos h2, Option.bind_some, if_pos (by omega)]
          · rw [if_neg h2, if_neg h2]
      · rfl
    · rfl
  · intro n m c _ p h0 k hk
    obtain ⟨p1, p2, p3, p4, p5⟩ := p
    have hle := p3.le (fun _ _ _ h => by have := h.1; omega)
    rw [wrap_id (n := n + 1) (by omega) (by omega), wrap_id (n := n + 1 + 1) (by omega) (by omega), if_neg (by omega), if_neg (by omega)]
    obtain ⟨f1, f2⟩ := heldByteS_val c.text k (n + 1 + 1) m p4 (by omega) (by omega) p5 ((show n + 2 = n + 1 + 1 by omega) ▸ p3)
    exact ⟨f1, by omega⟩
def PCs (n m : Int) (c : List Cell) : Prop := HL PC n m c ∧ c.length ≤ 1048576
theorem markCellSS_val (xs : List (List Cell)) (k : Nat) (n : Int) (hl : wCellss xs ≤ 1048576) (hk : 3145735 < k) (h0 : 0 ≤ n) (hn : n ≤ 1000000) :
    ∃ m ys, laws_markCellSS_2.f k xs n = some (m, ys) ∧ ys.length = xs.length ∧ HL PCs n m ys ∧ n ≤ m := by
  have hl2 := wCellss_len hl
  have hw1 : ∀ x : List Cell, wts (fun x : Cell => 2 + x.text.length) x ≤ 2 * wCells x := fun xs => by
    induction xs with
    | nil => simp [wts]
    | cons x xs ih => unfold wCells at *; rw [wts_cons, wts_cons, List.length_cons]; omega
  have hw : wts (fun x => wts (fun x : Cell => 2 + x.text.length) x) xs ≤ 2 * wts wCells xs := by
    clear hl hl2
    induction xs with
    | nil => simp [wts]
    | cons x xs ih => rw [wts_cons, wts_cons]; have := hw1 x; omega
  have hl3 : wts wCells xs ≤ 1048576 := Nat.le_trans (Nat.le_add_left _ _) hl
  obtain ⟨ys, e1, e2, e3⟩ := markL (U := 7000000000000000000) (P := PCs) (B := 2097156) (z := ([] : List Cell)) (w := fun x => wts (fun x : Cell => 2 + x.text.length) x) (xs := xs) (fun k n i ys => laws_markCellSS_2.l0 k xs n i ys)
    (fun k c n => laws_markCellS_2.f k c n)
    (fun k n i ys hi hy => by
      show laws_markCellSS_2.l0 (k + 1) xs n i ys = _
      rw [laws_markCellSS_2.l0, if_pos (by omega), if_pos (by omega), Int.toNat_natCast])
    (fun k n ys => by
      show laws_markCellSS_2.l0 (k + 1) xs n xs.length ys = _
      rw [laws_markCellSS_2.l0, if_neg (by omega)]) (by omega)
    (fun x hx k hk n q0 q1 => by
      have hx1 := wCellss_mem hl hx
      obtain ⟨ys, e1, e2, e3⟩ := markCellS_val x k n hx1 (by omega) q0 (by omega)
      exact ⟨ys, e1, e3, by rw [e2]; exact wCells_len hx1⟩) k (by omega) n h0 (by omega)
  exact ⟨_, ys, e1, e2, e3, by omega⟩
theorem heldCellSS_val (xs : List (List Cell)) (k : Nat) (n m : Int) (hl : xs.length ≤ 1048576) (hk : 3145735 < k) (h0 : 0 ≤ n) (h : HL PCs n m xs) : laws_heldCellSS.f k xs n = some m ∧ n ≤ m := by
  rw [laws_heldCellSS.f]
  exact heldL (P := PCs) (B := 2097156) (z := ([] : List Cell)) (fun k n i => laws_heldCellSS.l0 k xs n i) (fun k c n => laws_heldCellS.f k c n) (fun k n i => by show laws_heldCellSS.l0 (k + 1) xs n i = _; rw [laws_heldCellSS.l0]) (by omega)
    (fun n m c _ p h0 k hk => heldCellS_val c k n m p.2 (by omega) h0 p.1) k (by omega) n h0 h
/-! ### terms that are valid -/
instance (c : Cell) : Decidable (Okc c) := by unfold Okc; infer_instance
theorem l2cell_val (c : Cell) : spec_l2cell.f c = some (decide (Okc c)) := by
  have e : ∀ l : List UInt8, (l.length : Int) = 0 ↔ l = [] := fun l => ⟨fun hl => List.eq_nil_of_length_eq_zero (by omega), fun h => by rw [h]; rfl⟩
  unfold spec_l2cell.f
  simp only [e]
  repeat' split
  all_goals refine congrArg some ?_
  all_goals first
    | (rw [eq_comm, decide_eq_false_iff_not]; unfold Okc; omega)
    | (rw [eq_comm, decide_eq_true_iff]; unfold Okc; omega)
    | (refine decide_eq_decide.2 ?_; unfold Okc; omega)
    | (refine decide_eq_decide.2 ?_; unfold Okc; simp only [*]; simp; try omega)
    | (rw [eq_comm, decide_eq_false_iff_not]; unfold Okc; simp only [*]; simp; try omega)
theorem cellOk_val (c : Cell) : impl_cellOk.f c = some (decide (Okc c)) := by
  have e : ∀ l : List UInt8, (l.length : Int) = 0 ↔ l = [] := fun l => ⟨fun hl => List.eq_nil_of_length_eq_zero (by omega), fun h => by rw [h]; rfl⟩
  unfold impl_cellOk.f
  simp only [e]
  repeat' split
  all_goals refine congrArg some ?_
  all_goals first
    | (rw [eq_comm, decide_eq_false_iff_not]; unfold Okc; omega)
    | (rw [eq_comm, decide_eq_true_iff]; unfold Okc; omega)
    | (refine decide_eq_decide.2 ?_; unfold Okc; omega)
    | (refine decide_eq_decide.2 ?_; unfold Okc; simp only [*]; simp; try omega)
    | (rw [eq_comm, decide_eq_false_iff_not]; unfold Okc; simp only [*]; simp; try omega)
theorem valid_l0 (xs : List Cell) (hl : xs.length < 9223372036854775807) : ∀ (m k i : Nat) (n : Int), xs.length - i = m → i ≤ xs.length → m < k → impl_ValidTerm.l0 k xs n (i : Int) = spec_ValidTerm.l0 k xs n (i : Int) ∧ ∃ b, spec_ValidTerm.l0 k xs n (i : Int) = some b := by
  intro m
  induction m with
  | zero =>
    intro k i n h1 h2 h3
    obtain ⟨k, rfl⟩ : ∃ q, k = q + 1 := ⟨k - 1, by omega⟩
    rw [impl_ValidTerm.l0, spec_ValidTerm.l0, if_neg (by omega), if_neg (by omega)]
    exact ⟨rfl, _, rfl⟩
  | succ m ih =>
    intro k i n h1 h2 h3
    obtain ⟨k, rfl⟩ : ∃ q, k = q + 1 := ⟨k - 1, by omega⟩
    rw [impl_ValidTerm.l0, spec_ValidTerm.l0, if_pos (show (i : Int) < (xs.length : Int) by omega), if_pos (show (0 : Int) ≤ (i : Int) by omega), if_pos (show (i : Int) < (xs.length : Int) by omega), wrap_nat (by omega)]
    by_cases hn : n = 0
    · rw [if_pos hn, if_pos hn]; exact ⟨rfl, _, rfl⟩
    · rw [if_neg hn, if_neg hn, if_pos (show (0 : Int) ≤ (i : Int) by omega), l2cell_val, cellOk_val, Option.bind_some, Option.bind_some]
      split
      · exact ⟨rfl, _, rfl⟩
      · split
        · exact ih k (i + 1) _ (by omega) (by omega) (by omega)
        · exact ih k (i + 1) _ (by omega) (by omega) (by omega)
theorem valid_eq (xs : List Cell) (k : Nat) (hl : xs.length < 9223372036854775807) (hk : xs.length < k) : impl_ValidTerm.f k xs = spec_ValidTerm.f k xs ∧ ∃ b, spec_ValidTerm.f k xs = some b := by
  rw [impl_ValidTerm.f, spec_ValidTerm.f]
  split
  · exact ⟨rfl, _, rfl⟩
  · exact valid_l0 xs hl xs.length k 0 1 rfl (by omega) hk
theorem valid_trees (xs : List Cell) (hl : xs.length ≤ 2000) : ∀ (m k i n : Nat), xs.length - i = m → i ≤ xs.length → n ≤ 1 + 20 * i → spec_ValidTerm.l0 k xs (n : Int) (i : Int) = some true →
    ∃ ts, ts.length = n ∧ flats ts = xs.drop i ∧ Wfs ts := by
  intro m
  induction m with
  | zero =>
    intro k i n h1 h2 h3 h
    obtain ⟨k, rfl⟩ : ∃ q, k = q + 1 := by
      cases k with
      | zero => rw [spec_ValidTerm.l0] at h; cases h
      | succ q => exact ⟨q, rfl⟩
    rw [spec_ValidTerm.l0, if_neg (by omega)] at h
    have h0 : n = 0 := by simpa using h
    exact ⟨[], by simp [h0], by rw [List.drop_of_length_le (by omega)]; simp [flats], by simp [Wfs]⟩
  | succ m ih =>
    intro k i n h1 h2 h3 h
    obtain ⟨k, rfl⟩ : ∃ q, k = q + 1 := by
      cases k with
      | zero => rw [spec_ValidTerm.l0] at h; cases h
      | succ q => exact ⟨q, rfl⟩
    have hi : i < xs.length := by omega
    rw [spec_ValidTerm.l0, if_pos (by omega), Int.toNat_natCast, getD_at hi, wrap_nat (by omega), l2cell_val] at h
    by_cases hn : (n : Int) = 0
    · rw [if_pos hn] at h; simp at h
    rw [if_neg hn, if_pos (by omega), Option.bind_some] at h
    by_cases hb : Okc xs[i]
    · rw [if_neg (by simpa using hb), wrap_id (n := (n : Int) - 1) (by omega) (by omega)] at h
      by_cases hk : xs[i].kind = 3
      · obtain ⟨p1, p2⟩ := hb.n3 hk
        rw [if_pos hk, wrap_id (n := (n : Int) - 1 + xs[i].n) (by omega) (by omega), show (n : Int) - 1 + xs[i].n = ((n - 1 + xs[i].n.toNat : Nat) : Int) by omega] at h
        obtain ⟨ts, e1, e2, e3⟩ := ih k (i + 1) (n - 1 + xs[i].n.toNat) (by omega) (by omega) (by omega) h
        refine ⟨Tm.mk xs[i].kind xs[i].n xs[i].text (ts.take xs[i].n.toNat) :: ts.drop xs[i].n.toNat, by simp; omega, ?_, ?_⟩
        · rw [List.drop_eq_getElem_cons hi, ← e2]
          conv => rhs; rw [← List.take_append_drop xs[i].n.toNat ts]
          rw [flats_append]
          simp [flats, flat]
        · rw [← List.take_append_drop xs[i].n.toNat ts, Wfs_append] at e3
          simp only [Wfs, Wf]
          exact ⟨⟨hb, fun _ => by rw [List.length_take]; omega, fun h => absurd hk h, e3.1⟩, e3.2⟩
      · rw [if_neg hk, show (n : Int) - 1 = ((n - 1 : Nat) : Int) by omega] at h
        obtain ⟨ts, e1, e2, e3⟩ := ih k (i + 1) (n - 1) (by omega) (by omega) (by omega) h
        refine ⟨Tm.mk xs[i].kind xs[i].n xs[i].text [] :: ts, by simp; omega, ?_, ?_⟩
        · rw [List.drop_eq_getElem_cons hi, ← e2]; simp [flats, flat]
        · simp only [Wfs, Wf]
          exact ⟨⟨hb, fun h => absurd h hk, fun _ => trivial, trivial⟩, e3⟩
    · rw [if_pos (by simpa using hb)] at h; simp at h
theorem valid_tree (xs : List Cell) (k : Nat) (h : spec_ValidTerm.f k xs = some true) : xs.length ≤ 2000 ∧ ∃ t, flat t = xs ∧ Wf t := by
  rw [spec_ValidTerm.f] at h
  split at h
  · simp at h
  · rename_i hl
    have hl' : xs.length ≤ 2000 := by omega
    obtain ⟨ts, e1, e2, e3⟩ := valid_trees xs hl' xs.length k 0 1 rfl (by omega) (by omega) h
    refine ⟨hl', ?_⟩
    match ts, e1, e2, e3 with
    | [t], _, e2, e3 =>
      refine ⟨t, by simpa [flats] using e2, ?_⟩
      simp only [Wfs] at e3
      exact e3.1
/-! ### cells to trees -/
mutual
theorem from_flat : ∀ (t : Tm) (k : Nat) (r : List Cell), Wf t → 3 * (flat t).length < k → (flat t).length + r.length ≤ 2000 → impl_fromCells.f k (flat t ++ r) = some (t, r)
  | .mk kd n s us, k, r, hw, hk, hl => by
    obtain ⟨k, rfl⟩ : ∃ q, k = q + 1 := ⟨k - 1, by omega⟩
    simp only [flat, List.length_cons] at hk hl
    simp only [Wf] at hw
    obtain ⟨w0, w1, w2, w6⟩ := hw
    have e0 : flat (Tm.mk kd n s us) ++ r = ⟨kd, n, s⟩ :: (flats us ++ r) := by simp [flat]
    rw [e0, impl_fromCells.f, if_pos (by simp; omega), if_pos (by simp; omega), drop1]
    show (if kd = 3 then impl_fromCells.l0 k _ _ 0 [] else some (Tm.mk kd n s [], flats us ++ r)) = _
    by_cases h : kd = 3
    · rw [if_pos h]
      have a3 := w1 h
      have ⟨a1, a2⟩ := w0.n3 h
      have a1 : 1 ≤ n := a1
      have a2 : n ≤ 20 := a2
      have := from_flats us k ⟨kd, n, s⟩ (flats us ++ r) r [] w6 (by omega) (by omega) (by simp; omega) (by simp; omega)
      simpa using this
    · rw [if_neg h, w2 h]; simp [flats]
theorem from_flats : ∀ (us : List Tm) (k : Nat) (c : Cell) (z r : List Cell) (acc : List Tm), Wfs us → 3 * (flats us).length + 1 < k → (flats us).length + r.length ≤ 2000 → ((acc.length + us.length : Nat) : Int) = c.n → acc.length + us.length ≤ 20 →
    impl_fromCells.l0 k (c :: z) (flats us ++ r) (acc.length : Int) acc = some (Tm.mk c.kind c.n c.text (acc ++ us), r)
  | [], k, c, z, r, acc, hw, hk, hl, hn, hb => by
    obtain ⟨k, rfl⟩ : ∃ q, k = q + 1 := ⟨k - 1, by omega⟩
    rw [impl_fromCells.l0]
    show (if (acc.length : Int) < c.n then _ else some (Tm.mk c.kind c.n c.text acc, flats [] ++ r)) = _
    rw [if_neg (by simp at hn; omega)]
    simp [flats]
  | t :: us, k, c, z, r, acc, hw, hk, hl, hn, hb => by
    obtain ⟨k, rfl⟩ : ∃ q, k = q + 1 := ⟨k - 1, by omega⟩
    simp only [Wfs] at hw
    simp only [flats, List.length_append] at hk hl
    simp only [List.length_cons] at hn hb
    have hp := flat_pos t
    have e0 : flats (t :: us) ++ r = flat t ++ (flats us ++ r) := by simp [flats]
    rw [e0, impl_fromCells.l0]
    rw [from_flat t k (flats us ++ r) hw.1 (by omega) (by simp; omega), Option.bind_some]
    show (if (acc.length : Int) < c.n then _ else _) = _
    rw [if_pos (by omega), if_pos (by omega), wrap_nat (by omega)]
    have := from_flats us k c z r (acc ++ [t]) hw.2 (by omega) (by omega) (by simp; omega) (by simp; omega)
    simpa using this
end
theorem tree_flat (t : Tm) (k : Nat) (hw : Wf t) (hl : (flat t).length ≤ 2000) (hk : 6000 < k) : impl_tree.f k (flat t) = some t := by
  rw [impl_tree.f]
  have := from_flat t k [] hw (by omega) (by simpa using hl)
  rw [List.append_nil] at this
  rw [this]; rfl
/-! ### trees to cells -/
mutual
theorem put_flat : ∀ (t : Tm) (k : Nat) (acc : List Cell), Wf t → 4 * (flat t).length < k → acc.length + (flat t).length ≤ 1000000 → impl_node_put_2.f k t acc = some (acc ++ flat t)
  | .mk kd n s us, k, acc, hw, hk, hl => by
    obtain ⟨k, rfl⟩ : ∃ q, k = q + 3 := ⟨k - 3, by simp [flat] at hk; omega⟩
    simp only [flat, List.length_cons] at hk hl
    simp only [Wf] at hw
    obtain ⟨w0, w1, w2, w6⟩ := hw
    have ht := w0.text
    have e0 : impl_node_put_2.f (k + 3) (Tm.mk kd n s us) acc = impl_node_put_2.l0 (k + 2) (Tm.mk kd n s us) acc s := by
      rw [impl_node_put_2.f]
      show (if kd ≥ 2 then (if s.length ≤ 9223372036854775807 then impl_node_put_2.l0 (k + 2) _ acc s else none) else impl_node_put_2.l0 (k + 2) _ acc []) = _
      by_cases h : kd ≥ 2
      · rw [if_pos h, if_pos (Nat.le_trans ht (by decide))]
      · rw [if_neg h]
        rcases w0 with ⟨_, _, _, h1⟩ | ⟨_, _, _, h1⟩ | ⟨h1, _⟩ | ⟨h1, _⟩
        · have : s = [] := h1
          rw [this]
        · have : s = [] := h1
          rw [this]
        · exact absurd (show kd = 2 from h1) (by omega)
        · exact absurd (show kd = 3 from h1) (by omega)
    rw [e0, impl_node_put_2.l0, if_pos (by omega)]
    have := put_flats us [] k (Tm.mk kd n s us) (acc ++ [⟨kd, n, s⟩]) rfl w6 (by omega) (by simp; omega) (by have := flats_len us; simp; omega)
    simp only [List.length_nil] at this
    exact this.trans (by simp [flat])
theorem put_flats : ∀ (us vs : List Tm) (k : Nat) (t : Tm) (acc : List Cell), t.args = vs ++ us → Wfs us → 4 * (flats us).length + 2 < k + 1 → acc.length + (flats us).length ≤ 1000000 → vs.length + us.length ≤ 1000000 →
    impl_node_put_2.l1 (k + 1) t acc (vs.length : Int) = some (acc ++ flats us)
  | [], vs, k, t, acc, ha, hw, hk, hl, hv => by
    rw [impl_node_put_2.l1, ha, if_neg (by simp)]; simp [flats]
  | u :: us, vs, k, t, acc, ha, hw, hk, hl, hv => by
    simp only [Wfs] at hw
    simp only [flats, List.length_append] at hk hl
    have hp := flat_pos u
    simp only [List.length_cons] at hv
    obtain ⟨k, rfl⟩ : ∃ q, k = q + 1 := ⟨k - 1, by omega⟩
    rw [impl_node_put_2.l1, ha, if_pos (by simp; omega), if_pos (by omega)]
    have hg : (vs ++ u :: us).getD ((vs.length : Int)).toNat (Tm.mk 0 0 [] []) = u := by
      rw [Int.toNat_natCast, List.getD_eq_getElem?_getD, List.getElem?_append_right (by omega), Nat.sub_self]; rfl
    rw [hg, impl_node_cut_2.f, put_flat u k acc hw.1 (by omega) (by omega), Option.bind_some, Option.bind_some, wrap_nat (by omega)]
    have := put_flats us (vs ++ [u]) k t (acc ++ flat u) (by rw [ha]; simp) hw.2 (by omega) (by simp; omega) (by simp; omega)
    rw [show ((vs ++ [u]).length : Int) = ((vs.length + 1 : Nat) : Int) by simp] at this
    rw [this]; simp [flats]
end
theorem cells_flat (t : Tm) (k : Nat) (hw : Wf t) (hl : (flat t).length ≤ 100000) (hk : 400000 < k) : impl_node_cells.f k t = some (flat t) := by
  rw [impl_node_cells.f, put_flat t k [] hw (by omega) (by simp; omega)]; simp
/-! ### names and ends -/
def isT (t : Tm) (s : List UInt8) (a : Int) : Bool := decide (t.text = s) && (if a = 0 then decide (t.kind = 2) else (decide (t.kind = 3) && decide (t.n = a)))
theorem l2is_flat (t : Tm) (r : List Cell) (s : List UInt8) (a : Int) : spec_l2is.f (flat t ++ r) s a = some (isT t s a) := by
  obtain ⟨kd, n, s', us⟩ := t
  have e : (flat (Tm.mk kd n s' us) ++ r).getD 0 z65 = ⟨kd, n, s'⟩ := by simp [flat]
  rw [spec_l2is.f, e, if_pos (by simp [flat]; omega)]
  unfold isT
  show (if s' ≠ s then _ else (if a = 0 then some (decide (kd = 2)) else (if kd = 3 then some (decide (n = a)) else some false))) = some (decide (s' = s) && (if a = 0 then decide (kd = 2) else (decide (kd = 3) && decide (n = a))))
  by_cases h : s' = s
  · rw [if_neg (by simpa using h)]
    by_cases h2 : a = 0
    · simp [h, h2]
    · by_cases h3 : kd = 3 <;> simp [h, h2, h3]
  · rw [if_pos h]; simp [h]
theorem nodeis_val (t : Tm) (s : List UInt8) (a : Int) : impl_node_is.f t s a = some (isT t s a) := by
  rw [impl_node_is.f]
  unfold isT
  by_cases h2 : a = 0
  · by_cases h : t.text = s <;> by_cases h3 : t.kind = 2 <;> simp [h, h2, h3]
  · by_cases h : t.text = s <;> by_cases h3 : t.kind = 3 <;> simp [h, h2, h3]
theorem next_flats (xs : List Cell) (hx : xs.length ≤ 2000) : ∀ (m k i e : Nat) (us : List Tm) (r : List Cell), (flats us).length = m → Wfs us → xs.drop i = flats us ++ r → us.length + e ≤ 100000 → e ≤ 50000 →
    spec_l2next.l0 (k + m) xs (i : Int) ((us.length + e : Nat) : Int) = spec_l2next.l0 k xs ((i + m : Nat) : Int) (e : Int) := by
  intro m
  induction m with
  | zero =>
    intro k i e us r h1 hw hd h2 h3
    cases us with
    | nil => simp
    | cons t us => have := flat_pos t; simp only [flats, List.length_append] at h1; omega
  | succ m ih =>
    intro k i e us r h1 hw hd h2 h3
    cases us with
    | nil => simp [flats] at h1
    | cons t us =>
      obtain ⟨kd, n, s, vs⟩ := t
      simp only [Wfs, Wf] at hw
      obtain ⟨⟨w0, w1, w2, w3⟩, w4⟩ := hw
      have hi : i < xs.length := by
        rcases Nat.lt_or_ge i xs.length with h | h
        · exact h
        · rw [List.drop_of_length_le h] at hd; simp [flats, flat] at hd
      have hc : xs[i] = ⟨kd, n, s⟩ := by
        rw [List.drop_eq_getElem_cons hi] at hd
        simp only [flats, flat, List.cons_append] at hd
        exact (List.cons.inj hd).1
      have hd2 : xs.drop (i + 1) = flats (vs ++ us) ++ r := by
        rw [List.drop_eq_getElem_cons hi] at hd
        simp only [flats, flat, List.cons_append] at hd
        rw [(List.cons.inj hd).2, flats_append]
      have hm : (flats (vs ++ us)).length = m := by
        simp only [flats, flat, List.cons_append, List.length_cons] at h1
        rw [flats_append]; omega
      have hv : vs.length ≤ (flats (vs ++ us)).length := by have := flats_len (vs ++ us); simp at this; omega
      have hl : (flats (vs ++ us)).length ≤ 2000 := by
        have := congrArg List.length hd2
        rw [List.length_drop, List.length_append] at this; omega
      have hlen := flats_len (vs ++ us)
      rw [show k + (m + 1) = (k + m) + 1 by omega, spec_l2next.l0, if_pos (by simp; omega), if_pos (by omega), if_pos (by omega), Int.toNat_natCast, getD_at hi, hc, wrap_nat (by omega)]
      have := ih k (i + 1) e (vs ++ us) r hm ((Wfs_append _ _).2 ⟨w3, w4⟩) hd2 (by omega) h3
      rw [show i + (m + 1) = i + 1 + m by omega, ← this]
      simp only [List.length_cons, List.length_append] at hlen h2 ⊢
      by_cases hk : kd = 3
      · have hn := w1 hk
        rw [if_pos hk, wrap_id (n := ((us.length + 1 + e : Nat) : Int) + n) (by omega) (by omega), wrap_id (by omega) (by omega)]
        congr 1
        omega
      · rw [if_neg hk, wrap_id (by omega) (by omega)]
        have : vs = [] := w2 hk
        subst this
        congr 1
        simp; omega
theorem next_one (c : Cell) (t : Tm) (r : List Cell) (k : Nat) (hw : Wf t) (hl : (flat t).length + r.length < 2000) (hk : 2000 < k) : spec_l2next.f k (c :: (flat t ++ r)) 1 = some ((1 + (flat t).length : Nat) : Int) := by
  rw [spec_l2next.f]
  obtain ⟨k, rfl⟩ : ∃ q, k = q + 1 + (flat t).length := ⟨k - 1 - (flat t).length, by omega⟩
  have := next_flats (c :: (flat t ++ r)) (by simp; omega) (flat t).length (k + 1) 1 0 [t] r (by simp [flats]) (by simp [Wfs, hw]) (by simp [flats]) (by simp) (by omega)
  rw [show (([t].length + 0 : Nat) : Int) = 1 from rfl, show ((1 : Nat) : Int) = 1 from rfl] at this
  rw [this, spec_l2next.l0, if_neg (by simp)]
theorem l2copy_val (xs : List Cell) (k : Nat) (hl : xs.length ≤ 1000000) (ht : ∀ c, c ∈ xs → c.text.length ≤ 1000000) (hk : xs.length < k) : spec_l2copy.f k xs = some xs := by
  rw [spec_l2copy.f]
  have key : ∀ (m k i : Nat), xs.length - i = m → i ≤ xs.length → m < k → spec_l2copy.l0 k xs (xs.take i) (i : Int) = some xs := by
    intro m
    induction m with
    | zero =>
      intro k i h1 h2 h3
      obtain ⟨k, rfl⟩ : ∃ q, k = q + 1 := ⟨k - 1, by omega⟩
      rw [spec_l2copy.l0, if_neg (by omega), List.take_of_length_le (by omega)]
    | succ m ih =>
      intro k i h1 h2 h3
      obtain ⟨k, rfl⟩ : ∃ q, k = q + 1 := ⟨k - 1, by omega⟩
      have hi : i < xs.length := by omega
      have hlt := ht _ (List.getElem_mem hi)
      rw [spec_l2copy.l0, if_pos (by omega), if_pos (by omega), Int.toNat_natCast, getD_at hi, spec_l1copy.f, if_pos (by omega), Option.bind_some, if_pos (by rw [List.length_take]; omega), wrap_nat (by omega)]
      have e : xs.take i ++ [(⟨xs[i].kind, xs[i].n, xs[i].text⟩ : Cell)] = xs.take (i + 1) := by rw [List.take_add_one, List.getElem?_eq_getElem hi]; rfl
      rw [e]
      exact ih k (i + 1) (by omega) (by omega) (by omega)
  exact key xs.length k 0 rfl (by omega) hk
/-! ### FnExactListItems -/
theorem items_tree : ∀ (m : Nat) (t : Tm), (flat t).length = m → m ≤ 2000 → Wf t → ∃ (us : List Tm) (e : Tm),
    (∀ (k : Nat) (acc : List (List Cell)), 3000 + m < k → acc.length + m ≤ 100000 → spec_l2items.l0 k (flat t) acc = some (acc ++ us.map flat, flat e)) ∧
    (∀ (k : Nat) (acc : List Tm), m < k → acc.length + m ≤ 100000 → impl_itemsOf.l0 k t acc = some (acc ++ us, e)) ∧ Wfs us ∧ Wf e ∧ (flats us).length ≤ m ∧ (flat e).length ≤ 2000 := by
  intro m
  induction m using Nat.strongRecOn with
  | _ m ih =>
    intro t hm hm2 hw
    by_cases hi : isT t [46] 2 = true
    · obtain ⟨kd, n, s, us⟩ := t
      have h3 : s = [46] ∧ kd = 3 ∧ n = 2 := by
        have hi2 := hi
        unfold isT at hi2
        rw [if_neg (by decide)] at hi2
        simp only [Bool.and_eq_true, decide_eq_true_eq] at hi2
        exact hi2
      obtain ⟨rfl, rfl, rfl⟩ := h3
      simp only [Wf] at hw
      have hl := hw.2.1 (by trivial)
      match us, hl with
      | [a, b], _ =>
        have hw2 : Wf a ∧ Wf b := by have := hw.2.2.2; simpa [Wfs] using this
        have ef : flat (Tm.mk 3 2 [46] [a, b]) = ⟨3, 2, [46]⟩ :: (flat a ++ flat b) := by simp [flat, flats]
        have hp := flat_pos a
        have hq := flat_pos b
        rw [ef, List.length_cons, List.length_append] at hm
        obtain ⟨us, e, f1, f2, f3, f4, f5, f6⟩ := ih (flat b).length (by omega) b rfl (by omega) hw2.2
        refine ⟨a :: us, e, fun k acc hk ha => ?_, fun k acc hk ha => ?_, by simp only [Wfs]; exact ⟨hw2.1, f3⟩, f4, by simp only [flats, List.length_append]; omega, f6⟩
        · obtain ⟨k, rfl⟩ : ∃ q, k = q + 1 := ⟨k - 1, by omega⟩
          have e1 := l2is_flat (Tm.mk 3 2 [46] [a, b]) [] [46] 2
          rw [List.append_nil] at e1
          rw [spec_l2items.l0, e1, hi, Option.bind_some, if_pos rfl, ef, next_one _ a (flat b) k hw2.1 (by omega) (by omega), Option.bind_some, if_pos (by omega), if_pos (by simp; omega), if_pos (by omega), if_pos (by omega)]
          have d1 : ((⟨3, 2, [46]⟩ : Cell) :: (flat a ++ flat b)).drop (((1 + (flat a).length : Nat) : Int)).toNat = flat b := by
            rw [Int.toNat_natCast, Nat.add_comm]; simp
          have d2 : (((⟨3, 2, [46]⟩ : Cell) :: (flat a ++ flat b)).drop (1 : Int).toNat).take ((((1 + (flat a).length : Nat) : Int)).toNat - (1 : Int).toNat) = flat a := by
            rw [drop1, Int.toNat_natCast, show (1 : Int).toNat = 1 from rfl, Nat.add_sub_cancel_left]; simp
          rw [d1, d2, f1 k _ (by omega) (by simp; omega)]
          simp
        · obtain ⟨k, rfl⟩ : ∃ q, k = q + 1 := ⟨k - 1, by omega⟩
          rw [impl_itemsOf.l0, nodeis_val, hi, Option.bind_some, if_pos rfl]
          show (if 0 < (([a, b] : List Tm).length : Int) then (if acc.length + 1 ≤ 17592186044416 then (if 1 < (([a, b] : List Tm).length : Int) then impl_itemsOf.l0 k b (acc ++ [a]) else none) else none) else none) = _
          rw [if_pos (by simp), if_pos (by omega), if_pos (by simp), f2 k _ (by omega) (by simp; omega)]
          simp
    · have hi' : isT t [46] 2 = false := by simpa using hi
      refine ⟨[], t, fun k acc hk ha => ?_, fun k acc hk ha => ?_, by simp [Wfs], hw, by simp [flats], by omega⟩
      · obtain ⟨k, rfl⟩ : ∃ q, k = q + 1 := ⟨k - 1, by omega⟩
        have e1 := l2is_flat t [] [46] 2
        rw [List.append_nil] at e1
        rw [spec_l2items.l0, e1, hi', Option.bind_some, if_neg (by simp)]; simp
      · obtain ⟨k, rfl⟩ : ∃ q, k = q + 1 := ⟨k - 1, by omega⟩
        rw [impl_itemsOf.l0, nodeis_val, hi', Option.bind_some, if_neg (by simp)]; simp
theorem wss_flat : ∀ us : List Tm, Wfs us → wCellss (us.map flat) ≤ 102 * (flats us).length
  | [], _ => by simp [wCellss, wts, flats]
  | t :: us, hw => by
    simp only [Wfs] at hw
    have h1 := wss_flat us hw.2
    have h2 := wCells_ok (flat_ok t hw.1)
    have := flat_pos t
    simp only [List.map_cons, wCellss, wts_cons, List.length_cons, flats, List.length_append] at h1 ⊢
    omega
theorem spec_items_loop (us : List Tm) (e : List Cell) (hw : Wfs us) (hl : (flats us).length ≤ 2000) : ∀ (m k i : Nat), us.length - i = m → i ≤ us.length → m + 10000 < k → spec_ListItems.l0 k (us.map flat, e) ((us.take i).map flat) (i : Int) = some (us.map flat, 0) := by
  have hul := flats_len us
  intro m
  induction m with
  | zero =>
    intro k i h1 h2 h3
    obtain ⟨k, rfl⟩ : ∃ q, k = q + 1 := ⟨k - 1, by omega⟩
    rw [spec_ListItems.l0, if_neg (by simp; omega), List.take_of_length_le (by omega)]
  | succ m ih =>
    intro k i h1 h2 h3
    obtain ⟨k, rfl⟩ : ∃ q, k = q + 1 := ⟨k - 1, by omega⟩
    have hi : i < us.length := by omega
    have hg : (us.map flat).getD ((i : Int)).toNat ([] : List Cell) = flat us[i] := by
      rw [Int.toNat_natCast, getD_at (by simpa using hi), List.getElem_map]
    have hwi : Wf us[i] := by
      have := List.take_append_drop i us
      rw [← this, Wfs_append, List.drop_eq_getElem_cons hi] at hw
      have := hw.2
      simp only [Wfs] at this
      exact this.1
    have hli : (flat us[i]).length ≤ 2000 := by
      have := List.take_append_drop i us
      rw [← this, flats_append, List.drop_eq_getElem_cons hi] at hl
      simp only [flats, List.length_append] at hl
      omega
    rw [spec_ListItems.l0, if_pos (by simp; omega), if_pos (by omega), hg, l2copy_val _ _ (by omega) (fun c hc => Nat.le_trans (flat_ok _ hwi c hc).text (by decide)) (by omega), Option.bind_some, if_pos (by simp; omega), wrap_nat (by omega)]
    have e1 : (us.take i).map flat ++ [flat us[i]] = (us.take (i + 1)).map flat := by rw [List.take_add_one, List.getElem?_eq_getElem hi, List.map_append]; rfl
    rw [e1]
    exact ih k (i + 1) (by omega) (by omega) (by omega)
theorem impl_items_loop (us : List Tm) (e : Tm) (hw : Wfs us) (hl : (flats us).length ≤ 2000) : ∀ (m k i : Nat), us.length - i = m → i ≤ us.length → m + 500000 < k → impl_ListItems.l0 k (us, e) ((us.take i).map flat) (i : Int) = some (us.map flat, 0) := by
  have hul := flats_len us
  intro m
  induction m with
  | zero =>
    intro k i h1 h2 h3
    obtain ⟨k, rfl⟩ : ∃ q, k = q + 1 := ⟨k - 1, by omega⟩
    rw [impl_ListItems.l0, if_neg (by simp; omega), List.take_of_length_le (by omega)]
  | succ m ih =>
    intro k i h1 h2 h3
    obtain ⟨k, rfl⟩ : ∃ q, k = q + 1 := ⟨k - 1, by omega⟩
    have hi : i < us.length := by omega
    have hwi : Wf us[i] := by
      have := List.take_append_drop i us
      rw [← this, Wfs_append, List.drop_eq_getElem_cons hi] at hw
      have := hw.2
      simp only [Wfs] at this
      exact this.1
    have hli : (flat us[i]).length ≤ 2000 := by
      have := List.take_append_drop i us
      rw [← this, flats_append, List.drop_eq_getElem_cons hi] at hl
      simp only [flats, List.length_append] at hl
      omega
    rw [impl_ListItems.l0, if_pos (by simp; omega), if_pos (by omega), Int.toNat_natCast, getD_at hi, cells_flat _ _ hwi (by omega) (by omega), Option.bind_some, if_pos (by simp; omega), wrap_nat (by omega)]
    have e1 : (us.take i).map flat ++ [flat us[i]] = (us.take (i + 1)).map flat := by rw [List.take_add_one, List.getElem?_eq_getElem hi, List.map_append]; rfl
    rw [e1]
    exact ih k (i + 1) (by omega) (by omega) (by omega)
theorem items_eq (xs : List Cell) (k : Nat) (hl : xs.length ≤ 1048576) (hk : 2000000 < k) : ∃ r : List (List Cell) × Int, impl_ListItems.f k xs = some r ∧ spec_ListItems.f k xs = some r ∧ wCellss r.1 ≤ 1048576 := by
  obtain ⟨a1, b, a2⟩ := valid_eq xs k (by omega) (by omega)
  rw [impl_ListItems.f, spec_ListItems.f, a1, a2, Option.bind_some, Option.bind_some]
  cases b with
  | false => exact ⟨([], 1), rfl, rfl, by simp [wCellss, wts]⟩
  | true =>
    obtain ⟨hl1, t, rfl, hw⟩ := valid_tree xs k a2
    obtain ⟨us, e, f1, f2, f3, f4, f5, f6⟩ := items_tree _ t rfl hl1 hw
    have e1 := l2is_flat e [] [91, 93] 0
    rw [List.append_nil] at e1
    rw [if_neg (by simp), if_neg (by simp), tree_flat t k hw hl1 (by omega), Option.bind_some, impl_itemsOf.f, spec_l2items.f, f1 k [] (by omega) (by simp; omega), f2 k [] (by omega) (by simp; omega), Option.bind_some, Option.bind_some]
    simp only [List.nil_append]
    rw [nodeis_val, e1, Option.bind_some, Option.bind_some]
    cases isT e [91, 93] 0 with
    | false => exact ⟨([], 4), by simp, by simp, by simp [wCellss, wts]⟩
    | true =>
      rw [if_neg (by simp), if_neg (by simp)]
      have g1 := impl_items_loop us e f3 (by omega) us.length k 0 rfl (by omega) (by have := flats_len us; omega)
      have g2 := spec_items_loop us (flat e) f3 (by omega) us.length k 0 rfl (by omega) (by have := flats_len us; omega)
      refine ⟨(us.map flat, 0), by simpa using g1, by simpa using g2, ?_⟩
      have := wss_flat us f3
      show wCellss (us.map flat) ≤ _
      omega
theorem listItems_true (xs : List Cell) (hl : xs.length ≤ 9223372036854775807) (ht : ∀ c, c ∈ xs → c.text.length ≤ 9223372036854775807) : laws_FnExactListItems.f 4000000 xs = some true := by
  rw [laws_FnExactListItems.f, szCellS_val xs _ _ (by omega) (by omega) hl ht (by omega), Option.bind_some]
  by_cases h : left 1048576 (wCells xs) < 0
  · rw [if_pos h]
  have hq := left_le h
  have hw : wCells xs ≤ 1048576 := by omega
  have hl2 := wCells_len hw
  obtain ⟨r, e1, e2, e3⟩ := items_eq xs 4000000 hl2 (by omega)
  have hws : wts (fun x : Cell => 2 + x.text.length) xs ≤ 2 * wCells xs := by
    clear hw hq h hl2 e1 e2 e3 ht hl
    induction xs with
    | nil => simp [wts]
    | cons x xs ih => unfold wCells at *; rw [wts_cons, wts_cons, List.length_cons]; omega
  obtain ⟨ys, m1, m2, m3⟩ := markCellS_val xs 4000000 1 hw (by omega) (by omega) (by omega)
  obtain ⟨m, zs, n1, n2, n3, n4⟩ := markCellSS_val r.1 4000000 1 e3 (by omega) (by omega) (by omega)
  obtain ⟨o1, o2⟩ := heldCellSS_val zs 4000000 1 m (by rw [n2]; exact wCellss_len e3) (by omega) (by omega) n3
  rw [if_neg h, toCellS_id xs _ hw (by omega)]
  simp only [Option.bind_some, e1, e2, eqCellSS_id r.1 4000000 e3 (by omega), eqCellS_id xs 4000000 hw (by omega), m1, n1, o1]
  rw [if_neg (by simp), if_neg (by simp), if_neg (by simp), if_neg (by omega), if_neg (by simp), if_neg (by omega), if_neg (by simp), if_neg (by simp), if_neg (by simp), if_neg (by omega), if_neg (by simp)]
end Go.Proofs.Ytognefkopbbdnaa
