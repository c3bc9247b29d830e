import Derived.Test.YtognefkopbbdnaaWkMl2
import Derived.Test.YtognefkopbbdnaaZ2
namespace Go.Proofs.Ytognefkopbbdnaa
open Go.Sx Go.Sy
set_option linter.unusedVariables false
set_option linter.unusedSimpArgs false
set_option linter.unusedSectionVars false
set_option maxRecDepth 4000
/-! ### sizes, copies, equality: cells -/
theorem left_m1 {b : Int} {n : Nat} (h : left b n < 0) : left b n = -1 := by unfold left at *; split <;> (split at h <;> first | rfl | omega)
theorem szByteS_val (xs : List UInt8) (b : Int) (h0 : 0 ≤ b) (h1 : b ≤ 1048576) (hl : xs.length ≤ 9223372036854775807) : laws_szByteS.f xs b = some (left b xs.length) := by
  rw [laws_szByteS.f]; exact sz0 h0 h1 hl
theorem szCell_val (x : Cell) (b : Int) (h0 : 0 ≤ b) (h1 : b ≤ 1048576) (hl : x.text.length ≤ 9223372036854775807) : laws_szCell.f x b = some (left b x.text.length) := by
  rw [laws_szCell.f, szByteS_val _ _ h0 h1 hl, Option.bind_some]
  split
  · rename_i h; rw [left_m1 h]
  · rfl
theorem szCellS_val (xs : List Cell) (k : Nat) (b : Int) (h0 : 0 ≤ b) (h1 : b ≤ 1048576) (hl : xs.length ≤ 9223372036854775807) (ht : ∀ c, c ∈ xs → c.text.length ≤ 9223372036854775807) (hk : 1048577 < k) :
    laws_szCellS.f k xs b = some (left b (wCells xs)) := by
  rw [laws_szCellS.f]
  refine szT h0 h1 hl fun h => ?_
  have hq := left_le h
  rw [left_wrap h0 h1 hl h]
  exact szL (B := 0) (z := z68) (fun x => x.text.length) (fun k b i => laws_szCellS.l0 k xs b i) (fun _ => laws_szCell.f) (fun _ _ _ => rfl) (by omega) (fun x hx _ _ b q0 q1 => szCell_val x b q0 q1 (ht x hx)) k (by omega) _ (by omega) (by omega)
theorem toByteS_id (xs : List UInt8) (k : Nat) (hl : xs.length ≤ 1048576) (hk : xs.length < k) : laws_toByteS.f k xs = some xs := by
  rw [laws_toByteS.f, if_pos (by omega), if_pos (by omega)]
  exact toF (z := 0) (fun k i ys => laws_toByteS.l0 k xs i ys) (fun _ _ _ => rfl) (by omega) k hk _ (by simp)
theorem toCell_id (x : Cell) (k : Nat) (hl : x.text.length ≤ 1048576) (hk : 1048577 ≤ k) : laws_toCell.f k x = some x := by
  rw [laws_toCell.f, toByteS_id _ k hl (by omega)]; rfl
theorem wCells_len {xs : List Cell} {n : Nat} (hl : wCells xs ≤ n) : xs.length ≤ n := Nat.le_trans (Nat.le_add_right _ _) hl
theorem wCells_mem {xs : List Cell} {n : Nat} (hl : wCells xs ≤ n) {x : Cell} (hx : x ∈ xs) : x.text.length ≤ n := Nat.le_trans (Nat.le_trans (wts_mem (fun x : Cell => x.text.length) hx) (Nat.le_add_left _ _)) hl
theorem toCellS_id (xs : List Cell) (k : Nat) (hl : wCells xs ≤ 1048576) (hk : 2097154 < k) : laws_toCellS.f k xs = some xs := by
  have hl2 := wCells_len hl
  rw [laws_toCellS.f, if_pos (by omega), if_pos (by omega)]
  exact toL (z := z68) (B := 1048577) (fun k i ys => laws_toCellS.l0 k xs i ys) laws_toCell.f (fun _ _ _ => rfl) (by omega) (fun x hx k hk => toCell_id x k (wCells_mem hl hx) hk) k (by omega) _ (by simp)
theorem eqByteS_id (xs : List UInt8) (k : Nat) (hl : xs.length ≤ 1048576) (hk : xs.length < k) : laws_eqByteS.f k xs xs = some true := by
  rw [laws_eqByteS.f, if_neg (by simp)]
  exact eqF (z := 0) (fun k i => laws_eqByteS.l0 k xs xs i) (fun _ _ => rfl) (by omega) k hk
theorem eqCell_id (x : Cell) (k : Nat) (hl : x.text.length ≤ 1048576) (hk : 1048577 ≤ k) : laws_eqCell.f k x x = some true := by
  rw [laws_eqCell.f, if_neg (by simp), if_neg (by simp), eqByteS_id _ k hl (by omega), Option.bind_some, if_neg (by simp)]
theorem eqCellS_id (xs : List Cell) (k : Nat) (hl : wCells xs ≤ 1048576) (hk : 2097154 < k) : laws_eqCellS.f k xs xs = some true := by
  have hl2 := wCells_len hl
  rw [laws_eqCellS.f, if_neg (by simp)]
  exact eqL (z := z65) (z' := z65) (B := 1048577) (fun k i => laws_eqCellS.l0 k xs xs i) laws_eqCell.f (fun _ _ => rfl) (by omega) (fun x hx k hk => eqCell_id x k (wCells_mem hl hx) hk) k (by omega)
theorem wCellss_len {xs : List (List Cell)} {n : Nat} (hl : wCellss xs ≤ n) : xs.length ≤ n := Nat.le_trans (Nat.le_add_right _ _) hl
theorem wCellss_mem {xs : List (List Cell)} {n : Nat} (hl : wCellss xs ≤ n) {x : List Cell} (hx : x ∈ xs) : wCells x ≤ n := Nat.le_trans (Nat.le_trans (wts_mem wCells hx) (Nat.le_add_left _ _)) hl
theorem eqCellSS_id (xs : List (List Cell)) (k : Nat) (hl : wCellss xs ≤ 1048576) (hk : 3145731 < k) : laws_eqCellSS.f k xs xs = some true := by
  have hl2 := wCellss_len hl
  rw [laws_eqCellSS.f, if_neg (by simp)]
  exact eqL (z := ([] : List Cell)) (z' := ([] : List Cell)) (B := 2097155) (fun k i => laws_eqCellSS.l0 k xs xs i) laws_eqCellS.f (fun _ _ => rfl) (by omega) (fun x hx k hk => eqCellS_id x k (wCellss_mem hl hx) (by omega)) k (by omega)
theorem szCellSS_val (xs : List (List Cell)) (k : Nat) (b : Int) (h0 : 0 ≤ b) (h1 : b ≤ 1048576) (hl : xs.length ≤ 9223372036854775807) (ht : ∀ x, x ∈ xs → x.length ≤ 9223372036854775807 ∧ ∀ c, c ∈ x → c.text.length ≤ 9223372036854775807) (hk : 2097156 < k) :
    laws_szCellSS.f k xs b = some (left b (wCellss xs)) := by
  rw [laws_szCellSS.f]
  refine szT h0 h1 hl fun h => ?_
  have hq := left_le h
  rw [left_wrap h0 h1 hl h]
  exact szL (B := 1048578) (z := ([] : List Cell)) wCells (fun k b i => laws_szCellSS.l0 k xs b i) laws_szCellS.f (fun _ _ _ => rfl) (by omega) (fun x hx k hk b q0 q1 => szCellS_val x k b q0 q1 (ht x hx).1 (ht x hx).2 (by omega)) k (by omega) _ (by omega) (by omega)
theorem toCellSS_id (xs : List (List Cell)) (k : Nat) (hl : wCellss xs ≤ 1048576) (hk : 3145731 < k) : laws_toCellSS.f k xs = some xs := by
  have hl2 := wCellss_len hl
  rw [laws_toCellSS.f, if_pos (by omega), if_pos (by omega)]
  exact toL (z := ([] : List Cell)) (B := 2097155) (fun k i ys => laws_toCellSS.l0 k xs i ys) laws_toCellS.f (fun _ _ _ => rfl) (by omega) (fun x hx k hk => toCellS_id x k (wCellss_mem hl hx) (by omega)) k (by omega) _ (by simp)
/-! ### marks -/
def PB (n m : Int) (x : UInt8) : Prop := m = n + 1 ∧ x = b8 n
theorem markByteS_val (xs : List UInt8) (k : Nat) (n : Int) (hl : xs.length ≤ 1048576) (hk : 1048577 < k) (h0 : 0 ≤ n) (hn : n ≤ 8000000000000000000) :
    ∃ ys, laws_markByteS_2.f k xs n = some (n + (xs.length : Int), ys) ∧ ys.length = xs.length ∧ HL PB n (n + (xs.length : Int)) ys := by
  rw [laws_markByteS_2.f]
  have e : wts (fun _ : UInt8 => 1) xs = xs.length := by
    induction xs with
    | nil => rfl
    | cons x xs ih => rw [wts_cons, ih (by simp at hl; omega), List.length_cons]; omega
  have := markL (U := 9000000000000000000) (P := PB) (B := 0) (z := (0 : UInt8)) (w := fun _ => 1) (xs := xs) (fun k n i ys => laws_markByteS_2.l0 k xs n i ys) (fun _ _ n => if n + 1 ≤ 9000000000000000000 ∧ 0 ≤ n then some (n + 1, b8 n) else some (IntKind.i64.wrap (n + 1), b8 n))
    (fun k n i ys hi hy => by
      show laws_markByteS_2.l0 (k + 1) xs n i ys = _
      rw [laws_markByteS_2.l0, if_pos (by omega), if_pos (by omega), Int.toNat_natCast]
      by_cases hh : n + 1 ≤ 9000000000000000000 ∧ 0 ≤ n
      · rw [if_pos hh, Option.bind_some, wrap_id (n := n + 1) (by omega) (by omega)]
      · rw [if_neg hh, Option.bind_some])
    (fun k n ys => by
      show laws_markByteS_2.l0 (k + 1) xs n xs.length ys = _
      rw [laws_markByteS_2.l0, if_neg (by omega)])
    (by omega) (fun x _ k _ n q0 q1 => ⟨b8 n, by rw [if_pos ⟨q1, q0⟩]; rfl, rfl, rfl⟩) k (by omega) n h0 (by rw [e]; omega)
  rw [e] at this
  exact this
theorem heldByteS_val (xs : List UInt8) (k : Nat) (n m : Int) (hl : xs.length ≤ 1048576) (hk : 1048577 < k) (h0 : 0 ≤ n) (hm : m ≤ 9000000000000000000) (h : HL PB n m xs) : laws_heldByteS.f k xs n = some m ∧ n ≤ m := by
  rw [laws_heldByteS.f]
  have key : ∀ (q k i : Nat) (n : Int), xs.length - i = q → i ≤ xs.length → q < k → 0 ≤ n → HL PB n m (xs.drop i) → laws_heldByteS.l0 k xs n (i : Int) = some m ∧ n ≤ m := by
    intro q
    induction q with
    | zero =>
      intro k i n h1 h2 h3 h4 h5
      obtain ⟨k, rfl⟩ : ∃ q, k = q + 1 := ⟨k - 1, by omega⟩
      rw [List.drop_of_length_le (by omega)] at h5
      cases h5
      rw [laws_heldByteS.l0, if_neg (by omega)]
      exact ⟨rfl, Int.le_refl _⟩
    | succ q ih =>
      intro k i n h1 h2 h3 h4 h5
      obtain ⟨k, rfl⟩ : ∃ q, k = q + 1 := ⟨k - 1, by omega⟩
      have hi : i < xs.length := by omega
      rw [List.drop_eq_getElem_cons hi] at h5
      cases h5 with
      | cons p hr =>
        obtain ⟨rfl, p2⟩ := p
        have hle : n + 1 ≤ m := hr.le (fun _ _ _ h => by have := h.1; omega)
        rw [laws_heldByteS.l0, if_pos (by omega), if_pos (by omega), Int.toNat_natCast, getD_at hi, p2, if_neg (by simp), wrap_nat (by omega), wrap_id (n := n + 1) (by omega) (by omega)]
        obtain ⟨f1, f2⟩ := ih k (i + 1) (n + 1) (by omega) (by omega) (by omega) (by omega) hr
        exact ⟨f1, by omega⟩
  exact key xs.length k 0 n rfl (by omega) (by omega) h0 h
def PC (n m : Int) (c : Cell) : Prop := c.kind = n ∧ c.n = n + 1 ∧ HL PB (n + 2) m c.text ∧ c.text.length ≤ 1048576 ∧ m ≤ 9000000000000000000
theorem getD_set_self {α : Type} {ys : List α} {i : Nat} {x z : α} (h : i < ys.length) : (ys.set i x).getD i z = x := by
  rw [List.getD_eq_getElem?_getD, List.getElem?_set_self h]; rfl
theorem markCellS_val (xs : List Cell) (k : Nat) (n : Int) (hl : wCells xs ≤ 1048576) (hk : 2097155 < k) (h0 : 0 ≤ n) (hn : n + (wts (fun x : Cell => 2 + x.text.length) xs : Int) ≤ 8000000000000000000) :
    ∃ ys, laws_markCellS_2.f k xs n = some (n + (wts (fun x : Cell => 2 + x.text.length) xs : Int), ys) ∧ ys.length = xs.length ∧ HL PC n (n + (wts (fun x : Cell => 2 + x.text.length) xs : Int)) ys := by
  have hl2 := wCells_len hl
  rw [laws_markCellS_2.f]
  refine markL (U := 8000000000000000000) (P := PC) (B := 1048578) (z := z65) (w := fun x => 2 + x.text.length) (xs := xs) (fun k n i ys => laws_markCellS_2.l0 k xs n i ys)
    (fun k c n => (laws_markByteS_2.f k c.text (IntKind.i64.wrap (IntKind.i64.wrap (n + 1) + 1))).bind fun t => some (t.1, ⟨n, IntKind.i64.wrap (n + 1), t.2⟩)) ?_ ?_ (by omega) ?_ k (by omega) n h0 (by omega)
  · intro k n i ys hi hy
    show laws_markCellS_2.l0 (k + 1) xs n i ys = _
    rw [laws_markCellS_2.l0, if_pos (by omega), if_pos (by omega), Int.toNat_natCast]
    have e1 : i < (ys.set i { ys.getD i z65 with kind := n }).length := by rw [List.length_set]; exact hi
    simp only [getD_set_self hi, List.set_set, getD_set_self e1]
    cases laws_markByteS_2.f k (ys.getD i z65).text (IntKind.i64.wrap (IntKind.i64.wrap (n + 1) + 1)) <;> rfl
  · intro k n ys
    show laws_markCellS_2.l0 (k + 1) xs n xs.length ys = _
    rw [laws_markCellS_2.l0, if_neg (by omega)]
  · intro x hx k hk n q0 q1
    rw [wrap_id (n := n + 1) (by omega) (by omega), wrap_id (n := n + 1 + 1) (by omega) (by omega)]
    obtain ⟨ys, e1, e2, e3⟩ := markByteS_val x.text k (n + 1 + 1) (wCells_mem hl hx) (by omega) (by omega) (by omega)
    rw [e1, Option.bind_some]
    have e : n + 1 + 1 + (x.text.length : Int) = n + ((2 + x.text.length : Nat) : Int) := by omega
    refine ⟨⟨n, n + 1, ys⟩, by rw [e], rfl, rfl, ?_, by rw [e2]; exact wCells_mem hl hx, by omega⟩
    rw [← e]
    exact (show n + 2 = n + 1 + 1 by omega) ▸ e3
theorem heldCellS_val (xs : List Cell) (k : Nat) (n m : Int) (hl : xs.length ≤ 1048576) (hk : 2097155 < k) (h0 : 0 ≤ n) (h : HL PC n m xs) : laws_heldCellS.f k xs n = some m ∧ n ≤ m := by
  rw [laws_heldCellS.f]
  refine heldL (P := PC) (B := 1048578) (z := z65) (fun k n i => laws_heldCellS.l0 k xs n i) (fun k c n => if c.kind ≠ n then some (-1) else if c.n ≠ IntKind.i64.wrap (n + 1) then some (-1) else laws_heldByteS.f k c.text (IntKind.i64.wrap (IntKind.i64.wrap (n + 1) + 1))) ?_ (by omega) ?_ k (by omega) n h0 h
  · intro k n i
    show laws_heldCellS.l0 (k + 1) xs n i = _
    rw [laws_heldCellS.l0]
    split
    · split
      · generalize xs.getD i.toNat z65 = c
        by_cases h1 : c.kind ≠ n
        · rw [if_pos h1, if_pos h1, Option.bind_some, if_pos (by omega)]
        · rw [if_neg h1, if_neg h1]
          by_cases h2 : c.n ≠ IntKind.i64.wrap (n + 1)
          · rw [if_pos h2, if_pos h2, Option.bind_some, if_pos (by omega)]
          · rw [if_neg h2, if_neg h2]
      · rfl
    · rfl
  · intro n m c _ p h0 k hk
    obtain ⟨p1, p2, p3, p4, p5⟩ := p
    have hle := p3.le (fun _ _ _ h => by have := h.1; omega)
    rw [wrap_id (n := n + 1) (by omega) (by omega), wrap_id (n := n + 1 + 1) (by omega) (by omega), if_neg (by omega), if_neg (by omega)]
    obtain ⟨f1, f2⟩ := heldByteS_val c.text k (n + 1 + 1) m p4 (by omega) (by omega) p5 ((show n + 2 = n + 1 + 1 by omega) ▸ p3)
    exact ⟨f1, by omega⟩
def PCs (n m : Int) (c : List Cell) : Prop := HL PC n m c ∧ c.length ≤ 1048576
theorem markCellSS_val (xs : List (List Cell)) (k : Nat) (n : Int) (hl : wCellss xs ≤ 1048576) (hk : 3145735 < k) (h0 : 0 ≤ n) (hn : n ≤ 1000000) :
    ∃ m ys, laws_markCellSS_2.f k xs n = some (m, ys) ∧ ys.length = xs.length ∧ HL PCs n m ys ∧ n ≤ m := by
  have hl2 := wCellss_len hl
  have hw1 : ∀ x : List Cell, wts (fun x : Cell => 2 + x.text.length) x ≤ 2 * wCells x := fun xs => by
    induction xs with
    | nil => simp [wts]
    | cons x xs ih => unfold wCells at *; rw [wts_cons, wts_cons, List.length_cons]; omega
  have hw : wts (fun x => wts (fun x : Cell => 2 + x.text.length) x) xs ≤ 2 * wts wCells xs := by
    clear hl hl2
    induction xs with
    | nil => simp [wts]
    | cons x xs ih => rw [wts_cons, wts_cons]; have := hw1 x; omega
  have hl3 : wts wCells xs ≤ 1048576 := Nat.le_trans (Nat.le_add_left _ _) hl
  obtain ⟨ys, e1, e2, e3⟩ := markL (U := 7000000000000000000) (P := PCs) (B := 2097156) (z := ([] : List Cell)) (w := fun x => wts (fun x : Cell => 2 + x.text.length) x) (xs := xs) (fun k n i ys => laws_markCellSS_2.l0 k xs n i ys)
    (fun k c n => laws_markCellS_2.f k c n)
    (fun k n i ys hi hy => by
      show laws_markCellSS_2.l0 (k + 1) xs n i ys = _
      rw [laws_markCellSS_2.l0, if_pos (by omega), if_pos (by omega), Int.toNat_natCast])
    (fun k n ys => by
      show laws_markCellSS_2.l0 (k + 1) xs n xs.length ys = _
      rw [laws_markCellSS_2.l0, if_neg (by omega)]) (by omega)
    (fun x hx k hk n q0 q1 => by
      have hx1 := wCellss_mem hl hx
      obtain ⟨ys, e1, e2, e3⟩ := markCellS_val x k n hx1 (by omega) q0 (by omega)
      exact ⟨ys, e1, e3, by rw [e2]; exact wCells_len hx1⟩) k (by omega) n h0 (by omega)
  exact ⟨_, ys, e1, e2, e3, by omega⟩
/-! ### terms that are valid -/
instance (c : Cell) : Decidable (Okc c) := by unfold Okc; infer_instance
theorem l2cell_val (c : Cell) : spec_l2cell.f c = some (decide (Okc c)) := by
  have e : ∀ l : List UInt8, (l.length : Int) = 0 ↔ l = [] := fun l => ⟨fun hl => List.eq_nil_of_length_eq_zero (by omega), fun h => by rw [h]; rfl⟩
  unfold spec_l2cell.f
  simp only [e]
  repeat' split
  all_goals refine congrArg some ?_
  all_goals first
    | (rw [eq_comm, decide_eq_false_iff_not]; unfold Okc; omega)
    | (rw [eq_comm, decide_eq_true_iff]; unfold Okc; omega)
    | (refine decide_eq_decide.2 ?_; unfold Okc; omega)
    | (refine decide_eq_decide.2 ?_; unfold Okc; simp only [*]; simp; try omega)
    | (rw [eq_comm, decide_eq_false_iff_not]; unfold Okc; simp only [*]; simp; try omega)
theorem cellOk_val (c : Cell) : impl_cellOk.f c = some (decide (Okc c)) := by
  have e : ∀ l : List UInt8, (l.length : Int) = 0 ↔ l = [] := fun l => ⟨fun hl => List.eq_nil_of_length_eq_zero (by omega), fun h => by rw [h]; rfl⟩
  unfold impl_cellOk.f
  simp only [e]
  repeat' split
  all_goals refine congrArg some ?_
  all_goals first
    | (rw [eq_comm, decide_eq_false_iff_not]; unfold Okc; omega)
    | (rw [eq_comm, decide_eq_true_iff]; unfold Okc; omega)
    | (refine decide_eq_decide.2 ?_; unfold Okc; omega)
    | (refine decide_eq_decide.2 ?_; unfold Okc; simp only [*]; simp; try omega)
    | (rw [eq_comm, decide_eq_false_iff_not]; unfold Okc; simp only [*]; simp; try omega)
theorem valid_l0 (xs : List Cell) (hl : xs.length < 9223372036854775807) : ∀ (m k i : Nat) (n : Int), xs.length - i = m → i ≤ xs.length → m < k → impl_ValidTerm.l0 k xs n (i : Int) = spec_ValidTerm.l0 k xs n (i : Int) ∧ ∃ b, spec_ValidTerm.l0 k xs n (i : Int) = some b := by
  intro m
  induction m with
  | zero =>
    intro k i n h1 h2 h3
    obtain ⟨k, rfl⟩ : ∃ q, k = q + 1 := ⟨k - 1, by omega⟩
    rw [impl_ValidTerm.l0, spec_ValidTerm.l0, if_neg (by omega), if_neg (by omega)]
    exact ⟨rfl, _, rfl⟩
  | succ m ih =>
    intro k i n h1 h2 h3
    obtain ⟨k, rfl⟩ : ∃ q, k = q + 1 := ⟨k - 1, by omega⟩
    rw [impl_ValidTerm.l0, spec_ValidTerm.l0, if_pos (show (i : Int) < (xs.length : Int) by omega), if_pos (show (0 : Int) ≤ (i : Int) by omega), if_pos (show (i : Int) < (xs.length : Int) by omega), wrap_nat (by omega)]
    by_cases hn : n = 0
    · rw [if_pos hn, if_pos hn]; exact ⟨rfl, _, rfl⟩
    · rw [if_neg hn, if_neg hn, if_pos (show (0 : Int) ≤ (i : Int) by omega), l2cell_val, cellOk_val, Option.bind_some, Option.bind_some]
      split
      · exact ⟨rfl, _, rfl⟩
      · split
        · exact ih k (i + 1) _ (by omega) (by omega) (by omega)
        · exact ih k (i + 1) _ (by omega) (by omega) (by omega)
theorem valid_eq (xs : List Cell) (k : Nat) (hl : xs.length < 9223372036854775807) (hk : xs.length < k) : impl_ValidTerm.f k xs = spec_ValidTerm.f k xs ∧ ∃ b, spec_ValidTerm.f k xs = some b := by
  rw [impl_ValidTerm.f, spec_ValidTerm.f]
  split
  · exact ⟨rfl, _, rfl⟩
  · exact valid_l0 xs hl xs.length k 0 1 rfl (by omega) hk
theorem valid_trees (xs : List Cell) (hl : xs.length ≤ 2000) : ∀ (m k i n : Nat), xs.length - i = m → i ≤ xs.length → n ≤ 1 + 20 * i → spec_ValidTerm.l0 k xs (n : Int) (i : Int) = some true →
    ∃ ts, ts.length = n ∧ flats ts = xs.drop i ∧ Wfs ts := by
  intro m
  induction m with
  | zero =>
    intro k i n h1 h2 h3 h
    obtain ⟨k, rfl⟩ : ∃ q, k = q + 1 := by
      cases k with
      | zero => rw [spec_ValidTerm.l0] at h; cases h
      | succ q => exact ⟨q, rfl⟩
    rw [spec_ValidTerm.l0, if_neg (by omega)] at h
    have h0 : n = 0 := by simpa using h
    exact ⟨[], by simp [h0], by rw [List.drop_of_length_le (by omega)]; simp [flats], by simp [Wfs]⟩
  | succ m ih =>
    intro k i n h1 h2 h3 h
    obtain ⟨k, rfl⟩ : ∃ q, k = q + 1 := by
      cases k with
      | zero => rw [spec_ValidTerm.l0] at h; cases h
      | succ q => exact ⟨q, rfl⟩
    have hi : i < xs.length := by omega
    rw [spec_ValidTerm.l0, if_pos (by omega), Int.toNat_natCast, getD_at hi, wrap_nat (by omega), l2cell_val] at h
    by_cases hn : (n : Int) = 0
    · rw [if_pos hn] at h; simp at h
    rw [if_neg hn, if_pos (by omega), Option.bind_some] at h
    by_cases hb : Okc xs[i]
    · rw [if_neg (by simpa using hb), wrap_id (n := (n : Int) - 1) (by omega) (by omega)] at h
      by_cases hk : xs[i].kind = 3
      · obtain ⟨p1, p2⟩ := hb.n3 hk
        rw [if_pos hk, wrap_id (n := (n : Int) - 1 + xs[i].n) (by omega) (by omega), show (n : Int) - 1 + xs[i].n = ((n - 1 + xs[i].n.toNat : Nat) : Int) by omega] at h
        obtain ⟨ts, e1, e2, e3⟩ := ih k (i + 1) (n - 1 + xs[i].n.toNat) (by omega) (by omega) (by omega) h
        refine ⟨Tm.mk xs[i].kind xs[i].n xs[i].text (ts.take xs[i].n.toNat) :: ts.drop xs[i].n.toNat, by simp; omega, ?_, ?_⟩
        · rw [List.drop_eq_getElem_cons hi, ← e2]
          conv => rhs; rw [← List.take_append_drop xs[i].n.toNat ts]
          rw [flats_append]
          simp [flats, flat]
        · rw [← List.take_append_drop xs[i].n.toNat ts, Wfs_append] at e3
          simp only [Wfs, Wf]
          exact ⟨⟨hb, fun _ => by rw [List.length_take]; omega, fun h => absurd hk h, e3.1⟩, e3.2⟩
      · rw [if_neg hk, show (n : Int) - 1 = ((n - 1 : Nat) : Int) by omega] at h
        obtain ⟨ts, e1, e2, e3⟩ := ih k (i + 1) (n - 1) (by omega) (by omega) (by omega) h
        refine ⟨Tm.mk xs[i].kind xs[i].n xs[i].text [] :: ts, by simp; omega, ?_, ?_⟩
        · rw [List.drop_eq_getElem_cons hi, ← e2]; simp [flats, flat]
        · simp only [Wfs, Wf]
          exact ⟨⟨hb, fun h => absurd h hk, fun _ => trivial, trivial⟩, e3⟩
    · rw [if_pos (by simpa using hb)] at h; simp at h
theorem valid_tree (xs : List Cell) (k : Nat) (h : spec_ValidTerm.f k xs = some true) : xs.length ≤ 2000 ∧ ∃ t, flat t = xs ∧ Wf t := by
  rw [spec_ValidTerm.f] at h
  split at h
  · simp at h
  · rename_i hl
    have hl' : xs.length ≤ 2000 := by omega
    obtain ⟨ts, e1, e2, e3⟩ := valid_trees xs hl' xs.length k 0 1 rfl (by omega) (by omega) h
    refine ⟨hl', ?_⟩
    match ts, e1, e2, e3 with
    | [t], _, e2, e3 =>
      refine ⟨t, by simpa [flats] using e2, ?_⟩
      simp only [Wfs] at e3
      exact e3.1
theorem valid_flats (xs : List Cell) (hx : xs.length ≤ 2000) : ∀ (m k i e : Nat) (us : List Tm) (r : List Cell), (flats us).length = m → Wfs us → xs.drop i = flats us ++ r → us.length + e ≤ 100000 → e ≤ 50000 →
    spec_ValidTerm.l0 (k + m) xs ((us.length + e : Nat) : Int) (i : Int) = spec_ValidTerm.l0 k xs (e : Int) ((i + m : Nat) : Int) := by
  intro m
  induction m with
  | zero =>
    intro k i e us r h1 hw hd h2 h3
    cases us with
    | nil => simp
    | cons t us => have := flat_pos t; simp only [flats, List.length_append] at h1; omega
  | succ m ih =>
    intro k i e us r h1 hw hd h2 h3
    cases us with
    | nil => simp [flats] at h1
    | cons t us =>
      obtain ⟨kd, n, s, vs⟩ := t
      simp only [Wfs, Wf] at hw
      obtain ⟨⟨w0, w1, w2, w3⟩, w4⟩ := hw
      have hi : i < xs.length := by
        rcases Nat.lt_or_ge i xs.length with h | h
        · exact h
        · rw [List.drop_of_length_le h] at hd; simp [flats, flat] at hd
      have hc : xs[i] = ⟨kd, n, s⟩ := by
        rw [List.drop_eq_getElem_cons hi] at hd
        simp only [flats, flat, List.cons_append] at hd
        exact (List.cons.inj hd).1
      have hd2 : xs.drop (i + 1) = flats (vs ++ us) ++ r := by
        rw [List.drop_eq_getElem_cons hi] at hd
        simp only [flats, flat, List.cons_append] at hd
        rw [(List.cons.inj hd).2, flats_append]
      have hm : (flats (vs ++ us)).length = m := by
        simp only [flats, flat, List.cons_append, List.length_cons] at h1
        rw [flats_append]; omega
      have hl : (flats (vs ++ us)).length ≤ 2000 := by
        have := congrArg List.length hd2
        rw [List.length_drop, List.length_append] at this; omega
      have hlen := flats_len (vs ++ us)
      rw [show k + (m + 1) = (k + m) + 1 by omega, spec_ValidTerm.l0, if_pos (by omega), if_neg (by simp; omega), if_pos (by omega), Int.toNat_natCast, getD_at hi, hc, wrap_nat (by omega), l2cell_val, Option.bind_some, if_neg (by simpa using w0)]
      have := ih k (i + 1) e (vs ++ us) r hm ((Wfs_append _ _).2 ⟨w3, w4⟩) hd2 (by omega) h3
      rw [show i + (m + 1) = i + 1 + m by omega, ← this]
      simp only [List.length_cons, List.length_append] at hlen h2 ⊢
      by_cases hk : kd = 3
      · have hn := w1 hk
        rw [if_pos hk, wrap_id (n := ((us.length + 1 + e : Nat) : Int) - 1) (by omega) (by omega), wrap_id (by omega) (by omega)]
        congr 1
        omega
      · rw [if_neg hk, wrap_id (by omega) (by omega)]
        have : vs = [] := w2 hk
        subst this
        congr 1
        simp; omega
/-- the cells of a term that is valid -/
noncomputable def okT (xs : List Cell) : Bool := @decide (xs.length ≤ 2000 ∧ ∃ t, flat t = xs ∧ Wf t) (Classical.propDecidable _)
theorem okT_iff (xs : List Cell) : okT xs = true ↔ (xs.length ≤ 2000 ∧ ∃ t, flat t = xs ∧ Wf t) := by unfold okT; exact @decide_eq_true_iff _ (Classical.propDecidable _)
theorem valid_val (xs : List Cell) (k : Nat) (hl : xs.length < 9223372036854775807) (hk : xs.length < k) : spec_ValidTerm.f k xs = some (okT xs) := by
  obtain ⟨_, b, e⟩ := valid_eq xs k hl hk
  cases b with
  | true => rw [e, (okT_iff xs).2 (valid_tree xs k e)]
  | false =>
    rw [e]
    by_cases h : okT xs = true
    · obtain ⟨h1, t, rfl, hw⟩ := (okT_iff xs).1 h
      exfalso
      rw [spec_ValidTerm.f, if_neg (by omega)] at e
      obtain ⟨k, rfl⟩ : ∃ q, k = q + 1 + (flat t).length := ⟨k - 1 - (flat t).length, by omega⟩
      have := valid_flats (flat t) h1 (flat t).length (k + 1) 0 0 [t] [] (by simp [flats]) (by simp [Wfs, hw]) (by simp [flats]) (by simp) (by omega)
      rw [show (([t].length + 0 : Nat) : Int) = 1 from rfl, show ((0 : Nat) : Int) = 0 from rfl] at this
      rw [this, spec_ValidTerm.l0, if_neg (by omega)] at e
      simp at e
    · rw [show okT xs = false by simpa using h]
theorem valid_val' (xs : List Cell) (k : Nat) (hl : xs.length < 9223372036854775807) (hk : xs.length < k) : impl_ValidTerm.f k xs = some (okT xs) := by
  rw [(valid_eq xs k hl hk).1, valid_val xs k hl hk]
theorem okT_all : ∀ (xs : List (List Cell)), xs.all okT = true → ∃ us : List Tm, us.map flat = xs ∧ Wfs us
  | [], _ => ⟨[], rfl, by simp [Wfs]⟩
  | x :: xs, h => by
    rw [List.all_cons, Bool.and_eq_true] at h
    obtain ⟨_, t, rfl, hw⟩ := (okT_iff x).1 h.1
    obtain ⟨us, rfl, hws⟩ := okT_all xs h.2
    exact ⟨t :: us, rfl, by simp only [Wfs]; exact ⟨hw, hws⟩⟩
/-! ### cells to trees -/
mutual
theorem from_flat : ∀ (t : Tm) (k : Nat) (r : List Cell), Wf t → 3 * (flat t).length < k → (flat t).length + r.length ≤ 2000 → impl_fromCells.f k (flat t ++ r) = some (t, r)
  | .mk kd n s us, k, r, hw, hk, hl => by
    obtain ⟨k, rfl⟩ : ∃ q, k = q + 1 := ⟨k - 1, by omega⟩
    simp only [flat, List.length_cons] at hk hl
    simp only [Wf] at hw
    obtain ⟨w0, w1, w2, w6⟩ := hw
    have e0 : flat (Tm.mk kd n s us) ++ r = ⟨kd, n, s⟩ :: (flats us ++ r) := by simp [flat]
    rw [e0, impl_fromCells.f, if_pos (by simp; omega), if_pos (by simp; omega), drop1]
    show (if kd = 3 then impl_fromCells.l0 k _ _ 0 [] else some (Tm.mk kd n s [], flats us ++ r)) = _
    by_cases h : kd = 3
    · rw [if_pos h]
      have a3 := w1 h
      have ⟨a1, a2⟩ := w0.n3 h
      have a1 : 1 ≤ n := a1
      have a2 : n ≤ 20 := a2
      have := from_flats us k ⟨kd, n, s⟩ (flats us ++ r) r [] w6 (by omega) (by omega) (by simp; omega) (by simp; omega)
      simpa using this
    · rw [if_neg h, w2 h]; simp [flats]
theorem from_flats : ∀ (us : List Tm) (k : Nat) (c : Cell) (z r : List Cell) (acc : List Tm), Wfs us → 3 * (flats us).length + 1 < k → (flats us).length + r.length ≤ 2000 → ((acc.length + us.length : Nat) : Int) = c.n → acc.length + us.length ≤ 20 →
    impl_fromCells.l0 k (c :: z) (flats us ++ r) (acc.length : Int) acc = some (Tm.mk c.kind c.n c.text (acc ++ us), r)
  | [], k, c, z, r, acc, hw, hk, hl, hn, hb => by
    obtain ⟨k, rfl⟩ : ∃ q, k = q + 1 := ⟨k - 1, by omega⟩
    rw [impl_fromCells.l0]
    show (if (acc.length : Int) < c.n then _ else some (Tm.mk c.kind c.n c.text acc, flats [] ++ r)) = _
    rw [if_neg (by simp at hn; omega)]
    simp [flats]
  | t :: us, k, c, z, r, acc, hw, hk, hl, hn, hb => by
    obtain ⟨k, rfl⟩ : ∃ q, k = q + 1 := ⟨k - 1, by omega⟩
    simp only [Wfs] at hw
    simp only [flats, List.length_append] at hk hl
    simp only [List.length_cons] at hn hb
    have hp := flat_pos t
    have e0 : flats (t :: us) ++ r = flat t ++ (flats us ++ r) := by simp [flats]
    rw [e0, impl_fromCells.l0]
    rw [from_flat t k (flats us ++ r) hw.1 (by omega) (by simp; omega), Option.bind_some]
    show (if (acc.length : Int) < c.n then _ else _) = _
    rw [if_pos (by omega), if_pos (by omega), wrap_nat (by omega)]
    have := from_flats us k c z r (acc ++ [t]) hw.2 (by omega) (by omega) (by simp; omega) (by simp; omega)
    simpa using this
end
theorem tree_flat (t : Tm) (k : Nat) (hw : Wf t) (hl : (flat t).length ≤ 2000) (hk : 6000 < k) : impl_tree.f k (flat t) = some t := by
  rw [impl_tree.f]
  have := from_flat t k [] hw (by omega) (by simpa using hl)
  rw [List.append_nil] at this
  rw [this]; rfl
/-! ### trees to cells -/
mutual
theorem put_flat : ∀ (t : Tm) (k : Nat) (acc : List Cell), Wf t → 4 * (flat t).length < k → acc.length + (flat t).length ≤ 1000000 → impl_node_put_2.f k t acc = some (acc ++ flat t)
  | .mk kd n s us, k, acc, hw, hk, hl => by
    obtain ⟨k, rfl⟩ : ∃ q, k = q + 3 := ⟨k - 3, by simp [flat] at hk; omega⟩
    simp only [flat, List.length_cons] at hk hl
    simp only [Wf] at hw
    obtain ⟨w0, w1, w2, w6⟩ := hw
    have ht := w0.text
    have e0 : impl_node_put_2.f (k + 3) (Tm.mk kd n s us) acc = impl_node_put_2.l0 (k + 2) (Tm.mk kd n s us) acc s := by
      rw [impl_node_put_2.f]
      show (if kd ≥ 2 then (if s.length ≤ 9223372036854775807 then impl_node_put_2.l0 (k + 2) _ acc s else none) else impl_node_put_2.l0 (k + 2) _ acc []) = _
      by_cases h : kd ≥ 2
      · rw [if_pos h, if_pos (Nat.le_trans ht (by decide))]
      · rw [if_neg h]
        rcases w0 with ⟨_, _, _, h1⟩ | ⟨_, _, _, h1⟩ | ⟨h1, _⟩ | ⟨h1, _⟩
        · have : s = [] := h1
          rw [this]
        · have : s = [] := h1
          rw [this]
        · exact absurd (show kd = 2 from h1) (by omega)
        · exact absurd (show kd = 3 from h1) (by omega)
    rw [e0, impl_node_put_2.l0, if_pos (by omega)]
    have := put_flats us [] k (Tm.mk kd n s us) (acc ++ [⟨kd, n, s⟩]) rfl w6 (by omega) (by simp; omega) (by have := flats_len us; simp; omega)
    simp only [List.length_nil] at this
    exact this.trans (by simp [flat])
theorem put_flats : ∀ (us vs : List Tm) (k : Nat) (t : Tm) (acc : List Cell), t.args = vs ++ us → Wfs us → 4 * (flats us).length + 2 < k + 1 → acc.length + (flats us).length ≤ 1000000 → vs.length + us.length ≤ 1000000 →
    impl_node_put_2.l1 (k + 1) t acc (vs.length : Int) = some (acc ++ flats us)
  | [], vs, k, t, acc, ha, hw, hk, hl, hv => by
    rw [impl_node_put_2.l1, ha, if_neg (by simp)]; simp [flats]
  | u :: us, vs, k, t, acc, ha, hw, hk, hl, hv => by
    simp only [Wfs] at hw
    simp only [flats, List.length_append] at hk hl
    have hp := flat_pos u
    simp only [List.length_cons] at hv
    obtain ⟨k, rfl⟩ : ∃ q, k = q + 1 := ⟨k - 1, by omega⟩
    rw [impl_node_put_2.l1, ha, if_pos (by simp; omega), if_pos (by omega)]
    have hg : (vs ++ u :: us).getD ((vs.length : Int)).toNat (Tm.mk 0 0 [] []) = u := by
      rw [Int.toNat_natCast, List.getD_eq_getElem?_getD, List.getElem?_append_right (by omega), Nat.sub_self]; rfl
    rw [hg, impl_node_cut_2.f, put_flat u k acc hw.1 (by omega) (by omega), Option.bind_some, Option.bind_some, wrap_nat (by omega)]
    have := put_flats us (vs ++ [u]) k t (acc ++ flat u) (by rw [ha]; simp) hw.2 (by omega) (by simp; omega) (by simp; omega)
    rw [show ((vs ++ [u]).length : Int) = ((vs.length + 1 : Nat) : Int) by simp] at this
    rw [this]; simp [flats]
end
theorem cells_flat (t : Tm) (k : Nat) (hw : Wf t) (hl : (flat t).length ≤ 100000) (hk : 400000 < k) : impl_node_cells.f k t = some (flat t) := by
  rw [impl_node_cells.f, put_flat t k [] hw (by omega) (by simp; omega)]; simp
theorem l2copy_val (xs : List Cell) (k : Nat) (hl : xs.length ≤ 1000000) (ht : ∀ c, c ∈ xs → c.text.length ≤ 1000000) (hk : xs.length < k) : spec_l2copy.f k xs = some xs := by
  rw [spec_l2copy.f]
  have key : ∀ (m k i : Nat), xs.length - i = m → i ≤ xs.length → m < k → spec_l2copy.l0 k xs (xs.take i) (i : Int) = some xs := by
    intro m
    induction m with
    | zero =>
      intro k i h1 h2 h3
      obtain ⟨k, rfl⟩ : ∃ q, k = q + 1 := ⟨k - 1, by omega⟩
      rw [spec_l2copy.l0, if_neg (by omega), List.take_of_length_le (by omega)]
    | succ m ih =>
      intro k i h1 h2 h3
      obtain ⟨k, rfl⟩ : ∃ q, k = q + 1 := ⟨k - 1, by omega⟩
      have hi : i < xs.length := by omega
      have hlt := ht _ (List.getElem_mem hi)
      rw [spec_l2copy.l0, if_pos (by omega), if_pos (by omega), Int.toNat_natCast, getD_at hi, spec_l1copy.f, if_pos (by omega), Option.bind_some, if_pos (by rw [List.length_take]; omega), wrap_nat (by omega)]
      have e : xs.take i ++ [(⟨xs[i].kind, xs[i].n, xs[i].text⟩ : Cell)] = xs.take (i + 1) := by rw [List.take_add_one, List.getElem?_eq_getElem hi]; rfl
      rw [e]
      exact ih k (i + 1) (by omega) (by omega) (by omega)
  exact key xs.length k 0 rfl (by omega) hk
/-! ### FnExactMakeList -/
def dotC : Cell := ⟨3, 2, [46]⟩
def nilC : Cell := ⟨2, 0, [91, 93]⟩
def fl : List (List Cell) → List Cell
  | [] => []
  | x :: xs => dotC :: x ++ fl xs
theorem fl_app : ∀ (a b : List (List Cell)), fl (a ++ b) = fl a ++ fl b
  | [], b => rfl
  | x :: a, b => by simp [fl, fl_app a b]
def sum1 (xs : List (List Cell)) : Nat := wts (fun x : List Cell => 1 + x.length) xs
theorem fl_len : ∀ xs : List (List Cell), (fl xs).length = sum1 xs
  | [] => rfl
  | x :: xs => by have := fl_len xs; unfold sum1 at *; rw [wts_cons, ← this]; simp [fl]; omega
theorem sum1_len (xs : List (List Cell)) : xs.length ≤ sum1 xs := by
  induction xs with
  | nil => simp
  | cons x xs ih => unfold sum1 at *; rw [wts_cons, List.length_cons]; omega
theorem sum1_mem {xs : List (List Cell)} {x : List Cell} (h : x ∈ xs) : 1 + x.length ≤ sum1 xs := wts_mem (fun x : List Cell => 1 + x.length) h
def listT : List Tm → Tm
  | [] => .mk 2 0 [91, 93] []
  | u :: us => .mk 3 2 [46] [u, listT us]
theorem listT_flat : ∀ us : List Tm, flat (listT us) = fl (us.map flat) ++ [nilC]
  | [] => rfl
  | u :: us => by simp [listT, flat, flats, fl, listT_flat us, dotC]
theorem listT_wf : ∀ us : List Tm, Wfs us → Wf (listT us)
  | [], _ => by simp [listT, Wf, Wfs, Okc]
  | u :: us, h => by
    simp only [Wfs] at h
    simp only [listT, Wf, Wfs]
    exact ⟨by simp [Okc], by simp, by simp, h.1, listT_wf us h.2, trivial⟩
theorem l2list_val (xs : List (List Cell)) (k : Nat) (hs : sum1 xs ≤ 2000) (ht : ∀ x, x ∈ xs → ∀ c, c ∈ x → c.text.length ≤ 1000000) (hk : 10000 < k) : spec_l2list.f k xs [nilC] = some (fl xs ++ [nilC]) := by
  rw [spec_l2list.f]
  have hx := sum1_len xs
  have key : ∀ (m k i : Nat), xs.length - i = m → i ≤ xs.length → m + 3000 < k → spec_l2list.l0 k xs [nilC] (fl (xs.take i)) (i : Int) = some (fl xs ++ [nilC]) := by
    intro m
    induction m with
    | zero =>
      intro k i h1 h2 h3
      obtain ⟨k, rfl⟩ : ∃ q, k = q + 1 := ⟨k - 1, by omega⟩
      have hfl := fl_len xs
      rw [spec_l2list.l0, if_neg (by omega), List.take_of_length_le (by omega), l2copy_val _ _ (by simp) (fun c hc => by rw [List.mem_singleton.1 hc]; decide) (by simp; omega), Option.bind_some, if_pos (by simp; omega)]
    | succ m ih =>
      intro k i h1 h2 h3
      obtain ⟨k, rfl⟩ : ∃ q, k = q + 1 := ⟨k - 1, by omega⟩
      have hi : i < xs.length := by omega
      have hmem := List.getElem_mem hi
      have hli := sum1_mem hmem
      have hfl : (fl (xs.take i)).length ≤ 2000 := by
        have := fl_len xs
        rw [← List.take_append_drop i xs, fl_app, List.length_append] at this
        rw [List.take_append_drop] at this; omega
      rw [spec_l2list.l0, if_pos (by omega), if_pos (by omega), if_pos (by omega), Int.toNat_natCast, getD_at hi, l2copy_val _ _ (by omega) (ht _ hmem) (by omega), Option.bind_some, if_pos (by simp; omega), wrap_nat (by omega)]
      have e : (fl (xs.take i) ++ [(⟨3, 2, [(46 : UInt8)]⟩ : Cell)]) ++ xs[i] = fl (xs.take (i + 1)) := by
        rw [List.take_add_one, List.getElem?_eq_getElem hi, fl_app]; simp [fl, dotC]
      rw [e]
      exact ih k (i + 1) (by omega) (by omega) (by omega)
  exact key xs.length k 0 rfl (by omega) (by omega)
theorem sum1_take {xs : List (List Cell)} {i : Nat} (hi : i < xs.length) : sum1 (xs.take (i + 1)) = sum1 (xs.take i) + (1 + xs[i].length) := by
  unfold sum1
  rw [List.take_add_one, List.getElem?_eq_getElem hi, wts_app]
  simp [wts]
noncomputable def mkR (xs : List (List Cell)) : List Cell × Int := if xs.all okT then (if sum1 xs + 1 > 2000 then ([], 3) else (fl xs ++ [nilC], 0)) else ([], 1)
theorem all_take {xs : List (List Cell)} {i : Nat} (hi : i < xs.length) : (xs.take (i + 1)).all okT = ((xs.take i).all okT && okT xs[i]) := by
  rw [List.take_add_one, List.getElem?_eq_getElem hi, List.all_append]; simp
theorem sum1_ok {xs : List (List Cell)} (h : xs.all okT = true) : sum1 xs ≤ 2001 * xs.length := by
  have := wts_bound (fun x : List Cell => 1 + x.length) (n := 2001) (xs := xs) fun x hx => by
    have := List.all_eq_true.1 h x hx
    have := ((okT_iff x).1 this).1
    omega
  unfold sum1; omega
theorem ok_text {xs : List (List Cell)} (h : xs.all okT = true) : ∀ x, x ∈ xs → ∀ c, c ∈ x → Okc c := fun x hx c hc => by
  obtain ⟨_, t, rfl, hw⟩ := (okT_iff x).1 (List.all_eq_true.1 h x hx)
  exact flat_ok t hw c hc
theorem spec_make (xs : List (List Cell)) (hx : xs.length ≤ 2000) (hb : ∀ x, x ∈ xs → x.length ≤ 1048576) : ∀ (m k i : Nat), xs.length - i = m → i ≤ xs.length → m + 1100000 < k → (xs.take i).all okT = true → spec_MakeList.l0 k xs ((1 + sum1 (xs.take i) : Nat) : Int) (i : Int) = some (mkR xs) := by
  intro m
  induction m with
  | zero =>
    intro k i h1 h2 h3 h4
    obtain ⟨k, rfl⟩ : ∃ q, k = q + 1 := ⟨k - 1, by omega⟩
    rw [List.take_of_length_le (by omega)] at h4 ⊢
    rw [spec_MakeList.l0, if_neg (by omega)]
    unfold mkR
    rw [if_pos h4]
    by_cases h : sum1 xs + 1 > 2000
    · rw [if_pos (by omega), if_pos h]
    · rw [if_neg (by omega), if_neg h, spec_l2atom.f, if_pos (by decide), Option.bind_some, show [(⟨2, 0, [91, 93]⟩ : Cell)] = [nilC] from rfl, l2list_val xs k (by omega) (fun x hx c hc => Nat.le_trans (ok_text h4 x hx c hc).text (by decide)) (by omega)]
      rfl
  | succ m ih =>
    intro k i h1 h2 h3 h4
    obtain ⟨k, rfl⟩ : ∃ q, k = q + 1 := ⟨k - 1, by omega⟩
    have hi : i < xs.length := by omega
    have hli := hb _ (List.getElem_mem hi)
    rw [spec_MakeList.l0, if_pos (by omega), if_pos (by omega), Int.toNat_natCast, getD_at hi, valid_val _ _ (by omega) (by omega), Option.bind_some]
    cases hv : okT xs[i] with
    | false =>
      rw [if_pos (by simp)]
      unfold mkR
      have : xs.all okT = false := by
        rw [List.all_eq_false]
        exact ⟨_, List.getElem_mem hi, by simp [hv]⟩
      rw [this, if_neg (by simp)]
    | true =>
      have hq := sum1_ok h4
      have hl : (xs.take i).length ≤ 2000 := by rw [List.length_take]; omega
      have hq2 : 2001 * (xs.take i).length ≤ 4002000 := by omega
      rw [if_neg (by simp), wrap_id (n := 1 + (xs[i].length : Int)) (by omega) (by omega), wrap_id (by omega) (by omega), wrap_nat (by omega)]
      have := ih k (i + 1) (by omega) (by omega) (by omega) (by rw [all_take hi, h4, hv]; rfl)
      rw [sum1_take hi] at this
      rw [← this]
      congr 1
      omega
theorem all_valid (xs : List (List Cell)) (hx : xs.length ≤ 1048576) (hb : ∀ x, x ∈ xs → x.length ≤ 1048576) : ∀ (m k i : Nat), xs.length - i = m → i ≤ xs.length → m + 1100000 < k → (xs.take i).all okT = true → impl_allValid.l0 k xs (i : Int) = some (xs.all okT) := by
  intro m
  induction m with
  | zero =>
    intro k i h1 h2 h3 h4
    obtain ⟨k, rfl⟩ : ∃ q, k = q + 1 := ⟨k - 1, by omega⟩
    rw [List.take_of_length_le (by omega)] at h4
    rw [impl_allValid.l0, if_neg (by omega), h4]
  | succ m ih =>
    intro k i h1 h2 h3 h4
    obtain ⟨k, rfl⟩ : ∃ q, k = q + 1 := ⟨k - 1, by omega⟩
    have hi : i < xs.length := by omega
    have hli := hb _ (List.getElem_mem hi)
    rw [impl_allValid.l0, if_pos (by omega), if_pos (by omega), Int.toNat_natCast, getD_at hi, valid_val' _ _ (by omega) (by omega), Option.bind_some]
    cases hv : okT xs[i] with
    | false =>
      rw [if_pos (by simp)]
      have : xs.all okT = false := by
        rw [List.all_eq_false]
        exact ⟨_, List.getElem_mem hi, by simp [hv]⟩
      rw [this]
    | true =>
      rw [if_neg (by simp), wrap_nat (by omega)]
      exact ih k (i + 1) (by omega) (by omega) (by omega) (by rw [all_take hi, h4, hv]; rfl)
theorem impl_size (xs : List (List Cell)) (hx : xs.length ≤ 2000) (ha : xs.all okT = true) : ∀ (m k i : Nat), xs.length - i = m → i ≤ xs.length → m < k → impl_MakeList.l0 k xs ((1 + sum1 (xs.take i) : Nat) : Int) (i : Int) = if sum1 xs + 1 > 2000 then some ([], 3) else impl_MakeList.l1 (k - m - 1) xs [] 0 := by
  have hsum := sum1_ok ha
  intro m
  induction m with
  | zero =>
    intro k i h1 h2 h3
    obtain ⟨k, rfl⟩ : ∃ q, k = q + 1 := ⟨k - 1, by omega⟩
    rw [List.take_of_length_le (by omega), impl_MakeList.l0, if_neg (by omega)]
    by_cases h : sum1 xs + 1 > 2000
    · rw [if_pos (by omega), if_pos h]
    · rw [if_neg (by omega), if_neg h]; rfl
  | succ m ih =>
    intro k i h1 h2 h3
    obtain ⟨k, rfl⟩ : ∃ q, k = q + 1 := ⟨k - 1, by omega⟩
    have hi : i < xs.length := by omega
    have hli := sum1_mem (List.getElem_mem hi)
    have hs : sum1 (xs.take i) ≤ sum1 xs := by
      unfold sum1
      have := wts_app (fun x : List Cell => 1 + x.length) (xs.take i) (xs.drop i)
      rw [List.take_append_drop] at this; omega
    rw [impl_MakeList.l0, if_pos (by omega), if_pos (by omega), Int.toNat_natCast, getD_at hi, wrap_id (n := 1 + (xs[i].length : Int)) (by omega) (by omega), wrap_id (by omega) (by omega), wrap_nat (by omega)]
    have := ih k (i + 1) (by omega) (by omega) (by omega)
    rw [sum1_take hi] at this
    rw [show k + 1 - (m + 1) - 1 = k - m - 1 by omega, ← this]
    congr 1
    omega
theorem listOf_val (us : List Tm) (hl : us.length ≤ 2000) : ∀ (i k : Nat), i ≤ us.length → i < k → impl_listOf.l0 k us (listT (us.drop i)) ((i : Int) - 1) = some (listT us) := by
  intro i
  induction i with
  | zero =>
    intro k h1 h2
    obtain ⟨k, rfl⟩ : ∃ q, k = q + 1 := ⟨k - 1, by omega⟩
    rw [impl_listOf.l0, if_neg (by omega)]; simp
  | succ i ih =>
    intro k h1 h2
    obtain ⟨k, rfl⟩ : ∃ q, k = q + 1 := ⟨k - 1, by omega⟩
    have hi : i < us.length := by omega
    rw [show ((i + 1 : Nat) : Int) - 1 = (i : Int) by omega, impl_listOf.l0, if_pos (by omega), if_pos (by omega), if_pos (by omega), Int.toNat_natCast, getD_at hi, impl_comp.f, Option.bind_some, wrap_id (by omega) (by omega)]
    have e : (Tm.mk 3 ([us[i], listT (us.drop (i + 1))].length : Int) [46] [us[i], listT (us.drop (i + 1))]) = listT (us.drop i) := by
      rw [List.drop_eq_getElem_cons hi]; rfl
    rw [e]
    exact ih k (by omega) (by omega)
theorem impl_trees (us : List Tm) (hw : Wfs us) (hs : sum1 (us.map flat) + 1 ≤ 2000) : ∀ (m k i : Nat), us.length - i = m → i ≤ us.length → m + 500000 < k → impl_MakeList.l1 k (us.map flat) (us.take i) (i : Int) = some (fl (us.map flat) ++ [nilC], 0) := by
  have hx := sum1_len (us.map flat)
  rw [List.length_map] at hx
  intro m
  induction m with
  | zero =>
    intro k i h1 h2 h3
    obtain ⟨k, rfl⟩ : ∃ q, k = q + 1 := ⟨k - 1, by omega⟩
    have hlf := listT_flat us
    have hl := congrArg List.length hlf
    rw [List.length_append, fl_len] at hl
    rw [List.take_of_length_le (by omega), impl_MakeList.l1, if_neg (by simp; omega), impl_atom.f, Option.bind_some, impl_listOf.f, wrap_id (by omega) (by omega)]
    have := listOf_val us (by omega) us.length k (by omega) (by omega)
    rw [List.drop_length] at this
    rw [show (Tm.mk 2 0 [91, 93] []) = listT [] from rfl, this, Option.bind_some, cells_flat _ _ (listT_wf us hw) (by simp at hl; omega) (by omega), Option.bind_some, hlf]
  | succ m ih =>
    intro k i h1 h2 h3
    obtain ⟨k, rfl⟩ : ∃ q, k = q + 1 := ⟨k - 1, by omega⟩
    have hi : i < us.length := by omega
    have hwi : Wf us[i] := by
      have := List.take_append_drop i us
      rw [← this, Wfs_append, List.drop_eq_getElem_cons hi] at hw
      have := hw.2
      simp only [Wfs] at this
      exact this.1
    have hg : (us.map flat).getD i ([] : List Cell) = flat us[i] := by rw [getD_at (by simpa using hi), List.getElem_map]
    have hli := sum1_mem (xs := us.map flat) (List.mem_map_of_mem (List.getElem_mem hi))
    rw [impl_MakeList.l1, if_pos (by simp; omega), if_pos (by omega), Int.toNat_natCast, hg, tree_flat _ _ hwi (by omega) (by omega), Option.bind_some, if_pos (by simp; omega), wrap_nat (by omega)]
    have e1 : us.take i ++ [us[i]] = us.take (i + 1) := by rw [List.take_add_one, List.getElem?_eq_getElem hi]; rfl
    rw [e1]
    exact ih k (i + 1) (by omega) (by omega) (by omega)
theorem make_eq (xs : List (List Cell)) (k : Nat) (hl : xs.length ≤ 1048576) (hb : ∀ x, x ∈ xs → x.length ≤ 1048576) (hk : 3000000 < k) : ∃ r : List Cell × Int, impl_MakeList.f k xs = some r ∧ spec_MakeList.f k xs = some r ∧ wCells r.1 ≤ 1048576 := by
  rw [impl_MakeList.f, spec_MakeList.f, impl_allValid.f]
  have a := all_valid xs hl hb xs.length k 0 rfl (by omega) (by omega) (by simp)
  rw [show ((0 : Nat) : Int) = 0 from rfl] at a
  rw [a, Option.bind_some]
  have w0 : wCells ([] : List Cell) ≤ 1048576 := by simp [wCells, wts]
  by_cases hx : (xs.length : Int) > 2000
  · rw [if_pos hx, if_pos hx]
    exact ⟨([], 1), by split <;> rfl, rfl, w0⟩
  rw [if_neg hx, if_neg hx]
  have b := spec_make xs (by omega) hb xs.length k 0 rfl (by omega) (by omega) (by simp)
  rw [show ((1 + sum1 (xs.take 0) : Nat) : Int) = 1 from rfl, show ((0 : Nat) : Int) = 0 from rfl] at b
  rw [b]
  cases ha : xs.all okT with
  | false =>
    rw [if_pos (by simp)]
    exact ⟨([], 1), rfl, by unfold mkR; rw [ha]; rfl, w0⟩
  | true =>
    rw [if_neg (by simp)]
    have c := impl_size xs (by omega) ha xs.length k 0 rfl (by omega) (by omega)
    rw [show ((1 + sum1 (xs.take 0) : Nat) : Int) = 1 from rfl, show ((0 : Nat) : Int) = 0 from rfl] at c
    rw [c]
    unfold mkR
    rw [ha, if_pos rfl]
    by_cases hs : sum1 xs + 1 > 2000
    · rw [if_pos hs, if_pos hs]; exact ⟨([], 3), rfl, rfl, w0⟩
    · rw [if_neg hs, if_neg hs]
      obtain ⟨us, rfl, hw⟩ := okT_all xs ha
      have hxl := sum1_len (us.map flat)
      have d := impl_trees us hw (by omega) us.length (k - (us.map flat).length - 1) 0 rfl (by omega) (by simp at hxl ⊢; omega)
      refine ⟨(fl (us.map flat) ++ [nilC], 0), by simpa using d, rfl, ?_⟩
      have e := listT_flat us
      have f := wCells_ok (flat_ok _ (listT_wf us hw))
      rw [e] at f
      show wCells (fl (us.map flat) ++ [nilC]) ≤ _
      have g : (fl (us.map flat) ++ [nilC]).length ≤ 2000 := by rw [List.length_append, fl_len]; simp; omega
      omega
theorem makeList_true (xs : List (List Cell)) (hl : xs.length ≤ 9223372036854775807) (ht : ∀ x, x ∈ xs → x.length ≤ 9223372036854775807 ∧ ∀ c, c ∈ x → c.text.length ≤ 9223372036854775807) : laws_FnExactMakeList.f 5000000 xs = some true := by
  rw [laws_FnExactMakeList.f, szCellSS_val xs _ _ (by omega) (by omega) hl ht (by omega), Option.bind_some]
  by_cases h : left 1048576 (wCellss xs) < 0
  · rw [if_pos h]
  have hq := left_le h
  have hw : wCellss xs ≤ 1048576 := by omega
  have hl2 := wCellss_len hw
  obtain ⟨r, e1, e2, e3⟩ := make_eq xs 5000000 hl2 (fun x hx => wCells_len (wCellss_mem hw hx)) (by omega)
  have hws : wts (fun x : Cell => 2 + x.text.length) r.1 ≤ 2 * wCells r.1 := by
    generalize r.1 = ys
    induction ys with
    | nil => simp [wts]
    | cons x xs ih => unfold wCells at *; rw [wts_cons, wts_cons, List.length_cons]; omega
  obtain ⟨ys, m1, m2, m3⟩ := markCellS_val r.1 5000000 1 e3 (by omega) (by omega) (by omega)
  obtain ⟨m, zs, n1, n2, n3, n4⟩ := markCellSS_val xs 5000000 1 hw (by omega) (by omega) (by omega)
  obtain ⟨o1, o2⟩ := heldCellS_val ys 5000000 1 _ (by rw [m2]; exact wCells_len e3) (by omega) (by omega) m3
  rw [if_neg h, toCellSS_id xs _ hw (by omega)]
  simp only [Option.bind_some, e1, e2, eqCellSS_id xs 5000000 hw (by omega), eqCellS_id r.1 5000000 e3 (by omega), m1, n1, o1]
  rw [if_neg (by simp), if_neg (by simp), if_neg (by simp), if_neg (by omega), if_neg (by simp), if_neg (by omega), if_neg (by simp), if_neg (by simp), if_neg (by simp), if_neg (by omega), if_neg (by simp)]
end Go.Proofs.Ytognefkopbbdnaa
