import Derived.Test.YtnigifmkjmbfiaaWkUs6
import Derived.Test.YtnigifmkjmbfiaaZ3
namespace Go.Proofs.Ytnigifmkjmbfiaa
open Go.Sx Go.Sy
set_option linter.unusedVariables false
set_option linter.unusedSimpArgs false
set_option linter.unusedSectionVars false
set_option maxRecDepth 4000
/-! ### sizes, copies, equality: cells -/
theorem left_m1 {b : Int} {n : Nat} (h : left b n < 0) : left b n = -1 := by unfold left at *; split <;> (split at h <;> first | rfl | omega)
theorem szByteS_val (xs : List UInt8) (b : Int) (h0 : 0 ≤ b) (h1 : b ≤ 1048576) (hl : xs.length ≤ 9223372036854775807) : laws_szByteS.f xs b = some (left b xs.length) := by
  rw [laws_szByteS.f]; exact sz0 h0 h1 hl
theorem szCell_val (x : Cell) (b : Int) (h0 : 0 ≤ b) (h1 : b ≤ 1048576) (hl : x.text.length ≤ 9223372036854775807) : laws_szCell.f x b = some (left b x.text.length) := by
  rw [laws_szCell.f, szByteS_val _ _ h0 h1 hl, Option.bind_some]
  split
  · rename_i h; rw [left_m1 h]
  · rfl
theorem szCellS_val (xs : List Cell) (k : Nat) (b : Int) (h0 : 0 ≤ b) (h1 : b ≤ 1048576) (hl : xs.length ≤ 9223372036854775807) (ht : ∀ c, c ∈ xs → c.text.length ≤ 9223372036854775807) (hk : 1048577 < k) :
    laws_szCellS.f k xs b = some (left b (wCells xs)) := by
  rw [laws_szCellS.f]
  refine szT h0 h1 hl fun h => ?_
  have hq := left_le h
  rw [left_wrap h0 h1 hl h]
  exact szL (B := 0) (z := z28) (fun x => x.text.length) (fun k b i => laws_szCellS.l0 k xs b i) (fun _ => laws_szCell.f) (fun _ _ _ => rfl) (by omega) (fun x hx _ _ b q0 q1 => szCell_val x b q0 q1 (ht x hx)) k (by omega) _ (by omega) (by omega)
theorem toByteS_id (xs : List UInt8) (k : Nat) (hl : xs.length ≤ 1048576) (hk : xs.length < k) : laws_toByteS.f k xs = some xs := by
  rw [laws_toByteS.f, if_pos (by omega), if_pos (by omega)]
  exact toF (z := 0) (fun k i ys => laws_toByteS.l0 k xs i ys) (fun _ _ _ => rfl) (by omega) k hk _ (by simp)
theorem toCell_id (x : Cell) (k : Nat) (hl : x.text.length ≤ 1048576) (hk : 1048577 ≤ k) : laws_toCell.f k x = some x := by
  rw [laws_toCell.f, toByteS_id _ k hl (by omega)]; rfl
theorem wCells_len {xs : List Cell} {n : Nat} (hl : wCells xs ≤ n) : xs.length ≤ n := Nat.le_trans (Nat.le_add_right _ _) hl
theorem wCells_mem {xs : List Cell} {n : Nat} (hl : wCells xs ≤ n) {x : Cell} (hx : x ∈ xs) : x.text.length ≤ n := Nat.le_trans (Nat.le_trans (wts_mem (fun x : Cell => x.text.length) hx) (Nat.le_add_left _ _)) hl
theorem toCellS_id (xs : List Cell) (k : Nat) (hl : wCells xs ≤ 1048576) (hk : 2097154 < k) : laws_toCellS.f k xs = some xs := by
  have hl2 := wCells_len hl
  rw [laws_toCellS.f, if_pos (by omega), if_pos (by omega)]
  exact toL (z := z28) (B := 1048577) (fun k i ys => laws_toCellS.l0 k xs i ys) laws_toCell.f (fun _ _ _ => rfl) (by omega) (fun x hx k hk => toCell_id x k (wCells_mem hl hx) hk) k (by omega) _ (by simp)
theorem eqByteS_id (xs : List UInt8) (k : Nat) (hl : xs.length ≤ 4194304) (hk : xs.length < k) : laws_eqByteS.f k xs xs = some true := by
  rw [laws_eqByteS.f, if_neg (by simp)]
  exact eqF (z := 0) (fun k i => laws_eqByteS.l0 k xs xs i) (fun _ _ => rfl) (by omega) k hk
theorem eqCell_id (x : Cell) (k : Nat) (hl : x.text.length ≤ 4194304) (hk : 4194305 ≤ k) : laws_eqCell.f k x x = some true := by
  rw [laws_eqCell.f, if_neg (by simp), if_neg (by simp), eqByteS_id _ k hl (by omega), Option.bind_some, if_neg (by simp)]
theorem eqCellS_id (xs : List Cell) (k : Nat) (hl : wCells xs ≤ 4194304) (hk : 8388610 < k) : laws_eqCellS.f k xs xs = some true := by
  have hl2 := wCells_len hl
  rw [laws_eqCellS.f, if_neg (by simp)]
  exact eqL (z := z36) (z' := z36) (B := 4194305) (fun k i => laws_eqCellS.l0 k xs xs i) laws_eqCell.f (fun _ _ => rfl) (by omega) (fun x hx k hk => eqCell_id x k (wCells_mem hl hx) hk) k (by omega)
/-! ### marks -/
def PB (n m : Int) (x : UInt8) : Prop := m = n + 1 ∧ x = b8 n
theorem markByteS_val (xs : List UInt8) (k : Nat) (n : Int) (hl : xs.length ≤ 4194304) (hk : 4194305 < k) (h0 : 0 ≤ n) (hn : n ≤ 8000000000000000000) :
    ∃ ys, laws_markByteS_2.f k xs n = some (n + (xs.length : Int), ys) ∧ ys.length = xs.length ∧ HL PB n (n + (xs.length : Int)) ys := by
  rw [laws_markByteS_2.f]
  have e : wts (fun _ : UInt8 => 1) xs = xs.length := by
    induction xs with
    | nil => rfl
    | cons x xs ih => rw [wts_cons, ih (by simp at hl; omega), List.length_cons]; omega
  have := markL (U := 9000000000000000000) (P := PB) (B := 0) (z := (0 : UInt8)) (w := fun _ => 1) (xs := xs) (fun k n i ys => laws_markByteS_2.l0 k xs n i ys) (fun _ _ n => if n + 1 ≤ 9000000000000000000 ∧ 0 ≤ n then some (n + 1, b8 n) else some (IntKind.i64.wrap (n + 1), b8 n))
    (fun k n i ys hi hy => by
      show laws_markByteS_2.l0 (k + 1) xs n i ys = _
      rw [laws_markByteS_2.l0, if_pos (by omega), if_pos (by omega), Int.toNat_natCast]
      by_cases hh : n + 1 ≤ 9000000000000000000 ∧ 0 ≤ n
      · rw [if_pos hh, Option.bind_some, wrap_id (n := n + 1) (by omega) (by omega)]
      · rw [if_neg hh, Option.bind_some])
    (fun k n ys => by
      show laws_markByteS_2.l0 (k + 1) xs n xs.length ys = _
      rw [laws_markByteS_2.l0, if_neg (by omega)])
    (by omega) (fun x _ k _ n q0 q1 => ⟨b8 n, by rw [if_pos ⟨q1, q0⟩]; rfl, rfl, rfl⟩) k (by omega) n h0 (by rw [e]; omega)
  rw [e] at this
  exact this
def PC (n m : Int) (c : Cell) : Prop := c.kind = n ∧ c.n = n + 1 ∧ HL PB (n + 2) m c.text ∧ c.text.length ≤ 4194304 ∧ m ≤ 9000000000000000000
theorem getD_set_self {α : Type} {ys : List α} {i : Nat} {x z : α} (h : i < ys.length) : (ys.set i x).getD i z = x := by
  rw [List.getD_eq_getElem?_getD, List.getElem?_set_self h]; rfl
theorem markCellS_val (xs : List Cell) (k : Nat) (n : Int) (hl : wCells xs ≤ 4194304) (hk : 8388611 < k) (h0 : 0 ≤ n) (hn : n + (wts (fun x : Cell => 2 + x.text.length) xs : Int) ≤ 8000000000000000000) :
    ∃ ys, laws_markCellS_2.f k xs n = some (n + (wts (fun x : Cell => 2 + x.text.length) xs : Int), ys) ∧ ys.length = xs.length ∧ HL PC n (n + (wts (fun x : Cell => 2 + x.text.length) xs : Int)) ys := by
  have hl2 := wCells_len hl
  rw [laws_markCellS_2.f]
  refine markL (U := 8000000000000000000) (P := PC) (B := 4194306) (z := z36) (w := fun x => 2 + x.text.length) (xs := xs) (fun k n i ys => laws_markCellS_2.l0 k xs n i ys)
    (fun k c n => (laws_markByteS_2.f k c.text (IntKind.i64.wrap (IntKind.i64.wrap (n + 1) + 1))).bind fun t => some (t.1, ⟨n, IntKind.i64.wrap (n + 1), t.2⟩)) ?_ ?_ (by omega) ?_ k (by omega) n h0 (by omega)
  · intro k n i ys hi hy
    show laws_markCellS_2.l0 (k + 1) xs n i ys = _
    rw [laws_markCellS_2.l0, if_pos (by omega), if_pos (by omega), Int.toNat_natCast]
    have e1 : i < (ys.set i { ys.getD i z36 with kind := n }).length := by rw [List.length_set]; exact hi
    simp only [getD_set_self hi, List.set_set, getD_set_self e1]
    cases laws_markByteS_2.f k (ys.getD i z36).text (IntKind.i64.wrap (IntKind.i64.wrap (n + 1) + 1)) <;> rfl
  · intro k n ys
    show laws_markCellS_2.l0 (k + 1) xs n xs.length ys = _
    rw [laws_markCellS_2.l0, if_neg (by omega)]
  · intro x hx k hk n q0 q1
    rw [wrap_id (n := n + 1) (by omega) (by omega), wrap_id (n := n + 1 + 1) (by omega) (by omega)]
    obtain ⟨ys, e1, e2, e3⟩ := markByteS_val x.text k (n + 1 + 1) (wCells_mem hl hx) (by omega) (by omega) (by omega)
    rw [e1, Option.bind_some]
    have e : n + 1 + 1 + (x.text.length : Int) = n + ((2 + x.text.length : Nat) : Int) := by omega
    refine ⟨⟨n, n + 1, ys⟩, by rw [e], rfl, rfl, ?_, by rw [e2]; exact wCells_mem hl hx, by omega⟩
    rw [← e]
    exact (show n + 2 = n + 1 + 1 by omega) ▸ e3
theorem heldByteS_val (xs : List UInt8) (k : Nat) (n m : Int) (hl : xs.length ≤ 4194304) (hk : 4194305 < k) (h0 : 0 ≤ n) (hm : m ≤ 9000000000000000000) (h : HL PB n m xs) : laws_heldByteS.f k xs n = some m ∧ n ≤ m := by
  rw [laws_heldByteS.f]
  have key : ∀ (q k i : Nat) (n : Int), xs.length - i = q → i ≤ xs.length → q < k → 0 ≤ n → HL PB n m (xs.drop i) → laws_heldByteS.l0 k xs n (i : Int) = some m ∧ n ≤ m := by
    intro q
    induction q with
    | zero =>
      intro k i n h1 h2 h3 h4 h5
      obtain ⟨k, rfl⟩ : ∃ q, k = q + 1 := ⟨k - 1, by omega⟩
      rw [List.drop_of_length_le (by omega)] at h5
      cases h5
      rw [laws_heldByteS.l0, if_neg (by omega)]
      exact ⟨rfl, Int.le_refl _⟩
    | succ q ih =>
      intro k i n h1 h2 h3 h4 h5
      obtain ⟨k, rfl⟩ : ∃ q, k = q + 1 := ⟨k - 1, by omega⟩
      have hi : i < xs.length := by omega
      rw [List.drop_eq_getElem_cons hi] at h5
      cases h5 with
      | cons p hr =>
        obtain ⟨rfl, p2⟩ := p
        have hle : n + 1 ≤ m := hr.le (fun _ _ _ h => by have := h.1; omega)
        rw [laws_heldByteS.l0, if_pos (by omega), if_pos (by omega), Int.toNat_natCast, getD_at hi, p2, if_neg (by simp), wrap_nat (by omega), wrap_id (n := n + 1) (by omega) (by omega)]
        obtain ⟨f1, f2⟩ := ih k (i + 1) (n + 1) (by omega) (by omega) (by omega) (by omega) hr
        exact ⟨f1, by omega⟩
  exact key xs.length k 0 n rfl (by omega) (by omega) h0 h
theorem heldCellS_val (xs : List Cell) (k : Nat) (n m : Int) (hl : xs.length ≤ 4194304) (hk : 8388611 < k) (h0 : 0 ≤ n) (h : HL PC n m xs) : laws_heldCellS.f k xs n = some m ∧ n ≤ m := by
  rw [laws_heldCellS.f]
  refine heldL (P := PC) (B := 4194306) (z := z36) (fun k n i => laws_heldCellS.l0 k xs n i) (fun k c n => if c.kind ≠ n then some (-1) else if c.n ≠ IntKind.i64.wrap (n + 1) then some (-1) else laws_heldByteS.f k c.text (IntKind.i64.wrap (IntKind.i64.wrap (n + 1) + 1))) ?_ (by omega) ?_ k (by omega) n h0 h
  · intro k n i
    show laws_heldCellS.l0 (k + 1) xs n i = _
    rw [laws_heldCellS.l0]
    split
    · split
      · generalize xs.getD i.toNat z36 = c
        by_cases h1 : c.kind ≠ n
        · rw [if_pos h1, if_pos h1, Option.bind_some, if_pos (by omega)]
        · rw [if_neg h1, if_neg h1]
          by_cases h2 : c.n ≠ IntKind.i64.wrap (n + 1)
          · rw [if_pos h2, if_pos h2, Option.bind_some, if_pos (by omega)]
          · rw [if_neg h2, if_neg h2]
      · rfl
    · rfl
  · intro n m c _ p h0 k hk
    obtain ⟨p1, p2, p3, p4, p5⟩ := p
    have hle := p3.le (fun _ _ _ h => by have := h.1; omega)
    rw [wrap_id (n := n + 1) (by omega) (by omega), wrap_id (n := n + 1 + 1) (by omega) (by omega), if_neg (by omega), if_neg (by omega)]
    obtain ⟨f1, f2⟩ := heldByteS_val c.text k (n + 1 + 1) m p4 (by omega) (by omega) p5 ((show n + 2 = n + 1 + 1 by omega) ▸ p3)
    exact ⟨f1, by omega⟩
def PI (n m : Int) (x : Int) : Prop := m = n + 1 ∧ x = n
theorem markIntS_val (xs : List Int) (k : Nat) (n : Int) (hl : xs.length ≤ 4194304) (hk : 4194305 < k) (h0 : 0 ≤ n) (hn : n ≤ 8000000000000000000) :
    ∃ ys, laws_markIntS_2.f k xs n = some (n + (xs.length : Int), ys) ∧ ys.length = xs.length ∧ HL PI n (n + (xs.length : Int)) ys := by
  rw [laws_markIntS_2.f]
  have e : wts (fun _ : Int => 1) xs = xs.length := by
    induction xs with
    | nil => rfl
    | cons x xs ih => rw [wts_cons, ih (by simp at hl; omega), List.length_cons]; omega
  have := markL (U := 9000000000000000000) (P := PI) (B := 0) (z := (0 : Int)) (w := fun _ => 1) (xs := xs) (fun k n i ys => laws_markIntS_2.l0 k xs n i ys) (fun _ _ n => if n + 1 ≤ 9000000000000000000 ∧ 0 ≤ n then some (n + 1, n) else some (IntKind.i64.wrap (n + 1), n))
    (fun k n i ys hi hy => by
      show laws_markIntS_2.l0 (k + 1) xs n i ys = _
      rw [laws_markIntS_2.l0, if_pos (by omega), if_pos (by omega), Int.toNat_natCast]
      by_cases hh : n + 1 ≤ 9000000000000000000 ∧ 0 ≤ n
      · rw [if_pos hh, Option.bind_some, wrap_id (n := n + 1) (by omega) (by omega)]
      · rw [if_neg hh, Option.bind_some])
    (fun k n ys => by
      show laws_markIntS_2.l0 (k + 1) xs n xs.length ys = _
      rw [laws_markIntS_2.l0, if_neg (by omega)])
    (by omega) (fun x _ k _ n q0 q1 => ⟨n, by rw [if_pos ⟨q1, q0⟩]; rfl, rfl, rfl⟩) k (by omega) n h0 (by rw [e]; omega)
  rw [e] at this
  exact this
theorem heldIntS_val (xs : List Int) (k : Nat) (n m : Int) (hl : xs.length ≤ 4194304) (hk : 4194305 < k) (h0 : 0 ≤ n) (hm : m ≤ 9000000000000000000) (h : HL PI n m xs) : laws_heldIntS.f k xs n = some m ∧ n ≤ m := by
  rw [laws_heldIntS.f]
  have key : ∀ (q k i : Nat) (n : Int), xs.length - i = q → i ≤ xs.length → q < k → 0 ≤ n → HL PI n m (xs.drop i) → laws_heldIntS.l0 k xs n (i : Int) = some m ∧ n ≤ m := by
    intro q
    induction q with
    | zero =>
      intro k i n h1 h2 h3 h4 h5
      obtain ⟨k, rfl⟩ : ∃ q, k = q + 1 := ⟨k - 1, by omega⟩
      rw [List.drop_of_length_le (by omega)] at h5
      cases h5
      rw [laws_heldIntS.l0, if_neg (by omega)]
      exact ⟨rfl, Int.le_refl _⟩
    | succ q ih =>
      intro k i n h1 h2 h3 h4 h5
      obtain ⟨k, rfl⟩ : ∃ q, k = q + 1 := ⟨k - 1, by omega⟩
      have hi : i < xs.length := by omega
      rw [List.drop_eq_getElem_cons hi] at h5
      cases h5 with
      | cons p hr =>
        obtain ⟨rfl, p2⟩ := p
        have hle : n + 1 ≤ m := hr.le (fun _ _ _ h => by have := h.1; omega)
        rw [laws_heldIntS.l0, if_pos (by omega), if_pos (by omega), Int.toNat_natCast, getD_at hi, p2, if_neg (by simp), wrap_nat (by omega), wrap_id (n := n + 1) (by omega) (by omega)]
        obtain ⟨f1, f2⟩ := ih k (i + 1) (n + 1) (by omega) (by omega) (by omega) (by omega) hr
        exact ⟨f1, by omega⟩
  exact key xs.length k 0 n rfl (by omega) (by omega) h0 h
/-! ### the stores' words and shape -/
theorem l10word_val (cs : List Cell) (c : Cell) : spec_l10word.f cs c = some (decide (Okw cs c)) := by
  have hz : ∀ i : Nat, (cs.getD i z36).kind = kd cs i := fun _ => rfl
  unfold spec_l10word.f
  simp only [hz]
  repeat' split
  all_goals first
    | (refine congrArg some ?_; rw [eq_comm, decide_eq_false_iff_not]; unfold Okw; omega)
    | (refine congrArg some ?_; refine decide_eq_decide.2 ?_; unfold Okw; omega)
    | (exfalso; omega)
theorem points_val (s : Store) (c : Cell) : impl_Store_points.f s c = some (decide (Okw s.cells c)) := by
  have hz : ∀ i : Nat, (s.cells.getD i z36).kind = kd s.cells i := fun _ => rfl
  have hw : impl_wordOk.f c = some (decide (((c.kind = 0 ∨ c.kind = 4) ∧ c.text.length = 0) ∨ (c.kind = 1 ∧ -1000000000000000 ≤ c.n ∧ c.n ≤ 1000000000000000 ∧ c.text.length = 0) ∨ (c.kind = 2 ∧ c.n = 0 ∧ c.text.length ≤ 100))) := by
    unfold impl_wordOk.f impl_wordOk.l0
    repeat' split
    all_goals first
      | (refine congrArg some ?_; rw [eq_comm, decide_eq_false_iff_not]; simp only [decide_eq_true_eq] at *; omega)
      | (refine congrArg some ?_; refine decide_eq_decide.2 ?_; simp only [decide_eq_true_eq] at *; omega)
      | (exfalso; simp only [decide_eq_true_eq] at *; omega)
  unfold impl_Store_points.f
  rw [hw, Option.bind_some]
  simp only [hz]
  repeat' split
  all_goals simp only [decide_eq_true_eq] at *
  all_goals first
    | (refine congrArg some ?_; rw [eq_comm, decide_eq_false_iff_not]; unfold Okw; omega)
    | (refine congrArg some ?_; rw [eq_comm, decide_eq_true_iff]; unfold Okw; omega)
    | (refine congrArg some ?_; refine decide_eq_decide.2 ?_; unfold Okw; omega)
    | (exfalso; omega)
/-! ### the search of the specification -/
structure InvS (cs : List Cell) (ms : List Int) : Prop where
  len : ms.length = cs.length
  val : ∀ (i : Nat) (x : Int), ms[i]? = some x → x = 0 ∨ x = 1 ∨ x = 2
  ac : ∀ (i : Nat), ms[i]? = some 2 → Ac (sS cs) i
theorem InvS.set1 {cs : List Cell} {ms : List Int} (h : InvS cs ms) (t : Nat) : InvS cs (ms.set t 1) := by
  refine ⟨by rw [List.length_set]; exact h.len, fun i x hx => ?_, fun i hi => ?_⟩
  · rw [List.getElem?_set] at hx
    split at hx
    · split at hx
      · injection hx with hx; omega
      · cases hx
    · exact h.val i x hx
  · rw [List.getElem?_set] at hi
    split at hi
    · split at hi
      · injection hi with hi; omega
      · cases hi
    · exact h.ac i hi
theorem InvS.set2 {cs : List Cell} {ms : List Int} (h : InvS cs ms) {t : Nat} (ht : Ac (sS cs) t) : InvS cs (ms.set t 2) := by
  refine ⟨by rw [List.length_set]; exact h.len, fun i x hx => ?_, fun i hi => ?_⟩
  · rw [List.getElem?_set] at hx
    split at hx
    · split at hx
      · injection hx with hx; omega
      · cases hx
    · exact h.val i x hx
  · rw [List.getElem?_set] at hi
    split at hi
    · rename_i e; subst e; exact ht
    · exact h.ac i hi
def RoundS (cs : List Cell) (ms : List Int) (l : List Nat) (b : Bool) (ms' : List Int) : Prop :=
  InvS cs ms' ∧ white 0 ms' ≤ white 0 ms ∧ (b = true → (∀ i : Nat, ms'[i]? = some 1 ↔ ms[i]? = some 1) ∧ ∀ t, t ∈ l → Ac (sS cs) t) ∧
    ((∀ t, t ∈ l → Ac (sS cs) t) → (∀ g : Nat, ms[g]? = some 1 → ∀ t, t ∈ l → rk (sS cs) t < rk (sS cs) g) → b = true)
theorem round_eq (cs : List Cell) (ms : List Int) (w : Cell) (k : Nat) (hw : Okw cs w) (hm : ms.length = cs.length) : spec_l10round_2.f (k + 1) cs ms w =
    (match tgs cs w with
      | [] => some (true, ms)
      | t :: _ => if ms.getD t 0 > 0 then some (decide (ms.getD t 0 = 2), ms) else if w.kind = 0 then ((spec_l10round_2.f k cs (ms.set t 1) (cs.getD t z36)).bind fun r => if ¬ (r.1 = true) then some (false, r.2) else some (true, r.2.set t 2)) else spec_l10round_2.l0 k cs w 1 (ms.set t 1)) := by
  have hz : ∀ i : Nat, (cs.getD i z36).kind = kd cs i := fun _ => rfl
  have hy : ∀ i : Nat, (cs.getD i z36).n = nn cs i := fun _ => rfl
  rw [spec_l10round_2.f]
  simp only [hz, hy]
  rcases hw with ⟨h, _⟩ | ⟨h, _⟩ | ⟨h, _, h2, h3, h4⟩ | ⟨h, _, h2, h3, h4⟩
  · rw [if_neg (by omega), if_pos (by omega), if_pos (by omega), show tgs cs w = [] by unfold tgs; rw [if_neg (by omega), if_neg (by omega)]]
  · rw [if_neg (by omega), if_pos (by omega), if_pos (by omega), show tgs cs w = [] by unfold tgs; rw [if_neg (by omega), if_neg (by omega)]]
  · rw [if_pos h, if_pos h2, if_pos h3]
    by_cases hs : kd cs w.n.toNat = 0 ∧ nn cs w.n.toNat = w.n
    · rw [if_pos hs.1, if_pos hs.2, show tgs cs w = [] by unfold tgs; rw [if_pos h, if_pos hs]]
    · rw [show tgs cs w = [w.n.toNat] by unfold tgs; rw [if_pos h, if_neg hs]]
      show _ = if ms.getD w.n.toNat 0 > 0 then some (decide (ms.getD w.n.toNat 0 = 2), ms) else if w.kind = 0 then _ else _
      rw [if_pos (c := w.kind = 0) h]
      by_cases hk : kd cs w.n.toNat = 0
      · rw [if_pos hk, if_neg (fun e => hs ⟨hk, e⟩), if_neg (by omega), if_pos (by omega)]
      · rw [if_neg hk, if_neg (by omega), if_pos (by omega)]
  · rw [if_neg (by omega), if_pos (by omega), if_neg (by omega), if_pos h2, if_pos (by omega), show tgs cs w = [w.n.toNat] by unfold tgs; rw [if_neg (by omega), if_pos h]]
    show _ = if ms.getD w.n.toNat 0 > 0 then some (decide (ms.getD w.n.toNat 0 = 2), ms) else if w.kind = 0 then _ else _
    rw [if_neg (c := w.kind = 0) (by omega)]
theorem some_getD {α : Type} {l : List α} {i : Nat} {x z : α} (h : l[i]? = some x) : l.getD i z = x := by rw [List.getD_eq_getElem?_getD, h]; rfl
theorem tgs_lt {cs : List Cell} {w : Cell} (hw : Okw cs w) {t : Nat} (ht : t ∈ tgs cs w) : t < cs.length ∧ t = w.n.toNat ∧ 0 ≤ w.n ∧ tgs cs w = [t] ∧ ((w.kind = 0 ∧ kd cs t ≠ 3) ∨ (w.kind = 4 ∧ kd cs t = 3)) := by
  unfold tgs at ht ⊢
  unfold Okw at hw
  split at ht
  · split at ht
    · cases ht
    · rename_i q1 q2
      rw [List.mem_singleton] at ht
      subst ht
      rw [if_pos q1, if_neg q2]
      exact ⟨by omega, rfl, by omega, rfl, .inl ⟨q1, by omega⟩⟩
  · split at ht
    · rename_i q1 q2
      rw [List.mem_singleton] at ht
      subst ht
      rw [if_neg q1, if_pos q2]
      exact ⟨by omega, rfl, by omega, rfl, .inr ⟨q2, by omega⟩⟩
    · cases ht
theorem round_val (cs : List Cell) (g : Goodc cs) (hL : cs.length ≤ 100000) : ∀ (u : Nat) (ms : List Int) (w : Cell) (k : Nat), InvS cs ms → white 0 ms ≤ u → Okw cs w → 30 * u + 5 < k → ∃ b ms', spec_l10round_2.f k cs ms w = some (b, ms') ∧ RoundS cs ms (tgs cs w) b ms' := by
  intro u
  induction u with
  | zero =>
    intro ms w k hI hu hw hk
    obtain ⟨k, rfl⟩ : ∃ q, k = q + 1 := ⟨k - 1, by omega⟩
    rw [round_eq cs ms w k hw hI.len]
    cases ht : tgs cs w with
    | nil => exact ⟨true, ms, rfl, hI, Nat.le_refl _, fun _ => ⟨fun _ => Iff.rfl, fun t h => by cases h⟩, fun _ _ => rfl⟩
    | cons t l =>
      obtain ⟨h1, h2, h3, h4, h5⟩ := tgs_lt hw (show t ∈ tgs cs w by rw [ht]; exact .head _)
      obtain rfl : l = [] := by rw [ht] at h4; exact (List.cons.inj h4).2
      obtain ⟨x, hx⟩ : ∃ x, ms[t]? = some x := ⟨ms[t]'(by have := hI.len; omega), List.getElem?_eq_getElem _⟩
      show ∃ b ms', (if ms.getD t 0 > 0 then some (decide (ms.getD t 0 = 2), ms) else _) = some (b, ms') ∧ _
      rw [some_getD hx]
      rcases hI.val t x hx with rfl | rfl | rfl
      · exfalso
        have ht' : t < ms.length := by have := hI.len; omega
        have := white_set (z := (0 : Int)) ht' (by rw [List.getElem?_eq_getElem ht'] at hx; injection hx) (x := 1) (by decide)
        omega
      · rw [if_pos (by decide)]
        exact ⟨false, ms, rfl, hI, Nat.le_refl _, fun h => (by cases h), fun _ q => absurd (q t hx t (.head _)) (Nat.lt_irrefl _)⟩
      · rw [if_pos (by decide)]
        exact ⟨true, ms, rfl, hI, Nat.le_refl _, fun _ => ⟨fun _ => Iff.rfl, fun s hs => by rw [List.mem_singleton.1 hs]; exact hI.ac t hx⟩, fun _ _ => rfl⟩
  | succ u ih =>
    intro ms w k hI hu hw hk
    obtain ⟨k, rfl⟩ : ∃ q, k = q + 1 := ⟨k - 1, by omega⟩
    rw [round_eq cs ms w k hw hI.len]
    cases ht : tgs cs w with
    | nil => exact ⟨true, ms, rfl, hI, Nat.le_refl _, fun _ => ⟨fun _ => Iff.rfl, fun t h => by cases h⟩, fun _ _ => rfl⟩
    | cons t l =>
      obtain ⟨h1, h2, h3, h4, h5⟩ := tgs_lt hw (show t ∈ tgs cs w by rw [ht]; exact .head _)
      obtain rfl : l = [] := by rw [ht] at h4; exact (List.cons.inj h4).2
      have ht' : t < ms.length := by have := hI.len; omega
      obtain ⟨x, hx⟩ : ∃ x, ms[t]? = some x := ⟨ms[t], List.getElem?_eq_getElem _⟩
      show ∃ b ms', (if ms.getD t 0 > 0 then some (decide (ms.getD t 0 = 2), ms) else if w.kind = 0 then _ else _) = some (b, ms') ∧ _
      rw [some_getD hx]
      rcases hI.val t x hx with rfl | rfl | rfl
      · rw [if_neg (by decide)]
        have hwh := white_set (z := (0 : Int)) ht' (by rw [List.getElem?_eq_getElem ht'] at hx; injection hx) (x := 1) (by decide)
        have hI1 := hI.set1 t
        have hgrey : ∀ i : Nat, (ms.set t 1)[i]? = some 1 ↔ i = t ∨ ms[i]? = some 1 := fun i => by
          rw [List.getElem?_set]
          by_cases e : t = i
          · subst e; rw [if_pos rfl, if_pos ht']; simp
          · rw [if_neg e]; exact ⟨.inr, fun q => q.elim (fun q => absurd q.symm e) id⟩
        have hfin : ∀ ms2 : List Int, InvS cs ms2 → (∀ i : Nat, ms2[i]? = some 1 ↔ (ms.set t 1)[i]? = some 1) → white 0 ms2 ≤ white 0 (ms.set t 1) → Ac (sS cs) t → RoundS cs ms [t] true (ms2.set t 2) := fun ms2 i2 g2 w2 a2 => by
          have t2 : ms2[t]? = some 1 := (g2 t).2 ((hgrey t).2 (.inl rfl))
          have tl : t < ms2.length := by rw [i2.len]; exact h1
          refine ⟨i2.set2 a2, ?_, fun _ => ⟨fun i => ?_, fun s hs => by rw [List.mem_singleton.1 hs]; exact a2⟩, fun _ _ => rfl⟩
          · rw [white_set2 (z := (0 : Int)) tl (by rw [List.getElem?_eq_getElem tl] at t2; injection t2 with t2; rw [t2]; decide) (by decide)]; omega
          · rw [List.getElem?_set]
            by_cases e : t = i
            · subst e; rw [if_pos rfl, if_pos tl, hx]; simp
            · rw [if_neg e, g2, hgrey]; exact ⟨fun q => q.elim (fun q => absurd q.symm e) id, .inr⟩
        have hsub : ∀ s, s ∈ sS cs t → Ac (sS cs) t → (∀ g : Nat, ms[g]? = some 1 → rk (sS cs) t < rk (sS cs) g) → ∀ g : Nat, (ms.set t 1)[g]? = some 1 → rk (sS cs) s < rk (sS cs) g := fun s hs a q g hg => by
          have := rk_lt a hs
          rcases (hgrey g).1 hg with e | e
          · rw [e]; exact this
          · exact Nat.lt_trans this (q g e)
        rcases h5 with ⟨hk0, hk3⟩ | ⟨hk4, hk3⟩
        · rw [if_pos hk0]
          have hok := g.w t h1 hk3
          have hS : sS cs t = tgs cs (cs.getD t c0) := by unfold sS wds; rw [if_neg hk3]; simp
          obtain ⟨b1, ms2, e1, r1, r2, r3, r4⟩ := ih (ms.set t 1) (cs.getD t c0) k hI1 (by omega) hok (by omega)
          have e1' : spec_l10round_2.f k cs (ms.set t 1) (cs.getD t z36) = some (b1, ms2) := e1
          rw [e1', Option.bind_some]
          cases b1 with
          | false =>
            rw [if_pos (by simp)]
            refine ⟨false, ms2, rfl, r1, by omega, fun h => (by cases h), fun ha hr => ?_⟩
            refine r4 (fun s hs => ?_) (fun g' hg s hs => ?_)
            · rw [← hS] at hs
              cases ha t (.head _) with
              | mk q => exact q s hs
            · rw [← hS] at hs
              exact hsub s hs (ha t (.head _)) (fun g q => hr g q t (.head _)) g' hg
          | true =>
            rw [if_neg (by simp)]
            obtain ⟨q1, q2⟩ := r3 rfl
            exact ⟨true, ms2.set t 2, rfl, hfin ms2 r1 q1 r2 (.mk fun s hs => q2 s (by rw [← hS]; exact hs))⟩
        · rw [if_neg (by omega)]
          obtain ⟨f1, f2, f3⟩ := g.f t h1 hk3
          have hn : nn cs t ≤ 20 := f1.2.1
          have hn1 : 1 ≤ nn cs t := f1.1
          have loop : ∀ (m j : Nat) (ms2 : List Int) (k : Nat), (nn cs t).toNat + 1 - j = m → 1 ≤ j → j ≤ (nn cs t).toNat + 1 → InvS cs ms2 → white 0 ms2 ≤ u → 30 * u + 5 + m + 1 < k →
              ∃ b ms3, spec_l10round_2.l0 k cs w (j : Int) ms2 = some (b, if b = true then ms3.set t 2 else ms3) ∧ RoundS cs ms2 ((List.range m).flatMap fun i => tgs cs (cs.getD (t + j + i) c0)) b ms3 := by
            intro m
            induction m with
            | zero =>
              intro j ms2 k hm hj hj2 i2 w2 hk
              obtain ⟨k, rfl⟩ : ∃ q, k = q + 1 := ⟨k - 1, by omega⟩
              have hnn : (cs.getD w.n.toNat z36).n = nn cs t := by rw [← h2]; rfl
              rw [spec_l10round_2.l0, if_pos (by omega), hnn, if_neg (by omega)]
              refine ⟨true, ms2, by rw [if_pos rfl, h2], i2, Nat.le_refl _, fun _ => ⟨fun _ => Iff.rfl, fun s hs => by simp at hs⟩, fun _ _ => rfl⟩
            | succ m ihm =>
              intro j ms2 k hm hj hj2 i2 w2 hk
              obtain ⟨k, rfl⟩ : ∃ q, k = q + 1 := ⟨k - 1, by omega⟩
              have hnn : (cs.getD w.n.toNat z36).n = nn cs t := by rw [← h2]; rfl
              have hwn : w.n = (t : Int) := by omega
              have hadd : IntKind.i64.wrap (w.n + (j : Int)) = ((t + j : Nat) : Int) := by rw [hwn, wrap_id (by omega) (by omega)]; omega
              have hlt : t + j < cs.length := by omega
              rw [spec_l10round_2.l0, if_pos (by omega), hnn, if_pos (by omega), hadd, if_pos (by omega), if_pos (by omega), Int.toNat_natCast, wrap_nat (by omega)]
              have hok := g.w (t + j) hlt (f3 j hj (by omega))
              obtain ⟨b1, ms3, e1, r1, r2, r3, r4⟩ := ih ms2 (cs.getD (t + j) c0) k i2 w2 hok (by omega)
              have e1' : spec_l10round_2.f k cs ms2 (cs.getD (t + j) z36) = some (b1, ms3) := e1
              have hfl : ((List.range (m + 1)).flatMap fun i => tgs cs (cs.getD (t + j + i) c0)) = tgs cs (cs.getD (t + j) c0) ++ ((List.range m).flatMap fun i => tgs cs (cs.getD (t + (j + 1) + i) c0)) := by
                rw [List.range_succ_eq_map, List.flatMap_cons, List.flatMap_map]
                congr 2
                funext i
                rw [show t + j + i.succ = t + (j + 1) + i by omega]
              rw [e1', Option.bind_some, hfl]
              cases b1 with
              | false =>
                rw [if_pos (by simp)]
                refine ⟨false, ms3, rfl, r1, r2, fun h => (by cases h), fun ha hr => ?_⟩
                exact r4 (fun s hs => ha s (List.mem_append_left _ hs)) (fun g q s hs => hr g q s (List.mem_append_left _ hs))
              | true =>
                rw [if_neg (by simp)]
                obtain ⟨q1, q2⟩ := r3 rfl
                obtain ⟨b, ms4, e2, s1, s2, s3, s4⟩ := ihm (j + 1) ms3 k (by omega) (by omega) (by omega) r1 (by omega) (by omega)
                refine ⟨b, ms4, e2, s1, by omega, fun hb => ?_, fun ha hr => ?_⟩
                · obtain ⟨p1, p2⟩ := s3 hb
                  exact ⟨fun i => (p1 i).trans (q1 i), fun s hs => (List.mem_append.1 hs).elim (q2 s) (p2 s)⟩
                · exact s4 (fun s hs => ha s (List.mem_append_right _ hs)) (fun g q s hs => hr g ((q1 g).1 q) s (List.mem_append_right _ hs))
          have hS : sS cs t = (List.range (nn cs t).toNat).flatMap fun i => tgs cs (cs.getD (t + 1 + i) c0) := by unfold sS wds; rw [if_pos hk3, List.flatMap_map]
          obtain ⟨b1, ms3, e1, r1, r2, r3, r4⟩ := loop (nn cs t).toNat 1 (ms.set t 1) k (by omega) (by omega) (by omega) hI1 (by omega) (by omega)
          rw [← hS] at r3 r4
          rw [show ((1 : Nat) : Int) = 1 from rfl] at e1
          rw [e1]
          cases b1 with
          | false =>
            refine ⟨false, ms3, rfl, r1, by omega, fun h => (by cases h), fun ha hr => ?_⟩
            refine r4 (fun s hs => ?_) (fun g' hg s hs => ?_)
            · cases ha t (.head _) with
              | mk q => exact q s hs
            · exact hsub s hs (ha t (.head _)) (fun g q => hr g q t (.head _)) g' hg
          | true =>
            obtain ⟨q1, q2⟩ := r3 rfl
            exact ⟨true, ms3.set t 2, rfl, hfin ms3 r1 q1 r2 (.mk fun s hs => q2 s hs)⟩
      · rw [if_pos (by decide)]
        exact ⟨false, ms, rfl, hI, Nat.le_refl _, fun h => (by cases h), fun _ q => absurd (q t hx t (.head _)) (Nat.lt_irrefl _)⟩
      · rw [if_pos (by decide)]
        exact ⟨true, ms, rfl, hI, Nat.le_refl _, fun _ => ⟨fun _ => Iff.rfl, fun s hs => by rw [List.mem_singleton.1 hs]; exact hI.ac t hx⟩, fun _ _ => rfl⟩
/-! ### the program's search -/
theorem c1_val (s : Store) (g : Goodc s.cells) (hL : s.cells.length ≤ 100000) (a k : Nat) (ha : a < s.cells.length) (hk : kd s.cells a ≠ 3) (hk2 : k ≤ 100) : impl_Store_ok_c1.f (a : Int) (k : Int) s = some (match (sI s.cells a)[k]? with | some b => ((b : Int), true) | none => (0, false)) := by
  have hz : ∀ i : Nat, (s.cells.getD i z36).kind = kd s.cells i := fun _ => rfl
  have hy : ∀ i : Nat, (s.cells.getD i z36).n = nn s.cells i := fun _ => rfl
  have hw := g.w a ha hk
  have e1 : (s.cells.getD a c0).kind = kd s.cells a := rfl
  have e2 : (s.cells.getD a c0).n = nn s.cells a := rfl
  unfold Okw at hw
  rw [e1, e2] at hw
  have h4 : kd s.cells a = 4 → sI s.cells a = (List.range (nn s.cells (nn s.cells a).toNat).toNat).map (fun k => (nn s.cells a).toNat + 1 + k) := fun q => by unfold sI; rw [if_neg (by omega), if_pos q]
  have h0 : kd s.cells a ≠ 4 → ¬ (kd s.cells a = 0 ∧ nn s.cells a ≠ (a : Int)) → sI s.cells a = [] := fun q q2 => by unfold sI; rw [if_neg q2, if_neg q]
  have tail : (kd s.cells a = 0 → nn s.cells a = (a : Int)) → (if kd s.cells a = 4 then (if 0 ≤ nn s.cells a then (if nn s.cells a < (s.cells.length : Int) then (if (k : Int) < nn s.cells (nn s.cells a).toNat then some ((IntKind.i64.wrap ((IntKind.i64.wrap (nn s.cells a + 1)) + (k : Int))), true) else some (0, false)) else none) else none) else some (0, false)) = some (match (sI s.cells a)[k]? with | some b => ((b : Int), true) | none => (0, false)) := fun hne => by
    by_cases q : kd s.cells a = 4
    · have hw4 : 0 ≤ nn s.cells a ∧ nn s.cells a < (s.cells.length : Int) := by omega
      rw [if_pos q, if_pos hw4.1, if_pos hw4.2, h4 q, wrap_id (n := nn s.cells a + 1) (by omega) (by omega), wrap_id (by omega) (by omega)]
      by_cases q2 : (k : Int) < nn s.cells (nn s.cells a).toNat
      · rw [if_pos q2, List.getElem?_map, List.getElem?_range (by omega)]
        show some (nn s.cells a + 1 + (k : Int), true) = some ((((nn s.cells a).toNat + 1 + k : Nat) : Int), true)
        rw [show (((nn s.cells a).toNat + 1 + k : Nat) : Int) = nn s.cells a + 1 + (k : Int) by omega]
      · rw [if_neg q2, List.getElem?_eq_none (by simp; omega)]
    · rw [if_neg q, h0 q (fun h => h.2 (hne h.1))]; rfl
  rw [impl_Store_ok_c1.f, if_pos (by omega), if_pos (by omega), Int.toNat_natCast]
  simp only [hz, hy]
  by_cases q0 : kd s.cells a = 0
  · rw [if_pos q0]
    by_cases q1 : nn s.cells a ≠ (a : Int)
    · have hs : sI s.cells a = [(nn s.cells a).toNat] := by unfold sI; rw [if_pos ⟨q0, q1⟩]
      rw [if_pos q1, hs]
      cases k with
      | zero =>
        rw [if_pos (by omega)]
        show some (nn s.cells a, true) = some (((nn s.cells a).toNat : Int), true)
        rw [show ((nn s.cells a).toNat : Int) = nn s.cells a by omega]
      | succ k => rw [if_neg (by omega), if_neg (by omega)]; rfl
    · rw [if_neg q1]; exact tail (fun _ => by omega)
  · rw [if_neg q0]; exact tail (fun q => absurd q q0)
structure InvI (cs : List Cell) (ms : List UInt8) : Prop where
  len : ms.length = cs.length
  val : ∀ (i : Nat) (x : UInt8), ms[i]? = some x → x = 0 ∨ x = 1 ∨ x = 2
  ac : ∀ (i : Nat), ms[i]? = some 2 → Ac (sI cs) i
def Ok1 (cs : List Cell) (ms : List UInt8) (a n : Nat) : Prop := a < cs.length ∧ kd cs a ≠ 3 ∧ ms[a]? = some 1 ∧ n ≤ 20 ∧ ∀ k b : Nat, k < n → (sI cs a)[k]? = some b → ms[b]? = some 2
def Bel (cs : List Cell) (ms : List UInt8) : Nat → List (Nat × Nat) → Prop
  | _, [] => True
  | c, p :: S => (∃ n', p.2 = n' + 1 ∧ n' < 20 ∧ (sI cs p.1)[n']? = some c ∧ Ok1 cs ms p.1 n') ∧ Bel cs ms p.1 S
def StkI (cs : List Cell) (ms : List UInt8) : List (Nat × Nat) → Prop
  | [] => True
  | p :: S => Ok1 cs ms p.1 p.2 ∧ Bel cs ms p.1 S
def stk (S : List (Nat × Nat)) : List GStep := S.reverse.map fun p => ⟨(p.1 : Int), (p.2 : Int)⟩
def mu (S : List (Nat × Nat)) : Nat := (S.map fun p => 22 - p.2).sum
theorem Ok1.mono {cs : List Cell} {ms ms' : List UInt8} {a n : Nat} (h : Ok1 cs ms a n) (hb : ∀ b : Nat, ms[b]? = some 2 → ms'[b]? = some 2) (ha : ms'[a]? = some 1) : Ok1 cs ms' a n :=
  ⟨h.1, h.2.1, ha, h.2.2.2.1, fun k b hk e => hb b (h.2.2.2.2 k b hk e)⟩
theorem Bel.mono {cs : List Cell} {ms ms' : List UInt8} (hb : ∀ b : Nat, ms[b]? = some 2 → ms'[b]? = some 2) : ∀ (S : List (Nat × Nat)) (c : Nat), Bel cs ms c S → (∀ p, p ∈ S → ms'[p.1]? = some 1) → Bel cs ms' c S
  | [], _, _, _ => trivial
  | p :: S, c, h, hs => by
    obtain ⟨⟨n', e1, e2, e3, e4⟩, h2⟩ := h
    exact ⟨⟨n', e1, e2, e3, e4.mono hb (hs p (.head _))⟩, Bel.mono hb S p.1 h2 fun q hq => hs q (.tail _ hq)⟩
theorem Bel.grey {cs : List Cell} {ms : List UInt8} : ∀ (S : List (Nat × Nat)) (c : Nat), Bel cs ms c S → ∀ p, p ∈ S → ms[p.1]? = some 1
  | p :: S, c, h, q, hq => by
    rcases List.mem_cons.1 hq with rfl | hq
    · obtain ⟨⟨n', _, _, _, e⟩, _⟩ := h; exact e.2.2.1
    · exact Bel.grey S p.1 h.2 q hq
theorem Bel.rk {cs : List Cell} {ms : List UInt8} (hA : ∀ a, a < cs.length → kd cs a ≠ 3 → Ac (sI cs) a) : ∀ (S : List (Nat × Nat)) (c : Nat), Bel cs ms c S → ∀ p, p ∈ S → rk (sI cs) c < rk (sI cs) p.1
  | p :: S, c, h, q, hq => by
    obtain ⟨⟨n', _, _, e3, e⟩, h2⟩ := h
    have := rk_lt (hA p.1 e.1 e.2.1) (List.mem_of_getElem? e3)
    rcases List.mem_cons.1 hq with rfl | hq
    · exact this
    · have := Bel.rk hA S p.1 h2 q hq; omega
theorem InvI.set1 {cs : List Cell} {ms : List UInt8} (h : InvI cs ms) (t : Nat) : InvI cs (ms.set t 1) := by
  refine ⟨by rw [List.length_set]; exact h.len, fun i x hx => ?_, fun i hi => ?_⟩
  · rw [List.getElem?_set] at hx
    split at hx
    · split at hx
      · injection hx with hx; exact .inr (.inl hx.symm)
      · cases hx
    · exact h.val i x hx
  · rw [List.getElem?_set] at hi
    split at hi
    · split at hi
      · injection hi with hi; exact absurd hi (by decide)
      · cases hi
    · exact h.ac i hi
theorem InvI.set2 {cs : List Cell} {ms : List UInt8} (h : InvI cs ms) {t : Nat} (ht : Ac (sI cs) t) : InvI cs (ms.set t 2) := by
  refine ⟨by rw [List.length_set]; exact h.len, fun i x hx => ?_, fun i hi => ?_⟩
  · rw [List.getElem?_set] at hx
    split at hx
    · split at hx
      · injection hx with hx; exact .inr (.inr hx.symm)
      · cases hx
    · exact h.val i x hx
  · rw [List.getElem?_set] at hi
    split at hi
    · rename_i e; subst e; exact ht
    · exact h.ac i hi
theorem stk_cons (p : Nat × Nat) (S : List (Nat × Nat)) : stk (p :: S) = stk S ++ [⟨(p.1 : Int), (p.2 : Int)⟩] := by simp [stk]
theorem stk_len (S : List (Nat × Nat)) : (stk S).length = S.length := by simp [stk]
theorem get_stk (p : Nat × Nat) (S : List (Nat × Nat)) (z : GStep) : (stk (p :: S)).getD (stk S).length z = ⟨(p.1 : Int), (p.2 : Int)⟩ := by
  rw [stk_cons, List.getD_eq_getElem?_getD, List.getElem?_append_right (Nat.le_refl _), Nat.sub_self]; rfl
theorem set_ne2 {ms : List UInt8} {t : Nat} {x : UInt8} (h : ms[t]? ≠ some 2) (b : Nat) (hb : ms[b]? = some 2) : (ms.set t x)[b]? = some 2 := by
  rw [List.getElem?_set]
  by_cases e : t = b
  · subst e; exact absurd hb h
  · rw [if_neg e]; exact hb
theorem l4_val (s : Store) (i : Nat) (g : Goodc s.cells) (hL : s.cells.length ≤ 20000) (hi : i < s.cells.length) : ∀ (N : Nat) (S : List (Nat × Nat)) (ms : List UInt8) (k : Nat), 24 * white 0 ms + mu S ≤ N → N + 1 < k → InvI s.cells ms → StkI s.cells ms S → (S.map Prod.fst).Nodup → S.length ≤ 20000 → (∀ q : Nat, ms[q]? = some 1 → q ∈ S.map Prod.fst) → S.length + white 0 ms ≤ 20000 →
    (impl_Store_ok.l4 k s (i : Int) (stk S) ms = some false ∧ ¬ (∀ a, a < s.cells.length → kd s.cells a ≠ 3 → Ac (sI s.cells) a)) ∨
    ∃ k' ms', impl_Store_ok.l4 k s (i : Int) (stk S) ms = impl_Store_ok.l3 k' s ((i + 1 : Nat) : Int) ms' ∧ k + 24 * white 0 ms' ≤ k' + 24 * white 0 ms + mu S + 1 ∧ InvI s.cells ms' ∧ (∀ q : Nat, ms'[q]? ≠ some 1) ∧ (∀ q : Nat, ms[q]? = some 2 → ms'[q]? = some 2) ∧ ∀ p, p ∈ S → ms'[p.1]? = some 2 := by
  intro N
  induction N using Nat.strongRecOn with
  | _ N ih =>
    intro S ms k hN hk hI hS hnd hSl hgr hSw
    obtain ⟨k, rfl⟩ : ∃ q, k = q + 1 := ⟨k - 1, by omega⟩
    cases S with
    | nil =>
      right
      refine ⟨k, ms, ?_, by simp [mu]; omega, hI, fun q h => (by cases hgr q h), fun _ h => h, fun p hp => by cases hp⟩
      rw [impl_Store_ok.l4, if_neg (by simp [stk]), wrap_nat (by omega)]
    | cons p S =>
      obtain ⟨a, n⟩ := p
      obtain ⟨h1, h2⟩ := hS
      obtain ⟨a1, a2, a3, a4, a5⟩ := h1
      have a1 : a < s.cells.length := a1
      have a2 : kd s.cells a ≠ 3 := a2
      have a3 : ms[a]? = some 1 := a3
      have a4 : n ≤ 20 := a4
      have hlen : (stk ((a, n) :: S)).length = S.length + 1 := by rw [stk_len]; rfl
      have hsl : (stk S).length = S.length := stk_len S
      simp only [List.length_cons] at hSl hSw
      have hidx : IntKind.i64.wrap (((stk ((a, n) :: S)).length : Int) - 1) = (((stk S).length : Nat) : Int) := by rw [hlen, hsl, wrap_id (by omega) (by omega)]; omega
      have hme : mu ((a, n) :: S) = 22 - n + mu S := by simp [mu]
      rw [impl_Store_ok.l4, if_pos (by rw [hlen]; omega), hidx, if_pos (by omega), if_pos (by rw [hlen, hsl]; omega), Int.toNat_natCast, get_stk, c1_val s g (by omega) a n a1 a2 (by omega), Option.bind_some]
      have hal : a < ms.length := by rw [hI.len]; exact a1
      have hane : ms[a]? ≠ some 2 := by rw [a3]; simp
      cases hq : (sI s.cells a)[n]? with
      | none =>
        have hAc : Ac (sI s.cells) a := .mk fun b hb => by
          obtain ⟨k', hk'⟩ := List.getElem?_of_mem hb
          refine hI.ac b (a5 k' b ?_ hk')
          rcases Nat.lt_or_ge k' n with q | q
          · exact q
          · rw [List.getElem?_eq_none_iff] at hq
            rw [List.getElem?_eq_none (by omega)] at hk'
            cases hk'
        rw [if_pos (by simp), if_pos (by show (0 : Int) ≤ (a : Int); omega), if_pos (by show (a : Int) < _; omega), if_pos (by rw [hlen, hsl]; omega)]
        have htake : (stk ((a, n) :: S)).take (stk S).length = stk S := by rw [stk_cons, List.take_left']; rfl
        rw [htake]
        show (impl_Store_ok.l4 k s (i : Int) (stk S) (ms.set ((a : Int)).toNat 2) = some false ∧ _) ∨ ∃ k' ms', impl_Store_ok.l4 k s (i : Int) (stk S) (ms.set ((a : Int)).toNat 2) = _ ∧ _
        rw [Int.toNat_natCast]
        have hwh : white 0 (ms.set a 2) = white 0 ms := white_set2 (z := (0 : UInt8)) hal (by rw [List.getElem?_eq_getElem hal] at a3; injection a3 with a3; rw [a3]; decide) (by decide)
        simp only [List.map_cons, List.nodup_cons] at hnd
        have hneq : ∀ p, p ∈ S → a ≠ p.1 := fun p hp e => hnd.1 (List.mem_map.2 ⟨p, hp, e.symm⟩)
        have hb2 : ∀ b : Nat, ms[b]? = some 2 → (ms.set a 2)[b]? = some 2 := set_ne2 hane
        have ha2 : (ms.set a 2)[a]? = some 2 := by rw [List.getElem?_set, if_pos rfl, if_pos hal]
        have hg1 : ∀ p, p ∈ S → (ms.set a 2)[p.1]? = some 1 := fun p hp => by
          rw [List.getElem?_set, if_neg (hneq p hp)]; exact Bel.grey S a h2 p hp
        have hS' : StkI s.cells (ms.set a 2) S := by
          cases S with
          | nil => trivial
          | cons q S =>
            obtain ⟨⟨n', b1, b2, b3, b4⟩, b5⟩ := h2
            refine ⟨⟨b4.1, b4.2.1, hg1 q (.head _), by omega, fun k' b hk' e => ?_⟩, Bel.mono hb2 S q.1 b5 fun p hp => hg1 p (.tail _ hp)⟩
            rcases Nat.lt_or_ge k' n' with z | z
            · exact hb2 b (b4.2.2.2.2 k' b z e)
            · rw [show k' = n' by omega, b3] at e
              injection e with e
              rw [← e]; exact ha2
        have := ih (24 * white 0 (ms.set a 2) + mu S) (by rw [hme] at hN; omega) S (ms.set a 2) k (Nat.le_refl _) (by rw [hme] at hN; omega) (hI.set2 hAc) hS' hnd.2 (by omega) (fun q hq => by
          rw [List.getElem?_set] at hq
          by_cases e : a = q
          · subst e; rw [if_pos rfl, if_pos hal] at hq; injection hq with hq; exact absurd hq (by decide)
          · rw [if_neg e] at hq
            have := hgr q hq
            rw [List.map_cons] at this
            exact (List.mem_cons.1 this).elim (fun w => absurd w.symm e) id) (by omega)
        rcases this with ⟨e1, e2⟩ | ⟨k', ms', e1, e2, e3, e4, e5, e6⟩
        · exact .inl ⟨e1, e2⟩
        · refine .inr ⟨k', ms', e1, by rw [hme]; omega, e3, e4, fun q hq => e5 q (hb2 q hq), fun p hp => ?_⟩
          rcases List.mem_cons.1 hp with rfl | hp
          · exact e5 a ha2
          · exact e6 p hp
      | some b =>
        have hbm : b ∈ sI s.cells a := List.mem_of_getElem? hq
        obtain ⟨b1, b2⟩ := g.next a1 a2 hbm
        have hnl : n < 20 := by
          have := g.len a1 a2
          rcases Nat.lt_or_ge n (sI s.cells a).length with z | z
          · omega
          · rw [List.getElem?_eq_none z] at hq; cases hq
        have hbl : b < ms.length := by rw [hI.len]; exact b1
        obtain ⟨x, hx⟩ : ∃ x, ms[b]? = some x := ⟨ms[b], List.getElem?_eq_getElem _⟩
        rw [if_neg (by simp), if_pos (by show (0 : Int) ≤ (b : Int); omega), if_pos (by show (b : Int) < _; omega)]
        have hset : (stk ((a, n) :: S)).set (stk S).length ({(⟨(a : Int), (n : Int)⟩ : GStep) with next_ := IntKind.i64.wrap ((n : Int) + 1)}) = stk ((a, n + 1) :: S) := by
          rw [stk_cons, stk_cons, List.set_append_right _ _ (Nat.le_refl _), Nat.sub_self, wrap_nat (by omega)]; rfl
        have hset' : (stk ((a, n) :: S)).set (stk S).length ({((stk ((a, n) :: S)).getD (stk S).length z86) with next_ := IntKind.i64.wrap ((((stk ((a, n) :: S)).getD (stk S).length z86).next_) + 1)}) = stk ((a, n + 1) :: S) := by rw [get_stk]; exact hset
        show ((if ((ms.getD ((b : Int)).toNat (0 : UInt8)).toNat : Int) = 0 then (if (stk ((a, n) :: S)).length + 1 ≤ 8796093022208 then (impl_Store_ok.l4 k s (i : Int) (((stk ((a, n) :: S)).set (stk S).length ({(⟨(a : Int), (n : Int)⟩ : GStep) with next_ := IntKind.i64.wrap ((n : Int) + 1)})) ++ [(⟨(b : Int), 0⟩ : GStep)]) (ms.set ((b : Int)).toNat (1 : UInt8))) else none) else (if ((ms.getD ((b : Int)).toNat (0 : UInt8)).toNat : Int) = 1 then some false else (impl_Store_ok.l4 k s (i : Int) ((stk ((a, n) :: S)).set (stk S).length ({(⟨(a : Int), (n : Int)⟩ : GStep) with next_ := IntKind.i64.wrap ((n : Int) + 1)})) ms))) = some false ∧ _) ∨ ∃ k' ms', (if ((ms.getD ((b : Int)).toNat (0 : UInt8)).toNat : Int) = 0 then (if (stk ((a, n) :: S)).length + 1 ≤ 8796093022208 then (impl_Store_ok.l4 k s (i : Int) (((stk ((a, n) :: S)).set (stk S).length ({(⟨(a : Int), (n : Int)⟩ : GStep) with next_ := IntKind.i64.wrap ((n : Int) + 1)})) ++ [(⟨(b : Int), 0⟩ : GStep)]) (ms.set ((b : Int)).toNat (1 : UInt8))) else none) else (if ((ms.getD ((b : Int)).toNat (0 : UInt8)).toNat : Int) = 1 then some false else (impl_Store_ok.l4 k s (i : Int) ((stk ((a, n) :: S)).set (stk S).length ({(⟨(a : Int), (n : Int)⟩ : GStep) with next_ := IntKind.i64.wrap ((n : Int) + 1)})) ms))) = _ ∧ _
        rw [hset, Int.toNat_natCast, some_getD hx]
        have hmu1 : mu ((a, n + 1) :: S) + 1 = mu ((a, n) :: S) := by rw [hme]; simp [mu]; omega
        rcases hI.val b x hx with rfl | rfl | rfl
        · -- white
          rw [if_pos (by decide), if_pos (by rw [hlen]; omega)]
          have hwh := white_set (z := (0 : UInt8)) hbl (by rw [List.getElem?_eq_getElem hbl] at hx; injection hx) (x := 1) (by decide)
          have hst : stk ((a, n + 1) :: S) ++ [(⟨(b : Int), 0⟩ : GStep)] = stk ((b, 0) :: (a, n + 1) :: S) := by rw [stk_cons (b, 0)]; rfl
          rw [hst]
          have hbne : ms[b]? ≠ some 2 := by rw [hx]; simp
          have hb2 := set_ne2 (x := 1) hbne
          have hbb : (ms.set b 1)[b]? = some 1 := by rw [List.getElem?_set, if_pos rfl, if_pos hbl]
          have hnab : b ≠ a := fun e => by rw [e, a3] at hx; injection hx with hx; exact absurd hx (by decide)
          have hnS : ∀ p, p ∈ S → b ≠ p.1 := fun p hp e => by
            have := Bel.grey S a h2 p hp
            rw [← e, hx] at this; injection this with this; exact absurd this (by decide)
          have hg1 : ∀ p, p ∈ S → (ms.set b 1)[p.1]? = some 1 := fun p hp => by rw [List.getElem?_set, if_neg (hnS p hp)]; exact Bel.grey S a h2 p hp
          have hga : (ms.set b 1)[a]? = some 1 := by rw [List.getElem?_set, if_neg hnab]; exact a3
          have hmu2 : mu ((b, 0) :: (a, n + 1) :: S) = 22 + mu ((a, n + 1) :: S) := by simp [mu]
          have := ih (24 * white 0 (ms.set b 1) + mu ((b, 0) :: (a, n + 1) :: S)) (by rw [hmu2]; omega) ((b, 0) :: (a, n + 1) :: S) (ms.set b 1) k (Nat.le_refl _) (by rw [hmu2]; omega) (hI.set1 b)
            ⟨⟨b1, b2, hbb, by omega, fun k' b' hk' _ => absurd hk' (Nat.not_lt_zero _)⟩, ⟨n, rfl, hnl, hq, Ok1.mono ⟨a1, a2, a3, a4, a5⟩ hb2 hga⟩, Bel.mono hb2 S a h2 hg1⟩
            (by
              simp only [List.map_cons, List.nodup_cons] at hnd ⊢
              refine ⟨fun h => ?_, hnd.1, hnd.2⟩
              rcases List.mem_cons.1 h with e | h
              · exact hnab e
              · obtain ⟨p, hp, e⟩ := List.mem_map.1 h
                exact hnS p hp e.symm)
            (by simp only [List.length_cons]; omega)
            (fun q hq => by
              rw [List.getElem?_set] at hq
              by_cases e : b = q
              · subst e; exact .head _
              · rw [if_neg e] at hq
                exact .tail _ (hgr q hq))
            (by simp only [List.length_cons]; omega)
          rcases this with ⟨e1, e2⟩ | ⟨k', ms', e1, e2, e3, e4, e5, e6⟩
          · exact .inl ⟨e1, e2⟩
          · refine .inr ⟨k', ms', e1, by rw [hmu2] at e2; omega, e3, e4, fun q hq => e5 q (hb2 q hq), fun p hp => ?_⟩
            rcases List.mem_cons.1 hp with rfl | hp
            · exact e6 (a, n + 1) (.tail _ (.head _))
            · exact e6 p (.tail _ (.tail _ hp))
        · -- grey
          rw [if_neg (by decide), if_pos (by decide)]
          refine .inl ⟨rfl, fun hA => ?_⟩
          have r1 := rk_lt (hA a a1 a2) hbm
          have := hgr b hx
          rw [List.map_cons] at this
          rcases List.mem_cons.1 this with e | h
          · rw [e] at r1; exact Nat.lt_irrefl _ r1
          · obtain ⟨p, hp, e⟩ := List.mem_map.1 h
            have := Bel.rk hA S a h2 p hp
            rw [e] at this; omega
        · -- black
          rw [if_neg (by decide), if_neg (by decide)]
          have := ih (24 * white 0 ms + mu ((a, n + 1) :: S)) (by omega) ((a, n + 1) :: S) ms k (Nat.le_refl _) (by omega) hI
            ⟨⟨a1, a2, a3, by omega, fun k' b' hk' e => by
              rcases Nat.lt_or_ge k' n with z | z
              · exact a5 k' b' z e
              · rw [show k' = n by omega, hq] at e
                injection e with e
                rw [← e]; exact hx⟩, h2⟩ hnd (by simp only [List.length_cons]; omega) hgr (by simp only [List.length_cons]; omega)
          rcases this with ⟨e1, e2⟩ | ⟨k', ms', e1, e2, e3, e4, e5, e6⟩
          · exact .inl ⟨e1, e2⟩
          · refine .inr ⟨k', ms', e1, by omega, e3, e4, e5, fun p hp => ?_⟩
            rcases List.mem_cons.1 hp with rfl | hp
            · exact e6 (a, n + 1) (.head _)
            · exact e6 p (.tail _ hp)
def AllI (cs : List Cell) : Prop := ∀ a, a < cs.length → kd cs a ≠ 3 → Ac (sI cs) a
theorem l3_val (s : Store) (g : Goodc s.cells) (hL : s.cells.length ≤ 20000) : ∀ (m i : Nat) (ms : List UInt8) (k : Nat), s.cells.length - i = m → i ≤ s.cells.length → InvI s.cells ms → (∀ q : Nat, ms[q]? ≠ some 1) → (∀ j, j < i → kd s.cells j ≠ 3 → ms[j]? = some 2) → 24 * white 0 ms + m + 1 < k →
    ∃ b, impl_Store_ok.l3 k s (i : Int) ms = some b ∧ (b = true → AllI s.cells) ∧ (AllI s.cells → b = true) := by
  intro m
  induction m with
  | zero =>
    intro i ms k h1 h2 hI hg hb hk
    obtain ⟨k, rfl⟩ : ∃ q, k = q + 1 := ⟨k - 1, by omega⟩
    rw [impl_Store_ok.l3, if_neg (by omega)]
    exact ⟨true, rfl, fun _ a ha hk => hI.ac a (hb a (by omega) hk), fun _ => rfl⟩
  | succ m ih =>
    intro i ms k h1 h2 hI hg hb hk
    obtain ⟨k, rfl⟩ : ∃ q, k = q + 1 := ⟨k - 1, by omega⟩
    have hi : i < s.cells.length := by omega
    have hil : i < ms.length := by rw [hI.len]; exact hi
    have hz : (s.cells.getD i z36).kind = kd s.cells i := rfl
    obtain ⟨x, hx⟩ : ∃ x, ms[i]? = some x := ⟨ms[i], List.getElem?_eq_getElem _⟩
    rw [impl_Store_ok.l3, if_pos (by omega), if_pos (by omega), Int.toNat_natCast, hz, wrap_nat (by omega)]
    by_cases h3 : kd s.cells i = 3
    · rw [if_pos h3]
      exact ih (i + 1) ms k (by omega) (by omega) hI hg (fun j hj hk => by
        rcases Nat.lt_or_ge j i with z | z
        · exact hb j z hk
        · exact absurd (by rw [show j = i by omega]; exact h3) hk) (by omega)
    · rw [if_neg h3, if_pos (by omega), some_getD hx]
      rcases hI.val i x hx with rfl | rfl | rfl
      · rw [if_neg (by decide)]
        have hwh := white_set (z := (0 : UInt8)) hil (by rw [List.getElem?_eq_getElem hil] at hx; injection hx) (x := 1) (by decide)
        have hwl := white_le (z := (0 : UInt8)) ms
        rw [hI.len] at hwl
        have hii : (ms.set i 1)[i]? = some 1 := by rw [List.getElem?_set, if_pos rfl, if_pos hil]
        have hst : [(⟨(i : Int), 0⟩ : GStep)] = stk [(i, 0)] := rfl
        rw [hst]
        have hb2 := set_ne2 (ms := ms) (t := i) (x := 1) (by rw [hx]; simp)
        have := l4_val s i g hL hi (24 * white 0 (ms.set i 1) + mu [(i, 0)]) [(i, 0)] (ms.set i 1) k (Nat.le_refl _) (by simp [mu]; omega) (hI.set1 i)
          ⟨⟨hi, h3, hii, by show 0 ≤ 20; omega, fun k' b' hk' _ => absurd hk' (Nat.not_lt_zero _)⟩, trivial⟩ (by simp) (by simp) (fun q hq => by
            rw [List.getElem?_set] at hq
            by_cases e : i = q
            · subst e; exact .head _
            · rw [if_neg e] at hq; exact absurd hq (hg q)) (by simp; omega)
        rcases this with ⟨e1, e2⟩ | ⟨k', ms', e1, e2, e3, e4, e5, e6⟩
        · exact ⟨false, e1, fun h => (by cases h), fun h => absurd h e2⟩
        · rw [e1]
          have hm : mu [(i, 0)] = 22 := rfl
          rw [hm] at e2
          exact ih (i + 1) ms' k' (by omega) (by omega) e3 e4 (fun j hj hk => by
            rcases Nat.lt_or_ge j i with z | z
            · exact e5 j (hb2 j (hb j z hk))
            · rw [show j = i by omega]; exact e6 (i, 0) (.head _)) (by omega)
      · exact absurd hx (hg i)
      · rw [if_pos (by decide)]
        exact ih (i + 1) ms k (by omega) (by omega) hI hg (fun j hj hk => by
          rcases Nat.lt_or_ge j i with z | z
          · exact hb j z hk
          · rw [show j = i by omega]; exact hx) (by omega)
theorem s3_val (s : Store) (g : Goodc s.cells) (hL : s.cells.length ≤ 20000) : ∀ (m i : Nat) (ms : List Int) (k : Nat), s.cells.length - i = m → i ≤ s.cells.length → InvS s.cells ms → (∀ q : Nat, ms[q]? ≠ some 1) → (∀ j, j < i → kd s.cells j ≠ 3 → Ac (sI s.cells) j) → 700000 + m < k →
    ∃ b, spec_l10valid.l3 k s (i : Int) ms = some b ∧ (b = true → AllI s.cells) ∧ (AllI s.cells → b = true) := by
  intro m
  induction m with
  | zero =>
    intro i ms k h1 h2 hI hg hb hk
    obtain ⟨k, rfl⟩ : ∃ q, k = q + 1 := ⟨k - 1, by omega⟩
    rw [spec_l10valid.l3, if_neg (by omega)]
    exact ⟨true, rfl, fun _ a ha hk => hb a (by omega) hk, fun _ => rfl⟩
  | succ m ih =>
    intro i ms k h1 h2 hI hg hb hk
    obtain ⟨k, rfl⟩ : ∃ q, k = q + 1 := ⟨k - 1, by omega⟩
    have hi : i < s.cells.length := by omega
    have hz : (s.cells.getD i z36).kind = kd s.cells i := rfl
    rw [spec_l10valid.l3, if_pos (by omega), if_pos (by omega), Int.toNat_natCast, hz, wrap_nat (by omega)]
    by_cases h3 : kd s.cells i = 3
    · rw [if_neg (by omega)]
      exact ih (i + 1) ms k (by omega) (by omega) hI hg (fun j hj hk => by
        rcases Nat.lt_or_ge j i with z | z
        · exact hb j z hk
        · exact absurd (by rw [show j = i by omega]; exact h3) hk) (by omega)
    · rw [if_pos h3]
      have hwl := white_le (z := (0 : Int)) ms
      rw [hI.len] at hwl
      obtain ⟨b, ms', e1, r1, r2, r3, r4⟩ := round_val s.cells g (by omega) (white 0 ms) ms (s.cells.getD i c0) k hI (Nat.le_refl _) (g.w i hi h3) (by omega)
      have e1' : spec_l10round_2.f k s.cells ms (s.cells.getD i z36) = some (b, ms') := e1
      rw [e1', Option.bind_some]
      cases b with
      | false =>
        rw [if_pos (by simp)]
        refine ⟨false, rfl, fun h => (by cases h), fun hA => ?_⟩
        exact r4 (ac_I_S g (hA i hi h3) hi h3) (fun q hq => absurd hq (hg q))
      | true =>
        rw [if_neg (by simp)]
        obtain ⟨q1, q2⟩ := r3 rfl
        refine ih (i + 1) ms' k (by omega) (by omega) r1 (fun q hq => hg q ((q1 q).1 hq)) (fun j hj hk => ?_) (by omega)
        rcases Nat.lt_or_ge j i with z | z
        · exact hb j z hk
        · rw [show j = i by omega]
          cases hq : tgs s.cells (s.cells.getD i c0) with
          | nil => exact ac_base g hi h3 hq
          | cons t l => exact ac_S_I g (q2 t (by rw [hq]; exact .head _)) i hi h3 (by rw [hq]; exact .head _)
/-! ### valid stores -/
def TrOk (cs : List Cell) (a : Int) : Prop := 0 ≤ a ∧ a < (cs.length : Int) ∧ kd cs a.toNat ≠ 3
instance (cs : List Cell) (a : Int) : Decidable (TrOk cs a) := by unfold TrOk; infer_instance
theorem ok_l0 (s : Store) (hL : s.cells.length ≤ 20000) : ∀ (m i b k : Nat), s.cells.length - i = m → i ≤ s.cells.length → b ≤ 20 → 2 * m + 1 < k → impl_Store_ok.l0 k s (b : Int) (i : Int) = if shp s.cells (s.cells.drop i) b = true then impl_Store_ok.l2 (k - 2 * m - 1) s 0 else some false := by
  intro m
  induction m with
  | zero =>
    intro i b k h1 h2 h3 h4
    obtain ⟨k, rfl⟩ : ∃ q, k = q + 1 := ⟨k - 1, by omega⟩
    rw [impl_Store_ok.l0, if_neg (by omega), List.drop_of_length_le (by omega), shp]
    by_cases hb : b = 0
    · subst hb; rw [if_neg (by decide), if_pos (by decide)]; rfl
    · rw [if_pos (by omega), if_neg (by simpa using hb)]
  | succ m ih =>
    intro i b k h1 h2 h3 h4
    obtain ⟨k, rfl⟩ : ∃ q, k = q + 2 := ⟨k - 2, by omega⟩
    have hi : i < s.cells.length := by omega
    rw [impl_Store_ok.l0, if_pos (by omega), if_pos (by omega), Int.toNat_natCast, List.drop_eq_getElem_cons hi, shp, getD_at hi, points_val, Option.bind_some]
    have e : k + 2 - 2 * (m + 1) - 1 = k - 2 * m - 1 := by omega
    by_cases hk : s.cells[i].kind = 3
    · rw [if_pos hk, if_pos hk]
      by_cases hb : b = 0
      · subst hb
        rw [if_neg (by decide)]
        by_cases hf : Okf s.cells[i]
        · obtain ⟨f1, f2, f3⟩ := hf
          rw [if_neg (by omega), if_neg (by omega), if_neg (by omega), impl_Store_ok.l1, wrap_nat (by omega)]
          have := ih (i + 1) s.cells[i].n.toNat k (by omega) (by omega) (by omega) (by omega)
          rw [show (s.cells[i].n.toNat : Int) = s.cells[i].n by omega] at this
          rw [this, e, show decide (Okf s.cells[i]) = true from decide_eq_true (⟨f1, f2, f3⟩ : Okf s.cells[i])]
          simp
        · rw [show decide (Okf s.cells[i]) = false by simpa using hf]
          simp only [decide_true, Bool.and_false, Bool.false_and, Bool.false_eq_true, if_false]
          unfold Okf at hf
          split
          · rfl
          · split
            · rfl
            · split
              · rfl
              · exfalso; omega
      · rw [if_pos (by omega), show decide (b = 0) = false by simpa using hb]
        simp
    · rw [if_neg hk, if_neg hk]
      by_cases hw : Okw s.cells s.cells[i]
      · rw [if_neg (by simpa using hw), impl_Store_ok.l1, wrap_nat (by omega), wrap_id (n := (b : Int) - 1) (by omega) (by omega)]
        have := ih (i + 1) (b - 1) k (by omega) (by omega) (by omega) (by omega)
        rw [show (if (b : Int) - 1 > 0 then (b : Int) - 1 else 0) = ((b - 1 : Nat) : Int) by split <;> omega, this, e, show decide (Okw s.cells s.cells[i]) = true by simpa using hw]
        simp
      · rw [if_pos (by simpa using hw), show decide (Okw s.cells s.cells[i]) = false by simpa using hw]
        simp
theorem va_l0 (s : Store) (hL : s.cells.length ≤ 20000) : ∀ (m i b k : Nat), s.cells.length - i = m → i ≤ s.cells.length → b ≤ m → b ≤ 20 → 2 * m + 1 < k → spec_l10valid.l0 k s (b : Int) (i : Int) = if shp s.cells (s.cells.drop i) b = true then spec_l10valid.l2 (k - 2 * m - 1) s 0 else some false := by
  intro m
  induction m with
  | zero =>
    intro i b k h1 h2 h3 h5 h4
    obtain ⟨k, rfl⟩ : ∃ q, k = q + 1 := ⟨k - 1, by omega⟩
    obtain rfl : b = 0 := by omega
    rw [spec_l10valid.l0, if_neg (by omega), List.drop_of_length_le (by omega), shp, if_pos (by decide)]; rfl
  | succ m ih =>
    intro i b k h1 h2 h3 h5 h4
    obtain ⟨k, rfl⟩ : ∃ q, k = q + 2 := ⟨k - 2, by omega⟩
    have hi : i < s.cells.length := by omega
    rw [spec_l10valid.l0, if_pos (by omega), if_pos (by omega), Int.toNat_natCast, List.drop_eq_getElem_cons hi, shp, getD_at hi, l10word_val, Option.bind_some]
    have e : k + 2 - 2 * (m + 1) - 1 = k - 2 * m - 1 := by omega
    by_cases hk : s.cells[i].kind = 3
    · rw [if_pos hk, if_pos hk]
      by_cases hb : b = 0
      · subst hb
        rw [if_neg (by decide)]
        by_cases hf : Okf s.cells[i]
        · obtain ⟨f1, f2, f3⟩ := hf
          rw [if_neg (by omega), if_neg (by omega), if_neg (by omega), wrap_id (n := (i : Int) + s.cells[i].n) (by omega) (by omega), show decide (Okf s.cells[i]) = true from decide_eq_true (⟨f1, f2, f3⟩ : Okf s.cells[i])]
          by_cases hm : (i : Int) + s.cells[i].n ≥ (s.cells.length : Int)
          · rw [if_pos hm]
            have : shp s.cells (s.cells.drop (i + 1)) s.cells[i].n.toNat = false := by
              cases q : shp s.cells (s.cells.drop (i + 1)) s.cells[i].n.toNat with
              | false => rfl
              | true =>
                have := shp_len _ _ _ q
                rw [List.length_drop] at this
                omega
            rw [this]; simp
          · rw [if_neg hm, spec_l10valid.l1, wrap_nat (by omega)]
            have := ih (i + 1) s.cells[i].n.toNat k (by omega) (by omega) (by omega) (by omega) (by omega)
            rw [show (s.cells[i].n.toNat : Int) = s.cells[i].n by omega] at this
            rw [this, e]
            simp
        · rw [show decide (Okf s.cells[i]) = false by simpa using hf]
          simp only [decide_true, Bool.and_false, Bool.false_and, Bool.false_eq_true, if_false]
          unfold Okf at hf
          split
          · rfl
          · split
            · rfl
            · split
              · rfl
              · exfalso; omega
      · rw [if_pos (by omega), show decide (b = 0) = false by simpa using hb]
        simp
    · rw [if_neg hk, if_neg hk]
      by_cases hw : Okw s.cells s.cells[i]
      · have := ih (i + 1) (b - 1) k (by omega) (by omega) (by omega) (by omega) (by omega)
        rw [if_neg (by simpa using hw), show decide (Okw s.cells s.cells[i]) = true by simpa using hw]
        by_cases hb : (b : Int) > 0
        · rw [if_pos hb, spec_l10valid.l1, wrap_nat (by omega), wrap_id (n := (b : Int) - 1) (by omega) (by omega), show (b : Int) - 1 = ((b - 1 : Nat) : Int) by omega, this, e]
          simp
        · obtain rfl : b = 0 := by omega
          rw [if_neg hb, spec_l10valid.l1, wrap_nat (by omega), show ((0 : Nat) : Int) = ((0 - 1 : Nat) : Int) by rfl, this, e]
          simp
      · rw [if_pos (by simpa using hw), show decide (Okw s.cells s.cells[i]) = false by simpa using hw]
        simp
theorem tr_all (cs : List Cell) (a : Int) (r : List Int) : ((a :: r).all fun a => decide (TrOk cs a)) = (decide (TrOk cs a) && r.all fun a => decide (TrOk cs a)) := rfl
theorem ok_l2 (s : Store) (hL : s.cells.length ≤ 20000) (hT : s.trail.length ≤ 20000) : ∀ (m i k : Nat), s.trail.length - i = m → i ≤ s.trail.length → m < k → impl_Store_ok.l2 k s (i : Int) = if (s.trail.drop i).all (fun a => decide (TrOk s.cells a)) = true then impl_Store_ok.l3 (k - m - 1) s 0 (List.replicate s.cells.length 0) else some false := by
  intro m
  induction m with
  | zero =>
    intro i k h1 h2 h3
    obtain ⟨k, rfl⟩ : ∃ q, k = q + 1 := ⟨k - 1, by omega⟩
    rw [impl_Store_ok.l2, if_neg (by omega), List.drop_of_length_le (by omega), if_pos (by omega), if_pos (by omega), if_pos (by rfl), Int.toNat_natCast]; rfl
  | succ m ih =>
    intro i k h1 h2 h3
    obtain ⟨k, rfl⟩ : ∃ q, k = q + 1 := ⟨k - 1, by omega⟩
    have hi : i < s.trail.length := by omega
    have hz : ∀ j : Nat, (s.cells.getD j z36).kind = kd s.cells j := fun _ => rfl
    rw [impl_Store_ok.l2, if_pos (by omega), if_pos (by omega), Int.toNat_natCast, List.drop_eq_getElem_cons hi, tr_all, getD_at hi, wrap_nat (by omega), hz]
    by_cases hb : TrOk s.cells s.trail[i]
    · obtain ⟨b1, b2, b3⟩ := hb
      rw [if_neg (by omega), if_neg (by omega), if_pos (by omega), if_pos (by omega), if_neg b3, ih (i + 1) k (by omega) (by omega) (by omega), show decide (TrOk s.cells s.trail[i]) = true from decide_eq_true (⟨b1, b2, b3⟩ : TrOk s.cells s.trail[i]), Bool.true_and, show k + 1 - (m + 1) - 1 = k - m - 1 by omega]
    · rw [show decide (TrOk s.cells s.trail[i]) = false by simpa using hb, Bool.false_and, if_neg (c := false = true) (by simp)]
      unfold TrOk at hb
      split
      · rfl
      · split
        · rfl
        · rw [if_pos (by omega), if_pos (by omega)]
          split
          · rfl
          · exfalso; omega
theorem va_l2 (s : Store) (hL : s.cells.length ≤ 20000) (hT : s.trail.length ≤ 20000) : ∀ (m i k : Nat), s.trail.length - i = m → i ≤ s.trail.length → m < k → spec_l10valid.l2 k s (i : Int) = if (s.trail.drop i).all (fun a => decide (TrOk s.cells a)) = true then spec_l10valid.l3 (k - m - 1) s 0 (List.replicate s.cells.length 0) else some false := by
  intro m
  induction m with
  | zero =>
    intro i k h1 h2 h3
    obtain ⟨k, rfl⟩ : ∃ q, k = q + 1 := ⟨k - 1, by omega⟩
    rw [spec_l10valid.l2, if_neg (by omega), List.drop_of_length_le (by omega), if_pos (by omega), if_pos (by omega), if_pos (by rfl), Int.toNat_natCast]; rfl
  | succ m ih =>
    intro i k h1 h2 h3
    obtain ⟨k, rfl⟩ : ∃ q, k = q + 1 := ⟨k - 1, by omega⟩
    have hi : i < s.trail.length := by omega
    have hz : ∀ j : Nat, (s.cells.getD j z36).kind = kd s.cells j := fun _ => rfl
    rw [spec_l10valid.l2, if_pos (by omega), if_pos (by omega), Int.toNat_natCast, List.drop_eq_getElem_cons hi, tr_all, getD_at hi, wrap_nat (by omega), hz]
    by_cases hb : TrOk s.cells s.trail[i]
    · obtain ⟨b1, b2, b3⟩ := hb
      rw [if_neg (by omega), if_neg (by omega), if_pos (by omega), if_pos (by omega), if_neg b3, ih (i + 1) k (by omega) (by omega) (by omega), show decide (TrOk s.cells s.trail[i]) = true from decide_eq_true (⟨b1, b2, b3⟩ : TrOk s.cells s.trail[i]), Bool.true_and, show k + 1 - (m + 1) - 1 = k - m - 1 by omega]
    · rw [show decide (TrOk s.cells s.trail[i]) = false by simpa using hb, Bool.false_and, if_neg (c := false = true) (by simp)]
      unfold TrOk at hb
      split
      · rfl
      · split
        · rfl
        · rw [if_pos (by omega), if_pos (by omega)]
          split
          · rfl
          · exfalso; omega
structure VSt (s : Store) : Prop where
  cl : s.cells.length ≤ 20000
  tl : s.trail.length ≤ 20000
  good : Goodc s.cells
  all : AllI s.cells
  tr : ∀ a, a ∈ s.trail → TrOk s.cells a
noncomputable def okS (s : Store) : Bool := @decide (s.cells.length ≤ 20000 ∧ s.trail.length ≤ 20000 ∧ shp s.cells s.cells 0 = true ∧ (s.trail.all fun a => decide (TrOk s.cells a)) = true ∧ AllI s.cells) (Classical.propDecidable _)
theorem okS_iff (s : Store) : okS s = true ↔ s.cells.length ≤ 20000 ∧ s.trail.length ≤ 20000 ∧ shp s.cells s.cells 0 = true ∧ (s.trail.all fun a => decide (TrOk s.cells a)) = true ∧ AllI s.cells := by unfold okS; exact @decide_eq_true_iff _ (Classical.propDecidable _)
theorem okS_v {s : Store} (h : okS s = true) : VSt s := by
  obtain ⟨h1, h2, h3, h4, h5⟩ := (okS_iff s).1 h
  refine ⟨h1, h2, good_of h3, h5, fun a ha => ?_⟩
  have := List.all_eq_true.1 h4 a ha
  simpa using this
theorem invI0 (cs : List Cell) : InvI cs (List.replicate cs.length 0) ∧ ∀ q : Nat, (List.replicate cs.length (0 : UInt8))[q]? ≠ some 1 := by
  have h : ∀ (q : Nat) (x : UInt8), (List.replicate cs.length (0 : UInt8))[q]? = some x → x = 0 := fun q x hq => by
    rw [List.getElem?_replicate] at hq
    split at hq
    · injection hq with hq; exact hq.symm
    · cases hq
  exact ⟨⟨List.length_replicate, fun i x hx => .inl (h i x hx), fun i hi => absurd (h i 2 hi) (by decide)⟩, fun q hq => absurd (h q 1 hq) (by decide)⟩
theorem invS0 (cs : List Cell) : InvS cs (List.replicate cs.length 0) ∧ ∀ q : Nat, (List.replicate cs.length (0 : Int))[q]? ≠ some 1 := by
  have h : ∀ (q : Nat) (x : Int), (List.replicate cs.length (0 : Int))[q]? = some x → x = 0 := fun q x hq => by
    rw [List.getElem?_replicate] at hq
    split at hq
    · injection hq with hq; exact hq.symm
    · cases hq
  exact ⟨⟨List.length_replicate, fun i x hx => .inl (h i x hx), fun i hi => absurd (h i 2 hi) (by decide)⟩, fun q hq => absurd (h q 1 hq) (by decide)⟩
theorem ok_val (s : Store) (k : Nat) (hk : 1000000 < k) : impl_Store_ok.f k s = some (okS s) := by
  rw [impl_Store_ok.f]
  by_cases h1 : (s.cells.length : Int) > 20000
  · rw [if_pos h1, show okS s = false from Bool.eq_false_iff.2 fun h => by have := ((okS_iff s).1 h).1; omega]
  by_cases h2 : (s.trail.length : Int) > 20000
  · rw [if_neg h1, if_pos h2, show okS s = false from Bool.eq_false_iff.2 fun h => by have := ((okS_iff s).1 h).2.1; omega]
  rw [if_neg h1, if_neg h2]
  have a := ok_l0 s (by omega) s.cells.length 0 0 k (by omega) (by omega) (by omega) (by omega)
  rw [List.drop_zero] at a
  rw [show impl_Store_ok.l0 k s 0 0 = _ from a]
  by_cases h3 : shp s.cells s.cells 0 = true
  · rw [if_pos h3]
    have b := ok_l2 s (by omega) (by omega) s.trail.length 0 (k - 2 * s.cells.length - 1) (by omega) (by omega) (by omega)
    rw [List.drop_zero] at b
    rw [show impl_Store_ok.l2 (k - 2 * s.cells.length - 1) s 0 = _ from b]
    by_cases h4 : (s.trail.all fun a => decide (TrOk s.cells a)) = true
    · rw [if_pos h4]
      have hwl := white_le (z := (0 : UInt8)) (List.replicate s.cells.length 0)
      rw [List.length_replicate] at hwl
      obtain ⟨i1, i2⟩ := invI0 s.cells
      obtain ⟨b, e1, e2, e3⟩ := l3_val s (good_of h3) (by omega) s.cells.length 0 (List.replicate s.cells.length 0) (k - 2 * s.cells.length - 1 - s.trail.length - 1) (by omega) (by omega) i1 i2 (fun j hj => absurd hj (Nat.not_lt_zero _)) (by omega)
      rw [show impl_Store_ok.l3 _ s 0 _ = _ from e1]
      cases b with
      | true => rw [(okS_iff s).2 ⟨by omega, by omega, h3, h4, e2 rfl⟩]
      | false => rw [show okS s = false from Bool.eq_false_iff.2 fun h => by have := e3 ((okS_iff s).1 h).2.2.2.2; cases this]
    · rw [if_neg h4, show okS s = false from Bool.eq_false_iff.2 fun h => h4 ((okS_iff s).1 h).2.2.2.1]
  · rw [if_neg h3, show okS s = false from Bool.eq_false_iff.2 fun h => h3 ((okS_iff s).1 h).2.2.1]
theorem va_val (s : Store) (k : Nat) (hk : 1000000 < k) : spec_l10valid.f k s = some (okS s) := by
  rw [spec_l10valid.f]
  by_cases h1 : (s.cells.length : Int) > 20000
  · rw [if_pos h1, show okS s = false from Bool.eq_false_iff.2 fun h => by have := ((okS_iff s).1 h).1; omega]
  by_cases h2 : (s.trail.length : Int) > 20000
  · rw [if_neg h1, if_pos h2, show okS s = false from Bool.eq_false_iff.2 fun h => by have := ((okS_iff s).1 h).2.1; omega]
  rw [if_neg h1, if_neg h2]
  have a := va_l0 s (by omega) s.cells.length 0 0 k (by omega) (by omega) (by omega) (by omega) (by omega)
  rw [List.drop_zero] at a
  rw [show spec_l10valid.l0 k s 0 0 = _ from a]
  by_cases h3 : shp s.cells s.cells 0 = true
  · rw [if_pos h3]
    have b := va_l2 s (by omega) (by omega) s.trail.length 0 (k - 2 * s.cells.length - 1) (by omega) (by omega) (by omega)
    rw [List.drop_zero] at b
    rw [show spec_l10valid.l2 (k - 2 * s.cells.length - 1) s 0 = _ from b]
    by_cases h4 : (s.trail.all fun a => decide (TrOk s.cells a)) = true
    · rw [if_pos h4]
      obtain ⟨i1, i2⟩ := invS0 s.cells
      obtain ⟨b, e1, e2, e3⟩ := s3_val s (good_of h3) (by omega) s.cells.length 0 (List.replicate s.cells.length 0) (k - 2 * s.cells.length - 1 - s.trail.length - 1) (by omega) (by omega) i1 i2 (fun j hj => absurd hj (Nat.not_lt_zero _)) (by omega)
      rw [show spec_l10valid.l3 _ s 0 _ = _ from e1]
      cases b with
      | true => rw [(okS_iff s).2 ⟨by omega, by omega, h3, h4, e2 rfl⟩]
      | false => rw [show okS s = false from Bool.eq_false_iff.2 fun h => by have := e3 ((okS_iff s).1 h).2.2.2.2; cases this]
    · rw [if_neg h4, show okS s = false from Bool.eq_false_iff.2 fun h => h4 ((okS_iff s).1 h).2.2.2.1]
  · rw [if_neg h3, show okS s = false from Bool.eq_false_iff.2 fun h => h3 ((okS_iff s).1 h).2.2.1]
/-! ### sizes, copies, equality: stores -/
def wStore (s : Store) : Nat := wCells s.cells + s.trail.length
theorem szStore_val (s : Store) (k : Nat) (b : Int) (h0 : 0 ≤ b) (h1 : b ≤ 1048576) (hl : s.cells.length ≤ 9223372036854775807) (ht : ∀ c, c ∈ s.cells → c.text.length ≤ 9223372036854775807) (hl2 : s.trail.length ≤ 9223372036854775807) (hk : 1048577 < k) : laws_szStore.f k s b = some (left b (wStore s)) := by
  rw [laws_szStore.f, szCellS_val _ _ _ h0 h1 hl ht hk, Option.bind_some]
  by_cases h : left b (wCells s.cells) < 0
  · rw [if_pos h, show left b (wStore s) = -1 from left_neg _ _ _ h]
  · have hq := left_le h
    rw [if_neg h, laws_szIntS.f, sz0 hq.2.1 (by omega) hl2, Option.bind_some, left_add _ _ _ h]
    show _ = some (left b (wCells s.cells + s.trail.length))
    by_cases h2 : left b (wCells s.cells + s.trail.length) < 0
    · rw [if_pos h2, left_m1 h2]
    · rw [if_neg h2]
theorem toIntS_id (xs : List Int) (k : Nat) (hl : xs.length ≤ 1048576) (hk : xs.length < k) : laws_toIntS.f k xs = some xs := by
  rw [laws_toIntS.f, if_pos (by omega), if_pos (by omega)]
  exact toF (z := 0) (fun k i ys => laws_toIntS.l0 k xs i ys) (fun _ _ _ => rfl) (by omega) k hk _ (by simp)
theorem toStore_id (s : Store) (k : Nat) (hl : wStore s ≤ 1048576) (hk : 2097154 < k) : laws_toStore.f k s = some s := by
  unfold wStore at hl
  rw [laws_toStore.f, toCellS_id _ _ (by omega) hk, Option.bind_some, toIntS_id _ _ (by omega) (by omega)]; rfl
theorem eqIntS_id' (xs : List Int) (k : Nat) (hl : xs.length ≤ 4194304) (hk : xs.length < k) : laws_eqIntS.f k xs xs = some true := by
  rw [laws_eqIntS.f, if_neg (by simp)]
  exact eqI (z := 0) (fun k i => laws_eqIntS.l0 k xs xs i) (fun _ _ => rfl) (by omega) k hk
theorem eqStore_id (s : Store) (k : Nat) (hl : wStore s ≤ 4194304) (hk : 8388610 < k) : laws_eqStore.f k s s = some true := by
  unfold wStore at hl
  rw [laws_eqStore.f, eqCellS_id _ _ (by omega) hk, Option.bind_some, if_neg (by simp), eqIntS_id' _ _ (by omega) (by omega), Option.bind_some, if_neg (by simp)]
theorem markStore_val (s : Store) (k : Nat) (n : Int) (hl : wStore s ≤ 4194304) (hk : 8388611 < k) (h0 : 0 ≤ n) (hn : n ≤ 4000000000000000000) :
    ∃ m cs tr, laws_markStore_2.f k s n = some (n + (wts (fun x : Cell => 2 + x.text.length) s.cells : Int) + (s.trail.length : Int), cs, tr) ∧ cs.length = s.cells.length ∧ tr.length = s.trail.length ∧ m = n + (wts (fun x : Cell => 2 + x.text.length) s.cells : Int) ∧ HL PC n m cs ∧ HL PI m (m + (s.trail.length : Int)) tr ∧ n ≤ m ∧ m ≤ n + 9000000 := by
  unfold wStore at hl
  have hws := wts2 s.cells
  obtain ⟨cs, m1, m2, m3⟩ := markCellS_val s.cells k n (by omega) hk h0 (by omega)
  obtain ⟨tr, n1, n2, n3⟩ := markIntS_val s.trail k (n + (wts (fun x : Cell => 2 + x.text.length) s.cells : Int)) (by omega) (by omega) (by omega) (by omega)
  refine ⟨_, cs, tr, ?_, m2, n2, rfl, m3, n3, by omega, by omega⟩
  rw [laws_markStore_2.f, m1, Option.bind_some]
  show ((laws_markIntS_2.f k s.trail (n + (wts (fun x : Cell => 2 + x.text.length) s.cells : Int))).bind _) = _
  rw [n1]; rfl
/-! ### following a word -/
/-- a word's ways are no longer than n -/
def Hw (cs : List Cell) (n : Nat) (w : Cell) : Prop := (w.kind = 0 → ¬ (kd cs w.n.toNat = 0 ∧ nn cs w.n.toNat = w.n) → Hb (sI cs) n w.n.toNat) ∧ (w.kind = 4 → ∀ l : Nat, 1 ≤ l → (l : Int) ≤ nn cs w.n.toNat → Hb (sI cs) n (w.n.toNat + l))
theorem Hw.mono {cs : List Cell} {n m : Nat} {w : Cell} (h : Hw cs n w) (hm : n ≤ m) : Hw cs m w := ⟨fun a b => (h.1 a b).mono hm, fun a l b c => (h.2 a l b c).mono hm⟩
theorem hw_cell {cs : List Cell} (g : Goodc cs) {n a : Nat} (ha : a < cs.length) (hk : kd cs a ≠ 3) (h : Hb (sI cs) (n + 1) a) : Hw cs n (cs.getD a c0) := by
  have e1 : (cs.getD a c0).kind = kd cs a := rfl
  have e2 : (cs.getD a c0).n = nn cs a := rfl
  unfold Hw
  rw [e1, e2]
  refine ⟨fun q1 q2 => h.down ?_, fun q1 l l1 l2 => h.down ?_⟩
  · unfold sI
    rw [if_pos ⟨q1, fun e => q2 (by rw [e, Int.toNat_natCast]; exact ⟨q1, e⟩)⟩]
    exact .head _
  · unfold sI
    rw [if_neg (by omega), if_pos q1]
    exact List.mem_map.2 ⟨l - 1, by rw [List.mem_range]; omega, by omega⟩
theorem hb_store {s : Store} (v : VSt s) : ∃ N, ∀ w, Okw s.cells w → Hw s.cells N w := by
  obtain ⟨N, hN⟩ := hb_all (S := sI s.cells) ((List.range s.cells.length).filter fun a => decide (kd s.cells a ≠ 3)) (fun b hb => by
    have := List.mem_filter.1 hb
    exact (v.all b (List.mem_range.1 this.1) (by simpa using this.2)).hb)
  have hN' : ∀ a, a < s.cells.length → kd s.cells a ≠ 3 → Hb (sI s.cells) N a := fun a ha hk => hN a (List.mem_filter.2 ⟨List.mem_range.2 ha, by simpa using hk⟩)
  refine ⟨N, fun w hw => ⟨fun q1 _ => ?_, fun q1 l l1 l2 => ?_⟩⟩
  · rcases hw with q | q | q | q
    · omega
    · omega
    · exact hN' _ (by omega) q.2.2.2.2
    · omega
  · rcases hw with q | q | q | q
    · omega
    · omega
    · omega
    · obtain ⟨f1, f2, f3⟩ := v.good.f w.n.toNat (by omega) q.2.2.2.2
      exact hN' _ (by omega) (f3 l l1 l2)
theorem Okw.text {cs : List Cell} {w : Cell} (h : Okw cs w) : w.text.length ≤ 100 := by
  rcases h with h | h | h | h <;> omega
def Dend (cs : List Cell) (u : Cell) : Prop := u.kind = 0 → kd cs u.n.toNat = 0 ∧ nn cs u.n.toNat = u.n
theorem deref_val (s : Store) (v : VSt s) : ∀ (n : Nat) (w : Cell), Okw s.cells w → Hw s.cells n w → ∃ u, Okw s.cells u ∧ Hw s.cells n u ∧ Dend s.cells u ∧
    (∀ k, n + 1 < k → impl_Store_deref.f k s w = some u) ∧ (∀ k tr p, n + 1 < k → spec_l10deref.f k ⟨s.cells, tr, p⟩ w = some u) := by
  intro n
  induction n with
  | zero =>
    intro w hw hh
    have hz : ∀ i : Nat, (s.cells.getD i z36).kind = kd s.cells i := fun _ => rfl
    have hy : ∀ i : Nat, (s.cells.getD i z36).n = nn s.cells i := fun _ => rfl
    have hend : Dend s.cells w := fun q1 => Classical.byContradiction fun q2 => by cases hh.1 q1 q2
    refine ⟨w, hw, hh, hend, fun k hk => ?_, fun k tr p hk => ?_⟩
    · obtain ⟨k, rfl⟩ : ∃ q, k = q + 1 := ⟨k - 1, by omega⟩
      rw [impl_Store_deref.f, impl_Store_deref.l0]
      by_cases q : w.kind = 0
      · obtain ⟨d1, d2⟩ := hend q
        unfold Okw at hw
        rw [if_pos q, if_pos (by omega), if_pos (by omega), hz, if_pos d1, hy, if_neg (by omega)]
      · rw [if_neg q]
    · obtain ⟨k, rfl⟩ : ∃ q, k = q + 1 := ⟨k - 1, by omega⟩
      rw [spec_l10deref.f, spec_l10deref.l0]
      by_cases q : w.kind = 0
      · obtain ⟨d1, d2⟩ := hend q
        unfold Okw at hw
        have r1 : 0 ≤ w.n := by omega
        have r2 : w.n < (s.cells.length : Int) := by omega
        rw [if_pos q, if_pos r1]
        show (if w.n < (s.cells.length : Int) then (if (s.cells.getD w.n.toNat z36).kind = 0 then (if (s.cells.getD w.n.toNat z36).n = w.n then some w else _) else _) else none) = _
        rw [if_pos r2, hz, if_pos d1, hy, if_pos d2]
      · rw [if_neg q]
  | succ n ih =>
    intro w hw hh
    have hz : ∀ i : Nat, (s.cells.getD i z36).kind = kd s.cells i := fun _ => rfl
    have hy : ∀ i : Nat, (s.cells.getD i z36).n = nn s.cells i := fun _ => rfl
    by_cases hend : Dend s.cells w
    · refine ⟨w, hw, hh, hend, fun k hk => ?_, fun k tr p hk => ?_⟩
      · obtain ⟨k, rfl⟩ : ∃ q, k = q + 1 := ⟨k - 1, by omega⟩
        rw [impl_Store_deref.f, impl_Store_deref.l0]
        by_cases q : w.kind = 0
        · obtain ⟨d1, d2⟩ := hend q
          unfold Okw at hw
          rw [if_pos q, if_pos (by omega), if_pos (by omega), hz, if_pos d1, hy, if_neg (by omega)]
        · rw [if_neg q]
      · obtain ⟨k, rfl⟩ : ∃ q, k = q + 1 := ⟨k - 1, by omega⟩
        rw [spec_l10deref.f, spec_l10deref.l0]
        by_cases q : w.kind = 0
        · obtain ⟨d1, d2⟩ := hend q
          unfold Okw at hw
          have r1 : 0 ≤ w.n := by omega
          have r2 : w.n < (s.cells.length : Int) := by omega
          rw [if_pos q, if_pos r1]
          show (if w.n < (s.cells.length : Int) then (if (s.cells.getD w.n.toNat z36).kind = 0 then (if (s.cells.getD w.n.toNat z36).n = w.n then some w else _) else _) else none) = _
          rw [if_pos r2, hz, if_pos d1, hy, if_pos d2]
        · rw [if_neg q]
    · have hq : w.kind = 0 ∧ ¬ (kd s.cells w.n.toNat = 0 ∧ nn s.cells w.n.toNat = w.n) := by
        unfold Dend at hend
        exact Classical.not_imp.1 hend
      obtain ⟨q, q2⟩ := hq
      have hb := hh.1 q q2
      have hw2 := hw
      unfold Okw at hw2
      have r1 : 0 ≤ w.n := by omega
      have r2 : w.n < (s.cells.length : Int) := by omega
      have r3 : kd s.cells w.n.toNat ≠ 3 := by
        rcases hw2 with z | z | z | z
        · omega
        · omega
        · exact z.2.2.2.2
        · omega
      obtain ⟨u, u1, u2, u3, u4, u5⟩ := ih (s.cells.getD w.n.toNat c0) (v.good.w _ (by omega) r3) (hw_cell v.good (by omega) r3 hb)
      refine ⟨u, u1, u2.mono (by omega), u3, fun k hk => ?_, fun k tr p hk => ?_⟩
      · obtain ⟨k, rfl⟩ : ∃ q, k = q + 1 := ⟨k - 1, by omega⟩
        have := u4 k (by omega)
        rw [impl_Store_deref.f] at this
        have this : impl_Store_deref.l0 k s (s.cells.getD w.n.toNat z36).kind (s.cells.getD w.n.toNat z36).n (s.cells.getD w.n.toNat z36).text = some u := this
        rw [impl_Store_deref.f, impl_Store_deref.l0, if_pos q, if_pos r1, if_pos r2, this]
        by_cases z : (s.cells.getD w.n.toNat z36).kind = 0
        · rw [if_pos z, if_pos (show ¬ ((s.cells.getD w.n.toNat z36).n = w.n) from fun e => q2 ⟨z, e⟩)]
        · rw [if_neg z]
      · obtain ⟨k, rfl⟩ : ∃ q, k = q + 1 := ⟨k - 1, by omega⟩
        have := u5 k tr p (by omega)
        rw [spec_l10deref.f] at this
        have this : spec_l10deref.l0 k ⟨s.cells, tr, p⟩ (s.cells.getD w.n.toNat z36).kind (s.cells.getD w.n.toNat z36).n (s.cells.getD w.n.toNat z36).text = some u := this
        rw [spec_l10deref.f, spec_l10deref.l0, if_pos q, if_pos r1]
        show (if w.n < (s.cells.length : Int) then (if (s.cells.getD w.n.toNat z36).kind = 0 then (if (s.cells.getD w.n.toNat z36).n = w.n then some _ else spec_l10deref.l0 k ⟨s.cells, tr, p⟩ (s.cells.getD w.n.toNat z36).kind (s.cells.getD w.n.toNat z36).n (s.cells.getD w.n.toNat z36).text) else spec_l10deref.l0 k ⟨s.cells, tr, p⟩ (s.cells.getD w.n.toNat z36).kind (s.cells.getD w.n.toNat z36).n (s.cells.getD w.n.toNat z36).text) else none) = _
        rw [if_pos r2, this]
        by_cases z : (s.cells.getD w.n.toNat z36).kind = 0
        · rw [if_pos z, if_neg (show ¬ ((s.cells.getD w.n.toNat z36).n = w.n) from fun e => q2 ⟨z, e⟩)]
        · rw [if_neg z]
theorem open_val (s : Store) (v : VSt s) : spec_l10open.f s = some ⟨s.cells, s.trail, 0⟩ := by
  have := v.cl; have := v.tl
  rw [spec_l10open.f, if_pos (by omega), if_pos (by omega)]
theorem okw_args {s : Store} (v : VSt s) {u : Cell} (hu : Okw s.cells u) (h4 : u.kind = 4) {l : Nat} (h1 : 1 ≤ l) (h2 : (l : Int) ≤ nn s.cells u.n.toNat) : u.n.toNat + l < s.cells.length ∧ kd s.cells (u.n.toNat + l) ≠ 3 ∧ 0 ≤ u.n ∧ u.n < (s.cells.length : Int) := by
  rcases hu with q | q | q | q
  · omega
  · omega
  · omega
  · obtain ⟨f1, f2, f3⟩ := v.good.f u.n.toNat (by omega) q.2.2.2.2
    exact ⟨by omega, f3 l h1 h2, q.2.2.1, q.2.2.2.1⟩
/-! ### copies of stores; FnExactUnwind -/
theorem copyStore_val (s : Store) (k : Nat) (hl : s.cells.length ≤ 1000000) (ht : ∀ c, c ∈ s.cells → c.text.length ≤ 1000000) (hl2 : s.trail.length ≤ 1000000) (hk : s.cells.length < k) : impl_copyStore.f k s = some s := by
  rw [impl_copyStore.f, if_pos (by omega)]
  have key : ∀ (m k i : Nat), s.cells.length - i = m → i ≤ s.cells.length → m < k → impl_copyStore.l0 k s (i : Int) (s.cells.take i) = some s := by
    intro m
    induction m with
    | zero =>
      intro k i h1 h2 h3
      obtain ⟨k, rfl⟩ : ∃ q, k = q + 1 := ⟨k - 1, by omega⟩
      rw [impl_copyStore.l0, if_neg (by omega), List.take_of_length_le (by omega)]; rfl
    | succ m ih =>
      intro k i h1 h2 h3
      obtain ⟨k, rfl⟩ : ∃ q, k = q + 1 := ⟨k - 1, by omega⟩
      have hi : i < s.cells.length := by omega
      have hlt := ht _ (List.getElem_mem hi)
      rw [impl_copyStore.l0, if_pos (by omega), if_pos (by omega), Int.toNat_natCast, getD_at hi, impl_copyCell.f, if_pos (by omega), Option.bind_some, if_pos (by rw [List.length_take]; omega), wrap_nat (by omega)]
      have e : s.cells.take i ++ [(⟨s.cells[i].kind, s.cells[i].n, ([] : List UInt8) ++ s.cells[i].text⟩ : Cell)] = s.cells.take (i + 1) := by rw [List.take_add_one, List.getElem?_eq_getElem hi]; rfl
      rw [e]
      exact ih k (i + 1) (by omega) (by omega) (by omega)
  exact key s.cells.length k 0 rfl (by omega) hk
theorem close_val (cs : List Cell) (tr : List Int) (p : Int) (k : Nat) (hl : cs.length ≤ 1000000) (ht : ∀ c, c ∈ cs → c.text.length ≤ 1000000) (hl2 : tr.length ≤ 1000000) (hk : cs.length < k) : spec_l10close.f k ⟨cs, tr, p⟩ = some ⟨cs, tr⟩ := by
  rw [spec_l10close.f]
  have key : ∀ (m k i : Nat), cs.length - i = m → i ≤ cs.length → m < k → spec_l10close.l0 k ⟨cs, tr, p⟩ (i : Int) (cs.take i) = some ⟨cs, tr⟩ := by
    intro m
    induction m with
    | zero =>
      intro k i h1 h2 h3
      obtain ⟨k, rfl⟩ : ∃ q, k = q + 1 := ⟨k - 1, by omega⟩
      rw [spec_l10close.l0, if_neg (show ¬ (i : Int) < (cs.length : Int) by omega), if_pos (show 0 + tr.length ≤ 17592186044416 by omega), List.take_of_length_le (by omega)]
    | succ m ih =>
      intro k i h1 h2 h3
      obtain ⟨k, rfl⟩ : ∃ q, k = q + 1 := ⟨k - 1, by omega⟩
      have hi : i < cs.length := by omega
      have hlt := ht _ (List.getElem_mem hi)
      rw [spec_l10close.l0, if_pos (show (i : Int) < (cs.length : Int) by omega), if_pos (by omega), Int.toNat_natCast]
      show ((spec_l1copy.f (cs.getD i z36).text).bind fun t128 => (if (cs.take i).length + 1 ≤ 3518437208883 then (spec_l10close.l0 k ⟨cs, tr, p⟩ (IntKind.i64.wrap ((i : Int) + 1)) (cs.take i ++ [(⟨(cs.getD i z36).kind, (cs.getD i z36).n, t128⟩ : Cell)])) else none)) = _
      rw [getD_at hi, spec_l1copy.f, if_pos (by omega), Option.bind_some, if_pos (by rw [List.length_take]; omega), wrap_nat (by omega)]
      have e : cs.take i ++ [(⟨cs[i].kind, cs[i].n, cs[i].text⟩ : Cell)] = cs.take (i + 1) := by rw [List.take_add_one, List.getElem?_eq_getElem hi]; rfl
      rw [e]
      exact ih k (i + 1) (by omega) (by omega) (by omega)
  exact key cs.length k 0 rfl (by omega) hk
/-! ### does a variable stand in a word -/
inductive Occ (D : Cell → Cell) (cs : List Cell) (a : Int) : Cell → Prop
  | var {w : Cell} : (D w).kind = 0 → (D w).n = a → Occ D cs a w
  | arg {w : Cell} {l : Nat} : (D w).kind = 4 → 1 ≤ l → (l : Int) ≤ nn cs (D w).n.toNat → Occ D cs a (cs.getD ((D w).n.toNat + l) c0) → Occ D cs a w
/-- all words to follow -/
def DrOK (s : Store) (N : Nat) (D : Cell → Cell) : Prop := ∀ w, Okw s.cells w → Okw s.cells (D w) ∧ Dend s.cells (D w) ∧ (∀ k, N + 1 < k → impl_Store_deref.f k s w = some (D w)) ∧ ∀ k tr p, N + 1 < k → spec_l10deref.f k ⟨s.cells, tr, p⟩ w = some (D w)
theorem dr_exists {s : Store} (v : VSt s) : ∃ N D, DrOK s N D ∧ (∀ w, Okw s.cells w → Hw s.cells N w) ∧ ∀ n w, Okw s.cells w → Hw s.cells n w → Hw s.cells n (D w) ∧ (∀ k, n + 1 < k → impl_Store_deref.f k s w = some (D w)) := by
  obtain ⟨N, hN⟩ := hb_store v
  have : ∀ w : Cell, ∃ u : Cell, Okw s.cells w → Okw s.cells u ∧ Dend s.cells u ∧ (∀ k, N + 1 < k → impl_Store_deref.f k s w = some u) ∧ ∀ k tr p, N + 1 < k → spec_l10deref.f k ⟨s.cells, tr, p⟩ w = some u := fun w => by
    by_cases hw : Okw s.cells w
    · obtain ⟨u, u1, u2, u3, u4, u5⟩ := deref_val s v N w hw (hN w hw)
      exact ⟨u, fun _ => ⟨u1, u3, u4, u5⟩⟩
    · exact ⟨w, fun h => absurd h hw⟩
  obtain ⟨D, hD⟩ := Classical.axiomOfChoice this
  refine ⟨N, D, hD, hN, fun n w hw hh => ?_⟩
  obtain ⟨u, u1, u2, u3, u4, u5⟩ := deref_val s v n w hw hh
  have e : u = D w := by
    have h1 := u4 (N + n + 2) (by omega)
    have h2 := (hD w hw).2.2.1 (N + n + 2) (by omega)
    rw [h1] at h2
    injection h2
  rw [← e]
  exact ⟨u2, u4⟩
def Clo (D : Cell → Cell) (cs : List Cell) (a : Int) (S : Int → Prop) (f : Nat) : Prop := ∀ l : Nat, 1 ≤ l → (l : Int) ≤ nn cs f → ((D (cs.getD (f + l) c0)).kind = 0 → (D (cs.getD (f + l) c0)).n ≠ a) ∧ ((D (cs.getD (f + l) c0)).kind = 4 → S (D (cs.getD (f + l) c0)).n)
theorem no_occ {D : Cell → Cell} {cs : List Cell} {a : Int} {S : Int → Prop} (hc : ∀ f : Int, S f → Clo D cs a S f.toNat) {w : Cell} (h : Occ D cs a w) : ((D w).kind = 0 → (D w).n ≠ a) → ((D w).kind = 4 → S (D w).n) → False := by
  induction h with
  | var h1 h2 => intro q1 _; exact q1 h1 h2
  | arg h1 h2 h3 h4 ih =>
    intro _ q2
    have := hc _ (q2 h1) _ h2 h3
    exact ih this.1 this.2
def seenI (m : List (Int × Bool)) (f : Int) : Prop := (mget m f).getD false = true
theorem seen_set (m : List (Int × Bool)) (f g : Int) : seenI (mset m f true) g ↔ g = f ∨ seenI m g := by
  unfold seenI
  rw [mget_mset]
  by_cases h : g = f
  · simp [h]
  · rw [if_neg h]; simp [h]
theorem within_val (s : Store) (v : VSt s) (D : Cell → Cell) (a : Int) (hD : ∀ n w, Okw s.cells w → Hw s.cells n w → Hw s.cells n (D w) ∧ (∀ k, n + 1 < k → impl_Store_deref.f k s w = some (D w))) (hO : ∀ w, Okw s.cells w → Okw s.cells (D w)) :
    ∀ (n : Nat) (w : Cell) (m : List (Int × Bool)) (P : Int → Prop), Okw s.cells w → Hw s.cells n w → (∀ f, seenI m f → ¬ P f → Clo D s.cells a (seenI m) f.toNat) →
    ∃ b m', (∀ k, 30 * n + 50 < k → impl_Store_within.f k s a w m = some (b, m')) ∧ (b = true → Occ D s.cells a w) ∧ (b = false → (∀ f, seenI m f → seenI m' f) ∧ (∀ f, seenI m' f → ¬ P f → Clo D s.cells a (seenI m') f.toNat) ∧ ((D w).kind = 0 → (D w).n ≠ a) ∧ ((D w).kind = 4 → seenI m' (D w).n)) := by
  intro n
  induction n with
  | zero =>
    intro w m P hw hh hc
    obtain ⟨d1, d2⟩ := hD 0 w hw hh
    have u1 := hO w hw
    by_cases h0 : (D w).kind = 0
    · refine ⟨decide ((D w).n = a), m, fun k hk => ?_, fun h => .var h0 (by simpa using h), fun h => ⟨fun f hf => hf, hc, fun _ => by simpa using h, fun q => by omega⟩⟩
      obtain ⟨k, rfl⟩ : ∃ q, k = q + 1 := ⟨k - 1, by omega⟩
      rw [impl_Store_within.f, d2 k (by omega), Option.bind_some, if_pos h0]
    by_cases h4 : (D w).kind = 4
    · exfalso
      rcases u1 with q | q | q | q
      · omega
      · omega
      · omega
      · obtain ⟨f1, f2, f3⟩ := v.good.f (D w).n.toNat (by omega) q.2.2.2.2
        have : (1 : Int) ≤ nn s.cells (D w).n.toNat := f1.1
        cases d1.2 q.1 1 (Nat.le_refl _) (by omega)
    · refine ⟨false, m, fun k hk => ?_, fun h => (by cases h), fun _ => ⟨fun f hf => hf, hc, fun q => absurd q h0, fun q => absurd q h4⟩⟩
      obtain ⟨k, rfl⟩ : ∃ q, k = q + 1 := ⟨k - 1, by omega⟩
      rw [impl_Store_within.f, d2 k (by omega), Option.bind_some, if_neg h0, if_neg h4]
  | succ n ih =>
    intro w m P hw hh hc
    obtain ⟨d1, d2⟩ := hD (n + 1) w hw hh
    have u1 := hO w hw
    by_cases h0 : (D w).kind = 0
    · refine ⟨decide ((D w).n = a), m, fun k hk => ?_, fun h => .var h0 (by simpa using h), fun h => ⟨fun f hf => hf, hc, fun _ => by simpa using h, fun q => by omega⟩⟩
      obtain ⟨k, rfl⟩ : ∃ q, k = q + 1 := ⟨k - 1, by omega⟩
      rw [impl_Store_within.f, d2 k (by omega), Option.bind_some, if_pos h0]
    by_cases h4 : (D w).kind = 4
    · by_cases hs : seenI m (D w).n
      · refine ⟨false, m, fun k hk => ?_, fun h => (by cases h), fun _ => ⟨fun f hf => hf, hc, fun q => absurd q h0, fun _ => hs⟩⟩
        obtain ⟨k, rfl⟩ : ∃ q, k = q + 1 := ⟨k - 1, by omega⟩
        rw [impl_Store_within.f, d2 k (by omega), Option.bind_some, if_neg h0, if_pos h4, if_pos (show (mget m (D w).n).getD false = true from hs)]
      · have hnn : kd s.cells (D w).n.toNat = 3 ∧ 0 ≤ (D w).n ∧ (D w).n < (s.cells.length : Int) := by
          rcases u1 with q | q | q | q
          · omega
          · omega
          · omega
          · exact ⟨q.2.2.2.2, q.2.2.1, q.2.2.2.1⟩
        obtain ⟨f1, f2, f3⟩ := v.good.f (D w).n.toNat (by omega) hnn.1
        have hcl := v.cl
        have g1 : (1 : Int) ≤ nn s.cells (D w).n.toNat := f1.1
        have g2 : nn s.cells (D w).n.toNat ≤ 20 := f1.2.1
        have hy : (s.cells.getD (D w).n.toNat z36).n = nn s.cells (D w).n.toNat := rfl
        have loop : ∀ (q j : Nat) (m2 : List (Int × Bool)), (nn s.cells (D w).n.toNat).toNat + 1 - j = q → 1 ≤ j → j ≤ (nn s.cells (D w).n.toNat).toNat + 1 → (∀ f, seenI m2 f → ¬ (P f ∨ f = (D w).n) → Clo D s.cells a (seenI m2) f.toNat) →
            ∃ b m', (∀ k, 30 * n + 51 + q < k → impl_Store_within.l0 k s a (D w) (j : Int) m2 = some (b, m')) ∧ (b = true → Occ D s.cells a w) ∧ (b = false → (∀ f, seenI m2 f → seenI m' f) ∧ (∀ f, seenI m' f → ¬ (P f ∨ f = (D w).n) → Clo D s.cells a (seenI m') f.toNat) ∧
              ∀ l : Nat, j ≤ l → (l : Int) ≤ nn s.cells (D w).n.toNat → ((D (s.cells.getD ((D w).n.toNat + l) c0)).kind = 0 → (D (s.cells.getD ((D w).n.toNat + l) c0)).n ≠ a) ∧ ((D (s.cells.getD ((D w).n.toNat + l) c0)).kind = 4 → seenI m' (D (s.cells.getD ((D w).n.toNat + l) c0)).n)) := by
          intro q
          induction q with
          | zero =>
            intro j m2 hq hj hj2 hc2
            refine ⟨false, m2, fun k hk => ?_, fun h => (by cases h), fun _ => ⟨fun f hf => hf, hc2, fun l l1 l2 => by omega⟩⟩
            obtain ⟨k, rfl⟩ : ∃ q, k = q + 1 := ⟨k - 1, by omega⟩
            rw [impl_Store_within.l0, if_pos hnn.2.1, if_pos hnn.2.2, hy, if_neg (by omega)]
          | succ q ihq =>
            intro j m2 hq hj hj2 hc2
            obtain ⟨a1, a2, a3, a4⟩ := okw_args v u1 h4 hj (by omega)
            have hadd : IntKind.i64.wrap ((D w).n + (j : Int)) = (((D w).n.toNat + j : Nat) : Int) := by rw [wrap_id (by omega) (by omega)]; omega
            have hb := d1.2 h4 j hj (by omega)
            obtain ⟨b, m3, e1, e2, e3⟩ := ih (s.cells.getD ((D w).n.toNat + j) c0) m2 (fun f => P f ∨ f = (D w).n) (v.good.w _ a1 a2) (hw_cell v.good a1 a2 hb) hc2
            have e1 : ∀ k, 30 * n + 50 < k → impl_Store_within.f k s a (s.cells.getD ((D w).n.toNat + j) z36) m2 = some (b, m3) := e1
            cases b with
            | true =>
              refine ⟨true, m3, fun k hk => ?_, fun _ => .arg h4 hj (by omega) (e2 rfl), fun h => (by cases h)⟩
              obtain ⟨k, rfl⟩ : ∃ q, k = q + 1 := ⟨k - 1, by omega⟩
              rw [impl_Store_within.l0, if_pos hnn.2.1, if_pos hnn.2.2, hy, if_pos (by omega), hadd, if_pos (by omega), if_pos (by omega), Int.toNat_natCast, e1 k (by omega), Option.bind_some, if_pos rfl]
            | false =>
              obtain ⟨q1, q2, q3, q4⟩ := e3 rfl
              obtain ⟨b, m4, r1, r2, r3⟩ := ihq (j + 1) m3 (by omega) (by omega) (by omega) q2
              refine ⟨b, m4, fun k hk => ?_, r2, fun h => ?_⟩
              · obtain ⟨k, rfl⟩ : ∃ q, k = q + 1 := ⟨k - 1, by omega⟩
                rw [impl_Store_within.l0, if_pos hnn.2.1, if_pos hnn.2.2, hy, if_pos (by omega), hadd, if_pos (by omega), if_pos (by omega), Int.toNat_natCast, e1 k (by omega), Option.bind_some, if_neg (by simp), wrap_nat (by omega)]
                exact r1 k (by omega)
              · obtain ⟨s1, s2, s3⟩ := r3 h
                refine ⟨fun f hf => s1 f (q1 f hf), s2, fun l l1 l2 => ?_⟩
                rcases Nat.lt_or_ge j l with z | z
                · exact s3 l z l2
                · rw [show l = j by omega]
                  exact ⟨q3, fun h => s1 _ (q4 h)⟩
        obtain ⟨b, m', e1, e2, e3⟩ := loop (nn s.cells (D w).n.toNat).toNat 1 (mset m (D w).n true) (by omega) (by omega) (by omega) (fun f hf hn => by
          rcases (seen_set m (D w).n f).1 hf with e | e
          · exact absurd (.inr e) hn
          · intro l l1 l2
            have := hc f e (fun p => hn (.inl p)) l l1 l2
            exact ⟨this.1, fun q => (seen_set m _ _).2 (.inr (this.2 q))⟩)
        refine ⟨b, m', fun k hk => ?_, e2, fun h => ?_⟩
        · obtain ⟨k, rfl⟩ : ∃ q, k = q + 1 := ⟨k - 1, by omega⟩
          rw [impl_Store_within.f, d2 k (by omega), Option.bind_some, if_neg h0, if_pos h4, if_neg (show ¬ ((mget m (D w).n).getD false = true) from hs)]
          exact e1 k (by omega)
        · obtain ⟨s1, s2, s3⟩ := e3 h
          refine ⟨fun f hf => s1 f ((seen_set m _ f).2 (.inr hf)), fun f hf hn => ?_, fun q => absurd q h0, fun _ => s1 _ ((seen_set m _ _).2 (.inl rfl))⟩
          by_cases e : f = (D w).n
          · subst e; exact fun l l1 l2 => s3 l l1 l2
          · exact s2 f hf (fun q => q.elim hn e)
    · refine ⟨false, m, fun k hk => ?_, fun h => (by cases h), fun _ => ⟨fun f hf => hf, hc, fun q => absurd q h0, fun q => absurd q h4⟩⟩
      obtain ⟨k, rfl⟩ : ∃ q, k = q + 1 := ⟨k - 1, by omega⟩
      rw [impl_Store_within.f, d2 k (by omega), Option.bind_some, if_neg h0, if_neg h4]
theorem deref2_eq : ∀ (k : Nat) (h : GL10heap) (a b : Int) (c : List UInt8), spec_l10deref_2.l0 k h a b c = spec_l10deref.l0 k h a b c
  | 0, _, _, _, _ => rfl
  | k + 1, h, a, b, c => by rw [spec_l10deref_2.l0, spec_l10deref.l0]; simp only [deref2_eq k]
theorem deref2 (k : Nat) (h : GL10heap) (w : Cell) : spec_l10deref_2.f k h w = spec_l10deref.f k h w := by rw [spec_l10deref_2.f, spec_l10deref.f, deref2_eq]
/-! the specification's list of what is to be done -/
def Ob (D : Cell → Cell) (a : Int) (S : Int → Prop) (x : Cell) : Prop := ((D x).kind = 0 → (D x).n ≠ a) ∧ ((D x).kind = 4 → S (D x).n)
def seenS (ss : List Bool) (f : Int) : Prop := ss.getD f.toNat false = true ∧ 0 ≤ f
theorem swithin_val (s : Store) (v : VSt s) (N : Nat) (D : Cell → Cell) (hD : DrOK s N D) (a : Int) (tr : List Int) (pr : Int) (w0 : Cell) : ∀ (q : Nat) (todo : List Cell) (ss : List Bool) (k : Nat), todo.length + 45 * white false ss ≤ q → q + N + 100 < k → ss.length = s.cells.length → todo.length ≤ 1000000 → todo.length + 45 * white false ss ≤ 1000000 →
    (∀ x, x ∈ todo → Okw s.cells x ∧ (Occ D s.cells a x → Occ D s.cells a w0)) → (∀ f : Int, seenS ss f → ∀ l : Nat, 1 ≤ l → (l : Int) ≤ nn s.cells f.toNat → Ob D a (seenS ss) (s.cells.getD (f.toNat + l) c0) ∨ s.cells.getD (f.toNat + l) c0 ∈ todo) → (Ob D a (seenS ss) w0 ∨ w0 ∈ todo) →
    ∃ b, spec_l10within.l0 k ⟨s.cells, tr, pr⟩ a todo ss = some b ∧ (b = true ↔ Occ D s.cells a w0) := by
  intro q
  induction q using Nat.strongRecOn with
  | _ q ih =>
    intro todo ss k hq hk hl ht1 ht2 htd hcl hw0
    have hlen := v.cl
    obtain ⟨k, rfl⟩ : ∃ q, k = q + 1 := ⟨k - 1, by omega⟩
    rcases List.eq_nil_or_concat todo with rfl | ⟨L, x, rfl⟩
    · rw [spec_l10within.l0, if_neg (by simp)]
      refine ⟨false, rfl, ?_⟩
      simp only [Bool.false_eq_true, false_iff]
      intro h
      rcases hw0 with hw0 | hw0
      · refine no_occ (S := seenS ss) (fun f hf l l1 l2 => ?_) h hw0.1 hw0.2
        rcases hcl f hf l l1 l2 with z | z
        · exact z
        · cases z
      · cases hw0
    · have hx := htd x (by simp)
      obtain ⟨u1, u2, u3, u4⟩ := hD x hx.1
      simp only [List.concat_eq_append, List.length_append, List.length_cons, List.length_nil] at hq ht1 ht2 ⊢
      have hidx : IntKind.i64.wrap (((L ++ [x]).length : Int) - 1) = (L.length : Int) := by rw [List.length_append, List.length_singleton, wrap_id (by omega) (by omega)]; omega
      have hget : (L ++ [x]).getD L.length z36 = x := by rw [List.getD_eq_getElem?_getD, List.getElem?_append_right (Nat.le_refl _), Nat.sub_self]; rfl
      have htake : (L ++ [x]).take L.length = L := by simp
      have drop : Ob D a (seenS ss) x → ∃ b, spec_l10within.l0 k ⟨s.cells, tr, pr⟩ a L ss = some b ∧ (b = true ↔ Occ D s.cells a w0) := fun hob => by
        refine ih (L.length + 45 * white false ss) (by omega) L ss k (Nat.le_refl _) (by omega) hl (by omega) (by omega) (fun y hy => htd y (by simp [hy])) (fun f hf l l1 l2 => ?_) ?_
        · rcases hcl f hf l l1 l2 with z | z
          · exact .inl z
          · simp only [List.concat_eq_append, List.mem_append, List.mem_singleton] at z
            rcases z with z | z
            · exact .inr z
            · rw [z]; exact .inl hob
        · rcases hw0 with z | z
          · exact .inl z
          · simp only [List.concat_eq_append, List.mem_append, List.mem_singleton] at z
            rcases z with z | z
            · exact .inr z
            · rw [z]; exact .inl hob
      have expand : (D x).kind = 4 → ¬ ss.getD (D x).n.toNat false = true → ∀ (L1 : Nat → List Cell → Int → Option Bool),
          (∀ k acc (i : Nat), L1 (k + 1) acc (i : Int) = (if (D x).n < (s.cells.length : Int) then (if (i : Int) ≤ ((s.cells.getD ((D x).n.toNat) z36).n) then (if 0 ≤ (IntKind.i64.wrap ((D x).n + (i : Int))) then (if (IntKind.i64.wrap ((D x).n + (i : Int))) < (s.cells.length : Int) then (if acc.length + 1 ≤ 3518437208883 then (L1 k (acc ++ [(s.cells.getD (((IntKind.i64.wrap ((D x).n + (i : Int)))).toNat) z36)]) (IntKind.i64.wrap ((i : Int) + 1))) else none) else none) else none) else (spec_l10within.l0 k ⟨s.cells, tr, pr⟩ a acc (ss.set ((D x).n.toNat) true))) else none)) →
          ∃ b, L1 k L 1 = some b ∧ (b = true ↔ Occ D s.cells a w0) := fun h4 hns L1 hL1 => by
        have hnn : kd s.cells (D x).n.toNat = 3 ∧ 0 ≤ (D x).n ∧ (D x).n < (s.cells.length : Int) := by
          rcases u1 with q | q | q | q
          · omega
          · omega
          · omega
          · exact ⟨q.2.2.2.2, q.2.2.1, q.2.2.2.1⟩
        obtain ⟨f1, f2, f3⟩ := v.good.f (D x).n.toNat (by omega) hnn.1
        have g1 : (1 : Int) ≤ nn s.cells (D x).n.toNat := f1.1
        have g2 : nn s.cells (D x).n.toNat ≤ 20 := f1.2.1
        have hy : (s.cells.getD (D x).n.toNat z36).n = nn s.cells (D x).n.toNat := rfl
        have push : ∀ (m j k : Nat) (acc : List Cell), (nn s.cells (D x).n.toNat).toNat + 1 - j = m → 1 ≤ j → j ≤ (nn s.cells (D x).n.toNat).toNat + 1 → m < k → acc.length + m ≤ 2000000 → L1 k acc (j : Int) = spec_l10within.l0 (k - m - 1) ⟨s.cells, tr, pr⟩ a (acc ++ (List.range m).map fun i => s.cells.getD ((D x).n.toNat + j + i) c0) (ss.set ((D x).n.toNat) true) := by
          intro m
          induction m with
          | zero =>
            intro j k acc hm hj hj2 hk ha
            obtain ⟨k, rfl⟩ : ∃ q, k = q + 1 := ⟨k - 1, by omega⟩
            rw [hL1, if_pos hnn.2.2, hy, if_neg (by omega)]
            simp
          | succ m ihm =>
            intro j k acc hm hj hj2 hk ha
            obtain ⟨k, rfl⟩ : ∃ q, k = q + 1 := ⟨k - 1, by omega⟩
            have hadd : IntKind.i64.wrap ((D x).n + (j : Int)) = (((D x).n.toNat + j : Nat) : Int) := by rw [wrap_id (by omega) (by omega)]; omega
            rw [hL1, if_pos hnn.2.2, hy, if_pos (by omega), hadd, if_pos (by omega), if_pos (by omega), if_pos (by omega), Int.toNat_natCast, wrap_nat (by omega), ihm (j + 1) k _ (by omega) (by omega) (by omega) (by omega) (by simp; omega)]
            have e : acc ++ [s.cells.getD ((D x).n.toNat + j) z36] ++ ((List.range m).map fun i => s.cells.getD ((D x).n.toNat + (j + 1) + i) c0) = acc ++ ((List.range (m + 1)).map fun i => s.cells.getD ((D x).n.toNat + j + i) c0) := by
              rw [List.range_succ_eq_map, List.map_cons, List.map_map, List.append_assoc]
              congr 1
              rw [List.singleton_append, Nat.add_zero]
              refine congrArg (List.cons _) (List.map_congr_left fun i _ => ?_)
              show s.cells.getD ((D x).n.toNat + (j + 1) + i) c0 = s.cells.getD ((D x).n.toNat + j + (i + 1)) c0
              rw [show (D x).n.toNat + (j + 1) + i = (D x).n.toNat + j + (i + 1) by omega]
            rw [e, show k + 1 - (m + 1) - 1 = k - m - 1 by omega]
        have hil : (D x).n.toNat < ss.length := by omega
        have hwh := white_set (z := false) hil (by
          rw [List.getD_eq_getElem?_getD, List.getElem?_eq_getElem hil] at hns
          simpa using hns) (x := true) (by decide)
        have := push (nn s.cells (D x).n.toNat).toNat 1 k L (by omega) (by omega) (by omega) (by omega) (by omega)
        rw [show ((1 : Nat) : Int) = 1 from rfl] at this
        rw [this]
        have hsS : ∀ f : Int, seenS (ss.set (D x).n.toNat true) f ↔ f = (D x).n ∨ seenS ss f := fun f => by
          unfold seenS
          by_cases e : f = (D x).n
          · subst e
            simp [List.getD_eq_getElem?_getD, List.getElem?_set, hil, hnn.2.1]
          · by_cases hf : 0 ≤ f
            · have : (D x).n.toNat ≠ f.toNat := by omega
              simp [List.getD_eq_getElem?_getD, List.getElem?_set, this, e]
            · simp [hf, e]
        have obm : ∀ y, Ob D a (seenS ss) y → Ob D a (seenS (ss.set (D x).n.toNat true)) y := fun y h => ⟨h.1, fun z => (hsS _).2 (.inr (h.2 z))⟩
        have obx : Ob D a (seenS (ss.set (D x).n.toNat true)) x := ⟨fun z => by omega, fun _ => (hsS _).2 (.inl rfl)⟩
        refine ih ((L ++ ((List.range (nn s.cells (D x).n.toNat).toNat).map fun i => s.cells.getD ((D x).n.toNat + 1 + i) c0)).length + 45 * white false (ss.set (D x).n.toNat true)) (by simp; omega) _ _ _ (Nat.le_refl _) (by simp; omega) (by rw [List.length_set]; exact hl) (by simp; omega) (by simp; omega) (fun y hy => ?_) (fun f hf l l1 l2 => ?_) ?_
        · rcases List.mem_append.1 hy with hy | hy
          · exact htd y (by simp [hy])
          · obtain ⟨i, hi, rfl⟩ := List.mem_map.1 hy
            rw [List.mem_range] at hi
            obtain ⟨a1, a2, _, _⟩ := okw_args v u1 h4 (l := 1 + i) (by omega) (by omega)
            rw [← Nat.add_assoc] at a1 a2
            refine ⟨v.good.w _ a1 a2, fun ho => hx.2 (.arg h4 (l := 1 + i) (by omega) (by omega) ?_)⟩
            rw [← Nat.add_assoc]; exact ho
        · rcases (hsS f).1 hf with e | e
          · right
            subst e
            exact List.mem_append_right _ (List.mem_map.2 ⟨l - 1, by rw [List.mem_range]; omega, by rw [show (D x).n.toNat + 1 + (l - 1) = (D x).n.toNat + l by omega]⟩)
          · rcases hcl f e l l1 l2 with z | z
            · exact .inl (obm _ z)
            · simp only [List.concat_eq_append, List.mem_append, List.mem_singleton] at z
              rcases z with z | z
              · exact .inr (List.mem_append_left _ z)
              · rw [z]; exact .inl obx
        · rcases hw0 with z | z
          · exact .inl (obm _ z)
          · simp only [List.concat_eq_append, List.mem_append, List.mem_singleton] at z
            rcases z with z | z
            · exact .inr (List.mem_append_left _ z)
            · rw [z]; exact .inl obx
      rw [spec_l10within.l0, if_pos (by simp <;> omega), hidx, if_pos (by omega), if_pos (by simp <;> omega), Int.toNat_natCast, hget, htake, deref2, u4 k tr pr (by omega), Option.bind_some, if_pos (by simp <;> omega)]
      by_cases h0 : (D x).kind = 0
      · rw [if_pos h0]
        by_cases ha : (D x).n = a
        · rw [if_pos ha]
          exact ⟨true, rfl, by simp; exact hx.2 (.var h0 ha)⟩
        · rw [if_neg ha, if_pos (show (D x).kind ≠ 4 by omega)]
          exact drop ⟨fun _ => ha, fun z => by omega⟩
      · rw [if_neg h0]
        by_cases h4 : (D x).kind = 4
        · have hb : 0 ≤ (D x).n ∧ (D x).n < (s.cells.length : Int) := by unfold Okw at u1; omega
          rw [if_neg (show ¬ (D x).kind ≠ 4 by omega), if_pos hb.1, if_pos (show (D x).n < ((((s.cells.length : Int)).toNat : Nat) : Int) by omega)]
          by_cases hs : ss.getD (D x).n.toNat false = true
          · rw [if_pos hs]
            exact drop ⟨fun z => absurd z h0, fun _ => ⟨hs, hb.1⟩⟩
          · rw [if_neg hs]
            exact expand h4 hs (fun k acc i => spec_l10within.l2 k ⟨s.cells, tr, pr⟩ a ss (D x) acc i) (fun k acc i => rfl)
        · rw [if_pos h4]
          exact drop ⟨fun z => absurd z h0, fun z => absurd z h4⟩
end Go.Proofs.Ytnigifmkjmbfiaa
