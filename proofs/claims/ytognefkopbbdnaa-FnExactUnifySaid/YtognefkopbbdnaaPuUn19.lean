import Derived.Test.YtognefkopbbdnaaPuUn18
namespace Go.Proofs.Ytognefkopbbdnaa
open Go.Sx Go.Sy
set_option linter.unusedVariables false
set_option linter.unusedSimpArgs false
set_option linter.unusedSectionVars false
set_option maxRecDepth 4000
/-! ### sizes, copies, equality: cells -/
theorem left_m1 {b : Int} {n : Nat} (h : left b n < 0) : left b n = -1 := by unfold left at *; split <;> (split at h <;> first | rfl | omega)
theorem szByteS_val (xs : List UInt8) (b : Int) (h0 : 0 ≤ b) (h1 : b ≤ 1048576) (hl : xs.length ≤ 9223372036854775807) : laws_szByteS.f xs b = some (left b xs.length) := by
  rw [laws_szByteS.f]; exact sz0 h0 h1 hl
theorem szCell_val (x : Cell) (b : Int) (h0 : 0 ≤ b) (h1 : b ≤ 1048576) (hl : x.text.length ≤ 9223372036854775807) : laws_szCell.f x b = some (left b x.text.length) := by
  rw [laws_szCell.f, szByteS_val _ _ h0 h1 hl, Option.bind_some]
  split
  · rename_i h; rw [left_m1 h]
  · rfl
theorem szCellS_val (xs : List Cell) (k : Nat) (b : Int) (h0 : 0 ≤ b) (h1 : b ≤ 1048576) (hl : xs.length ≤ 9223372036854775807) (ht : ∀ c, c ∈ xs → c.text.length ≤ 9223372036854775807) (hk : 1048577 < k) :
    laws_szCellS.f k xs b = some (left b (wCells xs)) := by
  rw [laws_szCellS.f]
  refine szT h0 h1 hl fun h => ?_
  have hq := left_le h
  rw [left_wrap h0 h1 hl h]
  exact szL (B := 0) (z := z68) (fun x => x.text.length) (fun k b i => laws_szCellS.l0 k xs b i) (fun _ => laws_szCell.f) (fun _ _ _ => rfl) (by omega) (fun x hx _ _ b q0 q1 => szCell_val x b q0 q1 (ht x hx)) k (by omega) _ (by omega) (by omega)
theorem toByteS_id (xs : List UInt8) (k : Nat) (hl : xs.length ≤ 1048576) (hk : xs.length < k) : laws_toByteS.f k xs = some xs := by
  rw [laws_toByteS.f, if_pos (by omega), if_pos (by omega)]
  exact toF (z := 0) (fun k i ys => laws_toByteS.l0 k xs i ys) (fun _ _ _ => rfl) (by omega) k hk _ (by simp)
theorem toCell_id (x : Cell) (k : Nat) (hl : x.text.length ≤ 1048576) (hk : 1048577 ≤ k) : laws_toCell.f k x = some x := by
  rw [laws_toCell.f, toByteS_id _ k hl (by omega)]; rfl
theorem wCells_len {xs : List Cell} {n : Nat} (hl : wCells xs ≤ n) : xs.length ≤ n := Nat.le_trans (Nat.le_add_right _ _) hl
theorem wCells_mem {xs : List Cell} {n : Nat} (hl : wCells xs ≤ n) {x : Cell} (hx : x ∈ xs) : x.text.length ≤ n := Nat.le_trans (Nat.le_trans (wts_mem (fun x : Cell => x.text.length) hx) (Nat.le_add_left _ _)) hl
theorem toCellS_id (xs : List Cell) (k : Nat) (hl : wCells xs ≤ 1048576) (hk : 2097154 < k) : laws_toCellS.f k xs = some xs := by
  have hl2 := wCells_len hl
  rw [laws_toCellS.f, if_pos (by omega), if_pos (by omega)]
  exact toL (z := z68) (B := 1048577) (fun k i ys => laws_toCellS.l0 k xs i ys) laws_toCell.f (fun _ _ _ => rfl) (by omega) (fun x hx k hk => toCell_id x k (wCells_mem hl hx) hk) k (by omega) _ (by simp)
theorem eqByteS_id (xs : List UInt8) (k : Nat) (hl : xs.length ≤ 268435456) (hk : xs.length < k) : laws_eqByteS.f k xs xs = some true := by
  rw [laws_eqByteS.f, if_neg (by simp)]
  exact eqF (z := 0) (fun k i => laws_eqByteS.l0 k xs xs i) (fun _ _ => rfl) (by omega) k hk
theorem eqCell_id (x : Cell) (k : Nat) (hl : x.text.length ≤ 268435456) (hk : 268435457 ≤ k) : laws_eqCell.f k x x = some true := by
  rw [laws_eqCell.f, if_neg (by simp), if_neg (by simp), eqByteS_id _ k hl (by omega), Option.bind_some, if_neg (by simp)]
theorem eqCellS_id (xs : List Cell) (k : Nat) (hl : wCells xs ≤ 268435456) (hk : 536870914 < k) : laws_eqCellS.f k xs xs = some true := by
  have hl2 := wCells_len hl
  rw [laws_eqCellS.f, if_neg (by simp)]
  exact eqL (z := z65) (z' := z65) (B := 268435457) (fun k i => laws_eqCellS.l0 k xs xs i) laws_eqCell.f (fun _ _ => rfl) (by omega) (fun x hx k hk => eqCell_id x k (wCells_mem hl hx) hk) k (by omega)
/-! ### marks -/
def PB (n m : Int) (x : UInt8) : Prop := m = n + 1 ∧ x = b8 n
theorem markByteS_val (xs : List UInt8) (k : Nat) (n : Int) (hl : xs.length ≤ 268435456) (hk : 268435457 < k) (h0 : 0 ≤ n) (hn : n ≤ 8000000000000000000) :
    ∃ ys, laws_markByteS_2.f k xs n = some (n + (xs.length : Int), ys) ∧ ys.length = xs.length ∧ HL PB n (n + (xs.length : Int)) ys := by
  rw [laws_markByteS_2.f]
  have e : wts (fun _ : UInt8 => 1) xs = xs.length := by
    induction xs with
    | nil => rfl
    | cons x xs ih => rw [wts_cons, ih (by simp at hl; omega), List.length_cons]; omega
  have := markL (U := 9000000000000000000) (P := PB) (B := 0) (z := (0 : UInt8)) (w := fun _ => 1) (xs := xs) (fun k n i ys => laws_markByteS_2.l0 k xs n i ys) (fun _ _ n => if n + 1 ≤ 9000000000000000000 ∧ 0 ≤ n then some (n + 1, b8 n) else some (IntKind.i64.wrap (n + 1), b8 n))
    (fun k n i ys hi hy => by
      show laws_markByteS_2.l0 (k + 1) xs n i ys = _
      rw [laws_markByteS_2.l0, if_pos (by omega), if_pos (by omega), Int.toNat_natCast]
      by_cases hh : n + 1 ≤ 9000000000000000000 ∧ 0 ≤ n
      · rw [if_pos hh, Option.bind_some, wrap_id (n := n + 1) (by omega) (by omega)]
      · rw [if_neg hh, Option.bind_some])
    (fun k n ys => by
      show laws_markByteS_2.l0 (k + 1) xs n xs.length ys = _
      rw [laws_markByteS_2.l0, if_neg (by omega)])
    (by omega) (fun x _ k _ n q0 q1 => ⟨b8 n, by rw [if_pos ⟨q1, q0⟩]; rfl, rfl, rfl⟩) k (by omega) n h0 (by rw [e]; omega)
  rw [e] at this
  exact this
def PC (n m : Int) (c : Cell) : Prop := c.kind = n ∧ c.n = n + 1 ∧ HL PB (n + 2) m c.text ∧ c.text.length ≤ 268435456 ∧ m ≤ 9000000000000000000
theorem getD_set_self {α : Type} {ys : List α} {i : Nat} {x z : α} (h : i < ys.length) : (ys.set i x).getD i z = x := by
  rw [List.getD_eq_getElem?_getD, List.getElem?_set_self h]; rfl
theorem markCellS_val (xs : List Cell) (k : Nat) (n : Int) (hl : wCells xs ≤ 268435456) (hk : 536870915 < k) (h0 : 0 ≤ n) (hn : n + (wts (fun x : Cell => 2 + x.text.length) xs : Int) ≤ 8000000000000000000) :
    ∃ ys, laws_markCellS_2.f k xs n = some (n + (wts (fun x : Cell => 2 + x.text.length) xs : Int), ys) ∧ ys.length = xs.length ∧ HL PC n (n + (wts (fun x : Cell => 2 + x.text.length) xs : Int)) ys := by
  have hl2 := wCells_len hl
  rw [laws_markCellS_2.f]
  refine markL (U := 8000000000000000000) (P := PC) (B := 268435458) (z := z65) (w := fun x => 2 + x.text.length) (xs := xs) (fun k n i ys => laws_markCellS_2.l0 k xs n i ys)
    (fun k c n => (laws_markByteS_2.f k c.text (IntKind.i64.wrap (IntKind.i64.wrap (n + 1) + 1))).bind fun t => some (t.1, ⟨n, IntKind.i64.wrap (n + 1), t.2⟩)) ?_ ?_ (by omega) ?_ k (by omega) n h0 (by omega)
  · intro k n i ys hi hy
    show laws_markCellS_2.l0 (k + 1) xs n i ys = _
    rw [laws_markCellS_2.l0, if_pos (by omega), if_pos (by omega), Int.toNat_natCast]
    have e1 : i < (ys.set i { ys.getD i z65 with kind := n }).length := by rw [List.length_set]; exact hi
    simp only [getD_set_self hi, List.set_set, getD_set_self e1]
    cases laws_markByteS_2.f k (ys.getD i z65).text (IntKind.i64.wrap (IntKind.i64.wrap (n + 1) + 1)) <;> rfl
  · intro k n ys
    show laws_markCellS_2.l0 (k + 1) xs n xs.length ys = _
    rw [laws_markCellS_2.l0, if_neg (by omega)]
  · intro x hx k hk n q0 q1
    rw [wrap_id (n := n + 1) (by omega) (by omega), wrap_id (n := n + 1 + 1) (by omega) (by omega)]
    obtain ⟨ys, e1, e2, e3⟩ := markByteS_val x.text k (n + 1 + 1) (wCells_mem hl hx) (by omega) (by omega) (by omega)
    rw [e1, Option.bind_some]
    have e : n + 1 + 1 + (x.text.length : Int) = n + ((2 + x.text.length : Nat) : Int) := by omega
    refine ⟨⟨n, n + 1, ys⟩, by rw [e], rfl, rfl, ?_, by rw [e2]; exact wCells_mem hl hx, by omega⟩
    rw [← e]
    exact (show n + 2 = n + 1 + 1 by omega) ▸ e3
theorem heldByteS_val (xs : List UInt8) (k : Nat) (n m : Int) (hl : xs.length ≤ 268435456) (hk : 268435457 < k) (h0 : 0 ≤ n) (hm : m ≤ 9000000000000000000) (h : HL PB n m xs) : laws_heldByteS.f k xs n = some m ∧ n ≤ m := by
  rw [laws_heldByteS.f]
  have key : ∀ (q k i : Nat) (n : Int), xs.length - i = q → i ≤ xs.length → q < k → 0 ≤ n → HL PB n m (xs.drop i) → laws_heldByteS.l0 k xs n (i : Int) = some m ∧ n ≤ m := by
    intro q
    induction q with
    | zero =>
      intro k i n h1 h2 h3 h4 h5
      obtain ⟨k, rfl⟩ : ∃ q, k = q + 1 := ⟨k - 1, by omega⟩
      rw [List.drop_of_length_le (by omega)] at h5
      cases h5
      rw [laws_heldByteS.l0, if_neg (by omega)]
      exact ⟨rfl, Int.le_refl _⟩
    | succ q ih =>
      intro k i n h1 h2 h3 h4 h5
      obtain ⟨k, rfl⟩ : ∃ q, k = q + 1 := ⟨k - 1, by omega⟩
      have hi : i < xs.length := by omega
      rw [List.drop_eq_getElem_cons hi] at h5
      cases h5 with
      | cons p hr =>
        obtain ⟨rfl, p2⟩ := p
        have hle : n + 1 ≤ m := hr.le (fun _ _ _ h => by have := h.1; omega)
        rw [laws_heldByteS.l0, if_pos (by omega), if_pos (by omega), Int.toNat_natCast, getD_at hi, p2, if_neg (by simp), wrap_nat (by omega), wrap_id (n := n + 1) (by omega) (by omega)]
        obtain ⟨f1, f2⟩ := ih k (i + 1) (n + 1) (by omega) (by omega) (by omega) (by omega) hr
        exact ⟨f1, by omega⟩
  exact key xs.length k 0 n rfl (by omega) (by omega) h0 h
theorem heldCellS_val (xs : List Cell) (k : Nat) (n m : Int) (hl : xs.length ≤ 268435456) (hk : 536870915 < k) (h0 : 0 ≤ n) (h : HL PC n m xs) : laws_heldCellS.f k xs n = some m ∧ n ≤ m := by
  rw [laws_heldCellS.f]
  refine heldL (P := PC) (B := 268435458) (z := z65) (fun k n i => laws_heldCellS.l0 k xs n i) (fun k c n => if c.kind ≠ n then some (-1) else if c.n ≠ IntKind.i64.wrap (n + 1) then some (-1) else laws_heldByteS.f k c.text (IntKind.i64.wrap (IntKind.i64.wrap (n + 1) + 1))) ?_ (by omega) ?_ k (by omega) n h0 h
  · intro k n i
    show laws_heldCellS.l0 (k + 1) xs n i = _
    rw [laws_heldCellS.l0]
    split
    · split
      · generalize xs.getD i.toNat z65 = c
        by_cases h1 : c.kind ≠ n
        · rw [if_pos h1, if_pos h1, Option.bind_some, if_pos (by omega)]
        · rw [if_neg h1, if_neg h1]
          by_cases h2 : c.n ≠ IntKind.i64.wrap (n + 1)
          · rw [if_pos h2, if_pos h2, Option.bind_some, if_pos (by omega)]
          · rw [if_neg h2, if_neg h2]
      · rfl
    · rfl
  · intro n m c _ p h0 k hk
    obtain ⟨p1, p2, p3, p4, p5⟩ := p
    have hle := p3.le (fun _ _ _ h => by have := h.1; omega)
    rw [wrap_id (n := n + 1) (by omega) (by omega), wrap_id (n := n + 1 + 1) (by omega) (by omega), if_neg (by omega), if_neg (by omega)]
    obtain ⟨f1, f2⟩ := heldByteS_val c.text k (n + 1 + 1) m p4 (by omega) (by omega) p5 ((show n + 2 = n + 1 + 1 by omega) ▸ p3)
    exact ⟨f1, by omega⟩
/-! ### bindings: equality, marks, what is held -/
def wBd (b : Binding) : Nat := 1 + wts (fun x : Cell => 2 + x.text.length) b.term
def PBd (n m : Int) (b : Binding) : Prop := b.var = n ∧ HL PC (n + 1) m b.term ∧ b.term.length ≤ 268435456 ∧ m ≤ 8000000000000000000
def SmallB (xs : List Binding) : Prop := xs.length ≤ 1000 ∧ ∀ b, b ∈ xs → wCells b.term ≤ 202000
theorem eqBindingS_id (xs : List Binding) (k : Nat) (hl : SmallB xs) (hk : 805306400 < k) : laws_eqBindingS.f k xs xs = some true := by
  have hl2 := hl.1
  rw [laws_eqBindingS.f, if_neg (by simp)]
  exact eqL (z := z63) (z' := z63) (B := 600000000) (fun k i => laws_eqBindingS.l0 k xs xs i) laws_eqBinding.f (fun _ _ => rfl) (by omega) (fun x hx k hk => by have := hl.2 x hx; rw [laws_eqBinding.f, if_neg (by simp), eqCellS_id x.term k (by omega) (by omega), Option.bind_some, if_neg (by simp)]) k (by omega)
theorem markBindingS_val (xs : List Binding) (k : Nat) (hl : SmallB xs) (hk : 805306400 < k) : ∃ m ys, laws_markBindingS_2.f k xs 1 = some (m, ys) ∧ ys.length = xs.length ∧ HL PBd 1 m ys ∧ 1 ≤ m := by
  have hl2 := hl.1
  rw [laws_markBindingS_2.f]
  have hw : wts wBd xs ≤ xs.length * 500000 := wts_bound wBd fun b hb => by
    have := hl.2 b hb
    have := wts2 b.term
    unfold wBd; omega
  obtain ⟨ys, e1, e2, e3⟩ := markL (U := 7000000000000000000) (P := PBd) (B := 600000000) (z := z63) (w := wBd) (xs := xs) (fun k n i ys => laws_markBindingS_2.l0 k xs n i ys)
    (fun k c n => (laws_markCellS_2.f k c.term (IntKind.i64.wrap (n + 1))).bind fun t => some (t.1, ⟨n, t.2⟩))
    (fun k n i ys hi hy => by
      show laws_markBindingS_2.l0 (k + 1) xs n i ys = _
      rw [laws_markBindingS_2.l0, if_pos (by omega), if_pos (by omega), Int.toNat_natCast]
      simp only [getD_set_self hi, List.set_set]
      cases laws_markCellS_2.f k (ys.getD i z63).term (IntKind.i64.wrap (n + 1)) <;> rfl)
    (fun k n ys => by
      show laws_markBindingS_2.l0 (k + 1) xs n xs.length ys = _
      rw [laws_markBindingS_2.l0, if_neg (by omega)]) (by omega)
    (fun x hx k hk n q0 q1 => by
      have hx1 := hl.2 x hx
      have hx2 := wCells_len hx1
      unfold wBd at q1 ⊢
      rw [wrap_id (n := n + 1) (by omega) (by omega)]
      obtain ⟨ys, e1, e2, e3⟩ := markCellS_val x.term k (n + 1) (by omega) (by omega) (by omega) (by omega)
      have e : n + 1 + (wts (fun x : Cell => 2 + x.text.length) x.term : Int) = n + ((1 + wts (fun x : Cell => 2 + x.text.length) x.term : Nat) : Int) := by omega
      rw [e1, Option.bind_some, e]
      exact ⟨⟨n, ys⟩, rfl, rfl, by rw [← e]; exact e3, by show ys.length ≤ _; rw [e2]; omega, by omega⟩) k (by omega) 1 (by omega) (by omega)
  exact ⟨_, ys, e1, e2, e3, by omega⟩
theorem heldBindingS_val (xs : List Binding) (k : Nat) (m : Int) (hl : xs.length ≤ 1000) (hk : 805306400 < k) (h : HL PBd 1 m xs) : laws_heldBindingS.f k xs 1 = some m ∧ 1 ≤ m := by
  rw [laws_heldBindingS.f]
  exact heldL (P := PBd) (B := 600000000) (z := z63) (fun k n i => laws_heldBindingS.l0 k xs n i) (fun k c n => if c.var ≠ n then some (-1) else laws_heldCellS.f k c.term (IntKind.i64.wrap (n + 1)))
    (fun k n i => by
      show laws_heldBindingS.l0 (k + 1) xs n i = _
      rw [laws_heldBindingS.l0]
      split
      · split
        · generalize xs.getD i.toNat z63 = c
          by_cases h1 : c.var ≠ n
          · rw [if_pos h1, if_pos h1, Option.bind_some, if_pos (by omega)]
          · rw [if_neg h1, if_neg h1]
        · rfl
      · rfl) (by omega)
    (fun n m c _ p h0 k hk => by
      obtain ⟨p1, p2, p3, p4⟩ := p
      have hle := p2.le (fun _ _ _ h => by
        have h3 := h.2.2.1.le (fun _ _ _ h => by have := h.1; omega)
        omega)
      rw [wrap_id (n := n + 1) (by omega) (by omega), if_neg (by omega)]
      obtain ⟨f1, f2⟩ := heldCellS_val c.term k (n + 1) m p3 (by omega) (by omega) p2
      exact ⟨f1, by omega⟩) k (by omega) 1 (by omega) h
end Go.Proofs.Ytognefkopbbdnaa
