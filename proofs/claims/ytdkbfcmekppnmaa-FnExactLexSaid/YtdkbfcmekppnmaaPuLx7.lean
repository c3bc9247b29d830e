import Derived.Test.YtdkbfcmekppnmaaPuLx6
namespace Go.Proofs.Ytdkbfcmekppnmaa
open Go.Sx Go.Sy
set_option linter.unusedVariables false
set_option linter.unusedSimpArgs false
set_option linter.unusedSectionVars false
set_option maxRecDepth 8000
set_option maxHeartbeats 4000000
theorem toByteS_id (xs : List UInt8) (k : Nat) (hl : xs.length ≤ 1048576) (hk : xs.length < k) : laws_toByteS.f k xs = some xs := by
  rw [laws_toByteS.f, if_pos (by omega), if_pos (by omega)]
  exact toF (z := 0) (fun k i ys => laws_toByteS.l0 k xs i ys) (fun _ _ _ => rfl) (by omega) k hk _ (by simp)
theorem eqByteS_id (xs : List UInt8) (k : Nat) (hl : xs.length ≤ 1048576) (hk : xs.length < k) : laws_eqByteS.f k xs xs = some true := by
  rw [laws_eqByteS.f, if_neg (by simp)]
  exact eqF (z := 0) (fun k i => laws_eqByteS.l0 k xs xs i) (fun _ _ => rfl) (by omega) k hk
def PB (n m : Int) (x : UInt8) : Prop := m = n + 1 ∧ x = b8 n
theorem markByteS_val (xs : List UInt8) (k : Nat) (n : Int) (hl : xs.length ≤ 1048576) (hk : 1048577 < k) (h0 : 0 ≤ n) (hn : n ≤ 8000000000000000000) :
    ∃ ys, laws_markByteS_2.f k xs n = some (n + (xs.length : Int), ys) ∧ ys.length = xs.length ∧ HL PB n (n + (xs.length : Int)) ys := by
  rw [laws_markByteS_2.f]
  have e : wts (fun _ : UInt8 => 1) xs = xs.length := by
    induction xs with
    | nil => rfl
    | cons x xs ih => rw [wts_cons, ih (by simp at hl; omega), List.length_cons]; omega
  have := markL (U := 9000000000000000000) (P := PB) (B := 0) (z := (0 : UInt8)) (w := fun _ => 1) (xs := xs) (fun k n i ys => laws_markByteS_2.l0 k xs n i ys) (fun _ _ n => if n + 1 ≤ 9000000000000000000 ∧ 0 ≤ n then some (n + 1, b8 n) else some (IntKind.i64.wrap (n + 1), b8 n))
    (fun k n i ys hi hy => by
      show laws_markByteS_2.l0 (k + 1) xs n i ys = _
      rw [laws_markByteS_2.l0, if_pos (by omega), if_pos (by omega), Int.toNat_natCast]
      by_cases hh : n + 1 ≤ 9000000000000000000 ∧ 0 ≤ n
      · rw [if_pos hh, Option.bind_some, wrap_id (n := n + 1) (by omega) (by omega)]
      · rw [if_neg hh, Option.bind_some])
    (fun k n ys => by
      show laws_markByteS_2.l0 (k + 1) xs n xs.length ys = _
      rw [laws_markByteS_2.l0, if_neg (by omega)])
    (by omega) (fun x _ k _ n q0 q1 => ⟨b8 n, by rw [if_pos ⟨q1, q0⟩]; rfl, rfl, rfl⟩) k (by omega) n h0 (by rw [e]; omega)
  rw [e] at this
  exact this
theorem getD_set_self {α : Type} {ys : List α} {i : Nat} {x z : α} (h : i < ys.length) : (ys.set i x).getD i z = x := by
  rw [List.getD_eq_getElem?_getD, List.getElem?_set_self h]; rfl
theorem heldByteS_val (xs : List UInt8) (k : Nat) (n m : Int) (hl : xs.length ≤ 1048576) (hk : 1048577 < k) (h0 : 0 ≤ n) (hm : m ≤ 9000000000000000000) (h : HL PB n m xs) : laws_heldByteS.f k xs n = some m ∧ n ≤ m := by
  rw [laws_heldByteS.f]
  have key : ∀ (q k i : Nat) (n : Int), xs.length - i = q → i ≤ xs.length → q < k → 0 ≤ n → HL PB n m (xs.drop i) → laws_heldByteS.l0 k xs n (i : Int) = some m ∧ n ≤ m := by
    intro q
    induction q with
    | zero =>
      intro k i n h1 h2 h3 h4 h5
      obtain ⟨k, rfl⟩ : ∃ q, k = q + 1 := ⟨k - 1, by omega⟩
      rw [List.drop_of_length_le (by omega)] at h5
      cases h5
      rw [laws_heldByteS.l0, if_neg (by omega)]
      exact ⟨rfl, Int.le_refl _⟩
    | succ q ih =>
      intro k i n h1 h2 h3 h4 h5
      obtain ⟨k, rfl⟩ : ∃ q, k = q + 1 := ⟨k - 1, by omega⟩
      have hi : i < xs.length := by omega
      rw [List.drop_eq_getElem_cons hi] at h5
      cases h5 with
      | cons p hr =>
        obtain ⟨rfl, p2⟩ := p
        have hle : n + 1 ≤ m := hr.le (fun _ _ _ h => by have := h.1; omega)
        rw [laws_heldByteS.l0, if_pos (by omega), if_pos (by omega), Int.toNat_natCast, getD_at hi, p2, if_neg (by simp), wrap_nat (by omega), wrap_id (n := n + 1) (by omega) (by omega)]
        obtain ⟨f1, f2⟩ := ih k (i + 1) (n + 1) (by omega) (by omega) (by omega) (by omega) hr
        exact ⟨f1, by omega⟩
  exact key xs.length k 0 n rfl (by omega) (by omega) h0 h

/-! ### tokens: equality, marks -/
def okToks (xs : List Token) : Prop := xs.length ≤ 10000 ∧ ∀ t, t ∈ xs → t.text.length ≤ 100
theorem eqToken_id (x : Token) (k : Nat) (hl : x.text.length ≤ 100) (hk : 1048577 ≤ k) : laws_eqToken.f k x x = some true := by
  rw [laws_eqToken.f, if_neg (by simp), if_neg (by simp), if_neg (by simp), eqByteS_id _ k (by omega) (by omega), Option.bind_some, if_neg (by simp), if_neg (by simp)]
theorem eqTokenS_id (xs : List Token) (k : Nat) (h : okToks xs) (hk : 2097154 < k) : laws_eqTokenS.f k xs xs = some true := by
  rw [laws_eqTokenS.f, if_neg (by simp)]
  have := h.1
  exact eqL (z := z37) (z' := z37) (B := 1048577) (fun k i => laws_eqTokenS.l0 k xs xs i) laws_eqToken.f (fun _ _ => rfl) (by omega) (fun x hx k hk => eqToken_id x k (h.2 x hx) hk) k (by omega)
def PT (n m : Int) (c : Token) : Prop := c.kind = n ∧ c.place = n + 1 ∧ c.size = n + 2 ∧ HL PB (n + 3) (m - 1) c.text ∧ c.n = m - 1 ∧ c.text.length ≤ 1048576 ∧ m ≤ 9000000000000000000
theorem markTokenS_val (xs : List Token) (k : Nat) (n : Int) (hl : okToks xs) (hk : 2097155 < k) (h0 : 0 ≤ n) (hn : n + (wts (fun x : Token => 4 + x.text.length) xs : Int) ≤ 8000000000000000000) :
    ∃ ys, laws_markTokenS_2.f k xs n = some (n + (wts (fun x : Token => 4 + x.text.length) xs : Int), ys) ∧ ys.length = xs.length ∧ HL PT n (n + (wts (fun x : Token => 4 + x.text.length) xs : Int)) ys := by
  have hl2 := hl.1
  rw [laws_markTokenS_2.f]
  refine markL (U := 8000000000000000000) (P := PT) (B := 1048578) (z := z37) (w := fun x => 4 + x.text.length) (xs := xs) (fun k n i ys => laws_markTokenS_2.l0 k xs n i ys)
    (fun k c n => (laws_markByteS_2.f k c.text (IntKind.i64.wrap (IntKind.i64.wrap (IntKind.i64.wrap (n + 1) + 1) + 1))).bind fun t => some (IntKind.i64.wrap (t.1 + 1), ⟨n, IntKind.i64.wrap (n + 1), IntKind.i64.wrap (IntKind.i64.wrap (n + 1) + 1), t.2, t.1⟩)) ?_ ?_ (by omega) ?_ k (by omega) n h0 (by omega)
  · intro k n i ys hi hy
    show laws_markTokenS_2.l0 (k + 1) xs n i ys = _
    rw [laws_markTokenS_2.l0, if_pos (by omega), if_pos (by omega), Int.toNat_natCast]
    have e : ∀ x : Token, i < (ys.set i x).length := fun x => by rw [List.length_set]; exact hi
    simp only [getD_set_self hi, List.set_set]
    cases laws_markByteS_2.f k (ys.getD i z37).text (IntKind.i64.wrap (IntKind.i64.wrap (IntKind.i64.wrap (n + 1) + 1) + 1)) <;> rfl
  · intro k n ys
    show laws_markTokenS_2.l0 (k + 1) xs n xs.length ys = _
    rw [laws_markTokenS_2.l0, if_neg (by omega)]
  · intro x hx k hk n q0 q1
    have hx1 := hl.2 x hx
    rw [wrap_id (n := n + 1) (by omega) (by omega), wrap_id (n := n + 1 + 1) (by omega) (by omega), wrap_id (n := n + 1 + 1 + 1) (by omega) (by omega)]
    obtain ⟨ys, e1, e2, e3⟩ := markByteS_val x.text k (n + 1 + 1 + 1) (by omega) (by omega) (by omega) (by omega)
    rw [e1, Option.bind_some]
    have e : n + 1 + 1 + 1 + (x.text.length : Int) + 1 = n + ((4 + x.text.length : Nat) : Int) := by omega
    refine ⟨⟨n, n + 1, n + 1 + 1, ys, n + 1 + 1 + 1 + (x.text.length : Int)⟩, ?_, rfl, rfl, ?_, ?_, ?_, by rw [e2]; omega, by omega⟩
    · show some (IntKind.i64.wrap (n + 1 + 1 + 1 + (x.text.length : Int) + 1), _) = _
      rw [wrap_id (by omega) (by omega), e]
    · show n + 1 + 1 = n + 2; omega
    · have e4 : n + ((4 + x.text.length : Nat) : Int) - 1 = n + 1 + 1 + 1 + (x.text.length : Int) := by omega
      have e5 : n + 3 = n + 1 + 1 + 1 := by omega
      rw [e4, e5]; exact e3
    · show n + 1 + 1 + 1 + (x.text.length : Int) = _; omega
theorem heldTokenS_val (xs : List Token) (k : Nat) (n m : Int) (hl : xs.length ≤ 1048576) (hk : 2097155 < k) (h0 : 0 ≤ n) (h : HL PT n m xs) : laws_heldTokenS.f k xs n = some m ∧ n ≤ m := by
  rw [laws_heldTokenS.f]
  have key : ∀ (q k i : Nat) (n : Int), xs.length - i = q → i ≤ xs.length → q + 1048578 < k → 0 ≤ n → HL PT n m (xs.drop i) → laws_heldTokenS.l0 k xs n (i : Int) = some m ∧ n ≤ m := by
    intro q
    induction q with
    | zero =>
      intro k i n h1 h2 h3 h4 h5
      obtain ⟨k, rfl⟩ : ∃ q, k = q + 1 := ⟨k - 1, by omega⟩
      rw [List.drop_of_length_le (by omega)] at h5
      cases h5
      rw [laws_heldTokenS.l0, if_neg (by omega)]
      exact ⟨rfl, Int.le_refl _⟩
    | succ q ih =>
      intro k i n h1 h2 h3 h4 h5
      obtain ⟨k, rfl⟩ : ∃ q, k = q + 1 := ⟨k - 1, by omega⟩
      have hi : i < xs.length := by omega
      rw [List.drop_eq_getElem_cons hi] at h5
      cases h5 with
      | @cons _ m' _ _ _ p hr =>
        obtain ⟨p1, p2, p3, p4, p5, p6, p7⟩ := p
        have hle := p4.le (fun _ _ _ h => by have := h.1; omega)
        obtain ⟨f1, f2⟩ := heldByteS_val xs[i].text k (n + 1 + 1 + 1) (m' - 1) p6 (by omega) (by omega) (by omega) ((show n + 3 = n + 1 + 1 + 1 by omega) ▸ p4)
        rw [laws_heldTokenS.l0, if_pos (by omega), if_pos (by omega), Int.toNat_natCast, getD_at hi, wrap_id (n := n + 1) (by omega) (by omega), wrap_id (n := n + 1 + 1) (by omega) (by omega), wrap_id (n := n + 1 + 1 + 1) (by omega) (by omega), if_neg (by simp [p1]), if_neg (by simp [p2]), if_neg (by rw [p3]; omega), f1, Option.bind_some, if_neg (by omega), if_neg (by simp [p5]), wrap_nat (by omega), wrap_id (n := m' - 1 + 1) (by omega) (by omega), show m' - 1 + 1 = m' by omega]
        obtain ⟨g1, g2⟩ := ih k (i + 1) m' (by omega) (by omega) (by omega) (by omega) hr
        exact ⟨g1, by omega⟩
  exact key xs.length k 0 n rfl (by omega) (by omega) h0 h
theorem wts_toks' {xs : List Token} (h : ∀ t, t ∈ xs → t.text.length ≤ 100) : wts (fun x : Token => 4 + x.text.length) xs ≤ 104 * xs.length := by
  induction xs with
  | nil => simp [wts]
  | cons x xs ih =>
    rw [wts_cons, List.length_cons]
    have := ih (fun t ht => h t (.tail _ ht))
    have := h x (.head _)
    omega
theorem wts_toks {xs : List Token} (h : okToks xs) : wts (fun x : Token => 4 + x.text.length) xs ≤ 104 * xs.length := wts_toks' h.2
end Go.Proofs.Ytdkbfcmekppnmaa
