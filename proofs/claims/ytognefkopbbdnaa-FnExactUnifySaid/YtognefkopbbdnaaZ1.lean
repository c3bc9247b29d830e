import Derived.Test.YtognefkopbbdnaaOpenY
namespace Go.Sy
open Go.Sx
set_option linter.unusedVariables false
set_option linter.unusedSimpArgs false
set_option linter.unusedSectionVars false
/-! ### numbers -/
theorem wrap_id {n : Int} (h1 : -9223372036854775808 ≤ n) (h2 : n ≤ 9223372036854775807) : IntKind.i64.wrap n = n := by
  have e : IntKind.i64.wrap n = if n % 18446744073709551616 ≥ 9223372036854775808 then n % 18446744073709551616 - 18446744073709551616 else n % 18446744073709551616 := by
    simp [IntKind.wrap, IntKind.signed, IntKind.bits]
  rw [e]
  split <;> omega
theorem wrap_nat {n : Nat} (h : n < 9223372036854775807) : IntKind.i64.wrap ((n : Int) + 1) = ((n + 1 : Nat) : Int) := by
  rw [wrap_id (by omega) (by omega)]; omega
section
variable {α : Type} {xs : List α} {B : Nat} {z : α}
theorem getD_at {i : Nat} (hi : i < xs.length) : xs.getD i z = xs[i] := by rw [List.getD_eq_getElem?_getD, List.getElem?_eq_getElem hi]; rfl
theorem take_set {i : Nat} {ys : List α} {x : α} (hi : i < ys.length) (h5 : ys.take i = xs.take i) (hx : xs[i]? = some x) : (ys.set i x).take (i + 1) = xs.take (i + 1) := by
  rw [List.take_add_one, List.take_add_one, List.take_set_of_le (Nat.le_refl i), h5, List.getElem?_set_self hi, hx]
/-! ### the laws' copies -/
theorem toL (l0 : Nat → Int → List α → Option (List α)) (el : Nat → α → Option α)
    (h : ∀ k i ys, l0 (k + 1) i ys = (if i < (xs.length : Int) then (if 0 ≤ i then ((el k (xs.getD i.toNat z)).bind fun t => (if i < (((xs.length : Int)).toNat : Int) then l0 k (IntKind.i64.wrap (i + 1)) (ys.set i.toNat t) else none)) else none) else some ys))
    (hl : xs.length < 9223372036854775807) (hel : ∀ x, x ∈ xs → ∀ k, B ≤ k → el k x = some x) (k : Nat) (hk : B + xs.length < k) (ys : List α) (hy : ys.length = xs.length) : l0 k 0 ys = some xs := by
  have key : ∀ (m k i : Nat) (ys : List α), xs.length - i = m → i ≤ xs.length → B + m < k → ys.length = xs.length → ys.take i = xs.take i → l0 k (i : Int) ys = some xs := by
    intro m
    induction m with
    | zero =>
      intro k i ys h1 h2 h3 h4 h5
      obtain ⟨k, rfl⟩ : ∃ q, k = q + 1 := ⟨k - 1, by omega⟩
      rw [h, if_neg (by omega)]
      rw [List.take_of_length_le (by omega), List.take_of_length_le (by omega)] at h5
      rw [h5]
    | succ m ih =>
      intro k i ys h1 h2 h3 h4 h5
      obtain ⟨k, rfl⟩ : ∃ q, k = q + 1 := ⟨k - 1, by omega⟩
      have hi : i < xs.length := by omega
      rw [h, if_pos (by omega), if_pos (by omega), Int.toNat_natCast, getD_at hi, hel _ (List.getElem_mem hi) k (by omega)]
      rw [Option.bind_some, if_pos (by omega), wrap_nat (by omega)]
      exact ih k (i + 1) _ (by omega) (by omega) (by omega) (by simpa using h4) (take_set (by omega) h5 (List.getElem?_eq_getElem hi))
  exact key xs.length k 0 ys rfl (by omega) hk hy (by simp)
theorem toF (l0 : Nat → Int → List α → Option (List α))
    (h : ∀ k i ys, l0 (k + 1) i ys = (if i < (xs.length : Int) then (if 0 ≤ i then (if i < (((xs.length : Int)).toNat : Int) then l0 k (IntKind.i64.wrap (i + 1)) (ys.set i.toNat (xs.getD i.toNat z)) else none) else none) else some ys))
    (hl : xs.length < 9223372036854775807) (k : Nat) (hk : xs.length < k) (ys : List α) (hy : ys.length = xs.length) : l0 k 0 ys = some xs :=
  toL (z := z) (B := 0) l0 (fun _ x => some x) (fun k i ys => by rw [h]; rfl) hl (fun _ _ _ _ => rfl) k (by omega) ys hy
/-! ### equality with oneself -/
theorem eqL (l0 : Nat → Int → Option Bool) (el : Nat → α → α → Option Bool) {z' : α}
    (h : ∀ k i, l0 (k + 1) i = (if i < (xs.length : Int) then (if 0 ≤ i then (if i < (xs.length : Int) then ((el k (xs.getD i.toNat z) (xs.getD i.toNat z')).bind fun t => (if ¬ (t = true) then some false else l0 k (IntKind.i64.wrap (i + 1)))) else none) else none) else some true))
    (hl : xs.length < 9223372036854775807) (hel : ∀ x, x ∈ xs → ∀ k, B ≤ k → el k x x = some true) (k : Nat) (hk : B + xs.length < k) : l0 k 0 = some true := by
  have key : ∀ (m k i : Nat), xs.length - i = m → i ≤ xs.length → B + m < k → l0 k (i : Int) = some true := by
    intro m
    induction m with
    | zero =>
      intro k i h1 h2 h3
      obtain ⟨k, rfl⟩ : ∃ q, k = q + 1 := ⟨k - 1, by omega⟩
      rw [h, if_neg (by omega)]
    | succ m ih =>
      intro k i h1 h2 h3
      obtain ⟨k, rfl⟩ : ∃ q, k = q + 1 := ⟨k - 1, by omega⟩
      have hi : i < xs.length := by omega
      rw [h, if_pos (by omega), if_pos (by omega), if_pos (by omega), Int.toNat_natCast, getD_at hi, getD_at hi, hel _ (List.getElem_mem hi) k (by omega), Option.bind_some, if_neg (by simp), wrap_nat (by omega)]
      exact ih k (i + 1) (by omega) (by omega) (by omega)
  exact key xs.length k 0 rfl (by omega) hk
theorem eqF {xs : List UInt8} {z : UInt8} (l0 : Nat → Int → Option Bool)
    (h : ∀ k i, l0 (k + 1) i = (if i < (xs.length : Int) then (if 0 ≤ i then (if i < (xs.length : Int) then (if ((xs.getD i.toNat z).toNat : Int) ≠ ((xs.getD i.toNat z).toNat : Int) then some false else l0 k (IntKind.i64.wrap (i + 1))) else none) else none) else some true))
    (hl : xs.length < 9223372036854775807) (k : Nat) (hk : xs.length < k) : l0 k 0 = some true :=
  eqL (z := z) (z' := z) (B := 0) l0 (fun _ x y => some (decide (¬ (x.toNat : Int) ≠ (y.toNat : Int)))) (fun k i => by rw [h]; simp) hl (fun _ _ _ _ => by simp) k (by omega)
theorem eqI {xs : List Int} {z : Int} (l0 : Nat → Int → Option Bool)
    (h : ∀ k i, l0 (k + 1) i = (if i < (xs.length : Int) then (if 0 ≤ i then (if i < (xs.length : Int) then (if xs.getD i.toNat z ≠ xs.getD i.toNat z then some false else l0 k (IntKind.i64.wrap (i + 1))) else none) else none) else some true))
    (hl : xs.length < 9223372036854775807) (k : Nat) (hk : xs.length < k) : l0 k 0 = some true :=
  eqL (z := z) (z' := z) (B := 0) l0 (fun _ x y => some (decide (¬ x ≠ y))) (fun k i => by rw [h]; simp) hl (fun _ _ _ _ => by simp) k (by omega)
/-! ### sizes -/
/-- what is left of b -/
def left (b : Int) (n : Nat) : Int := if b < (n : Int) then -1 else b - n
theorem left_left (b : Int) (n m : Nat) : (if left b n < 0 then (-1 : Int) else left (left b n) m) = left b (n + m) := by unfold left; split <;> split <;> (try split) <;> (try split) <;> omega
theorem left_add (b : Int) (n m : Nat) (h : ¬ left b n < 0) : left (left b n) m = left b (n + m) := by have := left_left b n m; rwa [if_neg h] at this
theorem left_neg (b : Int) (n m : Nat) (h : left b n < 0) : left b (n + m) = -1 := by have := left_left b n m; rw [if_pos h] at this; exact this.symm
theorem left_le {b : Int} {n : Nat} (h : ¬ left b n < 0) : (n : Int) ≤ b ∧ 0 ≤ left b n ∧ left b n ≤ b := by unfold left at *; split at h <;> (try split) <;> omega
def wts (w : α → Nat) (xs : List α) : Nat := (xs.map w).sum
theorem wts_cons (w : α → Nat) (x : α) (xs : List α) : wts w (x :: xs) = w x + wts w xs := by simp [wts]
theorem wts_mem (w : α → Nat) {xs : List α} {x : α} (h : x ∈ xs) : w x ≤ wts w xs := by
  induction xs with
  | nil => cases h
  | cons y ys ih =>
    rw [wts_cons]
    rcases List.mem_cons.1 h with rfl | h
    · omega
    · have := ih h; omega
theorem szL (w : α → Nat) (l0 : Nat → Int → Int → Option Int) (el : Nat → α → Int → Option Int)
    (h : ∀ k b i, l0 (k + 1) b i = (if i < (xs.length : Int) then (if 0 ≤ i then ((el k (xs.getD i.toNat z) b).bind fun t => (if t < 0 then some (-1) else l0 k t (IntKind.i64.wrap (i + 1)))) else none) else some b))
    (hl : xs.length < 9223372036854775807) (hel : ∀ x, x ∈ xs → ∀ k, B ≤ k → ∀ b, 0 ≤ b → b ≤ 1048576 → el k x b = some (left b (w x))) (k : Nat) (hk : B + xs.length < k) (b : Int) (h0 : 0 ≤ b) (h1 : b ≤ 1048576) : l0 k b 0 = some (left b (wts w xs)) := by
  have key : ∀ (m k i : Nat) (b : Int), xs.length - i = m → i ≤ xs.length → B + m < k → 0 ≤ b → b ≤ 1048576 → l0 k b (i : Int) = some (left b (wts w (xs.drop i))) := by
    intro m
    induction m with
    | zero =>
      intro k i b h1 h2 h3 h4 h5
      obtain ⟨k, rfl⟩ : ∃ q, k = q + 1 := ⟨k - 1, by omega⟩
      rw [h, if_neg (by omega), List.drop_of_length_le (by omega)]
      simp [left, wts]; omega
    | succ m ih =>
      intro k i b h1 h2 h3 h4 h5
      obtain ⟨k, rfl⟩ : ∃ q, k = q + 1 := ⟨k - 1, by omega⟩
      have hi : i < xs.length := by omega
      rw [h, if_pos (by omega), if_pos (by omega), Int.toNat_natCast, getD_at hi, hel _ (List.getElem_mem hi) k (by omega) b h4 h5, Option.bind_some, List.drop_eq_getElem_cons hi, wts_cons]
      by_cases hn : left b (w xs[i]) < 0
      · rw [if_pos hn, left_neg _ _ _ hn]
      · have hq := left_le hn
        rw [if_neg hn, wrap_nat (by omega), ih k (i + 1) _ (by omega) (by omega) (by omega) hq.2.1 (by omega), left_add _ _ _ hn]
  exact key xs.length k 0 b rfl (by omega) hk h0 h1
theorem sz0 {n : Nat} {b : Int} (h0 : 0 ≤ b) (h1 : b ≤ 1048576) (hl : n ≤ 9223372036854775807) : (if (IntKind.i64.wrap (b - (n : Int))) < 0 then some (-1) else some (IntKind.i64.wrap (b - (n : Int)))) = some (left b n) := by
  rw [wrap_id (by omega) (by omega)]; unfold left; split <;> split <;> first | rfl | omega
theorem szT {n m : Nat} {b : Int} {r : Option Int} (h0 : 0 ≤ b) (h1 : b ≤ 1048576) (hl : n ≤ 9223372036854775807) (hr : ¬ left b n < 0 → r = some (left (left b n) m)) : (if (IntKind.i64.wrap (b - (n : Int))) < 0 then some (-1) else r) = some (left b (n + m)) := by
  have e : b - (n : Int) < 0 ↔ left b n < 0 := by unfold left; split <;> omega
  rw [wrap_id (by omega) (by omega)]
  by_cases h : left b n < 0
  · rw [if_pos (e.2 h), left_neg _ _ _ h]
  · rw [if_neg (fun q => h (e.1 q)), hr h, left_add _ _ _ h]
theorem left_wrap {n : Nat} {b : Int} (h0 : 0 ≤ b) (h1 : b ≤ 1048576) (hl : n ≤ 9223372036854775807) (h : ¬ left b n < 0) : IntKind.i64.wrap (b - (n : Int)) = left b n := by
  rw [wrap_id (by omega) (by omega)]; unfold left at *; split at h <;> (try split) <;> omega
end
end Go.Sy
