import Derived.Test.YtognefkopbbdnaaZ1
namespace Go.Sy
open Go.Sx
set_option linter.unusedVariables false
set_option linter.unusedSimpArgs false
/-! ### trees and their cells -/
mutual
def flat : Tm → List Cell
  | .mk k n s us => ⟨k, n, s⟩ :: flats us
def flats : List Tm → List Cell
  | [] => []
  | t :: ts => flat t ++ flats ts
end
/-- a cell that may stand in a term -/
def Okc (c : Cell) : Prop := (c.kind = 0 ∧ 0 ≤ c.n ∧ c.n ≤ 1000000 ∧ c.text = []) ∨ (c.kind = 1 ∧ -1000000000000000 ≤ c.n ∧ c.n ≤ 1000000000000000 ∧ c.text = []) ∨ (c.kind = 2 ∧ c.n = 0 ∧ c.text.length ≤ 100) ∨ (c.kind = 3 ∧ 1 ≤ c.n ∧ c.n ≤ 20 ∧ c.text.length ≤ 100)
mutual
def Wf : Tm → Prop
  | .mk k n s us => Okc ⟨k, n, s⟩ ∧ (k = 3 → (us.length : Int) = n) ∧ (k ≠ 3 → us = []) ∧ Wfs us
def Wfs : List Tm → Prop
  | [] => True
  | t :: ts => Wf t ∧ Wfs ts
end
theorem Wfs_append : ∀ (a b : List Tm), Wfs (a ++ b) ↔ Wfs a ∧ Wfs b
  | [], b => by simp [Wfs]
  | t :: a, b => by simp [Wfs, Wfs_append a b, and_assoc]
theorem flats_append : ∀ (a b : List Tm), flats (a ++ b) = flats a ++ flats b
  | [], b => by simp [flats]
  | t :: a, b => by simp [flats, flats_append a b, List.append_assoc]
theorem flat_pos : ∀ t : Tm, 1 ≤ (flat t).length
  | .mk k n s us => by simp [flat]
theorem drop1 (c : Cell) (l : List Cell) : (c :: l).drop (1 : Int).toNat = l := rfl
theorem Okc.text {c : Cell} (h : Okc c) : c.text.length ≤ 100 := by
  rcases h with ⟨_, _, _, h⟩ | ⟨_, _, _, h⟩ | ⟨_, _, h⟩ | ⟨_, _, _, h⟩ <;> first | exact h | (rw [h]; simp)
theorem Okc.n3 {c : Cell} (h : Okc c) (h3 : c.kind = 3) : 1 ≤ c.n ∧ c.n ≤ 20 := by
  rcases h with ⟨h, _⟩ | ⟨h, _⟩ | ⟨h, _⟩ | ⟨_, h, h', _⟩ <;> first | omega | exact ⟨h, h'⟩
theorem flats_len : ∀ us : List Tm, us.length ≤ (flats us).length
  | [] => by simp
  | t :: us => by
    have := flats_len us
    have := flat_pos t
    simp [flats]; omega
mutual
theorem flat_ok : ∀ t : Tm, Wf t → ∀ c, c ∈ flat t → Okc c
  | .mk k n s us, hw, c, hc => by
    simp only [Wf] at hw
    simp only [flat] at hc
    rcases List.mem_cons.1 hc with rfl | hc
    · exact hw.1
    · exact flats_ok us hw.2.2.2 c hc
theorem flats_ok : ∀ us : List Tm, Wfs us → ∀ c, c ∈ flats us → Okc c
  | [], _, c, hc => by simp [flats] at hc
  | t :: us, hw, c, hc => by
    simp only [Wfs] at hw
    simp only [flats] at hc
    rcases List.mem_append.1 hc with hc | hc
    · exact flat_ok t hw.1 c hc
    · exact flats_ok us hw.2 c hc
end
def wCells (xs : List Cell) : Nat := xs.length + wts (fun x => x.text.length) xs
theorem wts_bound {α : Type} (w : α → Nat) {xs : List α} {n : Nat} (h : ∀ x, x ∈ xs → w x ≤ n) : wts w xs ≤ xs.length * n := by
  induction xs with
  | nil => simp [wts]
  | cons x xs ih =>
    rw [wts_cons]
    have := ih fun y hy => h y (.tail _ hy)
    have := h x (.head _)
    rw [List.length_cons, Nat.add_mul]; omega
theorem wCells_ok {xs : List Cell} (h : ∀ c, c ∈ xs → Okc c) : wCells xs ≤ 101 * xs.length := by
  have := wts_bound (fun x : Cell => x.text.length) (n := 100) (xs := xs) fun c hc => (h c hc).text
  unfold wCells; omega
theorem mget_mset {κ α : Type} [DecidableEq κ] (m : List (κ × α)) (k j : κ) (x : α) : mget (mset m k x) j = if j = k then some x else mget m j := by
  induction m with
  | nil =>
    by_cases h : j = k
    · subst h; simp [mset, mget]
    · have : ¬ k = j := fun e => h e.symm
      simp [mset, mget, h, this]
  | cons p m ih =>
    unfold mset
    by_cases h : p.1 = k
    · rw [if_pos h]
      unfold mget
      by_cases h2 : j = k
      · subst h2; simp
      · have : ¬ k = j := fun e => h2 e.symm
        have h3 : ¬ p.1 = j := fun e => h2 (e ▸ h)
        simp [h2, this, h3]
    · rw [if_neg h]
      unfold mget
      by_cases h2 : p.1 = j
      · have : ¬ j = k := fun e => h (h2.trans e)
        simp [h2, this]
      · rw [if_neg h2, if_neg h2, ih]
/-! ### marks and what is held -/
inductive HL {α : Type} (P : Int → Int → α → Prop) : Int → Int → List α → Prop
  | nil (n : Int) : HL P n n []
  | cons {n m l : Int} {x : α} {xs : List α} : P n m x → HL P m l xs → HL P n l (x :: xs)
theorem HL.append {α : Type} {P : Int → Int → α → Prop} {n m : Int} {xs : List α} (h : HL P n m xs) {l : Int} {ys : List α} (h2 : HL P m l ys) : HL P n l (xs ++ ys) := by
  induction h with
  | nil => exact h2
  | cons p _ ih => exact .cons p (ih h2)
theorem HL.le {α : Type} {P : Int → Int → α → Prop} (hp : ∀ n m x, P n m x → n ≤ m) {n m : Int} {xs : List α} (h : HL P n m xs) : n ≤ m := by
  induction h with
  | nil => exact Int.le_refl _
  | cons p _ ih => exact Int.le_trans (hp _ _ _ p) ih
section
variable {α : Type} {xs : List α} {B : Nat} {z : α} {w : α → Nat} {P : Int → Int → α → Prop}
end
end Go.Sy
