import Derived.Test.YtdkbfcmekppnmaaGreatDoorZ1
namespace Go.Sy
open Go.Sx
set_option linter.unusedVariables false
set_option linter.unusedSimpArgs false
mutual
def flat : Tm → List Cell
  | .mk k n s us => ⟨k, n, s⟩ :: flats us
def flats : List Tm → List Cell
  | [] => []
  | t :: ts => flat t ++ flats ts
end
def Okc (c : Cell) : Prop := (c.kind = 0 ∧ 0 ≤ c.n ∧ c.n ≤ 1000000 ∧ c.text = []) ∨ (c.kind = 1 ∧ -1000000000000000 ≤ c.n ∧ c.n ≤ 1000000000000000 ∧ c.text = []) ∨ (c.kind = 2 ∧ c.n = 0 ∧ c.text.length ≤ 100) ∨ (c.kind = 3 ∧ 1 ≤ c.n ∧ c.n ≤ 20 ∧ c.text.length ≤ 100)
mutual
def Wf : Tm → Prop
  | .mk k n s us => Okc ⟨k, n, s⟩ ∧ (k = 3 → (us.length : Int) = n) ∧ (k ≠ 3 → us = []) ∧ Wfs us
def Wfs : List Tm → Prop
  | [] => True
  | t :: ts => Wf t ∧ Wfs ts
end
theorem Wfs_append : ∀ (a b : List Tm), Wfs (a ++ b) ↔ Wfs a ∧ Wfs b
  | [], b => by simp [Wfs]
  | t :: a, b => by simp [Wfs, Wfs_append a b, and_assoc]
theorem flats_append : ∀ (a b : List Tm), flats (a ++ b) = flats a ++ flats b
  | [], b => by simp [flats]
  | t :: a, b => by simp [flats, flats_append a b, List.append_assoc]
theorem flat_pos : ∀ t : Tm, 1 ≤ (flat t).length
  | .mk k n s us => by simp [flat]
theorem Okc.text {c : Cell} (h : Okc c) : c.text.length ≤ 100 := by
  rcases h with ⟨_, _, _, h⟩ | ⟨_, _, _, h⟩ | ⟨_, _, h⟩ | ⟨_, _, _, h⟩ <;> first | exact h | (rw [h]; simp)
theorem Okc.n3 {c : Cell} (h : Okc c) (h3 : c.kind = 3) : 1 ≤ c.n ∧ c.n ≤ 20 := by
  rcases h with ⟨h, _⟩ | ⟨h, _⟩ | ⟨h, _⟩ | ⟨_, h, h', _⟩ <;> first | omega | exact ⟨h, h'⟩
theorem flats_len : ∀ us : List Tm, us.length ≤ (flats us).length
  | [] => by simp
  | t :: us => by
    have := flats_len us
    have := flat_pos t
    simp [flats]; omega
inductive HL {α : Type} (P : Int → Int → α → Prop) : Int → Int → List α → Prop
  | nil (n : Int) : HL P n n []
  | cons {n m l : Int} {x : α} {xs : List α} : P n m x → HL P m l xs → HL P n l (x :: xs)
theorem HL.append {α : Type} {P : Int → Int → α → Prop} {n m : Int} {xs : List α} (h : HL P n m xs) {l : Int} {ys : List α} (h2 : HL P m l ys) : HL P n l (xs ++ ys) := by
  induction h with
  | nil => exact h2
  | cons p _ ih => exact .cons p (ih h2)
theorem HL.le {α : Type} {P : Int → Int → α → Prop} (hp : ∀ n m x, P n m x → n ≤ m) {n m : Int} {xs : List α} (h : HL P n m xs) : n ≤ m := by
  induction h with
  | nil => exact Int.le_refl _
  | cons p _ ih => exact Int.le_trans (hp _ _ _ p) ih
section
variable {α : Type} {xs : List α} {B : Nat} {z : α} {w : α → Nat} {P : Int → Int → α → Prop}
end
end Go.Sy
