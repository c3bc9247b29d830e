import Derived.Test.YtdkbfcmekppnmaaGreatDoorZ2
namespace Go.Sy
open Go.Sx
set_option linter.unusedVariables false
set_option linter.unusedSimpArgs false
inductive Hb (S : Nat → List Nat) : Nat → Nat → Prop
  | mk {n a : Nat} : (∀ b, b ∈ S a → Hb S n b) → Hb S (n + 1) a
theorem Hb.mono {S : Nat → List Nat} {n a : Nat} (h : Hb S n a) : ∀ {m : Nat}, n ≤ m → Hb S m a := by
  induction h with
  | mk _ ih =>
    intro m hm
    obtain ⟨m, rfl⟩ : ∃ q, m = q + 1 := ⟨m - 1, by omega⟩
    exact .mk fun b hb => ih b hb (by omega)
inductive Ac (S : Nat → List Nat) : Nat → Prop
  | mk {a : Nat} : (∀ b, b ∈ S a → Ac S b) → Ac S a
open Classical in
section
variable {α : Type} [DecidableEq α] {z : α}
end
def c0 : Cell := ⟨0, 0, []⟩
def kd (cs : List Cell) (i : Nat) : Int := (cs.getD i c0).kind
def nn (cs : List Cell) (i : Nat) : Int := (cs.getD i c0).n
def Okw (cs : List Cell) (c : Cell) : Prop := (c.kind = 2 ∧ c.n = 0 ∧ c.text.length ≤ 100) ∨ (c.kind = 1 ∧ -1000000000000000 ≤ c.n ∧ c.n ≤ 1000000000000000 ∧ c.text.length = 0) ∨ (c.kind = 0 ∧ c.text.length = 0 ∧ 0 ≤ c.n ∧ c.n < (cs.length : Int) ∧ kd cs c.n.toNat ≠ 3) ∨ (c.kind = 4 ∧ c.text.length = 0 ∧ 0 ≤ c.n ∧ c.n < (cs.length : Int) ∧ kd cs c.n.toNat = 3)
instance (cs : List Cell) (c : Cell) : Decidable (Okw cs c) := by unfold Okw; infer_instance
def Okf (c : Cell) : Prop := 1 ≤ c.n ∧ c.n ≤ 20 ∧ c.text.length ≤ 100
instance (c : Cell) : Decidable (Okf c) := by unfold Okf; infer_instance
structure Goodc (cs : List Cell) : Prop where
  w : ∀ i, i < cs.length → kd cs i ≠ 3 → Okw cs (cs.getD i c0)
  f : ∀ i, i < cs.length → kd cs i = 3 → Okf (cs.getD i c0) ∧ (i : Int) + nn cs i < (cs.length : Int) ∧ ∀ l : Nat, 1 ≤ l → (l : Int) ≤ nn cs i → kd cs (i + l) ≠ 3
def sI (cs : List Cell) (a : Nat) : List Nat := if kd cs a = 0 ∧ nn cs a ≠ (a : Int) then [(nn cs a).toNat] else if kd cs a = 4 then (List.range (nn cs (nn cs a).toNat).toNat).map (fun k => (nn cs a).toNat + 1 + k) else []
theorem Goodc.len {cs : List Cell} (g : Goodc cs) {a : Nat} (ha : a < cs.length) (hk : kd cs a ≠ 3) : (sI cs a).length ≤ 20 := by
  have hw := g.w a ha hk
  have e1 : (cs.getD a c0).kind = kd cs a := rfl
  have e2 : (cs.getD a c0).n = nn cs a := rfl
  unfold Okw at hw
  rw [e1, e2] at hw
  unfold sI
  split
  · simp
  · split
    · rename_i h
      rcases hw with q | q | q | q
      · omega
      · omega
      · omega
      · obtain ⟨f1, _, _⟩ := g.f (nn cs a).toNat (by omega) q.2.2.2.2
        have : nn cs (nn cs a).toNat ≤ 20 := f1.2.1
        simp; omega
    · simp
end Go.Sy
