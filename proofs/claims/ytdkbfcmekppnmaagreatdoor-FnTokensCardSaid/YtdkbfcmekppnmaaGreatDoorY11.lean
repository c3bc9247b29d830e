import Derived.Test.YtdkbfcmekppnmaaGreatDoorY10
namespace Go.Sy
open Go.Sx
set_option linter.unusedVariables false
set_option linter.unusedSimpArgs false
set_option linter.unusedSectionVars false
section
variable {κ : Type} [DecidableEq κ] {α : Type} {enc : κ → Value} {d : Ty α} {P : Program} {H X X' : Hp} {w : World} {ρ : Operand → Value} {dst : Option Tmp} {T ty kt et : TypeId} {pos : String} {af : Array Edge} {gd : Option (Nat × Bool)} {x y : Operand} {v : Value} {D : TypeDesc} {g : Nat} {m : List (κ × α)} {k : κ} {a : α}
def LookAt (enc : κ → Value) (D : TypeDesc) (X : Hp) (g : Nat) (k : κ) (v : Value) : Prop := ∃ es c j, X g = some (.map es c) ∧ Instr.findNow D (enc k) es.toList 0 = some (some (j, v))
theorem LookAt.move (hs : ∀ b, is g b → X' b = X b) (h : LookAt enc D X g k v) : LookAt enc D X' g k v := by
  obtain ⟨es, c, j, h1, h2⟩ := h
  exact ⟨es, c, j, (hs g rfl).trans h1, h2⟩
theorem e_makeFunc {f : FuncId} {cs : List Operand} {vs : List Value} (hv : cs.map ρ = vs) : (execOp ρ ⟨dst, .makeFunc (.func f) #[] cs.toArray, ty, pos, af, gd⟩).run P w = .ok (.value (.func (.func f) #[] vs.toArray)) w := by
  subst hv
  simp [execOp, Instr.makeFunc]
end
end Go.Sy
