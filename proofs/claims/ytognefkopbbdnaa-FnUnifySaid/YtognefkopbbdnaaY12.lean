import Derived.Test.YtognefkopbbdnaaY11
namespace Go.Sy
open Go.Sx
set_option linter.unusedVariables false
set_option linter.unusedSimpArgs false
set_option linter.unusedSectionVars false
/-! ### a node, or nil -/
def NodeQ (d : TypeId) (H : Hp) (t : Option Tm) (v : Value) : Prop := match t with
  | none => v = .pointer none
  | some x => NodeR d H x v
section
variable {d : TypeId} {H H' : Hp} {t : Option Tm} {x : Tm} {v : Value} {p : Option Addr}
theorem NodeQ.ext' (hs : Ext H H') (h : NodeQ d H t v) : NodeQ d H' t v := by
  cases t with
  | none => exact h
  | some x => exact NodeR.ext' hs (show NodeR d H x v from h)
theorem NodeQ.nil : NodeQ d H none (.pointer none) := rfl
theorem NodeQ.of (h : NodeR d H x v) : NodeQ d H (some x) v := h
theorem NodeQ.get (h : NodeQ d H t (.pointer p)) (hs : t.isSome = true) (z : Tm) : ∃ g, p = some ⟨g, 0, none⟩ ∧ NodeR d H (t.getD z) (.pointer (some ⟨g, 0, none⟩)) := by
  cases t with
  | none => cases hs
  | some x =>
    have h : NodeR d H x (.pointer p) := h
    obtain ⟨g, hg⟩ := node_ptr h
    injection hg with hg
    subst hg
    exact ⟨g, rfl, h⟩
end
section
variable {P : Program} {ρ : Operand → Value} {w : World} {dst : Option Tmp} {T ty d T2 e : TypeId} {pos : String} {af : Array Edge} {gd : Option (Nat × Bool)} {x y : Operand} {p : Option Addr} {t : Option Tm} {H : Hp}
theorem run_peq (ht : P.underlying T = some (.pointer e)) : (Op.equal T (.pointer p) (.pointer none)).run P w = .ok p.isNone w := by
  show (Op.equalIn (9999 + 1) T (.pointer p) (.pointer none)).run P w = _
  unfold Op.equalIn
  rw [Sem.run_bind, run_underlying ht w]
  cases p <;> rfl
theorem e_peql (ht : P.underlying T = some (.pointer e)) (hx : ρ x = .pointer p) (hy : ρ y = .pointer none) : (execOp ρ ⟨dst, .binOp .eql T x y T2, ty, pos, af, gd⟩).run P w = .ok (.value (.bool p.isNone)) w := by
  have h2 := run_peq (P := P) (w := w) (p := p) ht
  simp [execOp, hx, hy, eqGuard, binOp, h2]
theorem NodeQ.is (h : NodeQ d H t (.pointer p)) : p.isNone = decide (¬ t.isSome = true) := by
  cases t with
  | none =>
    have : Value.pointer p = .pointer none := h
    injection this with this
    subst this; rfl
  | some z =>
    obtain ⟨g, rfl, _⟩ := NodeQ.get h rfl z
    rfl
theorem e_qeql (h : NodeQ d H t (.pointer p)) (ht : P.underlying T = some (.pointer e)) (hx : ρ x = .pointer p) (hy : ρ y = .pointer none) : (execOp ρ ⟨dst, .binOp .eql T x y T2, ty, pos, af, gd⟩).run P w = .ok (.value (.bool (decide (¬ t.isSome = true)))) w := by
  rw [e_peql ht hx hy, h.is]
end
section
variable {κ : Type} [DecidableEq κ] {α : Type} {enc : κ → Value} {d : Ty α} {P : Program} {P0 : Foot} {H0 H : Hp} {w0 w : World} {Fs : List Foot} {ρ : Operand → Value} {dst : Option Tmp} {T ty kt et : TypeId} {pos : String} {af : Array Edge} {gd : Option (Nat × Bool)} {x y z : Operand} {v : Value} {D : TypeDesc} {g : Nat} {m : List (κ × α)} {k : κ} {a : α}
end
end Go.Sy
