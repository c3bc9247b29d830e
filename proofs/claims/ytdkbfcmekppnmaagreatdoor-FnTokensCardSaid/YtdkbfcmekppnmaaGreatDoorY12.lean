import Derived.Test.YtdkbfcmekppnmaaGreatDoorY11
namespace Go.Sy
open Go.Sx
set_option linter.unusedVariables false
set_option linter.unusedSimpArgs false
set_option linter.unusedSectionVars false
def NodeQ (d : TypeId) (H : Hp) (t : Option Tm) (v : Value) : Prop := match t with
  | none => v = .pointer none
  | some x => NodeR d H x v
section
variable {d : TypeId} {H H' : Hp} {t : Option Tm} {x : Tm} {v : Value} {p : Option Addr}
theorem NodeQ.ext' (hs : Ext H H') (h : NodeQ d H t v) : NodeQ d H' t v := by
  cases t with
  | none => exact h
  | some x => exact NodeR.ext' hs (show NodeR d H x v from h)
theorem NodeQ.nil : NodeQ d H none (.pointer none) := rfl
theorem NodeQ.of (h : NodeR d H x v) : NodeQ d H (some x) v := h
theorem NodeQ.get (h : NodeQ d H t (.pointer p)) (hs : t.isSome = true) (z : Tm) : ∃ g, p = some ⟨g, 0, none⟩ ∧ NodeR d H (t.getD z) (.pointer (some ⟨g, 0, none⟩)) := by
  cases t with
  | none => cases hs
  | some x =>
    have h : NodeR d H x (.pointer p) := h
    obtain ⟨g, hg⟩ := node_ptr h
    injection hg with hg
    subst hg
    exact ⟨g, rfl, h⟩
end
section
variable {P : Program} {ρ : Operand → Value} {w : World} {dst : Option Tmp} {T ty d T2 e : TypeId} {pos : String} {af : Array Edge} {gd : Option (Nat × Bool)} {x y : Operand} {p : Option Addr} {t : Option Tm} {H : Hp}
end
section
variable {κ : Type} [DecidableEq κ] {α : Type} {enc : κ → Value} {d : Ty α} {P : Program} {P0 : Foot} {H0 H : Hp} {w0 w : World} {Fs : List Foot} {ρ : Operand → Value} {dst : Option Tmp} {T ty kt et : TypeId} {pos : String} {af : Array Edge} {gd : Option (Nat × Bool)} {x y z : Operand} {v : Value} {D : TypeDesc} {g : Nat} {m : List (κ × α)} {k : κ} {a : α}
theorem e_insert (S : St P0 H0 w0 (is g :: Fs) H w) (h : MapO enc d H (hp w) g m) (hk : KeyOK enc D) (hm : P.underlying T = some (.map kt et)) (hkt : P.underlying kt = some D) (hx : ρ x = .map (some g)) (hy : ρ y = enc k) (hz : ρ z = v) (hv : d.R H a [v]) :
    ∃ w', (execOp ρ ⟨dst, .insert T x y z, ty, pos, af, gd⟩).run P w = .ok .skip w' ∧ MapO enc d H (hp w') g (mset m k a) ∧ St P0 H0 w0 (is g :: Fs) H w' ∧ Kp Fs w w' :=
  e_mapUpdate (dst := dst) (ty := ty) (pos := pos) (af := af) (gd := gd) S h hk hm hkt hx hy hz hv
end
end Go.Sy
