import Derived.Test.YtognefkopbbdnaaY10
namespace Go.Sy
open Go.Sx
set_option linter.unusedVariables false
set_option linter.unusedSimpArgs false
set_option linter.unusedSectionVars false
section
variable {κ : Type} [DecidableEq κ] {α : Type} {enc : κ → Value} {d : Ty α} {P : Program} {H X X' : Hp} {w : World} {ρ : Operand → Value} {dst : Option Tmp} {T ty kt et : TypeId} {pos : String} {af : Array Edge} {gd : Option (Nat × Bool)} {x y : Operand} {v : Value} {D : TypeDesc} {g : Nat} {m : List (κ × α)} {k : κ} {a : α}
/-- what a map holds at a key -/
def LookAt (enc : κ → Value) (D : TypeDesc) (X : Hp) (g : Nat) (k : κ) (v : Value) : Prop := ∃ es c j, X g = some (.map es c) ∧ Instr.findNow D (enc k) es.toList 0 = some (some (j, v))
theorem LookAt.move (hs : ∀ b, is g b → X' b = X b) (h : LookAt enc D X g k v) : LookAt enc D X' g k v := by
  obtain ⟨es, c, j, h1, h2⟩ := h
  exact ⟨es, c, j, (hs g rfl).trans h1, h2⟩
theorem MapO.look (h : MapO enc d H X g m) (hk : KeyOK enc D) (hg : mget m k = some a) : ∃ v, d.R H a [v] ∧ LookAt enc D X g k v := by
  obtain ⟨es, c, hb, he, hB⟩ := h
  obtain ⟨j, v, hf, hr, _⟩ := find_some hk k 0 he hg
  exact ⟨v, hr, es, c, _, hb, hf⟩
theorem e_lookv (h : LookAt enc D (hp w) g k v) (hk : KeyOK enc D) (hm : P.underlying T = some (.map kt et)) (hkt : P.underlying kt = some D) (hx : ρ x = .map (some g)) (hy : ρ y = enc k) (zv : Value) (hz : (P.info? et).bind (·.zero) = some zv) :
    (execOp ρ ⟨dst, .lookup T x y true, ty, pos, af, gd⟩).run P w = .ok (.value (.tuple #[v, .bool true])) w := by
  obtain ⟨es, c, j, hb, hf⟩ := h
  have := run_look (ok := true) hk hm hkt hb hf (run_zero (P := P) (w := w) hz)
  simp [execOp, hx, hy, this]
theorem e_look1v (h : LookAt enc D (hp w) g k v) (hk : KeyOK enc D) (hm : P.underlying T = some (.map kt et)) (hkt : P.underlying kt = some D) (hx : ρ x = .map (some g)) (hy : ρ y = enc k) (zv : Value) (hz : (P.info? et).bind (·.zero) = some zv) :
    (execOp ρ ⟨dst, .lookup T x y false, ty, pos, af, gd⟩).run P w = .ok (.value v) w := by
  obtain ⟨es, c, j, hb, hf⟩ := h
  have := run_look (ok := false) hk hm hkt hb hf (run_zero (P := P) (w := w) hz)
  simp [execOp, hx, hy, this]
theorem cons1 {a b : Value} (h : [a] = [b]) : a = b := (List.cons.inj h).1
theorem e_makeFunc {f : FuncId} {cs : List Operand} {vs : List Value} (hv : cs.map ρ = vs) : (execOp ρ ⟨dst, .makeFunc (.func f) #[] cs.toArray, ty, pos, af, gd⟩).run P w = .ok (.value (.func (.func f) #[] vs.toArray)) w := by
  subst hv
  simp [execOp, Instr.makeFunc]
end
end Go.Sy
