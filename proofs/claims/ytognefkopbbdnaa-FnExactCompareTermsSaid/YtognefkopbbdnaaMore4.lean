import Derived.Test.YtognefkopbbdnaaMore3
import Derived.Laws.Strings2
namespace Go.Sx
set_option linter.unusedVariables false
section
variable {P : Program} {w w' : World} {ρ : Operand → Value} {dst : Option Tmp} {T T2 ty : TypeId} {pos : String} {af : Array Edge} {gd : Option (Nat × Bool)} {x y z : Operand} {k k2 : IntKind} {a b i : Int} {p q : List UInt8}
/-! ### strings -/
theorem e_sindex (ht : P.underlying T = some .string) (hx : ρ x = str p) (hy : ρ y = .int k i) (h0 : 0 ≤ i) (h1 : i < p.length) : (execOp ρ ⟨dst, .index T x y, ty, pos, af, gd⟩).run P w = .ok (.value (.int .u8 ((p.getD i.toNat (0 : UInt8)).toNat : Int))) w := by
  have hl : i.toNat < p.length := by omega
  have hg : (⟨p.toArray⟩ : ByteArray)[i.toNat]? = some (p.getD i.toNat 0) := by
    have hs : i.toNat < (⟨p.toArray⟩ : ByteArray).size := by show i.toNat < p.toArray.size; simpa using hl
    rw [getElem?_pos (⟨p.toArray⟩ : ByteArray) i.toNat hs, List.getD_eq_getElem?_getD, List.getElem?_eq_getElem hl]
    rfl
  simp [execOp, hx, hy, str, Instr.index, asIntOf, run_underlying ht, h0, hg]
theorem str_extract (l h : Nat) : (Value.string ((⟨p.toArray⟩ : ByteArray).extract l h)) = str ((p.drop l).take (h - l)) := by
  rw [ByteArray.extract_mk]; rfl
theorem e_sslice_lh (ht : P.underlying T = some .string) (hx : ρ x = str p) (hy : ρ y = .int k a) (hz : ρ z = .int k2 b) (h0 : 0 ≤ a) (h1 : a ≤ b) (h2 : b ≤ p.length) :
    (execOp ρ ⟨dst, .slice T x (some y) (some z) none, ty, pos, af, gd⟩).run P w = .ok (.value (str ((p.drop a.toNat).take (b.toNat - a.toNat)))) w := by
  have hs : (⟨p.toArray⟩ : ByteArray).size = p.length := by show p.toArray.size = _; simp
  have hr : (Instr.slice T (.string ⟨p.toArray⟩) (some (.int k a)) (some (.int k2 b)) none).run P w = .ok (.string ((⟨p.toArray⟩ : ByteArray).extract a.toNat b.toNat)) w := by
    have eb : ((b.toNat : Nat) : Int) = b := Int.toNat_of_nonneg (by omega)
    simp [Instr.slice, run_underlying ht, Instr.sliceBounds, run_sliceBound, hs, h0, h1, h2, eb, (by omega : (0 : Int) ≤ b)]
  have hr2 := run_sliceAt_string (P := P) (w := w) T (.string ⟨p.toArray⟩) (some (.int k a)) (some (.int k2 b)) none ht
  rw [str_extract] at hr
  simp [execOp, hx, hy, hz, str, hr2] at hr ⊢
  rw [hr]
  rfl
theorem e_sslice_l (ht : P.underlying T = some .string) (hx : ρ x = str p) (hy : ρ y = .int k a) (h0 : 0 ≤ a) (h1 : a ≤ p.length) :
    (execOp ρ ⟨dst, .slice T x (some y) none none, ty, pos, af, gd⟩).run P w = .ok (.value (str (p.drop a.toNat))) w := by
  have hs : (⟨p.toArray⟩ : ByteArray).size = p.length := by show p.toArray.size = _; simp
  have hr : (Instr.slice T (.string ⟨p.toArray⟩) (some (.int k a)) none none).run P w = .ok (.string ((⟨p.toArray⟩ : ByteArray).extract a.toNat p.length)) w := by
    simp [Instr.slice, run_underlying ht, Instr.sliceBounds, run_sliceBound, hs, h0, h1]
  have hr2 := run_sliceAt_string (P := P) (w := w) T (.string ⟨p.toArray⟩) (some (.int k a)) none none ht
  rw [str_extract, List.take_of_length_le (by rw [List.length_drop]; exact Nat.le_refl _)] at hr
  simp [execOp, hx, hy, str, hr2] at hr ⊢
  rw [hr]
  rfl
theorem e_sslice_h (ht : P.underlying T = some .string) (hx : ρ x = str p) (hz : ρ z = .int k2 b) (h0 : 0 ≤ b) (h2 : b ≤ p.length) :
    (execOp ρ ⟨dst, .slice T x none (some z) none, ty, pos, af, gd⟩).run P w = .ok (.value (str (p.take b.toNat))) w := by
  have hs : (⟨p.toArray⟩ : ByteArray).size = p.length := by show p.toArray.size = _; simp
  have hr : (Instr.slice T (.string ⟨p.toArray⟩) none (some (.int k2 b)) none).run P w = .ok (.string ((⟨p.toArray⟩ : ByteArray).extract 0 b.toNat)) w := by
    simp [Instr.slice, run_underlying ht, Instr.sliceBounds, run_sliceBound, hs, h0, h2]
  have hr2 := run_sliceAt_string (P := P) (w := w) T (.string ⟨p.toArray⟩) none (some (.int k2 b)) none ht
  rw [str_extract, List.drop_zero, Nat.sub_zero] at hr
  simp [execOp, hx, hz, str, hr2] at hr ⊢
  rw [hr]
  rfl
end
/-! ### passed over, for the guard itself was passed over -/
section
variable {P : Program} {ops : Array Oper} {n : Nat} {f : Nat → Value} {w : World} {rest : List Oper} {o : Oper}
theorem wanted_undef {j d : Nat} {b : Bool} (hg : o.guard = some (j, b)) (hj : (ops[j]?).bind (·.dst) = some d) (hd : Nat.blt d n = true) (hb : f d = undef) : Region.wanted o (yielded ops (mk n f).tmps) = false := by
  have hd' : d < n := by simpa [Nat.blt_eq] using hd
  simp only [Region.wanted, hg, yielded, hj, Option.bind_some]
  rw [mk_get, if_pos hd', hb]
  rfl
theorem lskipu {Q : Exit → Act → World → Prop} {d j t : Nat} {b : Bool} (hg : o.guard = some (j, b)) (hj : (ops[j]?).bind (·.dst) = some t) (ht : Nat.blt t n = true) (hb : f t = undef) (hd : o.dst = some d)
    (h : wpList P ops Q rest (mk n (upd f d undef)) w) : wpList P ops Q (o :: rest) (mk n f) w := by
  unfold wpList
  rw [if_neg (by rw [wanted_undef hg hj ht hb]; simp), mk_put, hd]
  exact h
theorem sskipu {Q : Act → Prop} {d j t : Nat} {b : Bool} (hg : o.guard = some (j, b)) (hj : (ops[j]?).bind (·.dst) = some t) (ht : Nat.blt t n = true) (hb : f t = undef) (hd : o.dst = some d)
    (h : wpStill P ops w Q rest (mk n (upd f d undef))) : wpStill P ops w Q (o :: rest) (mk n f) := by
  unfold wpStill
  rw [if_neg (by rw [wanted_undef hg hj ht hb]; simp), mk_put, hd]
  exact h
theorem qskipu {C : World → Prop} {Q : Act → Prop} {d j t : Nat} {b : Bool} (hg : o.guard = some (j, b)) (hj : (ops[j]?).bind (·.dst) = some t) (ht : Nat.blt t n = true) (hb : f t = undef) (hd : o.dst = some d)
    (h : wpQuiet P ops C Q rest (mk n (upd f d undef))) : wpQuiet P ops C Q (o :: rest) (mk n f) := by
  unfold wpQuiet
  rw [if_neg (by rw [wanted_undef hg hj ht hb]; simp), mk_put, hd]
  exact h
end
end Go.Sx
