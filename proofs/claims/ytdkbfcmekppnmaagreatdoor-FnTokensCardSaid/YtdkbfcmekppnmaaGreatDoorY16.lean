import Derived.Test.YtdkbfcmekppnmaaGreatDoorY15
namespace Go.Sy
open Go.Sx
set_option linter.unusedVariables false
set_option linter.unusedSimpArgs false
set_option linter.unusedSectionVars false
section
variable {P : Program} {w w' : World} {ρ : Operand → Value} {d : Option Tmp} {T T2 ty : TypeId} {pos : String} {af : Array Edge} {gd : Option (Nat × Bool)} {x y z : Operand} {k k2 : IntKind} {a b : Int} {v u : Value}
theorem e_and (hx : ρ x = .int k a) (hy : ρ y = .int k b) : (execOp ρ ⟨d, .binOp .and T x y T2, ty, pos, af, gd⟩).run P w = .ok (.value (.int k (bits .and k a b))) w := by
  simp [execOp, hx, hy, eqGuard, binOp, intBits_and]
theorem bits8 (op : BinOp) (a b : Int) (h : op = .and ∨ op = .or ∨ op = .xor) : bits op .u8 a b = ((b8 (bits op .u8 a b)).toNat : Int) := by
  have key : ∀ n : Int, IntKind.u8.wrap n = ((b8 (IntKind.u8.wrap n)).toNat : Int) := fun n => by
    have h1 := (b8 n).toNat_lt
    rw [wrap8, b8_small (by omega)]
  rcases h with rfl | rfl | rfl <;> exact key _
theorem e_and8 (hx : ρ x = .int .u8 a) (hy : ρ y = .int .u8 b) : (execOp ρ ⟨d, .binOp .and T x y T2, ty, pos, af, gd⟩).run P w = .ok (.value (.int .u8 ((b8 (bits .and .u8 a b)).toNat : Int))) w := by
  rw [e_and hx hy, ← bits8 _ _ _ (.inl rfl)]
theorem e_rem8 {x8 : UInt8} (hx : ρ x = .int .u8 (x8.toNat : Int)) (hy : ρ y = .int .u8 b) (h0 : b ≠ 0) : (execOp ρ ⟨d, .binOp .rem T x y T2, ty, pos, af, gd⟩).run P w = .ok (.value (.int .u8 ((b8 (Int.tmod (x8.toNat : Int) b)).toNat : Int))) w := by
  rw [e_rem hx hy h0]
  have h := x8.toNat_lt
  have h1 : 0 ≤ Int.tmod (x8.toNat : Int) b := Int.tmod_nonneg _ (by omega)
  have h2 : Int.tmod (x8.toNat : Int) b ≤ (x8.toNat : Int) := by
    have hh := Int.natAbs_tmod (x8.toNat : Int) b
    have h3 : (Int.tmod (x8.toNat : Int) b).natAbs ≤ x8.toNat := by rw [hh]; exact Nat.mod_le _ _
    omega
  have e : Int.tmod (x8.toNat : Int) b = ((Int.tmod (x8.toNat : Int) b).toNat : Int) := (Int.toNat_of_nonneg h1).symm
  generalize Int.tmod (x8.toNat : Int) b = q at *
  rw [e, b8_small (by omega)]
theorem e_shr (hx : ρ x = .int k a) (hy : ρ y = .int k2 b) (h0 : 0 ≤ b) : (execOp ρ ⟨d, .binOp .shr T x y T2, ty, pos, af, gd⟩).run P w = .ok (.value (.int k (Int.fdiv a (2 ^ (min b.toNat k.bits))))) w := by
  simp [execOp, hx, hy, eqGuard, binOp, Op.shift, show ¬ b < 0 by omega]
theorem e_shr8 {x8 : UInt8} (hx : ρ x = .int .u8 (x8.toNat : Int)) (hy : ρ y = .int k2 b) (h0 : 0 ≤ b) : (execOp ρ ⟨d, .binOp .shr T x y T2, ty, pos, af, gd⟩).run P w = .ok (.value (.int .u8 ((b8 (Int.fdiv (x8.toNat : Int) (2 ^ (min b.toNat 8)))).toNat : Int))) w := by
  rw [e_shr hx hy h0]
  have h := x8.toNat_lt
  have e1 : Int.fdiv (x8.toNat : Int) (2 ^ (min b.toNat IntKind.u8.bits)) = ((x8.toNat / 2 ^ (min b.toNat 8) : Nat) : Int) := by
    rw [Int.fdiv_eq_ediv_of_nonneg _ (by exact Int.le_of_lt (Int.pow_pos (by decide)))]
    show (x8.toNat : Int) / 2 ^ (min b.toNat 8) = _
    norm_cast
  have e2 : Int.fdiv (x8.toNat : Int) (2 ^ (min b.toNat 8)) = ((x8.toNat / 2 ^ (min b.toNat 8) : Nat) : Int) := e1
  rw [e1, e2, b8_small (Nat.lt_of_le_of_lt (Nat.div_le_self _ _) h)]
end
end Go.Sy
