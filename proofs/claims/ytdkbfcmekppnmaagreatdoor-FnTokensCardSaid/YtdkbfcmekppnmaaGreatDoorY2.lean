import Derived.Test.YtdkbfcmekppnmaaGreatDoorY1
import Derived.Laws.IdiomStrings
import Derived.Laws.BytesArg
import Derived.Laws.Slices
import Derived.Laws.Strings2
namespace Go.Sy
open Go.Sx
set_option linter.unusedVariables false
set_option linter.unusedSimpArgs false
set_option linter.unusedSectionVars false
section
variable {P : Program} {w w' : World} {ρ : Operand → Value} {d : Option Tmp} {T T2 ty : TypeId} {pos : String} {af : Array Edge} {gd : Option (Nat × Bool)} {x y z : Operand} {k : IntKind} {a b : Int} {v u : Value}

theorem e_move (hx : ρ x = v) : (execOp ρ ⟨d, .move x, ty, pos, af, gd⟩).run P w = .ok (.value v) w := by simp [execOp, hx]
theorem e_assign (hx : ρ x = v) : (execOp ρ ⟨d, .assign x, ty, pos, af, gd⟩).run P w = .ok (.value v) w := by simp [execOp, hx]
theorem e_pick_t (hc : ρ z = .bool true) (hx : ρ x = v) : (execOp ρ ⟨d, .pick z x y, ty, pos, af, gd⟩).run P w = .ok (.value v) w := by simp [execOp, hc, hx, asBool]
theorem e_pick_f (hc : ρ z = .bool false) (hx : ρ y = v) : (execOp ρ ⟨d, .pick z x y, ty, pos, af, gd⟩).run P w = .ok (.value v) w := by simp [execOp, hc, hx, asBool]

theorem e_add (hx : ρ x = .int k a) (hy : ρ y = .int k b) : (execOp ρ ⟨d, .binOp .add T x y T2, ty, pos, af, gd⟩).run P w = .ok (.value (.int k (k.wrap (a + b)))) w := by
  simp [execOp, hx, hy, eqGuard, binOp, Op.intArith]
theorem e_sub (hx : ρ x = .int k a) (hy : ρ y = .int k b) : (execOp ρ ⟨d, .binOp .sub T x y T2, ty, pos, af, gd⟩).run P w = .ok (.value (.int k (k.wrap (a - b)))) w := by
  simp [execOp, hx, hy, eqGuard, binOp, Op.intArith]
theorem e_mul (hx : ρ x = .int k a) (hy : ρ y = .int k b) : (execOp ρ ⟨d, .binOp .mul T x y T2, ty, pos, af, gd⟩).run P w = .ok (.value (.int k (k.wrap (a * b)))) w := by
  simp [execOp, hx, hy, eqGuard, binOp, Op.intArith]
theorem e_quo (hx : ρ x = .int k a) (hy : ρ y = .int k b) (h0 : b ≠ 0) : (execOp ρ ⟨d, .binOp .quo T x y T2, ty, pos, af, gd⟩).run P w = .ok (.value (.int k (k.wrap (a.tdiv b)))) w := by
  simp [execOp, hx, hy, eqGuard, binOp, Op.intDiv, h0]
theorem e_rem (hx : ρ x = .int k a) (hy : ρ y = .int k b) (h0 : b ≠ 0) : (execOp ρ ⟨d, .binOp .rem T x y T2, ty, pos, af, gd⟩).run P w = .ok (.value (.int k (a.tmod b))) w := by
  simp [execOp, hx, hy, eqGuard, binOp, Op.intDiv, h0]
theorem e_lss (hx : ρ x = .int k a) (hy : ρ y = .int k b) : (execOp ρ ⟨d, .binOp .lss T x y T2, ty, pos, af, gd⟩).run P w = .ok (.value (.bool (decide (a < b)))) w := by
  simp [execOp, hx, hy, eqGuard, binOp, Op.intCmp]
theorem e_geq (hx : ρ x = .int k a) (hy : ρ y = .int k b) : (execOp ρ ⟨d, .binOp .geq T x y T2, ty, pos, af, gd⟩).run P w = .ok (.value (.bool (decide (a ≥ b)))) w := by
  simp [execOp, hx, hy, eqGuard, binOp, Op.intCmp]
theorem e_eql (hx : ρ x = .int k a) (hy : ρ y = .int k b) : (execOp ρ ⟨d, .binOp .eql T x y T2, ty, pos, af, gd⟩).run P w = .ok (.value (.bool (decide (a = b)))) w := by
  have : (a == b) = decide (a = b) := by by_cases h : a = b <;> simp [h]
  simp [execOp, hx, hy, eqGuard, binOp, Op.intCmp, this]
theorem e_neq (hx : ρ x = .int k a) (hy : ρ y = .int k b) : (execOp ρ ⟨d, .binOp .neq T x y T2, ty, pos, af, gd⟩).run P w = .ok (.value (.bool (decide (a ≠ b)))) w := by
  have : (a != b) = decide (a ≠ b) := by by_cases h : a = b <;> simp [h]
  simp [execOp, hx, hy, eqGuard, binOp, Op.intCmp, this]

theorem e_seql {p q : List UInt8} (hx : ρ x = str p) (hy : ρ y = str q) : (execOp ρ ⟨d, .binOp .eql T x y T2, ty, pos, af, gd⟩).run P w = .ok (.value (.bool (decide (p = q)))) w := by
  have : (p == q) = decide (p = q) := by by_cases h : p = q <;> simp [h]
  simp [execOp, hx, hy, str, eqGuard, binOp, Op.stringOp, this]
theorem e_sneq {p q : List UInt8} (hx : ρ x = str p) (hy : ρ y = str q) : (execOp ρ ⟨d, .binOp .neq T x y T2, ty, pos, af, gd⟩).run P w = .ok (.value (.bool (decide (p ≠ q)))) w := by
  have : (p == q) = decide (p = q) := by by_cases h : p = q <;> simp [h]
  simp [execOp, hx, hy, str, eqGuard, binOp, Op.stringOp, this]
theorem e_sgtr {p q : List UInt8} (hx : ρ x = str p) (hy : ρ y = str q) : (execOp ρ ⟨d, .binOp .gtr T x y T2, ty, pos, af, gd⟩).run P w = .ok (.value (.bool (!(Op.bytesLess p q || p == q)))) w := by
  simp [execOp, hx, hy, str, eqGuard, binOp, Op.stringOp]
theorem e_sadd {p q : List UInt8} (hx : ρ x = str p) (hy : ρ y = str q) (hl : p.length + q.length ≤ 9223372036854775807) : (execOp ρ ⟨d, .binOp .add T x y T2, ty, pos, af, gd⟩).run P w = .ok (.value (str (p ++ q))) w := by
  have h1 : ¬ (((⟨p.toArray⟩ : ByteArray).size + (⟨q.toArray⟩ : ByteArray).size : Nat) : Int) > IntKind.i64.max := by
    have e1 : (⟨p.toArray⟩ : ByteArray).size = p.length := by simp [ByteArray.size]
    have e2 : (⟨q.toArray⟩ : ByteArray).size = q.length := by simp [ByteArray.size]
    rw [e1, e2]
    have : IntKind.i64.max = 9223372036854775807 := by decide
    omega
  have h2 : (⟨p.toArray⟩ : ByteArray) ++ (⟨q.toArray⟩ : ByteArray) = ⟨(p ++ q).toArray⟩ := by
    apply ByteArray.ext
    simp
  have h3 : (Op.stringOp .add ⟨p.toArray⟩ ⟨q.toArray⟩).run P w = .ok (str (p ++ q)) w := by
    unfold Op.stringOp
    dsimp only
    rw [if_neg h1, h2]
    rfl
  have h5 : execOp ρ ⟨d, .binOp .add T x y T2, ty, pos, af, gd⟩ = (do pure (.value (← (do eqGuard .add T x y (ρ x) (ρ y); binOp .add T (ρ x) (ρ y))))) := rfl
  rw [h5, hx, hy]
  have h4 : (do eqGuard .add T x y (str p) (str q); binOp .add T (str p) (str q)) = Op.stringOp .add ⟨p.toArray⟩ ⟨q.toArray⟩ := rfl
  rw [h4, Sem.run_bind, h3]
  rfl

theorem e_not {c : Bool} (hx : ρ x = .bool c) : (execOp ρ ⟨d, .unOp .not T x, ty, pos, af, gd⟩).run P w = .ok (.value (.bool (!c))) w := by simp [execOp, hx, Op.unary]
theorem e_nilCheck {ad : Addr} (hx : ρ x = .pointer (some ad)) : (execOp ρ ⟨d, .nilCheck x, ty, pos, af, gd⟩).run P w = .ok (.value (.pointer (some ad))) w := by simp [execOp, hx]
theorem e_conv_int {k' : IntKind} (hs : (P.underlying T).isSome = true) (ht : P.underlying T2 = some (.int k')) (hx : ρ x = .int k a) : (execOp ρ ⟨d, .convert T T2 x, ty, pos, af, gd⟩).run P w = .ok (.value (.int k' (k'.wrap a))) w := by
  obtain ⟨q, hq⟩ := Option.isSome_iff_exists.1 hs
  cases q <;> simp [execOp, hx, convert, run_underlying hq, run_underlying ht, Conv.intToInt]
theorem e_len {A : Option Addr} {n c : Nat} {e : TypeId} (ht : P.underlying T = some (.slice e)) (hx : ρ x = .slice A n c) :
    (execOp ρ ⟨d, .call { callee := .builtin .len, args := #[x], argTypes := #[T] }, ty, pos, af, gd⟩).run P w = .ok (.value (.int .i64 (n : Int))) w := by
  simp [execOp, hx, resolve, invoke, builtin, Builtin.len_, run_underlying ht, goInt]
theorem e_slen {p : List UInt8} (ht : P.underlying T = some .string) (hx : ρ x = str p) :
    (execOp ρ ⟨d, .call { callee := .builtin .len, args := #[x], argTypes := #[T] }, ty, pos, af, gd⟩).run P w = .ok (.value (.int .i64 (p.length : Int))) w := by
  have hs : (⟨p.toArray⟩ : ByteArray).size = p.length := by show p.toArray.size = _; simp
  simp [execOp, hx, str, resolve, invoke, builtin, Builtin.len_, run_underlying ht, goInt, hs]
theorem e_load1 {ad : Addr} {D : TypeDesc} (ht : P.underlying T = some D) (hD : (match D with | .struct _ | .array _ _ => false | _ => true) = true) (hx : ρ x = .pointer (some ad)) (hc : w.cell? ad = some v) :
    (execOp ρ ⟨d, .load T x, ty, pos, af, gd⟩).run P w = .ok (.value v) w := by
  have hagg : (isAgg T).run P w = .ok false w := by
    unfold isAgg
    rw [Sem.run_bind, run_underlying ht w]
    cases D <;> simp_all
  simp [execOp, hx, Instr.loadAt, Instr.sureAddr, loadVar, Sem.run_bind, hagg, run_load, hc]
theorem e_loadS {b off : Nat} {D : TypeDesc} {cs : List Value} (ht : P.underlying T = some D) (hD : (match D with | .struct _ | .array _ _ => true | _ => false) = true) (hi : (P.info? T).map (·.size) = some cs.length) (hx : ρ x = .pointer (some ⟨b, off, none⟩))
    (hc : ∀ j u, cs[j]? = some u → w.cell? ⟨b, off + j, none⟩ = some u) :
    (execOp ρ ⟨d, .load T x, ty, pos, af, gd⟩).run P w = .ok (.value (.agg cs.toArray)) w := by
  have hl : (loadCells ⟨b, off, none⟩ cs.length).run P w = .ok cs.toArray w :=
    run_loadCells_list (P := P) w ⟨b, off, none⟩ cs (fun j u hj => by
      have hadd : (⟨b, off, none⟩ : Addr).add j = ⟨b, off + j, none⟩ := by unfold Addr.add; split <;> simp_all
      rw [hadd]
      exact hc j u hj)
  have hagg : (isAgg T).run P w = .ok true w := by
    unfold isAgg
    rw [Sem.run_bind, run_underlying ht w]
    cases D <;> simp_all
  cases hq : P.info? T with
  | none => simp [hq] at hi
  | some i =>
    have hs : i.size = cs.length := by simpa [hq] using hi
    simp [execOp, hx, Instr.loadAt, Instr.sureAddr, loadVar, Sem.run_bind, hagg, sizeOf, typeInfo, hq, hs, hl]
theorem e_fieldAddr {b off o i : Nat} {fs : Array Field} {F : Field} (ht : P.underlying T = some (.struct fs)) (hf : fs[i]? = some F) (ho : F.offset = o) {sz : Nat} (hz : (P.info? F.type).map (·.size) = some sz) (h0 : sz ≠ 0) (hx : ρ x = .pointer (some ⟨b, off, none⟩)) :
    (execOp ρ ⟨d, .fieldAddr T x i, ty, pos, af, gd⟩).run P w = .ok (.value (.pointer (some ⟨b, off + o, none⟩))) w := by
  have hadd : (⟨b, off, none⟩ : Addr).add o = ⟨b, off + o, none⟩ := by unfold Addr.add; split <;> simp_all
  cases hq : P.info? F.type with
  | none => simp [hq] at hz
  | some q =>
    have hs : q.size = sz := by simpa [hq] using hz
    simp [execOp, hx, Instr.fieldAt, run_underlying ht, hf, Instr.sureAddr, Sem.run_bind, fieldPlace, sizeOf, typeInfo, hq, hs, h0, ho, hadd]
theorem e_indexAddr {b off n c sz : Nat} {e : TypeId} {i : Int} (ht : P.underlying T = some (.slice e)) {A : Option Addr} (hA : A = some ⟨b, off, none⟩) (hz : (P.info? e).map (·.size) = some sz) (hx : ρ x = .slice A n c) (hy : ρ y = .int k i) (h0 : 0 ≤ i) (h1 : i < n) :
    (execOp ρ ⟨d, .indexAddr T x y, ty, pos, af, gd⟩).run P w = .ok (.value (.pointer (some ⟨b, off + i.toNat * sz, none⟩))) w := by
  subst hA
  have hadd : (⟨b, off, none⟩ : Addr).add (i.toNat * sz) = ⟨b, off + i.toNat * sz, none⟩ := by unfold Addr.add; split <;> simp_all
  cases hq : P.info? e with
  | none => simp [hq] at hz
  | some q =>
    have hs : q.size = sz := by simpa [hq] using hz
    simp [execOp, hx, hy, Instr.indexAt, asIntOf, run_underlying ht, Sem.run_bind, sizeOf, typeInfo, hq, hs, h0, h1, hadd]
theorem e_call {f : FuncId} {fn : Func} {l : List Operand} {ts : Array TypeId} {vs : List Value} (hf : P.funcs[f]? = some fn) (hname : (fn.name == "runtime.NumGoroutine") = false) (hb : fn.body.isSome = true) (ha : l.map ρ = vs) (hρ : ρ (.func f) = .func (.func f) #[] #[]) :
    (execOp ρ ⟨d, .call { callee := .value (.func f), args := l.toArray, argTypes := ts }, ty, pos, af, gd⟩).run P w = .ok (.enter f vs.toArray) w := by
  have h1 : fn.name ≠ "runtime.NumGoroutine" := by simpa using hname
  obtain ⟨c, hc⟩ := Option.isSome_iff_exists.1 hb
  have he : (callFunc f vs.toArray).run P w = .ok (.enter f vs.toArray) w := by simp [callFunc, hf, h1, hc]
  have ha2 : l.toArray.map ρ = vs.toArray := by rw [← ha]; simp
  unfold execOp
  simp [resolve, Deferred.ofValue, invoke, hρ, ha2, he]
end
section
variable {P : Program} {w w' : World} {ρ : Operand → Value} {d : Option Tmp} {T T2 ty : TypeId} {pos : String} {af : Array Edge} {gd : Option (Nat × Bool)} {x y z : Operand} {k : IntKind} {a b : Int} {v u : Value}
theorem e_notv {c : Bool} (hx : ρ x = .bool c) : (execOp ρ ⟨d, .unOp .not T x, ty, pos, af, gd⟩).run P w = .ok (.value (.bool (decide (¬ (c = true))))) w := by
  rw [e_not hx]; cases c <;> rfl
theorem e_notd {c : Prop} [Decidable c] (hx : ρ x = .bool (decide c)) : (execOp ρ ⟨d, .unOp .not T x, ty, pos, af, gd⟩).run P w = .ok (.value (.bool (decide (¬ c)))) w := by
  rw [e_not hx]; simp

def b8 (n : Int) : UInt8 := UInt8.ofNat (n % 256).toNat
theorem wrap8 (n : Int) : IntKind.u8.wrap n = ((b8 n).toNat : Int) := by
  have h1 : 0 ≤ n % 256 := Int.emod_nonneg _ (by decide)
  have h2 : n % 256 < 256 := Int.emod_lt_of_pos _ (by decide)
  have h3 : (n % 256).toNat < 256 := by omega
  simp [IntKind.wrap, IntKind.bits, IntKind.signed, b8, UInt8.toNat_ofNat', Nat.mod_eq_of_lt h3]
  omega
theorem b8_small {n : Nat} (h : n < 256) : (b8 (n : Int)).toNat = n := by
  have h4 : ((n : Int) % 256).toNat = n := by omega
  unfold b8
  rw [h4]
  simp [UInt8.toNat_ofNat', Nat.mod_eq_of_lt h]
theorem e_sub8 (hx : ρ x = .int .u8 a) (hy : ρ y = .int .u8 b) : (execOp ρ ⟨d, .binOp .sub T x y T2, ty, pos, af, gd⟩).run P w = .ok (.value (.int .u8 ((b8 (a - b)).toNat : Int))) w := by
  rw [e_sub hx hy, wrap8]
theorem e_quo8 (hx : ρ x = .int .u8 a) (hy : ρ y = .int .u8 b) (h0 : b ≠ 0) : (execOp ρ ⟨d, .binOp .quo T x y T2, ty, pos, af, gd⟩).run P w = .ok (.value (.int .u8 ((b8 (a.tdiv b)).toNat : Int))) w := by
  rw [e_quo hx hy h0, wrap8]
theorem e_conv_8i {a : UInt8} (hs : (P.underlying T).isSome = true) (ht : P.underlying T2 = some (.int .i64)) (hx : ρ x = .int .u8 (a.toNat : Int)) : (execOp ρ ⟨d, .convert T T2 x, ty, pos, af, gd⟩).run P w = .ok (.value (.int .i64 (a.toNat : Int))) w := by
  rw [e_conv_int hs ht hx]
  have h := a.toNat_lt
  have h1 : ((a.toNat : Int)) % (2 ^ 64 : Int) = (a.toNat : Int) := by omega
  have h2 : IntKind.i64.wrap (a.toNat : Int) = (a.toNat : Int) := by
    simp only [IntKind.wrap, IntKind.bits, IntKind.signed, h1]
    rw [if_neg (by simp; omega)]
  rw [h2]
theorem e_conv_i8 (hs : (P.underlying T).isSome = true) (ht : P.underlying T2 = some (.int .u8)) (hx : ρ x = .int k a) : (execOp ρ ⟨d, .convert T T2 x, ty, pos, af, gd⟩).run P w = .ok (.value (.int .u8 ((b8 a).toNat : Int))) w := by
  rw [e_conv_int hs ht hx, wrap8]
end
section
variable {P : Program} {w w' : World} {ρ : Operand → Value} {d : Option Tmp} {T T2 ty : TypeId} {pos : String} {af : Array Edge} {gd : Option (Nat × Bool)} {x y z : Operand} {k : IntKind} {a b : Int} {v u : Value}
theorem run_beq {p q : Bool} (ht : P.underlying T = some .bool) : (Op.equal T (.bool p) (.bool q)).run P w = .ok (p == q) w := by
  show (Op.equalIn (9999 + 1) T (.bool p) (.bool q)).run P w = _
  unfold Op.equalIn
  rw [Sem.run_bind, run_underlying ht w]
  rfl
theorem e_beql {p q : Bool} (ht : P.underlying T = some .bool) (hx : ρ x = .bool p) (hy : ρ y = .bool q) : (execOp ρ ⟨d, .binOp .eql T x y T2, ty, pos, af, gd⟩).run P w = .ok (.value (.bool (decide (p = q)))) w := by
  have h1 : (p == q) = decide (p = q) := by cases p <;> cases q <;> rfl
  have h2 := run_beq (w := w) (p := p) (q := q) ht
  simp [execOp, hx, hy, eqGuard, binOp, h2, h1]
end
section
variable {P : Program} {w w' : World} {ρ : Operand → Value} {dst : Option Tmp} {T T2 ty : TypeId} {pos : String} {af : Array Edge} {gd : Option (Nat × Bool)} {x y z : Operand} {k k2 : IntKind} {a b i : Int} {p q : List UInt8}
theorem e_sindex (ht : P.underlying T = some .string) (hx : ρ x = str p) (hy : ρ y = .int k i) (h0 : 0 ≤ i) (h1 : i < p.length) : (execOp ρ ⟨dst, .index T x y, ty, pos, af, gd⟩).run P w = .ok (.value (.int .u8 ((p.getD i.toNat (0 : UInt8)).toNat : Int))) w := by
  have hl : i.toNat < p.length := by omega
  have hg : (⟨p.toArray⟩ : ByteArray)[i.toNat]? = some (p.getD i.toNat 0) := by
    have hs : i.toNat < (⟨p.toArray⟩ : ByteArray).size := by show i.toNat < p.toArray.size; simpa using hl
    rw [getElem?_pos (⟨p.toArray⟩ : ByteArray) i.toNat hs, List.getD_eq_getElem?_getD, List.getElem?_eq_getElem hl]
    rfl
  simp [execOp, hx, hy, str, Instr.index, asIntOf, run_underlying ht, h0, hg]
theorem str_extract (l h : Nat) : (Value.string ((⟨p.toArray⟩ : ByteArray).extract l h)) = str ((p.drop l).take (h - l)) := by
  rw [ByteArray.extract_mk]; rfl
theorem e_sslice_lh (ht : P.underlying T = some .string) (hx : ρ x = str p) (hy : ρ y = .int k a) (hz : ρ z = .int k2 b) (h0 : 0 ≤ a) (h1 : a ≤ b) (h2 : b ≤ p.length) :
    (execOp ρ ⟨dst, .slice T x (some y) (some z) none, ty, pos, af, gd⟩).run P w = .ok (.value (str ((p.drop a.toNat).take (b.toNat - a.toNat)))) w := by
  have hs : (⟨p.toArray⟩ : ByteArray).size = p.length := by show p.toArray.size = _; simp
  have hr : (Instr.slice T (.string ⟨p.toArray⟩) (some (.int k a)) (some (.int k2 b)) none).run P w = .ok (.string ((⟨p.toArray⟩ : ByteArray).extract a.toNat b.toNat)) w := by
    have eb : ((b.toNat : Nat) : Int) = b := Int.toNat_of_nonneg (by omega)
    simp [Instr.slice, run_underlying ht, Instr.sliceBounds, run_sliceBound, hs, h0, h1, h2, eb, (by omega : (0 : Int) ≤ b)]
  have hr2 := run_sliceAt_string (P := P) (w := w) T (.string ⟨p.toArray⟩) (some (.int k a)) (some (.int k2 b)) none ht
  rw [str_extract] at hr
  simp [execOp, hx, hy, hz, str, hr2] at hr ⊢
  rw [hr]
  rfl
theorem e_sslice_h (ht : P.underlying T = some .string) (hx : ρ x = str p) (hz : ρ z = .int k2 b) (h0 : 0 ≤ b) (h2 : b ≤ p.length) :
    (execOp ρ ⟨dst, .slice T x none (some z) none, ty, pos, af, gd⟩).run P w = .ok (.value (str (p.take b.toNat))) w := by
  have hs : (⟨p.toArray⟩ : ByteArray).size = p.length := by show p.toArray.size = _; simp
  have hr : (Instr.slice T (.string ⟨p.toArray⟩) none (some (.int k2 b)) none).run P w = .ok (.string ((⟨p.toArray⟩ : ByteArray).extract 0 b.toNat)) w := by
    simp [Instr.slice, run_underlying ht, Instr.sliceBounds, run_sliceBound, hs, h0, h2]
  have hr2 := run_sliceAt_string (P := P) (w := w) T (.string ⟨p.toArray⟩) none (some (.int k2 b)) none ht
  rw [str_extract, List.drop_zero, Nat.sub_zero] at hr
  simp [execOp, hx, hz, str, hr2] at hr ⊢
  rw [hr]
  rfl
end
section
variable {P : Program} {ops : Array Oper} {n : Nat} {f : Nat → Value} {w : World} {rest : List Oper} {o : Oper}
theorem wanted_undef {j d : Nat} {b : Bool} (hg : o.guard = some (j, b)) (hj : (ops[j]?).bind (·.dst) = some d) (hd : Nat.blt d n = true) (hb : f d = undef) : Region.wanted o (yielded ops (mk n f).tmps) = false := by
  have hd' : d < n := by simpa [Nat.blt_eq] using hd
  simp only [Region.wanted, hg, yielded, hj, Option.bind_some]
  rw [mk_get, if_pos hd', hb]
  rfl
end
end Go.Sy
