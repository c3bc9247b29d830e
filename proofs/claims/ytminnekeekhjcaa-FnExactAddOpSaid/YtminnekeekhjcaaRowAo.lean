/-
  FnExactAddOp: the walk's models (sort.Slice included), the plain law and the row.
-/
import Derived.Test.YtminnekeekhjcaaRows
import Derived.Test.YtminnekeekhjcaaWkAo2
import Derived.Test.YtminnekeekhjcaaPuAo
import Derived.Test.YtminnekeekhjcaaOpenY
import Derived.WalkKit
import Derived.ProofKit
import Derived.OpenShut
import Derived.ShutString
import Derived.ChangeOld
import Derived.Below
namespace Go.Proofs.Ytminnekeekhjcaa.FnExactAddOpPf
open Go.Sx Go.Sy
open Go.ChangeShapes Go.WideShapes Go.ChangeAt Go.RowKit
open Go.ChangeMaps (open_string shut_string)
set_option linter.unusedVariables false

def sl44 : Ty (List Sy.Op) := slice 44 st44 (by decide)
theorem op5 : Opens Try.prog tByte 5 (fun _ => True) := opens_u8 Try.underlying5
def g32 : List UInt8 → Prop := GoodL (fun _ => True)
theorem op32 : Opens Try.prog sl5 32 g32 := opens_slice Try.underlying32 (by kernel_rfl) (by decide) op5
theorem op3 : Opens Try.prog tInt 3 I64 := opens_int Try.underlying3
def g44 : Sy.Op → Prop := fun x => (fun x => g32 x.1 ∧ (fun x => I64 x.1 ∧ I64 x.2) x.2) (x.name, x.pri, x.typ)
theorem op44 : Opens Try.prog st44 44 g44 := opens_struct Try.underlying44 (by kernel_rfl) (fun x : Sy.Op => (x.name, x.pri, x.typ)) (fun x => ⟨x.1, x.2.1, x.2.2⟩) (fun _ => rfl) (opensF_cons rfl (by kernel_rfl) op32 (opensF_cons rfl (by kernel_rfl) op3 (opensF_one rfl (by kernel_rfl) op3)))
def g22 : List Sy.Op → Prop := GoodL g44
theorem op22 : Opens Try.prog sl44 22 g22 := opens_slice Try.underlying22 (by kernel_rfl) (by decide) op44

theorem FnExactAddOp_pure {x0 : List Sy.Op} (g0 : g22 x0) {n1 : Int} (g1 : I64 n1) {n2 : Int} (g2 : I64 n2) {x3 : List UInt8} (g3 : g32 x3) : ∃ k, laws_FnExactAddOp.f k x0 n1 n2 x3 = some true := FnExactAddOp_plain x0 n1 n2 x3 g0.1 (fun c hc => (g0.2 c hc).1.1)

theorem own : ownKnob Try.prog.godebug = none := by kernel_rfl
theorem laidOut : laidOutB Try.prog = true := by kernel_rfl

set_option maxRecDepth 100000 in
theorem lifted (os : Os) (started : os.Started) (H : Type) (enc : TypeId × Value → H) :
    ReturnsInHanded {} Try.checked os 5 .any (Rows.fnExactAddOpSpec.pre6 enc Try.prog Try.f5 Rows.fnExactAddOpRow.domain false) (Rows.fnExactAddOpSpec.post enc Try.prog Try.f5 false true false false) := by
  refine returnsInHanded_of_change (C := Try.checked) own started (by kernel_rfl) Try.func5
    (ChangeSpec.witness6 (enc := enc) (C := Try.checked) false ⟨#[], #[.slice none 0 0, .int .i64 0, .int .i64 0, .slice none 0 0], []⟩ 8 (by kernel_rfl) (by kernel_rfl) (by kernel_rfl) (by kernel_rfl)) ?_
  intro W base args ds gs before hval0 hW hcnd _
  have hval : ∀ (j : Nat) t v, Try.f5.params[j]? = some t → args[j]? = some v → Value.okWide Try.prog W .any base t v := hval0
  have hW' := hW
  obtain ⟨p, q, hA0, hV, rfl, hfz, hnd⟩ := hW
  have hA : DataW.TrodAll enc Try.prog W 0 (fun _ => true) true Try.f5.params.toList args.toList ds p := hA0
  rw [Try.params5] at hA hval
  obtain ⟨v0, vs0, d0, ds0, p0, q0, hargs, rfl, rfl, h0, r0⟩ := trodAll_cons hA
  obtain ⟨v1, vs1, d1, ds1, p1, q1, rfl, rfl, rfl, h1, r1⟩ := trodAll_cons r0
  obtain ⟨v2, vs2, d2, ds2, p2, q2, rfl, rfl, rfl, h2, r2⟩ := trodAll_cons r1
  obtain ⟨v3, vs3, d3, ds3, p3, q3, rfl, rfl, rfl, h3, r3⟩ := trodAll_cons r2
  obtain ⟨rfl, rfl, rfl⟩ := trodAll_nil r3
  obtain rfl : args = #[v0, v1, v2, v3] := by cases args; simp_all
  obtain ⟨rfl, rfl⟩ := trodVars_none hV
  obtain ⟨a0, n0, c0, rfl⟩ := okWide_slice Try.underlying22 (hval 0 22 v0 rfl rfl)
  have k0 := h0
  have lt0 : ∀ x ∈ p0, x.block < W.heap.size := by obtain ⟨m, hm⟩ := k0; exact DataW.trod_lt m _ _ _ hm
  obtain ⟨fu0, f0⟩ := h0
  obtain ⟨x0, ⟨A0, d0, e0, l0, R0⟩, g0⟩ := op22 _ _ _ _ _ _ _ _ _ f0
  simp [Value.cells] at e0
  obtain ⟨rfl, rfl, rfl⟩ := e0
  obtain ⟨n1, rfl⟩ := okWide_int Try.underlying3 (hval 1 3 v1 rfl rfl)
  have k1 := h1
  have lt1 : ∀ x ∈ p1, x.block < W.heap.size := by obtain ⟨m, hm⟩ := k1; exact DataW.trod_lt m _ _ _ hm
  obtain ⟨fu1, f1⟩ := h1
  obtain ⟨x1, e1, g1⟩ := op3 _ _ _ _ _ _ _ _ _ f1
  replace e1 := (List.cons.inj (show [_] = [_] from e1)).1
  obtain rfl : n1 = x1 := by injection e1
  obtain ⟨n2, rfl⟩ := okWide_int Try.underlying3 (hval 2 3 v2 rfl rfl)
  have k2 := h2
  have lt2 : ∀ x ∈ p2, x.block < W.heap.size := by obtain ⟨m, hm⟩ := k2; exact DataW.trod_lt m _ _ _ hm
  obtain ⟨fu2, f2⟩ := h2
  obtain ⟨x2, e2, g2⟩ := op3 _ _ _ _ _ _ _ _ _ f2
  replace e2 := (List.cons.inj (show [_] = [_] from e2)).1
  obtain rfl : n2 = x2 := by injection e2
  obtain ⟨a3, n3, c3, rfl⟩ := okWide_slice Try.underlying32 (hval 3 32 v3 rfl rfl)
  have k3 := h3
  have lt3 : ∀ x ∈ p3, x.block < W.heap.size := by obtain ⟨m, hm⟩ := k3; exact DataW.trod_lt m _ _ _ hm
  obtain ⟨fu3, f3⟩ := h3
  obtain ⟨x3, ⟨A3, d3, e3, l3, R3⟩, g3⟩ := op32 _ _ _ _ _ _ _ _ _ f3
  simp [Value.cells] at e3
  obtain ⟨rfl, rfl, rfl⟩ := e3
  clear hA0 hval0
  obtain ⟨k, hk⟩ := FnExactAddOp_pure g0 g1 g2 g3
  refine (laws_FnExactAddOp.calls k W (hp W) x0 a0 c0 n1 n2 x3 a3 c3 R0 l0 R3 l3 (Own.nil (Ext.refl _)) true hk).mono fun e W' ⟨he, hc⟩ => ?_
  subst he
  have bel := hc.below
  exact ⟨_, rfl, _, _, _, [], _, [], hW', trodAll_mk1 (shut_bool Try.underlying4 _), (trodAll_cons_mk (Below.trod laidOut (by kernel_rfl) (of_decide_eq_true (by kernel_rfl)) k0 bel lt0) (trodAll_cons_mk (Below.trod laidOut (by kernel_rfl) (of_decide_eq_true (by kernel_rfl)) k1 bel lt1) (trodAll_cons_mk (Below.trod laidOut (by kernel_rfl) (of_decide_eq_true (by kernel_rfl)) k2 bel lt2) (trodAll_cons_mk (Below.trod laidOut (by kernel_rfl) (of_decide_eq_true (by kernel_rfl)) k3 bel lt3) trodAll_mk0)))), rfl, bel.frame _, fun h => by cases h⟩

theorem over : Rows.fnExactAddOpRow.holds Try.pinned (OpenSpec.ofChange Rows.fnExactAddOpSpec) :=
  OpenClaim.holds_of_wide 5 Try.f5 rfl rfl rfl rfl rfl rfl rfl ⟨rfl, rfl, rfl, rfl, rfl⟩ rfl rfl rfl rfl rfl (by kernel_rfl) Try.func5 (by kernel_rfl)
    (of_decide_eq_true (by kernel_rfl)) (by unfold Func.isWrapper; first | (rw [if_pos (by decide +kernel)]; kernel_rfl) | (rw [if_neg (by decide +kernel)]; exact ⟨rfl, rfl⟩))
    (fun os started H enc _ => lifted os started H enc)

/-- The statement. -/
theorem holds : Rows.FnExactAddOpSaid := over
#print axioms holds
end Go.Proofs.Ytminnekeekhjcaa.FnExactAddOpPf
