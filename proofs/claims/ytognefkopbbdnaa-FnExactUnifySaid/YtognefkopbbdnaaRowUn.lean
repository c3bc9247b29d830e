/-
  The law FnExactUnify answers true for every two lists of cells, and leaves both as they were. No conditions.
-/
import Derived.Test.YtognefkopbbdnaaRows
import Derived.Test.YtognefkopbbdnaaWkUn4
import Derived.Test.YtognefkopbbdnaaPuUn20
import Derived.Test.YtognefkopbbdnaaOpenY
import Derived.WalkKit
import Derived.ProofKit
import Derived.OpenShut
import Derived.ShutString
import Derived.ChangeOld
import Derived.Below
namespace Go.Proofs.Ytognefkopbbdnaa.FnExactUnifyPf
open Go.Sx Go.Sy
open Go.ChangeShapes Go.WideShapes Go.ChangeAt Go.RowKit
open Go.ChangeMaps (open_string shut_string)
set_option linter.unusedVariables false

def sl68 : Ty (List Cell) := slice 68 st68 (by decide)
theorem op3 : Opens Try.prog tInt 3 I64 := opens_int Try.underlying3
theorem op5 : Opens Try.prog tByte 5 (fun _ => True) := opens_u8 Try.underlying5
def g59 : List UInt8 → Prop := GoodL (fun _ => True)
theorem op59 : Opens Try.prog sl5 59 g59 := opens_slice Try.underlying59 (by kernel_rfl) (by decide) op5
def g68 : Cell → Prop := fun x => (fun x => I64 x.1 ∧ (fun x => I64 x.1 ∧ g59 x.2) x.2) (x.kind, x.n, x.text)
theorem op68 : Opens Try.prog st68 68 g68 := opens_struct Try.underlying68 (by kernel_rfl) (fun x : Cell => (x.kind, x.n, x.text)) (fun x => ⟨x.1, x.2.1, x.2.2⟩) (fun _ => rfl) (opensF_cons rfl (by kernel_rfl) op3 (opensF_cons rfl (by kernel_rfl) op3 (opensF_one rfl (by kernel_rfl) op59)))
def g22 : List Cell → Prop := GoodL g68
theorem op22 : Opens Try.prog sl68 22 g22 := opens_slice Try.underlying22 (by kernel_rfl) (by decide) op68

theorem FnExactUnify_pure {xs ys : List Cell} (g : g22 xs) (g' : g22 ys) : ∃ k, laws_FnExactUnify.f k xs ys = some true :=
  unify_true xs ys g.1 g'.1 (fun c hc => (g.2 c hc).2.2.1) (fun c hc => (g'.2 c hc).2.2.1)

theorem own : ownKnob Try.prog.godebug = none := by kernel_rfl
theorem laidOut : laidOutB Try.prog = true := by kernel_rfl

set_option maxRecDepth 100000 in
theorem lifted (os : Os) (started : os.Started) (H : Type) (enc : TypeId × Value → H) :
    ReturnsInHanded {} Try.checked os 12 .any (Rows.fnExactUnifySpec.pre6 enc Try.prog Try.f12 Rows.fnExactUnifyRow.domain false) (Rows.fnExactUnifySpec.post enc Try.prog Try.f12 false true false false) := by
  refine returnsInHanded_of_change (C := Try.checked) own started (by kernel_rfl) Try.func12
    (ChangeSpec.witness6 (enc := enc) (C := Try.checked) false ⟨#[], #[.slice none 0 0, .slice none 0 0], []⟩ 8 (by kernel_rfl) (by kernel_rfl) (by kernel_rfl) (by kernel_rfl)) ?_
  intro W base args ds gs before hval0 hW hcnd _
  have hval : ∀ (j : Nat) t v, Try.f12.params[j]? = some t → args[j]? = some v → Value.okWide Try.prog W .any base t v := hval0
  have hW' := hW
  obtain ⟨p, q, hA0, hV, rfl, hfz, hnd⟩ := hW
  have hA : DataW.TrodAll enc Try.prog W 0 (fun _ => true) true Try.f12.params.toList args.toList ds p := hA0
  rw [Try.params12] at hA hval
  obtain ⟨v0, vs0, d0, ds0, p0, q0, hargs, rfl, rfl, h0, r0⟩ := trodAll_cons hA
  obtain ⟨v1, vs1, d1, ds1, p1, q1, rfl, rfl, rfl, h1, r1⟩ := trodAll_cons r0
  obtain ⟨rfl, rfl, rfl⟩ := trodAll_nil r1
  obtain rfl : args = #[v0, v1] := by cases args; simp_all
  obtain ⟨rfl, rfl⟩ := trodVars_none hV
  obtain ⟨a0, n0, c0, rfl⟩ := okWide_slice Try.underlying22 (hval 0 22 v0 rfl rfl)
  have k0 := h0
  have lt0 : ∀ x ∈ p0, x.block < W.heap.size := by obtain ⟨m, hm⟩ := k0; exact DataW.trod_lt m _ _ _ hm
  obtain ⟨fu0, f0⟩ := h0
  obtain ⟨x0, ⟨A0, d0, e0, l0, R0⟩, g0⟩ := op22 _ _ _ _ _ _ _ _ _ f0
  simp [Value.cells] at e0
  obtain ⟨rfl, rfl, rfl⟩ := e0
  obtain ⟨a1, n1, c1, rfl⟩ := okWide_slice Try.underlying22 (hval 1 22 v1 rfl rfl)
  have k1 := h1
  have lt1 : ∀ x ∈ p1, x.block < W.heap.size := by obtain ⟨m, hm⟩ := k1; exact DataW.trod_lt m _ _ _ hm
  obtain ⟨fu1, f1⟩ := h1
  obtain ⟨x1, ⟨A1, d1, e1, l1, R1⟩, g1⟩ := op22 _ _ _ _ _ _ _ _ _ f1
  simp [Value.cells] at e1
  obtain ⟨rfl, rfl, rfl⟩ := e1
  clear hA0 hval0
  obtain ⟨k, hk⟩ := FnExactUnify_pure g0 g1
  refine (laws_FnExactUnify.calls k W (hp W) x0 a0 c0 x1 a1 c1 R0 l0 R1 l1 (Own.nil (Ext.refl _)) true hk).mono fun e W' ⟨he, hc⟩ => ?_
  subst he
  have bel := hc.below
  exact ⟨_, rfl, _, _, _, [], _, [], hW', trodAll_mk1 (shut_bool Try.underlying4 _), (trodAll_cons_mk (Below.trod laidOut (by kernel_rfl) (of_decide_eq_true (by kernel_rfl)) k0 bel lt0) (trodAll_cons_mk (Below.trod laidOut (by kernel_rfl) (of_decide_eq_true (by kernel_rfl)) k1 bel lt1) trodAll_mk0)), rfl, bel.frame _, fun h => by cases h⟩

theorem over : Rows.fnExactUnifyRow.holds Try.pinned (OpenSpec.ofChange Rows.fnExactUnifySpec) :=
  OpenClaim.holds_of_wide 12 Try.f12 rfl rfl rfl rfl rfl rfl rfl ⟨rfl, rfl, rfl, rfl, rfl⟩ rfl rfl rfl rfl rfl (by kernel_rfl) Try.func12 (by kernel_rfl)
    (of_decide_eq_true (by kernel_rfl)) (by unfold Func.isWrapper; first | (rw [if_pos (by decide +kernel)]; kernel_rfl) | (rw [if_neg (by decide +kernel)]; exact ⟨rfl, rfl⟩))
    (fun os started H enc _ => lifted os started H enc)

/-- The statement. -/
theorem holds : Rows.FnExactUnifySaid := over
#print axioms holds
end Go.Proofs.Ytognefkopbbdnaa.FnExactUnifyPf
