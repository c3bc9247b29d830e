/-
  The law FnExactTranslateGrammar answers true for every list of cells, and leaves the list as it was. No conditions.
-/
import Derived.Test.YtmmjeppmglmefaaRows
import Derived.Test.YtmmjeppmglmefaaPuTg
import Derived.Test.YtmmjeppmglmefaaOpenY
import Derived.WalkKit
import Derived.ProofKit
import Derived.OpenShut
import Derived.ShutString
import Derived.ChangeOld
import Derived.Below
namespace Go.Proofs.Ytmmjeppmglmefaa.FnExactTranslateGrammarPf
open Go.Sx Go.Sy
open Go.ChangeShapes Go.WideShapes Go.ChangeAt Go.RowKit
open Go.ChangeMaps (open_string shut_string)
set_option linter.unusedVariables false

def sl34 : Ty (List Cell) := slice 34 st34 (by decide)
theorem op3 : Opens Try.prog tInt 3 I64 := opens_int Try.underlying3
theorem op5 : Opens Try.prog tByte 5 (fun _ => True) := opens_u8 Try.underlying5
def g32 : List UInt8 → Prop := GoodL (fun _ => True)
theorem op32 : Opens Try.prog sl5 32 g32 := opens_slice Try.underlying32 (by kernel_rfl) (by decide) op5
def g34 : Cell → Prop := fun x => (fun x => I64 x.1 ∧ (fun x => I64 x.1 ∧ g32 x.2) x.2) (x.kind, x.n, x.text)
theorem op34 : Opens Try.prog st34 34 g34 := opens_struct Try.underlying34 (by kernel_rfl) (fun x : Cell => (x.kind, x.n, x.text)) (fun x => ⟨x.1, x.2.1, x.2.2⟩) (fun _ => rfl) (opensF_cons rfl (by kernel_rfl) op3 (opensF_cons rfl (by kernel_rfl) op3 (opensF_one rfl (by kernel_rfl) op32)))
def g22 : List Cell → Prop := GoodL g34
theorem op22 : Opens Try.prog sl34 22 g22 := opens_slice Try.underlying22 (by kernel_rfl) (by decide) op34

theorem FnExactTranslateGrammar_pure {xs : List Cell} (g : g22 xs) : ∃ k, laws_FnExactTranslateGrammar.f k xs = some true :=
  ⟨4000000, translateGrammar_true xs g.1 (fun c hc => (g.2 c hc).2.2.1)⟩

theorem own : ownKnob Try.prog.godebug = none := by kernel_rfl
theorem laidOut : laidOutB Try.prog = true := by kernel_rfl

set_option maxRecDepth 100000 in
theorem lifted (os : Os) (started : os.Started) (H : Type) (enc : TypeId × Value → H) :
    ReturnsInHanded {} Try.checked os 4 .any (Rows.fnExactTranslateGrammarSpec.pre6 enc Try.prog Try.f4 Rows.fnExactTranslateGrammarRow.domain false) (Rows.fnExactTranslateGrammarSpec.post enc Try.prog Try.f4 false true false false) := by
  refine returnsInHanded_of_change (C := Try.checked) own started (by kernel_rfl) Try.func4
    (ChangeSpec.witness6 (enc := enc) (C := Try.checked) false ⟨#[], #[.slice none 0 0], []⟩ 8 (by kernel_rfl) (by kernel_rfl) (by kernel_rfl) (by kernel_rfl)) ?_
  intro W base args ds gs before hval0 hW hcnd _
  have hval : ∀ (j : Nat) t v, Try.f4.params[j]? = some t → args[j]? = some v → Value.okWide Try.prog W .any base t v := hval0
  have hW' := hW
  obtain ⟨p, q, hA0, hV, rfl, hfz, hnd⟩ := hW
  have hA : DataW.TrodAll enc Try.prog W 0 (fun _ => true) true Try.f4.params.toList args.toList ds p := hA0
  rw [Try.params4] at hA hval
  obtain ⟨v0, vs0, d0, ds0, p0, q0, hargs, rfl, rfl, h0, r0⟩ := trodAll_cons hA
  obtain ⟨rfl, rfl, rfl⟩ := trodAll_nil r0
  obtain rfl : args = #[v0] := by cases args; simp_all
  obtain ⟨rfl, rfl⟩ := trodVars_none hV
  obtain ⟨a0, n0, c0, rfl⟩ := okWide_slice Try.underlying22 (hval 0 22 v0 rfl rfl)
  have k0 := h0
  have lt0 : ∀ x ∈ p0, x.block < W.heap.size := by obtain ⟨m, hm⟩ := k0; exact DataW.trod_lt m _ _ _ hm
  obtain ⟨fu0, f0⟩ := h0
  obtain ⟨x0, ⟨A0, d0, e0, l0, R0⟩, g0⟩ := op22 _ _ _ _ _ _ _ _ _ f0
  simp [Value.cells] at e0
  obtain ⟨rfl, rfl, rfl⟩ := e0
  clear hA0 hval0
  obtain ⟨k, hk⟩ := FnExactTranslateGrammar_pure g0
  refine (laws_FnExactTranslateGrammar.calls k W (hp W) x0 a0 c0 R0 l0 (Own.nil (Ext.refl _)) true hk).mono fun e W' ⟨he, hc⟩ => ?_
  subst he
  have bel := hc.below
  exact ⟨_, rfl, _, _, _, [], _, [], hW', trodAll_mk1 (shut_bool Try.underlying4 _), (trodAll_cons_mk (Below.trod laidOut (by kernel_rfl) (of_decide_eq_true (by kernel_rfl)) k0 bel lt0) trodAll_mk0), rfl, bel.frame _, fun h => by cases h⟩

theorem over : Rows.fnExactTranslateGrammarRow.holds Try.pinned (OpenSpec.ofChange Rows.fnExactTranslateGrammarSpec) :=
  OpenClaim.holds_of_wide 4 Try.f4 rfl rfl rfl rfl rfl rfl rfl ⟨rfl, rfl, rfl, rfl, rfl⟩ rfl rfl rfl rfl rfl (by kernel_rfl) Try.func4 (by kernel_rfl)
    (of_decide_eq_true (by kernel_rfl)) (by unfold Func.isWrapper; first | (rw [if_pos (by decide +kernel)]; kernel_rfl) | (rw [if_neg (by decide +kernel)]; exact ⟨rfl, rfl⟩))
    (fun os started H enc _ => lifted os started H enc)

/-- The statement. -/
theorem holds : Rows.FnExactTranslateGrammarSaid := over
#print axioms holds
end Go.Proofs.Ytmmjeppmglmefaa.FnExactTranslateGrammarPf
