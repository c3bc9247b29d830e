/-
  The law FnExactUnifyStore answers true for every store and every two words, and leaves them as they were. No conditions.
-/
import Derived.Test.YtnigifmkjmbfiaaRows
import Derived.Test.YtnigifmkjmbfiaaWkUs6
import Derived.Test.YtnigifmkjmbfiaaPuUs4
import Derived.Test.YtnigifmkjmbfiaaOpenY
import Derived.WalkKit
import Derived.ProofKit
import Derived.OpenShut
import Derived.ShutString
import Derived.ChangeOld
import Derived.Below
namespace Go.Proofs.Ytnigifmkjmbfiaa.FnExactUnifyStorePf
open Go.Sx Go.Sy
open Go.ChangeShapes Go.WideShapes Go.ChangeAt Go.RowKit
open Go.ChangeMaps (open_string shut_string)
set_option linter.unusedVariables false

def sl28 : Ty (List Cell) := slice 28 st28 (by decide)
def sl3 : Ty (List Int) := slice 3 tInt (by decide)
def st25 : Ty Store := iso (pair sl28 sl3) (fun x => (x.cells, x.trail))
theorem st25_open {H : Hp} {x : Store} {cs : List Value} (h : st25.R H x cs) : ∃ (A0 : Option Addr) (c0 : Nat) (A1 : Option Addr) (c1 : Nat), cs = [.slice A0 x.cells.length c0, .slice A1 x.trail.length c1] ∧ x.cells.length ≤ c0 ∧ Rd st28 H A0 x.cells ∧ x.trail.length ≤ c1 ∧ Rd tInt H A1 x.trail := by
  obtain ⟨_, _, rfl, ⟨A0, c0, rfl, l0, h0⟩, ⟨A1, c1, rfl, l1, h1⟩⟩ := h
  exact ⟨A0, c0, A1, c1, rfl, l0, h0, l1, h1⟩
theorem st25_mkR {H : Hp} {x : Store} {A0 : Option Addr} {c0 : Nat} {A1 : Option Addr} {c1 : Nat} (l0 : x.cells.length ≤ c0) (h0 : Rd st28 H A0 x.cells) (l1 : x.trail.length ≤ c1) (h1 : Rd tInt H A1 x.trail) : st25.R H x [.slice A0 x.cells.length c0, .slice A1 x.trail.length c1] := ⟨[.slice A0 x.cells.length c0], [.slice A1 x.trail.length c1], rfl, ⟨A0, c0, rfl, l0, h0⟩, ⟨A1, c1, rfl, l1, h1⟩⟩
theorem st25_mkO {H X : Hp} {F0 : Foot} {F1 : Foot} {x : Store} {A0 : Option Addr} {c0 : Nat} {A1 : Option Addr} {c1 : Nat} (h0 : Row st28 28 H X F0 A0 c0 x.cells) (h1 : Row tInt 3 H X F1 A1 c1 x.trail) (d0_1 : Dj F0 F1) : st25.O H X (or2 F0 F1) x [.slice A0 x.cells.length c0, .slice A1 x.trail.length c1] := (pairO2 (a := sl28) (b := sl3) (x := (x.cells, x.trail)) (c0 := [.slice A0 x.cells.length c0]) (c1 := [.slice A1 x.trail.length c1]) ⟨A0, c0, rfl, h0⟩ ⟨A1, c1, rfl, h1⟩ d0_1)
theorem st25_openO {H X : Hp} {F : Foot} {x : Store} {cs : List Value} (h : st25.O H X F x cs) : ∃ (A0 : Option Addr) (c0 : Nat) (A1 : Option Addr) (c1 : Nat) (F0 : Foot) (F1 : Foot), cs = [.slice A0 x.cells.length c0, .slice A1 x.trail.length c1] ∧ Row st28 28 H X F0 A0 c0 x.cells ∧ Row tInt 3 H X F1 A1 c1 x.trail ∧ (∀ b, F0 b → F b) ∧ (∀ b, F1 b → F b) ∧ Dj F0 F1 := by
  obtain ⟨_, _, K0, L0, rfl, ⟨A0, c0, rfl, h0⟩, ⟨A1, c1, rfl, h1⟩, d0, s0⟩ := h
  exact ⟨A0, c0, A1, c1, _, _, rfl, h0, h1, fun b hb => s0 b (.inl (hb)), fun b hb => s0 b (.inr (hb)), fun b hb hb2 => d0 b (hb) (hb2)⟩
def z25 : Store := ⟨([] : List Cell), ([] : List Int)⟩
theorem z25_R (H : Hp) : st25.R H z25 [.slice none 0 0, .slice none 0 0] := st25_mkR (x := z25) (Nat.le_refl _) (Rd.nil _ _ _) (Nat.le_refl _) (Rd.nil _ _ _)
theorem op3 : Opens Try.prog tInt 3 I64 := opens_int Try.underlying3
theorem op5 : Opens Try.prog tByte 5 (fun _ => True) := opens_u8 Try.underlying5
def g26 : List UInt8 → Prop := GoodL (fun _ => True)
theorem op26 : Opens Try.prog sl5 26 g26 := opens_slice Try.underlying26 (by kernel_rfl) (by decide) op5
def g28 : Cell → Prop := fun x => (fun x => I64 x.1 ∧ (fun x => I64 x.1 ∧ g26 x.2) x.2) (x.kind, x.n, x.text)
theorem op28 : Opens Try.prog st28 28 g28 := opens_struct Try.underlying28 (by kernel_rfl) (fun x : Cell => (x.kind, x.n, x.text)) (fun x => ⟨x.1, x.2.1, x.2.2⟩) (fun _ => rfl) (opensF_cons rfl (by kernel_rfl) op3 (opensF_cons rfl (by kernel_rfl) op3 (opensF_one rfl (by kernel_rfl) op26)))
def g22 : List Cell → Prop := GoodL g28
theorem op22 : Opens Try.prog sl28 22 g22 := opens_slice Try.underlying22 (by kernel_rfl) (by decide) op28
def g23 : List Int → Prop := GoodL I64
theorem op23 : Opens Try.prog sl3 23 g23 := opens_slice Try.underlying23 (by kernel_rfl) (by decide) op3
def g25 : Store → Prop := fun x => (fun x => g22 x.1 ∧ g23 x.2) (x.cells, x.trail)
theorem op25 : Opens Try.prog st25 25 g25 := opens_struct Try.underlying25 (by kernel_rfl) (fun x : Store => (x.cells, x.trail)) (fun x => ⟨x.1, x.2⟩) (fun _ => rfl) (opensF_cons rfl (by kernel_rfl) op22 (opensF_one rfl (by kernel_rfl) op23))

theorem FnExactUnifyStore_pure {s : Store} {x y : Cell} (g : g25 s) (h : g28 x) (i : g28 y) : ∃ k, laws_FnExactUnifyStore.f k s x y = some true :=
  unifyStore_true s x y g.1.1 (fun c hc => (g.1.2 c hc).2.2.1) g.2.1 h.2.2.1 i.2.2.1

theorem own : ownKnob Try.prog.godebug = none := by kernel_rfl
theorem laidOut : laidOutB Try.prog = true := by kernel_rfl

set_option maxRecDepth 100000 in
theorem lifted (os : Os) (started : os.Started) (H : Type) (enc : TypeId × Value → H) :
    ReturnsInHanded {} Try.checked os 8 .any (Rows.fnExactUnifyStoreSpec.pre6 enc Try.prog Try.f8 Rows.fnExactUnifyStoreRow.domain false) (Rows.fnExactUnifyStoreSpec.post enc Try.prog Try.f8 false true false false) := by
  refine returnsInHanded_of_change (C := Try.checked) own started (by kernel_rfl) Try.func8
    (ChangeSpec.witness6 (enc := enc) (C := Try.checked) false ⟨#[], #[.agg #[.slice none 0 0, .slice none 0 0], .agg #[.int .i64 0, .int .i64 0, .slice none 0 0], .agg #[.int .i64 0, .int .i64 0, .slice none 0 0]], []⟩ 8 (by kernel_rfl) (by kernel_rfl) (by kernel_rfl) (by kernel_rfl)) ?_
  intro W base args ds gs before hval0 hW hcnd _
  have hval : ∀ (j : Nat) t v, Try.f8.params[j]? = some t → args[j]? = some v → Value.okWide Try.prog W .any base t v := hval0
  have hW' := hW
  obtain ⟨p, q, hA0, hV, rfl, hfz, hnd⟩ := hW
  have hA : DataW.TrodAll enc Try.prog W 0 (fun _ => true) true Try.f8.params.toList args.toList ds p := hA0
  rw [Try.params8] at hA hval
  obtain ⟨v0, vs0, d0, ds0, p0, q0, hargs, rfl, rfl, h0, r0⟩ := trodAll_cons hA
  obtain ⟨v1, vs1, d1, ds1, p1, q1, rfl, rfl, rfl, h1, r1⟩ := trodAll_cons r0
  obtain ⟨v2, vs2, d2, ds2, p2, q2, rfl, rfl, rfl, h2, r2⟩ := trodAll_cons r1
  obtain ⟨rfl, rfl, rfl⟩ := trodAll_nil r2
  obtain rfl : args = #[v0, v1, v2] := by cases args; simp_all
  obtain ⟨rfl, rfl⟩ := trodVars_none hV
  obtain ⟨n0, rfl, _⟩ := okWide_struct Try.underlying25 (hval 0 25 v0 rfl rfl)
  have k0 := h0
  have lt0 : ∀ x ∈ p0, x.block < W.heap.size := by obtain ⟨m, hm⟩ := k0; exact DataW.trod_lt m _ _ _ hm
  obtain ⟨fu0, f0⟩ := h0
  obtain ⟨x0, s0, g0⟩ := op25 _ _ _ _ _ _ _ _ _ f0
  obtain ⟨A0_0, c0_0, A0_1, c0_1, e0, l0_0, R0_0, l0_1, R0_1⟩ := st25_open s0
  obtain rfl : n0 = #[.slice A0_0 x0.cells.length c0_0, .slice A0_1 x0.trail.length c0_1] := by cases n0; exact congrArg Array.mk e0
  obtain ⟨n1, rfl, _⟩ := okWide_struct Try.underlying28 (hval 1 28 v1 rfl rfl)
  have k1 := h1
  have lt1 : ∀ x ∈ p1, x.block < W.heap.size := by obtain ⟨m, hm⟩ := k1; exact DataW.trod_lt m _ _ _ hm
  obtain ⟨fu1, f1⟩ := h1
  obtain ⟨x1, s1, g1⟩ := op28 _ _ _ _ _ _ _ _ _ f1
  obtain ⟨A1_2, c1_2, e1, l1_2, R1_2⟩ := st28_open s1
  obtain rfl : n1 = #[.int .i64 x1.kind, .int .i64 x1.n, .slice A1_2 x1.text.length c1_2] := by cases n1; exact congrArg Array.mk e1
  obtain ⟨n2, rfl, _⟩ := okWide_struct Try.underlying28 (hval 2 28 v2 rfl rfl)
  have k2 := h2
  have lt2 : ∀ x ∈ p2, x.block < W.heap.size := by obtain ⟨m, hm⟩ := k2; exact DataW.trod_lt m _ _ _ hm
  obtain ⟨fu2, f2⟩ := h2
  obtain ⟨x2, s2, g2⟩ := op28 _ _ _ _ _ _ _ _ _ f2
  obtain ⟨A2_2, c2_2, e2, l2_2, R2_2⟩ := st28_open s2
  obtain rfl : n2 = #[.int .i64 x2.kind, .int .i64 x2.n, .slice A2_2 x2.text.length c2_2] := by cases n2; exact congrArg Array.mk e2
  clear hA0 hval0
  obtain ⟨k, hk⟩ := FnExactUnifyStore_pure g0 g1 g2
  refine (laws_FnExactUnifyStore.calls k W (hp W) x0 A0_0 c0_0 A0_1 c0_1 x1 A1_2 c1_2 x2 A2_2 c2_2 R0_0 l0_0 R0_1 l0_1 R1_2 l1_2 R2_2 l2_2 (Own.nil (Ext.refl _)) true hk).mono fun e W' ⟨he, hc⟩ => ?_
  subst he
  have bel := hc.below
  exact ⟨_, rfl, _, _, _, [], _, [], hW', trodAll_mk1 (shut_bool Try.underlying4 _), (trodAll_cons_mk (Below.trod laidOut (by kernel_rfl) (of_decide_eq_true (by kernel_rfl)) k0 bel lt0) (trodAll_cons_mk (Below.trod laidOut (by kernel_rfl) (of_decide_eq_true (by kernel_rfl)) k1 bel lt1) (trodAll_cons_mk (Below.trod laidOut (by kernel_rfl) (of_decide_eq_true (by kernel_rfl)) k2 bel lt2) trodAll_mk0))), rfl, bel.frame _, fun h => by cases h⟩

theorem over : Rows.fnExactUnifyStoreRow.holds Try.pinned (OpenSpec.ofChange Rows.fnExactUnifyStoreSpec) :=
  OpenClaim.holds_of_wide 8 Try.f8 rfl rfl rfl rfl rfl rfl rfl ⟨rfl, rfl, rfl, rfl, rfl⟩ rfl rfl rfl rfl rfl (by kernel_rfl) Try.func8 (by kernel_rfl)
    (of_decide_eq_true (by kernel_rfl)) (by unfold Func.isWrapper; first | (rw [if_pos (by decide +kernel)]; kernel_rfl) | (rw [if_neg (by decide +kernel)]; exact ⟨rfl, rfl⟩))
    (fun os started H enc _ => lifted os started H enc)

/-- The statement. -/
theorem holds : Rows.FnExactUnifyStoreSaid := over
#print axioms holds
end Go.Proofs.Ytnigifmkjmbfiaa.FnExactUnifyStorePf
