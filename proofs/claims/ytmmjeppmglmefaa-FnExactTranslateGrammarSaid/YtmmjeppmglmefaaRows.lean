/-
  No cell of these rows narrows 'for every input' (looked for: loops, veiled, ifaces, maps, wideKeys, modest, calm, conditions, laid).
  DERIVED. THE GIVEN ROWS OF THIS SEAT. 2 by the template 'for every input the law returns true; each argument reads behind the call as it read before'; 0 by the template 'total and deterministic' (their statements: YtmmjeppmglmefaaTotals.lean).
  GIVEN WITH THE SEED: the statements are not yours to turn. If you find one false, say at which input.
  Laid BY PROGRAM, IN A SANDBOX (cutbox-rows.mjs): the forced cells as the released guide's own fill.sh prints them over the translation 88f0380519c83d1b… (all of the seat's roots in one cut). By AI agents, Wed Nov 11 2026. No macro, syntax, notation, axiom, sorry.
-/
import Derived.Test.YtmmjeppmglmefaaChecked
import GoSem.Claim
import GoSem.ClaimJoined
import GoSem.ClaimMapViews
import Derived.JoinedTies
import Derived.KernelRfl
namespace Go.Proofs.Ytmmjeppmglmefaa
/- THE CELL 'sum', in the pinned program and in every row, IS THE sha256 OF THE DUMP (.gsa) THAT YtmmjeppmglmefaaProg.lean LOADS. Nothing in Lean hashes anything: it is a label: what it is worth is what the hold of that sum in a sandbox is worth. -/
noncomputable def Try.pinned : Pinned := { name := "ytmmjeppmglmefaa", sum := "88f0380519c83d1b5bfd1fe21ce3b073c2bab77cfa1d72b9c377d0df69082101", checked := Try.checked }
namespace Rows
def none {H : Type} : Left H := { results := [], args := [] }

/-- 'laws.FnExactNormalBody': WHATEVER THE INPUT: true; the input reads as it did. -/
def fnExactNormalBodySpec : ChangeSpec := { name := "fnExactNormalBody", fn := fun _ => fun
  | [d] => { results := [.lit (.bool true)], args := [d] }
  | _ => none }
def fnExactNormalBodyRow : OpenClaim := { program := "ytmmjeppmglmefaa", sum := "88f0380519c83d1b5bfd1fe21ce3b073c2bab77cfa1d72b9c377d0df69082101", func := "loop.example/s00095/laws.FnExactNormalBody", spec := "fnExactNormalBody", unfollowed := true, recurses := true, apart := false }
def FnExactNormalBodySaid : Prop := fnExactNormalBodyRow.holds Try.pinned (OpenSpec.ofChange fnExactNormalBodySpec)

/-- ITS FALSE NEIGHBOUR: 'it returns false'. Refute it at one input. -/
def fnExactNormalBodyWrong : ChangeSpec := { name := "fnExactNormalBody", fn := fun _ => fun
  | [d] => { results := [.lit (.bool false)], args := [d] }
  | _ => none }
def FnExactNormalBodyWrongFalsely : Prop := fnExactNormalBodyRow.holds Try.pinned (OpenSpec.ofChange fnExactNormalBodyWrong)

/-- 'laws.FnExactTranslateGrammar': WHATEVER THE INPUT: true; the input reads as it did. -/
def fnExactTranslateGrammarSpec : ChangeSpec := { name := "fnExactTranslateGrammar", fn := fun _ => fun
  | [d] => { results := [.lit (.bool true)], args := [d] }
  | _ => none }
def fnExactTranslateGrammarRow : OpenClaim := { program := "ytmmjeppmglmefaa", sum := "88f0380519c83d1b5bfd1fe21ce3b073c2bab77cfa1d72b9c377d0df69082101", func := "loop.example/s00095/laws.FnExactTranslateGrammar", spec := "fnExactTranslateGrammar", unfollowed := true, recurses := true, apart := false }
def FnExactTranslateGrammarSaid : Prop := fnExactTranslateGrammarRow.holds Try.pinned (OpenSpec.ofChange fnExactTranslateGrammarSpec)

/-- ITS FALSE NEIGHBOUR: 'it returns false'. Refute it at one input. -/
def fnExactTranslateGrammarWrong : ChangeSpec := { name := "fnExactTranslateGrammar", fn := fun _ => fun
  | [d] => { results := [.lit (.bool false)], args := [d] }
  | _ => none }
def FnExactTranslateGrammarWrongFalsely : Prop := fnExactTranslateGrammarRow.holds Try.pinned (OpenSpec.ofChange fnExactTranslateGrammarWrong)

/- THE SECOND FORM. 'bulk': how many values and letters a reading holds, each counted each time it is reached (what is shared counts as often as it is met; a slice's spare places count too). A statement '..UptoSaid' is the law's where the arguments, and the package variables that the reading takes, are together of bulk at most 1048576: NARROWER than '..Said'. Prove '..Said' where nothing that the law and all that it calls make is longer than what came in: it says more and counts as full. Else prove '..UptoSaid'. A law counts once. -/
mutual
def uptoBulk {H : Type} : DataW H → Nat
  | .lit (.string bytes) => bytes.length + 1
  | .lit _ => 1
  | .nil => 1
  | .ptr d => uptoBulk d + 1
  | .slice elems spare => uptoBulkAll elems + uptoBulkAll spare + 1
  | .agg parts => uptoBulkAll parts + 1
  | .iface _ d => uptoBulk d + 1
  | .map entries => uptoBulkEntries entries + 1
  | .held _ => 1
def uptoBulkAll {H : Type} : List (DataW H) → Nat
  | [] => 0
  | d :: r => uptoBulk d + uptoBulkAll r
def uptoBulkEntries {H : Type} : List (Lit × DataW H) → Nat
  | [] => 0
  | x :: r => uptoBulkEntry x + uptoBulkEntries r
def uptoBulkEntry {H : Type} : Lit × DataW H → Nat
  | (.string bytes, d) => bytes.length + uptoBulk d + 1
  | (_, d) => uptoBulk d + 1
 end
def uptoSmall : (H : Type) → List (DataW H) → Bool := fun _ ds => decide (uptoBulkAll ds ≤ 1048576)
def OpenSpec.upto (s : _root_.Go.ChangeSpec) : _root_.Go.OpenSpec := { _root_.Go.OpenSpec.ofChange s with cond := some uptoSmall }

/-- 'laws.FnExactNormalBody', WHERE WHAT IT READS IS OF BULK AT MOST 1048576: true; the input reads as it did. -/
def fnExactNormalBodyUptoRow : OpenClaim := { program := "ytmmjeppmglmefaa", sum := "88f0380519c83d1b5bfd1fe21ce3b073c2bab77cfa1d72b9c377d0df69082101", func := "loop.example/s00095/laws.FnExactNormalBody", spec := "fnExactNormalBody", unfollowed := true, recurses := true, apart := false, narrowed := true }
def FnExactNormalBodyUptoSaid : Prop := fnExactNormalBodyUptoRow.holds Try.pinned (OpenSpec.upto fnExactNormalBodySpec)

/-- 'laws.FnExactTranslateGrammar', WHERE WHAT IT READS IS OF BULK AT MOST 1048576: true; the input reads as it did. -/
def fnExactTranslateGrammarUptoRow : OpenClaim := { program := "ytmmjeppmglmefaa", sum := "88f0380519c83d1b5bfd1fe21ce3b073c2bab77cfa1d72b9c377d0df69082101", func := "loop.example/s00095/laws.FnExactTranslateGrammar", spec := "fnExactTranslateGrammar", unfollowed := true, recurses := true, apart := false, narrowed := true }
def FnExactTranslateGrammarUptoSaid : Prop := fnExactTranslateGrammarUptoRow.holds Try.pinned (OpenSpec.upto fnExactTranslateGrammarSpec)

end Rows
end Go.Proofs.Ytmmjeppmglmefaa
