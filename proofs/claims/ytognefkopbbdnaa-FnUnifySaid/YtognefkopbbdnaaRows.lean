/-
  No cell of these rows narrows 'for every input' (looked for: loops, veiled, ifaces, maps, wideKeys, modest, calm, conditions, laid).
  DERIVED. THE GIVEN ROWS OF THIS SEAT. 11 by the template 'for every input the law returns true; each argument reads behind the call as it read before'; 0 by the template 'total and deterministic' (their statements: YtognefkopbbdnaaTotals.lean).
  GIVEN WITH THE SEED: the statements are not yours to turn. If you find one false, say at which input.
  Laid BY PROGRAM, IN A SANDBOX (cutbox-rows.mjs): the forced cells as the released guide's own fill.sh prints them over the translation 979ee659ccf500b4… (all of the seat's roots in one cut). By AI agents, Wed Nov 11 2026. No macro, syntax, notation, axiom, sorry.
-/
import Derived.Test.YtognefkopbbdnaaChecked
import GoSem.Claim
import GoSem.ClaimJoined
import GoSem.ClaimMapViews
import Derived.JoinedTies
import Derived.KernelRfl
namespace Go.Proofs.Ytognefkopbbdnaa
/- THE CELL 'sum', in the pinned program and in every row, IS THE sha256 OF THE DUMP (.gsa) THAT YtognefkopbbdnaaProg.lean LOADS. Nothing in Lean hashes anything: it is a label: what it is worth is what the hold of that sum in a sandbox is worth. -/
noncomputable def Try.pinned : Pinned := { name := "ytognefkopbbdnaa", sum := "979ee659ccf500b496da4da80121764279b0d6b609fcde4dd360ede5af3566fc", checked := Try.checked }
namespace Rows
def none {H : Type} : Left H := { results := [], args := [] }

/-- 'laws.FnExactValidTerm': WHATEVER THE INPUT: true; the input reads as it did. -/
def fnExactValidTermSpec : ChangeSpec := { name := "fnExactValidTerm", fn := fun _ => fun
  | [d] => { results := [.lit (.bool true)], args := [d] }
  | _ => none }
def fnExactValidTermRow : OpenClaim := { program := "ytognefkopbbdnaa", sum := "979ee659ccf500b496da4da80121764279b0d6b609fcde4dd360ede5af3566fc", func := "loop.example/s00095/laws.FnExactValidTerm", spec := "fnExactValidTerm", apart := false }
def FnExactValidTermSaid : Prop := fnExactValidTermRow.holds Try.pinned (OpenSpec.ofChange fnExactValidTermSpec)

/-- ITS FALSE NEIGHBOUR: 'it returns false'. Refute it at one input. -/
def fnExactValidTermWrong : ChangeSpec := { name := "fnExactValidTerm", fn := fun _ => fun
  | [d] => { results := [.lit (.bool false)], args := [d] }
  | _ => none }
def FnExactValidTermWrongFalsely : Prop := fnExactValidTermRow.holds Try.pinned (OpenSpec.ofChange fnExactValidTermWrong)

/-- 'laws.FnExactCompareTerms': WHATEVER THE INPUT: true; the input reads as it did. -/
def fnExactCompareTermsSpec : ChangeSpec := { name := "fnExactCompareTerms", fn := fun _ => fun
  | [d1, d2] => { results := [.lit (.bool true)], args := [d1, d2] }
  | _ => none }
def fnExactCompareTermsRow : OpenClaim := { program := "ytognefkopbbdnaa", sum := "979ee659ccf500b496da4da80121764279b0d6b609fcde4dd360ede5af3566fc", func := "loop.example/s00095/laws.FnExactCompareTerms", spec := "fnExactCompareTerms", recurses := true, apart := false }
def FnExactCompareTermsSaid : Prop := fnExactCompareTermsRow.holds Try.pinned (OpenSpec.ofChange fnExactCompareTermsSpec)

/-- ITS FALSE NEIGHBOUR: 'it returns false'. Refute it at one input. -/
def fnExactCompareTermsWrong : ChangeSpec := { name := "fnExactCompareTerms", fn := fun _ => fun
  | [d1, d2] => { results := [.lit (.bool false)], args := [d1, d2] }
  | _ => none }
def FnExactCompareTermsWrongFalsely : Prop := fnExactCompareTermsRow.holds Try.pinned (OpenSpec.ofChange fnExactCompareTermsWrong)

/-- 'laws.FnExactTermVars': WHATEVER THE INPUT: true; the input reads as it did. -/
def fnExactTermVarsSpec : ChangeSpec := { name := "fnExactTermVars", fn := fun _ => fun
  | [d] => { results := [.lit (.bool true)], args := [d] }
  | _ => none }
def fnExactTermVarsRow : OpenClaim := { program := "ytognefkopbbdnaa", sum := "979ee659ccf500b496da4da80121764279b0d6b609fcde4dd360ede5af3566fc", func := "loop.example/s00095/laws.FnExactTermVars", spec := "fnExactTermVars", recurses := true, apart := false }
def FnExactTermVarsSaid : Prop := fnExactTermVarsRow.holds Try.pinned (OpenSpec.ofChange fnExactTermVarsSpec)

/-- ITS FALSE NEIGHBOUR: 'it returns false'. Refute it at one input. -/
def fnExactTermVarsWrong : ChangeSpec := { name := "fnExactTermVars", fn := fun _ => fun
  | [d] => { results := [.lit (.bool false)], args := [d] }
  | _ => none }
def FnExactTermVarsWrongFalsely : Prop := fnExactTermVarsRow.holds Try.pinned (OpenSpec.ofChange fnExactTermVarsWrong)

/-- 'laws.FnExactRenumber': WHATEVER THE INPUT: true; the input reads as it did. -/
def fnExactRenumberSpec : ChangeSpec := { name := "fnExactRenumber", fn := fun _ => fun
  | [d] => { results := [.lit (.bool true)], args := [d] }
  | _ => none }
def fnExactRenumberRow : OpenClaim := { program := "ytognefkopbbdnaa", sum := "979ee659ccf500b496da4da80121764279b0d6b609fcde4dd360ede5af3566fc", func := "loop.example/s00095/laws.FnExactRenumber", spec := "fnExactRenumber", unfollowed := true, recurses := true, apart := false }
def FnExactRenumberSaid : Prop := fnExactRenumberRow.holds Try.pinned (OpenSpec.ofChange fnExactRenumberSpec)

/-- ITS FALSE NEIGHBOUR: 'it returns false'. Refute it at one input. -/
def fnExactRenumberWrong : ChangeSpec := { name := "fnExactRenumber", fn := fun _ => fun
  | [d] => { results := [.lit (.bool false)], args := [d] }
  | _ => none }
def FnExactRenumberWrongFalsely : Prop := fnExactRenumberRow.holds Try.pinned (OpenSpec.ofChange fnExactRenumberWrong)

/-- 'laws.FnExactSubsumes': WHATEVER THE INPUT: true; the input reads as it did. -/
def fnExactSubsumesSpec : ChangeSpec := { name := "fnExactSubsumes", fn := fun _ => fun
  | [d1, d2] => { results := [.lit (.bool true)], args := [d1, d2] }
  | _ => none }
def fnExactSubsumesRow : OpenClaim := { program := "ytognefkopbbdnaa", sum := "979ee659ccf500b496da4da80121764279b0d6b609fcde4dd360ede5af3566fc", func := "loop.example/s00095/laws.FnExactSubsumes", spec := "fnExactSubsumes", recurses := true, apart := false }
def FnExactSubsumesSaid : Prop := fnExactSubsumesRow.holds Try.pinned (OpenSpec.ofChange fnExactSubsumesSpec)

/-- ITS FALSE NEIGHBOUR: 'it returns false'. Refute it at one input. -/
def fnExactSubsumesWrong : ChangeSpec := { name := "fnExactSubsumes", fn := fun _ => fun
  | [d1, d2] => { results := [.lit (.bool false)], args := [d1, d2] }
  | _ => none }
def FnExactSubsumesWrongFalsely : Prop := fnExactSubsumesRow.holds Try.pinned (OpenSpec.ofChange fnExactSubsumesWrong)

/-- 'laws.FnExactVariant': WHATEVER THE INPUT: true; the input reads as it did. -/
def fnExactVariantSpec : ChangeSpec := { name := "fnExactVariant", fn := fun _ => fun
  | [d1, d2] => { results := [.lit (.bool true)], args := [d1, d2] }
  | _ => none }
def fnExactVariantRow : OpenClaim := { program := "ytognefkopbbdnaa", sum := "979ee659ccf500b496da4da80121764279b0d6b609fcde4dd360ede5af3566fc", func := "loop.example/s00095/laws.FnExactVariant", spec := "fnExactVariant", unfollowed := true, recurses := true, apart := false }
def FnExactVariantSaid : Prop := fnExactVariantRow.holds Try.pinned (OpenSpec.ofChange fnExactVariantSpec)

/-- ITS FALSE NEIGHBOUR: 'it returns false'. Refute it at one input. -/
def fnExactVariantWrong : ChangeSpec := { name := "fnExactVariant", fn := fun _ => fun
  | [d1, d2] => { results := [.lit (.bool false)], args := [d1, d2] }
  | _ => none }
def FnExactVariantWrongFalsely : Prop := fnExactVariantRow.holds Try.pinned (OpenSpec.ofChange fnExactVariantWrong)

/-- 'laws.FnExactListItems': WHATEVER THE INPUT: true; the input reads as it did. -/
def fnExactListItemsSpec : ChangeSpec := { name := "fnExactListItems", fn := fun _ => fun
  | [d] => { results := [.lit (.bool true)], args := [d] }
  | _ => none }
def fnExactListItemsRow : OpenClaim := { program := "ytognefkopbbdnaa", sum := "979ee659ccf500b496da4da80121764279b0d6b609fcde4dd360ede5af3566fc", func := "loop.example/s00095/laws.FnExactListItems", spec := "fnExactListItems", recurses := true, apart := false }
def FnExactListItemsSaid : Prop := fnExactListItemsRow.holds Try.pinned (OpenSpec.ofChange fnExactListItemsSpec)

/-- ITS FALSE NEIGHBOUR: 'it returns false'. Refute it at one input. -/
def fnExactListItemsWrong : ChangeSpec := { name := "fnExactListItems", fn := fun _ => fun
  | [d] => { results := [.lit (.bool false)], args := [d] }
  | _ => none }
def FnExactListItemsWrongFalsely : Prop := fnExactListItemsRow.holds Try.pinned (OpenSpec.ofChange fnExactListItemsWrong)

/-- 'laws.FnExactMakeList': WHATEVER THE INPUT: true; the input reads as it did. -/
def fnExactMakeListSpec : ChangeSpec := { name := "fnExactMakeList", fn := fun _ => fun
  | [d] => { results := [.lit (.bool true)], args := [d] }
  | _ => none }
def fnExactMakeListRow : OpenClaim := { program := "ytognefkopbbdnaa", sum := "979ee659ccf500b496da4da80121764279b0d6b609fcde4dd360ede5af3566fc", func := "loop.example/s00095/laws.FnExactMakeList", spec := "fnExactMakeList", recurses := true, apart := false }
def FnExactMakeListSaid : Prop := fnExactMakeListRow.holds Try.pinned (OpenSpec.ofChange fnExactMakeListSpec)

/-- ITS FALSE NEIGHBOUR: 'it returns false'. Refute it at one input. -/
def fnExactMakeListWrong : ChangeSpec := { name := "fnExactMakeList", fn := fun _ => fun
  | [d] => { results := [.lit (.bool false)], args := [d] }
  | _ => none }
def FnExactMakeListWrongFalsely : Prop := fnExactMakeListRow.holds Try.pinned (OpenSpec.ofChange fnExactMakeListWrong)

/-- 'laws.FnExactApply': WHATEVER THE INPUT: true; the input reads as it did. -/
def fnExactApplySpec : ChangeSpec := { name := "fnExactApply", fn := fun _ => fun
  | [d1, d2] => { results := [.lit (.bool true)], args := [d1, d2] }
  | _ => none }
def fnExactApplyRow : OpenClaim := { program := "ytognefkopbbdnaa", sum := "979ee659ccf500b496da4da80121764279b0d6b609fcde4dd360ede5af3566fc", func := "loop.example/s00095/laws.FnExactApply", spec := "fnExactApply", recurses := true, apart := false }
def FnExactApplySaid : Prop := fnExactApplyRow.holds Try.pinned (OpenSpec.ofChange fnExactApplySpec)

/-- ITS FALSE NEIGHBOUR: 'it returns false'. Refute it at one input. -/
def fnExactApplyWrong : ChangeSpec := { name := "fnExactApply", fn := fun _ => fun
  | [d1, d2] => { results := [.lit (.bool false)], args := [d1, d2] }
  | _ => none }
def FnExactApplyWrongFalsely : Prop := fnExactApplyRow.holds Try.pinned (OpenSpec.ofChange fnExactApplyWrong)

/-- 'laws.FnExactUnify': WHATEVER THE INPUT: true; the input reads as it did. -/
def fnExactUnifySpec : ChangeSpec := { name := "fnExactUnify", fn := fun _ => fun
  | [d1, d2] => { results := [.lit (.bool true)], args := [d1, d2] }
  | _ => none }
def fnExactUnifyRow : OpenClaim := { program := "ytognefkopbbdnaa", sum := "979ee659ccf500b496da4da80121764279b0d6b609fcde4dd360ede5af3566fc", func := "loop.example/s00095/laws.FnExactUnify", spec := "fnExactUnify", unfollowed := true, recurses := true, apart := false }
def FnExactUnifySaid : Prop := fnExactUnifyRow.holds Try.pinned (OpenSpec.ofChange fnExactUnifySpec)

/-- ITS FALSE NEIGHBOUR: 'it returns false'. Refute it at one input. -/
def fnExactUnifyWrong : ChangeSpec := { name := "fnExactUnify", fn := fun _ => fun
  | [d1, d2] => { results := [.lit (.bool false)], args := [d1, d2] }
  | _ => none }
def FnExactUnifyWrongFalsely : Prop := fnExactUnifyRow.holds Try.pinned (OpenSpec.ofChange fnExactUnifyWrong)

/-- 'laws.FnUnify': WHATEVER THE INPUT: true; the input reads as it did. -/
def fnUnifySpec : ChangeSpec := { name := "fnUnify", fn := fun _ => fun
  | [d] => { results := [.lit (.bool true)], args := [d] }
  | _ => none }
def fnUnifyRow : OpenClaim := { program := "ytognefkopbbdnaa", sum := "979ee659ccf500b496da4da80121764279b0d6b609fcde4dd360ede5af3566fc", func := "loop.example/s00095/laws.FnUnify", spec := "fnUnify", unfollowed := true, recurses := true, apart := false }
def FnUnifySaid : Prop := fnUnifyRow.holds Try.pinned (OpenSpec.ofChange fnUnifySpec)

/-- ITS FALSE NEIGHBOUR: 'it returns false'. Refute it at one input. -/
def fnUnifyWrong : ChangeSpec := { name := "fnUnify", fn := fun _ => fun
  | [d] => { results := [.lit (.bool false)], args := [d] }
  | _ => none }
def FnUnifyWrongFalsely : Prop := fnUnifyRow.holds Try.pinned (OpenSpec.ofChange fnUnifyWrong)

/- THE SECOND FORM. 'bulk': how many values and letters a reading holds, each counted each time it is reached (what is shared counts as often as it is met; a slice's spare places count too). A statement '..UptoSaid' is the law's where the arguments, and the package variables that the reading takes, are together of bulk at most 1048576: NARROWER than '..Said'. Prove '..Said' where nothing that the law and all that it calls make is longer than what came in: it says more and counts as full. Else prove '..UptoSaid'. A law counts once. -/
mutual
def uptoBulk {H : Type} : DataW H → Nat
  | .lit (.string bytes) => bytes.length + 1
  | .lit _ => 1
  | .nil => 1
  | .ptr d => uptoBulk d + 1
  | .slice elems spare => uptoBulkAll elems + uptoBulkAll spare + 1
  | .agg parts => uptoBulkAll parts + 1
  | .iface _ d => uptoBulk d + 1
  | .map entries => uptoBulkEntries entries + 1
  | .held _ => 1
def uptoBulkAll {H : Type} : List (DataW H) → Nat
  | [] => 0
  | d :: r => uptoBulk d + uptoBulkAll r
def uptoBulkEntries {H : Type} : List (Lit × DataW H) → Nat
  | [] => 0
  | x :: r => uptoBulkEntry x + uptoBulkEntries r
def uptoBulkEntry {H : Type} : Lit × DataW H → Nat
  | (.string bytes, d) => bytes.length + uptoBulk d + 1
  | (_, d) => uptoBulk d + 1
 end
def uptoSmall : (H : Type) → List (DataW H) → Bool := fun _ ds => decide (uptoBulkAll ds ≤ 1048576)
def OpenSpec.upto (s : _root_.Go.ChangeSpec) : _root_.Go.OpenSpec := { _root_.Go.OpenSpec.ofChange s with cond := some uptoSmall }

/-- 'laws.FnExactValidTerm', WHERE WHAT IT READS IS OF BULK AT MOST 1048576: true; the input reads as it did. -/
def fnExactValidTermUptoRow : OpenClaim := { program := "ytognefkopbbdnaa", sum := "979ee659ccf500b496da4da80121764279b0d6b609fcde4dd360ede5af3566fc", func := "loop.example/s00095/laws.FnExactValidTerm", spec := "fnExactValidTerm", apart := false, narrowed := true }
def FnExactValidTermUptoSaid : Prop := fnExactValidTermUptoRow.holds Try.pinned (OpenSpec.upto fnExactValidTermSpec)

/-- 'laws.FnExactCompareTerms', WHERE WHAT IT READS IS OF BULK AT MOST 1048576: true; the input reads as it did. -/
def fnExactCompareTermsUptoRow : OpenClaim := { program := "ytognefkopbbdnaa", sum := "979ee659ccf500b496da4da80121764279b0d6b609fcde4dd360ede5af3566fc", func := "loop.example/s00095/laws.FnExactCompareTerms", spec := "fnExactCompareTerms", recurses := true, apart := false, narrowed := true }
def FnExactCompareTermsUptoSaid : Prop := fnExactCompareTermsUptoRow.holds Try.pinned (OpenSpec.upto fnExactCompareTermsSpec)

/-- 'laws.FnExactTermVars', WHERE WHAT IT READS IS OF BULK AT MOST 1048576: true; the input reads as it did. -/
def fnExactTermVarsUptoRow : OpenClaim := { program := "ytognefkopbbdnaa", sum := "979ee659ccf500b496da4da80121764279b0d6b609fcde4dd360ede5af3566fc", func := "loop.example/s00095/laws.FnExactTermVars", spec := "fnExactTermVars", recurses := true, apart := false, narrowed := true }
def FnExactTermVarsUptoSaid : Prop := fnExactTermVarsUptoRow.holds Try.pinned (OpenSpec.upto fnExactTermVarsSpec)

/-- 'laws.FnExactRenumber', WHERE WHAT IT READS IS OF BULK AT MOST 1048576: true; the input reads as it did. -/
def fnExactRenumberUptoRow : OpenClaim := { program := "ytognefkopbbdnaa", sum := "979ee659ccf500b496da4da80121764279b0d6b609fcde4dd360ede5af3566fc", func := "loop.example/s00095/laws.FnExactRenumber", spec := "fnExactRenumber", unfollowed := true, recurses := true, apart := false, narrowed := true }
def FnExactRenumberUptoSaid : Prop := fnExactRenumberUptoRow.holds Try.pinned (OpenSpec.upto fnExactRenumberSpec)

/-- 'laws.FnExactSubsumes', WHERE WHAT IT READS IS OF BULK AT MOST 1048576: true; the input reads as it did. -/
def fnExactSubsumesUptoRow : OpenClaim := { program := "ytognefkopbbdnaa", sum := "979ee659ccf500b496da4da80121764279b0d6b609fcde4dd360ede5af3566fc", func := "loop.example/s00095/laws.FnExactSubsumes", spec := "fnExactSubsumes", recurses := true, apart := false, narrowed := true }
def FnExactSubsumesUptoSaid : Prop := fnExactSubsumesUptoRow.holds Try.pinned (OpenSpec.upto fnExactSubsumesSpec)

/-- 'laws.FnExactVariant', WHERE WHAT IT READS IS OF BULK AT MOST 1048576: true; the input reads as it did. -/
def fnExactVariantUptoRow : OpenClaim := { program := "ytognefkopbbdnaa", sum := "979ee659ccf500b496da4da80121764279b0d6b609fcde4dd360ede5af3566fc", func := "loop.example/s00095/laws.FnExactVariant", spec := "fnExactVariant", unfollowed := true, recurses := true, apart := false, narrowed := true }
def FnExactVariantUptoSaid : Prop := fnExactVariantUptoRow.holds Try.pinned (OpenSpec.upto fnExactVariantSpec)

/-- 'laws.FnExactListItems', WHERE WHAT IT READS IS OF BULK AT MOST 1048576: true; the input reads as it did. -/
def fnExactListItemsUptoRow : OpenClaim := { program := "ytognefkopbbdnaa", sum := "979ee659ccf500b496da4da80121764279b0d6b609fcde4dd360ede5af3566fc", func := "loop.example/s00095/laws.FnExactListItems", spec := "fnExactListItems", recurses := true, apart := false, narrowed := true }
def FnExactListItemsUptoSaid : Prop := fnExactListItemsUptoRow.holds Try.pinned (OpenSpec.upto fnExactListItemsSpec)

/-- 'laws.FnExactMakeList', WHERE WHAT IT READS IS OF BULK AT MOST 1048576: true; the input reads as it did. -/
def fnExactMakeListUptoRow : OpenClaim := { program := "ytognefkopbbdnaa", sum := "979ee659ccf500b496da4da80121764279b0d6b609fcde4dd360ede5af3566fc", func := "loop.example/s00095/laws.FnExactMakeList", spec := "fnExactMakeList", recurses := true, apart := false, narrowed := true }
def FnExactMakeListUptoSaid : Prop := fnExactMakeListUptoRow.holds Try.pinned (OpenSpec.upto fnExactMakeListSpec)

/-- 'laws.FnExactApply', WHERE WHAT IT READS IS OF BULK AT MOST 1048576: true; the input reads as it did. -/
def fnExactApplyUptoRow : OpenClaim := { program := "ytognefkopbbdnaa", sum := "979ee659ccf500b496da4da80121764279b0d6b609fcde4dd360ede5af3566fc", func := "loop.example/s00095/laws.FnExactApply", spec := "fnExactApply", recurses := true, apart := false, narrowed := true }
def FnExactApplyUptoSaid : Prop := fnExactApplyUptoRow.holds Try.pinned (OpenSpec.upto fnExactApplySpec)

/-- 'laws.FnExactUnify', WHERE WHAT IT READS IS OF BULK AT MOST 1048576: true; the input reads as it did. -/
def fnExactUnifyUptoRow : OpenClaim := { program := "ytognefkopbbdnaa", sum := "979ee659ccf500b496da4da80121764279b0d6b609fcde4dd360ede5af3566fc", func := "loop.example/s00095/laws.FnExactUnify", spec := "fnExactUnify", unfollowed := true, recurses := true, apart := false, narrowed := true }
def FnExactUnifyUptoSaid : Prop := fnExactUnifyUptoRow.holds Try.pinned (OpenSpec.upto fnExactUnifySpec)

/-- 'laws.FnUnify', WHERE WHAT IT READS IS OF BULK AT MOST 1048576: true; the input reads as it did. -/
def fnUnifyUptoRow : OpenClaim := { program := "ytognefkopbbdnaa", sum := "979ee659ccf500b496da4da80121764279b0d6b609fcde4dd360ede5af3566fc", func := "loop.example/s00095/laws.FnUnify", spec := "fnUnify", unfollowed := true, recurses := true, apart := false, narrowed := true }
def FnUnifyUptoSaid : Prop := fnUnifyUptoRow.holds Try.pinned (OpenSpec.upto fnUnifySpec)

end Rows
end Go.Proofs.Ytognefkopbbdnaa
