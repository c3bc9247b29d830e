/-
  No cell of these rows narrows 'for every input' (looked for: loops, veiled, ifaces, maps, wideKeys, modest, calm, conditions, laid).
  DERIVED. THE GIVEN ROWS OF THIS SEAT. 6 by the template 'for every input the law returns true; each argument reads behind the call as it read before'; 0 by the template 'total and deterministic' (their statements: YtnigifmkjmbfiaaTotals.lean).
  GIVEN WITH THE SEED: the statements are not yours to turn. If you find one false, say at which input.
  Laid BY PROGRAM, IN A SANDBOX (cutbox-rows.mjs): the forced cells as the released guide's own fill.sh prints them over the translation 8ab11eb93fbd5fdd… (all of the seat's roots in one cut). By AI agents, Wed Nov 11 2026. No macro, syntax, notation, axiom, sorry.
-/
import Derived.Test.YtnigifmkjmbfiaaChecked
import GoSem.Claim
import GoSem.ClaimJoined
import GoSem.ClaimMapViews
import Derived.JoinedTies
import Derived.KernelRfl
namespace Go.Proofs.Ytnigifmkjmbfiaa
/- THE CELL 'sum', in the pinned program and in every row, IS THE sha256 OF THE DUMP (.gsa) THAT YtnigifmkjmbfiaaProg.lean LOADS. Nothing in Lean hashes anything: it is a label: what it is worth is what the hold of that sum in a sandbox is worth. -/
noncomputable def Try.pinned : Pinned := { name := "ytnigifmkjmbfiaa", sum := "8ab11eb93fbd5fddd4cd3d3fe8254ef481ddb8976d68027b7857966936214a9a", checked := Try.checked }
namespace Rows
def none {H : Type} : Left H := { results := [], args := [] }

/-- 'laws.FnExactValidStore': WHATEVER THE INPUT: true; the input reads as it did. -/
def fnExactValidStoreSpec : ChangeSpec := { name := "fnExactValidStore", fn := fun _ => fun
  | [d1, d2] => { results := [.lit (.bool true)], args := [d1, d2] }
  | _ => none }
def fnExactValidStoreRow : OpenClaim := { program := "ytnigifmkjmbfiaa", sum := "8ab11eb93fbd5fddd4cd3d3fe8254ef481ddb8976d68027b7857966936214a9a", func := "loop.example/s00095/laws.FnExactValidStore", spec := "fnExactValidStore", unfollowed := true, recurses := true, apart := false }
def FnExactValidStoreSaid : Prop := fnExactValidStoreRow.holds Try.pinned (OpenSpec.ofChange fnExactValidStoreSpec)

/-- ITS FALSE NEIGHBOUR: 'it returns false'. Refute it at one input. -/
def fnExactValidStoreWrong : ChangeSpec := { name := "fnExactValidStore", fn := fun _ => fun
  | [d1, d2] => { results := [.lit (.bool false)], args := [d1, d2] }
  | _ => none }
def FnExactValidStoreWrongFalsely : Prop := fnExactValidStoreRow.holds Try.pinned (OpenSpec.ofChange fnExactValidStoreWrong)

/-- 'laws.FnExactDeref': WHATEVER THE INPUT: true; the input reads as it did. -/
def fnExactDerefSpec : ChangeSpec := { name := "fnExactDeref", fn := fun _ => fun
  | [d1, d2] => { results := [.lit (.bool true)], args := [d1, d2] }
  | _ => none }
def fnExactDerefRow : OpenClaim := { program := "ytnigifmkjmbfiaa", sum := "8ab11eb93fbd5fddd4cd3d3fe8254ef481ddb8976d68027b7857966936214a9a", func := "loop.example/s00095/laws.FnExactDeref", spec := "fnExactDeref", unfollowed := true, recurses := true, apart := false }
def FnExactDerefSaid : Prop := fnExactDerefRow.holds Try.pinned (OpenSpec.ofChange fnExactDerefSpec)

/-- ITS FALSE NEIGHBOUR: 'it returns false'. Refute it at one input. -/
def fnExactDerefWrong : ChangeSpec := { name := "fnExactDeref", fn := fun _ => fun
  | [d1, d2] => { results := [.lit (.bool false)], args := [d1, d2] }
  | _ => none }
def FnExactDerefWrongFalsely : Prop := fnExactDerefRow.holds Try.pinned (OpenSpec.ofChange fnExactDerefWrong)

/-- 'laws.FnExactGetTerm': WHATEVER THE INPUT: true; the input reads as it did. -/
def fnExactGetTermSpec : ChangeSpec := { name := "fnExactGetTerm", fn := fun _ => fun
  | [d1, d2] => { results := [.lit (.bool true)], args := [d1, d2] }
  | _ => none }
def fnExactGetTermRow : OpenClaim := { program := "ytnigifmkjmbfiaa", sum := "8ab11eb93fbd5fddd4cd3d3fe8254ef481ddb8976d68027b7857966936214a9a", func := "loop.example/s00095/laws.FnExactGetTerm", spec := "fnExactGetTerm", unfollowed := true, recurses := true, apart := false }
def FnExactGetTermSaid : Prop := fnExactGetTermRow.holds Try.pinned (OpenSpec.ofChange fnExactGetTermSpec)

/-- ITS FALSE NEIGHBOUR: 'it returns false'. Refute it at one input. -/
def fnExactGetTermWrong : ChangeSpec := { name := "fnExactGetTerm", fn := fun _ => fun
  | [d1, d2] => { results := [.lit (.bool false)], args := [d1, d2] }
  | _ => none }
def FnExactGetTermWrongFalsely : Prop := fnExactGetTermRow.holds Try.pinned (OpenSpec.ofChange fnExactGetTermWrong)

/-- 'laws.FnExactUnwind': WHATEVER THE INPUT: true; the input reads as it did. -/
def fnExactUnwindSpec : ChangeSpec := { name := "fnExactUnwind", fn := fun _ => fun
  | [d1, d2, d3] => { results := [.lit (.bool true)], args := [d1, d2, d3] }
  | _ => none }
def fnExactUnwindRow : OpenClaim := { program := "ytnigifmkjmbfiaa", sum := "8ab11eb93fbd5fddd4cd3d3fe8254ef481ddb8976d68027b7857966936214a9a", func := "loop.example/s00095/laws.FnExactUnwind", spec := "fnExactUnwind", unfollowed := true, recurses := true, apart := false }
def FnExactUnwindSaid : Prop := fnExactUnwindRow.holds Try.pinned (OpenSpec.ofChange fnExactUnwindSpec)

/-- ITS FALSE NEIGHBOUR: 'it returns false'. Refute it at one input. -/
def fnExactUnwindWrong : ChangeSpec := { name := "fnExactUnwind", fn := fun _ => fun
  | [d1, d2, d3] => { results := [.lit (.bool false)], args := [d1, d2, d3] }
  | _ => none }
def FnExactUnwindWrongFalsely : Prop := fnExactUnwindRow.holds Try.pinned (OpenSpec.ofChange fnExactUnwindWrong)

/-- 'laws.FnExactBindCell': WHATEVER THE INPUT: true; the input reads as it did. -/
def fnExactBindCellSpec : ChangeSpec := { name := "fnExactBindCell", fn := fun _ => fun
  | [d1, d2, d3] => { results := [.lit (.bool true)], args := [d1, d2, d3] }
  | _ => none }
def fnExactBindCellRow : OpenClaim := { program := "ytnigifmkjmbfiaa", sum := "8ab11eb93fbd5fddd4cd3d3fe8254ef481ddb8976d68027b7857966936214a9a", func := "loop.example/s00095/laws.FnExactBindCell", spec := "fnExactBindCell", unfollowed := true, recurses := true, apart := false }
def FnExactBindCellSaid : Prop := fnExactBindCellRow.holds Try.pinned (OpenSpec.ofChange fnExactBindCellSpec)

/-- ITS FALSE NEIGHBOUR: 'it returns false'. Refute it at one input. -/
def fnExactBindCellWrong : ChangeSpec := { name := "fnExactBindCell", fn := fun _ => fun
  | [d1, d2, d3] => { results := [.lit (.bool false)], args := [d1, d2, d3] }
  | _ => none }
def FnExactBindCellWrongFalsely : Prop := fnExactBindCellRow.holds Try.pinned (OpenSpec.ofChange fnExactBindCellWrong)

/-- 'laws.FnExactUnifyStore': WHATEVER THE INPUT: true; the input reads as it did. -/
def fnExactUnifyStoreSpec : ChangeSpec := { name := "fnExactUnifyStore", fn := fun _ => fun
  | [d1, d2, d3] => { results := [.lit (.bool true)], args := [d1, d2, d3] }
  | _ => none }
def fnExactUnifyStoreRow : OpenClaim := { program := "ytnigifmkjmbfiaa", sum := "8ab11eb93fbd5fddd4cd3d3fe8254ef481ddb8976d68027b7857966936214a9a", func := "loop.example/s00095/laws.FnExactUnifyStore", spec := "fnExactUnifyStore", unfollowed := true, recurses := true, apart := false }
def FnExactUnifyStoreSaid : Prop := fnExactUnifyStoreRow.holds Try.pinned (OpenSpec.ofChange fnExactUnifyStoreSpec)

/-- ITS FALSE NEIGHBOUR: 'it returns false'. Refute it at one input. -/
def fnExactUnifyStoreWrong : ChangeSpec := { name := "fnExactUnifyStore", fn := fun _ => fun
  | [d1, d2, d3] => { results := [.lit (.bool false)], args := [d1, d2, d3] }
  | _ => none }
def FnExactUnifyStoreWrongFalsely : Prop := fnExactUnifyStoreRow.holds Try.pinned (OpenSpec.ofChange fnExactUnifyStoreWrong)

/- THE SECOND FORM. 'bulk': how many values and letters a reading holds, each counted each time it is reached (what is shared counts as often as it is met; a slice's spare places count too). A statement '..UptoSaid' is the law's where the arguments, and the package variables that the reading takes, are together of bulk at most 1048576: NARROWER than '..Said'. Prove '..Said' where nothing that the law and all that it calls make is longer than what came in: it says more and counts as full. Else prove '..UptoSaid'. A law counts once. -/
mutual
def uptoBulk {H : Type} : DataW H → Nat
  | .lit (.string bytes) => bytes.length + 1
  | .lit _ => 1
  | .nil => 1
  | .ptr d => uptoBulk d + 1
  | .slice elems spare => uptoBulkAll elems + uptoBulkAll spare + 1
  | .agg parts => uptoBulkAll parts + 1
  | .iface _ d => uptoBulk d + 1
  | .map entries => uptoBulkEntries entries + 1
  | .held _ => 1
def uptoBulkAll {H : Type} : List (DataW H) → Nat
  | [] => 0
  | d :: r => uptoBulk d + uptoBulkAll r
def uptoBulkEntries {H : Type} : List (Lit × DataW H) → Nat
  | [] => 0
  | x :: r => uptoBulkEntry x + uptoBulkEntries r
def uptoBulkEntry {H : Type} : Lit × DataW H → Nat
  | (.string bytes, d) => bytes.length + uptoBulk d + 1
  | (_, d) => uptoBulk d + 1
 end
def uptoSmall : (H : Type) → List (DataW H) → Bool := fun _ ds => decide (uptoBulkAll ds ≤ 1048576)
def OpenSpec.upto (s : _root_.Go.ChangeSpec) : _root_.Go.OpenSpec := { _root_.Go.OpenSpec.ofChange s with cond := some uptoSmall }

/-- 'laws.FnExactValidStore', WHERE WHAT IT READS IS OF BULK AT MOST 1048576: true; the input reads as it did. -/
def fnExactValidStoreUptoRow : OpenClaim := { program := "ytnigifmkjmbfiaa", sum := "8ab11eb93fbd5fddd4cd3d3fe8254ef481ddb8976d68027b7857966936214a9a", func := "loop.example/s00095/laws.FnExactValidStore", spec := "fnExactValidStore", unfollowed := true, recurses := true, apart := false, narrowed := true }
def FnExactValidStoreUptoSaid : Prop := fnExactValidStoreUptoRow.holds Try.pinned (OpenSpec.upto fnExactValidStoreSpec)

/-- 'laws.FnExactDeref', WHERE WHAT IT READS IS OF BULK AT MOST 1048576: true; the input reads as it did. -/
def fnExactDerefUptoRow : OpenClaim := { program := "ytnigifmkjmbfiaa", sum := "8ab11eb93fbd5fddd4cd3d3fe8254ef481ddb8976d68027b7857966936214a9a", func := "loop.example/s00095/laws.FnExactDeref", spec := "fnExactDeref", unfollowed := true, recurses := true, apart := false, narrowed := true }
def FnExactDerefUptoSaid : Prop := fnExactDerefUptoRow.holds Try.pinned (OpenSpec.upto fnExactDerefSpec)

/-- 'laws.FnExactGetTerm', WHERE WHAT IT READS IS OF BULK AT MOST 1048576: true; the input reads as it did. -/
def fnExactGetTermUptoRow : OpenClaim := { program := "ytnigifmkjmbfiaa", sum := "8ab11eb93fbd5fddd4cd3d3fe8254ef481ddb8976d68027b7857966936214a9a", func := "loop.example/s00095/laws.FnExactGetTerm", spec := "fnExactGetTerm", unfollowed := true, recurses := true, apart := false, narrowed := true }
def FnExactGetTermUptoSaid : Prop := fnExactGetTermUptoRow.holds Try.pinned (OpenSpec.upto fnExactGetTermSpec)

/-- 'laws.FnExactUnwind', WHERE WHAT IT READS IS OF BULK AT MOST 1048576: true; the input reads as it did. -/
def fnExactUnwindUptoRow : OpenClaim := { program := "ytnigifmkjmbfiaa", sum := "8ab11eb93fbd5fddd4cd3d3fe8254ef481ddb8976d68027b7857966936214a9a", func := "loop.example/s00095/laws.FnExactUnwind", spec := "fnExactUnwind", unfollowed := true, recurses := true, apart := false, narrowed := true }
def FnExactUnwindUptoSaid : Prop := fnExactUnwindUptoRow.holds Try.pinned (OpenSpec.upto fnExactUnwindSpec)

/-- 'laws.FnExactBindCell', WHERE WHAT IT READS IS OF BULK AT MOST 1048576: true; the input reads as it did. -/
def fnExactBindCellUptoRow : OpenClaim := { program := "ytnigifmkjmbfiaa", sum := "8ab11eb93fbd5fddd4cd3d3fe8254ef481ddb8976d68027b7857966936214a9a", func := "loop.example/s00095/laws.FnExactBindCell", spec := "fnExactBindCell", unfollowed := true, recurses := true, apart := false, narrowed := true }
def FnExactBindCellUptoSaid : Prop := fnExactBindCellUptoRow.holds Try.pinned (OpenSpec.upto fnExactBindCellSpec)

/-- 'laws.FnExactUnifyStore', WHERE WHAT IT READS IS OF BULK AT MOST 1048576: true; the input reads as it did. -/
def fnExactUnifyStoreUptoRow : OpenClaim := { program := "ytnigifmkjmbfiaa", sum := "8ab11eb93fbd5fddd4cd3d3fe8254ef481ddb8976d68027b7857966936214a9a", func := "loop.example/s00095/laws.FnExactUnifyStore", spec := "fnExactUnifyStore", unfollowed := true, recurses := true, apart := false, narrowed := true }
def FnExactUnifyStoreUptoSaid : Prop := fnExactUnifyStoreUptoRow.holds Try.pinned (OpenSpec.upto fnExactUnifyStoreSpec)

end Rows
end Go.Proofs.Ytnigifmkjmbfiaa
