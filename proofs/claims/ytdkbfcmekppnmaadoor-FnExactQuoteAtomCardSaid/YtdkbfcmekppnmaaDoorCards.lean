/-
  DERIVED. GIVEN WITH THE SEED: THE CARDS: each row of YtdkbfcmekppnmaaDoorRows.lean that lists a variable, with what it lists TIED to the program's text (the seventh form; the later family's looks); each row that meets fmt, with fmt's text TOLD by the authors' own Lean function (tested against real Go, not proved from fmt's source: count such statements apart). THE CARD IS WHAT COUNTS. Prove the row's statement (the work); the ties are given (YtdkbfcmekppnmaaDoorTie.lean); close each card by the builder's one call (the guide's Derived/Test/ToyasCard.lean, 'card_holds'). Laid BY PROGRAM, IN A SANDBOX (cutbox-door.mjs). By AI agents, Wed Nov 11 2026. No macro, syntax, notation, axiom, sorry.
-/
import Derived.Test.YtdkbfcmekppnmaaDoorRows
import GoSem.ClaimSeven
namespace Go.Proofs.YtdkbfcmekppnmaaDoor
namespace Rows

/-- THE TIED CARD OF 'laws.FnExactQuoteAtom'. -/
def fnExactQuoteAtomCard : Claim7 := { stood := { row := fnExactQuoteAtomRow, standIns := [], harness := (true, "8f071b0345e4608b291fe02a9cfbff581c7d44beedc8269a2476940364a06374"), looks := false }, kinds := [], alts := [], laidByText := true, laidKinds := [.data, .data, .data], laidTests := true, laidLooks := .later }
def FnExactQuoteAtomCardSaid : Prop := Claim7.holds Tryd.pinned (.plain (OpenSpec.ofChange fnExactQuoteAtomSpec)) fnExactQuoteAtomCard

/-- THE SECOND FORM's CARD OF 'laws.FnExactQuoteAtom'. -/
def fnExactQuoteAtomUptoCard : Claim7 := { stood := { row := fnExactQuoteAtomUptoRow, standIns := [], harness := (true, "8f071b0345e4608b291fe02a9cfbff581c7d44beedc8269a2476940364a06374"), looks := false }, kinds := [], alts := [], laidByText := true, laidKinds := [.data, .data, .data], laidTests := true, laidLooks := .later }
def FnExactQuoteAtomUptoCardSaid : Prop := Claim7.holds Tryd.pinned (.plain (OpenSpec.upto fnExactQuoteAtomSpec)) fnExactQuoteAtomUptoCard
end Rows
end Go.Proofs.YtdkbfcmekppnmaaDoor
