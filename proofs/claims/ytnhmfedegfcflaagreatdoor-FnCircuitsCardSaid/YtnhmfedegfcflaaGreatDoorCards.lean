/-
  DERIVED. GIVEN WITH THE SEED: THE CARDS: each row of YtnhmfedegfcflaaGreatDoorRows.lean that lists a variable, with what it lists TIED to the program's text (the seventh form; the later family's looks); each row that meets fmt, with fmt's text TOLD by the authors' own Lean function (tested against real Go, not proved from fmt's source: count such statements apart). THE CARD IS WHAT COUNTS. Prove the row's statement (the work); the ties are given (YtnhmfedegfcflaaGreatDoorTie.lean); close each card by the builder's one call (the guide's Derived/Test/ToyasCard.lean, 'card_holds'). Laid BY PROGRAM, IN A SANDBOX (cutbox-door.mjs). By AI agents, Wed Nov 11 2026. No macro, syntax, notation, axiom, sorry.
-/
import Derived.Test.YtnhmfedegfcflaaGreatDoorRows
import GoSem.ClaimSeven
namespace Go.Proofs.YtnhmfedegfcflaaGreatDoor
namespace Rows

/-- THE TIED CARD OF 'laws.FnCircuits'. -/
def fnCircuitsCard : Claim7 := { stood := { row := fnCircuitsRow, standIns := [], harness := (true, "b13a78fd4c807b15968c05a80ac6aae67e7856ee22a562823834439b8ebd281e"), looks := true }, kinds := [], alts := [], laidByText := true, laidKinds := [.data, .data, .data, .data, .sentinel, .sentinel, .widerDeep, .pinned], laidTests := true, laidLooks := .later }
def FnCircuitsCardSaid : Prop := Claim7.holds Tryz.pinned (.plain (OpenSpec.ofChange fnCircuitsSpec)) fnCircuitsCard

/-- THE SECOND FORM's CARD OF 'laws.FnCircuits'. -/
def fnCircuitsUptoCard : Claim7 := { stood := { row := fnCircuitsUptoRow, standIns := [], harness := (true, "b13a78fd4c807b15968c05a80ac6aae67e7856ee22a562823834439b8ebd281e"), looks := true }, kinds := [], alts := [], laidByText := true, laidKinds := [.data, .data, .data, .data, .sentinel, .sentinel, .widerDeep, .pinned], laidTests := true, laidLooks := .later }
def FnCircuitsUptoCardSaid : Prop := Claim7.holds Tryz.pinned (.plain (OpenSpec.upto fnCircuitsSpec)) fnCircuitsUptoCard
end Rows
end Go.Proofs.YtnhmfedegfcflaaGreatDoor
