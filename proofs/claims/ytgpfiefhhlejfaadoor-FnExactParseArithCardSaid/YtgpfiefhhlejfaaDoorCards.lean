/-
  DERIVED. GIVEN WITH THE SEED: THE CARDS: each row of YtgpfiefhhlejfaaDoorRows.lean that lists a variable, with what it lists TIED to the program's text (the seventh form; the later family's looks); each row that meets fmt, with fmt's text TOLD by the authors' own Lean function (tested against real Go, not proved from fmt's source: count such statements apart). THE CARD IS WHAT COUNTS. Prove the row's statement (the work); the ties are given (YtgpfiefhhlejfaaDoorTie.lean); close each card by the builder's one call (the guide's Derived/Test/ToyasCard.lean, 'card_holds'). Laid BY PROGRAM, IN A SANDBOX (cutbox-door.mjs). By AI agents, Wed Nov 11 2026. No macro, syntax, notation, axiom, sorry.
-/
import Derived.Test.YtgpfiefhhlejfaaDoorRows
import GoSem.ClaimSeven
namespace Go.Proofs.YtgpfiefhhlejfaaDoor
namespace Rows

/-- THE TIED CARD OF 'laws.FnExactCircuitText'. -/
def fnExactCircuitTextCard : Claim7 := { stood := { row := fnExactCircuitTextRow, standIns := [], harness := (true, "dc322ba4160fb611f44cfbbe76f0ddb5a4ec8a65def7fb553193b7762a7ae232"), looks := true }, kinds := [], alts := [], laidByText := true, laidKinds := [.data, .data, .data, .widerDeep], laidTests := true, laidLooks := .later }
def FnExactCircuitTextCardSaid : Prop := Claim7.holds Tryd.pinned (.plain (OpenSpec.ofChange fnExactCircuitTextSpec)) fnExactCircuitTextCard

/-- THE TIED CARD OF 'laws.FnExactArithText'. -/
def fnExactArithTextCard : Claim7 := { stood := { row := fnExactArithTextRow, standIns := [], harness := (true, "dc322ba4160fb611f44cfbbe76f0ddb5a4ec8a65def7fb553193b7762a7ae232"), looks := true }, kinds := [], alts := [], laidByText := true, laidKinds := [.data, .data, .data, .widerDeep], laidTests := true, laidLooks := .later }
def FnExactArithTextCardSaid : Prop := Claim7.holds Tryd.pinned (.plain (OpenSpec.ofChange fnExactArithTextSpec)) fnExactArithTextCard

/-- THE TIED CARD OF 'laws.FnExactParseCircuit'. -/
def fnExactParseCircuitCard : Claim7 := { stood := { row := fnExactParseCircuitRow, standIns := [], harness := (true, "dc322ba4160fb611f44cfbbe76f0ddb5a4ec8a65def7fb553193b7762a7ae232"), looks := true }, kinds := [], alts := [], laidByText := true, laidKinds := [.data, .data, .data, .data, .sentinel, .sentinel, .widerDeep, .pinned], laidTests := true, laidLooks := .later }
def FnExactParseCircuitCardSaid : Prop := Claim7.holds Tryd.pinned (.plain (OpenSpec.ofChange fnExactParseCircuitSpec)) fnExactParseCircuitCard

/-- THE TIED CARD OF 'laws.FnExactParseArith'. -/
def fnExactParseArithCard : Claim7 := { stood := { row := fnExactParseArithRow, standIns := [], harness := (true, "dc322ba4160fb611f44cfbbe76f0ddb5a4ec8a65def7fb553193b7762a7ae232"), looks := true }, kinds := [], alts := [], laidByText := true, laidKinds := [.data, .data, .data, .data, .sentinel, .sentinel, .widerDeep, .pinned], laidTests := true, laidLooks := .later }
def FnExactParseArithCardSaid : Prop := Claim7.holds Tryd.pinned (.plain (OpenSpec.ofChange fnExactParseArithSpec)) fnExactParseArithCard

/-- THE SECOND FORM's CARD OF 'laws.FnExactCircuitText'. -/
def fnExactCircuitTextUptoCard : Claim7 := { stood := { row := fnExactCircuitTextUptoRow, standIns := [], harness := (true, "dc322ba4160fb611f44cfbbe76f0ddb5a4ec8a65def7fb553193b7762a7ae232"), looks := true }, kinds := [], alts := [], laidByText := true, laidKinds := [.data, .data, .data, .widerDeep], laidTests := true, laidLooks := .later }
def FnExactCircuitTextUptoCardSaid : Prop := Claim7.holds Tryd.pinned (.plain (OpenSpec.upto fnExactCircuitTextSpec)) fnExactCircuitTextUptoCard

/-- THE SECOND FORM's CARD OF 'laws.FnExactArithText'. -/
def fnExactArithTextUptoCard : Claim7 := { stood := { row := fnExactArithTextUptoRow, standIns := [], harness := (true, "dc322ba4160fb611f44cfbbe76f0ddb5a4ec8a65def7fb553193b7762a7ae232"), looks := true }, kinds := [], alts := [], laidByText := true, laidKinds := [.data, .data, .data, .widerDeep], laidTests := true, laidLooks := .later }
def FnExactArithTextUptoCardSaid : Prop := Claim7.holds Tryd.pinned (.plain (OpenSpec.upto fnExactArithTextSpec)) fnExactArithTextUptoCard

/-- THE SECOND FORM's CARD OF 'laws.FnExactParseCircuit'. -/
def fnExactParseCircuitUptoCard : Claim7 := { stood := { row := fnExactParseCircuitUptoRow, standIns := [], harness := (true, "dc322ba4160fb611f44cfbbe76f0ddb5a4ec8a65def7fb553193b7762a7ae232"), looks := true }, kinds := [], alts := [], laidByText := true, laidKinds := [.data, .data, .data, .data, .sentinel, .sentinel, .widerDeep, .pinned], laidTests := true, laidLooks := .later }
def FnExactParseCircuitUptoCardSaid : Prop := Claim7.holds Tryd.pinned (.plain (OpenSpec.upto fnExactParseCircuitSpec)) fnExactParseCircuitUptoCard

/-- THE SECOND FORM's CARD OF 'laws.FnExactParseArith'. -/
def fnExactParseArithUptoCard : Claim7 := { stood := { row := fnExactParseArithUptoRow, standIns := [], harness := (true, "dc322ba4160fb611f44cfbbe76f0ddb5a4ec8a65def7fb553193b7762a7ae232"), looks := true }, kinds := [], alts := [], laidByText := true, laidKinds := [.data, .data, .data, .data, .sentinel, .sentinel, .widerDeep, .pinned], laidTests := true, laidLooks := .later }
def FnExactParseArithUptoCardSaid : Prop := Claim7.holds Tryd.pinned (.plain (OpenSpec.upto fnExactParseArithSpec)) fnExactParseArithUptoCard
end Rows
end Go.Proofs.YtgpfiefhhlejfaaDoor
