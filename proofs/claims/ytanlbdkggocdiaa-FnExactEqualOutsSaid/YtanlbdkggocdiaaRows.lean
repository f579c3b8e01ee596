/-
  No cell of these rows narrows 'for every input' (looked for: loops, veiled, ifaces, maps, wideKeys, modest, calm, conditions, laid).
  DERIVED. THE GIVEN ROWS OF THIS SEAT. 17 by the template 'for every input the law returns true; each argument reads behind the call as it read before'; 0 by the template 'total and deterministic' (their statements: YtanlbdkggocdiaaTotals.lean).
  GIVEN WITH THE SEED: the statements are not yours to turn. If you find one false, say at which input.
  Laid BY PROGRAM, IN A SANDBOX (cutbox-rows.mjs): the forced cells as the released guide's own fill.sh prints them over the translation de33e3b3a31b686c… (all of the seat's roots in one cut). By AI agents, Wed Nov 11 2026. No macro, syntax, notation, axiom, sorry.
-/
import Derived.Test.YtanlbdkggocdiaaChecked
import GoSem.Claim
import GoSem.ClaimJoined
import GoSem.ClaimMapViews
import Derived.JoinedTies
import Derived.KernelRfl
namespace Go.Proofs.Ytanlbdkggocdiaa
/- THE CELL 'sum', in the pinned program and in every row, IS THE sha256 OF THE DUMP (.gsa) THAT YtanlbdkggocdiaaProg.lean LOADS. Nothing in Lean hashes anything: it is a label: what it is worth is what the hold of that sum in a sandbox is worth. -/
noncomputable def Try.pinned : Pinned := { name := "ytanlbdkggocdiaa", sum := "de33e3b3a31b686cd31ad4ea10392a398d910a4d4c58bc03533d6c214dc6c5eb", checked := Try.checked }
namespace Rows
def none {H : Type} : Left H := { results := [], args := [] }

/-- 'laws.FnExactArithValues': WHATEVER THE INPUT: true; the input reads as it did. -/
def fnExactArithValuesSpec : ChangeSpec := { name := "fnExactArithValues", fn := fun _ => fun
  | [d1, d2, d3] => { results := [.lit (.bool true)], args := [d1, d2, d3] }
  | _ => none }
def fnExactArithValuesRow : OpenClaim := { program := "ytanlbdkggocdiaa", sum := "de33e3b3a31b686cd31ad4ea10392a398d910a4d4c58bc03533d6c214dc6c5eb", func := "loop.example/g00877/laws.FnExactArithValues", spec := "fnExactArithValues", unfollowed := true, recurses := true, apart := false }
def FnExactArithValuesSaid : Prop := fnExactArithValuesRow.holds Try.pinned (OpenSpec.ofChange fnExactArithValuesSpec)

/-- ITS FALSE NEIGHBOUR: 'it returns false'. Refute it at one input. -/
def fnExactArithValuesWrong : ChangeSpec := { name := "fnExactArithValues", fn := fun _ => fun
  | [d1, d2, d3] => { results := [.lit (.bool false)], args := [d1, d2, d3] }
  | _ => none }
def FnExactArithValuesWrongFalsely : Prop := fnExactArithValuesRow.holds Try.pinned (OpenSpec.ofChange fnExactArithValuesWrong)

/-- 'laws.FnExactOnesOf': WHATEVER THE INPUT: true; the input reads as it did. -/
def fnExactOnesOfSpec : ChangeSpec := { name := "fnExactOnesOf", fn := fun _ => fun
  | [d1, d2] => { results := [.lit (.bool true)], args := [d1, d2] }
  | _ => none }
def fnExactOnesOfRow : OpenClaim := { program := "ytanlbdkggocdiaa", sum := "de33e3b3a31b686cd31ad4ea10392a398d910a4d4c58bc03533d6c214dc6c5eb", func := "loop.example/g00877/laws.FnExactOnesOf", spec := "fnExactOnesOf", unfollowed := true, recurses := true, apart := false }
def FnExactOnesOfSaid : Prop := fnExactOnesOfRow.holds Try.pinned (OpenSpec.ofChange fnExactOnesOfSpec)

/-- ITS FALSE NEIGHBOUR: 'it returns false'. Refute it at one input. -/
def fnExactOnesOfWrong : ChangeSpec := { name := "fnExactOnesOf", fn := fun _ => fun
  | [d1, d2] => { results := [.lit (.bool false)], args := [d1, d2] }
  | _ => none }
def FnExactOnesOfWrongFalsely : Prop := fnExactOnesOfRow.holds Try.pinned (OpenSpec.ofChange fnExactOnesOfWrong)

/-- 'laws.FnExactAddOut': WHATEVER THE INPUT: true; the input reads as it did. -/
def fnExactAddOutSpec : ChangeSpec := { name := "fnExactAddOut", fn := fun _ => fun
  | [d1, d2, d3] => { results := [.lit (.bool true)], args := [d1, d2, d3] }
  | _ => none }
def fnExactAddOutRow : OpenClaim := { program := "ytanlbdkggocdiaa", sum := "de33e3b3a31b686cd31ad4ea10392a398d910a4d4c58bc03533d6c214dc6c5eb", func := "loop.example/g00877/laws.FnExactAddOut", spec := "fnExactAddOut", unfollowed := true, recurses := true, apart := false }
def FnExactAddOutSaid : Prop := fnExactAddOutRow.holds Try.pinned (OpenSpec.ofChange fnExactAddOutSpec)

/-- ITS FALSE NEIGHBOUR: 'it returns false'. Refute it at one input. -/
def fnExactAddOutWrong : ChangeSpec := { name := "fnExactAddOut", fn := fun _ => fun
  | [d1, d2, d3] => { results := [.lit (.bool false)], args := [d1, d2, d3] }
  | _ => none }
def FnExactAddOutWrongFalsely : Prop := fnExactAddOutRow.holds Try.pinned (OpenSpec.ofChange fnExactAddOutWrong)

/-- 'laws.FnExactAreEqual': WHATEVER THE INPUT: true; the input reads as it did. -/
def fnExactAreEqualSpec : ChangeSpec := { name := "fnExactAreEqual", fn := fun _ => fun
  | [d1, d2] => { results := [.lit (.bool true)], args := [d1, d2] }
  | _ => none }
def fnExactAreEqualRow : OpenClaim := { program := "ytanlbdkggocdiaa", sum := "de33e3b3a31b686cd31ad4ea10392a398d910a4d4c58bc03533d6c214dc6c5eb", func := "loop.example/g00877/laws.FnExactAreEqual", spec := "fnExactAreEqual", unfollowed := true, recurses := true, apart := false }
def FnExactAreEqualSaid : Prop := fnExactAreEqualRow.holds Try.pinned (OpenSpec.ofChange fnExactAreEqualSpec)

/-- ITS FALSE NEIGHBOUR: 'it returns false'. Refute it at one input. -/
def fnExactAreEqualWrong : ChangeSpec := { name := "fnExactAreEqual", fn := fun _ => fun
  | [d1, d2] => { results := [.lit (.bool false)], args := [d1, d2] }
  | _ => none }
def FnExactAreEqualWrongFalsely : Prop := fnExactAreEqualRow.holds Try.pinned (OpenSpec.ofChange fnExactAreEqualWrong)

/-- 'laws.FnExactFirstUnequal': WHATEVER THE INPUT: true; the input reads as it did. -/
def fnExactFirstUnequalSpec : ChangeSpec := { name := "fnExactFirstUnequal", fn := fun _ => fun
  | [d1, d2] => { results := [.lit (.bool true)], args := [d1, d2] }
  | _ => none }
def fnExactFirstUnequalRow : OpenClaim := { program := "ytanlbdkggocdiaa", sum := "de33e3b3a31b686cd31ad4ea10392a398d910a4d4c58bc03533d6c214dc6c5eb", func := "loop.example/g00877/laws.FnExactFirstUnequal", spec := "fnExactFirstUnequal", unfollowed := true, recurses := true, apart := false }
def FnExactFirstUnequalSaid : Prop := fnExactFirstUnequalRow.holds Try.pinned (OpenSpec.ofChange fnExactFirstUnequalSpec)

/-- ITS FALSE NEIGHBOUR: 'it returns false'. Refute it at one input. -/
def fnExactFirstUnequalWrong : ChangeSpec := { name := "fnExactFirstUnequal", fn := fun _ => fun
  | [d1, d2] => { results := [.lit (.bool false)], args := [d1, d2] }
  | _ => none }
def FnExactFirstUnequalWrongFalsely : Prop := fnExactFirstUnequalRow.holds Try.pinned (OpenSpec.ofChange fnExactFirstUnequalWrong)

/-- 'laws.FnExactEvalArith': WHATEVER THE INPUT: true; the input reads as it did. -/
def fnExactEvalArithSpec : ChangeSpec := { name := "fnExactEvalArith", fn := fun _ => fun
  | [d1, d2, d3] => { results := [.lit (.bool true)], args := [d1, d2, d3] }
  | _ => none }
def fnExactEvalArithRow : OpenClaim := { program := "ytanlbdkggocdiaa", sum := "de33e3b3a31b686cd31ad4ea10392a398d910a4d4c58bc03533d6c214dc6c5eb", func := "loop.example/g00877/laws.FnExactEvalArith", spec := "fnExactEvalArith", unfollowed := true, recurses := true, apart := false }
def FnExactEvalArithSaid : Prop := fnExactEvalArithRow.holds Try.pinned (OpenSpec.ofChange fnExactEvalArithSpec)

/-- ITS FALSE NEIGHBOUR: 'it returns false'. Refute it at one input. -/
def fnExactEvalArithWrong : ChangeSpec := { name := "fnExactEvalArith", fn := fun _ => fun
  | [d1, d2, d3] => { results := [.lit (.bool false)], args := [d1, d2, d3] }
  | _ => none }
def FnExactEvalArithWrongFalsely : Prop := fnExactEvalArithRow.holds Try.pinned (OpenSpec.ofChange fnExactEvalArithWrong)

/-- 'laws.FnExactMergeGates': WHATEVER THE INPUT: true; the input reads as it did. -/
def fnExactMergeGatesSpec : ChangeSpec := { name := "fnExactMergeGates", fn := fun _ => fun
  | [d] => { results := [.lit (.bool true)], args := [d] }
  | _ => none }
def fnExactMergeGatesRow : OpenClaim := { program := "ytanlbdkggocdiaa", sum := "de33e3b3a31b686cd31ad4ea10392a398d910a4d4c58bc03533d6c214dc6c5eb", func := "loop.example/g00877/laws.FnExactMergeGates", spec := "fnExactMergeGates", unfollowed := true, recurses := true, apart := false }
def FnExactMergeGatesSaid : Prop := fnExactMergeGatesRow.holds Try.pinned (OpenSpec.ofChange fnExactMergeGatesSpec)

/-- ITS FALSE NEIGHBOUR: 'it returns false'. Refute it at one input. -/
def fnExactMergeGatesWrong : ChangeSpec := { name := "fnExactMergeGates", fn := fun _ => fun
  | [d] => { results := [.lit (.bool false)], args := [d] }
  | _ => none }
def FnExactMergeGatesWrongFalsely : Prop := fnExactMergeGatesRow.holds Try.pinned (OpenSpec.ofChange fnExactMergeGatesWrong)

/-- 'laws.FnExactTruthTable': WHATEVER THE INPUT: true; the input reads as it did. -/
def fnExactTruthTableSpec : ChangeSpec := { name := "fnExactTruthTable", fn := fun _ => fun
  | [d] => { results := [.lit (.bool true)], args := [d] }
  | _ => none }
def fnExactTruthTableRow : OpenClaim := { program := "ytanlbdkggocdiaa", sum := "de33e3b3a31b686cd31ad4ea10392a398d910a4d4c58bc03533d6c214dc6c5eb", func := "loop.example/g00877/laws.FnExactTruthTable", spec := "fnExactTruthTable", unfollowed := true, recurses := true, apart := false }
def FnExactTruthTableSaid : Prop := fnExactTruthTableRow.holds Try.pinned (OpenSpec.ofChange fnExactTruthTableSpec)

/-- ITS FALSE NEIGHBOUR: 'it returns false'. Refute it at one input. -/
def fnExactTruthTableWrong : ChangeSpec := { name := "fnExactTruthTable", fn := fun _ => fun
  | [d] => { results := [.lit (.bool false)], args := [d] }
  | _ => none }
def FnExactTruthTableWrongFalsely : Prop := fnExactTruthTableRow.holds Try.pinned (OpenSpec.ofChange fnExactTruthTableWrong)

/-- 'laws.FnExactThenCircuit': WHATEVER THE INPUT: true; the input reads as it did. -/
def fnExactThenCircuitSpec : ChangeSpec := { name := "fnExactThenCircuit", fn := fun _ => fun
  | [d1, d2] => { results := [.lit (.bool true)], args := [d1, d2] }
  | _ => none }
def fnExactThenCircuitRow : OpenClaim := { program := "ytanlbdkggocdiaa", sum := "de33e3b3a31b686cd31ad4ea10392a398d910a4d4c58bc03533d6c214dc6c5eb", func := "loop.example/g00877/laws.FnExactThenCircuit", spec := "fnExactThenCircuit", unfollowed := true, recurses := true, apart := false }
def FnExactThenCircuitSaid : Prop := fnExactThenCircuitRow.holds Try.pinned (OpenSpec.ofChange fnExactThenCircuitSpec)

/-- ITS FALSE NEIGHBOUR: 'it returns false'. Refute it at one input. -/
def fnExactThenCircuitWrong : ChangeSpec := { name := "fnExactThenCircuit", fn := fun _ => fun
  | [d1, d2] => { results := [.lit (.bool false)], args := [d1, d2] }
  | _ => none }
def FnExactThenCircuitWrongFalsely : Prop := fnExactThenCircuitRow.holds Try.pinned (OpenSpec.ofChange fnExactThenCircuitWrong)

/-- 'laws.FnExactCountInputs': WHATEVER THE INPUT: true; the input reads as it did. -/
def fnExactCountInputsSpec : ChangeSpec := { name := "fnExactCountInputs", fn := fun _ => fun
  | [d1, d2] => { results := [.lit (.bool true)], args := [d1, d2] }
  | _ => none }
def fnExactCountInputsRow : OpenClaim := { program := "ytanlbdkggocdiaa", sum := "de33e3b3a31b686cd31ad4ea10392a398d910a4d4c58bc03533d6c214dc6c5eb", func := "loop.example/g00877/laws.FnExactCountInputs", spec := "fnExactCountInputs", unfollowed := true, recurses := true, apart := false }
def FnExactCountInputsSaid : Prop := fnExactCountInputsRow.holds Try.pinned (OpenSpec.ofChange fnExactCountInputsSpec)

/-- ITS FALSE NEIGHBOUR: 'it returns false'. Refute it at one input. -/
def fnExactCountInputsWrong : ChangeSpec := { name := "fnExactCountInputs", fn := fun _ => fun
  | [d1, d2] => { results := [.lit (.bool false)], args := [d1, d2] }
  | _ => none }
def FnExactCountInputsWrongFalsely : Prop := fnExactCountInputsRow.holds Try.pinned (OpenSpec.ofChange fnExactCountInputsWrong)

/-- 'laws.FnExactConstantWires': WHATEVER THE INPUT: true; the input reads as it did. -/
def fnExactConstantWiresSpec : ChangeSpec := { name := "fnExactConstantWires", fn := fun _ => fun
  | [d] => { results := [.lit (.bool true)], args := [d] }
  | _ => none }
def fnExactConstantWiresRow : OpenClaim := { program := "ytanlbdkggocdiaa", sum := "de33e3b3a31b686cd31ad4ea10392a398d910a4d4c58bc03533d6c214dc6c5eb", func := "loop.example/g00877/laws.FnExactConstantWires", spec := "fnExactConstantWires", unfollowed := true, recurses := true, apart := false }
def FnExactConstantWiresSaid : Prop := fnExactConstantWiresRow.holds Try.pinned (OpenSpec.ofChange fnExactConstantWiresSpec)

/-- ITS FALSE NEIGHBOUR: 'it returns false'. Refute it at one input. -/
def fnExactConstantWiresWrong : ChangeSpec := { name := "fnExactConstantWires", fn := fun _ => fun
  | [d] => { results := [.lit (.bool false)], args := [d] }
  | _ => none }
def FnExactConstantWiresWrongFalsely : Prop := fnExactConstantWiresRow.holds Try.pinned (OpenSpec.ofChange fnExactConstantWiresWrong)

/-- 'laws.FnExactBesideCircuit': WHATEVER THE INPUT: true; the input reads as it did. -/
def fnExactBesideCircuitSpec : ChangeSpec := { name := "fnExactBesideCircuit", fn := fun _ => fun
  | [d1, d2] => { results := [.lit (.bool true)], args := [d1, d2] }
  | _ => none }
def fnExactBesideCircuitRow : OpenClaim := { program := "ytanlbdkggocdiaa", sum := "de33e3b3a31b686cd31ad4ea10392a398d910a4d4c58bc03533d6c214dc6c5eb", func := "loop.example/g00877/laws.FnExactBesideCircuit", spec := "fnExactBesideCircuit", unfollowed := true, recurses := true, apart := false }
def FnExactBesideCircuitSaid : Prop := fnExactBesideCircuitRow.holds Try.pinned (OpenSpec.ofChange fnExactBesideCircuitSpec)

/-- ITS FALSE NEIGHBOUR: 'it returns false'. Refute it at one input. -/
def fnExactBesideCircuitWrong : ChangeSpec := { name := "fnExactBesideCircuit", fn := fun _ => fun
  | [d1, d2] => { results := [.lit (.bool false)], args := [d1, d2] }
  | _ => none }
def FnExactBesideCircuitWrongFalsely : Prop := fnExactBesideCircuitRow.holds Try.pinned (OpenSpec.ofChange fnExactBesideCircuitWrong)

/-- 'laws.FnExactDependsOn': WHATEVER THE INPUT: true; the input reads as it did. -/
def fnExactDependsOnSpec : ChangeSpec := { name := "fnExactDependsOn", fn := fun _ => fun
  | [d1, d2] => { results := [.lit (.bool true)], args := [d1, d2] }
  | _ => none }
def fnExactDependsOnRow : OpenClaim := { program := "ytanlbdkggocdiaa", sum := "de33e3b3a31b686cd31ad4ea10392a398d910a4d4c58bc03533d6c214dc6c5eb", func := "loop.example/g00877/laws.FnExactDependsOn", spec := "fnExactDependsOn", unfollowed := true, recurses := true, apart := false }
def FnExactDependsOnSaid : Prop := fnExactDependsOnRow.holds Try.pinned (OpenSpec.ofChange fnExactDependsOnSpec)

/-- ITS FALSE NEIGHBOUR: 'it returns false'. Refute it at one input. -/
def fnExactDependsOnWrong : ChangeSpec := { name := "fnExactDependsOn", fn := fun _ => fun
  | [d1, d2] => { results := [.lit (.bool false)], args := [d1, d2] }
  | _ => none }
def FnExactDependsOnWrongFalsely : Prop := fnExactDependsOnRow.holds Try.pinned (OpenSpec.ofChange fnExactDependsOnWrong)

/-- 'laws.FnExactEqualOuts': WHATEVER THE INPUT: true; the input reads as it did. -/
def fnExactEqualOutsSpec : ChangeSpec := { name := "fnExactEqualOuts", fn := fun _ => fun
  | [d] => { results := [.lit (.bool true)], args := [d] }
  | _ => none }
def fnExactEqualOutsRow : OpenClaim := { program := "ytanlbdkggocdiaa", sum := "de33e3b3a31b686cd31ad4ea10392a398d910a4d4c58bc03533d6c214dc6c5eb", func := "loop.example/g00877/laws.FnExactEqualOuts", spec := "fnExactEqualOuts", unfollowed := true, recurses := true, apart := false }
def FnExactEqualOutsSaid : Prop := fnExactEqualOutsRow.holds Try.pinned (OpenSpec.ofChange fnExactEqualOutsSpec)

/-- ITS FALSE NEIGHBOUR: 'it returns false'. Refute it at one input. -/
def fnExactEqualOutsWrong : ChangeSpec := { name := "fnExactEqualOuts", fn := fun _ => fun
  | [d] => { results := [.lit (.bool false)], args := [d] }
  | _ => none }
def FnExactEqualOutsWrongFalsely : Prop := fnExactEqualOutsRow.holds Try.pinned (OpenSpec.ofChange fnExactEqualOutsWrong)

/-- 'laws.FnExactDegreesOf': WHATEVER THE INPUT: true; the input reads as it did. -/
def fnExactDegreesOfSpec : ChangeSpec := { name := "fnExactDegreesOf", fn := fun _ => fun
  | [d] => { results := [.lit (.bool true)], args := [d] }
  | _ => none }
def fnExactDegreesOfRow : OpenClaim := { program := "ytanlbdkggocdiaa", sum := "de33e3b3a31b686cd31ad4ea10392a398d910a4d4c58bc03533d6c214dc6c5eb", func := "loop.example/g00877/laws.FnExactDegreesOf", spec := "fnExactDegreesOf", unfollowed := true, recurses := true, apart := false }
def FnExactDegreesOfSaid : Prop := fnExactDegreesOfRow.holds Try.pinned (OpenSpec.ofChange fnExactDegreesOfSpec)

/-- ITS FALSE NEIGHBOUR: 'it returns false'. Refute it at one input. -/
def fnExactDegreesOfWrong : ChangeSpec := { name := "fnExactDegreesOf", fn := fun _ => fun
  | [d] => { results := [.lit (.bool false)], args := [d] }
  | _ => none }
def FnExactDegreesOfWrongFalsely : Prop := fnExactDegreesOfRow.holds Try.pinned (OpenSpec.ofChange fnExactDegreesOfWrong)

/-- 'laws.FnExactDropDead': WHATEVER THE INPUT: true; the input reads as it did. -/
def fnExactDropDeadSpec : ChangeSpec := { name := "fnExactDropDead", fn := fun _ => fun
  | [d] => { results := [.lit (.bool true)], args := [d] }
  | _ => none }
def fnExactDropDeadRow : OpenClaim := { program := "ytanlbdkggocdiaa", sum := "de33e3b3a31b686cd31ad4ea10392a398d910a4d4c58bc03533d6c214dc6c5eb", func := "loop.example/g00877/laws.FnExactDropDead", spec := "fnExactDropDead", unfollowed := true, recurses := true, apart := false }
def FnExactDropDeadSaid : Prop := fnExactDropDeadRow.holds Try.pinned (OpenSpec.ofChange fnExactDropDeadSpec)

/-- ITS FALSE NEIGHBOUR: 'it returns false'. Refute it at one input. -/
def fnExactDropDeadWrong : ChangeSpec := { name := "fnExactDropDead", fn := fun _ => fun
  | [d] => { results := [.lit (.bool false)], args := [d] }
  | _ => none }
def FnExactDropDeadWrongFalsely : Prop := fnExactDropDeadRow.holds Try.pinned (OpenSpec.ofChange fnExactDropDeadWrong)

/-- 'laws.FnExactLinearForm': WHATEVER THE INPUT: true; the input reads as it did. -/
def fnExactLinearFormSpec : ChangeSpec := { name := "fnExactLinearForm", fn := fun _ => fun
  | [d1, d2] => { results := [.lit (.bool true)], args := [d1, d2] }
  | _ => none }
def fnExactLinearFormRow : OpenClaim := { program := "ytanlbdkggocdiaa", sum := "de33e3b3a31b686cd31ad4ea10392a398d910a4d4c58bc03533d6c214dc6c5eb", func := "loop.example/g00877/laws.FnExactLinearForm", spec := "fnExactLinearForm", unfollowed := true, recurses := true, apart := false }
def FnExactLinearFormSaid : Prop := fnExactLinearFormRow.holds Try.pinned (OpenSpec.ofChange fnExactLinearFormSpec)

/-- ITS FALSE NEIGHBOUR: 'it returns false'. Refute it at one input. -/
def fnExactLinearFormWrong : ChangeSpec := { name := "fnExactLinearForm", fn := fun _ => fun
  | [d1, d2] => { results := [.lit (.bool false)], args := [d1, d2] }
  | _ => none }
def FnExactLinearFormWrongFalsely : Prop := fnExactLinearFormRow.holds Try.pinned (OpenSpec.ofChange fnExactLinearFormWrong)

/- THE SECOND FORM. 'bulk': how many values and letters a reading holds, each counted each time it is reached (what is shared counts as often as it is met; a slice's spare places count too). A statement '..UptoSaid' is the law's where the arguments, and the package variables that the reading takes, are together of bulk at most 1048576: NARROWER than '..Said'. Prove '..Said' where nothing that the law and all that it calls make is longer than what came in: it says more and counts as full. Else prove '..UptoSaid'. A law counts once. -/
mutual
def uptoBulk {H : Type} : DataW H → Nat
  | .lit (.string bytes) => bytes.length + 1
  | .lit _ => 1
  | .nil => 1
  | .ptr d => uptoBulk d + 1
  | .slice elems spare => uptoBulkAll elems + uptoBulkAll spare + 1
  | .agg parts => uptoBulkAll parts + 1
  | .iface _ d => uptoBulk d + 1
  | .map entries => uptoBulkEntries entries + 1
  | .held _ => 1
def uptoBulkAll {H : Type} : List (DataW H) → Nat
  | [] => 0
  | d :: r => uptoBulk d + uptoBulkAll r
def uptoBulkEntries {H : Type} : List (Lit × DataW H) → Nat
  | [] => 0
  | x :: r => uptoBulkEntry x + uptoBulkEntries r
def uptoBulkEntry {H : Type} : Lit × DataW H → Nat
  | (.string bytes, d) => bytes.length + uptoBulk d + 1
  | (_, d) => uptoBulk d + 1
 end
def uptoSmall : (H : Type) → List (DataW H) → Bool := fun _ ds => decide (uptoBulkAll ds ≤ 1048576)
def OpenSpec.upto (s : _root_.Go.ChangeSpec) : _root_.Go.OpenSpec := { _root_.Go.OpenSpec.ofChange s with cond := some uptoSmall }

/-- 'laws.FnExactArithValues', WHERE WHAT IT READS IS OF BULK AT MOST 1048576: true; the input reads as it did. -/
def fnExactArithValuesUptoRow : OpenClaim := { program := "ytanlbdkggocdiaa", sum := "de33e3b3a31b686cd31ad4ea10392a398d910a4d4c58bc03533d6c214dc6c5eb", func := "loop.example/g00877/laws.FnExactArithValues", spec := "fnExactArithValues", unfollowed := true, recurses := true, apart := false, narrowed := true }
def FnExactArithValuesUptoSaid : Prop := fnExactArithValuesUptoRow.holds Try.pinned (OpenSpec.upto fnExactArithValuesSpec)

/-- 'laws.FnExactOnesOf', WHERE WHAT IT READS IS OF BULK AT MOST 1048576: true; the input reads as it did. -/
def fnExactOnesOfUptoRow : OpenClaim := { program := "ytanlbdkggocdiaa", sum := "de33e3b3a31b686cd31ad4ea10392a398d910a4d4c58bc03533d6c214dc6c5eb", func := "loop.example/g00877/laws.FnExactOnesOf", spec := "fnExactOnesOf", unfollowed := true, recurses := true, apart := false, narrowed := true }
def FnExactOnesOfUptoSaid : Prop := fnExactOnesOfUptoRow.holds Try.pinned (OpenSpec.upto fnExactOnesOfSpec)

/-- 'laws.FnExactAddOut', WHERE WHAT IT READS IS OF BULK AT MOST 1048576: true; the input reads as it did. -/
def fnExactAddOutUptoRow : OpenClaim := { program := "ytanlbdkggocdiaa", sum := "de33e3b3a31b686cd31ad4ea10392a398d910a4d4c58bc03533d6c214dc6c5eb", func := "loop.example/g00877/laws.FnExactAddOut", spec := "fnExactAddOut", unfollowed := true, recurses := true, apart := false, narrowed := true }
def FnExactAddOutUptoSaid : Prop := fnExactAddOutUptoRow.holds Try.pinned (OpenSpec.upto fnExactAddOutSpec)

/-- 'laws.FnExactAreEqual', WHERE WHAT IT READS IS OF BULK AT MOST 1048576: true; the input reads as it did. -/
def fnExactAreEqualUptoRow : OpenClaim := { program := "ytanlbdkggocdiaa", sum := "de33e3b3a31b686cd31ad4ea10392a398d910a4d4c58bc03533d6c214dc6c5eb", func := "loop.example/g00877/laws.FnExactAreEqual", spec := "fnExactAreEqual", unfollowed := true, recurses := true, apart := false, narrowed := true }
def FnExactAreEqualUptoSaid : Prop := fnExactAreEqualUptoRow.holds Try.pinned (OpenSpec.upto fnExactAreEqualSpec)

/-- 'laws.FnExactFirstUnequal', WHERE WHAT IT READS IS OF BULK AT MOST 1048576: true; the input reads as it did. -/
def fnExactFirstUnequalUptoRow : OpenClaim := { program := "ytanlbdkggocdiaa", sum := "de33e3b3a31b686cd31ad4ea10392a398d910a4d4c58bc03533d6c214dc6c5eb", func := "loop.example/g00877/laws.FnExactFirstUnequal", spec := "fnExactFirstUnequal", unfollowed := true, recurses := true, apart := false, narrowed := true }
def FnExactFirstUnequalUptoSaid : Prop := fnExactFirstUnequalUptoRow.holds Try.pinned (OpenSpec.upto fnExactFirstUnequalSpec)

/-- 'laws.FnExactEvalArith', WHERE WHAT IT READS IS OF BULK AT MOST 1048576: true; the input reads as it did. -/
def fnExactEvalArithUptoRow : OpenClaim := { program := "ytanlbdkggocdiaa", sum := "de33e3b3a31b686cd31ad4ea10392a398d910a4d4c58bc03533d6c214dc6c5eb", func := "loop.example/g00877/laws.FnExactEvalArith", spec := "fnExactEvalArith", unfollowed := true, recurses := true, apart := false, narrowed := true }
def FnExactEvalArithUptoSaid : Prop := fnExactEvalArithUptoRow.holds Try.pinned (OpenSpec.upto fnExactEvalArithSpec)

/-- 'laws.FnExactMergeGates', WHERE WHAT IT READS IS OF BULK AT MOST 1048576: true; the input reads as it did. -/
def fnExactMergeGatesUptoRow : OpenClaim := { program := "ytanlbdkggocdiaa", sum := "de33e3b3a31b686cd31ad4ea10392a398d910a4d4c58bc03533d6c214dc6c5eb", func := "loop.example/g00877/laws.FnExactMergeGates", spec := "fnExactMergeGates", unfollowed := true, recurses := true, apart := false, narrowed := true }
def FnExactMergeGatesUptoSaid : Prop := fnExactMergeGatesUptoRow.holds Try.pinned (OpenSpec.upto fnExactMergeGatesSpec)

/-- 'laws.FnExactTruthTable', WHERE WHAT IT READS IS OF BULK AT MOST 1048576: true; the input reads as it did. -/
def fnExactTruthTableUptoRow : OpenClaim := { program := "ytanlbdkggocdiaa", sum := "de33e3b3a31b686cd31ad4ea10392a398d910a4d4c58bc03533d6c214dc6c5eb", func := "loop.example/g00877/laws.FnExactTruthTable", spec := "fnExactTruthTable", unfollowed := true, recurses := true, apart := false, narrowed := true }
def FnExactTruthTableUptoSaid : Prop := fnExactTruthTableUptoRow.holds Try.pinned (OpenSpec.upto fnExactTruthTableSpec)

/-- 'laws.FnExactThenCircuit', WHERE WHAT IT READS IS OF BULK AT MOST 1048576: true; the input reads as it did. -/
def fnExactThenCircuitUptoRow : OpenClaim := { program := "ytanlbdkggocdiaa", sum := "de33e3b3a31b686cd31ad4ea10392a398d910a4d4c58bc03533d6c214dc6c5eb", func := "loop.example/g00877/laws.FnExactThenCircuit", spec := "fnExactThenCircuit", unfollowed := true, recurses := true, apart := false, narrowed := true }
def FnExactThenCircuitUptoSaid : Prop := fnExactThenCircuitUptoRow.holds Try.pinned (OpenSpec.upto fnExactThenCircuitSpec)

/-- 'laws.FnExactCountInputs', WHERE WHAT IT READS IS OF BULK AT MOST 1048576: true; the input reads as it did. -/
def fnExactCountInputsUptoRow : OpenClaim := { program := "ytanlbdkggocdiaa", sum := "de33e3b3a31b686cd31ad4ea10392a398d910a4d4c58bc03533d6c214dc6c5eb", func := "loop.example/g00877/laws.FnExactCountInputs", spec := "fnExactCountInputs", unfollowed := true, recurses := true, apart := false, narrowed := true }
def FnExactCountInputsUptoSaid : Prop := fnExactCountInputsUptoRow.holds Try.pinned (OpenSpec.upto fnExactCountInputsSpec)

/-- 'laws.FnExactConstantWires', WHERE WHAT IT READS IS OF BULK AT MOST 1048576: true; the input reads as it did. -/
def fnExactConstantWiresUptoRow : OpenClaim := { program := "ytanlbdkggocdiaa", sum := "de33e3b3a31b686cd31ad4ea10392a398d910a4d4c58bc03533d6c214dc6c5eb", func := "loop.example/g00877/laws.FnExactConstantWires", spec := "fnExactConstantWires", unfollowed := true, recurses := true, apart := false, narrowed := true }
def FnExactConstantWiresUptoSaid : Prop := fnExactConstantWiresUptoRow.holds Try.pinned (OpenSpec.upto fnExactConstantWiresSpec)

/-- 'laws.FnExactBesideCircuit', WHERE WHAT IT READS IS OF BULK AT MOST 1048576: true; the input reads as it did. -/
def fnExactBesideCircuitUptoRow : OpenClaim := { program := "ytanlbdkggocdiaa", sum := "de33e3b3a31b686cd31ad4ea10392a398d910a4d4c58bc03533d6c214dc6c5eb", func := "loop.example/g00877/laws.FnExactBesideCircuit", spec := "fnExactBesideCircuit", unfollowed := true, recurses := true, apart := false, narrowed := true }
def FnExactBesideCircuitUptoSaid : Prop := fnExactBesideCircuitUptoRow.holds Try.pinned (OpenSpec.upto fnExactBesideCircuitSpec)

/-- 'laws.FnExactDependsOn', WHERE WHAT IT READS IS OF BULK AT MOST 1048576: true; the input reads as it did. -/
def fnExactDependsOnUptoRow : OpenClaim := { program := "ytanlbdkggocdiaa", sum := "de33e3b3a31b686cd31ad4ea10392a398d910a4d4c58bc03533d6c214dc6c5eb", func := "loop.example/g00877/laws.FnExactDependsOn", spec := "fnExactDependsOn", unfollowed := true, recurses := true, apart := false, narrowed := true }
def FnExactDependsOnUptoSaid : Prop := fnExactDependsOnUptoRow.holds Try.pinned (OpenSpec.upto fnExactDependsOnSpec)

/-- 'laws.FnExactEqualOuts', WHERE WHAT IT READS IS OF BULK AT MOST 1048576: true; the input reads as it did. -/
def fnExactEqualOutsUptoRow : OpenClaim := { program := "ytanlbdkggocdiaa", sum := "de33e3b3a31b686cd31ad4ea10392a398d910a4d4c58bc03533d6c214dc6c5eb", func := "loop.example/g00877/laws.FnExactEqualOuts", spec := "fnExactEqualOuts", unfollowed := true, recurses := true, apart := false, narrowed := true }
def FnExactEqualOutsUptoSaid : Prop := fnExactEqualOutsUptoRow.holds Try.pinned (OpenSpec.upto fnExactEqualOutsSpec)

/-- 'laws.FnExactDegreesOf', WHERE WHAT IT READS IS OF BULK AT MOST 1048576: true; the input reads as it did. -/
def fnExactDegreesOfUptoRow : OpenClaim := { program := "ytanlbdkggocdiaa", sum := "de33e3b3a31b686cd31ad4ea10392a398d910a4d4c58bc03533d6c214dc6c5eb", func := "loop.example/g00877/laws.FnExactDegreesOf", spec := "fnExactDegreesOf", unfollowed := true, recurses := true, apart := false, narrowed := true }
def FnExactDegreesOfUptoSaid : Prop := fnExactDegreesOfUptoRow.holds Try.pinned (OpenSpec.upto fnExactDegreesOfSpec)

/-- 'laws.FnExactDropDead', WHERE WHAT IT READS IS OF BULK AT MOST 1048576: true; the input reads as it did. -/
def fnExactDropDeadUptoRow : OpenClaim := { program := "ytanlbdkggocdiaa", sum := "de33e3b3a31b686cd31ad4ea10392a398d910a4d4c58bc03533d6c214dc6c5eb", func := "loop.example/g00877/laws.FnExactDropDead", spec := "fnExactDropDead", unfollowed := true, recurses := true, apart := false, narrowed := true }
def FnExactDropDeadUptoSaid : Prop := fnExactDropDeadUptoRow.holds Try.pinned (OpenSpec.upto fnExactDropDeadSpec)

/-- 'laws.FnExactLinearForm', WHERE WHAT IT READS IS OF BULK AT MOST 1048576: true; the input reads as it did. -/
def fnExactLinearFormUptoRow : OpenClaim := { program := "ytanlbdkggocdiaa", sum := "de33e3b3a31b686cd31ad4ea10392a398d910a4d4c58bc03533d6c214dc6c5eb", func := "loop.example/g00877/laws.FnExactLinearForm", spec := "fnExactLinearForm", unfollowed := true, recurses := true, apart := false, narrowed := true }
def FnExactLinearFormUptoSaid : Prop := fnExactLinearFormUptoRow.holds Try.pinned (OpenSpec.upto fnExactLinearFormSpec)

end Rows
end Go.Proofs.Ytanlbdkggocdiaa
