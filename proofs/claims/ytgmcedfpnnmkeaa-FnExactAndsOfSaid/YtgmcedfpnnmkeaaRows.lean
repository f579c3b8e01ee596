/-
  No cell of these rows narrows 'for every input' (looked for: loops, veiled, ifaces, maps, wideKeys, modest, calm, conditions, laid).
  DERIVED. THE GIVEN ROWS OF THIS SEAT. 17 by the template 'for every input the law returns true; each argument reads behind the call as it read before'; 0 by the template 'total and deterministic' (their statements: YtgmcedfpnnmkeaaTotals.lean).
  GIVEN WITH THE SEED: the statements are not yours to turn. If you find one false, say at which input.
  Laid BY PROGRAM, IN A SANDBOX (cutbox-rows.mjs): the forced cells as the released guide's own fill.sh prints them over the translation f8833dce8c8549af… (all of the seat's roots in one cut). By AI agents, Wed Nov 11 2026. No macro, syntax, notation, axiom, sorry.
-/
import Derived.Test.YtgmcedfpnnmkeaaChecked
import GoSem.Claim
import GoSem.ClaimJoined
import GoSem.ClaimMapViews
import Derived.JoinedTies
import Derived.KernelRfl
namespace Go.Proofs.Ytgmcedfpnnmkeaa
/- THE CELL 'sum', in the pinned program and in every row, IS THE sha256 OF THE DUMP (.gsa) THAT YtgmcedfpnnmkeaaProg.lean LOADS. Nothing in Lean hashes anything: it is a label: what it is worth is what the hold of that sum in a sandbox is worth. -/
noncomputable def Try.pinned : Pinned := { name := "ytgmcedfpnnmkeaa", sum := "f8833dce8c8549afd9a44b8eb038fbdfb43c85fd0991261428077c31d6775a10", checked := Try.checked }
namespace Rows
def none {H : Type} : Left H := { results := [], args := [] }

/-- 'laws.FnExactAddOut': WHATEVER THE INPUT: true; the input reads as it did. -/
def fnExactAddOutSpec : ChangeSpec := { name := "fnExactAddOut", fn := fun _ => fun
  | [d1, d2, d3] => { results := [.lit (.bool true)], args := [d1, d2, d3] }
  | _ => none }
def fnExactAddOutRow : OpenClaim := { program := "ytgmcedfpnnmkeaa", sum := "f8833dce8c8549afd9a44b8eb038fbdfb43c85fd0991261428077c31d6775a10", func := "loop.example/g00877/laws.FnExactAddOut", spec := "fnExactAddOut", unfollowed := true, recurses := true, apart := false }
def FnExactAddOutSaid : Prop := fnExactAddOutRow.holds Try.pinned (OpenSpec.ofChange fnExactAddOutSpec)

/-- ITS FALSE NEIGHBOUR: 'it returns false'. Refute it at one input. -/
def fnExactAddOutWrong : ChangeSpec := { name := "fnExactAddOut", fn := fun _ => fun
  | [d1, d2, d3] => { results := [.lit (.bool false)], args := [d1, d2, d3] }
  | _ => none }
def FnExactAddOutWrongFalsely : Prop := fnExactAddOutRow.holds Try.pinned (OpenSpec.ofChange fnExactAddOutWrong)

/-- 'laws.FnExactMergeGates': WHATEVER THE INPUT: true; the input reads as it did. -/
def fnExactMergeGatesSpec : ChangeSpec := { name := "fnExactMergeGates", fn := fun _ => fun
  | [d] => { results := [.lit (.bool true)], args := [d] }
  | _ => none }
def fnExactMergeGatesRow : OpenClaim := { program := "ytgmcedfpnnmkeaa", sum := "f8833dce8c8549afd9a44b8eb038fbdfb43c85fd0991261428077c31d6775a10", func := "loop.example/g00877/laws.FnExactMergeGates", spec := "fnExactMergeGates", unfollowed := true, recurses := true, apart := false }
def FnExactMergeGatesSaid : Prop := fnExactMergeGatesRow.holds Try.pinned (OpenSpec.ofChange fnExactMergeGatesSpec)

/-- ITS FALSE NEIGHBOUR: 'it returns false'. Refute it at one input. -/
def fnExactMergeGatesWrong : ChangeSpec := { name := "fnExactMergeGates", fn := fun _ => fun
  | [d] => { results := [.lit (.bool false)], args := [d] }
  | _ => none }
def FnExactMergeGatesWrongFalsely : Prop := fnExactMergeGatesRow.holds Try.pinned (OpenSpec.ofChange fnExactMergeGatesWrong)

/-- 'laws.FnExactChooseCircuit': WHATEVER THE INPUT: true; the input reads as it did. -/
def fnExactChooseCircuitSpec : ChangeSpec := { name := "fnExactChooseCircuit", fn := fun _ => fun
  | [d] => { results := [.lit (.bool true)], args := [d] }
  | _ => none }
def fnExactChooseCircuitRow : OpenClaim := { program := "ytgmcedfpnnmkeaa", sum := "f8833dce8c8549afd9a44b8eb038fbdfb43c85fd0991261428077c31d6775a10", func := "loop.example/g00877/laws.FnExactChooseCircuit", spec := "fnExactChooseCircuit", unfollowed := true, recurses := true, apart := false }
def FnExactChooseCircuitSaid : Prop := fnExactChooseCircuitRow.holds Try.pinned (OpenSpec.ofChange fnExactChooseCircuitSpec)

/-- ITS FALSE NEIGHBOUR: 'it returns false'. Refute it at one input. -/
def fnExactChooseCircuitWrong : ChangeSpec := { name := "fnExactChooseCircuit", fn := fun _ => fun
  | [d] => { results := [.lit (.bool false)], args := [d] }
  | _ => none }
def FnExactChooseCircuitWrongFalsely : Prop := fnExactChooseCircuitRow.holds Try.pinned (OpenSpec.ofChange fnExactChooseCircuitWrong)

/-- 'laws.FnExactThenCircuit': WHATEVER THE INPUT: true; the input reads as it did. -/
def fnExactThenCircuitSpec : ChangeSpec := { name := "fnExactThenCircuit", fn := fun _ => fun
  | [d1, d2] => { results := [.lit (.bool true)], args := [d1, d2] }
  | _ => none }
def fnExactThenCircuitRow : OpenClaim := { program := "ytgmcedfpnnmkeaa", sum := "f8833dce8c8549afd9a44b8eb038fbdfb43c85fd0991261428077c31d6775a10", func := "loop.example/g00877/laws.FnExactThenCircuit", spec := "fnExactThenCircuit", unfollowed := true, recurses := true, apart := false }
def FnExactThenCircuitSaid : Prop := fnExactThenCircuitRow.holds Try.pinned (OpenSpec.ofChange fnExactThenCircuitSpec)

/-- ITS FALSE NEIGHBOUR: 'it returns false'. Refute it at one input. -/
def fnExactThenCircuitWrong : ChangeSpec := { name := "fnExactThenCircuit", fn := fun _ => fun
  | [d1, d2] => { results := [.lit (.bool false)], args := [d1, d2] }
  | _ => none }
def FnExactThenCircuitWrongFalsely : Prop := fnExactThenCircuitRow.holds Try.pinned (OpenSpec.ofChange fnExactThenCircuitWrong)

/-- 'laws.FnExactEqualCircuit': WHATEVER THE INPUT: true; the input reads as it did. -/
def fnExactEqualCircuitSpec : ChangeSpec := { name := "fnExactEqualCircuit", fn := fun _ => fun
  | [d] => { results := [.lit (.bool true)], args := [d] }
  | _ => none }
def fnExactEqualCircuitRow : OpenClaim := { program := "ytgmcedfpnnmkeaa", sum := "f8833dce8c8549afd9a44b8eb038fbdfb43c85fd0991261428077c31d6775a10", func := "loop.example/g00877/laws.FnExactEqualCircuit", spec := "fnExactEqualCircuit", unfollowed := true, recurses := true, apart := false }
def FnExactEqualCircuitSaid : Prop := fnExactEqualCircuitRow.holds Try.pinned (OpenSpec.ofChange fnExactEqualCircuitSpec)

/-- ITS FALSE NEIGHBOUR: 'it returns false'. Refute it at one input. -/
def fnExactEqualCircuitWrong : ChangeSpec := { name := "fnExactEqualCircuit", fn := fun _ => fun
  | [d] => { results := [.lit (.bool false)], args := [d] }
  | _ => none }
def FnExactEqualCircuitWrongFalsely : Prop := fnExactEqualCircuitRow.holds Try.pinned (OpenSpec.ofChange fnExactEqualCircuitWrong)

/-- 'laws.FnExactAdderCircuit': WHATEVER THE INPUT: true; the input reads as it did. -/
def fnExactAdderCircuitSpec : ChangeSpec := { name := "fnExactAdderCircuit", fn := fun _ => fun
  | [d] => { results := [.lit (.bool true)], args := [d] }
  | _ => none }
def fnExactAdderCircuitRow : OpenClaim := { program := "ytgmcedfpnnmkeaa", sum := "f8833dce8c8549afd9a44b8eb038fbdfb43c85fd0991261428077c31d6775a10", func := "loop.example/g00877/laws.FnExactAdderCircuit", spec := "fnExactAdderCircuit", unfollowed := true, recurses := true, apart := false }
def FnExactAdderCircuitSaid : Prop := fnExactAdderCircuitRow.holds Try.pinned (OpenSpec.ofChange fnExactAdderCircuitSpec)

/-- ITS FALSE NEIGHBOUR: 'it returns false'. Refute it at one input. -/
def fnExactAdderCircuitWrong : ChangeSpec := { name := "fnExactAdderCircuit", fn := fun _ => fun
  | [d] => { results := [.lit (.bool false)], args := [d] }
  | _ => none }
def FnExactAdderCircuitWrongFalsely : Prop := fnExactAdderCircuitRow.holds Try.pinned (OpenSpec.ofChange fnExactAdderCircuitWrong)

/-- 'laws.FnExactLessCircuit': WHATEVER THE INPUT: true; the input reads as it did. -/
def fnExactLessCircuitSpec : ChangeSpec := { name := "fnExactLessCircuit", fn := fun _ => fun
  | [d] => { results := [.lit (.bool true)], args := [d] }
  | _ => none }
def fnExactLessCircuitRow : OpenClaim := { program := "ytgmcedfpnnmkeaa", sum := "f8833dce8c8549afd9a44b8eb038fbdfb43c85fd0991261428077c31d6775a10", func := "loop.example/g00877/laws.FnExactLessCircuit", spec := "fnExactLessCircuit", unfollowed := true, recurses := true, apart := false }
def FnExactLessCircuitSaid : Prop := fnExactLessCircuitRow.holds Try.pinned (OpenSpec.ofChange fnExactLessCircuitSpec)

/-- ITS FALSE NEIGHBOUR: 'it returns false'. Refute it at one input. -/
def fnExactLessCircuitWrong : ChangeSpec := { name := "fnExactLessCircuit", fn := fun _ => fun
  | [d] => { results := [.lit (.bool false)], args := [d] }
  | _ => none }
def FnExactLessCircuitWrongFalsely : Prop := fnExactLessCircuitRow.holds Try.pinned (OpenSpec.ofChange fnExactLessCircuitWrong)

/-- 'laws.FnExactSubtractCircuit': WHATEVER THE INPUT: true; the input reads as it did. -/
def fnExactSubtractCircuitSpec : ChangeSpec := { name := "fnExactSubtractCircuit", fn := fun _ => fun
  | [d] => { results := [.lit (.bool true)], args := [d] }
  | _ => none }
def fnExactSubtractCircuitRow : OpenClaim := { program := "ytgmcedfpnnmkeaa", sum := "f8833dce8c8549afd9a44b8eb038fbdfb43c85fd0991261428077c31d6775a10", func := "loop.example/g00877/laws.FnExactSubtractCircuit", spec := "fnExactSubtractCircuit", unfollowed := true, recurses := true, apart := false }
def FnExactSubtractCircuitSaid : Prop := fnExactSubtractCircuitRow.holds Try.pinned (OpenSpec.ofChange fnExactSubtractCircuitSpec)

/-- ITS FALSE NEIGHBOUR: 'it returns false'. Refute it at one input. -/
def fnExactSubtractCircuitWrong : ChangeSpec := { name := "fnExactSubtractCircuit", fn := fun _ => fun
  | [d] => { results := [.lit (.bool false)], args := [d] }
  | _ => none }
def FnExactSubtractCircuitWrongFalsely : Prop := fnExactSubtractCircuitRow.holds Try.pinned (OpenSpec.ofChange fnExactSubtractCircuitWrong)

/-- 'laws.FnExactBesideCircuit': WHATEVER THE INPUT: true; the input reads as it did. -/
def fnExactBesideCircuitSpec : ChangeSpec := { name := "fnExactBesideCircuit", fn := fun _ => fun
  | [d1, d2] => { results := [.lit (.bool true)], args := [d1, d2] }
  | _ => none }
def fnExactBesideCircuitRow : OpenClaim := { program := "ytgmcedfpnnmkeaa", sum := "f8833dce8c8549afd9a44b8eb038fbdfb43c85fd0991261428077c31d6775a10", func := "loop.example/g00877/laws.FnExactBesideCircuit", spec := "fnExactBesideCircuit", unfollowed := true, recurses := true, apart := false }
def FnExactBesideCircuitSaid : Prop := fnExactBesideCircuitRow.holds Try.pinned (OpenSpec.ofChange fnExactBesideCircuitSpec)

/-- ITS FALSE NEIGHBOUR: 'it returns false'. Refute it at one input. -/
def fnExactBesideCircuitWrong : ChangeSpec := { name := "fnExactBesideCircuit", fn := fun _ => fun
  | [d1, d2] => { results := [.lit (.bool false)], args := [d1, d2] }
  | _ => none }
def FnExactBesideCircuitWrongFalsely : Prop := fnExactBesideCircuitRow.holds Try.pinned (OpenSpec.ofChange fnExactBesideCircuitWrong)

/-- 'laws.FnExactGreatestCircuit': WHATEVER THE INPUT: true; the input reads as it did. -/
def fnExactGreatestCircuitSpec : ChangeSpec := { name := "fnExactGreatestCircuit", fn := fun _ => fun
  | [d] => { results := [.lit (.bool true)], args := [d] }
  | _ => none }
def fnExactGreatestCircuitRow : OpenClaim := { program := "ytgmcedfpnnmkeaa", sum := "f8833dce8c8549afd9a44b8eb038fbdfb43c85fd0991261428077c31d6775a10", func := "loop.example/g00877/laws.FnExactGreatestCircuit", spec := "fnExactGreatestCircuit", unfollowed := true, recurses := true, apart := false }
def FnExactGreatestCircuitSaid : Prop := fnExactGreatestCircuitRow.holds Try.pinned (OpenSpec.ofChange fnExactGreatestCircuitSpec)

/-- ITS FALSE NEIGHBOUR: 'it returns false'. Refute it at one input. -/
def fnExactGreatestCircuitWrong : ChangeSpec := { name := "fnExactGreatestCircuit", fn := fun _ => fun
  | [d] => { results := [.lit (.bool false)], args := [d] }
  | _ => none }
def FnExactGreatestCircuitWrongFalsely : Prop := fnExactGreatestCircuitRow.holds Try.pinned (OpenSpec.ofChange fnExactGreatestCircuitWrong)

/-- 'laws.FnExactProductCircuit': WHATEVER THE INPUT: true; the input reads as it did. -/
def fnExactProductCircuitSpec : ChangeSpec := { name := "fnExactProductCircuit", fn := fun _ => fun
  | [d] => { results := [.lit (.bool true)], args := [d] }
  | _ => none }
def fnExactProductCircuitRow : OpenClaim := { program := "ytgmcedfpnnmkeaa", sum := "f8833dce8c8549afd9a44b8eb038fbdfb43c85fd0991261428077c31d6775a10", func := "loop.example/g00877/laws.FnExactProductCircuit", spec := "fnExactProductCircuit", unfollowed := true, recurses := true, apart := false }
def FnExactProductCircuitSaid : Prop := fnExactProductCircuitRow.holds Try.pinned (OpenSpec.ofChange fnExactProductCircuitSpec)

/-- ITS FALSE NEIGHBOUR: 'it returns false'. Refute it at one input. -/
def fnExactProductCircuitWrong : ChangeSpec := { name := "fnExactProductCircuit", fn := fun _ => fun
  | [d] => { results := [.lit (.bool false)], args := [d] }
  | _ => none }
def FnExactProductCircuitWrongFalsely : Prop := fnExactProductCircuitRow.holds Try.pinned (OpenSpec.ofChange fnExactProductCircuitWrong)

/-- 'laws.FnDepends': WHATEVER THE INPUT: true; the input reads as it did. -/
def fnDependsSpec : ChangeSpec := { name := "fnDepends", fn := fun _ => fun
  | [d1, d2] => { results := [.lit (.bool true)], args := [d1, d2] }
  | _ => none }
def fnDependsRow : OpenClaim := { program := "ytgmcedfpnnmkeaa", sum := "f8833dce8c8549afd9a44b8eb038fbdfb43c85fd0991261428077c31d6775a10", func := "loop.example/g00877/laws.FnDepends", spec := "fnDepends", unfollowed := true, recurses := true, apart := false }
def FnDependsSaid : Prop := fnDependsRow.holds Try.pinned (OpenSpec.ofChange fnDependsSpec)

/-- ITS FALSE NEIGHBOUR: 'it returns false'. Refute it at one input. -/
def fnDependsWrong : ChangeSpec := { name := "fnDepends", fn := fun _ => fun
  | [d1, d2] => { results := [.lit (.bool false)], args := [d1, d2] }
  | _ => none }
def FnDependsWrongFalsely : Prop := fnDependsRow.holds Try.pinned (OpenSpec.ofChange fnDependsWrong)

/-- 'laws.FnExactAndsOf': WHATEVER THE INPUT: true; the input reads as it did. -/
def fnExactAndsOfSpec : ChangeSpec := { name := "fnExactAndsOf", fn := fun _ => fun
  | [d1, d2] => { results := [.lit (.bool true)], args := [d1, d2] }
  | _ => none }
def fnExactAndsOfRow : OpenClaim := { program := "ytgmcedfpnnmkeaa", sum := "f8833dce8c8549afd9a44b8eb038fbdfb43c85fd0991261428077c31d6775a10", func := "loop.example/g00877/laws.FnExactAndsOf", spec := "fnExactAndsOf", unfollowed := true, recurses := true, apart := false }
def FnExactAndsOfSaid : Prop := fnExactAndsOfRow.holds Try.pinned (OpenSpec.ofChange fnExactAndsOfSpec)

/-- ITS FALSE NEIGHBOUR: 'it returns false'. Refute it at one input. -/
def fnExactAndsOfWrong : ChangeSpec := { name := "fnExactAndsOf", fn := fun _ => fun
  | [d1, d2] => { results := [.lit (.bool false)], args := [d1, d2] }
  | _ => none }
def FnExactAndsOfWrongFalsely : Prop := fnExactAndsOfRow.holds Try.pinned (OpenSpec.ofChange fnExactAndsOfWrong)

/-- 'laws.FnExactDropDead': WHATEVER THE INPUT: true; the input reads as it did. -/
def fnExactDropDeadSpec : ChangeSpec := { name := "fnExactDropDead", fn := fun _ => fun
  | [d] => { results := [.lit (.bool true)], args := [d] }
  | _ => none }
def fnExactDropDeadRow : OpenClaim := { program := "ytgmcedfpnnmkeaa", sum := "f8833dce8c8549afd9a44b8eb038fbdfb43c85fd0991261428077c31d6775a10", func := "loop.example/g00877/laws.FnExactDropDead", spec := "fnExactDropDead", unfollowed := true, recurses := true, apart := false }
def FnExactDropDeadSaid : Prop := fnExactDropDeadRow.holds Try.pinned (OpenSpec.ofChange fnExactDropDeadSpec)

/-- ITS FALSE NEIGHBOUR: 'it returns false'. Refute it at one input. -/
def fnExactDropDeadWrong : ChangeSpec := { name := "fnExactDropDead", fn := fun _ => fun
  | [d] => { results := [.lit (.bool false)], args := [d] }
  | _ => none }
def FnExactDropDeadWrongFalsely : Prop := fnExactDropDeadRow.holds Try.pinned (OpenSpec.ofChange fnExactDropDeadWrong)

/-- 'laws.FnExactLinearForm': WHATEVER THE INPUT: true; the input reads as it did. -/
def fnExactLinearFormSpec : ChangeSpec := { name := "fnExactLinearForm", fn := fun _ => fun
  | [d1, d2] => { results := [.lit (.bool true)], args := [d1, d2] }
  | _ => none }
def fnExactLinearFormRow : OpenClaim := { program := "ytgmcedfpnnmkeaa", sum := "f8833dce8c8549afd9a44b8eb038fbdfb43c85fd0991261428077c31d6775a10", func := "loop.example/g00877/laws.FnExactLinearForm", spec := "fnExactLinearForm", unfollowed := true, recurses := true, apart := false }
def FnExactLinearFormSaid : Prop := fnExactLinearFormRow.holds Try.pinned (OpenSpec.ofChange fnExactLinearFormSpec)

/-- ITS FALSE NEIGHBOUR: 'it returns false'. Refute it at one input. -/
def fnExactLinearFormWrong : ChangeSpec := { name := "fnExactLinearForm", fn := fun _ => fun
  | [d1, d2] => { results := [.lit (.bool false)], args := [d1, d2] }
  | _ => none }
def FnExactLinearFormWrongFalsely : Prop := fnExactLinearFormRow.holds Try.pinned (OpenSpec.ofChange fnExactLinearFormWrong)

/-- 'laws.FnExactNetworkCircuit': WHATEVER THE INPUT: true; the input reads as it did. -/
def fnExactNetworkCircuitSpec : ChangeSpec := { name := "fnExactNetworkCircuit", fn := fun _ => fun
  | [d1, d2, d3] => { results := [.lit (.bool true)], args := [d1, d2, d3] }
  | _ => none }
def fnExactNetworkCircuitRow : OpenClaim := { program := "ytgmcedfpnnmkeaa", sum := "f8833dce8c8549afd9a44b8eb038fbdfb43c85fd0991261428077c31d6775a10", func := "loop.example/g00877/laws.FnExactNetworkCircuit", spec := "fnExactNetworkCircuit", unfollowed := true, recurses := true, apart := false }
def FnExactNetworkCircuitSaid : Prop := fnExactNetworkCircuitRow.holds Try.pinned (OpenSpec.ofChange fnExactNetworkCircuitSpec)

/-- ITS FALSE NEIGHBOUR: 'it returns false'. Refute it at one input. -/
def fnExactNetworkCircuitWrong : ChangeSpec := { name := "fnExactNetworkCircuit", fn := fun _ => fun
  | [d1, d2, d3] => { results := [.lit (.bool false)], args := [d1, d2, d3] }
  | _ => none }
def FnExactNetworkCircuitWrongFalsely : Prop := fnExactNetworkCircuitRow.holds Try.pinned (OpenSpec.ofChange fnExactNetworkCircuitWrong)

/-- 'laws.FnExactSimplifyCircuit': WHATEVER THE INPUT: true; the input reads as it did. -/
def fnExactSimplifyCircuitSpec : ChangeSpec := { name := "fnExactSimplifyCircuit", fn := fun _ => fun
  | [d] => { results := [.lit (.bool true)], args := [d] }
  | _ => none }
def fnExactSimplifyCircuitRow : OpenClaim := { program := "ytgmcedfpnnmkeaa", sum := "f8833dce8c8549afd9a44b8eb038fbdfb43c85fd0991261428077c31d6775a10", func := "loop.example/g00877/laws.FnExactSimplifyCircuit", spec := "fnExactSimplifyCircuit", unfollowed := true, recurses := true, apart := false }
def FnExactSimplifyCircuitSaid : Prop := fnExactSimplifyCircuitRow.holds Try.pinned (OpenSpec.ofChange fnExactSimplifyCircuitSpec)

/-- ITS FALSE NEIGHBOUR: 'it returns false'. Refute it at one input. -/
def fnExactSimplifyCircuitWrong : ChangeSpec := { name := "fnExactSimplifyCircuit", fn := fun _ => fun
  | [d] => { results := [.lit (.bool false)], args := [d] }
  | _ => none }
def FnExactSimplifyCircuitWrongFalsely : Prop := fnExactSimplifyCircuitRow.holds Try.pinned (OpenSpec.ofChange fnExactSimplifyCircuitWrong)

/- THE SECOND FORM. 'bulk': how many values and letters a reading holds, each counted each time it is reached (what is shared counts as often as it is met; a slice's spare places count too). A statement '..UptoSaid' is the law's where the arguments, and the package variables that the reading takes, are together of bulk at most 1048576: NARROWER than '..Said'. Prove '..Said' where nothing that the law and all that it calls make is longer than what came in: it says more and counts as full. Else prove '..UptoSaid'. A law counts once. -/
mutual
def uptoBulk {H : Type} : DataW H → Nat
  | .lit (.string bytes) => bytes.length + 1
  | .lit _ => 1
  | .nil => 1
  | .ptr d => uptoBulk d + 1
  | .slice elems spare => uptoBulkAll elems + uptoBulkAll spare + 1
  | .agg parts => uptoBulkAll parts + 1
  | .iface _ d => uptoBulk d + 1
  | .map entries => uptoBulkEntries entries + 1
  | .held _ => 1
def uptoBulkAll {H : Type} : List (DataW H) → Nat
  | [] => 0
  | d :: r => uptoBulk d + uptoBulkAll r
def uptoBulkEntries {H : Type} : List (Lit × DataW H) → Nat
  | [] => 0
  | x :: r => uptoBulkEntry x + uptoBulkEntries r
def uptoBulkEntry {H : Type} : Lit × DataW H → Nat
  | (.string bytes, d) => bytes.length + uptoBulk d + 1
  | (_, d) => uptoBulk d + 1
 end
def uptoSmall : (H : Type) → List (DataW H) → Bool := fun _ ds => decide (uptoBulkAll ds ≤ 1048576)
def OpenSpec.upto (s : _root_.Go.ChangeSpec) : _root_.Go.OpenSpec := { _root_.Go.OpenSpec.ofChange s with cond := some uptoSmall }

/-- 'laws.FnExactAddOut', WHERE WHAT IT READS IS OF BULK AT MOST 1048576: true; the input reads as it did. -/
def fnExactAddOutUptoRow : OpenClaim := { program := "ytgmcedfpnnmkeaa", sum := "f8833dce8c8549afd9a44b8eb038fbdfb43c85fd0991261428077c31d6775a10", func := "loop.example/g00877/laws.FnExactAddOut", spec := "fnExactAddOut", unfollowed := true, recurses := true, apart := false, narrowed := true }
def FnExactAddOutUptoSaid : Prop := fnExactAddOutUptoRow.holds Try.pinned (OpenSpec.upto fnExactAddOutSpec)

/-- 'laws.FnExactMergeGates', WHERE WHAT IT READS IS OF BULK AT MOST 1048576: true; the input reads as it did. -/
def fnExactMergeGatesUptoRow : OpenClaim := { program := "ytgmcedfpnnmkeaa", sum := "f8833dce8c8549afd9a44b8eb038fbdfb43c85fd0991261428077c31d6775a10", func := "loop.example/g00877/laws.FnExactMergeGates", spec := "fnExactMergeGates", unfollowed := true, recurses := true, apart := false, narrowed := true }
def FnExactMergeGatesUptoSaid : Prop := fnExactMergeGatesUptoRow.holds Try.pinned (OpenSpec.upto fnExactMergeGatesSpec)

/-- 'laws.FnExactChooseCircuit', WHERE WHAT IT READS IS OF BULK AT MOST 1048576: true; the input reads as it did. -/
def fnExactChooseCircuitUptoRow : OpenClaim := { program := "ytgmcedfpnnmkeaa", sum := "f8833dce8c8549afd9a44b8eb038fbdfb43c85fd0991261428077c31d6775a10", func := "loop.example/g00877/laws.FnExactChooseCircuit", spec := "fnExactChooseCircuit", unfollowed := true, recurses := true, apart := false, narrowed := true }
def FnExactChooseCircuitUptoSaid : Prop := fnExactChooseCircuitUptoRow.holds Try.pinned (OpenSpec.upto fnExactChooseCircuitSpec)

/-- 'laws.FnExactThenCircuit', WHERE WHAT IT READS IS OF BULK AT MOST 1048576: true; the input reads as it did. -/
def fnExactThenCircuitUptoRow : OpenClaim := { program := "ytgmcedfpnnmkeaa", sum := "f8833dce8c8549afd9a44b8eb038fbdfb43c85fd0991261428077c31d6775a10", func := "loop.example/g00877/laws.FnExactThenCircuit", spec := "fnExactThenCircuit", unfollowed := true, recurses := true, apart := false, narrowed := true }
def FnExactThenCircuitUptoSaid : Prop := fnExactThenCircuitUptoRow.holds Try.pinned (OpenSpec.upto fnExactThenCircuitSpec)

/-- 'laws.FnExactEqualCircuit', WHERE WHAT IT READS IS OF BULK AT MOST 1048576: true; the input reads as it did. -/
def fnExactEqualCircuitUptoRow : OpenClaim := { program := "ytgmcedfpnnmkeaa", sum := "f8833dce8c8549afd9a44b8eb038fbdfb43c85fd0991261428077c31d6775a10", func := "loop.example/g00877/laws.FnExactEqualCircuit", spec := "fnExactEqualCircuit", unfollowed := true, recurses := true, apart := false, narrowed := true }
def FnExactEqualCircuitUptoSaid : Prop := fnExactEqualCircuitUptoRow.holds Try.pinned (OpenSpec.upto fnExactEqualCircuitSpec)

/-- 'laws.FnExactAdderCircuit', WHERE WHAT IT READS IS OF BULK AT MOST 1048576: true; the input reads as it did. -/
def fnExactAdderCircuitUptoRow : OpenClaim := { program := "ytgmcedfpnnmkeaa", sum := "f8833dce8c8549afd9a44b8eb038fbdfb43c85fd0991261428077c31d6775a10", func := "loop.example/g00877/laws.FnExactAdderCircuit", spec := "fnExactAdderCircuit", unfollowed := true, recurses := true, apart := false, narrowed := true }
def FnExactAdderCircuitUptoSaid : Prop := fnExactAdderCircuitUptoRow.holds Try.pinned (OpenSpec.upto fnExactAdderCircuitSpec)

/-- 'laws.FnExactLessCircuit', WHERE WHAT IT READS IS OF BULK AT MOST 1048576: true; the input reads as it did. -/
def fnExactLessCircuitUptoRow : OpenClaim := { program := "ytgmcedfpnnmkeaa", sum := "f8833dce8c8549afd9a44b8eb038fbdfb43c85fd0991261428077c31d6775a10", func := "loop.example/g00877/laws.FnExactLessCircuit", spec := "fnExactLessCircuit", unfollowed := true, recurses := true, apart := false, narrowed := true }
def FnExactLessCircuitUptoSaid : Prop := fnExactLessCircuitUptoRow.holds Try.pinned (OpenSpec.upto fnExactLessCircuitSpec)

/-- 'laws.FnExactSubtractCircuit', WHERE WHAT IT READS IS OF BULK AT MOST 1048576: true; the input reads as it did. -/
def fnExactSubtractCircuitUptoRow : OpenClaim := { program := "ytgmcedfpnnmkeaa", sum := "f8833dce8c8549afd9a44b8eb038fbdfb43c85fd0991261428077c31d6775a10", func := "loop.example/g00877/laws.FnExactSubtractCircuit", spec := "fnExactSubtractCircuit", unfollowed := true, recurses := true, apart := false, narrowed := true }
def FnExactSubtractCircuitUptoSaid : Prop := fnExactSubtractCircuitUptoRow.holds Try.pinned (OpenSpec.upto fnExactSubtractCircuitSpec)

/-- 'laws.FnExactBesideCircuit', WHERE WHAT IT READS IS OF BULK AT MOST 1048576: true; the input reads as it did. -/
def fnExactBesideCircuitUptoRow : OpenClaim := { program := "ytgmcedfpnnmkeaa", sum := "f8833dce8c8549afd9a44b8eb038fbdfb43c85fd0991261428077c31d6775a10", func := "loop.example/g00877/laws.FnExactBesideCircuit", spec := "fnExactBesideCircuit", unfollowed := true, recurses := true, apart := false, narrowed := true }
def FnExactBesideCircuitUptoSaid : Prop := fnExactBesideCircuitUptoRow.holds Try.pinned (OpenSpec.upto fnExactBesideCircuitSpec)

/-- 'laws.FnExactGreatestCircuit', WHERE WHAT IT READS IS OF BULK AT MOST 1048576: true; the input reads as it did. -/
def fnExactGreatestCircuitUptoRow : OpenClaim := { program := "ytgmcedfpnnmkeaa", sum := "f8833dce8c8549afd9a44b8eb038fbdfb43c85fd0991261428077c31d6775a10", func := "loop.example/g00877/laws.FnExactGreatestCircuit", spec := "fnExactGreatestCircuit", unfollowed := true, recurses := true, apart := false, narrowed := true }
def FnExactGreatestCircuitUptoSaid : Prop := fnExactGreatestCircuitUptoRow.holds Try.pinned (OpenSpec.upto fnExactGreatestCircuitSpec)

/-- 'laws.FnExactProductCircuit', WHERE WHAT IT READS IS OF BULK AT MOST 1048576: true; the input reads as it did. -/
def fnExactProductCircuitUptoRow : OpenClaim := { program := "ytgmcedfpnnmkeaa", sum := "f8833dce8c8549afd9a44b8eb038fbdfb43c85fd0991261428077c31d6775a10", func := "loop.example/g00877/laws.FnExactProductCircuit", spec := "fnExactProductCircuit", unfollowed := true, recurses := true, apart := false, narrowed := true }
def FnExactProductCircuitUptoSaid : Prop := fnExactProductCircuitUptoRow.holds Try.pinned (OpenSpec.upto fnExactProductCircuitSpec)

/-- 'laws.FnDepends', WHERE WHAT IT READS IS OF BULK AT MOST 1048576: true; the input reads as it did. -/
def fnDependsUptoRow : OpenClaim := { program := "ytgmcedfpnnmkeaa", sum := "f8833dce8c8549afd9a44b8eb038fbdfb43c85fd0991261428077c31d6775a10", func := "loop.example/g00877/laws.FnDepends", spec := "fnDepends", unfollowed := true, recurses := true, apart := false, narrowed := true }
def FnDependsUptoSaid : Prop := fnDependsUptoRow.holds Try.pinned (OpenSpec.upto fnDependsSpec)

/-- 'laws.FnExactAndsOf', WHERE WHAT IT READS IS OF BULK AT MOST 1048576: true; the input reads as it did. -/
def fnExactAndsOfUptoRow : OpenClaim := { program := "ytgmcedfpnnmkeaa", sum := "f8833dce8c8549afd9a44b8eb038fbdfb43c85fd0991261428077c31d6775a10", func := "loop.example/g00877/laws.FnExactAndsOf", spec := "fnExactAndsOf", unfollowed := true, recurses := true, apart := false, narrowed := true }
def FnExactAndsOfUptoSaid : Prop := fnExactAndsOfUptoRow.holds Try.pinned (OpenSpec.upto fnExactAndsOfSpec)

/-- 'laws.FnExactDropDead', WHERE WHAT IT READS IS OF BULK AT MOST 1048576: true; the input reads as it did. -/
def fnExactDropDeadUptoRow : OpenClaim := { program := "ytgmcedfpnnmkeaa", sum := "f8833dce8c8549afd9a44b8eb038fbdfb43c85fd0991261428077c31d6775a10", func := "loop.example/g00877/laws.FnExactDropDead", spec := "fnExactDropDead", unfollowed := true, recurses := true, apart := false, narrowed := true }
def FnExactDropDeadUptoSaid : Prop := fnExactDropDeadUptoRow.holds Try.pinned (OpenSpec.upto fnExactDropDeadSpec)

/-- 'laws.FnExactLinearForm', WHERE WHAT IT READS IS OF BULK AT MOST 1048576: true; the input reads as it did. -/
def fnExactLinearFormUptoRow : OpenClaim := { program := "ytgmcedfpnnmkeaa", sum := "f8833dce8c8549afd9a44b8eb038fbdfb43c85fd0991261428077c31d6775a10", func := "loop.example/g00877/laws.FnExactLinearForm", spec := "fnExactLinearForm", unfollowed := true, recurses := true, apart := false, narrowed := true }
def FnExactLinearFormUptoSaid : Prop := fnExactLinearFormUptoRow.holds Try.pinned (OpenSpec.upto fnExactLinearFormSpec)

/-- 'laws.FnExactNetworkCircuit', WHERE WHAT IT READS IS OF BULK AT MOST 1048576: true; the input reads as it did. -/
def fnExactNetworkCircuitUptoRow : OpenClaim := { program := "ytgmcedfpnnmkeaa", sum := "f8833dce8c8549afd9a44b8eb038fbdfb43c85fd0991261428077c31d6775a10", func := "loop.example/g00877/laws.FnExactNetworkCircuit", spec := "fnExactNetworkCircuit", unfollowed := true, recurses := true, apart := false, narrowed := true }
def FnExactNetworkCircuitUptoSaid : Prop := fnExactNetworkCircuitUptoRow.holds Try.pinned (OpenSpec.upto fnExactNetworkCircuitSpec)

/-- 'laws.FnExactSimplifyCircuit', WHERE WHAT IT READS IS OF BULK AT MOST 1048576: true; the input reads as it did. -/
def fnExactSimplifyCircuitUptoRow : OpenClaim := { program := "ytgmcedfpnnmkeaa", sum := "f8833dce8c8549afd9a44b8eb038fbdfb43c85fd0991261428077c31d6775a10", func := "loop.example/g00877/laws.FnExactSimplifyCircuit", spec := "fnExactSimplifyCircuit", unfollowed := true, recurses := true, apart := false, narrowed := true }
def FnExactSimplifyCircuitUptoSaid : Prop := fnExactSimplifyCircuitUptoRow.holds Try.pinned (OpenSpec.upto fnExactSimplifyCircuitSpec)

end Rows
end Go.Proofs.Ytgmcedfpnnmkeaa
