/-
  No cell of these rows narrows 'for every input' (looked for: loops, veiled, ifaces, maps, wideKeys, modest, calm, conditions, laid).
  DERIVED. THE GIVEN ROWS OF THIS SEAT. 6 by the template 'for every input the law returns true; each argument reads behind the call as it read before'; 0 by the template 'total and deterministic' (their statements: YtadgmbkpbgcdjaaTotals.lean).
  GIVEN WITH THE SEED: the statements are not yours to turn. If you find one false, say at which input.
  Laid BY PROGRAM, IN A SANDBOX (cutbox-rows.mjs): the forced cells as the released guide's own fill.sh prints them over the translation e647de566626f34c… (all of the seat's roots in one cut). By AI agents, Wed Nov 11 2026. No macro, syntax, notation, axiom, sorry.
-/
import Derived.Test.YtadgmbkpbgcdjaaChecked
import GoSem.Claim
import GoSem.ClaimJoined
import GoSem.ClaimMapViews
import Derived.JoinedTies
import Derived.KernelRfl
namespace Go.Proofs.Ytadgmbkpbgcdjaa
/- THE CELL 'sum', in the pinned program and in every row, IS THE sha256 OF THE DUMP (.gsa) THAT YtadgmbkpbgcdjaaProg.lean LOADS. Nothing in Lean hashes anything: it is a label: what it is worth is what the hold of that sum in a sandbox is worth. -/
noncomputable def Try.pinned : Pinned := { name := "ytadgmbkpbgcdjaa", sum := "e647de566626f34c3972951b60947e2b85973a84336872ca8c107f677aa6aa72", checked := Try.checked }
namespace Rows
def none {H : Type} : Left H := { results := [], args := [] }

/-- 'laws.FnExactAddOut': WHATEVER THE INPUT: true; the input reads as it did. -/
def fnExactAddOutSpec : ChangeSpec := { name := "fnExactAddOut", fn := fun _ => fun
  | [d1, d2, d3] => { results := [.lit (.bool true)], args := [d1, d2, d3] }
  | _ => none }
def fnExactAddOutRow : OpenClaim := { program := "ytadgmbkpbgcdjaa", sum := "e647de566626f34c3972951b60947e2b85973a84336872ca8c107f677aa6aa72", func := "loop.example/g00877/laws.FnExactAddOut", spec := "fnExactAddOut", unfollowed := true, recurses := true, apart := false }
def FnExactAddOutSaid : Prop := fnExactAddOutRow.holds Try.pinned (OpenSpec.ofChange fnExactAddOutSpec)

/-- ITS FALSE NEIGHBOUR: 'it returns false'. Refute it at one input. -/
def fnExactAddOutWrong : ChangeSpec := { name := "fnExactAddOut", fn := fun _ => fun
  | [d1, d2, d3] => { results := [.lit (.bool false)], args := [d1, d2, d3] }
  | _ => none }
def FnExactAddOutWrongFalsely : Prop := fnExactAddOutRow.holds Try.pinned (OpenSpec.ofChange fnExactAddOutWrong)

/-- 'laws.FnExactMergeGates': WHATEVER THE INPUT: true; the input reads as it did. -/
def fnExactMergeGatesSpec : ChangeSpec := { name := "fnExactMergeGates", fn := fun _ => fun
  | [d] => { results := [.lit (.bool true)], args := [d] }
  | _ => none }
def fnExactMergeGatesRow : OpenClaim := { program := "ytadgmbkpbgcdjaa", sum := "e647de566626f34c3972951b60947e2b85973a84336872ca8c107f677aa6aa72", func := "loop.example/g00877/laws.FnExactMergeGates", spec := "fnExactMergeGates", unfollowed := true, recurses := true, apart := false }
def FnExactMergeGatesSaid : Prop := fnExactMergeGatesRow.holds Try.pinned (OpenSpec.ofChange fnExactMergeGatesSpec)

/-- ITS FALSE NEIGHBOUR: 'it returns false'. Refute it at one input. -/
def fnExactMergeGatesWrong : ChangeSpec := { name := "fnExactMergeGates", fn := fun _ => fun
  | [d] => { results := [.lit (.bool false)], args := [d] }
  | _ => none }
def FnExactMergeGatesWrongFalsely : Prop := fnExactMergeGatesRow.holds Try.pinned (OpenSpec.ofChange fnExactMergeGatesWrong)

/-- 'laws.FnExactThenCircuit': WHATEVER THE INPUT: true; the input reads as it did. -/
def fnExactThenCircuitSpec : ChangeSpec := { name := "fnExactThenCircuit", fn := fun _ => fun
  | [d1, d2] => { results := [.lit (.bool true)], args := [d1, d2] }
  | _ => none }
def fnExactThenCircuitRow : OpenClaim := { program := "ytadgmbkpbgcdjaa", sum := "e647de566626f34c3972951b60947e2b85973a84336872ca8c107f677aa6aa72", func := "loop.example/g00877/laws.FnExactThenCircuit", spec := "fnExactThenCircuit", unfollowed := true, recurses := true, apart := false }
def FnExactThenCircuitSaid : Prop := fnExactThenCircuitRow.holds Try.pinned (OpenSpec.ofChange fnExactThenCircuitSpec)

/-- ITS FALSE NEIGHBOUR: 'it returns false'. Refute it at one input. -/
def fnExactThenCircuitWrong : ChangeSpec := { name := "fnExactThenCircuit", fn := fun _ => fun
  | [d1, d2] => { results := [.lit (.bool false)], args := [d1, d2] }
  | _ => none }
def FnExactThenCircuitWrongFalsely : Prop := fnExactThenCircuitRow.holds Try.pinned (OpenSpec.ofChange fnExactThenCircuitWrong)

/-- 'laws.FnExactBesideCircuit': WHATEVER THE INPUT: true; the input reads as it did. -/
def fnExactBesideCircuitSpec : ChangeSpec := { name := "fnExactBesideCircuit", fn := fun _ => fun
  | [d1, d2] => { results := [.lit (.bool true)], args := [d1, d2] }
  | _ => none }
def fnExactBesideCircuitRow : OpenClaim := { program := "ytadgmbkpbgcdjaa", sum := "e647de566626f34c3972951b60947e2b85973a84336872ca8c107f677aa6aa72", func := "loop.example/g00877/laws.FnExactBesideCircuit", spec := "fnExactBesideCircuit", unfollowed := true, recurses := true, apart := false }
def FnExactBesideCircuitSaid : Prop := fnExactBesideCircuitRow.holds Try.pinned (OpenSpec.ofChange fnExactBesideCircuitSpec)

/-- ITS FALSE NEIGHBOUR: 'it returns false'. Refute it at one input. -/
def fnExactBesideCircuitWrong : ChangeSpec := { name := "fnExactBesideCircuit", fn := fun _ => fun
  | [d1, d2] => { results := [.lit (.bool false)], args := [d1, d2] }
  | _ => none }
def FnExactBesideCircuitWrongFalsely : Prop := fnExactBesideCircuitRow.holds Try.pinned (OpenSpec.ofChange fnExactBesideCircuitWrong)

/-- 'laws.FnExactDropDead': WHATEVER THE INPUT: true; the input reads as it did. -/
def fnExactDropDeadSpec : ChangeSpec := { name := "fnExactDropDead", fn := fun _ => fun
  | [d] => { results := [.lit (.bool true)], args := [d] }
  | _ => none }
def fnExactDropDeadRow : OpenClaim := { program := "ytadgmbkpbgcdjaa", sum := "e647de566626f34c3972951b60947e2b85973a84336872ca8c107f677aa6aa72", func := "loop.example/g00877/laws.FnExactDropDead", spec := "fnExactDropDead", unfollowed := true, recurses := true, apart := false }
def FnExactDropDeadSaid : Prop := fnExactDropDeadRow.holds Try.pinned (OpenSpec.ofChange fnExactDropDeadSpec)

/-- ITS FALSE NEIGHBOUR: 'it returns false'. Refute it at one input. -/
def fnExactDropDeadWrong : ChangeSpec := { name := "fnExactDropDead", fn := fun _ => fun
  | [d] => { results := [.lit (.bool false)], args := [d] }
  | _ => none }
def FnExactDropDeadWrongFalsely : Prop := fnExactDropDeadRow.holds Try.pinned (OpenSpec.ofChange fnExactDropDeadWrong)

/-- 'laws.FnExactLinearForm': WHATEVER THE INPUT: true; the input reads as it did. -/
def fnExactLinearFormSpec : ChangeSpec := { name := "fnExactLinearForm", fn := fun _ => fun
  | [d1, d2] => { results := [.lit (.bool true)], args := [d1, d2] }
  | _ => none }
def fnExactLinearFormRow : OpenClaim := { program := "ytadgmbkpbgcdjaa", sum := "e647de566626f34c3972951b60947e2b85973a84336872ca8c107f677aa6aa72", func := "loop.example/g00877/laws.FnExactLinearForm", spec := "fnExactLinearForm", unfollowed := true, recurses := true, apart := false }
def FnExactLinearFormSaid : Prop := fnExactLinearFormRow.holds Try.pinned (OpenSpec.ofChange fnExactLinearFormSpec)

/-- ITS FALSE NEIGHBOUR: 'it returns false'. Refute it at one input. -/
def fnExactLinearFormWrong : ChangeSpec := { name := "fnExactLinearForm", fn := fun _ => fun
  | [d1, d2] => { results := [.lit (.bool false)], args := [d1, d2] }
  | _ => none }
def FnExactLinearFormWrongFalsely : Prop := fnExactLinearFormRow.holds Try.pinned (OpenSpec.ofChange fnExactLinearFormWrong)

/- THE SECOND FORM. 'bulk': how many values and letters a reading holds, each counted each time it is reached (what is shared counts as often as it is met; a slice's spare places count too). A statement '..UptoSaid' is the law's where the arguments, and the package variables that the reading takes, are together of bulk at most 1048576: NARROWER than '..Said'. Prove '..Said' where nothing that the law and all that it calls make is longer than what came in: it says more and counts as full. Else prove '..UptoSaid'. A law counts once. -/
mutual
def uptoBulk {H : Type} : DataW H → Nat
  | .lit (.string bytes) => bytes.length + 1
  | .lit _ => 1
  | .nil => 1
  | .ptr d => uptoBulk d + 1
  | .slice elems spare => uptoBulkAll elems + uptoBulkAll spare + 1
  | .agg parts => uptoBulkAll parts + 1
  | .iface _ d => uptoBulk d + 1
  | .map entries => uptoBulkEntries entries + 1
  | .held _ => 1
def uptoBulkAll {H : Type} : List (DataW H) → Nat
  | [] => 0
  | d :: r => uptoBulk d + uptoBulkAll r
def uptoBulkEntries {H : Type} : List (Lit × DataW H) → Nat
  | [] => 0
  | x :: r => uptoBulkEntry x + uptoBulkEntries r
def uptoBulkEntry {H : Type} : Lit × DataW H → Nat
  | (.string bytes, d) => bytes.length + uptoBulk d + 1
  | (_, d) => uptoBulk d + 1
 end
def uptoSmall : (H : Type) → List (DataW H) → Bool := fun _ ds => decide (uptoBulkAll ds ≤ 1048576)
def OpenSpec.upto (s : _root_.Go.ChangeSpec) : _root_.Go.OpenSpec := { _root_.Go.OpenSpec.ofChange s with cond := some uptoSmall }

/-- 'laws.FnExactAddOut', WHERE WHAT IT READS IS OF BULK AT MOST 1048576: true; the input reads as it did. -/
def fnExactAddOutUptoRow : OpenClaim := { program := "ytadgmbkpbgcdjaa", sum := "e647de566626f34c3972951b60947e2b85973a84336872ca8c107f677aa6aa72", func := "loop.example/g00877/laws.FnExactAddOut", spec := "fnExactAddOut", unfollowed := true, recurses := true, apart := false, narrowed := true }
def FnExactAddOutUptoSaid : Prop := fnExactAddOutUptoRow.holds Try.pinned (OpenSpec.upto fnExactAddOutSpec)

/-- 'laws.FnExactMergeGates', WHERE WHAT IT READS IS OF BULK AT MOST 1048576: true; the input reads as it did. -/
def fnExactMergeGatesUptoRow : OpenClaim := { program := "ytadgmbkpbgcdjaa", sum := "e647de566626f34c3972951b60947e2b85973a84336872ca8c107f677aa6aa72", func := "loop.example/g00877/laws.FnExactMergeGates", spec := "fnExactMergeGates", unfollowed := true, recurses := true, apart := false, narrowed := true }
def FnExactMergeGatesUptoSaid : Prop := fnExactMergeGatesUptoRow.holds Try.pinned (OpenSpec.upto fnExactMergeGatesSpec)

/-- 'laws.FnExactThenCircuit', WHERE WHAT IT READS IS OF BULK AT MOST 1048576: true; the input reads as it did. -/
def fnExactThenCircuitUptoRow : OpenClaim := { program := "ytadgmbkpbgcdjaa", sum := "e647de566626f34c3972951b60947e2b85973a84336872ca8c107f677aa6aa72", func := "loop.example/g00877/laws.FnExactThenCircuit", spec := "fnExactThenCircuit", unfollowed := true, recurses := true, apart := false, narrowed := true }
def FnExactThenCircuitUptoSaid : Prop := fnExactThenCircuitUptoRow.holds Try.pinned (OpenSpec.upto fnExactThenCircuitSpec)

/-- 'laws.FnExactBesideCircuit', WHERE WHAT IT READS IS OF BULK AT MOST 1048576: true; the input reads as it did. -/
def fnExactBesideCircuitUptoRow : OpenClaim := { program := "ytadgmbkpbgcdjaa", sum := "e647de566626f34c3972951b60947e2b85973a84336872ca8c107f677aa6aa72", func := "loop.example/g00877/laws.FnExactBesideCircuit", spec := "fnExactBesideCircuit", unfollowed := true, recurses := true, apart := false, narrowed := true }
def FnExactBesideCircuitUptoSaid : Prop := fnExactBesideCircuitUptoRow.holds Try.pinned (OpenSpec.upto fnExactBesideCircuitSpec)

/-- 'laws.FnExactDropDead', WHERE WHAT IT READS IS OF BULK AT MOST 1048576: true; the input reads as it did. -/
def fnExactDropDeadUptoRow : OpenClaim := { program := "ytadgmbkpbgcdjaa", sum := "e647de566626f34c3972951b60947e2b85973a84336872ca8c107f677aa6aa72", func := "loop.example/g00877/laws.FnExactDropDead", spec := "fnExactDropDead", unfollowed := true, recurses := true, apart := false, narrowed := true }
def FnExactDropDeadUptoSaid : Prop := fnExactDropDeadUptoRow.holds Try.pinned (OpenSpec.upto fnExactDropDeadSpec)

/-- 'laws.FnExactLinearForm', WHERE WHAT IT READS IS OF BULK AT MOST 1048576: true; the input reads as it did. -/
def fnExactLinearFormUptoRow : OpenClaim := { program := "ytadgmbkpbgcdjaa", sum := "e647de566626f34c3972951b60947e2b85973a84336872ca8c107f677aa6aa72", func := "loop.example/g00877/laws.FnExactLinearForm", spec := "fnExactLinearForm", unfollowed := true, recurses := true, apart := false, narrowed := true }
def FnExactLinearFormUptoSaid : Prop := fnExactLinearFormUptoRow.holds Try.pinned (OpenSpec.upto fnExactLinearFormSpec)

end Rows
end Go.Proofs.Ytadgmbkpbgcdjaa
