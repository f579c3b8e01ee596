/-
  No cell of these rows narrows 'for every input' (looked for: loops, veiled, ifaces, maps, wideKeys, modest, calm, conditions, laid).
  DERIVED. THE GIVEN ROWS OF THIS SEAT. 13 by the template 'for every input the law returns true; each argument reads behind the call as it read before'; 0 by the template 'total and deterministic' (their statements: YthmdgcbhoijmgaaTotals.lean).
  GIVEN WITH THE SEED: the statements are not yours to turn. If you find one false, say at which input.
  Laid BY PROGRAM, IN A SANDBOX (cutbox-rows.mjs): the forced cells as the released guide's own fill.sh prints them over the translation c6cd6adeb85ef03e… (all of the seat's roots in one cut). By AI agents, Wed Nov 11 2026. No macro, syntax, notation, axiom, sorry.
-/
import Derived.Test.YthmdgcbhoijmgaaChecked
import GoSem.Claim
import GoSem.ClaimJoined
import GoSem.ClaimMapViews
import Derived.JoinedTies
import Derived.KernelRfl
namespace Go.Proofs.Ythmdgcbhoijmgaa
/- THE CELL 'sum', in the pinned program and in every row, IS THE sha256 OF THE DUMP (.gsa) THAT YthmdgcbhoijmgaaProg.lean LOADS. Nothing in Lean hashes anything: it is a label: what it is worth is what the hold of that sum in a sandbox is worth. -/
noncomputable def Try.pinned : Pinned := { name := "ythmdgcbhoijmgaa", sum := "c6cd6adeb85ef03ec47a25e9b18372d3036ab7a195aef0897dcf9df05126f61f", checked := Try.checked }
namespace Rows
def none {H : Type} : Left H := { results := [], args := [] }

/-- 'laws.FnExactJoinBits': WHATEVER THE INPUT: true; the input reads as it did. -/
def fnExactJoinBitsSpec : ChangeSpec := { name := "fnExactJoinBits", fn := fun _ => fun
  | [d1, d2] => { results := [.lit (.bool true)], args := [d1, d2] }
  | _ => none }
def fnExactJoinBitsRow : OpenClaim := { program := "ythmdgcbhoijmgaa", sum := "c6cd6adeb85ef03ec47a25e9b18372d3036ab7a195aef0897dcf9df05126f61f", func := "loop.example/g00877/laws.FnExactJoinBits", spec := "fnExactJoinBits", unfollowed := true, recurses := true, apart := false }
def FnExactJoinBitsSaid : Prop := fnExactJoinBitsRow.holds Try.pinned (OpenSpec.ofChange fnExactJoinBitsSpec)

/-- ITS FALSE NEIGHBOUR: 'it returns false'. Refute it at one input. -/
def fnExactJoinBitsWrong : ChangeSpec := { name := "fnExactJoinBits", fn := fun _ => fun
  | [d1, d2] => { results := [.lit (.bool false)], args := [d1, d2] }
  | _ => none }
def FnExactJoinBitsWrongFalsely : Prop := fnExactJoinBitsRow.holds Try.pinned (OpenSpec.ofChange fnExactJoinBitsWrong)

/-- 'laws.FnExactShareCounts': WHATEVER THE INPUT: true; the input reads as it did. -/
def fnExactShareCountsSpec : ChangeSpec := { name := "fnExactShareCounts", fn := fun _ => fun
  | [d1, d2, d3] => { results := [.lit (.bool true)], args := [d1, d2, d3] }
  | _ => none }
def fnExactShareCountsRow : OpenClaim := { program := "ythmdgcbhoijmgaa", sum := "c6cd6adeb85ef03ec47a25e9b18372d3036ab7a195aef0897dcf9df05126f61f", func := "loop.example/g00877/laws.FnExactShareCounts", spec := "fnExactShareCounts", apart := false }
def FnExactShareCountsSaid : Prop := fnExactShareCountsRow.holds Try.pinned (OpenSpec.ofChange fnExactShareCountsSpec)

/-- ITS FALSE NEIGHBOUR: 'it returns false'. Refute it at one input. -/
def fnExactShareCountsWrong : ChangeSpec := { name := "fnExactShareCounts", fn := fun _ => fun
  | [d1, d2, d3] => { results := [.lit (.bool false)], args := [d1, d2, d3] }
  | _ => none }
def FnExactShareCountsWrongFalsely : Prop := fnExactShareCountsRow.holds Try.pinned (OpenSpec.ofChange fnExactShareCountsWrong)

/-- 'laws.FnExactInnerShares': WHATEVER THE INPUT: true; the input reads as it did. -/
def fnExactInnerSharesSpec : ChangeSpec := { name := "fnExactInnerShares", fn := fun _ => fun
  | [d1, d2, d3] => { results := [.lit (.bool true)], args := [d1, d2, d3] }
  | _ => none }
def fnExactInnerSharesRow : OpenClaim := { program := "ythmdgcbhoijmgaa", sum := "c6cd6adeb85ef03ec47a25e9b18372d3036ab7a195aef0897dcf9df05126f61f", func := "loop.example/g00877/laws.FnExactInnerShares", spec := "fnExactInnerShares", unfollowed := true, recurses := true, apart := false }
def FnExactInnerSharesSaid : Prop := fnExactInnerSharesRow.holds Try.pinned (OpenSpec.ofChange fnExactInnerSharesSpec)

/-- ITS FALSE NEIGHBOUR: 'it returns false'. Refute it at one input. -/
def fnExactInnerSharesWrong : ChangeSpec := { name := "fnExactInnerShares", fn := fun _ => fun
  | [d1, d2, d3] => { results := [.lit (.bool false)], args := [d1, d2, d3] }
  | _ => none }
def FnExactInnerSharesWrongFalsely : Prop := fnExactInnerSharesRow.holds Try.pinned (OpenSpec.ofChange fnExactInnerSharesWrong)

/-- 'laws.FnExactPairsFor': WHATEVER THE INPUT: true; the input reads as it did. -/
def fnExactPairsForSpec : ChangeSpec := { name := "fnExactPairsFor", fn := fun _ => fun
  | [d1, d2] => { results := [.lit (.bool true)], args := [d1, d2] }
  | _ => none }
def fnExactPairsForRow : OpenClaim := { program := "ythmdgcbhoijmgaa", sum := "c6cd6adeb85ef03ec47a25e9b18372d3036ab7a195aef0897dcf9df05126f61f", func := "loop.example/g00877/laws.FnExactPairsFor", spec := "fnExactPairsFor", apart := false }
def FnExactPairsForSaid : Prop := fnExactPairsForRow.holds Try.pinned (OpenSpec.ofChange fnExactPairsForSpec)

/-- ITS FALSE NEIGHBOUR: 'it returns false'. Refute it at one input. -/
def fnExactPairsForWrong : ChangeSpec := { name := "fnExactPairsFor", fn := fun _ => fun
  | [d1, d2] => { results := [.lit (.bool false)], args := [d1, d2] }
  | _ => none }
def FnExactPairsForWrongFalsely : Prop := fnExactPairsForRow.holds Try.pinned (OpenSpec.ofChange fnExactPairsForWrong)

/-- 'laws.FnExactAddShares': WHATEVER THE INPUT: true; the input reads as it did. -/
def fnExactAddSharesSpec : ChangeSpec := { name := "fnExactAddShares", fn := fun _ => fun
  | [d1, d2, d3] => { results := [.lit (.bool true)], args := [d1, d2, d3] }
  | _ => none }
def fnExactAddSharesRow : OpenClaim := { program := "ythmdgcbhoijmgaa", sum := "c6cd6adeb85ef03ec47a25e9b18372d3036ab7a195aef0897dcf9df05126f61f", func := "loop.example/g00877/laws.FnExactAddShares", spec := "fnExactAddShares", unfollowed := true, recurses := true, apart := false }
def FnExactAddSharesSaid : Prop := fnExactAddSharesRow.holds Try.pinned (OpenSpec.ofChange fnExactAddSharesSpec)

/-- ITS FALSE NEIGHBOUR: 'it returns false'. Refute it at one input. -/
def fnExactAddSharesWrong : ChangeSpec := { name := "fnExactAddShares", fn := fun _ => fun
  | [d1, d2, d3] => { results := [.lit (.bool false)], args := [d1, d2, d3] }
  | _ => none }
def FnExactAddSharesWrongFalsely : Prop := fnExactAddSharesRow.holds Try.pinned (OpenSpec.ofChange fnExactAddSharesWrong)

/-- 'laws.FnExactAddHolders': WHATEVER THE INPUT: true; the input reads as it did. -/
def fnExactAddHoldersSpec : ChangeSpec := { name := "fnExactAddHolders", fn := fun _ => fun
  | [d1, d2, d3] => { results := [.lit (.bool true)], args := [d1, d2, d3] }
  | _ => none }
def fnExactAddHoldersRow : OpenClaim := { program := "ythmdgcbhoijmgaa", sum := "c6cd6adeb85ef03ec47a25e9b18372d3036ab7a195aef0897dcf9df05126f61f", func := "loop.example/g00877/laws.FnExactAddHolders", spec := "fnExactAddHolders", unfollowed := true, recurses := true, apart := false }
def FnExactAddHoldersSaid : Prop := fnExactAddHoldersRow.holds Try.pinned (OpenSpec.ofChange fnExactAddHoldersSpec)

/-- ITS FALSE NEIGHBOUR: 'it returns false'. Refute it at one input. -/
def fnExactAddHoldersWrong : ChangeSpec := { name := "fnExactAddHolders", fn := fun _ => fun
  | [d1, d2, d3] => { results := [.lit (.bool false)], args := [d1, d2, d3] }
  | _ => none }
def FnExactAddHoldersWrongFalsely : Prop := fnExactAddHoldersRow.holds Try.pinned (OpenSpec.ofChange fnExactAddHoldersWrong)

/-- 'laws.FnExactShiftShare': WHATEVER THE INPUT: true; the input reads as it did. -/
def fnExactShiftShareSpec : ChangeSpec := { name := "fnExactShiftShare", fn := fun _ => fun
  | [d1, d2, d3, d4] => { results := [.lit (.bool true)], args := [d1, d2, d3, d4] }
  | _ => none }
def fnExactShiftShareRow : OpenClaim := { program := "ythmdgcbhoijmgaa", sum := "c6cd6adeb85ef03ec47a25e9b18372d3036ab7a195aef0897dcf9df05126f61f", func := "loop.example/g00877/laws.FnExactShiftShare", spec := "fnExactShiftShare", unfollowed := true, recurses := true, apart := false }
def FnExactShiftShareSaid : Prop := fnExactShiftShareRow.holds Try.pinned (OpenSpec.ofChange fnExactShiftShareSpec)

/-- ITS FALSE NEIGHBOUR: 'it returns false'. Refute it at one input. -/
def fnExactShiftShareWrong : ChangeSpec := { name := "fnExactShiftShare", fn := fun _ => fun
  | [d1, d2, d3, d4] => { results := [.lit (.bool false)], args := [d1, d2, d3, d4] }
  | _ => none }
def FnExactShiftShareWrongFalsely : Prop := fnExactShiftShareRow.holds Try.pinned (OpenSpec.ofChange fnExactShiftShareWrong)

/-- 'laws.FnExactJoinSum': WHATEVER THE INPUT: true; the input reads as it did. -/
def fnExactJoinSumSpec : ChangeSpec := { name := "fnExactJoinSum", fn := fun _ => fun
  | [d1, d2, d3] => { results := [.lit (.bool true)], args := [d1, d2, d3] }
  | _ => none }
def fnExactJoinSumRow : OpenClaim := { program := "ythmdgcbhoijmgaa", sum := "c6cd6adeb85ef03ec47a25e9b18372d3036ab7a195aef0897dcf9df05126f61f", func := "loop.example/g00877/laws.FnExactJoinSum", spec := "fnExactJoinSum", unfollowed := true, recurses := true, apart := false }
def FnExactJoinSumSaid : Prop := fnExactJoinSumRow.holds Try.pinned (OpenSpec.ofChange fnExactJoinSumSpec)

/-- ITS FALSE NEIGHBOUR: 'it returns false'. Refute it at one input. -/
def fnExactJoinSumWrong : ChangeSpec := { name := "fnExactJoinSum", fn := fun _ => fun
  | [d1, d2, d3] => { results := [.lit (.bool false)], args := [d1, d2, d3] }
  | _ => none }
def FnExactJoinSumWrongFalsely : Prop := fnExactJoinSumRow.holds Try.pinned (OpenSpec.ofChange fnExactJoinSumWrong)

/-- 'laws.FnExactScaleShare': WHATEVER THE INPUT: true; the input reads as it did. -/
def fnExactScaleShareSpec : ChangeSpec := { name := "fnExactScaleShare", fn := fun _ => fun
  | [d1, d2, d3] => { results := [.lit (.bool true)], args := [d1, d2, d3] }
  | _ => none }
def fnExactScaleShareRow : OpenClaim := { program := "ythmdgcbhoijmgaa", sum := "c6cd6adeb85ef03ec47a25e9b18372d3036ab7a195aef0897dcf9df05126f61f", func := "loop.example/g00877/laws.FnExactScaleShare", spec := "fnExactScaleShare", unfollowed := true, recurses := true, apart := false }
def FnExactScaleShareSaid : Prop := fnExactScaleShareRow.holds Try.pinned (OpenSpec.ofChange fnExactScaleShareSpec)

/-- ITS FALSE NEIGHBOUR: 'it returns false'. Refute it at one input. -/
def fnExactScaleShareWrong : ChangeSpec := { name := "fnExactScaleShare", fn := fun _ => fun
  | [d1, d2, d3] => { results := [.lit (.bool false)], args := [d1, d2, d3] }
  | _ => none }
def FnExactScaleShareWrongFalsely : Prop := fnExactScaleShareRow.holds Try.pinned (OpenSpec.ofChange fnExactScaleShareWrong)

/-- 'laws.FnExactRefreshBits': WHATEVER THE INPUT: true; the input reads as it did. -/
def fnExactRefreshBitsSpec : ChangeSpec := { name := "fnExactRefreshBits", fn := fun _ => fun
  | [d1, d2, d3] => { results := [.lit (.bool true)], args := [d1, d2, d3] }
  | _ => none }
def fnExactRefreshBitsRow : OpenClaim := { program := "ythmdgcbhoijmgaa", sum := "c6cd6adeb85ef03ec47a25e9b18372d3036ab7a195aef0897dcf9df05126f61f", func := "loop.example/g00877/laws.FnExactRefreshBits", spec := "fnExactRefreshBits", unfollowed := true, recurses := true, apart := false }
def FnExactRefreshBitsSaid : Prop := fnExactRefreshBitsRow.holds Try.pinned (OpenSpec.ofChange fnExactRefreshBitsSpec)

/-- ITS FALSE NEIGHBOUR: 'it returns false'. Refute it at one input. -/
def fnExactRefreshBitsWrong : ChangeSpec := { name := "fnExactRefreshBits", fn := fun _ => fun
  | [d1, d2, d3] => { results := [.lit (.bool false)], args := [d1, d2, d3] }
  | _ => none }
def FnExactRefreshBitsWrongFalsely : Prop := fnExactRefreshBitsRow.holds Try.pinned (OpenSpec.ofChange fnExactRefreshBitsWrong)

/-- 'laws.FnExactSplitThreshold': WHATEVER THE INPUT: true; the input reads as it did. -/
def fnExactSplitThresholdSpec : ChangeSpec := { name := "fnExactSplitThreshold", fn := fun _ => fun
  | [d1, d2, d3, d4, d5] => { results := [.lit (.bool true)], args := [d1, d2, d3, d4, d5] }
  | _ => none }
def fnExactSplitThresholdRow : OpenClaim := { program := "ythmdgcbhoijmgaa", sum := "c6cd6adeb85ef03ec47a25e9b18372d3036ab7a195aef0897dcf9df05126f61f", func := "loop.example/g00877/laws.FnExactSplitThreshold", spec := "fnExactSplitThreshold", apart := false }
def FnExactSplitThresholdSaid : Prop := fnExactSplitThresholdRow.holds Try.pinned (OpenSpec.ofChange fnExactSplitThresholdSpec)

/-- ITS FALSE NEIGHBOUR: 'it returns false'. Refute it at one input. -/
def fnExactSplitThresholdWrong : ChangeSpec := { name := "fnExactSplitThreshold", fn := fun _ => fun
  | [d1, d2, d3, d4, d5] => { results := [.lit (.bool false)], args := [d1, d2, d3, d4, d5] }
  | _ => none }
def FnExactSplitThresholdWrongFalsely : Prop := fnExactSplitThresholdRow.holds Try.pinned (OpenSpec.ofChange fnExactSplitThresholdWrong)

/-- 'laws.FnExactSplitBits': WHATEVER THE INPUT: true; the input reads as it did. -/
def fnExactSplitBitsSpec : ChangeSpec := { name := "fnExactSplitBits", fn := fun _ => fun
  | [d1, d2] => { results := [.lit (.bool true)], args := [d1, d2] }
  | _ => none }
def fnExactSplitBitsRow : OpenClaim := { program := "ythmdgcbhoijmgaa", sum := "c6cd6adeb85ef03ec47a25e9b18372d3036ab7a195aef0897dcf9df05126f61f", func := "loop.example/g00877/laws.FnExactSplitBits", spec := "fnExactSplitBits", unfollowed := true, recurses := true, apart := false }
def FnExactSplitBitsSaid : Prop := fnExactSplitBitsRow.holds Try.pinned (OpenSpec.ofChange fnExactSplitBitsSpec)

/-- ITS FALSE NEIGHBOUR: 'it returns false'. Refute it at one input. -/
def fnExactSplitBitsWrong : ChangeSpec := { name := "fnExactSplitBits", fn := fun _ => fun
  | [d1, d2] => { results := [.lit (.bool false)], args := [d1, d2] }
  | _ => none }
def FnExactSplitBitsWrongFalsely : Prop := fnExactSplitBitsRow.holds Try.pinned (OpenSpec.ofChange fnExactSplitBitsWrong)

/-- 'laws.FnExactSplitSum': WHATEVER THE INPUT: true; the input reads as it did. -/
def fnExactSplitSumSpec : ChangeSpec := { name := "fnExactSplitSum", fn := fun _ => fun
  | [d1, d2, d3] => { results := [.lit (.bool true)], args := [d1, d2, d3] }
  | _ => none }
def fnExactSplitSumRow : OpenClaim := { program := "ythmdgcbhoijmgaa", sum := "c6cd6adeb85ef03ec47a25e9b18372d3036ab7a195aef0897dcf9df05126f61f", func := "loop.example/g00877/laws.FnExactSplitSum", spec := "fnExactSplitSum", unfollowed := true, recurses := true, apart := false }
def FnExactSplitSumSaid : Prop := fnExactSplitSumRow.holds Try.pinned (OpenSpec.ofChange fnExactSplitSumSpec)

/-- ITS FALSE NEIGHBOUR: 'it returns false'. Refute it at one input. -/
def fnExactSplitSumWrong : ChangeSpec := { name := "fnExactSplitSum", fn := fun _ => fun
  | [d1, d2, d3] => { results := [.lit (.bool false)], args := [d1, d2, d3] }
  | _ => none }
def FnExactSplitSumWrongFalsely : Prop := fnExactSplitSumRow.holds Try.pinned (OpenSpec.ofChange fnExactSplitSumWrong)

/- THE SECOND FORM. 'bulk': how many values and letters a reading holds, each counted each time it is reached (what is shared counts as often as it is met; a slice's spare places count too). A statement '..UptoSaid' is the law's where the arguments, and the package variables that the reading takes, are together of bulk at most 1048576: NARROWER than '..Said'. Prove '..Said' where nothing that the law and all that it calls make is longer than what came in: it says more and counts as full. Else prove '..UptoSaid'. A law counts once. -/
mutual
def uptoBulk {H : Type} : DataW H → Nat
  | .lit (.string bytes) => bytes.length + 1
  | .lit _ => 1
  | .nil => 1
  | .ptr d => uptoBulk d + 1
  | .slice elems spare => uptoBulkAll elems + uptoBulkAll spare + 1
  | .agg parts => uptoBulkAll parts + 1
  | .iface _ d => uptoBulk d + 1
  | .map entries => uptoBulkEntries entries + 1
  | .held _ => 1
def uptoBulkAll {H : Type} : List (DataW H) → Nat
  | [] => 0
  | d :: r => uptoBulk d + uptoBulkAll r
def uptoBulkEntries {H : Type} : List (Lit × DataW H) → Nat
  | [] => 0
  | x :: r => uptoBulkEntry x + uptoBulkEntries r
def uptoBulkEntry {H : Type} : Lit × DataW H → Nat
  | (.string bytes, d) => bytes.length + uptoBulk d + 1
  | (_, d) => uptoBulk d + 1
 end
def uptoSmall : (H : Type) → List (DataW H) → Bool := fun _ ds => decide (uptoBulkAll ds ≤ 1048576)
def OpenSpec.upto (s : _root_.Go.ChangeSpec) : _root_.Go.OpenSpec := { _root_.Go.OpenSpec.ofChange s with cond := some uptoSmall }

/-- 'laws.FnExactJoinBits', WHERE WHAT IT READS IS OF BULK AT MOST 1048576: true; the input reads as it did. -/
def fnExactJoinBitsUptoRow : OpenClaim := { program := "ythmdgcbhoijmgaa", sum := "c6cd6adeb85ef03ec47a25e9b18372d3036ab7a195aef0897dcf9df05126f61f", func := "loop.example/g00877/laws.FnExactJoinBits", spec := "fnExactJoinBits", unfollowed := true, recurses := true, apart := false, narrowed := true }
def FnExactJoinBitsUptoSaid : Prop := fnExactJoinBitsUptoRow.holds Try.pinned (OpenSpec.upto fnExactJoinBitsSpec)

/-- 'laws.FnExactShareCounts', WHERE WHAT IT READS IS OF BULK AT MOST 1048576: true; the input reads as it did. -/
def fnExactShareCountsUptoRow : OpenClaim := { program := "ythmdgcbhoijmgaa", sum := "c6cd6adeb85ef03ec47a25e9b18372d3036ab7a195aef0897dcf9df05126f61f", func := "loop.example/g00877/laws.FnExactShareCounts", spec := "fnExactShareCounts", apart := false, narrowed := true }
def FnExactShareCountsUptoSaid : Prop := fnExactShareCountsUptoRow.holds Try.pinned (OpenSpec.upto fnExactShareCountsSpec)

/-- 'laws.FnExactInnerShares', WHERE WHAT IT READS IS OF BULK AT MOST 1048576: true; the input reads as it did. -/
def fnExactInnerSharesUptoRow : OpenClaim := { program := "ythmdgcbhoijmgaa", sum := "c6cd6adeb85ef03ec47a25e9b18372d3036ab7a195aef0897dcf9df05126f61f", func := "loop.example/g00877/laws.FnExactInnerShares", spec := "fnExactInnerShares", unfollowed := true, recurses := true, apart := false, narrowed := true }
def FnExactInnerSharesUptoSaid : Prop := fnExactInnerSharesUptoRow.holds Try.pinned (OpenSpec.upto fnExactInnerSharesSpec)

/-- 'laws.FnExactPairsFor', WHERE WHAT IT READS IS OF BULK AT MOST 1048576: true; the input reads as it did. -/
def fnExactPairsForUptoRow : OpenClaim := { program := "ythmdgcbhoijmgaa", sum := "c6cd6adeb85ef03ec47a25e9b18372d3036ab7a195aef0897dcf9df05126f61f", func := "loop.example/g00877/laws.FnExactPairsFor", spec := "fnExactPairsFor", apart := false, narrowed := true }
def FnExactPairsForUptoSaid : Prop := fnExactPairsForUptoRow.holds Try.pinned (OpenSpec.upto fnExactPairsForSpec)

/-- 'laws.FnExactAddShares', WHERE WHAT IT READS IS OF BULK AT MOST 1048576: true; the input reads as it did. -/
def fnExactAddSharesUptoRow : OpenClaim := { program := "ythmdgcbhoijmgaa", sum := "c6cd6adeb85ef03ec47a25e9b18372d3036ab7a195aef0897dcf9df05126f61f", func := "loop.example/g00877/laws.FnExactAddShares", spec := "fnExactAddShares", unfollowed := true, recurses := true, apart := false, narrowed := true }
def FnExactAddSharesUptoSaid : Prop := fnExactAddSharesUptoRow.holds Try.pinned (OpenSpec.upto fnExactAddSharesSpec)

/-- 'laws.FnExactAddHolders', WHERE WHAT IT READS IS OF BULK AT MOST 1048576: true; the input reads as it did. -/
def fnExactAddHoldersUptoRow : OpenClaim := { program := "ythmdgcbhoijmgaa", sum := "c6cd6adeb85ef03ec47a25e9b18372d3036ab7a195aef0897dcf9df05126f61f", func := "loop.example/g00877/laws.FnExactAddHolders", spec := "fnExactAddHolders", unfollowed := true, recurses := true, apart := false, narrowed := true }
def FnExactAddHoldersUptoSaid : Prop := fnExactAddHoldersUptoRow.holds Try.pinned (OpenSpec.upto fnExactAddHoldersSpec)

/-- 'laws.FnExactShiftShare', WHERE WHAT IT READS IS OF BULK AT MOST 1048576: true; the input reads as it did. -/
def fnExactShiftShareUptoRow : OpenClaim := { program := "ythmdgcbhoijmgaa", sum := "c6cd6adeb85ef03ec47a25e9b18372d3036ab7a195aef0897dcf9df05126f61f", func := "loop.example/g00877/laws.FnExactShiftShare", spec := "fnExactShiftShare", unfollowed := true, recurses := true, apart := false, narrowed := true }
def FnExactShiftShareUptoSaid : Prop := fnExactShiftShareUptoRow.holds Try.pinned (OpenSpec.upto fnExactShiftShareSpec)

/-- 'laws.FnExactJoinSum', WHERE WHAT IT READS IS OF BULK AT MOST 1048576: true; the input reads as it did. -/
def fnExactJoinSumUptoRow : OpenClaim := { program := "ythmdgcbhoijmgaa", sum := "c6cd6adeb85ef03ec47a25e9b18372d3036ab7a195aef0897dcf9df05126f61f", func := "loop.example/g00877/laws.FnExactJoinSum", spec := "fnExactJoinSum", unfollowed := true, recurses := true, apart := false, narrowed := true }
def FnExactJoinSumUptoSaid : Prop := fnExactJoinSumUptoRow.holds Try.pinned (OpenSpec.upto fnExactJoinSumSpec)

/-- 'laws.FnExactScaleShare', WHERE WHAT IT READS IS OF BULK AT MOST 1048576: true; the input reads as it did. -/
def fnExactScaleShareUptoRow : OpenClaim := { program := "ythmdgcbhoijmgaa", sum := "c6cd6adeb85ef03ec47a25e9b18372d3036ab7a195aef0897dcf9df05126f61f", func := "loop.example/g00877/laws.FnExactScaleShare", spec := "fnExactScaleShare", unfollowed := true, recurses := true, apart := false, narrowed := true }
def FnExactScaleShareUptoSaid : Prop := fnExactScaleShareUptoRow.holds Try.pinned (OpenSpec.upto fnExactScaleShareSpec)

/-- 'laws.FnExactRefreshBits', WHERE WHAT IT READS IS OF BULK AT MOST 1048576: true; the input reads as it did. -/
def fnExactRefreshBitsUptoRow : OpenClaim := { program := "ythmdgcbhoijmgaa", sum := "c6cd6adeb85ef03ec47a25e9b18372d3036ab7a195aef0897dcf9df05126f61f", func := "loop.example/g00877/laws.FnExactRefreshBits", spec := "fnExactRefreshBits", unfollowed := true, recurses := true, apart := false, narrowed := true }
def FnExactRefreshBitsUptoSaid : Prop := fnExactRefreshBitsUptoRow.holds Try.pinned (OpenSpec.upto fnExactRefreshBitsSpec)

/-- 'laws.FnExactSplitThreshold', WHERE WHAT IT READS IS OF BULK AT MOST 1048576: true; the input reads as it did. -/
def fnExactSplitThresholdUptoRow : OpenClaim := { program := "ythmdgcbhoijmgaa", sum := "c6cd6adeb85ef03ec47a25e9b18372d3036ab7a195aef0897dcf9df05126f61f", func := "loop.example/g00877/laws.FnExactSplitThreshold", spec := "fnExactSplitThreshold", apart := false, narrowed := true }
def FnExactSplitThresholdUptoSaid : Prop := fnExactSplitThresholdUptoRow.holds Try.pinned (OpenSpec.upto fnExactSplitThresholdSpec)

/-- 'laws.FnExactSplitBits', WHERE WHAT IT READS IS OF BULK AT MOST 1048576: true; the input reads as it did. -/
def fnExactSplitBitsUptoRow : OpenClaim := { program := "ythmdgcbhoijmgaa", sum := "c6cd6adeb85ef03ec47a25e9b18372d3036ab7a195aef0897dcf9df05126f61f", func := "loop.example/g00877/laws.FnExactSplitBits", spec := "fnExactSplitBits", unfollowed := true, recurses := true, apart := false, narrowed := true }
def FnExactSplitBitsUptoSaid : Prop := fnExactSplitBitsUptoRow.holds Try.pinned (OpenSpec.upto fnExactSplitBitsSpec)

/-- 'laws.FnExactSplitSum', WHERE WHAT IT READS IS OF BULK AT MOST 1048576: true; the input reads as it did. -/
def fnExactSplitSumUptoRow : OpenClaim := { program := "ythmdgcbhoijmgaa", sum := "c6cd6adeb85ef03ec47a25e9b18372d3036ab7a195aef0897dcf9df05126f61f", func := "loop.example/g00877/laws.FnExactSplitSum", spec := "fnExactSplitSum", unfollowed := true, recurses := true, apart := false, narrowed := true }
def FnExactSplitSumUptoSaid : Prop := fnExactSplitSumUptoRow.holds Try.pinned (OpenSpec.upto fnExactSplitSumSpec)

end Rows
end Go.Proofs.Ythmdgcbhoijmgaa
