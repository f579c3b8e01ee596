/-
  No cell of these rows narrows 'for every input' (looked for: loops, veiled, ifaces, maps, wideKeys, modest, calm, conditions, laid).
  DERIVED. THE GIVEN ROWS OF THIS SEAT. 9 by the template 'for every input the law returns true; each argument reads behind the call as it read before'; 0 by the template 'total and deterministic' (their statements: YtjjphaiomaiilaaGreatTotals.lean).
  GIVEN WITH THE SEED: the statements are not yours to turn. If you find one false, say at which input.
  Laid BY PROGRAM, IN A SANDBOX (cutbox-rows.mjs): the forced cells as the released guide's own fill.sh prints them over the translation 32946e0faf1f7e3b… (all of the seat's roots in one cut). By AI agents, Wed Nov 11 2026. No macro, syntax, notation, axiom, sorry.
-/
import Derived.Test.YtjjphaiomaiilaaGreatChecked
import GoSem.Claim
import GoSem.ClaimJoined
import GoSem.ClaimMapViews
import Derived.JoinedTies
import Derived.KernelRfl
namespace Go.Proofs.YtjjphaiomaiilaaGreat
/- THE CELL 'sum', in the pinned program and in every row, IS THE sha256 OF THE DUMP (.gsa) THAT YtjjphaiomaiilaaGreatProg.lean LOADS. Nothing in Lean hashes anything: it is a label: what it is worth is what the hold of that sum in a sandbox is worth. -/
noncomputable def Tryz.pinned : Pinned := { name := "ytjjphaiomaiilaagreat", sum := "32946e0faf1f7e3b712fdf2569001d541fb7dd1f8a8b61fa8ad3a4eac4b6c995", checked := Tryz.checked }
namespace Rows
def none {H : Type} : Left H := { results := [], args := [] }

/-- 'laws.FnExactLineOfGate': WHATEVER THE INPUT: true; the input reads as it did. -/
def fnExactLineOfGateSpec : ChangeSpec := { name := "fnExactLineOfGate", fn := fun _ => fun
  | [d1, d2] => { results := [.lit (.bool true)], args := [d1, d2] }
  | _ => none }
def fnExactLineOfGateRow : OpenClaim := { program := "ytjjphaiomaiilaagreat", sum := "32946e0faf1f7e3b712fdf2569001d541fb7dd1f8a8b61fa8ad3a4eac4b6c995", func := "loop.example/g00877/laws.FnExactLineOfGate", spec := "fnExactLineOfGate", inPlace := ["internal/bytealg.IndexByteString", "internal/bytealg.IndexString"], unfollowed := true, recurses := true, named := ["internal/bytealg.MaxLen"], apart := false }
def FnExactLineOfGateSaid : Prop := fnExactLineOfGateRow.holds Tryz.pinned (OpenSpec.ofChange fnExactLineOfGateSpec)

/-- ITS FALSE NEIGHBOUR: 'it returns false'. Refute it at one input. -/
def fnExactLineOfGateWrong : ChangeSpec := { name := "fnExactLineOfGate", fn := fun _ => fun
  | [d1, d2] => { results := [.lit (.bool false)], args := [d1, d2] }
  | _ => none }
def FnExactLineOfGateWrongFalsely : Prop := fnExactLineOfGateRow.holds Tryz.pinned (OpenSpec.ofChange fnExactLineOfGateWrong)

/-- 'laws.FnExactWiresOf': WHATEVER THE INPUT: true; the input reads as it did. -/
def fnExactWiresOfSpec : ChangeSpec := { name := "fnExactWiresOf", fn := fun _ => fun
  | [d1, d2] => { results := [.lit (.bool true)], args := [d1, d2] }
  | _ => none }
def fnExactWiresOfRow : OpenClaim := { program := "ytjjphaiomaiilaagreat", sum := "32946e0faf1f7e3b712fdf2569001d541fb7dd1f8a8b61fa8ad3a4eac4b6c995", func := "loop.example/g00877/laws.FnExactWiresOf", spec := "fnExactWiresOf", inPlace := ["internal/bytealg.IndexByteString", "internal/bytealg.IndexString"], unfollowed := true, recurses := true, named := ["internal/bytealg.MaxLen"], apart := false }
def FnExactWiresOfSaid : Prop := fnExactWiresOfRow.holds Tryz.pinned (OpenSpec.ofChange fnExactWiresOfSpec)

/-- ITS FALSE NEIGHBOUR: 'it returns false'. Refute it at one input. -/
def fnExactWiresOfWrong : ChangeSpec := { name := "fnExactWiresOf", fn := fun _ => fun
  | [d1, d2] => { results := [.lit (.bool false)], args := [d1, d2] }
  | _ => none }
def FnExactWiresOfWrongFalsely : Prop := fnExactWiresOfRow.holds Tryz.pinned (OpenSpec.ofChange fnExactWiresOfWrong)

/-- 'laws.FnExactAndsByLine': WHATEVER THE INPUT: true; the input reads as it did. -/
def fnExactAndsByLineSpec : ChangeSpec := { name := "fnExactAndsByLine", fn := fun _ => fun
  | [d] => { results := [.lit (.bool true)], args := [d] }
  | _ => none }
def fnExactAndsByLineRow : OpenClaim := { program := "ytjjphaiomaiilaagreat", sum := "32946e0faf1f7e3b712fdf2569001d541fb7dd1f8a8b61fa8ad3a4eac4b6c995", func := "loop.example/g00877/laws.FnExactAndsByLine", spec := "fnExactAndsByLine", inPlace := ["internal/bytealg.IndexByteString", "internal/bytealg.IndexString"], unfollowed := true, recurses := true, named := ["internal/bytealg.MaxLen"], apart := false }
def FnExactAndsByLineSaid : Prop := fnExactAndsByLineRow.holds Tryz.pinned (OpenSpec.ofChange fnExactAndsByLineSpec)

/-- ITS FALSE NEIGHBOUR: 'it returns false'. Refute it at one input. -/
def fnExactAndsByLineWrong : ChangeSpec := { name := "fnExactAndsByLine", fn := fun _ => fun
  | [d] => { results := [.lit (.bool false)], args := [d] }
  | _ => none }
def FnExactAndsByLineWrongFalsely : Prop := fnExactAndsByLineRow.holds Tryz.pinned (OpenSpec.ofChange fnExactAndsByLineWrong)

/-- 'laws.FnExactResultNumbers': WHATEVER THE INPUT: true; the input reads as it did. -/
def fnExactResultNumbersSpec : ChangeSpec := { name := "fnExactResultNumbers", fn := fun _ => fun
  | [d1, d2] => { results := [.lit (.bool true)], args := [d1, d2] }
  | _ => none }
def fnExactResultNumbersRow : OpenClaim := { program := "ytjjphaiomaiilaagreat", sum := "32946e0faf1f7e3b712fdf2569001d541fb7dd1f8a8b61fa8ad3a4eac4b6c995", func := "loop.example/g00877/laws.FnExactResultNumbers", spec := "fnExactResultNumbers", inPlace := ["internal/bytealg.IndexByteString", "internal/bytealg.IndexString"], unfollowed := true, recurses := true, named := ["internal/bytealg.MaxLen"], apart := false }
def FnExactResultNumbersSaid : Prop := fnExactResultNumbersRow.holds Tryz.pinned (OpenSpec.ofChange fnExactResultNumbersSpec)

/-- ITS FALSE NEIGHBOUR: 'it returns false'. Refute it at one input. -/
def fnExactResultNumbersWrong : ChangeSpec := { name := "fnExactResultNumbers", fn := fun _ => fun
  | [d1, d2] => { results := [.lit (.bool false)], args := [d1, d2] }
  | _ => none }
def FnExactResultNumbersWrongFalsely : Prop := fnExactResultNumbersRow.holds Tryz.pinned (OpenSpec.ofChange fnExactResultNumbersWrong)

/-- 'laws.FnExactInputBits': WHATEVER THE INPUT: true; the input reads as it did. -/
def fnExactInputBitsSpec : ChangeSpec := { name := "fnExactInputBits", fn := fun _ => fun
  | [d1, d2, d3] => { results := [.lit (.bool true)], args := [d1, d2, d3] }
  | _ => none }
def fnExactInputBitsRow : OpenClaim := { program := "ytjjphaiomaiilaagreat", sum := "32946e0faf1f7e3b712fdf2569001d541fb7dd1f8a8b61fa8ad3a4eac4b6c995", func := "loop.example/g00877/laws.FnExactInputBits", spec := "fnExactInputBits", inPlace := ["internal/bytealg.IndexByteString", "internal/bytealg.IndexString"], unfollowed := true, recurses := true, named := ["internal/bytealg.MaxLen"], apart := false }
def FnExactInputBitsSaid : Prop := fnExactInputBitsRow.holds Tryz.pinned (OpenSpec.ofChange fnExactInputBitsSpec)

/-- ITS FALSE NEIGHBOUR: 'it returns false'. Refute it at one input. -/
def fnExactInputBitsWrong : ChangeSpec := { name := "fnExactInputBits", fn := fun _ => fun
  | [d1, d2, d3] => { results := [.lit (.bool false)], args := [d1, d2, d3] }
  | _ => none }
def FnExactInputBitsWrongFalsely : Prop := fnExactInputBitsRow.holds Tryz.pinned (OpenSpec.ofChange fnExactInputBitsWrong)

/-- 'laws.FnExactCompileProgram': WHATEVER THE INPUT: true; the input reads as it did. -/
def fnExactCompileProgramSpec : ChangeSpec := { name := "fnExactCompileProgram", fn := fun _ => fun
  | [d] => { results := [.lit (.bool true)], args := [d] }
  | _ => none }
def fnExactCompileProgramRow : OpenClaim := { program := "ytjjphaiomaiilaagreat", sum := "32946e0faf1f7e3b712fdf2569001d541fb7dd1f8a8b61fa8ad3a4eac4b6c995", func := "loop.example/g00877/laws.FnExactCompileProgram", spec := "fnExactCompileProgram", inPlace := ["internal/bytealg.IndexByteString", "internal/bytealg.IndexString"], unfollowed := true, recurses := true, named := ["internal/bytealg.MaxLen"], apart := false }
def FnExactCompileProgramSaid : Prop := fnExactCompileProgramRow.holds Tryz.pinned (OpenSpec.ofChange fnExactCompileProgramSpec)

/-- ITS FALSE NEIGHBOUR: 'it returns false'. Refute it at one input. -/
def fnExactCompileProgramWrong : ChangeSpec := { name := "fnExactCompileProgram", fn := fun _ => fun
  | [d] => { results := [.lit (.bool false)], args := [d] }
  | _ => none }
def FnExactCompileProgramWrongFalsely : Prop := fnExactCompileProgramRow.holds Tryz.pinned (OpenSpec.ofChange fnExactCompileProgramWrong)

/-- 'laws.FnExactCountInputsFor': WHATEVER THE INPUT: true; the input reads as it did. -/
def fnExactCountInputsForSpec : ChangeSpec := { name := "fnExactCountInputsFor", fn := fun _ => fun
  | [d1, d2] => { results := [.lit (.bool true)], args := [d1, d2] }
  | _ => none }
def fnExactCountInputsForRow : OpenClaim := { program := "ytjjphaiomaiilaagreat", sum := "32946e0faf1f7e3b712fdf2569001d541fb7dd1f8a8b61fa8ad3a4eac4b6c995", func := "loop.example/g00877/laws.FnExactCountInputsFor", spec := "fnExactCountInputsFor", inPlace := ["internal/bytealg.IndexByteString", "internal/bytealg.IndexString"], unfollowed := true, recurses := true, named := ["internal/bytealg.MaxLen"], apart := false }
def FnExactCountInputsForSaid : Prop := fnExactCountInputsForRow.holds Tryz.pinned (OpenSpec.ofChange fnExactCountInputsForSpec)

/-- ITS FALSE NEIGHBOUR: 'it returns false'. Refute it at one input. -/
def fnExactCountInputsForWrong : ChangeSpec := { name := "fnExactCountInputsFor", fn := fun _ => fun
  | [d1, d2] => { results := [.lit (.bool false)], args := [d1, d2] }
  | _ => none }
def FnExactCountInputsForWrongFalsely : Prop := fnExactCountInputsForRow.holds Tryz.pinned (OpenSpec.ofChange fnExactCountInputsForWrong)

/-- 'laws.FnExactRunCompiled': WHATEVER THE INPUT: true; the input reads as it did. -/
def fnExactRunCompiledSpec : ChangeSpec := { name := "fnExactRunCompiled", fn := fun _ => fun
  | [d1, d2, d3] => { results := [.lit (.bool true)], args := [d1, d2, d3] }
  | _ => none }
def fnExactRunCompiledRow : OpenClaim := { program := "ytjjphaiomaiilaagreat", sum := "32946e0faf1f7e3b712fdf2569001d541fb7dd1f8a8b61fa8ad3a4eac4b6c995", func := "loop.example/g00877/laws.FnExactRunCompiled", spec := "fnExactRunCompiled", inPlace := ["internal/bytealg.IndexByteString", "internal/bytealg.IndexString"], unfollowed := true, recurses := true, named := ["internal/bytealg.MaxLen"], apart := false }
def FnExactRunCompiledSaid : Prop := fnExactRunCompiledRow.holds Tryz.pinned (OpenSpec.ofChange fnExactRunCompiledSpec)

/-- ITS FALSE NEIGHBOUR: 'it returns false'. Refute it at one input. -/
def fnExactRunCompiledWrong : ChangeSpec := { name := "fnExactRunCompiled", fn := fun _ => fun
  | [d1, d2, d3] => { results := [.lit (.bool false)], args := [d1, d2, d3] }
  | _ => none }
def FnExactRunCompiledWrongFalsely : Prop := fnExactRunCompiledRow.holds Tryz.pinned (OpenSpec.ofChange fnExactRunCompiledWrong)

/-- 'laws.FnExactCandidatesFor': WHATEVER THE INPUT: true; the input reads as it did. -/
def fnExactCandidatesForSpec : ChangeSpec := { name := "fnExactCandidatesFor", fn := fun _ => fun
  | [d1, d2, d3, d4] => { results := [.lit (.bool true)], args := [d1, d2, d3, d4] }
  | _ => none }
def fnExactCandidatesForRow : OpenClaim := { program := "ytjjphaiomaiilaagreat", sum := "32946e0faf1f7e3b712fdf2569001d541fb7dd1f8a8b61fa8ad3a4eac4b6c995", func := "loop.example/g00877/laws.FnExactCandidatesFor", spec := "fnExactCandidatesFor", inPlace := ["internal/bytealg.IndexByteString", "internal/bytealg.IndexString"], unfollowed := true, recurses := true, named := ["internal/bytealg.MaxLen"], apart := false }
def FnExactCandidatesForSaid : Prop := fnExactCandidatesForRow.holds Tryz.pinned (OpenSpec.ofChange fnExactCandidatesForSpec)

/-- ITS FALSE NEIGHBOUR: 'it returns false'. Refute it at one input. -/
def fnExactCandidatesForWrong : ChangeSpec := { name := "fnExactCandidatesFor", fn := fun _ => fun
  | [d1, d2, d3, d4] => { results := [.lit (.bool false)], args := [d1, d2, d3, d4] }
  | _ => none }
def FnExactCandidatesForWrongFalsely : Prop := fnExactCandidatesForRow.holds Tryz.pinned (OpenSpec.ofChange fnExactCandidatesForWrong)

/- THE SECOND FORM. 'bulk': how many values and letters a reading holds, each counted each time it is reached (what is shared counts as often as it is met; a slice's spare places count too). A statement '..UptoSaid' is the law's where the arguments, and the package variables that the reading takes, are together of bulk at most 1048576: NARROWER than '..Said'. Prove '..Said' where nothing that the law and all that it calls make is longer than what came in: it says more and counts as full. Else prove '..UptoSaid'. A law counts once. -/
mutual
def uptoBulk {H : Type} : DataW H → Nat
  | .lit (.string bytes) => bytes.length + 1
  | .lit _ => 1
  | .nil => 1
  | .ptr d => uptoBulk d + 1
  | .slice elems spare => uptoBulkAll elems + uptoBulkAll spare + 1
  | .agg parts => uptoBulkAll parts + 1
  | .iface _ d => uptoBulk d + 1
  | .map entries => uptoBulkEntries entries + 1
  | .held _ => 1
def uptoBulkAll {H : Type} : List (DataW H) → Nat
  | [] => 0
  | d :: r => uptoBulk d + uptoBulkAll r
def uptoBulkEntries {H : Type} : List (Lit × DataW H) → Nat
  | [] => 0
  | x :: r => uptoBulkEntry x + uptoBulkEntries r
def uptoBulkEntry {H : Type} : Lit × DataW H → Nat
  | (.string bytes, d) => bytes.length + uptoBulk d + 1
  | (_, d) => uptoBulk d + 1
 end
def uptoSmall : (H : Type) → List (DataW H) → Bool := fun _ ds => decide (uptoBulkAll ds ≤ 1048576)
def OpenSpec.upto (s : _root_.Go.ChangeSpec) : _root_.Go.OpenSpec := { _root_.Go.OpenSpec.ofChange s with cond := some uptoSmall }

/-- 'laws.FnExactLineOfGate', WHERE WHAT IT READS IS OF BULK AT MOST 1048576: true; the input reads as it did. -/
def fnExactLineOfGateUptoRow : OpenClaim := { program := "ytjjphaiomaiilaagreat", sum := "32946e0faf1f7e3b712fdf2569001d541fb7dd1f8a8b61fa8ad3a4eac4b6c995", func := "loop.example/g00877/laws.FnExactLineOfGate", spec := "fnExactLineOfGate", inPlace := ["internal/bytealg.IndexByteString", "internal/bytealg.IndexString"], unfollowed := true, recurses := true, named := ["internal/bytealg.MaxLen"], apart := false, narrowed := true }
def FnExactLineOfGateUptoSaid : Prop := fnExactLineOfGateUptoRow.holds Tryz.pinned (OpenSpec.upto fnExactLineOfGateSpec)

/-- 'laws.FnExactWiresOf', WHERE WHAT IT READS IS OF BULK AT MOST 1048576: true; the input reads as it did. -/
def fnExactWiresOfUptoRow : OpenClaim := { program := "ytjjphaiomaiilaagreat", sum := "32946e0faf1f7e3b712fdf2569001d541fb7dd1f8a8b61fa8ad3a4eac4b6c995", func := "loop.example/g00877/laws.FnExactWiresOf", spec := "fnExactWiresOf", inPlace := ["internal/bytealg.IndexByteString", "internal/bytealg.IndexString"], unfollowed := true, recurses := true, named := ["internal/bytealg.MaxLen"], apart := false, narrowed := true }
def FnExactWiresOfUptoSaid : Prop := fnExactWiresOfUptoRow.holds Tryz.pinned (OpenSpec.upto fnExactWiresOfSpec)

/-- 'laws.FnExactAndsByLine', WHERE WHAT IT READS IS OF BULK AT MOST 1048576: true; the input reads as it did. -/
def fnExactAndsByLineUptoRow : OpenClaim := { program := "ytjjphaiomaiilaagreat", sum := "32946e0faf1f7e3b712fdf2569001d541fb7dd1f8a8b61fa8ad3a4eac4b6c995", func := "loop.example/g00877/laws.FnExactAndsByLine", spec := "fnExactAndsByLine", inPlace := ["internal/bytealg.IndexByteString", "internal/bytealg.IndexString"], unfollowed := true, recurses := true, named := ["internal/bytealg.MaxLen"], apart := false, narrowed := true }
def FnExactAndsByLineUptoSaid : Prop := fnExactAndsByLineUptoRow.holds Tryz.pinned (OpenSpec.upto fnExactAndsByLineSpec)

/-- 'laws.FnExactResultNumbers', WHERE WHAT IT READS IS OF BULK AT MOST 1048576: true; the input reads as it did. -/
def fnExactResultNumbersUptoRow : OpenClaim := { program := "ytjjphaiomaiilaagreat", sum := "32946e0faf1f7e3b712fdf2569001d541fb7dd1f8a8b61fa8ad3a4eac4b6c995", func := "loop.example/g00877/laws.FnExactResultNumbers", spec := "fnExactResultNumbers", inPlace := ["internal/bytealg.IndexByteString", "internal/bytealg.IndexString"], unfollowed := true, recurses := true, named := ["internal/bytealg.MaxLen"], apart := false, narrowed := true }
def FnExactResultNumbersUptoSaid : Prop := fnExactResultNumbersUptoRow.holds Tryz.pinned (OpenSpec.upto fnExactResultNumbersSpec)

/-- 'laws.FnExactInputBits', WHERE WHAT IT READS IS OF BULK AT MOST 1048576: true; the input reads as it did. -/
def fnExactInputBitsUptoRow : OpenClaim := { program := "ytjjphaiomaiilaagreat", sum := "32946e0faf1f7e3b712fdf2569001d541fb7dd1f8a8b61fa8ad3a4eac4b6c995", func := "loop.example/g00877/laws.FnExactInputBits", spec := "fnExactInputBits", inPlace := ["internal/bytealg.IndexByteString", "internal/bytealg.IndexString"], unfollowed := true, recurses := true, named := ["internal/bytealg.MaxLen"], apart := false, narrowed := true }
def FnExactInputBitsUptoSaid : Prop := fnExactInputBitsUptoRow.holds Tryz.pinned (OpenSpec.upto fnExactInputBitsSpec)

/-- 'laws.FnExactCompileProgram', WHERE WHAT IT READS IS OF BULK AT MOST 1048576: true; the input reads as it did. -/
def fnExactCompileProgramUptoRow : OpenClaim := { program := "ytjjphaiomaiilaagreat", sum := "32946e0faf1f7e3b712fdf2569001d541fb7dd1f8a8b61fa8ad3a4eac4b6c995", func := "loop.example/g00877/laws.FnExactCompileProgram", spec := "fnExactCompileProgram", inPlace := ["internal/bytealg.IndexByteString", "internal/bytealg.IndexString"], unfollowed := true, recurses := true, named := ["internal/bytealg.MaxLen"], apart := false, narrowed := true }
def FnExactCompileProgramUptoSaid : Prop := fnExactCompileProgramUptoRow.holds Tryz.pinned (OpenSpec.upto fnExactCompileProgramSpec)

/-- 'laws.FnExactCountInputsFor', WHERE WHAT IT READS IS OF BULK AT MOST 1048576: true; the input reads as it did. -/
def fnExactCountInputsForUptoRow : OpenClaim := { program := "ytjjphaiomaiilaagreat", sum := "32946e0faf1f7e3b712fdf2569001d541fb7dd1f8a8b61fa8ad3a4eac4b6c995", func := "loop.example/g00877/laws.FnExactCountInputsFor", spec := "fnExactCountInputsFor", inPlace := ["internal/bytealg.IndexByteString", "internal/bytealg.IndexString"], unfollowed := true, recurses := true, named := ["internal/bytealg.MaxLen"], apart := false, narrowed := true }
def FnExactCountInputsForUptoSaid : Prop := fnExactCountInputsForUptoRow.holds Tryz.pinned (OpenSpec.upto fnExactCountInputsForSpec)

/-- 'laws.FnExactRunCompiled', WHERE WHAT IT READS IS OF BULK AT MOST 1048576: true; the input reads as it did. -/
def fnExactRunCompiledUptoRow : OpenClaim := { program := "ytjjphaiomaiilaagreat", sum := "32946e0faf1f7e3b712fdf2569001d541fb7dd1f8a8b61fa8ad3a4eac4b6c995", func := "loop.example/g00877/laws.FnExactRunCompiled", spec := "fnExactRunCompiled", inPlace := ["internal/bytealg.IndexByteString", "internal/bytealg.IndexString"], unfollowed := true, recurses := true, named := ["internal/bytealg.MaxLen"], apart := false, narrowed := true }
def FnExactRunCompiledUptoSaid : Prop := fnExactRunCompiledUptoRow.holds Tryz.pinned (OpenSpec.upto fnExactRunCompiledSpec)

/-- 'laws.FnExactCandidatesFor', WHERE WHAT IT READS IS OF BULK AT MOST 1048576: true; the input reads as it did. -/
def fnExactCandidatesForUptoRow : OpenClaim := { program := "ytjjphaiomaiilaagreat", sum := "32946e0faf1f7e3b712fdf2569001d541fb7dd1f8a8b61fa8ad3a4eac4b6c995", func := "loop.example/g00877/laws.FnExactCandidatesFor", spec := "fnExactCandidatesFor", inPlace := ["internal/bytealg.IndexByteString", "internal/bytealg.IndexString"], unfollowed := true, recurses := true, named := ["internal/bytealg.MaxLen"], apart := false, narrowed := true }
def FnExactCandidatesForUptoSaid : Prop := fnExactCandidatesForUptoRow.holds Tryz.pinned (OpenSpec.upto fnExactCandidatesForSpec)

end Rows
end Go.Proofs.YtjjphaiomaiilaaGreat
