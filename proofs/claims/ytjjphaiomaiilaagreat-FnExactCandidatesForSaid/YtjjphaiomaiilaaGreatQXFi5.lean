/- The contract of the program's CountInputsFor. Texts below 2^21 bytes. -/
import Derived.Test.YtjjphaiomaiilaaGreatQXFi4
import Derived.Test.YtjjphaiomaiilaaGreatQA
namespace Go.Proofs.YtjjphaiomaiilaaGreat
open Go.RowKit
set_option linter.unusedVariables false
set_option linter.unusedSimpArgs false
theorem same_num {ws ns bits : List Int} (hw : ∀ z ∈ ws, 1 ≤ z ∧ z ≤ 10) (hf : fitB ws ns = true) (hb : allB 0 1 bits = true) (hs : bits.length = offs ws ws.length) : sameB (numK ws bits ws.length) ns = sameB bits (bitsK ws ns ws.length) := by
  obtain ⟨h1, h2⟩ := fitB_at hf
  have h := num_bits hw h1 h2 hb hs
  unfold sameB
  exact decide_eq_decide.2 h
def hitB (l : List Ln) (rs bits : List Int) : Bool := sameB (runB l bits) (bitsK (outsL l) rs (outsL l).length)
end Go.Proofs.YtjjphaiomaiilaaGreat
