/- The rows' steps for circuits and arithmetic circuits as arguments: their readings as the walks ask them. -/
import Derived.Test.YtgpfiefhhlejfaaQRow
import Derived.Test.YtgpfiefhhlejfaaQGate
import Derived.Deep.Slices
import Derived.Deep.Fields
import Derived.Lib.SmallJoins
namespace Go.Proofs.Ytgpfiefhhlejfaa
open Go.ChangeShapes Go.WideShapes Go.ChangeAt Go.RowKit Go.Deep Go.Joins
set_option linter.unusedVariables false
set_option linter.unusedSimpArgs false

set_option maxRecDepth 100000 in
theorem RI_of_cell {H : Type} {enc : TypeId × Value → H} {W : World} {v : Value} {fuel : Nat} {y : DataW H × List MemPlace}
    (h : DataW.trod enc Try.prog W 0 (fun _ => true) true fuel 24 [v] = some y) : ∃ A n c xs, v = .slice A n c ∧ RI W A n xs ∧ n ≤ maxLen := by
  have h0 : ∃ A n c, v = .slice A n c ∧ n ≤ maxLen := by
    rcases open_ints Try.underlying24 Try.underlying3 (by kernel_rfl) h with ⟨hcs, _⟩ | ⟨x, l, c', zs, hcs, _, hl, hm, _⟩
    · exact ⟨_, _, _, (List.cons.inj hcs).1, Nat.zero_le _⟩
    · exact ⟨_, _, _, (List.cons.inj hcs).1, by omega⟩
  obtain ⟨A, n, c, rfl, hn⟩ := h0
  obtain ⟨xs, hx⟩ := RI_of_trod (W := W) (enc := enc) (a := A) (n := n) (c := c) (d := y.1) (p := y.2) ⟨fuel, by simpa [Value.cells] using h⟩
  exact ⟨A, n, c, xs, rfl, hx, hn⟩

end Go.Proofs.Ytgpfiefhhlejfaa
