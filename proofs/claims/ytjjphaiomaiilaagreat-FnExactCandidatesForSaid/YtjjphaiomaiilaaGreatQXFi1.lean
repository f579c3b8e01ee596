/- The contracts of LineOfGate, WiresOf and AndsByLine. Texts below 2^21 bytes. -/
import Derived.Test.YtjjphaiomaiilaaGreatQA
namespace Go.Proofs.YtjjphaiomaiilaaGreat
open Go.RowKit
set_option linter.unusedVariables false
set_option linter.unusedSimpArgs false
theorem Wi.at_ {w : World} {lo n c j : Nat} {ow : Bool} {bl : List (Option Nat)} {A : Option Addr} {xss : List (List Int)} (h : Wi w lo ow bl A c n xss) (hj : j < n) :
    ∃ g P d, A = some ⟨g, 0, none⟩ ∧ w.cell? ⟨g, j, none⟩ = some (.slice P (gl xss j).length d) ∧ RI w P (gl xss j).length (gl xss j) ∧ (ow = true → Own w lo w.heap.size (.slice P (gl xss j).length d) (gl xss j).length (gl xss j)) ∧ ∀ q o, P = some ⟨q, o, none⟩ → lo ≤ q ∧ q < w.heap.size := by
  obtain ⟨vals, h1, h2, h3⟩ := h
  obtain ⟨g, cap, hv, hgl, hgs⟩ := h1.form (by omega)
  simp only [Value.slice.injEq, true_and] at hv
  obtain ⟨rfl, rfl⟩ := hv
  obtain ⟨P, d, h4, h5, h6, h7, h8⟩ := h3 j hj
  exact ⟨g, P, d, rfl, by rw [h1.cellAt j (by omega), h4], h5, h7, fun q o hq => ⟨h8 q o hq, (h6 q o hq).2⟩⟩
end Go.Proofs.YtjjphaiomaiilaaGreat
