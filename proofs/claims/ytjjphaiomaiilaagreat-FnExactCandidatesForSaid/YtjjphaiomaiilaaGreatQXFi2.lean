/- The contract of AndsByLine. Texts below 2^21 bytes. -/
import Derived.Test.YtjjphaiomaiilaaGreatQXFi1
namespace Go.Proofs.YtjjphaiomaiilaaGreat
open Go.RowKit
set_option linter.unusedVariables false
set_option linter.unusedSimpArgs false
theorem OwnG.cap {w : World} {lo hi n c : Nat} {A : Option Addr} {gs : List G3} (h : OwnG w lo hi (.slice A n c) n gs) : n ≤ c := by
  rcases h.1.2 with ⟨hv, h0⟩ | ⟨g, cap, cur, hv, _, _, hc, _⟩
  · omega
  · simp only [Value.slice.injEq, true_and] at hv
    omega
theorem Own.cap {w : World} {lo hi n c : Nat} {A : Option Addr} {xs : List Int} (h : Own w lo hi (.slice A n c) n xs) : n ≤ c := by
  rcases h.1.2 with ⟨hv, h0⟩ | ⟨g, cap, cur, hv, _, _, hc, _⟩
  · omega
  · simp only [Value.slice.injEq, true_and] at hv
    omega
end Go.Proofs.YtjjphaiomaiilaaGreat
