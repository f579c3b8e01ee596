/- The contracts of the program's InputBits, ResultNumbers, areValues. Texts below 2^21 bytes. -/
import Derived.Test.YtjjphaiomaiilaaGreatQA
import Derived.Test.YtjjphaiomaiilaaGreatQXNbs2
namespace Go.Proofs.YtjjphaiomaiilaaGreat
open Go.RowKit
set_option linter.unusedVariables false
set_option linter.unusedSimpArgs false
theorem RetO.open_none {w w' : World} {e : Ending} (h : RetO w none e w') : ∃ A c, e = .returned (.tuple #[.slice A 0 c, .bool false]) ∧ Below w.heap.size w w' := by
  obtain ⟨A, c, h1, _, h3⟩ := h
  exact ⟨A, c, h1, h3⟩
theorem fit_1023 {ws ns : List Int} (h : fitB ws ns = true) (hw : ∀ z ∈ ws, 1 ≤ z ∧ z ≤ 10) : ws.length = ns.length ∧ ∀ k, k < ws.length → 0 ≤ gi ns k ∧ gi ns k ≤ 1023 := by
  obtain ⟨h1, h2⟩ := fitB_at h
  refine ⟨h1, fun k hk => ⟨(h2 k hk).1, ?_⟩⟩
  have h3 := (h2 k hk).2
  have h4 := hw _ (gi_mem hk)
  have h5 : 2 ^ (gi ws k).toNat ≤ 2 ^ 10 := Nat.pow_le_pow_right (by decide) (by omega)
  have h6 : ((2 ^ (gi ws k).toNat : Nat) : Int) = (2 : Int) ^ (gi ws k).toNat := by rw [Int.natCast_pow]; rfl
  have h7 : ((2 ^ (gi ws k).toNat : Nat) : Int) ≤ ((2 ^ 10 : Nat) : Int) := Int.ofNat_le.2 h5
  rw [h6] at h7
  have h8 : ((2 ^ 10 : Nat) : Int) = 1024 := rfl
  omega
theorem outs10 {l : List Ln} (h : goodP l) : (outsL l).length ≤ 10 := by rw [outsL_len]; exact h.2.2.2.2
end Go.Proofs.YtjjphaiomaiilaaGreat
