/- Contracts of the bits of a number, the number of bits, the outs of a circuit. -/
import Derived.Test.YtgenehiiakdadaaQNum
import Derived.Test.YtgenehiiakdadaaQEval2
namespace Go.Proofs.Ytgenehiiakdadaa
open Go.RowKit
set_option linter.unusedVariables false
set_option linter.unusedSimpArgs false

theorem or_shift {z x : Int} {i : Nat} (hz : 0 ≤ z ∧ z < 2 ^ i) (hx : 0 ≤ x ∧ x ≤ 1) (hi : i < 40) : bits .or .i64 z (wrap64 (x * 2 ^ i)) = z + x * 2 ^ i := by
  obtain ⟨Z, rfl⟩ := Int.eq_ofNat_of_zero_le hz.1
  obtain ⟨X, rfl⟩ := Int.eq_ofNat_of_zero_le hx.1
  have hX : X ≤ 1 := by omega
  have h1 : Z < 2 ^ i := by have := hz.2; exact_mod_cast this
  have h2 : 2 ^ i ≤ 2 ^ 40 := Nat.pow_le_pow_right (by omega) (by omega)
  have h3 : (2 : Nat) ^ 40 = 1099511627776 := by decide
  have h5 : X * 2 ^ i ≤ 1 * 2 ^ i := Nat.mul_le_mul_right _ hX
  have h4 : ((X : Int) * 2 ^ i) = ((X * 2 ^ i : Nat) : Int) := by rw [Int.natCast_mul, Int.natCast_pow]; rfl
  have h6 : wrap64 ((X : Int) * 2 ^ i) = ((X * 2 ^ i : Nat) : Int) := by rw [h4]; exact IntWalk.wrap64_in ((X * 2 ^ i : Nat) : Int) (by omega)
  rw [h6, h4, bor_nat (by omega) (by omega), or_place h1]; omega
theorem bnext {a b c : World} (h : Below a.heap.size a b) (k : Below b.heap.size b c) : Below a.heap.size a c := h.trans (k.mono h.size)

end Go.Proofs.Ytgenehiiakdadaa
