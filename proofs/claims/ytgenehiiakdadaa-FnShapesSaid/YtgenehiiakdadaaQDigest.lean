/- Contracts of copies of lists and of the keyed digest. Lengths up to 2^21, numbers up to 2^40. -/
import Derived.Test.YtgenehiiakdadaaQApp
import Derived.Test.YtgenehiiakdadaaQBits
namespace Go.Proofs.Ytgenehiiakdadaa
open Go.RowKit
set_option linter.unusedVariables false
set_option linter.unusedSimpArgs false

def dstep (a x : Int) : Int := ((25214 * a + x + 17) % 1000003) * (((25214 * a + x + 17) % 1000003) / 64 + 5) % 1000003
/-- The digest before it is cut down. -/
def dfold (a : Int) (l : List Int) : Int := l.foldl dstep a
/-- The digest of a list. -/
def dg (l : List Int) : Int := dfold (40503 + l.length) (l ++ [8, 1]) % 65536
theorem dfold_snoc (a : Int) (l : List Int) (x : Int) : dfold a (l ++ [x]) = dstep (dfold a l) x := by simp [dfold]
theorem dstep_bd (a x : Int) : 0 ≤ dstep a x ∧ dstep a x < 1000003 := ⟨Int.emod_nonneg _ (by omega), Int.emod_lt_of_pos _ (by omega)⟩
theorem dg_bd (l : List Int) : 0 ≤ dg l ∧ dg l < 65536 := ⟨Int.emod_nonneg _ (by omega), Int.emod_lt_of_pos _ (by omega)⟩
/-- The numbers are words: not greater than 2^40. -/
def wordsP (l : List Int) : Prop := ∀ x ∈ l, -1099511627776 ≤ x ∧ x ≤ 1099511627776
theorem wordsP_append {l m : List Int} (h : wordsP l) (k : wordsP m) : wordsP (l ++ m) := fun x hx => by
  rcases List.mem_append.1 hx with hx | hx
  · exact h x hx
  · exact k x hx
theorem wordsP_one {x : Int} (h : -1099511627776 ≤ x ∧ x ≤ 1099511627776) : wordsP [x] := fun y hy => by simp at hy; subst hy; exact h
theorem wordsP_two {x z : Int} (h : -1099511627776 ≤ x ∧ x ≤ 1099511627776) (k : -1099511627776 ≤ z ∧ z ≤ 1099511627776) : wordsP [x, z] := fun y hy => by
  simp at hy; rcases hy with rfl | rfl <;> assumption

theorem l1Own_any (A : Option Addr) (n c : Nat) (xs : List Int) (w : World) (ha : RI w A n xs) (hn : n ≤ 2097152) :
    Calls Try.prog 55 #[.slice A n c] w fun e w' => ∃ A' c', e = .returned (.slice A' n c') ∧ Own w' w.heap.size w'.heap.size (.slice A' n c') n xs ∧ Below w.heap.size w w' := by
  have hl := ha.len
  have hB : Below w.heap.size w (w.alloc (.cells #[] 3)) := (Below.refl _ _).alloc (Nat.le_refl _) _
  have h0 := Own_new0 w w.heap.size (Nat.le_refl _)
  go_enter Try.func55, Try.ntmps55
  go_wp2_with (at_builtin; refine wpList_app _ rfl _ _ rfl rfl h0 rfl (ha.alloc _) (by omega) (by simp) ?_; intro A' c' w1 hown hg hat)
  simp only [Nat.zero_add, List.nil_append] at hown
  go_wp2
  go_ret
  exact ⟨_, _, by simp, hown, below_app hB h0 hg (by simp) (Nat.le_refl _)⟩

theorem dstep_parts {a x : Int} (h1 : 0 ≤ a) (h2 : a ≤ 8388608) (h3 : -1099511627776 ≤ x) (h4 : x ≤ 1099511627776) :
    0 ≤ (25214 * a + x + 17) % 1000003 ∧ (25214 * a + x + 17) % 1000003 < 1000003 := ⟨Int.emod_nonneg _ (by omega), Int.emod_lt_of_pos _ (by omega)⟩
theorem dprod_bd {b : Int} (h1 : 0 ≤ b) (h2 : b < 1000003) : 0 ≤ b * (b / 64 + 5) ∧ b * (b / 64 + 5) ≤ 1000003 * 20000 := by
  have h3 : 0 ≤ b / 64 + 5 := by omega
  have h4 : b / 64 + 5 ≤ 20000 := by omega
  exact ⟨Int.mul_nonneg h1 h3, Int.mul_le_mul (by omega) h4 h3 (by omega)⟩

/-- n bits out of a list. -/
def bitsL (xs : List Int) (n : Nat) : List Int := (List.range n).map fun i : Nat => dg (xs ++ [(i : Int), 2]) / 8 % 2
theorem bitsL_len (xs : List Int) (n : Nat) : (bitsL xs n).length = n := by simp [bitsL]
theorem bitsL_snoc (xs : List Int) (n : Nat) : bitsL xs (n + 1) = bitsL xs n ++ [dg (xs ++ [(n : Int), 2]) / 8 % 2] := by simp [bitsL, List.range_succ]
theorem bitsL_bd (xs : List Int) (n : Nat) : ∀ x ∈ bitsL xs n, 0 ≤ x ∧ x ≤ 1 := by
  intro x hx
  obtain ⟨i, _, rfl⟩ := List.mem_map.1 hx
  omega

end Go.Proofs.Ytgenehiiakdadaa
