/- Plain functions on numbers and lists that the contracts speak of; no program in sight. -/
import Derived.Test.YtgenehiiakdadaaQBase
namespace Go.Proofs.Ytgenehiiakdadaa
open Go.RowKit
set_option linter.unusedVariables false
set_option linter.unusedSimpArgs false

/-- x lies between lo and hi. -/
def inB (lo hi x : Int) : Bool := decide (lo ≤ x ∧ x ≤ hi)
theorem inB_iff {lo hi x : Int} : inB lo hi x = true ↔ lo ≤ x ∧ x ≤ hi := by simp [inB]
theorem inB_t {lo hi x : Int} (h : lo ≤ x ∧ x ≤ hi) : inB lo hi x = true := inB_iff.2 h
theorem inB_f {lo hi x : Int} (h : ¬ (lo ≤ x ∧ x ≤ hi)) : inB lo hi x = false := by
  cases hc : inB lo hi x with
  | false => rfl
  | true => exact absurd (inB_iff.1 hc) h
theorem inB_not {lo hi x : Int} (h : inB lo hi x = false) : ¬ (lo ≤ x ∧ x ≤ hi) := fun hc => by rw [inB_t hc] at h; cases h
/-- All numbers lie between lo and hi. -/
def allB (lo hi : Int) (xs : List Int) : Bool := xs.all (inB lo hi)
theorem allB_iff {lo hi : Int} {xs : List Int} : allB lo hi xs = true ↔ ∀ x ∈ xs, lo ≤ x ∧ x ≤ hi := by simp [allB, inB]
theorem allB_gi {lo hi : Int} {xs : List Int} (h : allB lo hi xs = true) {j : Nat} (hj : j < xs.length) : lo ≤ gi xs j ∧ gi xs j ≤ hi := allB_iff.1 h _ (gi_mem hj)
theorem allB_take {lo hi : Int} {xs : List Int} {k : Nat} (h : k < xs.length) : allB lo hi (xs.take (k + 1)) = (allB lo hi (xs.take k) && inB lo hi (gi xs k)) := by
  rw [gi_take_snoc h]; simp [allB]
theorem allB_false {lo hi : Int} {xs : List Int} {k : Nat} (h : k < xs.length) (hk : inB lo hi (gi xs k) = false) : allB lo hi xs = false := by
  cases hc : allB lo hi xs with
  | false => rfl
  | true => exact absurd (allB_gi hc h) (inB_not hk)

/-- No number from 2 on, below k, divides p. -/
def noDiv (p : Int) (k : Nat) : Prop := ∀ d : Nat, 2 ≤ d → d < k → p % (d : Int) ≠ 0
/-- p is a prime up to 251. -/
def primeB (p : Int) : Bool := decide (2 ≤ p ∧ p ≤ 251) && (List.range 16).all fun d => decide (2 ≤ d → (d : Int) * d ≤ p → p % (d : Int) ≠ 0)
theorem primeB_bd {p : Int} (h : primeB p = true) : 2 ≤ p ∧ p ≤ 251 := by simp only [primeB, Bool.and_eq_true, decide_eq_true_eq] at h; exact h.1
theorem primeB_out {p : Int} (h : ¬ (2 ≤ p ∧ p ≤ 251)) : primeB p = false := by
  cases hc : primeB p with
  | false => rfl
  | true => exact absurd (primeB_bd hc) h
theorem primeB_div {p : Int} {k : Nat} (h2 : 2 ≤ k) (hk : k < 16) (hkk : (k : Int) * k ≤ p) (h : p % (k : Int) = 0) : primeB p = false := by
  cases hc : primeB p with
  | false => rfl
  | true =>
    simp only [primeB, Bool.and_eq_true, List.all_eq_true, decide_eq_true_eq, List.mem_range] at hc
    exact absurd h (hc.2 k hk h2 hkk)
theorem primeB_none {p : Int} {k : Nat} (h1 : 2 ≤ p) (h2 : p ≤ 251) (hk : p < (k : Int) * k) (h : noDiv p k) : primeB p = true := by
  simp only [primeB, Bool.and_eq_true, List.all_eq_true, decide_eq_true_eq, List.mem_range]
  refine ⟨⟨h1, h2⟩, fun d _ hd hdp => h d hd ?_⟩
  rcases Nat.lt_or_ge d k with hlt | hge
  · exact hlt
  · have : (k : Int) * k ≤ (d : Int) * d := Int.mul_le_mul (by omega) (by omega) (by omega) (by omega)
    omega
theorem noDiv_two (p : Int) : noDiv p 2 := fun d h1 h2 => by omega
theorem noDiv_succ {p : Int} {k : Nat} (h : noDiv p k) (hk : (p % (k : Int) == 0) = false) : noDiv p (k + 1) := fun d h1 h2 => by
  rcases Nat.lt_or_ge d k with hlt | hge
  · exact h d h1 hlt
  · obtain rfl : d = k := by omega
    simpa using hk

/-- The place of the first number with p, -1 if there is none. -/
def idxP (p : Int → Bool) (xs : List Int) : Int := if xs.any p then (xs.findIdx p : Int) else -1
theorem idxP_none {p : Int → Bool} {xs : List Int} (h : xs.any p = false) : idxP p xs = -1 := by simp [idxP, h]
theorem idxP_some {p : Int → Bool} {xs : List Int} {k : Nat} (h : k < xs.length) (h1 : (xs.take k).any p = false) (h2 : p (gi xs k) = true) : idxP p xs = k := by
  have hx : xs.any p = true := by simp only [List.any_eq_true]; exact ⟨_, gi_mem h, h2⟩
  rw [idxP, if_pos hx]
  have : xs.findIdx p = k := by
    rw [List.findIdx_eq h]
    rw [gi_lt h] at h2
    refine ⟨h2, fun j hj => ?_⟩
    have := List.any_eq_false.1 h1 (xs[j]'(by omega)) (List.mem_take_iff_getElem.2 ⟨j, by omega, rfl⟩)
    simpa using this
  rw [this]
theorem any_take_succ {p : Int → Bool} {xs : List Int} {k : Nat} (h : k < xs.length) (h1 : (xs.take k).any p = false) (h2 : p (gi xs k) = false) : (xs.take (k + 1)).any p = false := by
  rw [gi_take_snoc h]; simp only [List.any_append, h1, List.any_cons, h2, List.any_nil, Bool.or_self]

/-- A residue that is not negative. -/
def emod (a m : Int) : Int := (a.tmod m + m).tmod m
theorem emod_eq {a m : Int} (hm : 0 < m) : emod a m = a % m := by
  have h1 : -m < a.tmod m := by
    have := Int.lt_tmod_of_pos a hm; omega
  have h2 : a.tmod m < m := Int.tmod_lt_of_pos a hm
  have h3 : (a.tmod m) % m = a % m := by
    rcases Int.le_total 0 a with h | h
    · rw [Int.tmod_eq_emod_of_nonneg h, Int.emod_emod_of_dvd _ (Int.dvd_refl m)]
    · have : a.tmod m = -((-a) % m) := by
        rw [← Int.tmod_eq_emod_of_nonneg (by omega), Int.neg_tmod, Int.neg_neg]
      rw [this]
      have h4 : -((-a) % m) = a + m * ((-a) / m) := by
        have := Int.emod_add_mul_ediv (-a) m; omega
      rw [h4, Int.add_mul_emod_self_left]
  rw [emod, Int.tmod_eq_emod_of_nonneg (by omega), Int.add_emod_right, h3]

end Go.Proofs.Ytgenehiiakdadaa
