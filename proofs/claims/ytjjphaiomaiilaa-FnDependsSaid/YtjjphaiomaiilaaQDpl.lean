/- An out that depends on no input is constant: the list of the inputs that change a column is empty just if the sum of the column is nought or all. No program in sight. -/
import Derived.Test.YtjjphaiomaiilaaQDep
namespace Go.Proofs.Ytjjphaiomaiilaa
open Go.RowKit
set_option linter.unusedVariables false
set_option linter.unusedSimpArgs false

theorem xor_top {m k : Nat} (h1 : 2 ^ k ≤ m) (h2 : m < 2 ^ (k + 1)) : m ^^^ 2 ^ k < 2 ^ k := by
  apply Nat.lt_pow_two_of_testBit
  intro i hi
  rw [Nat.testBit_xor, Nat.testBit_two_pow]
  by_cases e : k = i
  · subst e
    have : m.testBit k = true := Nat.testBit_of_two_pow_le_and_two_pow_add_one_gt h1 h2
    simp [this]
  · have : m.testBit i = false := Nat.testBit_lt_two_pow (Nat.lt_of_lt_of_le h2 (Nat.pow_le_pow_right (by omega) (by omega)))
    simp [this, e]
theorem depL_nil {v : List Int} {N k : Nat} : depL v N k = [] ↔ ∀ i, i < k → ∀ m, m < N → gi v (m ^^^ 2 ^ i) = gi v m := by
  simp only [depL, List.map_eq_nil_iff, List.filter_eq_nil_iff, List.mem_range, anyP, List.any_eq_true, decide_eq_true_eq, not_exists, not_and, Classical.not_not]
theorem same_all {v : List Int} {X : Nat} (h : ∀ i, i < X → ∀ m, m < 2 ^ X → gi v (m ^^^ 2 ^ i) = gi v m) : ∀ k, k ≤ X → ∀ m, m < 2 ^ k → gi v m = gi v 0 := by
  intro k
  induction k with
  | zero => intro _ m hm; have : m = 0 := by simpa using hm
            rw [this]
  | succ k ih =>
    intro hk m hm
    by_cases hlt : m < 2 ^ k
    · exact ih (by omega) m hlt
    · have h3 := xor_top (Nat.le_of_not_lt hlt) hm
      rw [← h k (by omega) m (Nat.lt_of_lt_of_le hm (Nat.pow_le_pow_right (by omega) hk))]
      exact ih (by omega) _ h3
theorem sumI_cons (a : Int) (xs : List Int) : sumI (a :: xs) = a + sumI xs := by
  have : ∀ (ys : List Int) (c : Int), ys.foldl (· + ·) c = c + ys.foldl (· + ·) 0 := by
    intro ys
    induction ys with
    | nil => intro c; simp
    | cons y ys ih => intro c; simp only [List.foldl_cons]; rw [ih (c + y), ih (0 + y)]; omega
  unfold sumI
  rw [List.foldl_cons, this]; omega
theorem sum_lo {xs : List Int} (h : ∀ z ∈ xs, 0 ≤ z ∧ z ≤ 1) : 0 ≤ sumI xs ∧ sumI xs ≤ xs.length ∧ (sumI xs = 0 → ∀ z ∈ xs, z = 0) ∧ (sumI xs = xs.length → ∀ z ∈ xs, z = 1) := by
  induction xs with
  | nil => simp [sumI]
  | cons a xs ih =>
    obtain ⟨i1, i2, i3, i4⟩ := ih (fun z hz => h z (by simp [hz]))
    have ha := h a (by simp)
    rw [sumI_cons]
    simp only [List.length_cons, List.mem_cons]
    refine ⟨by omega, by omega, fun h0 z hz => ?_, fun h0 z hz => ?_⟩
    · rcases hz with rfl | hz
      · omega
      · exact i3 (by omega) z hz
    · rcases hz with rfl | hz
      · omega
      · exact i4 (by omega) z hz
theorem sum_same {xs : List Int} {c : Int} (h : ∀ z ∈ xs, z = c) : sumI xs = xs.length * c := by
  induction xs with
  | nil => simp [sumI]
  | cons a xs ih =>
    rw [sumI_cons, ih (fun z hz => h z (by simp [hz])), h a (by simp)]
    rw [List.length_cons, Int.natCast_add, Int.natCast_one]
    rw [Int.add_mul]; omega
theorem gi_of {xs : List Int} {z : Int} (h : z ∈ xs) : ∃ m, m < xs.length ∧ gi xs m = z := by
  obtain ⟨m, hm, e⟩ := List.getElem_of_mem h
  exact ⟨m, hm, by simp [gi, List.getD_eq_getElem?_getD, hm, e]⟩
/-- The list of a column's inputs is empty just if its sum is nought or all. -/
theorem dep_const {v : List Int} {X N : Nat} (hN : N = 2 ^ X) (hl : v.length = N) (h : ∀ z ∈ v, 0 ≤ z ∧ z ≤ 1) : depL v N X = [] ↔ (sumI v = 0 ∨ sumI v = N) := by
  subst hN
  obtain ⟨i1, i2, i3, i4⟩ := sum_lo h
  rw [depL_nil]
  constructor
  · intro hd
    have hs := same_all hd X (Nat.le_refl _)
    have hall : ∀ z ∈ v, z = gi v 0 := fun z hz => by
      obtain ⟨m, hm, rfl⟩ := gi_of hz
      exact hs m (by omega)
    have h2 := sum_same hall
    have hp : 0 < v.length := by rw [hl]; exact Nat.pow_pos (by omega)
    have h0 : 0 ≤ gi v 0 ∧ gi v 0 ≤ 1 := h _ (by simp [gi, List.getD_eq_getElem?_getD, hp])
    by_cases hz : gi v 0 = 0
    · left; rw [h2, hz]; simp
    · right; rw [h2, show gi v 0 = 1 by omega, hl]; simp
  · intro hd i hi m hm
    have hx : m ^^^ 2 ^ i < 2 ^ X := Nat.xor_lt_two_pow hm (Nat.pow_lt_pow_right (by omega) hi)
    have hg : ∀ j, j < 2 ^ X → gi v j ∈ v := fun j hj => by simp [gi, List.getD_eq_getElem?_getD, hl, hj]
    rcases hd with hd | hd
    · rw [i3 hd _ (hg _ hx), i3 hd _ (hg _ hm)]
    · rw [i4 (by rw [hd, hl]) _ (hg _ hx), i4 (by rw [hd, hl]) _ (hg _ hm)]
/-- The column of an out of a valid circuit. -/
theorem column_law {x y : Int} {gs : List G3} {os : List Int} {k : Int} {v : List Int} (h : columnF x y gs os k = some v) :
    v.length = 2 ^ (x + y).toNat ∧ (∀ z ∈ v, 0 ≤ z ∧ z ≤ 1) ∧ 0 ≤ x ∧ 0 ≤ y ∧ x + y ≤ 10 := by
  unfold columnF at h
  split at h
  · rename_i h0
    simp only [Bool.and_eq_true] at h0
    obtain ⟨h1, h2, h3⟩ := smallB_bd h0.1
    obtain ⟨⟨b1, b2⟩, ⟨b3, b4⟩, b5, b6, b7, b8⟩ := circB_bd h1
    obtain ⟨c1, c2⟩ := inB_iff.1 h0.2
    injection h with h; subst h
    have hX : x + y = ((x + y).toNat : Int) := by omega
    rw [hX] at b7 b8
    exact ⟨colN_len _ _ _ _, allB_iff.1 (col_bd b7 b8 (by omega)), b1, b3, h2⟩
  · exact absurd h (by simp)
theorem deps_ones {x y : Int} {gs : List G3} {os : List Int} {k : Int} {l : List Int} (h : depF x y gs os k = some l) :
    ∃ n N : Nat, onesF x y gs os k = some (n : Int) ∧ N = 2 ^ (x + y).toNat ∧ (l = [] ↔ n = 0 ∨ n = N) := by
  unfold depF at h
  rw [Option.map_eq_some_iff] at h
  obtain ⟨v, hv, rfl⟩ := h
  obtain ⟨h1, h2, _⟩ := column_law hv
  have h3 := dep_const rfl h1 h2
  have h4 := (sum_lo h2).1
  refine ⟨(sumI v).toNat, _, ?_, rfl, ?_⟩
  · unfold onesF; rw [hv, Option.map_some, Int.toNat_of_nonneg h4]
  · rw [h3]; omega
theorem ones_bd {x y : Int} {gs : List G3} {os : List Int} {k n : Int} (h : onesF x y gs os k = some n) : 0 ≤ n ∧ n ≤ ((2 ^ (x + y).toNat : Nat) : Int) ∧ 0 ≤ x ∧ 0 ≤ y ∧ x + y ≤ 10 := by
  unfold onesF at h
  rw [Option.map_eq_some_iff] at h
  obtain ⟨v, hv, rfl⟩ := h
  obtain ⟨h1, h2, h3⟩ := column_law hv
  have h4 := sum_lo h2
  rw [h1] at h4
  exact ⟨h4.1, h4.2.1, h3⟩
theorem dep_some {x y : Int} {gs : List G3} {os : List Int} {k : Int} : (depF x y gs os k).isSome = (onesF x y gs os k).isSome := by simp [depF, onesF]

end Go.Proofs.Ytjjphaiomaiilaa
