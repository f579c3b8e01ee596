/- Lists given place by place; no program in sight. -/
import Derived.Test.YtgenehiiakdadaaQPlain
namespace Go.Proofs.Ytgenehiiakdadaa
open Go.RowKit
set_option linter.unusedVariables false
set_option linter.unusedSimpArgs false

/-- The list of n numbers whose i-th is f i. -/
def tab (n : Nat) (f : Nat → Int) : List Int := (List.range n).map f
theorem tab_len (n : Nat) (f : Nat → Int) : (tab n f).length = n := by simp [tab]
theorem tab_snoc (n : Nat) (f : Nat → Int) : tab (n + 1) f = tab n f ++ [f n] := by simp [tab, List.range_succ]
theorem tab_zero (f : Nat → Int) : tab 0 f = [] := rfl
theorem gi_tab {n j : Nat} {f : Nat → Int} (h : j < n) : gi (tab n f) j = f j := by simp [gi, tab, h]
theorem tab_congr {n : Nat} {f g : Nat → Int} (h : ∀ j, j < n → f j = g j) : tab n f = tab n g := List.map_congr_left fun j hj => h j (List.mem_range.1 hj)
theorem tab_gi (xs : List Int) : tab xs.length (gi xs) = xs := gi_eq (by simp [tab_len]) fun j hj => gi_tab (by simpa [tab_len] using hj)
theorem tab_gi' {xs : List Int} {n : Nat} (h : xs.length = n) : tab n (gi xs) = xs := by subst h; exact tab_gi xs
theorem mem_tab {n : Nat} {f : Nat → Int} {x : Int} (h : x ∈ tab n f) : ∃ j, j < n ∧ x = f j := by
  obtain ⟨j, hj, rfl⟩ := List.mem_map.1 h
  exact ⟨j, List.mem_range.1 hj, rfl⟩
/-- xs with its first k places from f, the others as they were. -/
theorem tab_set {n k : Nat} {f : Nat → Int} {xs : List Int} (hx : xs.length = n) (h : k < n) : (tab k f ++ xs.drop k).set k (f k) = tab (k + 1) f ++ xs.drop (k + 1) := by
  rw [List.set_append_right _ _ (by simp [tab_len])]
  simp only [tab_len, Nat.sub_self]
  have hd : xs.drop k = xs[k] :: xs.drop (k + 1) := List.drop_eq_getElem_cons (by omega)
  rw [hd, List.set_cons_zero, tab_snoc]
  simp
theorem gi_tab_drop {n k j : Nat} {f : Nat → Int} {xs : List Int} (hx : xs.length = n) (hk : k ≤ j) (h : j < n) : gi (tab k f ++ xs.drop k) j = gi xs j := by
  unfold gi
  rw [List.getD_eq_getElem?_getD, List.getD_eq_getElem?_getD, List.getElem?_append_right (by simp [tab_len]; omega)]
  simp only [tab_len, List.getElem?_drop]
  rw [show k + (j - k) = j from by omega]

/-- The exclusive-or of Go's ints. -/
def bxor (a b : Int) : Int := bits .xor .i64 a b
def isB (a : Int) : Prop := a = 0 ∨ a = 1
theorem isB_iff {a : Int} : isB a ↔ 0 ≤ a ∧ a ≤ 1 := by unfold isB; omega
theorem bxor_bit {a b : Int} (ha : 0 ≤ a ∧ a ≤ 1) (hb : 0 ≤ b ∧ b ≤ 1) : bxor a b = (a + b) % 2 := by
  rcases (show a = 0 ∨ a = 1 by omega) with rfl | rfl <;> rcases (show b = 0 ∨ b = 1 by omega) with rfl | rfl <;> decide
theorem bxor_bd {a b : Int} (ha : 0 ≤ a ∧ a ≤ 1) (hb : 0 ≤ b ∧ b ≤ 1) : 0 ≤ bxor a b ∧ bxor a b ≤ 1 := by
  rw [bxor_bit ha hb]; omega

end Go.Proofs.Ytgenehiiakdadaa
