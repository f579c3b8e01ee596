/- The laws' own helpers on slices of ints: copying, comparing, marking and asking for marks. No condition beyond lengths below 2^21. -/
import Derived.Test.YtgenehiiakdadaaQBase
namespace Go.Proofs.Ytgenehiiakdadaa
open Go.RowKit
set_option linter.unusedVariables false
set_option linter.unusedSimpArgs false

/-- The numbers k, k + 1, .. -/
def marks (k : Int) (n : Nat) : List Int := (List.range n).map fun i : Nat => k + (i : Int)
theorem marks_len (k : Int) (n : Nat) : (marks k n).length = n := by simp [marks]
theorem gi_marks {k : Int} {n j : Nat} (h : j < n) : gi (marks k n) j = k + j := by simp [gi, marks, h]
theorem marks_set (k : Int) (j n : Nat) (xs : List Int) (hx : xs.length = n) (h : j < n) : ((marks k j ++ xs.drop j).set j (k + j)) = marks k (j + 1) ++ xs.drop (j + 1) := by
  rw [List.set_append_right _ _ (by simp [marks_len])]
  simp only [marks_len, Nat.sub_self]
  have hd : xs.drop j = xs[j] :: xs.drop (j + 1) := List.drop_eq_getElem_cons (by omega)
  rw [hd, List.set_cons_zero]
  simp [marks, List.range_succ]

theorem Own.ne {w : World} {lo hi lo' hi' n n' : Nat} {v v' : Value} {xs xs' : List Int} (h : Own w lo hi v n xs) (h' : Own w lo' hi' v' n' xs') (hd : hi ≤ lo' ∨ hi' ≤ lo) : v.ownBlock = none ∨ v.ownBlock ≠ v'.ownBlock := by
  cases hv : v.ownBlock with
  | none => exact .inl rfl
  | some g =>
    refine .inr (fun he => ?_)
    have := h.lt g hv
    have := h'.lt g he.symm
    omega

end Go.Proofs.Ytgenehiiakdadaa
