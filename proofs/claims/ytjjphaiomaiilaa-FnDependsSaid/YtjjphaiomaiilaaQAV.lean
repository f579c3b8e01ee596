/- Contracts of ArithValues and EvalArith, of the program and of the reference. -/
import Derived.Test.YtjjphaiomaiilaaQEval2
namespace Go.Proofs.Ytjjphaiomaiilaa
open Go.RowKit
set_option linter.unusedVariables false
set_option linter.unusedSimpArgs false

/-- A valid arithmetic circuit and inputs for it. -/
def arAskB (p x y : Int) (gs : List G3) (os : List Int) (n m : Nat) (xs ys : List Int) : Bool :=
  arB p x y gs os && (decide ((n : Int) = x) && (decide ((m : Int) = y) && (elemsB p xs && elemsB p ys)))
def arValF (p x y : Int) (gs : List G3) (os : List Int) (n m : Nat) (xs ys : List Int) : Option (List Int) :=
  if arAskB p x y gs os n m xs ys then some (avals p gs (xs ++ ys) gs.length) else none
def arEvalF (p x y : Int) (gs : List G3) (os : List Int) (n m : Nat) (xs ys : List Int) : Option (List Int) :=
  if arAskB p x y gs os n m xs ys then some (pick (avals p gs (xs ++ ys) gs.length) os) else none
theorem arAskB_bd {p x y : Int} {gs : List G3} {os : List Int} {n m : Nat} {xs ys : List Int} (h : arAskB p x y gs os n m xs ys = true) :
    arB p x y gs os = true ∧ (n : Int) = x ∧ (m : Int) = y ∧ elemsB p xs = true ∧ elemsB p ys = true := by
  simp only [arAskB, Bool.and_eq_true, decide_eq_true_eq] at h
  exact ⟨h.1, h.2.1, h.2.2.1, h.2.2.2.1, h.2.2.2.2⟩
theorem elemsB_allB {p : Int} {xs : List Int} (h : elemsB p xs = true) : allB 0 (p - 1) xs = true := by
  simp only [elemsB, Bool.and_eq_true] at h; exact h.2

theorem arValF_len (p x y : Int) (gs : List G3) (os : List Int) (n m : Nat) (xs ys : List Int) (hl : xs.length = n) (hk : ys.length = m) : ((arValF p x y gs os n m xs ys).getD []).length ≤ 200 := by
  unfold arValF
  split
  · rename_i h
    obtain ⟨a1, a2, a3, _⟩ := arAskB_bd h
    obtain ⟨_, b2, b3, b4, _⟩ := arB_bd a1
    simp only [Option.getD_some, avals_len, List.length_append]
    omega
  · simp
theorem arEvalF_len (p x y : Int) (gs : List G3) (os : List Int) (n m : Nat) (xs ys : List Int) : ((arEvalF p x y gs os n m xs ys).getD []).length ≤ 200 := by
  unfold arEvalF
  split
  · rename_i h
    obtain ⟨a1, _⟩ := arAskB_bd h
    obtain ⟨_, b2, b3, b4, b5, _⟩ := arB_bd a1
    simp only [Option.getD_some, pick_len]
    omega
  · simp

end Go.Proofs.Ytjjphaiomaiilaa
