/- Contracts of ArithValues and EvalArith, of the program and of the reference. -/
import Derived.Test.YtgenehiiakdadaaQEval2
namespace Go.Proofs.Ytgenehiiakdadaa
open Go.RowKit
set_option linter.unusedVariables false
set_option linter.unusedSimpArgs false

/-- A valid arithmetic circuit and inputs for it. -/
def arAskB (p x y : Int) (gs : List G3) (os : List Int) (n m : Nat) (xs ys : List Int) : Bool :=
  arB p x y gs os && (decide ((n : Int) = x) && (decide ((m : Int) = y) && (elemsB p xs && elemsB p ys)))
def arValF (p x y : Int) (gs : List G3) (os : List Int) (n m : Nat) (xs ys : List Int) : Option (List Int) :=
  if arAskB p x y gs os n m xs ys then some (avals p gs (xs ++ ys) gs.length) else none
def arEvalF (p x y : Int) (gs : List G3) (os : List Int) (n m : Nat) (xs ys : List Int) : Option (List Int) :=
  if arAskB p x y gs os n m xs ys then some (pick (avals p gs (xs ++ ys) gs.length) os) else none
theorem arAskB_bd {p x y : Int} {gs : List G3} {os : List Int} {n m : Nat} {xs ys : List Int} (h : arAskB p x y gs os n m xs ys = true) :
    arB p x y gs os = true ∧ (n : Int) = x ∧ (m : Int) = y ∧ elemsB p xs = true ∧ elemsB p ys = true := by
  simp only [arAskB, Bool.and_eq_true, decide_eq_true_eq] at h
  exact ⟨h.1, h.2.1, h.2.2.1, h.2.2.2.1, h.2.2.2.2⟩
theorem elemsB_allB {p : Int} {xs : List Int} (h : elemsB p xs = true) : allB 0 (p - 1) xs = true := by
  simp only [elemsB, Bool.and_eq_true] at h; exact h.2

theorem arValF_len (p x y : Int) (gs : List G3) (os : List Int) (n m : Nat) (xs ys : List Int) (hl : xs.length = n) (hk : ys.length = m) : ((arValF p x y gs os n m xs ys).getD []).length ≤ 200 := by
  unfold arValF
  split
  · rename_i h
    obtain ⟨a1, a2, a3, _⟩ := arAskB_bd h
    obtain ⟨_, b2, b3, b4, _⟩ := arB_bd a1
    simp only [Option.getD_some, avals_len, List.length_append]
    omega
  · simp
theorem arEvalF_len (p x y : Int) (gs : List G3) (os : List Int) (n m : Nat) (xs ys : List Int) : ((arEvalF p x y gs os n m xs ys).getD []).length ≤ 200 := by
  unfold arEvalF
  split
  · rename_i h
    obtain ⟨a1, _⟩ := arAskB_bd h
    obtain ⟨_, b2, b3, b4, b5, _⟩ := arB_bd a1
    simp only [Option.getD_some, pick_len]
    omega
  · simp

theorem ciJoin_any (A B : Option Addr) (n c m d : Nat) (xs ys : List Int) (w : World) (ha : RI w A n xs) (hb : RI w B m ys) (hn : n ≤ 2097152) (hm : m ≤ 2097152) :
    Calls Try.prog 33 #[.slice A n c, .slice B m d] w fun e w' => ∃ A' c', e = .returned (.slice A' (n + m) c') ∧ Own w' w.heap.size w'.heap.size (.slice A' (n + m) c') (n + m) (xs ++ ys) ∧ Below w.heap.size w w' := by
  have hl := ha.len
  go_enter Try.func33, Try.ntmps33
  go_wp2_with fail
  refine (l1Own_any A n c xs _ ha hn).mono ?_
  rintro e w1 ⟨A1, c1, rfl, hown1, hb1⟩
  have hr := hb.below hb1 (Nat.le_refl _)
  have hz := hb1.size
  go_wp2_with (at_builtin; refine wpList_app _ rfl _ _ rfl rfl hown1 rfl hr (by omega) (by first | omega | (simp; done) | (simp; omega)) ?_; intro A5 c5 w5 hown5 hg5 hat5)
  have hb5 := below_app hb1 hown1 hg5 hz (Nat.le_refl _)
  clear hown1 hb1 hr hg5 hat5
  go_wp2
  go_ret
  exact ⟨_, _, rfl, hown5, hb5⟩

end Go.Proofs.Ytgenehiiakdadaa
