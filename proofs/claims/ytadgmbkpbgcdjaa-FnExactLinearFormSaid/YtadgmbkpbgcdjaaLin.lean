/- The plain function of LinearForm; no program in sight. -/
import Derived.Test.YtadgmbkpbgcdjaaForm
import Derived.Test.YtadgmbkpbgcdjaaVal
namespace Go.Proofs.Ytadgmbkpbgcdjaa
open Go.RowKit
set_option linter.unusedVariables false
set_option linter.unusedSimpArgs false

/-- The value of an out for inputs. -/
def linV (p : Int) (gs : List G3) (inp : List Int) (o : Nat) : Int := gi (avals p gs inp gs.length) o
/-- The inputs that are 0 but for place i, which is 1. -/
def unitL (X i : Nat) : List Int := (List.replicate X (0 : Int)).set i 1
def linL (p : Int) (gs : List G3) (X o k : Nat) : List Int :=
  linV p gs (List.replicate X 0) o :: (List.range k).map fun i => (linV p gs (unitL X i) o - linV p gs (List.replicate X 0) o) % p
def linF (p x y : Int) (gs : List G3) (os : List Int) (k : Int) : Option (List Int) :=
  if arB p x y gs os && (inB 0 (os.length - 1) k && decide (gi (degs 2000000 gs (x + y).toNat gs.length) (gi os k.toNat).toNat ≤ 1)) then some (linL p gs (x + y).toNat (gi os k.toNat).toNat (x + y).toNat) else none
theorem linL_len (p : Int) (gs : List G3) (X o k : Nat) : (linL p gs X o k).length = k + 1 := by simp [linL]
theorem linL_zero (p : Int) (gs : List G3) (X o : Nat) : linL p gs X o 0 = [linV p gs (List.replicate X 0) o] := rfl
theorem linL_snoc (p : Int) (gs : List G3) (X o k : Nat) : linL p gs X o (k + 1) = linL p gs X o k ++ [(linV p gs (unitL X k) o - linV p gs (List.replicate X 0) o) % p] := by simp [linL, List.range_succ]
theorem linF_len (p x y : Int) (gs : List G3) (os : List Int) (k : Int) : ((linF p x y gs os k).getD []).length ≤ 20 := by
  unfold linF
  split
  · rename_i h
    simp only [Bool.and_eq_true] at h
    obtain ⟨_, h1, h2, _⟩ := arB_bd h.1
    simp [linL_len]; omega
  · simp
theorem unitL_len (X i : Nat) : (unitL X i).length = X := by simp [unitL]
theorem unitL_back (X i : Nat) : (unitL X i).set i 0 = List.replicate X 0 := by
  unfold unitL; rw [List.set_set]
  apply List.ext_getElem
  · simp
  · intro j h1 h2
    rw [List.getElem_set]; split
    · simp
    · simp
theorem zeros_bd {p : Int} (hp : 2 ≤ p) (X : Nat) : allB 0 (p - 1) (List.replicate X 0) = true := allB_iff.2 fun z hz => by have := List.eq_of_mem_replicate hz; omega
theorem unitL_bd {p : Int} (hp : 2 ≤ p) (X i : Nat) : allB 0 (p - 1) (unitL X i) = true := allB_iff.2 fun z hz => by
  rcases List.mem_or_eq_of_mem_set hz with h | h
  · have := List.eq_of_mem_replicate h; omega
  · omega
theorem linV_bd {p : Int} (hp : 2 ≤ p) {gs : List G3} {inp : List Int} (hi : allB 0 (p - 1) inp = true) {o : Nat} (ho : o < inp.length + gs.length) : 0 ≤ linV p gs inp o ∧ linV p gs inp o < p := by
  have := allB_gi (avals_bd (gs := gs) hp hi gs.length) (j := o) (by rw [avals_len]; exact ho)
  unfold linV; omega
theorem lin_mod {p a c : Int} (hp : 2 ≤ p) : (a - c + p) % p = (a - c) % p := by rw [Int.add_emod_right]
theorem deg_cap1 (gs : List G3) (X k o : Nat) : decide (gi (degs 1000001 gs X k) o ≤ 1) = decide (gi (degs 2000000 gs X k) o ≤ 1) := by
  rw [degs_cap (M := 1000001) (N := 2000000) (by omega) (by omega), gi_map0 (by omega)]
  by_cases h : gi (degs 2000000 gs X k) o ≤ 1
  · simp [h]; omega
  · simp [h]; omega

end Go.Proofs.Ytadgmbkpbgcdjaa
