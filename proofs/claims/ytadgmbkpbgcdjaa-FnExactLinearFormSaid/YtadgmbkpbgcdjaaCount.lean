/- Contracts of CountInputs. -/
import Derived.Test.YtadgmbkpbgcdjaaTable4
import Derived.Test.YtadgmbkpbgcdjaaAV
namespace Go.Proofs.Ytadgmbkpbgcdjaa
open Go.RowKit
set_option linter.unusedVariables false
set_option linter.unusedSimpArgs false

theorem boxA_at {w wr : World} {p x y : Int} {Ag : Option Addr} {ng cg : Nat} {Ao : Option Addr} {no co : Nat} {T : TypeId} (hb : Below (w.heap.size + 1) (w.alloc (.cells #[.int .i64 p, .int .i64 x, .int .i64 y, .slice Ag ng cg, .slice Ao no co] T)) wr) : BxA wr w.heap.size p x y Ag ng cg Ao no co :=
  BxA.below (BxA.new _ _) (by simpa using hb)
def lenV : Value → Nat
  | .slice _ n _ => n
  | _ => 0
/-- The first k digits of n, to the base p. -/
def digN (p : Int) (n k : Nat) : List Int := tab k fun i => (n : Int) / p ^ i % p
theorem digN_len (p : Int) (n k : Nat) : (digN p n k).length = k := tab_len _ _
theorem digN_snoc (p : Int) (n k : Nat) : digN p n (k + 1) = digN p n k ++ [(n : Int) / p ^ k % p] := tab_snoc _ _
theorem digN_bd {p : Int} (hp : 2 ≤ p) (n k : Nat) : allB 0 (p - 1) (digN p n k) = true := allB_iff.2 fun z hz => by
  obtain ⟨j, _, rfl⟩ := mem_tab hz
  have h1 := Int.emod_nonneg ((n : Int) / p ^ j) (show p ≠ 0 by omega)
  have h2 := Int.emod_lt_of_pos ((n : Int) / p ^ j) (show 0 < p by omega)
  omega
theorem pow_pos_ {p : Int} (hp : 2 ≤ p) (k : Nat) : 1 ≤ p ^ k := by
  induction k with
  | zero => simp
  | succ k ih =>
    rw [Int.pow_succ]
    have := Int.mul_le_mul ih (show (1 : Int) ≤ p by omega) (by omega) (by omega)
    omega
theorem pow_mono_ {p : Int} (hp : 2 ≤ p) {i k : Nat} (h : i ≤ k) : p ^ i ≤ p ^ k := by
  induction k with
  | zero => 
    obtain rfl : i = 0 := by omega
    exact Int.le_refl _
  | succ k ih =>
    rcases Nat.lt_or_ge k i with h1 | h1
    · obtain rfl : i = k + 1 := by omega
      exact Int.le_refl _
    · have h2 := ih h1
      have h3 := pow_pos_ hp k
      rw [Int.pow_succ]
      have := Int.mul_le_mul (Int.le_refl (p ^ k)) (show (1 : Int) ≤ p by omega) (by omega) (by omega)
      omega
theorem dig_next {p : Int} (hp : 2 ≤ p) (n i : Nat) : (n : Int) / p ^ (i + 1) = (n : Int) / p ^ i / p := by
  rw [Int.pow_succ, Int.ediv_ediv_of_nonneg (by have := pow_pos_ hp i; omega)]
theorem dig_bd {p : Int} (hp : 2 ≤ p) (n i : Nat) : 0 ≤ (n : Int) / p ^ i ∧ (n : Int) / p ^ i ≤ n := by
  have := pow_pos_ hp i
  exact ⟨Int.ediv_nonneg (by omega) (by omega), Int.ediv_le_self _ (by omega)⟩
/-- How many of the first m numbers pass. -/
def cntB (f : Nat → Bool) : Nat → Int
  | 0 => 0
  | m + 1 => cntB f m + (if f m then 1 else 0)
theorem cntB_bd (f : Nat → Bool) (m : Nat) : 0 ≤ cntB f m ∧ cntB f m ≤ m := by
  induction m with
  | zero => simp [cntB]
  | succ m ih => simp only [cntB]; split <;> omega
theorem cntB_t {f : Nat → Bool} {m : Nat} (h : f m = true) : cntB f (m + 1) = cntB f m + 1 := by simp [cntB, h]
theorem cntB_f {f : Nat → Bool} {m : Nat} (h : f m = false) : cntB f (m + 1) = cntB f m := by simp [cntB, h]
/-- The n-th inputs give these outs. -/
def hitB (p : Int) (gs : List G3) (os ts : List Int) (X n : Nat) : Bool := sameB (pick (avals p gs (digN p n X) gs.length) os) ts
def countF (p x y : Int) (gs : List G3) (os ts : List Int) : Option Int :=
  if arB p x y gs os && (decide (ts.length = os.length) && (elemsB p ts && decide (p ^ (x + y).toNat ≤ 20000))) then some (cntB (hitB p gs os ts (x + y).toNat) (p ^ (x + y).toNat).toNat) else none

end Go.Proofs.Ytadgmbkpbgcdjaa
