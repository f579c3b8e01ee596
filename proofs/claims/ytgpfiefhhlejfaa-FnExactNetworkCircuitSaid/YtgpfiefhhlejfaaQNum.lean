/- Plain functions: bits of numbers, numbers of bits, tables of a circuit's outs; no program in sight. -/
import Derived.Test.YtgpfiefhhlejfaaQVal
namespace Go.Proofs.Ytgpfiefhhlejfaa
open Go.RowKit
set_option linter.unusedVariables false
set_option linter.unusedSimpArgs false

theorem ofInt_i64 {a : Nat} (ha : a < 9223372036854775808) : (BitVec.ofInt 64 (a : Int)).toNat = a := by
  rw [BitVec.ofInt_natCast, BitVec.toNat_ofNat]; exact Nat.mod_eq_of_lt (by omega)
theorem bor_nat {a b : Nat} (ha : a < 4611686018427387904) (hb : b < 4611686018427387904) : bits .or .i64 (a : Int) (b : Int) = ((a ||| b : Nat) : Int) := by
  have hx : a ||| b < 2 ^ 62 := Nat.or_lt_two_pow (by omega) (by omega)
  show IntKind.i64.wrap ((BitVec.ofInt 64 (a : Int) ||| BitVec.ofInt 64 (b : Int)).toNat : Int) = _
  rw [BitVec.toNat_or, ofInt_i64 (by omega), ofInt_i64 (by omega)]
  exact IntWalk.i64_in _ (by omega)
theorem band_nat {a b : Nat} (ha : a < 4611686018427387904) (hb : b < 4611686018427387904) : bits .and .i64 (a : Int) (b : Int) = ((a &&& b : Nat) : Int) := by
  have hx : a &&& b < 2 ^ 62 := Nat.and_lt_two_pow _ (by omega)
  show IntKind.i64.wrap ((BitVec.ofInt 64 (a : Int) &&& BitVec.ofInt 64 (b : Int)).toNat : Int) = _
  rw [BitVec.toNat_and, ofInt_i64 (by omega), ofInt_i64 (by omega)]
  exact IntWalk.i64_in _ (by omega)
theorem bxor_nat {a b : Nat} (ha : a < 4611686018427387904) (hb : b < 4611686018427387904) : bits .xor .i64 (a : Int) (b : Int) = ((a ^^^ b : Nat) : Int) := by
  have hx : a ^^^ b < 2 ^ 62 := Nat.xor_lt_two_pow (by omega) (by omega)
  show IntKind.i64.wrap ((BitVec.ofInt 64 (a : Int) ^^^ BitVec.ofInt 64 (b : Int)).toNat : Int) = _
  rw [BitVec.toNat_xor, ofInt_i64 (by omega), ofInt_i64 (by omega)]
  exact IntWalk.i64_in _ (by omega)
theorem and_one (n : Nat) : n &&& 1 = n % 2 := Nat.and_one_is_mod n
theorem or_place {a b i : Nat} (h : a < 2 ^ i) : a ||| (b * 2 ^ i) = a + b * 2 ^ i := by
  rw [Nat.or_comm, ← Nat.shiftLeft_eq, ← Nat.shiftLeft_add_eq_or_of_lt h, Nat.add_comm]

/-- The first k bits of a number. -/
def bitsN (n k : Nat) : List Int := tab k fun i => ((n / 2 ^ i % 2 : Nat) : Int)
theorem bitsN_len (n k : Nat) : (bitsN n k).length = k := tab_len _ _
theorem bitsN_snoc (n k : Nat) : bitsN n (k + 1) = bitsN n k ++ [((n / 2 ^ k % 2 : Nat) : Int)] := tab_snoc _ _
theorem bitsN_bd (n k : Nat) : allB 0 1 (bitsN n k) = true := allB_iff.2 fun x hx => by
  obtain ⟨j, _, rfl⟩ := mem_tab hx; omega
/-- The number of bits. -/
def numN : List Int → Int
  | [] => 0
  | b :: l => b + 2 * numN l
theorem numN_snoc (l : List Int) (b : Int) : numN (l ++ [b]) = numN l + b * 2 ^ l.length := by
  induction l with
  | nil => simp [numN]
  | cons c l ih =>
    simp only [List.cons_append, numN, ih, List.length_cons, Int.pow_succ]
    have : 2 * (b * 2 ^ l.length) = b * (2 ^ l.length * 2) := by rw [Int.mul_comm 2, Int.mul_assoc]
    omega
theorem numN_bd {l : List Int} (h : allB 0 1 l = true) : 0 ≤ numN l ∧ numN l < 2 ^ l.length := by
  induction l with
  | nil => simp [numN]
  | cons c l ih =>
    simp only [allB, List.all_cons, Bool.and_eq_true] at h
    have h1 := inB_iff.1 h.1
    obtain ⟨h2, h3⟩ := ih h.2
    simp only [numN, List.length_cons, Int.pow_succ]
    omega
theorem two_pow_le {k m : Nat} (h : k ≤ m) : (2 : Int) ^ k ≤ 2 ^ m := by
  have := Nat.pow_le_pow_right (n := 2) (by omega) h
  exact_mod_cast this
theorem numN_le {l : List Int} (h : allB 0 1 l = true) (hl : l.length ≤ 40) : 0 ≤ numN l ∧ numN l < 1099511627776 := by
  have h1 := numN_bd h
  have h2 := two_pow_le hl
  have h3 : (2 : Int) ^ 40 = 1099511627776 := by decide
  omega
theorem numN_drop {l : List Int} {k : Nat} (h : k < l.length) : numN (l.drop k) = gi l k + 2 * numN (l.drop (k + 1)) := by
  rw [List.drop_eq_getElem_cons h, numN, gi_lt h]
theorem allB_take_ {lo hi : Int} {l : List Int} (h : allB lo hi l = true) (k : Nat) : allB lo hi (l.take k) = true := allB_iff.2 fun x hx => allB_iff.1 h x (List.mem_of_mem_take hx)
theorem allB_drop_ {lo hi : Int} {l : List Int} (h : allB lo hi l = true) (k : Nat) : allB lo hi (l.drop k) = true := allB_iff.2 fun x hx => allB_iff.1 h x (List.mem_of_mem_drop hx)
theorem pick_bd {lo hi : Int} {l os : List Int} (h : allB lo hi l = true) (ho : allB 0 (l.length - 1) os = true) : allB lo hi (pick l os) = true := allB_iff.2 fun x hx => by
  simp only [pick, List.mem_map] at hx
  obtain ⟨o, hm, rfl⟩ := hx
  have := allB_iff.1 ho o hm
  exact allB_gi h (by omega)
/-- The outs of a circuit with x inputs, for the n-th input. -/
def outsN (gs : List G3) (os : List Int) (x n : Nat) : List Int := pick (vals gs (bitsN n x) gs.length) os
theorem outsN_len (gs : List G3) (os : List Int) (x n : Nat) : (outsN gs os x n).length = os.length := pick_len _ _
theorem outsN_bd {gs : List G3} {os : List Int} {x : Nat} (hg : gatesB x gs gs.length = true) (ho : allB 0 (x + gs.length - 1) os = true) (n : Nat) : allB 0 1 (outsN gs os x n) = true := by
  refine pick_bd (vals_bd (by rw [bitsN_len]) (bitsN_bd n x) _ _ (Nat.le_refl _) hg) ?_
  rw [vals_len, bitsN_len]
  simpa using ho
/-- The first number below m at which the two differ, or -1. -/
def uneq (f g : Nat → List Int) (m : Nat) : Int := match (List.range m).find? fun n => decide (f n ≠ g n) with
  | some n => (n : Int)
  | none => -1
theorem uneq_none {f g : Nat → List Int} {m : Nat} (h : ∀ j, j < m → f j = g j) : uneq f g m = -1 := by
  have : (List.range m).find? (fun n => decide (f n ≠ g n)) = none := List.find?_eq_none.2 fun j hj => by simp [h j (List.mem_range.1 hj)]
  rw [uneq, this]
theorem uneq_some {f g : Nat → List Int} {m k : Nat} (hk : k < m) (h : ∀ j, j < k → f j = g j) (hne : f k ≠ g k) : uneq f g m = k := by
  have : (List.range m).find? (fun n => decide (f n ≠ g n)) = some k := by
    rw [List.find?_eq_some_iff_getElem]
    refine ⟨by simpa using hne, k, by simpa using hk, by simp, fun j hj => ?_⟩
    simp [h j hj]
  rw [uneq, this]
theorem uneq_bd (f g : Nat → List Int) (m : Nat) : -1 ≤ uneq f g m ∧ uneq f g m < m := by
  unfold uneq
  split
  · rename_i n hn
    have := List.mem_range.1 (List.mem_of_find?_eq_some hn)
    omega
  · omega

end Go.Proofs.Ytgpfiefhhlejfaa
