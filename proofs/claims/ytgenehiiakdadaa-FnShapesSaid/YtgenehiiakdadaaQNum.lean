/- Plain functions: bits of numbers, numbers of bits, tables of a circuit's outs; no program in sight. Plain functions: degrees of arithmetic circuits, constant wires, moved gates; no program in sight. -/
import Derived.Test.YtgenehiiakdadaaQVal
namespace Go.Proofs.Ytgenehiiakdadaa
open Go.RowKit
set_option linter.unusedVariables false
set_option linter.unusedSimpArgs false

theorem ofInt_i64 {a : Nat} (ha : a < 9223372036854775808) : (BitVec.ofInt 64 (a : Int)).toNat = a := by
  rw [BitVec.ofInt_natCast, BitVec.toNat_ofNat]; exact Nat.mod_eq_of_lt (by omega)
theorem bor_nat {a b : Nat} (ha : a < 4611686018427387904) (hb : b < 4611686018427387904) : bits .or .i64 (a : Int) (b : Int) = ((a ||| b : Nat) : Int) := by
  have hx : a ||| b < 2 ^ 62 := Nat.or_lt_two_pow (by omega) (by omega)
  show IntKind.i64.wrap ((BitVec.ofInt 64 (a : Int) ||| BitVec.ofInt 64 (b : Int)).toNat : Int) = _
  rw [BitVec.toNat_or, ofInt_i64 (by omega), ofInt_i64 (by omega)]
  exact IntWalk.i64_in _ (by omega)
theorem band_nat {a b : Nat} (ha : a < 4611686018427387904) (hb : b < 4611686018427387904) : bits .and .i64 (a : Int) (b : Int) = ((a &&& b : Nat) : Int) := by
  have hx : a &&& b < 2 ^ 62 := Nat.and_lt_two_pow _ (by omega)
  show IntKind.i64.wrap ((BitVec.ofInt 64 (a : Int) &&& BitVec.ofInt 64 (b : Int)).toNat : Int) = _
  rw [BitVec.toNat_and, ofInt_i64 (by omega), ofInt_i64 (by omega)]
  exact IntWalk.i64_in _ (by omega)
theorem bxor_nat {a b : Nat} (ha : a < 4611686018427387904) (hb : b < 4611686018427387904) : bits .xor .i64 (a : Int) (b : Int) = ((a ^^^ b : Nat) : Int) := by
  have hx : a ^^^ b < 2 ^ 62 := Nat.xor_lt_two_pow (by omega) (by omega)
  show IntKind.i64.wrap ((BitVec.ofInt 64 (a : Int) ^^^ BitVec.ofInt 64 (b : Int)).toNat : Int) = _
  rw [BitVec.toNat_xor, ofInt_i64 (by omega), ofInt_i64 (by omega)]
  exact IntWalk.i64_in _ (by omega)
theorem and_one (n : Nat) : n &&& 1 = n % 2 := Nat.and_one_is_mod n
theorem or_place {a b i : Nat} (h : a < 2 ^ i) : a ||| (b * 2 ^ i) = a + b * 2 ^ i := by
  rw [Nat.or_comm, ← Nat.shiftLeft_eq, ← Nat.shiftLeft_add_eq_or_of_lt h, Nat.add_comm]

/-- The first k bits of a number. -/
def bitsN (n k : Nat) : List Int := tab k fun i => ((n / 2 ^ i % 2 : Nat) : Int)
theorem bitsN_len (n k : Nat) : (bitsN n k).length = k := tab_len _ _
theorem bitsN_snoc (n k : Nat) : bitsN n (k + 1) = bitsN n k ++ [((n / 2 ^ k % 2 : Nat) : Int)] := tab_snoc _ _
theorem bitsN_bd (n k : Nat) : allB 0 1 (bitsN n k) = true := allB_iff.2 fun x hx => by
  obtain ⟨j, _, rfl⟩ := mem_tab hx; omega
/-- The number of bits. -/
def numN : List Int → Int
  | [] => 0
  | b :: l => b + 2 * numN l
theorem numN_snoc (l : List Int) (b : Int) : numN (l ++ [b]) = numN l + b * 2 ^ l.length := by
  induction l with
  | nil => simp [numN]
  | cons c l ih =>
    simp only [List.cons_append, numN, ih, List.length_cons, Int.pow_succ]
    have : 2 * (b * 2 ^ l.length) = b * (2 ^ l.length * 2) := by rw [Int.mul_comm 2, Int.mul_assoc]
    omega
theorem numN_bd {l : List Int} (h : allB 0 1 l = true) : 0 ≤ numN l ∧ numN l < 2 ^ l.length := by
  induction l with
  | nil => simp [numN]
  | cons c l ih =>
    simp only [allB, List.all_cons, Bool.and_eq_true] at h
    have h1 := inB_iff.1 h.1
    obtain ⟨h2, h3⟩ := ih h.2
    simp only [numN, List.length_cons, Int.pow_succ]
    omega
theorem two_pow_le {k m : Nat} (h : k ≤ m) : (2 : Int) ^ k ≤ 2 ^ m := by
  have := Nat.pow_le_pow_right (n := 2) (by omega) h
  exact_mod_cast this
theorem numN_le {l : List Int} (h : allB 0 1 l = true) (hl : l.length ≤ 40) : 0 ≤ numN l ∧ numN l < 1099511627776 := by
  have h1 := numN_bd h
  have h2 := two_pow_le hl
  have h3 : (2 : Int) ^ 40 = 1099511627776 := by decide
  omega
theorem numN_drop {l : List Int} {k : Nat} (h : k < l.length) : numN (l.drop k) = gi l k + 2 * numN (l.drop (k + 1)) := by
  rw [List.drop_eq_getElem_cons h, numN, gi_lt h]
theorem allB_take_ {lo hi : Int} {l : List Int} (h : allB lo hi l = true) (k : Nat) : allB lo hi (l.take k) = true := allB_iff.2 fun x hx => allB_iff.1 h x (List.mem_of_mem_take hx)
theorem allB_drop_ {lo hi : Int} {l : List Int} (h : allB lo hi l = true) (k : Nat) : allB lo hi (l.drop k) = true := allB_iff.2 fun x hx => allB_iff.1 h x (List.mem_of_mem_drop hx)
theorem pick_bd {lo hi : Int} {l os : List Int} (h : allB lo hi l = true) (ho : allB 0 (l.length - 1) os = true) : allB lo hi (pick l os) = true := allB_iff.2 fun x hx => by
  simp only [pick, List.mem_map] at hx
  obtain ⟨o, hm, rfl⟩ := hx
  have := allB_iff.1 ho o hm
  exact allB_gi h (by omega)
/-- The outs of a circuit with x inputs, for the n-th input. -/
def outsN (gs : List G3) (os : List Int) (x n : Nat) : List Int := pick (vals gs (bitsN n x) gs.length) os
theorem outsN_len (gs : List G3) (os : List Int) (x n : Nat) : (outsN gs os x n).length = os.length := pick_len _ _
theorem outsN_bd {gs : List G3} {os : List Int} {x : Nat} (hg : gatesB x gs gs.length = true) (ho : allB 0 (x + gs.length - 1) os = true) (n : Nat) : allB 0 1 (outsN gs os x n) = true := by
  refine pick_bd (vals_bd (by rw [bitsN_len]) (bitsN_bd n x) _ _ (Nat.le_refl _) hg) ?_
  rw [vals_len, bitsN_len]
  simpa using ho
/-- The first number below m at which the two differ, or -1. -/
def uneq (f g : Nat → List Int) (m : Nat) : Int := match (List.range m).find? fun n => decide (f n ≠ g n) with
  | some n => (n : Int)
  | none => -1
theorem uneq_none {f g : Nat → List Int} {m : Nat} (h : ∀ j, j < m → f j = g j) : uneq f g m = -1 := by
  have : (List.range m).find? (fun n => decide (f n ≠ g n)) = none := List.find?_eq_none.2 fun j hj => by simp [h j (List.mem_range.1 hj)]
  rw [uneq, this]
theorem uneq_some {f g : Nat → List Int} {m k : Nat} (hk : k < m) (h : ∀ j, j < k → f j = g j) (hne : f k ≠ g k) : uneq f g m = k := by
  have : (List.range m).find? (fun n => decide (f n ≠ g n)) = some k := by
    rw [List.find?_eq_some_iff_getElem]
    refine ⟨by simpa using hne, k, by simpa using hk, by simp, fun j hj => ?_⟩
    simp [h j hj]
  rw [uneq, this]
theorem uneq_bd (f g : Nat → List Int) (m : Nat) : -1 ≤ uneq f g m ∧ uneq f g m < m := by
  unfold uneq
  split
  · rename_i n hn
    have := List.mem_range.1 (List.mem_of_find?_eq_some hn)
    omega
  · omega

end Go.Proofs.Ytgenehiiakdadaa

namespace Go.Proofs.Ytgenehiiakdadaa
open Go.RowKit
set_option linter.unusedVariables false
set_option linter.unusedSimpArgs false

/-- The degree of an arithmetic gate behind the wires' degrees, capped at M. -/
def dgv (M : Int) (g : G3) (out : List Int) : Int :=
  if g.k = 0 then max (gi out g.a.toNat) (gi out g.b.toNat) else if g.k = 1 then min (gi out g.a.toNat + gi out g.b.toNat) M else if g.k = 2 then gi out g.a.toNat else 0
/-- The degrees of the wires behind k gates. -/
def degs (M : Int) (gs : List G3) (x : Nat) : Nat → List Int
  | 0 => List.replicate x 1
  | k + 1 => degs M gs x k ++ [dgv M (gg gs k) (degs M gs x k)]
theorem degs_len (M : Int) (gs : List G3) (x k : Nat) : (degs M gs x k).length = x + k := by
  induction k with
  | zero => simp [degs]
  | succ k ih => simp [degs, ih]; omega
theorem degs_succ (M : Int) (gs : List G3) (x k : Nat) : degs M gs x (k + 1) = degs M gs x k ++ [dgv M (gg gs k) (degs M gs x k)] := rfl
theorem gi_bd0 {lo hi : Int} {l : List Int} (h : allB lo hi l = true) (h0 : lo ≤ 0 ∧ 0 ≤ hi) (j : Nat) : lo ≤ gi l j ∧ gi l j ≤ hi := by
  rcases Nat.lt_or_ge j l.length with hj | hj
  · exact allB_gi h hj
  · unfold gi; rw [List.getD_eq_getElem?_getD, List.getElem?_eq_none hj]; exact h0
theorem dgv_bd {M : Int} (hM : 1 ≤ M) {g : G3} {out : List Int} (h : allB 0 M out = true) : 0 ≤ dgv M g out ∧ dgv M g out ≤ M := by
  have ha := gi_bd0 h (by omega) g.a.toNat
  have hb := gi_bd0 h (by omega) g.b.toNat
  unfold dgv
  split
  · omega
  · split
    · omega
    · split <;> omega
theorem degs_bd {M : Int} (hM : 1 ≤ M) (gs : List G3) (x k : Nat) : allB 0 M (degs M gs x k) = true := by
  induction k with
  | zero => exact allB_iff.2 fun z hz => by have := List.eq_of_mem_replicate hz; omega
  | succ k ih => rw [degs_succ]; exact allB_snoc ih (dgv_bd hM ih)
theorem gi_map0 {os : List Int} {f : Int → Int} (h0 : f 0 = 0) (k : Nat) : gi (os.map f) k = f (gi os k) := by
  rcases Nat.lt_or_ge k os.length with h | h
  · exact gi_map h
  · unfold gi; rw [List.getD_eq_getElem?_getD, List.getD_eq_getElem?_getD, List.getElem?_eq_none (by simpa using h), List.getElem?_eq_none h]; exact h0.symm
/-- Degrees under a lower cap are the degrees under a higher cap, capped. -/
theorem degs_cap {M N : Int} (hM : 1 ≤ M) (hMN : M ≤ N) (gs : List G3) (x k : Nat) : degs M gs x k = (degs N gs x k).map fun z => min z M := by
  induction k with
  | zero => simp [degs]; right; omega
  | succ k ih =>
    have hb := degs_bd (show 1 ≤ N by omega) gs x k
    rw [degs_succ, degs_succ, List.map_append, ih]
    congr 1
    simp only [List.map_cons, List.map_nil, List.cons.injEq, and_true]
    have ha := gi_bd0 hb (by omega) (gg gs k).a.toNat
    have hb' := gi_bd0 hb (by omega) (gg gs k).b.toNat
    unfold dgv
    rw [gi_map0 (by omega), gi_map0 (by omega)]
    split
    · omega
    · split
      · omega
      · split <;> omega
/-- The degrees of the outs. -/
def degF (p x y : Int) (gs : List G3) (os : List Int) : Option (List Int) :=
  if arB p x y gs os && allB 0 1000000 (degs 2000000 gs (x + y).toNat gs.length) then some (pick (degs 2000000 gs (x + y).toNat gs.length) os) else none
theorem degF_len (p x y : Int) (gs : List G3) (os : List Int) : ((degF p x y gs os).getD []).length ≤ 20 := by
  unfold degF
  split
  · rename_i h
    simp only [Bool.and_eq_true] at h
    have := (arB_bd h.1).2.2.2.2.1
    simp [pick_len]; omega
  · simp
theorem cap_same {l : List Int} (h : allB 0 1000000 l = true) : (l.map fun z => min z 1000001) = l := by
  conv => rhs; rw [← List.map_id l]
  exact List.map_congr_left fun z hz => by have := allB_iff.1 h z hz; simp; omega
theorem cap_has {l : List Int} (h0 : allB 0 2000000 l = true) : ((l.map fun z => min z 1000001).any fun z => decide (z = 1000001)) = !(allB 0 1000000 l) := by
  cases h : allB 0 1000000 l with
  | true =>
    rw [cap_same h]
    simp only [Bool.not_true, List.any_eq_false, decide_eq_true_eq]
    intro z hz; have := allB_iff.1 h z hz; omega
  | false =>
    simp only [Bool.not_false, List.any_eq_true, decide_eq_true_eq]
    have : ¬ ∀ z ∈ l, 0 ≤ z ∧ z ≤ 1000000 := fun hc => by rw [allB_iff.2 hc] at h; cases h
    simp only [Classical.not_forall] at this
    obtain ⟨z, hz, hn⟩ := this
    have := allB_iff.1 h0 z hz
    exact ⟨min z 1000001, List.mem_map.2 ⟨z, hz, rfl⟩, by omega⟩

/-- What is known of a gate's value behind what is known of the wires: 0, 1, or -1 for not known. -/
def cst (g : G3) (out : List Int) : Int :=
  if g.k = 3 then 1 else if g.k = 2 then (if 0 ≤ gi out g.a.toNat then 1 - gi out g.a.toNat else -1)
  else if g.k = 0 then (if g.a = g.b then 0 else if 0 ≤ gi out g.a.toNat ∧ 0 ≤ gi out g.b.toNat then bxor (gi out g.a.toNat) (gi out g.b.toNat) else -1)
  else (if gi out g.a.toNat = 0 ∨ gi out g.b.toNat = 0 then 0 else if gi out g.a.toNat = 1 ∧ gi out g.b.toNat = 1 then 1 else -1)
def csts (gs : List G3) (x : Nat) : Nat → List Int
  | 0 => List.replicate x (-1)
  | k + 1 => csts gs x k ++ [cst (gg gs k) (csts gs x k)]
theorem csts_len (gs : List G3) (x k : Nat) : (csts gs x k).length = x + k := by
  induction k with
  | zero => simp [csts]
  | succ k ih => simp [csts, ih]; omega
theorem csts_succ (gs : List G3) (x k : Nat) : csts gs x (k + 1) = csts gs x k ++ [cst (gg gs k) (csts gs x k)] := rfl
theorem cst_bd {g : G3} {out : List Int} (h : allB (-1) 1 out = true) : -1 ≤ cst g out ∧ cst g out ≤ 1 := by
  have ha := gi_bd0 h (by omega) g.a.toNat
  have hb := gi_bd0 h (by omega) g.b.toNat
  unfold cst
  split
  · omega
  · split
    · split <;> omega
    · split
      · split
        · omega
        · split
          · rename_i h1
            have := bxor_bd (a := gi out g.a.toNat) (b := gi out g.b.toNat) (by omega) (by omega)
            omega
          · omega
      · split
        · omega
        · split <;> omega
theorem csts_bd (gs : List G3) (x k : Nat) : allB (-1) 1 (csts gs x k) = true := by
  induction k with
  | zero => exact allB_iff.2 fun z hz => by have := List.eq_of_mem_replicate hz; omega
  | succ k ih => rw [csts_succ]; exact allB_snoc ih (cst_bd ih)

/-- A gate whose wires are moved. -/
def mvG (f : Int → Int) (g : G3) : G3 := if g.k = 0 ∨ g.k = 1 then ⟨g.k, f g.a, f g.b⟩ else if g.k = 2 then ⟨g.k, f g.a, g.b⟩ else g
/-- Where the wires of a circuit with the inputs ws go, its gates' own wires from next on. -/
def wmap (ws : List Int) (next : Int) (w : Int) : Int := if w < ws.length then gi ws w.toNat else next + (w - ws.length)
theorem gi_tabs {ws : List Int} {next : Int} {k : Nat} {w : Int} (h0 : 0 ≤ w) (h : w < ws.length + k) : gi (ws ++ tab k fun i => next + i) w.toNat = wmap ws next w := by
  unfold wmap
  split
  · exact gi_append_lt (by omega)
  · unfold gi
    rw [List.getD_eq_getElem?_getD, List.getElem?_append_right (by omega)]
    have := gi_tab (f := fun i : Nat => next + (i : Int)) (n := k) (j := w.toNat - ws.length) (by omega)
    unfold gi at this
    rw [List.getD_eq_getElem?_getD] at this
    rw [this]; omega
theorem mvG_congr {f h : Int → Int} {g : G3} {n : Int} (hg : GateIs g n) (hfh : ∀ w, 0 ≤ w → w < n → f w = h w) : mvG f g = mvG h g := by
  cases hg with
  | xor_ hk a0 a1 b0 b1 => simp only [mvG, hk, true_or, if_true, hfh g.a a0 a1, hfh g.b b0 b1]
  | and_ hk a0 a1 b0 b1 => simp only [mvG, hk, or_true, if_true, hfh g.a a0 a1, hfh g.b b0 b1]
  | not_ hk a0 a1 b0 => simp [mvG, hk, hfh g.a a0 a1]
  | one_ hk a0 b0 => simp [mvG, hk]

end Go.Proofs.Ytgenehiiakdadaa
