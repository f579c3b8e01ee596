/- The gadgets' gates and outs; no program in sight. -/
import Derived.Test.YtgenehiiakdadaaQCirc
namespace Go.Proofs.Ytgenehiiakdadaa
open Go.RowKit
set_option linter.unusedVariables false
set_option linter.unusedSimpArgs false

/-- What an adder or a subtracter has made: its gates, its outs, the last carry or borrow. -/
structure Ad where
  g : List G3
  o : List Int
  c : Int
/-- One place of an adder; n is the next wire. -/
def addStep (n a b : Int) (i : Nat) (s : Ad) : Ad :=
  if i = 0 then ⟨s.g ++ [⟨0, a, b⟩] ++ [⟨1, a, b⟩], s.o ++ [n], n + 1⟩
  else ⟨s.g ++ [⟨0, a, s.c⟩] ++ [⟨0, b, s.c⟩] ++ [⟨0, n, b⟩] ++ [⟨1, n, n + 1⟩] ++ [⟨0, n + 3, s.c⟩], s.o ++ [n + 2], n + 4⟩
def subStep (n a b : Int) (i : Nat) (s : Ad) : Ad :=
  if i = 0 then ⟨s.g ++ [⟨0, a, b⟩] ++ [⟨2, a, 0⟩] ++ [⟨1, n + 1, b⟩], s.o ++ [n], n + 2⟩
  else ⟨s.g ++ [⟨0, a, s.c⟩] ++ [⟨0, b, s.c⟩] ++ [⟨0, n, b⟩] ++ [⟨2, n, 0⟩] ++ [⟨1, n + 3, n + 1⟩] ++ [⟨0, n + 4, s.c⟩], s.o ++ [n + 2], n + 5⟩
/-- The first i places, behind gates g0 over X inputs. -/
def addS (X : Int) (g0 : List G3) (us vs : List Int) : Nat → Ad
  | 0 => ⟨g0, [], -1⟩
  | i + 1 => addStep (X + (addS X g0 us vs i).g.length) (gi us i) (gi vs i) i (addS X g0 us vs i)
def subS (X : Int) (g0 : List G3) (us vs : List Int) : Nat → Ad
  | 0 => ⟨g0, [], -1⟩
  | i + 1 => subStep (X + (subS X g0 us vs i).g.length) (gi us i) (gi vs i) i (subS X g0 us vs i)
theorem addS_o (X : Int) (g0 : List G3) (us vs : List Int) (i : Nat) : (addS X g0 us vs i).o.length = i := by
  induction i with
  | zero => rfl
  | succ i ih => simp only [addS, addStep]; split <;> simp [ih]
theorem subS_o (X : Int) (g0 : List G3) (us vs : List Int) (i : Nat) : (subS X g0 us vs i).o.length = i := by
  induction i with
  | zero => rfl
  | succ i ih => simp only [subS, subStep]; split <;> simp [ih]
theorem addS_g (X : Int) (g0 : List G3) (us vs : List Int) (i : Nat) : (addS X g0 us vs i).g.length ≤ g0.length + 5 * i := by
  induction i with
  | zero => simp [addS]
  | succ i ih => simp only [addS, addStep]; split <;> simp <;> omega
theorem subS_g (X : Int) (g0 : List G3) (us vs : List Int) (i : Nat) : (subS X g0 us vs i).g.length ≤ g0.length + 6 * i := by
  induction i with
  | zero => simp [subS]
  | succ i ih => simp only [subS, subStep]; split <;> simp <;> omega
theorem addS_c {X : Int} (hX : 0 ≤ X) (g0 : List G3) (us vs : List Int) (i : Nat) : 0 ≤ (addS X g0 us vs (i + 1)).c := by
  simp only [addS, addStep]; split <;> simp <;> omega
theorem subS_c {X : Int} (hX : 0 ≤ X) (g0 : List G3) (us vs : List Int) (i : Nat) : 0 ≤ (subS X g0 us vs (i + 1)).c := by
  simp only [subS, subStep]; split <;> simp <;> omega

/-- A circuit's gates and outs. -/
structure Go2 where
  g : List G3
  o : List Int
/-- One comparison of two bits. -/
def eqs (X : Int) (g0 : List G3) (us vs : List Int) : Nat → Go2
  | 0 => ⟨g0, []⟩
  | i + 1 => ⟨(eqs X g0 us vs i).g ++ [⟨0, gi us i, gi vs i⟩] ++ [⟨2, X + (eqs X g0 us vs i).g.length, 0⟩], (eqs X g0 us vs i).o ++ [X + (eqs X g0 us vs i).g.length + 1]⟩
theorem eqs_o (X : Int) (g0 : List G3) (us vs : List Int) (i : Nat) : (eqs X g0 us vs i).o.length = i := by
  induction i with
  | zero => rfl
  | succ i ih => simp [eqs, ih]
theorem eqs_g (X : Int) (g0 : List G3) (us vs : List Int) (i : Nat) : (eqs X g0 us vs i).g.length = g0.length + 2 * i := by
  induction i with
  | zero => simp [eqs]
  | succ i ih => simp [eqs]; omega
/-- The conjunction of the wires from place 1 on, with the first. -/
def ands (X : Int) (es : List Int) (g0 : List G3) : Nat → List G3 × Int
  | 0 => (g0, gi es 0)
  | i + 1 => ((ands X es g0 i).1 ++ [⟨1, (ands X es g0 i).2, gi es (i + 1)⟩], X + (ands X es g0 i).1.length)
theorem ands_g (X : Int) (es : List Int) (g0 : List G3) (i : Nat) : (ands X es g0 i).1.length = g0.length + i := by
  induction i with
  | zero => simp [ands]
  | succ i ih => simp [ands]; omega
/-- Choosing x if s is 1, and y otherwise. -/
def chs (X : Int) (g0 : List G3) (s : Int) (us vs : List Int) : Nat → Go2
  | 0 => ⟨g0, []⟩
  | i + 1 => ⟨(chs X g0 s us vs i).g ++ [⟨0, gi us i, gi vs i⟩] ++ [⟨1, s, X + (chs X g0 s us vs i).g.length⟩] ++ [⟨0, X + (chs X g0 s us vs i).g.length + 1, gi vs i⟩], (chs X g0 s us vs i).o ++ [X + (chs X g0 s us vs i).g.length + 2]⟩
theorem chs_o (X : Int) (g0 : List G3) (s : Int) (us vs : List Int) (i : Nat) : (chs X g0 s us vs i).o.length = i := by
  induction i with
  | zero => rfl
  | succ i ih => simp [chs, ih]
theorem chs_g (X : Int) (g0 : List G3) (s : Int) (us vs : List Int) (i : Nat) : (chs X g0 s us vs i).g.length = g0.length + 3 * i := by
  induction i with
  | zero => simp [chs]
  | succ i ih => simp [chs]; omega
/-- The products of some wires and one. -/
def rowG (X : Int) (v : Int) (us : List Int) (g0 : List G3) : Nat → Go2
  | 0 => ⟨g0, []⟩
  | j + 1 => ⟨(rowG X v us g0 j).g ++ [⟨1, gi us j, v⟩], (rowG X v us g0 j).o ++ [X + (rowG X v us g0 j).g.length]⟩
theorem row_o (X : Int) (v : Int) (us : List Int) (g0 : List G3) (i : Nat) : (rowG X v us g0 i).o.length = i := by
  induction i with
  | zero => rfl
  | succ i ih => simp [rowG, ih]
theorem row_g (X : Int) (v : Int) (us : List Int) (g0 : List G3) (i : Nat) : (rowG X v us g0 i).g.length = g0.length + i := by
  induction i with
  | zero => simp [rowG]
  | succ i ih => simp [rowG]; omega
/-- so many numbers from one on. -/
def spn (a : Int) (n : Nat) : List Int := (List.range n).map fun i : Nat => a + (i : Int)
theorem spn_len (a : Int) (n : Nat) : (spn a n).length = n := by simp [spn]
theorem spn_snoc (a : Int) (n : Nat) : spn a (n + 1) = spn a n ++ [a + n] := by simp [spn, List.range_succ]

/-- The gadgets of two numbers of w bits; kind 4 has the choosing bit behind the numbers. -/
def adderG (w : Nat) : Go2 := let s := addS (w + w) [] (spn 0 w) (spn w w) w; ⟨s.g, s.o ++ [s.c]⟩
def subG (w : Nat) : Go2 := let s := subS (w + w) [] (spn 0 w) (spn w w) w; ⟨s.g, s.o ++ [s.c]⟩
def lessG (w : Nat) : Go2 := let s := subS (w + w) [] (spn 0 w) (spn w w) w; ⟨s.g, [s.c]⟩
def equalG (w : Nat) : Go2 := let e := eqs (w + w) [] (spn 0 w) (spn w w) w; let r := ands (w + w) e.o e.g (w - 1); ⟨r.1, [r.2]⟩
def chooseG (w : Nat) : Go2 := chs (2 * w + 1) [] (2 * w) (spn 0 w) (spn w w) w
def greatestG (w : Nat) : Go2 := let s := subS (w + w) [] (spn 0 w) (spn w w) w; chs (w + w) s.g s.c (spn w w) (spn 0 w) w

theorem adderG_ok : ∀ w, 1 ≤ w → w ≤ 8 → circB (w : Nat) (w : Nat) (adderG w).g (adderG w).o = true := by
  intro w h1 h2
  rcases (show w = 1 ∨ w = 2 ∨ w = 3 ∨ w = 4 ∨ w = 5 ∨ w = 6 ∨ w = 7 ∨ w = 8 by omega) with rfl | rfl | rfl | rfl | rfl | rfl | rfl | rfl <;> kernel_rfl
theorem subG_ok : ∀ w, 1 ≤ w → w ≤ 8 → circB (w : Nat) (w : Nat) (subG w).g (subG w).o = true := by
  intro w h1 h2
  rcases (show w = 1 ∨ w = 2 ∨ w = 3 ∨ w = 4 ∨ w = 5 ∨ w = 6 ∨ w = 7 ∨ w = 8 by omega) with rfl | rfl | rfl | rfl | rfl | rfl | rfl | rfl <;> kernel_rfl
theorem lessG_ok : ∀ w, 1 ≤ w → w ≤ 8 → circB (w : Nat) (w : Nat) (lessG w).g (lessG w).o = true := by
  intro w h1 h2
  rcases (show w = 1 ∨ w = 2 ∨ w = 3 ∨ w = 4 ∨ w = 5 ∨ w = 6 ∨ w = 7 ∨ w = 8 by omega) with rfl | rfl | rfl | rfl | rfl | rfl | rfl | rfl <;> kernel_rfl
theorem equalG_ok : ∀ w, 1 ≤ w → w ≤ 8 → circB (w : Nat) (w : Nat) (equalG w).g (equalG w).o = true := by
  intro w h1 h2
  rcases (show w = 1 ∨ w = 2 ∨ w = 3 ∨ w = 4 ∨ w = 5 ∨ w = 6 ∨ w = 7 ∨ w = 8 by omega) with rfl | rfl | rfl | rfl | rfl | rfl | rfl | rfl <;> kernel_rfl
theorem chooseG_ok : ∀ w, 1 ≤ w → w ≤ 8 → circB (2 * w : Nat) 1 (chooseG w).g (chooseG w).o = true := by
  intro w h1 h2
  rcases (show w = 1 ∨ w = 2 ∨ w = 3 ∨ w = 4 ∨ w = 5 ∨ w = 6 ∨ w = 7 ∨ w = 8 by omega) with rfl | rfl | rfl | rfl | rfl | rfl | rfl | rfl <;> kernel_rfl
theorem greatestG_ok : ∀ w, 1 ≤ w → w ≤ 8 → circB (w : Nat) (w : Nat) (greatestG w).g (greatestG w).o = true := by
  intro w h1 h2
  rcases (show w = 1 ∨ w = 2 ∨ w = 3 ∨ w = 4 ∨ w = 5 ∨ w = 6 ∨ w = 7 ∨ w = 8 by omega) with rfl | rfl | rfl | rfl | rfl | rfl | rfl | rfl <;> kernel_rfl

/-- A gadget's circuit: two numbers of a bits each. -/
def gadF (F : Nat → Go2) (hi a : Int) : Option Ci := if inB 1 hi a then some ⟨a, a, (F a.toNat).g, (F a.toNat).o⟩ else none
def chooseF (a : Int) : Option Ci := if inB 1 8 a then some ⟨2 * a, 1, (chooseG a.toNat).g, (chooseG a.toNat).o⟩ else none
theorem gadF_len {F : Nat → Go2} {hi : Int} (h : ∀ w : Nat, 1 ≤ w → (w : Int) ≤ hi → circB (w : Nat) (w : Nat) (F w).g (F w).o = true) (a : Int) :
    ((gadF F hi a).getD ⟨0, 0, [], []⟩).gs.length ≤ 300 ∧ ((gadF F hi a).getD ⟨0, 0, [], []⟩).os.length ≤ 40 := by
  unfold gadF
  split
  · rename_i hb
    rw [inB_iff] at hb
    have := h a.toNat (by omega) (by omega)
    simp only [circB, Bool.and_eq_true, decide_eq_true_eq] at this
    exact ⟨this.2.2.1, this.2.2.2.1⟩
  · simp
theorem chooseF_len (a : Int) : ((chooseF a).getD ⟨0, 0, [], []⟩).gs.length ≤ 300 ∧ ((chooseF a).getD ⟨0, 0, [], []⟩).os.length ≤ 40 := by
  unfold chooseF
  split
  · rename_i hb
    rw [inB_iff] at hb
    have := chooseG_ok a.toNat (by omega) (by omega)
    simp only [circB, Bool.and_eq_true, decide_eq_true_eq] at this
    exact ⟨this.2.2.1, this.2.2.2.1⟩
  · simp

end Go.Proofs.Ytgenehiiakdadaa
