/- Contracts of equality of lists, of small circuits, of the tables of a circuit's outs. -/
import Derived.Test.YtgenehiiakdadaaQOuts
import Derived.Test.YtgenehiiakdadaaQNest2
namespace Go.Proofs.Ytgenehiiakdadaa
open Go.RowKit
set_option linter.unusedVariables false
set_option linter.unusedSimpArgs false

theorem box_at {w wr : World} {x y : Int} {Ag : Option Addr} {ng cg : Nat} {Ao : Option Addr} {no co : Nat} {T : TypeId} (hb : Below (w.heap.size + 1) (w.alloc (.cells #[.int .i64 x, .int .i64 y, .slice Ag ng cg, .slice Ao no co] T)) wr) : BxC wr w.heap.size x y Ag ng cg Ao no co :=
  ⟨(hb.cell (p := ⟨w.heap.size, 0, none⟩) (by simp)).trans (box_cell w _ 0 _ rfl), (hb.cell (p := ⟨w.heap.size, 1, none⟩) (by simp)).trans (box_cell w _ 1 _ rfl), (hb.cell (p := ⟨w.heap.size, 2, none⟩) (by simp)).trans (box_cell w _ 2 _ rfl), (hb.cell (p := ⟨w.heap.size, 3, none⟩) (by simp)).trans (box_cell w _ 3 _ rfl)⟩
theorem two_pow_small {X : Nat} (h : X ≤ 10) : 2 ^ X ≤ 1024 := by
  have := Nat.pow_le_pow_right (n := 2) (by omega) h
  exact this
theorem pow_wrap {X N : Nat} (hN : N = 2 ^ X) (h : X ≤ 10) : N ≤ 1024 ∧ wrap64 ((2 : Int) ^ X) = N := by
  have h1 := two_pow_small h
  have h2 : (2 : Int) ^ X = (N : Int) := by rw [hN, Int.natCast_pow]; rfl
  rw [h2]
  exact ⟨by omega, IntWalk.wrap64_in _ (by omega)⟩
theorem below_chain_app {B : Nat} {a wr W w5 : World} {lo hi n c : Nat} {A : Option Addr} {xs : List Int} {o : Obj} (h : Below B a wr) (hB : B ≤ wr.heap.size) (k : Below wr.heap.size wr W) (hown : Own (W.alloc o) lo hi (.slice A n c) n xs) (hg : (W.alloc o).grownBy w5 (Value.slice A n c).ownBlock) (hl : B ≤ lo) : Below B a w5 :=
  below_app ((h.trans (k.mono hB)).alloc (by have := k.size; omega) o) hown hg (by simp; have := k.size; omega) hl
theorem Own.from_ {w : World} {lo hi n c : Nat} {A : Option Addr} {xs : List Int} (h : Own w lo hi (.slice A n c) n xs) : ∀ g, A = some ⟨g, 0, none⟩ → lo ≤ g := fun g he => by subst he; exact (h.lt g (by simp [Value.ownBlock])).1
/-- Two lists are the same. -/
def sameB (xs ys : List Int) : Bool := decide (xs = ys)
theorem sameB_len {xs ys : List Int} (h : xs.length ≠ ys.length) : sameB xs ys = false := by
  simp only [sameB, decide_eq_false_iff_not]; intro hc; exact h (by rw [hc])
theorem sameB_at {xs ys : List Int} {k : Nat} (h : gi xs k ≠ gi ys k) : sameB xs ys = false := by
  simp only [sameB, decide_eq_false_iff_not]; intro hc; exact h (by rw [hc])
theorem sameB_all {xs ys : List Int} (h : xs.length = ys.length) (hg : ∀ j, j < xs.length → gi xs j = gi ys j) : sameB xs ys = true := by
  simp only [sameB, decide_eq_true_eq]; exact gi_eq h hg
/-- A circuit is valid, has at most ten inputs and at most lim outs. -/
def smallB (x y : Int) (gs : List G3) (os : List Int) (lim : Nat) : Bool := circB x y gs os && (decide (x + y ≤ 10) && decide (os.length ≤ lim))

end Go.Proofs.Ytgenehiiakdadaa
