/- Contracts of equality of lists, of small circuits, of the tables of a circuit's outs. -/
import Derived.Test.YtjjphaiomaiilaaQOuts
import Derived.Test.YtjjphaiomaiilaaQNest2
namespace Go.Proofs.Ytjjphaiomaiilaa
open Go.RowKit
set_option linter.unusedVariables false
set_option linter.unusedSimpArgs false

theorem box_at {w wr : World} {x y : Int} {Ag : Option Addr} {ng cg : Nat} {Ao : Option Addr} {no co : Nat} {T : TypeId} (hb : Below (w.heap.size + 1) (w.alloc (.cells #[.int .i64 x, .int .i64 y, .slice Ag ng cg, .slice Ao no co] T)) wr) : BxC wr w.heap.size x y Ag ng cg Ao no co :=
  ⟨(hb.cell (p := ⟨w.heap.size, 0, none⟩) (by simp)).trans (box_cell w _ 0 _ rfl), (hb.cell (p := ⟨w.heap.size, 1, none⟩) (by simp)).trans (box_cell w _ 1 _ rfl), (hb.cell (p := ⟨w.heap.size, 2, none⟩) (by simp)).trans (box_cell w _ 2 _ rfl), (hb.cell (p := ⟨w.heap.size, 3, none⟩) (by simp)).trans (box_cell w _ 3 _ rfl)⟩
theorem two_pow_small {X : Nat} (h : X ≤ 10) : 2 ^ X ≤ 1024 := by
  have := Nat.pow_le_pow_right (n := 2) (by omega) h
  exact this
theorem pow_wrap {X N : Nat} (hN : N = 2 ^ X) (h : X ≤ 10) : N ≤ 1024 ∧ wrap64 ((2 : Int) ^ X) = N := by
  have h1 := two_pow_small h
  have h2 : (2 : Int) ^ X = (N : Int) := by rw [hN, Int.natCast_pow]; rfl
  rw [h2]
  exact ⟨by omega, IntWalk.wrap64_in _ (by omega)⟩
theorem below_chain_app {B : Nat} {a wr W w5 : World} {lo hi n c : Nat} {A : Option Addr} {xs : List Int} {o : Obj} (h : Below B a wr) (hB : B ≤ wr.heap.size) (k : Below wr.heap.size wr W) (hown : Own (W.alloc o) lo hi (.slice A n c) n xs) (hg : (W.alloc o).grownBy w5 (Value.slice A n c).ownBlock) (hl : B ≤ lo) : Below B a w5 :=
  below_app ((h.trans (k.mono hB)).alloc (by have := k.size; omega) o) hown hg (by simp; have := k.size; omega) hl
theorem below_chain_appL {B : Nat} {a wr W w5 : World} {lo hi n c : Nat} {A : Option Addr} {xss : List (List Int)} {o : Obj} (h : Below B a wr) (hB : B ≤ wr.heap.size) (k : Below wr.heap.size wr W) (hown : OwnII (W.alloc o) lo hi (.slice A n c) n xss) (hg : (W.alloc o).grownBy w5 (Value.slice A n c).ownBlock) (hl : B ≤ lo) : Below B a w5 :=
  below_appL ((h.trans (k.mono hB)).alloc (by have := k.size; omega) o) hown hg (by simp; have := k.size; omega) hl
theorem Own.from_ {w : World} {lo hi n c : Nat} {A : Option Addr} {xs : List Int} (h : Own w lo hi (.slice A n c) n xs) : ∀ g, A = some ⟨g, 0, none⟩ → lo ≤ g := fun g he => by subst he; exact (h.lt g (by simp [Value.ownBlock])).1
theorem OwnII.from_ {w : World} {lo hi n c : Nat} {A : Option Addr} {xss : List (List Int)} (h : OwnII w lo hi (.slice A n c) n xss) : ∀ g, A = some ⟨g, 0, none⟩ → lo ≤ g := fun g he => by subst he; exact (h.lt g (by simp [Value.ownBlock])).1
/-- Two lists are the same. -/
def sameB (xs ys : List Int) : Bool := decide (xs = ys)
theorem sameB_len {xs ys : List Int} (h : xs.length ≠ ys.length) : sameB xs ys = false := by
  simp only [sameB, decide_eq_false_iff_not]; intro hc; exact h (by rw [hc])
theorem sameB_at {xs ys : List Int} {k : Nat} (h : gi xs k ≠ gi ys k) : sameB xs ys = false := by
  simp only [sameB, decide_eq_false_iff_not]; intro hc; exact h (by rw [hc])
theorem sameB_all {xs ys : List Int} (h : xs.length = ys.length) (hg : ∀ j, j < xs.length → gi xs j = gi ys j) : sameB xs ys = true := by
  simp only [sameB, decide_eq_true_eq]; exact gi_eq h hg
/-- A circuit is valid, has at most ten inputs and at most lim outs. -/
def smallB (x y : Int) (gs : List G3) (os : List Int) (lim : Nat) : Bool := circB x y gs os && (decide (x + y ≤ 10) && decide (os.length ≤ lim))

set_option maxHeartbeats 400000 in
theorem siSmall_any (x y : Int) (Ag : Option Addr) (ng cg : Nat) (Ao : Option Addr) (no co : Nat) (gs : List G3) (os : List Int) (w : World) (hr : RG w Ag ng gs ∧ RI w Ao no os) (hng : ng ≤ 2097152) (hno : no ≤ 2097152) :
    Calls Try.prog 15 #[.agg #[.int .i64 x, .int .i64 y, .slice Ag ng cg, .slice Ao no co]] w fun e w' => e = .returned (.bool (smallB x y gs os 40)) ∧ Below w.heap.size w w' := by
  have hB : Below w.heap.size w (w.alloc (.cells #[.int .i64 x, .int .i64 y, .slice Ag ng cg, .slice Ao no co] 26)) := (Below.refl _ _).alloc (Nat.le_refl _) _
  cases h0 : circB x y gs os with
  | false =>
    have HR : Hid (smallB x y gs os 40 = false) := Lib.hid (by simp [smallB, h0])
    have H0 := Lib.hid h0; clear h0
    go_enter Try.func15, Try.ntmps15
    go_wp2_with fail
    refine (ciGood_any x y Ag ng cg Ao no co gs os _ (hr.1.below hB (Nat.le_refl _)) (hr.2.below hB (Nat.le_refl _)) hng hno).mono ?_
    rintro e v1 ⟨rfl, hb1⟩
    rw [H0.out]
    go_wp2
    go_ret
    exact ⟨by rw [HR.out]; rfl, hB.trans (hb1.mono hB.size)⟩
  | true =>
    obtain ⟨⟨b1, b2⟩, ⟨b3, b4⟩, _, b5, _, _⟩ := circB_bd h0
    have HR : Hid (smallB x y gs os 40 = decide (x + y ≤ 10)) := Lib.hid (by simp [smallB, h0, b5])
    have H0 := Lib.hid h0; clear h0 b5
    go_enter Try.func15, Try.ntmps15
    go_wp2_with fail
    refine (ciGood_any x y Ag ng cg Ao no co gs os _ (hr.1.below hB (Nat.le_refl _)) (hr.2.below hB (Nat.le_refl _)) hng hno).mono ?_
    rintro e v1 ⟨rfl, hb1⟩
    rw [H0.out]
    have hB1 := hB.trans (hb1.mono hB.size)
    obtain ⟨hc1, hf1⟩ := bcell hb1
    have hz1 := hb1.size
    simp only [World.size_alloc] at hz1
    have hz1' : w.heap.size < v1.heap.size := by omega
    go_wp2_with fail
    refine (ciInputs_any x y Ag ng cg Ao no co _ (by omega) (by omega)).mono ?_
    rintro e v2 ⟨rfl, hb2⟩
    go_wp2
    go_ret
    exact ⟨by rw [HR.out]; rfl, hB1.trans (hb2.mono hB1.size)⟩

set_option maxHeartbeats 400000 in
theorem isSmall_any (x y : Int) (Ag : Option Addr) (ng cg : Nat) (Ao : Option Addr) (no co : Nat) (gs : List G3) (os : List Int) (w : World) (hr : RG w Ag ng gs ∧ RI w Ao no os) (hng : ng ≤ 2097152) (hno : no ≤ 2097152) :
    Calls Try.prog 29 #[.agg #[.int .i64 x, .int .i64 y, .slice Ag ng cg, .slice Ao no co]] w fun e w' => e = .returned (.bool (smallB x y gs os 40)) ∧ Below w.heap.size w w' := by
  have hB : Below w.heap.size w (w.alloc (.cells #[.int .i64 x, .int .i64 y, .slice Ag ng cg, .slice Ao no co] 26)) := (Below.refl _ _).alloc (Nat.le_refl _) _
  cases h0 : circB x y gs os with
  | false =>
    have HR : Hid (smallB x y gs os 40 = false) := Lib.hid (by simp [smallB, h0])
    have H0 := Lib.hid h0; clear h0
    go_enter Try.func29, Try.ntmps29
    go_wp2_with fail
    refine (IsCircuit_any x y Ag ng cg Ao no co gs os _ (hr.1.below hB (Nat.le_refl _)) (hr.2.below hB (Nat.le_refl _)) hng hno).mono ?_
    rintro e v1 ⟨rfl, hb1⟩
    rw [H0.out]
    go_wp2
    go_ret
    exact ⟨by rw [HR.out]; rfl, hB.trans (hb1.mono hB.size)⟩
  | true =>
    obtain ⟨⟨b1, b2⟩, ⟨b3, b4⟩, _, b5, _, _⟩ := circB_bd h0
    have HR : Hid (smallB x y gs os 40 = decide (x + y ≤ 10)) := Lib.hid (by simp [smallB, h0, b5])
    have H0 := Lib.hid h0; clear h0 b5
    go_enter Try.func29, Try.ntmps29
    go_wp2_with fail
    refine (IsCircuit_any x y Ag ng cg Ao no co gs os _ (hr.1.below hB (Nat.le_refl _)) (hr.2.below hB (Nat.le_refl _)) hng hno).mono ?_
    rintro e v1 ⟨rfl, hb1⟩
    rw [H0.out]
    have hB1 := hB.trans (hb1.mono hB.size)
    obtain ⟨hc1, hf1⟩ := bcell hb1
    have hz1 := hb1.size
    simp only [World.size_alloc] at hz1
    have hz1' : w.heap.size < v1.heap.size := by omega
    go_wp2_with fail
    refine (Circuit_inputs_any x y Ag ng cg Ao no co _ (by omega) (by omega)).mono ?_
    rintro e v2 ⟨rfl, hb2⟩
    go_wp2
    go_ret
    exact ⟨by rw [HR.out]; rfl, hB1.trans (hb2.mono hB1.size)⟩

end Go.Proofs.Ytjjphaiomaiilaa
