/- Contracts of truth tables, columns, sums, comparisons of two circuits. -/
import Derived.Test.YtadgmbkpbgcdjaaTable2
import Derived.Test.YtadgmbkpbgcdjaaChg
import Derived.Deep.RegionLaw
namespace Go.Proofs.Ytadgmbkpbgcdjaa
open Go.RowKit
set_option linter.unusedVariables false
set_option linter.unusedSimpArgs false


theorem grown_row {v wr w5 : World} {g0 : Nat} {row : Option Nat} (h : v.grownBy wr (some g0)) (hr : ∀ g, row = some g → g = g0 ∨ v.heap.size ≤ g) (hg : wr.grownBy w5 row) : v.grownBy w5 (some g0) :=
  ⟨hg.os.trans h.os, hg.tape.trans h.tape, hg.output.trans h.output, Nat.le_trans h.size hg.size, fun i hi hne => (hg.block i (Nat.lt_of_lt_of_le hi h.size) (fun he => by
    rcases hr i he.symm with h1 | h1
    · exact hne (by rw [h1])
    · omega)).trans (h.block i hi hne)⟩
theorem OwnII.grownAt {v wr : World} {lo hi n g0 : Nat} {val : Value} {xss : List (List Int)} (h : OwnII v lo hi val n xss) (hg : v.grownBy wr (some g0)) (hl : g0 < lo ∨ hi ≤ g0) : OwnII wr lo hi val n xss :=
  h.chg (lo' := g0) (hi' := g0 + 1) ⟨hg.os, hg.tape, hg.output, hg.size, fun i hi ho => hg.block i hi (fun he => by simp only [Option.some.injEq] at he; omega)⟩ (by omega)
theorem RI.chg0 {v wr : World} {A : Option Addr} {n g0 : Nat} {xs : List Int} (h : RI v A n xs) (hg : v.grownBy wr (some g0)) (hl : ∀ b o, A = some ⟨b, o, none⟩ → b ≠ g0) : RI wr A n xs :=
  ⟨h.1, fun hn => by
    obtain ⟨b, o, hA, hlt, hc⟩ := h.2 hn
    refine ⟨b, o, hA, Nat.lt_of_lt_of_le hlt hg.size, fun j hj => ?_⟩
    rw [← hc j hj]
    exact World.cell?_of_block (w := v) (a := ⟨b, o + j, none⟩) (hg.block b hlt (fun he => hl b o hA (by simp only [Option.some.injEq] at he; exact he)))⟩
theorem row_next {v v5 : Value} {g0 V H : Nat} (h : ∀ g, v.ownBlock = some g → g = g0 ∨ V ≤ g) (hat : v5.ownBlock = v.ownBlock ∨ v5.ownBlock = some H) (hH : V ≤ H) : ∀ g, v5.ownBlock = some g → g = g0 ∨ V ≤ g := by
  intro g hg
  rcases hat with h1 | h1
  · exact h g (h1.symm.trans hg)
  · rw [h1] at hg; simp only [Option.some.injEq] at hg; omega
theorem box2_at {w wr : World} {x y : Int} {Ag : Option Addr} {ng cg : Nat} {Ao : Option Addr} {no co : Nat} {x2 y2 : Int} {Bg : Option Addr} {mg dg : Nat} {Bo : Option Addr} {mo do_ : Nat} {T T2 : TypeId}
    (hb : Below (w.heap.size + 2) ((w.alloc (.cells #[.int .i64 x, .int .i64 y, .slice Ag ng cg, .slice Ao no co] T)).alloc (.cells #[.int .i64 x2, .int .i64 y2, .slice Bg mg dg, .slice Bo mo do_] T2)) wr) : BxC wr w.heap.size x y Ag ng cg Ao no co ∧ BxC wr (w.heap.size + 1) x2 y2 Bg mg dg Bo mo do_ := by
  have q1 : BxC (w.alloc (.cells #[.int .i64 x, .int .i64 y, .slice Ag ng cg, .slice Ao no co] T)) w.heap.size x y Ag ng cg Ao no co := BxC.new _ _
  have q2 := BxC.below (w' := (w.alloc (.cells #[.int .i64 x, .int .i64 y, .slice Ag ng cg, .slice Ao no co] T)).alloc (.cells #[.int .i64 x2, .int .i64 y2, .slice Bg mg dg, .slice Bo mo do_] T2)) q1 ((Below.refl _ _).alloc (Nat.le_refl _) _)
  have q3 : BxC ((w.alloc (.cells #[.int .i64 x, .int .i64 y, .slice Ag ng cg, .slice Ao no co] T)).alloc (.cells #[.int .i64 x2, .int .i64 y2, .slice Bg mg dg, .slice Bo mo do_] T2)) (w.heap.size + 1) x2 y2 Bg mg dg Bo mo do_ := by
    have := BxC.new (w.alloc (.cells #[.int .i64 x, .int .i64 y, .slice Ag ng cg, .slice Ao no co] T)) (x := x2) (y := y2) (Ag := Bg) (ng := mg) (cg := dg) (Ao := Bo) (no := mo) (co := do_) T2
    simpa using this
  have hb' := hb.mono (B := w.heap.size + 2) (B' := ((w.alloc (.cells #[.int .i64 x, .int .i64 y, .slice Ag ng cg, .slice Ao no co] T)).alloc (.cells #[.int .i64 x2, .int .i64 y2, .slice Bg mg dg, .slice Bo mo do_] T2)).heap.size)
  exact ⟨q2.below (by simpa using hb), q3.below (by simpa using hb)⟩
/-- The outs' columns. -/
def columnF (x y : Int) (gs : List G3) (os : List Int) (k : Int) : Option (List Int) :=
  if smallB x y gs os 40 && inB 0 ((os.length : Int) - 1) k then some (colN gs os (x + y).toNat k.toNat) else none
theorem smallB_bd {x y : Int} {gs : List G3} {os : List Int} {lim : Nat} (h : smallB x y gs os lim = true) : circB x y gs os = true ∧ x + y ≤ 10 ∧ os.length ≤ lim := by
  simp only [smallB, Bool.and_eq_true, decide_eq_true_eq] at h; exact h
def sumI (xs : List Int) : Int := xs.foldl (· + ·) 0
theorem sumI_snoc (xs : List Int) (x : Int) : sumI (xs ++ [x]) = sumI xs + x := by simp [sumI]
theorem sumI_bd {xs : List Int} (h : allB 0 1 xs = true) : ∀ k, k ≤ xs.length → 0 ≤ sumI (xs.take k) ∧ sumI (xs.take k) ≤ k := by
  intro k
  induction k with
  | zero => intro _; simp [sumI]
  | succ k ih =>
    intro hk
    have h1 := ih (by omega)
    have h2 := allB_gi h (j := k) (by omega)
    rw [gi_take_snoc (by omega), sumI_snoc]; omega

end Go.Proofs.Ytadgmbkpbgcdjaa
