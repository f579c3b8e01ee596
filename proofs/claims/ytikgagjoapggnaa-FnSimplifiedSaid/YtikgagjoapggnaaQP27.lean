/- Contracts of AreEqual, FirstUnequal and what they call. A slice of lists that grows while a list of numbers grows beside it: the outer row is the call's own, its lists are read and lie in other blocks than that list. Contracts of EqualOuts. Plain facts for the law of merged circuits, joined. No program in sight. -/
import Derived.Deep.RegionLaw
import Derived.Test.YtikgagjoapggnaaQP26
import Derived.Test.YtikgagjoapggnaaQP25
import Derived.Test.YtikgagjoapggnaaQP15
import Derived.Laws.CopyOwn
namespace Go.Proofs.Ytikgagjoapggnaa
open Go.RowKit
set_option linter.unusedVariables false
set_option linter.unusedSimpArgs false
theorem natne {a b : Nat} (h : ¬ ((a : Int) = b)) : ¬ a = b := fun hc => h (by rw [hc])
theorem nateq {a b : Nat} (h : (a : Int) = b) : a = b := by omega
set_option maxRecDepth 100000 in
set_option maxHeartbeats 1600000 in
theorem siPair_any (x y : Int) (Ag : Option Addr) (ng cg : Nat) (Ao : Option Addr) (no co : Nat) (x2 y2 : Int) (Bg : Option Addr) (mg dg : Nat) (Bo : Option Addr) (mo do_ : Nat) (gs : List G3) (os : List Int) (hs_ : List G3) (ps : List Int) (w : World) (hr : RG w Ag ng gs ∧ RI w Ao no os) (hs : RG w Bg mg hs_ ∧ RI w Bo mo ps) (hng : ng ≤ 2097152) (hno : no ≤ 2097152) (hmg : mg ≤ 2097152) (hmo : mo ≤ 2097152) :
    Calls Try.prog 32 #[.agg #[.int .i64 x, .int .i64 y, .slice Ag ng cg, .slice Ao no co], .agg #[.int .i64 x2, .int .i64 y2, .slice Bg mg dg, .slice Bo mo do_]] w fun e w' => e = .returned (.bool (pairB x y gs os x2 y2 hs_ ps)) ∧ Below w.heap.size w w' := by
  have hB : Below w.heap.size w ((w.alloc (.cells #[.int .i64 x, .int .i64 y, .slice Ag ng cg, .slice Ao no co] 26)).alloc (.cells #[.int .i64 x2, .int .i64 y2, .slice Bg mg dg, .slice Bo mo do_] 26)) := ((Below.refl _ _).alloc (Nat.le_refl _) _).alloc (by simp) _
  have hlg := hr.1.len
  have hlo := hr.2.len
  have hlh := hs.1.len
  have hlp := hs.2.len
  cases h0 : smallB x y gs os 40 with
  | false =>
    have HR : Hid (pairB x y gs os x2 y2 hs_ ps = false) := Lib.hid (by simp [pairB, h0])
    have H0 := Lib.hid h0; clear h0
    go_enter Try.func32, Try.ntmps32
    go_wp2_with fail
    refine (siSmall_any x y Ag ng cg Ao no co gs os _ ⟨hr.1.below hB (Nat.le_refl _), hr.2.below hB (Nat.le_refl _)⟩ hng hno).mono ?_
    rintro e v1 ⟨rfl, hb1⟩
    rw [H0.out]
    have hB1 := hB.trans (hb1.mono hB.size)
    go_wp2
    go_ret
    exact ⟨by rw [HR.out]; rfl, hB1⟩
  | true =>
    have H0 := Lib.hid h0; clear h0
    cases h1 : smallB x2 y2 hs_ ps 40 with
    | false =>
      have HR : Hid (pairB x y gs os x2 y2 hs_ ps = false) := Lib.hid (by simp [pairB, H0.out, h1])
      have H1 := Lib.hid h1; clear h1
      go_enter Try.func32, Try.ntmps32
      go_wp2_with fail
      refine (siSmall_any x y Ag ng cg Ao no co gs os _ ⟨hr.1.below hB (Nat.le_refl _), hr.2.below hB (Nat.le_refl _)⟩ hng hno).mono ?_
      rintro e v1 ⟨rfl, hb1⟩
      rw [H0.out]
      have hB1 := hB.trans (hb1.mono hB.size)
      have k0_0_1 := cell_below (cell_below (box_cell w #[.int .i64 x, .int .i64 y, .slice Ag ng cg, .slice Ao no co] (T := 26) 0 _ rfl) ((Below.refl _ _).alloc (Nat.le_refl _) (.cells #[.int .i64 x2, .int .i64 y2, .slice Bg mg dg, .slice Bo mo do_] 26))) hb1
      have k0_1_1 := cell_below (cell_below (box_cell w #[.int .i64 x, .int .i64 y, .slice Ag ng cg, .slice Ao no co] (T := 26) 1 _ rfl) ((Below.refl _ _).alloc (Nat.le_refl _) (.cells #[.int .i64 x2, .int .i64 y2, .slice Bg mg dg, .slice Bo mo do_] 26))) hb1
      have k0_2_1 := cell_below (cell_below (box_cell w #[.int .i64 x, .int .i64 y, .slice Ag ng cg, .slice Ao no co] (T := 26) 2 _ rfl) ((Below.refl _ _).alloc (Nat.le_refl _) (.cells #[.int .i64 x2, .int .i64 y2, .slice Bg mg dg, .slice Bo mo do_] 26))) hb1
      have k0_3_1 := cell_below (cell_below (box_cell w #[.int .i64 x, .int .i64 y, .slice Ag ng cg, .slice Ao no co] (T := 26) 3 _ rfl) ((Below.refl _ _).alloc (Nat.le_refl _) (.cells #[.int .i64 x2, .int .i64 y2, .slice Bg mg dg, .slice Bo mo do_] 26))) hb1
      have k1_0_1 := cell_below (box_cell (w.alloc (.cells #[.int .i64 x, .int .i64 y, .slice Ag ng cg, .slice Ao no co] 26)) #[.int .i64 x2, .int .i64 y2, .slice Bg mg dg, .slice Bo mo do_] (T := 26) 0 _ rfl) hb1; simp only [World.size_alloc] at k1_0_1
      have k1_1_1 := cell_below (box_cell (w.alloc (.cells #[.int .i64 x, .int .i64 y, .slice Ag ng cg, .slice Ao no co] 26)) #[.int .i64 x2, .int .i64 y2, .slice Bg mg dg, .slice Bo mo do_] (T := 26) 1 _ rfl) hb1; simp only [World.size_alloc] at k1_1_1
      have k1_2_1 := cell_below (box_cell (w.alloc (.cells #[.int .i64 x, .int .i64 y, .slice Ag ng cg, .slice Ao no co] 26)) #[.int .i64 x2, .int .i64 y2, .slice Bg mg dg, .slice Bo mo do_] (T := 26) 2 _ rfl) hb1; simp only [World.size_alloc] at k1_2_1
      have k1_3_1 := cell_below (box_cell (w.alloc (.cells #[.int .i64 x, .int .i64 y, .slice Ag ng cg, .slice Ao no co] 26)) #[.int .i64 x2, .int .i64 y2, .slice Bg mg dg, .slice Bo mo do_] (T := 26) 3 _ rfl) hb1; simp only [World.size_alloc] at k1_3_1
      have z0 : w.heap.size < v1.heap.size := by have := hb1.size; simp only [World.size_alloc] at this; omega
      have z1 : w.heap.size + 1 < v1.heap.size := by have := hb1.size; simp only [World.size_alloc] at this; omega
      go_wp2_with fail
      refine (siSmall_any x2 y2 Bg mg dg Bo mo do_ hs_ ps _ ⟨hs.1.below hB1 (Nat.le_refl _), hs.2.below hB1 (Nat.le_refl _)⟩ hmg hmo).mono ?_
      rintro e v2 ⟨rfl, hb2⟩
      rw [H1.out]
      have hB2 := hB1.trans (hb2.mono hB1.size)
      go_wp2
      go_ret
      exact ⟨by rw [HR.out]; rfl, hB2⟩
    | true =>
      have H1 := Lib.hid h1; clear h1
      by_cases h2 : x = x2
      rotate_left
      · have e2 : ((x) == (x2)) = false := by simpa using h2
        have g2 : ((x) != (x2)) = true := by simpa using h2
        have HR : Hid (pairB x y gs os x2 y2 hs_ ps = false) := Lib.hid (by simp [pairB, H0.out, H1.out, h2])
        clear h2
        go_enter Try.func32, Try.ntmps32
        go_wp2_with fail
        refine (siSmall_any x y Ag ng cg Ao no co gs os _ ⟨hr.1.below hB (Nat.le_refl _), hr.2.below hB (Nat.le_refl _)⟩ hng hno).mono ?_
        rintro e v1 ⟨rfl, hb1⟩
        rw [H0.out]
        have hB1 := hB.trans (hb1.mono hB.size)
        have k0_0_1 := cell_below (cell_below (box_cell w #[.int .i64 x, .int .i64 y, .slice Ag ng cg, .slice Ao no co] (T := 26) 0 _ rfl) ((Below.refl _ _).alloc (Nat.le_refl _) (.cells #[.int .i64 x2, .int .i64 y2, .slice Bg mg dg, .slice Bo mo do_] 26))) hb1
        have k0_1_1 := cell_below (cell_below (box_cell w #[.int .i64 x, .int .i64 y, .slice Ag ng cg, .slice Ao no co] (T := 26) 1 _ rfl) ((Below.refl _ _).alloc (Nat.le_refl _) (.cells #[.int .i64 x2, .int .i64 y2, .slice Bg mg dg, .slice Bo mo do_] 26))) hb1
        have k0_2_1 := cell_below (cell_below (box_cell w #[.int .i64 x, .int .i64 y, .slice Ag ng cg, .slice Ao no co] (T := 26) 2 _ rfl) ((Below.refl _ _).alloc (Nat.le_refl _) (.cells #[.int .i64 x2, .int .i64 y2, .slice Bg mg dg, .slice Bo mo do_] 26))) hb1
        have k0_3_1 := cell_below (cell_below (box_cell w #[.int .i64 x, .int .i64 y, .slice Ag ng cg, .slice Ao no co] (T := 26) 3 _ rfl) ((Below.refl _ _).alloc (Nat.le_refl _) (.cells #[.int .i64 x2, .int .i64 y2, .slice Bg mg dg, .slice Bo mo do_] 26))) hb1
        have k1_0_1 := cell_below (box_cell (w.alloc (.cells #[.int .i64 x, .int .i64 y, .slice Ag ng cg, .slice Ao no co] 26)) #[.int .i64 x2, .int .i64 y2, .slice Bg mg dg, .slice Bo mo do_] (T := 26) 0 _ rfl) hb1; simp only [World.size_alloc] at k1_0_1
        have k1_1_1 := cell_below (box_cell (w.alloc (.cells #[.int .i64 x, .int .i64 y, .slice Ag ng cg, .slice Ao no co] 26)) #[.int .i64 x2, .int .i64 y2, .slice Bg mg dg, .slice Bo mo do_] (T := 26) 1 _ rfl) hb1; simp only [World.size_alloc] at k1_1_1
        have k1_2_1 := cell_below (box_cell (w.alloc (.cells #[.int .i64 x, .int .i64 y, .slice Ag ng cg, .slice Ao no co] 26)) #[.int .i64 x2, .int .i64 y2, .slice Bg mg dg, .slice Bo mo do_] (T := 26) 2 _ rfl) hb1; simp only [World.size_alloc] at k1_2_1
        have k1_3_1 := cell_below (box_cell (w.alloc (.cells #[.int .i64 x, .int .i64 y, .slice Ag ng cg, .slice Ao no co] 26)) #[.int .i64 x2, .int .i64 y2, .slice Bg mg dg, .slice Bo mo do_] (T := 26) 3 _ rfl) hb1; simp only [World.size_alloc] at k1_3_1
        have z0 : w.heap.size < v1.heap.size := by have := hb1.size; simp only [World.size_alloc] at this; omega
        have z1 : w.heap.size + 1 < v1.heap.size := by have := hb1.size; simp only [World.size_alloc] at this; omega
        go_wp2_with fail
        refine (siSmall_any x2 y2 Bg mg dg Bo mo do_ hs_ ps _ ⟨hs.1.below hB1 (Nat.le_refl _), hs.2.below hB1 (Nat.le_refl _)⟩ hmg hmo).mono ?_
        rintro e v2 ⟨rfl, hb2⟩
        rw [H1.out]
        have hB2 := hB1.trans (hb2.mono hB1.size)
        have k0_0_2 := cell_below k0_0_1 hb2; clear k0_0_1
        have k0_1_2 := cell_below k0_1_1 hb2; clear k0_1_1
        have k0_2_2 := cell_below k0_2_1 hb2; clear k0_2_1
        have k0_3_2 := cell_below k0_3_1 hb2; clear k0_3_1
        have k1_0_2 := cell_below k1_0_1 hb2; clear k1_0_1
        have k1_1_2 := cell_below k1_1_1 hb2; clear k1_1_1
        have k1_2_2 := cell_below k1_2_1 hb2; clear k1_2_1
        have k1_3_2 := cell_below k1_3_1 hb2; clear k1_3_1
        have z0_2 : w.heap.size < v2.heap.size := by have := hb2.size; omega
        have z1_2 : w.heap.size + 1 < v2.heap.size := by have := hb2.size; omega
        go_wp2
        go_ret
        exact ⟨by rw [HR.out]; rfl, hB2⟩
      have e2 : ((x) == (x2)) = true := by simpa using h2
      have g2 : ((x) != (x2)) = false := by simpa using h2
      have H2 := Lib.hid h2; clear h2
      by_cases h3 : y = y2
      rotate_left
      · have e3 : ((y) == (y2)) = false := by simpa using h3
        have g3 : ((y) != (y2)) = true := by simpa using h3
        have HR : Hid (pairB x y gs os x2 y2 hs_ ps = false) := Lib.hid (by simp [pairB, H0.out, H1.out, H2.out, h3])
        clear h3
        go_enter Try.func32, Try.ntmps32
        go_wp2_with fail
        refine (siSmall_any x y Ag ng cg Ao no co gs os _ ⟨hr.1.below hB (Nat.le_refl _), hr.2.below hB (Nat.le_refl _)⟩ hng hno).mono ?_
        rintro e v1 ⟨rfl, hb1⟩
        rw [H0.out]
        have hB1 := hB.trans (hb1.mono hB.size)
        have k0_0_1 := cell_below (cell_below (box_cell w #[.int .i64 x, .int .i64 y, .slice Ag ng cg, .slice Ao no co] (T := 26) 0 _ rfl) ((Below.refl _ _).alloc (Nat.le_refl _) (.cells #[.int .i64 x2, .int .i64 y2, .slice Bg mg dg, .slice Bo mo do_] 26))) hb1
        have k0_1_1 := cell_below (cell_below (box_cell w #[.int .i64 x, .int .i64 y, .slice Ag ng cg, .slice Ao no co] (T := 26) 1 _ rfl) ((Below.refl _ _).alloc (Nat.le_refl _) (.cells #[.int .i64 x2, .int .i64 y2, .slice Bg mg dg, .slice Bo mo do_] 26))) hb1
        have k0_2_1 := cell_below (cell_below (box_cell w #[.int .i64 x, .int .i64 y, .slice Ag ng cg, .slice Ao no co] (T := 26) 2 _ rfl) ((Below.refl _ _).alloc (Nat.le_refl _) (.cells #[.int .i64 x2, .int .i64 y2, .slice Bg mg dg, .slice Bo mo do_] 26))) hb1
        have k0_3_1 := cell_below (cell_below (box_cell w #[.int .i64 x, .int .i64 y, .slice Ag ng cg, .slice Ao no co] (T := 26) 3 _ rfl) ((Below.refl _ _).alloc (Nat.le_refl _) (.cells #[.int .i64 x2, .int .i64 y2, .slice Bg mg dg, .slice Bo mo do_] 26))) hb1
        have k1_0_1 := cell_below (box_cell (w.alloc (.cells #[.int .i64 x, .int .i64 y, .slice Ag ng cg, .slice Ao no co] 26)) #[.int .i64 x2, .int .i64 y2, .slice Bg mg dg, .slice Bo mo do_] (T := 26) 0 _ rfl) hb1; simp only [World.size_alloc] at k1_0_1
        have k1_1_1 := cell_below (box_cell (w.alloc (.cells #[.int .i64 x, .int .i64 y, .slice Ag ng cg, .slice Ao no co] 26)) #[.int .i64 x2, .int .i64 y2, .slice Bg mg dg, .slice Bo mo do_] (T := 26) 1 _ rfl) hb1; simp only [World.size_alloc] at k1_1_1
        have k1_2_1 := cell_below (box_cell (w.alloc (.cells #[.int .i64 x, .int .i64 y, .slice Ag ng cg, .slice Ao no co] 26)) #[.int .i64 x2, .int .i64 y2, .slice Bg mg dg, .slice Bo mo do_] (T := 26) 2 _ rfl) hb1; simp only [World.size_alloc] at k1_2_1
        have k1_3_1 := cell_below (box_cell (w.alloc (.cells #[.int .i64 x, .int .i64 y, .slice Ag ng cg, .slice Ao no co] 26)) #[.int .i64 x2, .int .i64 y2, .slice Bg mg dg, .slice Bo mo do_] (T := 26) 3 _ rfl) hb1; simp only [World.size_alloc] at k1_3_1
        have z0 : w.heap.size < v1.heap.size := by have := hb1.size; simp only [World.size_alloc] at this; omega
        have z1 : w.heap.size + 1 < v1.heap.size := by have := hb1.size; simp only [World.size_alloc] at this; omega
        go_wp2_with fail
        refine (siSmall_any x2 y2 Bg mg dg Bo mo do_ hs_ ps _ ⟨hs.1.below hB1 (Nat.le_refl _), hs.2.below hB1 (Nat.le_refl _)⟩ hmg hmo).mono ?_
        rintro e v2 ⟨rfl, hb2⟩
        rw [H1.out]
        have hB2 := hB1.trans (hb2.mono hB1.size)
        have k0_0_2 := cell_below k0_0_1 hb2; clear k0_0_1
        have k0_1_2 := cell_below k0_1_1 hb2; clear k0_1_1
        have k0_2_2 := cell_below k0_2_1 hb2; clear k0_2_1
        have k0_3_2 := cell_below k0_3_1 hb2; clear k0_3_1
        have k1_0_2 := cell_below k1_0_1 hb2; clear k1_0_1
        have k1_1_2 := cell_below k1_1_1 hb2; clear k1_1_1
        have k1_2_2 := cell_below k1_2_1 hb2; clear k1_2_1
        have k1_3_2 := cell_below k1_3_1 hb2; clear k1_3_1
        have z0_2 : w.heap.size < v2.heap.size := by have := hb2.size; omega
        have z1_2 : w.heap.size + 1 < v2.heap.size := by have := hb2.size; omega
        go_wp2
        go_ret
        exact ⟨by rw [HR.out]; rfl, hB2⟩
      have e3 : ((y) == (y2)) = true := by simpa using h3
      have g3 : ((y) != (y2)) = false := by simpa using h3
      have H3 := Lib.hid h3; clear h3
      by_cases h4 : (no : Int) = (mo : Int)
      rotate_left
      · have e4 : (((no : Int)) == ((mo : Int))) = false := by simpa using h4
        have g4 : (((no : Int)) != ((mo : Int))) = true := by simpa using h4
        have HR : Hid (pairB x y gs os x2 y2 hs_ ps = false) := Lib.hid (by simp [pairB, H0.out, H1.out, H2.out, H3.out, hlo, hlp, natne h4])
        clear h4
        go_enter Try.func32, Try.ntmps32
        go_wp2_with fail
        refine (siSmall_any x y Ag ng cg Ao no co gs os _ ⟨hr.1.below hB (Nat.le_refl _), hr.2.below hB (Nat.le_refl _)⟩ hng hno).mono ?_
        rintro e v1 ⟨rfl, hb1⟩
        rw [H0.out]
        have hB1 := hB.trans (hb1.mono hB.size)
        have k0_0_1 := cell_below (cell_below (box_cell w #[.int .i64 x, .int .i64 y, .slice Ag ng cg, .slice Ao no co] (T := 26) 0 _ rfl) ((Below.refl _ _).alloc (Nat.le_refl _) (.cells #[.int .i64 x2, .int .i64 y2, .slice Bg mg dg, .slice Bo mo do_] 26))) hb1
        have k0_1_1 := cell_below (cell_below (box_cell w #[.int .i64 x, .int .i64 y, .slice Ag ng cg, .slice Ao no co] (T := 26) 1 _ rfl) ((Below.refl _ _).alloc (Nat.le_refl _) (.cells #[.int .i64 x2, .int .i64 y2, .slice Bg mg dg, .slice Bo mo do_] 26))) hb1
        have k0_2_1 := cell_below (cell_below (box_cell w #[.int .i64 x, .int .i64 y, .slice Ag ng cg, .slice Ao no co] (T := 26) 2 _ rfl) ((Below.refl _ _).alloc (Nat.le_refl _) (.cells #[.int .i64 x2, .int .i64 y2, .slice Bg mg dg, .slice Bo mo do_] 26))) hb1
        have k0_3_1 := cell_below (cell_below (box_cell w #[.int .i64 x, .int .i64 y, .slice Ag ng cg, .slice Ao no co] (T := 26) 3 _ rfl) ((Below.refl _ _).alloc (Nat.le_refl _) (.cells #[.int .i64 x2, .int .i64 y2, .slice Bg mg dg, .slice Bo mo do_] 26))) hb1
        have k1_0_1 := cell_below (box_cell (w.alloc (.cells #[.int .i64 x, .int .i64 y, .slice Ag ng cg, .slice Ao no co] 26)) #[.int .i64 x2, .int .i64 y2, .slice Bg mg dg, .slice Bo mo do_] (T := 26) 0 _ rfl) hb1; simp only [World.size_alloc] at k1_0_1
        have k1_1_1 := cell_below (box_cell (w.alloc (.cells #[.int .i64 x, .int .i64 y, .slice Ag ng cg, .slice Ao no co] 26)) #[.int .i64 x2, .int .i64 y2, .slice Bg mg dg, .slice Bo mo do_] (T := 26) 1 _ rfl) hb1; simp only [World.size_alloc] at k1_1_1
        have k1_2_1 := cell_below (box_cell (w.alloc (.cells #[.int .i64 x, .int .i64 y, .slice Ag ng cg, .slice Ao no co] 26)) #[.int .i64 x2, .int .i64 y2, .slice Bg mg dg, .slice Bo mo do_] (T := 26) 2 _ rfl) hb1; simp only [World.size_alloc] at k1_2_1
        have k1_3_1 := cell_below (box_cell (w.alloc (.cells #[.int .i64 x, .int .i64 y, .slice Ag ng cg, .slice Ao no co] 26)) #[.int .i64 x2, .int .i64 y2, .slice Bg mg dg, .slice Bo mo do_] (T := 26) 3 _ rfl) hb1; simp only [World.size_alloc] at k1_3_1
        have z0 : w.heap.size < v1.heap.size := by have := hb1.size; simp only [World.size_alloc] at this; omega
        have z1 : w.heap.size + 1 < v1.heap.size := by have := hb1.size; simp only [World.size_alloc] at this; omega
        go_wp2_with fail
        refine (siSmall_any x2 y2 Bg mg dg Bo mo do_ hs_ ps _ ⟨hs.1.below hB1 (Nat.le_refl _), hs.2.below hB1 (Nat.le_refl _)⟩ hmg hmo).mono ?_
        rintro e v2 ⟨rfl, hb2⟩
        rw [H1.out]
        have hB2 := hB1.trans (hb2.mono hB1.size)
        have k0_0_2 := cell_below k0_0_1 hb2; clear k0_0_1
        have k0_1_2 := cell_below k0_1_1 hb2; clear k0_1_1
        have k0_2_2 := cell_below k0_2_1 hb2; clear k0_2_1
        have k0_3_2 := cell_below k0_3_1 hb2; clear k0_3_1
        have k1_0_2 := cell_below k1_0_1 hb2; clear k1_0_1
        have k1_1_2 := cell_below k1_1_1 hb2; clear k1_1_1
        have k1_2_2 := cell_below k1_2_1 hb2; clear k1_2_1
        have k1_3_2 := cell_below k1_3_1 hb2; clear k1_3_1
        have z0_2 : w.heap.size < v2.heap.size := by have := hb2.size; omega
        have z1_2 : w.heap.size + 1 < v2.heap.size := by have := hb2.size; omega
        go_wp2
        go_ret
        exact ⟨by rw [HR.out]; rfl, hB2⟩
      have e4 : (((no : Int)) == ((mo : Int))) = true := by simpa using h4
      have g4 : (((no : Int)) != ((mo : Int))) = false := by simpa using h4
      have H4 := Lib.hid h4; clear h4
      have HR : Hid (pairB x y gs os x2 y2 hs_ ps = true) := Lib.hid (by unfold pairB; rw [H0.out, H1.out]; simp [H2.out, H3.out, hlo, hlp, nateq H4.out])
      go_enter Try.func32, Try.ntmps32
      go_wp2_with fail
      refine (siSmall_any x y Ag ng cg Ao no co gs os _ ⟨hr.1.below hB (Nat.le_refl _), hr.2.below hB (Nat.le_refl _)⟩ hng hno).mono ?_
      rintro e v1 ⟨rfl, hb1⟩
      rw [H0.out]
      have hB1 := hB.trans (hb1.mono hB.size)
      have k0_0_1 := cell_below (cell_below (box_cell w #[.int .i64 x, .int .i64 y, .slice Ag ng cg, .slice Ao no co] (T := 26) 0 _ rfl) ((Below.refl _ _).alloc (Nat.le_refl _) (.cells #[.int .i64 x2, .int .i64 y2, .slice Bg mg dg, .slice Bo mo do_] 26))) hb1
      have k0_1_1 := cell_below (cell_below (box_cell w #[.int .i64 x, .int .i64 y, .slice Ag ng cg, .slice Ao no co] (T := 26) 1 _ rfl) ((Below.refl _ _).alloc (Nat.le_refl _) (.cells #[.int .i64 x2, .int .i64 y2, .slice Bg mg dg, .slice Bo mo do_] 26))) hb1
      have k0_2_1 := cell_below (cell_below (box_cell w #[.int .i64 x, .int .i64 y, .slice Ag ng cg, .slice Ao no co] (T := 26) 2 _ rfl) ((Below.refl _ _).alloc (Nat.le_refl _) (.cells #[.int .i64 x2, .int .i64 y2, .slice Bg mg dg, .slice Bo mo do_] 26))) hb1
      have k0_3_1 := cell_below (cell_below (box_cell w #[.int .i64 x, .int .i64 y, .slice Ag ng cg, .slice Ao no co] (T := 26) 3 _ rfl) ((Below.refl _ _).alloc (Nat.le_refl _) (.cells #[.int .i64 x2, .int .i64 y2, .slice Bg mg dg, .slice Bo mo do_] 26))) hb1
      have k1_0_1 := cell_below (box_cell (w.alloc (.cells #[.int .i64 x, .int .i64 y, .slice Ag ng cg, .slice Ao no co] 26)) #[.int .i64 x2, .int .i64 y2, .slice Bg mg dg, .slice Bo mo do_] (T := 26) 0 _ rfl) hb1; simp only [World.size_alloc] at k1_0_1
      have k1_1_1 := cell_below (box_cell (w.alloc (.cells #[.int .i64 x, .int .i64 y, .slice Ag ng cg, .slice Ao no co] 26)) #[.int .i64 x2, .int .i64 y2, .slice Bg mg dg, .slice Bo mo do_] (T := 26) 1 _ rfl) hb1; simp only [World.size_alloc] at k1_1_1
      have k1_2_1 := cell_below (box_cell (w.alloc (.cells #[.int .i64 x, .int .i64 y, .slice Ag ng cg, .slice Ao no co] 26)) #[.int .i64 x2, .int .i64 y2, .slice Bg mg dg, .slice Bo mo do_] (T := 26) 2 _ rfl) hb1; simp only [World.size_alloc] at k1_2_1
      have k1_3_1 := cell_below (box_cell (w.alloc (.cells #[.int .i64 x, .int .i64 y, .slice Ag ng cg, .slice Ao no co] 26)) #[.int .i64 x2, .int .i64 y2, .slice Bg mg dg, .slice Bo mo do_] (T := 26) 3 _ rfl) hb1; simp only [World.size_alloc] at k1_3_1
      have z0 : w.heap.size < v1.heap.size := by have := hb1.size; simp only [World.size_alloc] at this; omega
      have z1 : w.heap.size + 1 < v1.heap.size := by have := hb1.size; simp only [World.size_alloc] at this; omega
      go_wp2_with fail
      refine (siSmall_any x2 y2 Bg mg dg Bo mo do_ hs_ ps _ ⟨hs.1.below hB1 (Nat.le_refl _), hs.2.below hB1 (Nat.le_refl _)⟩ hmg hmo).mono ?_
      rintro e v2 ⟨rfl, hb2⟩
      rw [H1.out]
      have hB2 := hB1.trans (hb2.mono hB1.size)
      have k0_0_2 := cell_below k0_0_1 hb2; clear k0_0_1
      have k0_1_2 := cell_below k0_1_1 hb2; clear k0_1_1
      have k0_2_2 := cell_below k0_2_1 hb2; clear k0_2_1
      have k0_3_2 := cell_below k0_3_1 hb2; clear k0_3_1
      have k1_0_2 := cell_below k1_0_1 hb2; clear k1_0_1
      have k1_1_2 := cell_below k1_1_1 hb2; clear k1_1_1
      have k1_2_2 := cell_below k1_2_1 hb2; clear k1_2_1
      have k1_3_2 := cell_below k1_3_1 hb2; clear k1_3_1
      have z0_2 : w.heap.size < v2.heap.size := by have := hb2.size; omega
      have z1_2 : w.heap.size + 1 < v2.heap.size := by have := hb2.size; omega
      go_wp2
      go_ret
      exact ⟨by rw [HR.out]; rfl, hB2⟩
set_option maxRecDepth 100000 in
set_option maxHeartbeats 1600000 in
theorem siUnequal_any (x y : Int) (Ag : Option Addr) (ng cg : Nat) (Ao : Option Addr) (no co : Nat) (x2 y2 : Int) (Bg : Option Addr) (mg dg : Nat) (Bo : Option Addr) (mo do_ : Nat) (gs : List G3) (os : List Int) (hs_ : List G3) (ps : List Int) (X N : Nat) (w : World) (hr : RG w Ag ng gs ∧ RI w Ao no os) (hx : 0 ≤ x ∧ x ≤ 20) (hy : 0 ≤ y ∧ y ≤ 20) (hX : x + y = X) (hX10 : X ≤ 10) (hN : N = 2 ^ X) (hgat : gatesB X gs gs.length = true) (hos : allB 0 ((X : Int) + gs.length - 1) os = true) (hng : ng ≤ 300) (hno : no ≤ 40) (hs : RG w Bg mg hs_ ∧ RI w Bo mo ps) (hXd : x2 + y2 = X) (hgat2 : gatesB X hs_ hs_.length = true) (hos2 : allB 0 ((X : Int) + hs_.length - 1) ps = true) (hmg : mg ≤ 300) (hmo : mo ≤ 40) :
    Calls Try.prog 33 #[.agg #[.int .i64 x, .int .i64 y, .slice Ag ng cg, .slice Ao no co], .agg #[.int .i64 x2, .int .i64 y2, .slice Bg mg dg, .slice Bo mo do_]] w fun e w' => e = .returned (.int .i64 (uneq (outsN gs os X) (outsN hs_ ps X) N)) ∧ Below w.heap.size w w' := by
  have hB : Below w.heap.size w ((w.alloc (.cells #[.int .i64 x, .int .i64 y, .slice Ag ng cg, .slice Ao no co] 26)).alloc (.cells #[.int .i64 x2, .int .i64 y2, .slice Bg mg dg, .slice Bo mo do_] 26)) := ((Below.refl _ _).alloc (Nat.le_refl _) _).alloc (by simp) _
  have hlg := hr.1.len
  have hlo := hr.2.len
  have hlh := hs.1.len
  have hlp := hs.2.len
  have hos' : allB 0 (((X + ng : Nat) : Int) - 1) os = true := by rw [show (((X + ng : Nat) : Int) - 1) = (X : Int) + gs.length - 1 from by omega]; exact hos
  have hob := Lib.hid fun n => outsN_bd hgat hos n
  have hvl := Lib.hid fun n => show (vals gs (bitsN n X) ng).length = X + ng from by rw [vals_len, bitsN_len]
  have hon := Lib.hid fun n => show outsN gs os X n = pick (vals gs (bitsN n X) ng) os from by rw [outsN, hlg]
  rw [hlg] at hgat
  obtain ⟨hP, hsh⟩ := pow_wrap hN hX10
  clear hN hos
  have hos2' : allB 0 (((X + mg : Nat) : Int) - 1) ps = true := by rw [show (((X + mg : Nat) : Int) - 1) = (X : Int) + hs_.length - 1 from by omega]; exact hos2
  have hon2 := Lib.hid fun n => show outsN hs_ ps X n = pick (vals hs_ (bitsN n X) mg) ps from by rw [outsN, hlh]
  rw [hlh] at hgat2
  clear hos2
  have hb0 := Below.refl (w.heap.size + 2) ((w.alloc (.cells #[.int .i64 x, .int .i64 y, .slice Ag ng cg, .slice Ao no co] 26)).alloc (.cells #[.int .i64 x2, .int .i64 y2, .slice Bg mg dg, .slice Bo mo do_] 26))
  have HSH := Lib.hid hsh
  clear hsh
  go_enter Try.func33, Try.ntmps33
  go_wp2_with fail
  go_loopw [5] (fun i wr => ∃ k : Nat, k ≤ N ∧ i = .int .i64 k ∧ Hid (∀ j, j < k → outsN gs os X j = outsN hs_ ps X j) ∧ Below (w.heap.size + 2) ((w.alloc (.cells #[.int .i64 x, .int .i64 y, .slice Ag ng cg, .slice Ao no co] 26)).alloc (.cells #[.int .i64 x2, .int .i64 y2, .slice Bg mg dg, .slice Bo mo do_] 26)) wr) (fun i _ => N - (intOf i).toNat)
  case atStart => exact ⟨0, Nat.zero_le _, rfl, Lib.hid fun j hj => absurd hj (by omega), hb0⟩
  case round =>
    clear hb0
    obtain ⟨k, hk, rfl, hq, hb⟩ := hrel
    have hz := hb.size
    simp only [World.size_alloc] at hz
    obtain ⟨⟨k0, k1, k2, k3⟩, l0, l1, l2, l3⟩ := box2_at hb
    go_wp2_with fail
    refine (ciInputs_any x y Ag ng cg Ao no co _ hx hy).mono ?_
    rintro e w0 ⟨rfl, hb0⟩
    rw [hX]
    have hb' := hb.trans (hb0.mono hz)
    have hz0 := hb0.size
    clear k0 k1 k2 k3 l0 l1 l2 l3 hb hb0
    have hb := hb'; clear hb'
    have hbw : Below w.heap.size w w0 := hB.trans (hb.mono (by omega))
    obtain ⟨⟨k0, k1, k2, k3⟩, l0, l1, l2, l3⟩ := box2_at hb
    by_cases hlt : k < N
    · have hlt' : (k : Int) < wrap64 (2 ^ X) := by rw [HSH.out]; omega
      have hOl := hlo ▸ outsN_len gs os X k
      have hOl2 := hlp ▸ outsN_len hs_ ps X k
      obtain ⟨O, hO⟩ : ∃ O, Hid (outsN gs os X k = O) := ⟨_, rfl⟩
      obtain ⟨O2, hO2⟩ : ∃ O2, Hid (outsN hs_ ps X k = O2) := ⟨_, rfl⟩
      have hPk : Hid (pick (vals gs (bitsN k X) ng) os = O) := Lib.hid ((hon.out k).symm.trans hO.out)
      have hPk2 : Hid (pick (vals hs_ (bitsN k X) mg) ps = O2) := Lib.hid ((hon2.out k).symm.trans hO2.out)
      rw [hO.out] at hOl
      rw [hO2.out] at hOl2
      go_wp2_with fail
      refine (ciInputs_any x y Ag ng cg Ao no co _ hx hy).mono ?_
      rintro e v1 ⟨rfl, hb1⟩
      rw [hX]
      go_wp2_with fail
      refine (btOf_any k X _ (by omega) (by omega)).mono ?_
      rintro e v2 hT
      obtain ⟨A1, c1, rfl, ho1, hb2⟩ := hT.open_ (bitsN_len _ _)
      have hz1 := hb1.size
      have hz2 := hb2.size
      have hbv := hb.trans ((bnext hb1 hb2).mono (by omega))
      have hbd := below_drewN (hbw.trans ((bnext hb1 hb2).mono hbw.size)) 1
      clear k0 k1 k2 k3 l0 l1 l2 l3 hb1
      obtain ⟨⟨k0, k1, k2, k3⟩, l0, l1, l2, l3⟩ := box2_at hbv
      cases hs0 : sameB O O2 with
      | true =>
        have hE : O = O2 := by simpa [sameB] using hs0
        have HS := Lib.hid hs0; clear hs0
        have hq' : Hid (∀ j, j < k + 1 → outsN gs os X j = outsN hs_ ps X j) := Lib.hid fun j hj => by
          rcases Nat.lt_or_ge j k with h | h
          · exact hq.out j h
          · obtain rfl : j = k := by omega
            rw [hO.out, hO2.out, hE]
        clear hE
        go_wp2_with fail
        go_region_held3 (fun w' => w'.cell? ⟨w.heap.size, 0, none⟩ = some (.int .i64 x) ∧ w'.cell? ⟨w.heap.size, 1, none⟩ = some (.int .i64 y) ∧ w'.cell? ⟨w.heap.size, 2, none⟩ = some (.slice Ag ng cg) ∧ w'.cell? ⟨w.heap.size, 3, none⟩ = some (.slice Ao no co) ∧ w'.cell? ⟨w.heap.size + 1, 0, none⟩ = some (.int .i64 x2) ∧ w'.cell? ⟨w.heap.size + 1, 1, none⟩ = some (.int .i64 y2) ∧ w'.cell? ⟨w.heap.size + 1, 2, none⟩ = some (.slice Bg mg dg) ∧ w'.cell? ⟨w.heap.size + 1, 3, none⟩ = some (.slice Bo mo do_))
          (first | go_keep | (go_split_ands; exact ⟨cell_below (by assumption) hb4, cell_below (by assumption) hb4, cell_below (by assumption) hb4, cell_below (by assumption) hb4, cell_below (by assumption) hb4, cell_below (by assumption) hb4, cell_below (by assumption) hb4, cell_below (by assumption) hb4⟩) | (go_split_ands; exact ⟨cell_below (by assumption) hb3, cell_below (by assumption) hb3, cell_below (by assumption) hb3, cell_below (by assumption) hb3, cell_below (by assumption) hb3, cell_below (by assumption) hb3, cell_below (by assumption) hb3, cell_below (by assumption) hb3⟩) | ((try dsimp only); (repeat' apply And.intro) <;> go_keep))
          (first | (go_at_call_of 68 (Value.agg #[.int .i64 x, .int .i64 y, .slice Ag ng cg, .slice Ao no co]); refine (ciOuts_any x y Ag ng cg Ao no co A1 X c1 gs os (bitsN k X) _ ⟨hr.1.below hbd (Nat.le_refl _), hr.2.below hbd (Nat.le_refl _)⟩ (ho1.reads.drewN 1) (bitsN_bd _ _) hgat hos' (by omega) (by omega) (by omega)).mono ?_; rintro e W3 hT; rw [hPk.out] at hT; obtain ⟨A3, c3, rfl, ho3, hb3⟩ := hT.open_ hOl) | (go_at_call_of 68 (Value.agg #[.int .i64 x2, .int .i64 y2, .slice Bg mg dg, .slice Bo mo do_]); refine (ciOuts_any x2 y2 Bg mg dg Bo mo do_ A1 X c1 hs_ ps (bitsN k X) _ ⟨hs.1.below (hbd.trans (hb3.mono hbd.size)) (Nat.le_refl _), hs.2.below (hbd.trans (hb3.mono hbd.size)) (Nat.le_refl _)⟩ ((ho1.reads.drewN 1).below hb3 (Nat.le_refl _)) (bitsN_bd _ _) hgat2 hos2' (by omega) (by omega) (by omega)).mono ?_; rintro e W4 hT; rw [hPk2.out] at hT; obtain ⟨A4, c4, rfl, ho4, hb4⟩ := hT.open_ hOl2) | (go_at_call 67; refine (l1Same_any A3 A4 no c3 mo c4 O O2 _ (ho3.reads.below hb4 (Nat.le_refl _)) ho4.reads (by omega) (by omega)).mono ?_; rintro e W5 ⟨he, j5, rfl⟩; rw [HS.out] at he; obtain rfl := he))
        have hb5 := hbv.trans ((below_drewN (bnext (bnext (below_of_drewN 1) hb3) hb4) j5).mono (by omega))
        clear hb3 hb4 ho3 ho4 hbv hb
        go_wp2
        go_roundw
        case rel => exact ⟨k + 1, by omega, by go_num, hq', hb5⟩
        case measure => simp [intOf]; omega
      | false =>
        have hE : ¬ O = O2 := by simpa [sameB] using hs0
        have HS := Lib.hid hs0; clear hs0
        have HR : Hid (uneq (outsN gs os X) (outsN hs_ ps X) N = k) := Lib.hid (uneq_some hlt hq.out (by rw [hO.out, hO2.out]; exact hE))
        clear hE
        go_wp2_with fail
        go_region_held3 (fun w' => w'.cell? ⟨w.heap.size, 0, none⟩ = some (.int .i64 x) ∧ w'.cell? ⟨w.heap.size, 1, none⟩ = some (.int .i64 y) ∧ w'.cell? ⟨w.heap.size, 2, none⟩ = some (.slice Ag ng cg) ∧ w'.cell? ⟨w.heap.size, 3, none⟩ = some (.slice Ao no co) ∧ w'.cell? ⟨w.heap.size + 1, 0, none⟩ = some (.int .i64 x2) ∧ w'.cell? ⟨w.heap.size + 1, 1, none⟩ = some (.int .i64 y2) ∧ w'.cell? ⟨w.heap.size + 1, 2, none⟩ = some (.slice Bg mg dg) ∧ w'.cell? ⟨w.heap.size + 1, 3, none⟩ = some (.slice Bo mo do_))
          (first | go_keep | (go_split_ands; exact ⟨cell_below (by assumption) hb4, cell_below (by assumption) hb4, cell_below (by assumption) hb4, cell_below (by assumption) hb4, cell_below (by assumption) hb4, cell_below (by assumption) hb4, cell_below (by assumption) hb4, cell_below (by assumption) hb4⟩) | (go_split_ands; exact ⟨cell_below (by assumption) hb3, cell_below (by assumption) hb3, cell_below (by assumption) hb3, cell_below (by assumption) hb3, cell_below (by assumption) hb3, cell_below (by assumption) hb3, cell_below (by assumption) hb3, cell_below (by assumption) hb3⟩) | ((try dsimp only); (repeat' apply And.intro) <;> go_keep))
          (first | (go_at_call_of 68 (Value.agg #[.int .i64 x, .int .i64 y, .slice Ag ng cg, .slice Ao no co]); refine (ciOuts_any x y Ag ng cg Ao no co A1 X c1 gs os (bitsN k X) _ ⟨hr.1.below hbd (Nat.le_refl _), hr.2.below hbd (Nat.le_refl _)⟩ (ho1.reads.drewN 1) (bitsN_bd _ _) hgat hos' (by omega) (by omega) (by omega)).mono ?_; rintro e W3 hT; rw [hPk.out] at hT; obtain ⟨A3, c3, rfl, ho3, hb3⟩ := hT.open_ hOl) | (go_at_call_of 68 (Value.agg #[.int .i64 x2, .int .i64 y2, .slice Bg mg dg, .slice Bo mo do_]); refine (ciOuts_any x2 y2 Bg mg dg Bo mo do_ A1 X c1 hs_ ps (bitsN k X) _ ⟨hs.1.below (hbd.trans (hb3.mono hbd.size)) (Nat.le_refl _), hs.2.below (hbd.trans (hb3.mono hbd.size)) (Nat.le_refl _)⟩ ((ho1.reads.drewN 1).below hb3 (Nat.le_refl _)) (bitsN_bd _ _) hgat2 hos2' (by omega) (by omega) (by omega)).mono ?_; rintro e W4 hT; rw [hPk2.out] at hT; obtain ⟨A4, c4, rfl, ho4, hb4⟩ := hT.open_ hOl2) | (go_at_call 67; refine (l1Same_any A3 A4 no c3 mo c4 O O2 _ (ho3.reads.below hb4 (Nat.le_refl _)) ho4.reads (by omega) (by omega)).mono ?_; rintro e W5 ⟨he, j5, rfl⟩; rw [HS.out] at he; obtain rfl := he))
        have hb5 := hbd.trans ((below_drewN (bnext hb3 hb4) j5).mono hbd.size)
        go_wp2
        go_ret
        exact ⟨by rw [HR.out]; rfl, hb5⟩
    · obtain rfl : N = k := Nat.le_antisymm (Nat.le_of_not_lt hlt) hk
      have hsh := HSH.out
      have HR : Hid (uneq (outsN gs os X) (outsN hs_ ps X) N = -1) := Lib.hid (uneq_none hq.out)
      go_wp2
      go_ret
      exact ⟨by rw [HR.out]; rfl, hbw⟩
theorem RI.grown_ {w w' : World} {A : Option Addr} {n : Nat} {xs : List Int} {row : Option Nat} (h : RI w A n xs) (hg : w.grownBy w' row) (hl : ∀ b o, A = some ⟨b, o, none⟩ → row ≠ some b) : RI w' A n xs :=
  ⟨h.1, fun hn => by
    obtain ⟨b, o, hA, hlt, hc⟩ := h.2 hn
    refine ⟨b, o, hA, Nat.lt_of_lt_of_le hlt hg.size, fun j hj => ?_⟩
    rw [← hc j hj]
    exact World.cell?_of_block (w := w) (a := ⟨b, o + j, none⟩) (hg.block b hlt (fun he => hl b o hA he.symm))⟩
def LII (w : World) (lo hi : Nat) (v : Value) (n : Nat) (xss : List (List Int)) (bad : Option Nat) : Prop :=
  ∃ vals : List Value, w.ownsRow lo 24 1 v n vals ∧ (∀ g, v.ownBlock = some g → g < hi) ∧ xss.length = n ∧
    ∀ j : Nat, j < n → ∃ A' m c', vals[j]? = some (.slice A' m c') ∧ RI w A' m (gl xss j) ∧ ∀ b o, A' = some ⟨b, o, none⟩ → bad ≠ some b ∧ b < w.heap.size ∧ v.ownBlock ≠ some b
theorem LII.len {w : World} {lo hi n : Nat} {v : Value} {xss : List (List Int)} {bad : Option Nat} (h : LII w lo hi v n xss bad) : xss.length = n := by obtain ⟨_, _, _, h3, _⟩ := h; exact h3
theorem LII.new0 (w : World) (lo : Nat) (hl : lo ≤ w.heap.size) (bad : Option Nat) : LII (w.alloc (.cells #[] 24)) lo (w.heap.size + 1) (.slice (some ⟨w.heap.size, 0, none⟩) 0 0) 0 [] bad := by
  have h := World.ownsRow_lit (base := lo) (e := 24) (size := 1) w #[] 0 hl (by unfold maxLen; omega) (by simp)
  exact ⟨[], by simpa using h, fun g hg => by simp [Value.ownBlock] at hg; omega, rfl, fun j hj => absurd hj (by omega)⟩
theorem LII.below {w w' : World} {lo hi n B : Nat} {v : Value} {xss : List (List Int)} {bad : Option Nat} (h : LII w lo hi v n xss bad) (hb : Below B w w') (hB : w.heap.size ≤ B) : LII w' lo hi v n xss bad := by
  obtain ⟨vals, h1, h2, h3, h4⟩ := h
  refine ⟨vals, h1.kept (grownBy_of_below (hb.mono hB) none) (by cases hv : v.ownBlock <;> simp), h2, h3, fun j hj => ?_⟩
  obtain ⟨A', m, c', h5, h6, h7⟩ := h4 j hj
  exact ⟨A', m, c', h5, h6.below hb hB, fun b o hA => ⟨(h7 b o hA).1, Nat.lt_of_lt_of_le (h7 b o hA).2.1 hb.size, (h7 b o hA).2.2⟩⟩
theorem LII.alloc {w : World} {lo hi n : Nat} {v : Value} {xss : List (List Int)} {bad : Option Nat} (h : LII w lo hi v n xss bad) (o : Obj) : LII (w.alloc o) lo hi v n xss bad := h.below ((Below.refl _ _).alloc (Nat.le_refl _) o) (Nat.le_refl _)
theorem LII.reads {w : World} {lo hi n c : Nat} {A : Option Addr} {xss : List (List Int)} {bad : Option Nat} (h : LII w lo hi (.slice A n c) n xss bad) : RII w A n xss := by
  obtain ⟨vals, h1, h2, h3, h4⟩ := h
  refine ⟨h3, fun hn => ?_⟩
  obtain ⟨g, cap, hv, _, hlt⟩ := h1.form hn
  simp only [Value.slice.injEq, true_and] at hv
  obtain ⟨rfl, rfl⟩ := hv
  refine ⟨g, 0, rfl, hlt, fun j hj => ?_⟩
  obtain ⟨A', m, c', h5, h6, _⟩ := h4 j hj
  exact ⟨A', m, c', by rw [Nat.zero_add, h1.cellAt j (by omega), h5], h6⟩
section
variable (w : World)
end
theorem LII.lt {w : World} {lo hi n : Nat} {v : Value} {xss : List (List Int)} {bad : Option Nat} (h : LII w lo hi v n xss bad) : ∀ g, v.ownBlock = some g → lo ≤ g ∧ g < hi := by
  obtain ⟨vals, h1, h2, _⟩ := h
  exact fun g hg => ⟨(h1.lt g hg).1, h2 g hg⟩
theorem LII.hi_ {w : World} {lo hi hi' n : Nat} {v : Value} {xss : List (List Int)} {bad : Option Nat} (h : LII w lo hi v n xss bad) (hl : hi ≤ hi') : LII w lo hi' v n xss bad := by
  obtain ⟨vals, h1, h2, h3, h4⟩ := h
  exact ⟨vals, h1, fun g hg => Nat.lt_of_lt_of_le (h2 g hg) hl, h3, h4⟩
theorem gateB_of {g : G3} {n : Int} (h : GateIs g n) : gateB g n = true := by
  unfold gateB
  cases h with
  | xor_ hk a0 a1 b0 b1 => rw [if_pos (.inl hk)]; simp only [Bool.and_eq_true, inB_iff]; omega
  | and_ hk a0 a1 b0 b1 => rw [if_pos (.inr hk)]; simp only [Bool.and_eq_true, inB_iff]; omega
  | not_ hk a0 a1 b0 => rw [if_neg (by omega), if_pos hk]; simp only [Bool.and_eq_true, inB_iff, decide_eq_true_eq]; omega
  | one_ hk a0 b0 => rw [if_neg (by omega), if_neg (by omega)]; simp only [Bool.and_eq_true, decide_eq_true_eq]; omega
theorem circB_of {x y : Int} {gs : List G3} {os : List Int} (hx : 0 ≤ x ∧ x ≤ 20) (hy : 0 ≤ y ∧ y ≤ 20) (hl : gs.length ≤ 300) (ho : os.length ≤ 40) (hg : ∀ k : Nat, k < gs.length → GateIs (gg gs k) (x + y + k)) (hO : ∀ z ∈ os, 0 ≤ z ∧ z < x + y + gs.length) : circB x y gs os = true := by
  unfold circB
  simp only [Bool.and_eq_true, inB_iff, decide_eq_true_eq]
  refine ⟨hx, hy, hl, ho, ?_, allB_iff.2 fun z hz => by have := hO z hz; omega⟩
  unfold gatesB
  exact List.all_eq_true.2 fun i hi => gateB_of (hg i (List.mem_range.1 hi))
theorem circB_is' {x y : Int} {gs : List G3} {os : List Int} (h : circB x y gs os = true) : (0 ≤ x ∧ x ≤ 20) ∧ (0 ≤ y ∧ y ≤ 20) ∧ gs.length ≤ 300 ∧ os.length ≤ 40 ∧ (∀ k : Nat, k < gs.length → GateIs (gg gs k) (x + y + k)) ∧ ∀ z ∈ os, 0 ≤ z ∧ z < x + y + gs.length := by
  have hb := circB_bd h
  refine ⟨hb.1, hb.2.1, hb.2.2.1, hb.2.2.2.1, fun k hk => gatesB_at hb.2.2.2.2.1 hk, fun z hz => ?_⟩
  have := allB_iff.1 hb.2.2.2.2.2 z hz
  omega
def Inp (X : Nat) (inp : List Int) : Prop := inp.length = X ∧ allB 0 1 inp = true
structure SameC (x y : Int) (gs : List G3) (os : List Int) (ms : List G3) (qs : List Int) : Prop where
  c : circB x y gs os = true
  m : circB x y ms qs = true
  no : qs.length = os.length
  vals : ∀ inp, Inp (x + y).toNat inp → pick (vals ms inp ms.length) qs = pick (vals gs inp gs.length) os
theorem circB_X {x y : Int} {gs : List G3} {os : List Int} (h : circB x y gs os = true) : ((x + y).toNat : Int) = x + y ∧ (∀ j : Nat, j < gs.length → GateIs (gg gs j) (((x + y).toNat : Int) + j)) ∧ ∀ z ∈ os, 0 ≤ z ∧ z < ((x + y).toNat : Int) + gs.length := by
  obtain ⟨hx, hy, _, _, hg, hO⟩ := circB_is' h
  have e : ((x + y).toNat : Int) = x + y := by omega
  refine ⟨e, fun j hj => ?_, fun z hz => ?_⟩
  · rw [e]; exact hg j hj
  · rw [e]; exact hO z hz
theorem pick_vals {V W os qs T : List Int} (hq : qs = pick T os) (h : ∀ z ∈ os, gi V (gi T z.toNat).toNat = gi W z.toNat) : pick V qs = pick W os := by
  subst hq
  unfold pick
  rw [List.map_map]
  exact List.map_congr_left fun z hz => h z hz
end Go.Proofs.Ytikgagjoapggnaa
