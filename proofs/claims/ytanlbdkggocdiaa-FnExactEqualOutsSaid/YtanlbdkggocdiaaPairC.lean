/- Contracts of AreEqual, FirstUnequal and what they call. -/
import Derived.Test.YtanlbdkggocdiaaTable4
import Derived.Deep.RegionLaw
namespace Go.Proofs.Ytanlbdkggocdiaa
open Go.RowKit
set_option linter.unusedVariables false
set_option linter.unusedSimpArgs false



theorem natne {a b : Nat} (h : ¬ ((a : Int) = b)) : ¬ a = b := fun hc => h (by rw [hc])
theorem nateq {a b : Nat} (h : (a : Int) = b) : a = b := by omega

set_option maxRecDepth 100000 in
set_option maxHeartbeats 1600000 in
theorem siPair_any (x y : Int) (Ag : Option Addr) (ng cg : Nat) (Ao : Option Addr) (no co : Nat) (x2 y2 : Int) (Bg : Option Addr) (mg dg : Nat) (Bo : Option Addr) (mo do_ : Nat) (gs : List G3) (os : List Int) (hs_ : List G3) (ps : List Int) (w : World) (hr : RG w Ag ng gs ∧ RI w Ao no os) (hs : RG w Bg mg hs_ ∧ RI w Bo mo ps) (hng : ng ≤ 2097152) (hno : no ≤ 2097152) (hmg : mg ≤ 2097152) (hmo : mo ≤ 2097152) :
    Calls Try.prog 93 #[.agg #[.int .i64 x, .int .i64 y, .slice Ag ng cg, .slice Ao no co], .agg #[.int .i64 x2, .int .i64 y2, .slice Bg mg dg, .slice Bo mo do_]] w fun e w' => e = .returned (.bool (pairB x y gs os x2 y2 hs_ ps)) ∧ Below w.heap.size w w' := by
  have hB : Below w.heap.size w ((w.alloc (.cells #[.int .i64 x, .int .i64 y, .slice Ag ng cg, .slice Ao no co] 45)).alloc (.cells #[.int .i64 x2, .int .i64 y2, .slice Bg mg dg, .slice Bo mo do_] 45)) := ((Below.refl _ _).alloc (Nat.le_refl _) _).alloc (by simp) _
  have hlg := hr.1.len
  have hlo := hr.2.len
  have hlh := hs.1.len
  have hlp := hs.2.len
  cases h0 : smallB x y gs os 40 with
  | false =>
    have HR : Hid (pairB x y gs os x2 y2 hs_ ps = false) := Lib.hid (by simp [pairB, h0])
    have H0 := Lib.hid h0; clear h0
    go_enter Try.func93, Try.ntmps93
    go_wp2_with fail
    refine (siSmall_any x y Ag ng cg Ao no co gs os _ ⟨hr.1.below hB (Nat.le_refl _), hr.2.below hB (Nat.le_refl _)⟩ hng hno).mono ?_
    rintro e v1 ⟨rfl, hb1⟩
    rw [H0.out]
    have hB1 := hB.trans (hb1.mono hB.size)
    go_wp2
    go_ret
    exact ⟨by rw [HR.out]; rfl, hB1⟩
  | true =>
    have H0 := Lib.hid h0; clear h0
    cases h1 : smallB x2 y2 hs_ ps 40 with
    | false =>
      have HR : Hid (pairB x y gs os x2 y2 hs_ ps = false) := Lib.hid (by simp [pairB, H0.out, h1])
      have H1 := Lib.hid h1; clear h1
      go_enter Try.func93, Try.ntmps93
      go_wp2_with fail
      refine (siSmall_any x y Ag ng cg Ao no co gs os _ ⟨hr.1.below hB (Nat.le_refl _), hr.2.below hB (Nat.le_refl _)⟩ hng hno).mono ?_
      rintro e v1 ⟨rfl, hb1⟩
      rw [H0.out]
      have hB1 := hB.trans (hb1.mono hB.size)
      have k0_0_1 := cell_below (cell_below (box_cell w #[.int .i64 x, .int .i64 y, .slice Ag ng cg, .slice Ao no co] (T := 45) 0 _ rfl) ((Below.refl _ _).alloc (Nat.le_refl _) (.cells #[.int .i64 x2, .int .i64 y2, .slice Bg mg dg, .slice Bo mo do_] 45))) hb1
      have k0_1_1 := cell_below (cell_below (box_cell w #[.int .i64 x, .int .i64 y, .slice Ag ng cg, .slice Ao no co] (T := 45) 1 _ rfl) ((Below.refl _ _).alloc (Nat.le_refl _) (.cells #[.int .i64 x2, .int .i64 y2, .slice Bg mg dg, .slice Bo mo do_] 45))) hb1
      have k0_2_1 := cell_below (cell_below (box_cell w #[.int .i64 x, .int .i64 y, .slice Ag ng cg, .slice Ao no co] (T := 45) 2 _ rfl) ((Below.refl _ _).alloc (Nat.le_refl _) (.cells #[.int .i64 x2, .int .i64 y2, .slice Bg mg dg, .slice Bo mo do_] 45))) hb1
      have k0_3_1 := cell_below (cell_below (box_cell w #[.int .i64 x, .int .i64 y, .slice Ag ng cg, .slice Ao no co] (T := 45) 3 _ rfl) ((Below.refl _ _).alloc (Nat.le_refl _) (.cells #[.int .i64 x2, .int .i64 y2, .slice Bg mg dg, .slice Bo mo do_] 45))) hb1
      have k1_0_1 := cell_below (box_cell (w.alloc (.cells #[.int .i64 x, .int .i64 y, .slice Ag ng cg, .slice Ao no co] 45)) #[.int .i64 x2, .int .i64 y2, .slice Bg mg dg, .slice Bo mo do_] (T := 45) 0 _ rfl) hb1; simp only [World.size_alloc] at k1_0_1
      have k1_1_1 := cell_below (box_cell (w.alloc (.cells #[.int .i64 x, .int .i64 y, .slice Ag ng cg, .slice Ao no co] 45)) #[.int .i64 x2, .int .i64 y2, .slice Bg mg dg, .slice Bo mo do_] (T := 45) 1 _ rfl) hb1; simp only [World.size_alloc] at k1_1_1
      have k1_2_1 := cell_below (box_cell (w.alloc (.cells #[.int .i64 x, .int .i64 y, .slice Ag ng cg, .slice Ao no co] 45)) #[.int .i64 x2, .int .i64 y2, .slice Bg mg dg, .slice Bo mo do_] (T := 45) 2 _ rfl) hb1; simp only [World.size_alloc] at k1_2_1
      have k1_3_1 := cell_below (box_cell (w.alloc (.cells #[.int .i64 x, .int .i64 y, .slice Ag ng cg, .slice Ao no co] 45)) #[.int .i64 x2, .int .i64 y2, .slice Bg mg dg, .slice Bo mo do_] (T := 45) 3 _ rfl) hb1; simp only [World.size_alloc] at k1_3_1
      have z0 : w.heap.size < v1.heap.size := by have := hb1.size; simp only [World.size_alloc] at this; omega
      have z1 : w.heap.size + 1 < v1.heap.size := by have := hb1.size; simp only [World.size_alloc] at this; omega
      go_wp2_with fail
      refine (siSmall_any x2 y2 Bg mg dg Bo mo do_ hs_ ps _ ⟨hs.1.below hB1 (Nat.le_refl _), hs.2.below hB1 (Nat.le_refl _)⟩ hmg hmo).mono ?_
      rintro e v2 ⟨rfl, hb2⟩
      rw [H1.out]
      have hB2 := hB1.trans (hb2.mono hB1.size)
      go_wp2
      go_ret
      exact ⟨by rw [HR.out]; rfl, hB2⟩
    | true =>
      have H1 := Lib.hid h1; clear h1
      by_cases h2 : x = x2
      rotate_left
      · have e2 : ((x) == (x2)) = false := by simpa using h2
        have g2 : ((x) != (x2)) = true := by simpa using h2
        have HR : Hid (pairB x y gs os x2 y2 hs_ ps = false) := Lib.hid (by simp [pairB, H0.out, H1.out, h2])
        clear h2
        go_enter Try.func93, Try.ntmps93
        go_wp2_with fail
        refine (siSmall_any x y Ag ng cg Ao no co gs os _ ⟨hr.1.below hB (Nat.le_refl _), hr.2.below hB (Nat.le_refl _)⟩ hng hno).mono ?_
        rintro e v1 ⟨rfl, hb1⟩
        rw [H0.out]
        have hB1 := hB.trans (hb1.mono hB.size)
        have k0_0_1 := cell_below (cell_below (box_cell w #[.int .i64 x, .int .i64 y, .slice Ag ng cg, .slice Ao no co] (T := 45) 0 _ rfl) ((Below.refl _ _).alloc (Nat.le_refl _) (.cells #[.int .i64 x2, .int .i64 y2, .slice Bg mg dg, .slice Bo mo do_] 45))) hb1
        have k0_1_1 := cell_below (cell_below (box_cell w #[.int .i64 x, .int .i64 y, .slice Ag ng cg, .slice Ao no co] (T := 45) 1 _ rfl) ((Below.refl _ _).alloc (Nat.le_refl _) (.cells #[.int .i64 x2, .int .i64 y2, .slice Bg mg dg, .slice Bo mo do_] 45))) hb1
        have k0_2_1 := cell_below (cell_below (box_cell w #[.int .i64 x, .int .i64 y, .slice Ag ng cg, .slice Ao no co] (T := 45) 2 _ rfl) ((Below.refl _ _).alloc (Nat.le_refl _) (.cells #[.int .i64 x2, .int .i64 y2, .slice Bg mg dg, .slice Bo mo do_] 45))) hb1
        have k0_3_1 := cell_below (cell_below (box_cell w #[.int .i64 x, .int .i64 y, .slice Ag ng cg, .slice Ao no co] (T := 45) 3 _ rfl) ((Below.refl _ _).alloc (Nat.le_refl _) (.cells #[.int .i64 x2, .int .i64 y2, .slice Bg mg dg, .slice Bo mo do_] 45))) hb1
        have k1_0_1 := cell_below (box_cell (w.alloc (.cells #[.int .i64 x, .int .i64 y, .slice Ag ng cg, .slice Ao no co] 45)) #[.int .i64 x2, .int .i64 y2, .slice Bg mg dg, .slice Bo mo do_] (T := 45) 0 _ rfl) hb1; simp only [World.size_alloc] at k1_0_1
        have k1_1_1 := cell_below (box_cell (w.alloc (.cells #[.int .i64 x, .int .i64 y, .slice Ag ng cg, .slice Ao no co] 45)) #[.int .i64 x2, .int .i64 y2, .slice Bg mg dg, .slice Bo mo do_] (T := 45) 1 _ rfl) hb1; simp only [World.size_alloc] at k1_1_1
        have k1_2_1 := cell_below (box_cell (w.alloc (.cells #[.int .i64 x, .int .i64 y, .slice Ag ng cg, .slice Ao no co] 45)) #[.int .i64 x2, .int .i64 y2, .slice Bg mg dg, .slice Bo mo do_] (T := 45) 2 _ rfl) hb1; simp only [World.size_alloc] at k1_2_1
        have k1_3_1 := cell_below (box_cell (w.alloc (.cells #[.int .i64 x, .int .i64 y, .slice Ag ng cg, .slice Ao no co] 45)) #[.int .i64 x2, .int .i64 y2, .slice Bg mg dg, .slice Bo mo do_] (T := 45) 3 _ rfl) hb1; simp only [World.size_alloc] at k1_3_1
        have z0 : w.heap.size < v1.heap.size := by have := hb1.size; simp only [World.size_alloc] at this; omega
        have z1 : w.heap.size + 1 < v1.heap.size := by have := hb1.size; simp only [World.size_alloc] at this; omega
        go_wp2_with fail
        refine (siSmall_any x2 y2 Bg mg dg Bo mo do_ hs_ ps _ ⟨hs.1.below hB1 (Nat.le_refl _), hs.2.below hB1 (Nat.le_refl _)⟩ hmg hmo).mono ?_
        rintro e v2 ⟨rfl, hb2⟩
        rw [H1.out]
        have hB2 := hB1.trans (hb2.mono hB1.size)
        have k0_0_2 := cell_below k0_0_1 hb2; clear k0_0_1
        have k0_1_2 := cell_below k0_1_1 hb2; clear k0_1_1
        have k0_2_2 := cell_below k0_2_1 hb2; clear k0_2_1
        have k0_3_2 := cell_below k0_3_1 hb2; clear k0_3_1
        have k1_0_2 := cell_below k1_0_1 hb2; clear k1_0_1
        have k1_1_2 := cell_below k1_1_1 hb2; clear k1_1_1
        have k1_2_2 := cell_below k1_2_1 hb2; clear k1_2_1
        have k1_3_2 := cell_below k1_3_1 hb2; clear k1_3_1
        have z0_2 : w.heap.size < v2.heap.size := by have := hb2.size; omega
        have z1_2 : w.heap.size + 1 < v2.heap.size := by have := hb2.size; omega
        go_wp2
        go_ret
        exact ⟨by rw [HR.out]; rfl, hB2⟩
      have e2 : ((x) == (x2)) = true := by simpa using h2
      have g2 : ((x) != (x2)) = false := by simpa using h2
      have H2 := Lib.hid h2; clear h2
      by_cases h3 : y = y2
      rotate_left
      · have e3 : ((y) == (y2)) = false := by simpa using h3
        have g3 : ((y) != (y2)) = true := by simpa using h3
        have HR : Hid (pairB x y gs os x2 y2 hs_ ps = false) := Lib.hid (by simp [pairB, H0.out, H1.out, H2.out, h3])
        clear h3
        go_enter Try.func93, Try.ntmps93
        go_wp2_with fail
        refine (siSmall_any x y Ag ng cg Ao no co gs os _ ⟨hr.1.below hB (Nat.le_refl _), hr.2.below hB (Nat.le_refl _)⟩ hng hno).mono ?_
        rintro e v1 ⟨rfl, hb1⟩
        rw [H0.out]
        have hB1 := hB.trans (hb1.mono hB.size)
        have k0_0_1 := cell_below (cell_below (box_cell w #[.int .i64 x, .int .i64 y, .slice Ag ng cg, .slice Ao no co] (T := 45) 0 _ rfl) ((Below.refl _ _).alloc (Nat.le_refl _) (.cells #[.int .i64 x2, .int .i64 y2, .slice Bg mg dg, .slice Bo mo do_] 45))) hb1
        have k0_1_1 := cell_below (cell_below (box_cell w #[.int .i64 x, .int .i64 y, .slice Ag ng cg, .slice Ao no co] (T := 45) 1 _ rfl) ((Below.refl _ _).alloc (Nat.le_refl _) (.cells #[.int .i64 x2, .int .i64 y2, .slice Bg mg dg, .slice Bo mo do_] 45))) hb1
        have k0_2_1 := cell_below (cell_below (box_cell w #[.int .i64 x, .int .i64 y, .slice Ag ng cg, .slice Ao no co] (T := 45) 2 _ rfl) ((Below.refl _ _).alloc (Nat.le_refl _) (.cells #[.int .i64 x2, .int .i64 y2, .slice Bg mg dg, .slice Bo mo do_] 45))) hb1
        have k0_3_1 := cell_below (cell_below (box_cell w #[.int .i64 x, .int .i64 y, .slice Ag ng cg, .slice Ao no co] (T := 45) 3 _ rfl) ((Below.refl _ _).alloc (Nat.le_refl _) (.cells #[.int .i64 x2, .int .i64 y2, .slice Bg mg dg, .slice Bo mo do_] 45))) hb1
        have k1_0_1 := cell_below (box_cell (w.alloc (.cells #[.int .i64 x, .int .i64 y, .slice Ag ng cg, .slice Ao no co] 45)) #[.int .i64 x2, .int .i64 y2, .slice Bg mg dg, .slice Bo mo do_] (T := 45) 0 _ rfl) hb1; simp only [World.size_alloc] at k1_0_1
        have k1_1_1 := cell_below (box_cell (w.alloc (.cells #[.int .i64 x, .int .i64 y, .slice Ag ng cg, .slice Ao no co] 45)) #[.int .i64 x2, .int .i64 y2, .slice Bg mg dg, .slice Bo mo do_] (T := 45) 1 _ rfl) hb1; simp only [World.size_alloc] at k1_1_1
        have k1_2_1 := cell_below (box_cell (w.alloc (.cells #[.int .i64 x, .int .i64 y, .slice Ag ng cg, .slice Ao no co] 45)) #[.int .i64 x2, .int .i64 y2, .slice Bg mg dg, .slice Bo mo do_] (T := 45) 2 _ rfl) hb1; simp only [World.size_alloc] at k1_2_1
        have k1_3_1 := cell_below (box_cell (w.alloc (.cells #[.int .i64 x, .int .i64 y, .slice Ag ng cg, .slice Ao no co] 45)) #[.int .i64 x2, .int .i64 y2, .slice Bg mg dg, .slice Bo mo do_] (T := 45) 3 _ rfl) hb1; simp only [World.size_alloc] at k1_3_1
        have z0 : w.heap.size < v1.heap.size := by have := hb1.size; simp only [World.size_alloc] at this; omega
        have z1 : w.heap.size + 1 < v1.heap.size := by have := hb1.size; simp only [World.size_alloc] at this; omega
        go_wp2_with fail
        refine (siSmall_any x2 y2 Bg mg dg Bo mo do_ hs_ ps _ ⟨hs.1.below hB1 (Nat.le_refl _), hs.2.below hB1 (Nat.le_refl _)⟩ hmg hmo).mono ?_
        rintro e v2 ⟨rfl, hb2⟩
        rw [H1.out]
        have hB2 := hB1.trans (hb2.mono hB1.size)
        have k0_0_2 := cell_below k0_0_1 hb2; clear k0_0_1
        have k0_1_2 := cell_below k0_1_1 hb2; clear k0_1_1
        have k0_2_2 := cell_below k0_2_1 hb2; clear k0_2_1
        have k0_3_2 := cell_below k0_3_1 hb2; clear k0_3_1
        have k1_0_2 := cell_below k1_0_1 hb2; clear k1_0_1
        have k1_1_2 := cell_below k1_1_1 hb2; clear k1_1_1
        have k1_2_2 := cell_below k1_2_1 hb2; clear k1_2_1
        have k1_3_2 := cell_below k1_3_1 hb2; clear k1_3_1
        have z0_2 : w.heap.size < v2.heap.size := by have := hb2.size; omega
        have z1_2 : w.heap.size + 1 < v2.heap.size := by have := hb2.size; omega
        go_wp2
        go_ret
        exact ⟨by rw [HR.out]; rfl, hB2⟩
      have e3 : ((y) == (y2)) = true := by simpa using h3
      have g3 : ((y) != (y2)) = false := by simpa using h3
      have H3 := Lib.hid h3; clear h3
      by_cases h4 : (no : Int) = (mo : Int)
      rotate_left
      · have e4 : (((no : Int)) == ((mo : Int))) = false := by simpa using h4
        have g4 : (((no : Int)) != ((mo : Int))) = true := by simpa using h4
        have HR : Hid (pairB x y gs os x2 y2 hs_ ps = false) := Lib.hid (by simp [pairB, H0.out, H1.out, H2.out, H3.out, hlo, hlp, natne h4])
        clear h4
        go_enter Try.func93, Try.ntmps93
        go_wp2_with fail
        refine (siSmall_any x y Ag ng cg Ao no co gs os _ ⟨hr.1.below hB (Nat.le_refl _), hr.2.below hB (Nat.le_refl _)⟩ hng hno).mono ?_
        rintro e v1 ⟨rfl, hb1⟩
        rw [H0.out]
        have hB1 := hB.trans (hb1.mono hB.size)
        have k0_0_1 := cell_below (cell_below (box_cell w #[.int .i64 x, .int .i64 y, .slice Ag ng cg, .slice Ao no co] (T := 45) 0 _ rfl) ((Below.refl _ _).alloc (Nat.le_refl _) (.cells #[.int .i64 x2, .int .i64 y2, .slice Bg mg dg, .slice Bo mo do_] 45))) hb1
        have k0_1_1 := cell_below (cell_below (box_cell w #[.int .i64 x, .int .i64 y, .slice Ag ng cg, .slice Ao no co] (T := 45) 1 _ rfl) ((Below.refl _ _).alloc (Nat.le_refl _) (.cells #[.int .i64 x2, .int .i64 y2, .slice Bg mg dg, .slice Bo mo do_] 45))) hb1
        have k0_2_1 := cell_below (cell_below (box_cell w #[.int .i64 x, .int .i64 y, .slice Ag ng cg, .slice Ao no co] (T := 45) 2 _ rfl) ((Below.refl _ _).alloc (Nat.le_refl _) (.cells #[.int .i64 x2, .int .i64 y2, .slice Bg mg dg, .slice Bo mo do_] 45))) hb1
        have k0_3_1 := cell_below (cell_below (box_cell w #[.int .i64 x, .int .i64 y, .slice Ag ng cg, .slice Ao no co] (T := 45) 3 _ rfl) ((Below.refl _ _).alloc (Nat.le_refl _) (.cells #[.int .i64 x2, .int .i64 y2, .slice Bg mg dg, .slice Bo mo do_] 45))) hb1
        have k1_0_1 := cell_below (box_cell (w.alloc (.cells #[.int .i64 x, .int .i64 y, .slice Ag ng cg, .slice Ao no co] 45)) #[.int .i64 x2, .int .i64 y2, .slice Bg mg dg, .slice Bo mo do_] (T := 45) 0 _ rfl) hb1; simp only [World.size_alloc] at k1_0_1
        have k1_1_1 := cell_below (box_cell (w.alloc (.cells #[.int .i64 x, .int .i64 y, .slice Ag ng cg, .slice Ao no co] 45)) #[.int .i64 x2, .int .i64 y2, .slice Bg mg dg, .slice Bo mo do_] (T := 45) 1 _ rfl) hb1; simp only [World.size_alloc] at k1_1_1
        have k1_2_1 := cell_below (box_cell (w.alloc (.cells #[.int .i64 x, .int .i64 y, .slice Ag ng cg, .slice Ao no co] 45)) #[.int .i64 x2, .int .i64 y2, .slice Bg mg dg, .slice Bo mo do_] (T := 45) 2 _ rfl) hb1; simp only [World.size_alloc] at k1_2_1
        have k1_3_1 := cell_below (box_cell (w.alloc (.cells #[.int .i64 x, .int .i64 y, .slice Ag ng cg, .slice Ao no co] 45)) #[.int .i64 x2, .int .i64 y2, .slice Bg mg dg, .slice Bo mo do_] (T := 45) 3 _ rfl) hb1; simp only [World.size_alloc] at k1_3_1
        have z0 : w.heap.size < v1.heap.size := by have := hb1.size; simp only [World.size_alloc] at this; omega
        have z1 : w.heap.size + 1 < v1.heap.size := by have := hb1.size; simp only [World.size_alloc] at this; omega
        go_wp2_with fail
        refine (siSmall_any x2 y2 Bg mg dg Bo mo do_ hs_ ps _ ⟨hs.1.below hB1 (Nat.le_refl _), hs.2.below hB1 (Nat.le_refl _)⟩ hmg hmo).mono ?_
        rintro e v2 ⟨rfl, hb2⟩
        rw [H1.out]
        have hB2 := hB1.trans (hb2.mono hB1.size)
        have k0_0_2 := cell_below k0_0_1 hb2; clear k0_0_1
        have k0_1_2 := cell_below k0_1_1 hb2; clear k0_1_1
        have k0_2_2 := cell_below k0_2_1 hb2; clear k0_2_1
        have k0_3_2 := cell_below k0_3_1 hb2; clear k0_3_1
        have k1_0_2 := cell_below k1_0_1 hb2; clear k1_0_1
        have k1_1_2 := cell_below k1_1_1 hb2; clear k1_1_1
        have k1_2_2 := cell_below k1_2_1 hb2; clear k1_2_1
        have k1_3_2 := cell_below k1_3_1 hb2; clear k1_3_1
        have z0_2 : w.heap.size < v2.heap.size := by have := hb2.size; omega
        have z1_2 : w.heap.size + 1 < v2.heap.size := by have := hb2.size; omega
        go_wp2
        go_ret
        exact ⟨by rw [HR.out]; rfl, hB2⟩
      have e4 : (((no : Int)) == ((mo : Int))) = true := by simpa using h4
      have g4 : (((no : Int)) != ((mo : Int))) = false := by simpa using h4
      have H4 := Lib.hid h4; clear h4
      have HR : Hid (pairB x y gs os x2 y2 hs_ ps = true) := Lib.hid (by unfold pairB; rw [H0.out, H1.out]; simp [H2.out, H3.out, hlo, hlp, nateq H4.out])
      go_enter Try.func93, Try.ntmps93
      go_wp2_with fail
      refine (siSmall_any x y Ag ng cg Ao no co gs os _ ⟨hr.1.below hB (Nat.le_refl _), hr.2.below hB (Nat.le_refl _)⟩ hng hno).mono ?_
      rintro e v1 ⟨rfl, hb1⟩
      rw [H0.out]
      have hB1 := hB.trans (hb1.mono hB.size)
      have k0_0_1 := cell_below (cell_below (box_cell w #[.int .i64 x, .int .i64 y, .slice Ag ng cg, .slice Ao no co] (T := 45) 0 _ rfl) ((Below.refl _ _).alloc (Nat.le_refl _) (.cells #[.int .i64 x2, .int .i64 y2, .slice Bg mg dg, .slice Bo mo do_] 45))) hb1
      have k0_1_1 := cell_below (cell_below (box_cell w #[.int .i64 x, .int .i64 y, .slice Ag ng cg, .slice Ao no co] (T := 45) 1 _ rfl) ((Below.refl _ _).alloc (Nat.le_refl _) (.cells #[.int .i64 x2, .int .i64 y2, .slice Bg mg dg, .slice Bo mo do_] 45))) hb1
      have k0_2_1 := cell_below (cell_below (box_cell w #[.int .i64 x, .int .i64 y, .slice Ag ng cg, .slice Ao no co] (T := 45) 2 _ rfl) ((Below.refl _ _).alloc (Nat.le_refl _) (.cells #[.int .i64 x2, .int .i64 y2, .slice Bg mg dg, .slice Bo mo do_] 45))) hb1
      have k0_3_1 := cell_below (cell_below (box_cell w #[.int .i64 x, .int .i64 y, .slice Ag ng cg, .slice Ao no co] (T := 45) 3 _ rfl) ((Below.refl _ _).alloc (Nat.le_refl _) (.cells #[.int .i64 x2, .int .i64 y2, .slice Bg mg dg, .slice Bo mo do_] 45))) hb1
      have k1_0_1 := cell_below (box_cell (w.alloc (.cells #[.int .i64 x, .int .i64 y, .slice Ag ng cg, .slice Ao no co] 45)) #[.int .i64 x2, .int .i64 y2, .slice Bg mg dg, .slice Bo mo do_] (T := 45) 0 _ rfl) hb1; simp only [World.size_alloc] at k1_0_1
      have k1_1_1 := cell_below (box_cell (w.alloc (.cells #[.int .i64 x, .int .i64 y, .slice Ag ng cg, .slice Ao no co] 45)) #[.int .i64 x2, .int .i64 y2, .slice Bg mg dg, .slice Bo mo do_] (T := 45) 1 _ rfl) hb1; simp only [World.size_alloc] at k1_1_1
      have k1_2_1 := cell_below (box_cell (w.alloc (.cells #[.int .i64 x, .int .i64 y, .slice Ag ng cg, .slice Ao no co] 45)) #[.int .i64 x2, .int .i64 y2, .slice Bg mg dg, .slice Bo mo do_] (T := 45) 2 _ rfl) hb1; simp only [World.size_alloc] at k1_2_1
      have k1_3_1 := cell_below (box_cell (w.alloc (.cells #[.int .i64 x, .int .i64 y, .slice Ag ng cg, .slice Ao no co] 45)) #[.int .i64 x2, .int .i64 y2, .slice Bg mg dg, .slice Bo mo do_] (T := 45) 3 _ rfl) hb1; simp only [World.size_alloc] at k1_3_1
      have z0 : w.heap.size < v1.heap.size := by have := hb1.size; simp only [World.size_alloc] at this; omega
      have z1 : w.heap.size + 1 < v1.heap.size := by have := hb1.size; simp only [World.size_alloc] at this; omega
      go_wp2_with fail
      refine (siSmall_any x2 y2 Bg mg dg Bo mo do_ hs_ ps _ ⟨hs.1.below hB1 (Nat.le_refl _), hs.2.below hB1 (Nat.le_refl _)⟩ hmg hmo).mono ?_
      rintro e v2 ⟨rfl, hb2⟩
      rw [H1.out]
      have hB2 := hB1.trans (hb2.mono hB1.size)
      have k0_0_2 := cell_below k0_0_1 hb2; clear k0_0_1
      have k0_1_2 := cell_below k0_1_1 hb2; clear k0_1_1
      have k0_2_2 := cell_below k0_2_1 hb2; clear k0_2_1
      have k0_3_2 := cell_below k0_3_1 hb2; clear k0_3_1
      have k1_0_2 := cell_below k1_0_1 hb2; clear k1_0_1
      have k1_1_2 := cell_below k1_1_1 hb2; clear k1_1_1
      have k1_2_2 := cell_below k1_2_1 hb2; clear k1_2_1
      have k1_3_2 := cell_below k1_3_1 hb2; clear k1_3_1
      have z0_2 : w.heap.size < v2.heap.size := by have := hb2.size; omega
      have z1_2 : w.heap.size + 1 < v2.heap.size := by have := hb2.size; omega
      go_wp2
      go_ret
      exact ⟨by rw [HR.out]; rfl, hB2⟩

set_option maxRecDepth 100000 in
set_option maxHeartbeats 1600000 in
theorem siUnequal_any (x y : Int) (Ag : Option Addr) (ng cg : Nat) (Ao : Option Addr) (no co : Nat) (x2 y2 : Int) (Bg : Option Addr) (mg dg : Nat) (Bo : Option Addr) (mo do_ : Nat) (gs : List G3) (os : List Int) (hs_ : List G3) (ps : List Int) (X N : Nat) (w : World) (hr : RG w Ag ng gs ∧ RI w Ao no os) (hx : 0 ≤ x ∧ x ≤ 20) (hy : 0 ≤ y ∧ y ≤ 20) (hX : x + y = X) (hX10 : X ≤ 10) (hN : N = 2 ^ X) (hgat : gatesB X gs gs.length = true) (hos : allB 0 ((X : Int) + gs.length - 1) os = true) (hng : ng ≤ 300) (hno : no ≤ 40) (hs : RG w Bg mg hs_ ∧ RI w Bo mo ps) (hXd : x2 + y2 = X) (hgat2 : gatesB X hs_ hs_.length = true) (hos2 : allB 0 ((X : Int) + hs_.length - 1) ps = true) (hmg : mg ≤ 300) (hmo : mo ≤ 40) :
    Calls Try.prog 94 #[.agg #[.int .i64 x, .int .i64 y, .slice Ag ng cg, .slice Ao no co], .agg #[.int .i64 x2, .int .i64 y2, .slice Bg mg dg, .slice Bo mo do_]] w fun e w' => e = .returned (.int .i64 (uneq (outsN gs os X) (outsN hs_ ps X) N)) ∧ Below w.heap.size w w' := by
  have hB : Below w.heap.size w ((w.alloc (.cells #[.int .i64 x, .int .i64 y, .slice Ag ng cg, .slice Ao no co] 45)).alloc (.cells #[.int .i64 x2, .int .i64 y2, .slice Bg mg dg, .slice Bo mo do_] 45)) := ((Below.refl _ _).alloc (Nat.le_refl _) _).alloc (by simp) _
  have hlg := hr.1.len
  have hlo := hr.2.len
  have hlh := hs.1.len
  have hlp := hs.2.len
  have hos' : allB 0 (((X + ng : Nat) : Int) - 1) os = true := by rw [show (((X + ng : Nat) : Int) - 1) = (X : Int) + gs.length - 1 from by omega]; exact hos
  have hob := Lib.hid fun n => outsN_bd hgat hos n
  have hvl := Lib.hid fun n => show (vals gs (bitsN n X) ng).length = X + ng from by rw [vals_len, bitsN_len]
  have hon := Lib.hid fun n => show outsN gs os X n = pick (vals gs (bitsN n X) ng) os from by rw [outsN, hlg]
  rw [hlg] at hgat
  obtain ⟨hP, hsh⟩ := pow_wrap hN hX10
  clear hN hos
  have hos2' : allB 0 (((X + mg : Nat) : Int) - 1) ps = true := by rw [show (((X + mg : Nat) : Int) - 1) = (X : Int) + hs_.length - 1 from by omega]; exact hos2
  have hon2 := Lib.hid fun n => show outsN hs_ ps X n = pick (vals hs_ (bitsN n X) mg) ps from by rw [outsN, hlh]
  rw [hlh] at hgat2
  clear hos2
  have hb0 := Below.refl (w.heap.size + 2) ((w.alloc (.cells #[.int .i64 x, .int .i64 y, .slice Ag ng cg, .slice Ao no co] 45)).alloc (.cells #[.int .i64 x2, .int .i64 y2, .slice Bg mg dg, .slice Bo mo do_] 45))
  have HSH := Lib.hid hsh
  clear hsh
  go_enter Try.func94, Try.ntmps94
  go_wp2_with fail
  go_loopw [5] (fun i wr => ∃ k : Nat, k ≤ N ∧ i = .int .i64 k ∧ Hid (∀ j, j < k → outsN gs os X j = outsN hs_ ps X j) ∧ Below (w.heap.size + 2) ((w.alloc (.cells #[.int .i64 x, .int .i64 y, .slice Ag ng cg, .slice Ao no co] 45)).alloc (.cells #[.int .i64 x2, .int .i64 y2, .slice Bg mg dg, .slice Bo mo do_] 45)) wr) (fun i _ => N - (intOf i).toNat)
  case atStart => exact ⟨0, Nat.zero_le _, rfl, Lib.hid fun j hj => absurd hj (by omega), hb0⟩
  case round =>
    clear hb0
    obtain ⟨k, hk, rfl, hq, hb⟩ := hrel
    have hz := hb.size
    simp only [World.size_alloc] at hz
    obtain ⟨⟨k0, k1, k2, k3⟩, l0, l1, l2, l3⟩ := box2_at hb
    go_wp2_with fail
    refine (ciInputs_any x y Ag ng cg Ao no co _ hx hy).mono ?_
    rintro e w0 ⟨rfl, hb0⟩
    rw [hX]
    have hb' := hb.trans (hb0.mono hz)
    have hz0 := hb0.size
    clear k0 k1 k2 k3 l0 l1 l2 l3 hb hb0
    have hb := hb'; clear hb'
    have hbw : Below w.heap.size w w0 := hB.trans (hb.mono (by omega))
    obtain ⟨⟨k0, k1, k2, k3⟩, l0, l1, l2, l3⟩ := box2_at hb
    by_cases hlt : k < N
    · have hlt' : (k : Int) < wrap64 (2 ^ X) := by rw [HSH.out]; omega
      have hOl := hlo ▸ outsN_len gs os X k
      have hOl2 := hlp ▸ outsN_len hs_ ps X k
      obtain ⟨O, hO⟩ : ∃ O, Hid (outsN gs os X k = O) := ⟨_, rfl⟩
      obtain ⟨O2, hO2⟩ : ∃ O2, Hid (outsN hs_ ps X k = O2) := ⟨_, rfl⟩
      have hPk : Hid (pick (vals gs (bitsN k X) ng) os = O) := Lib.hid ((hon.out k).symm.trans hO.out)
      have hPk2 : Hid (pick (vals hs_ (bitsN k X) mg) ps = O2) := Lib.hid ((hon2.out k).symm.trans hO2.out)
      rw [hO.out] at hOl
      rw [hO2.out] at hOl2
      go_wp2_with fail
      refine (ciInputs_any x y Ag ng cg Ao no co _ hx hy).mono ?_
      rintro e v1 ⟨rfl, hb1⟩
      rw [hX]
      go_wp2_with fail
      refine (btOf_any k X _ (by omega) (by omega)).mono ?_
      rintro e v2 hT
      obtain ⟨A1, c1, rfl, ho1, hb2⟩ := hT.open_ (bitsN_len _ _)
      have hz1 := hb1.size
      have hz2 := hb2.size
      have hbv := hb.trans ((bnext hb1 hb2).mono (by omega))
      have hbd := below_drewN (hbw.trans ((bnext hb1 hb2).mono hbw.size)) 1
      clear k0 k1 k2 k3 l0 l1 l2 l3 hb1
      obtain ⟨⟨k0, k1, k2, k3⟩, l0, l1, l2, l3⟩ := box2_at hbv
      cases hs0 : sameB O O2 with
      | true =>
        have hE : O = O2 := by simpa [sameB] using hs0
        have HS := Lib.hid hs0; clear hs0
        have hq' : Hid (∀ j, j < k + 1 → outsN gs os X j = outsN hs_ ps X j) := Lib.hid fun j hj => by
          rcases Nat.lt_or_ge j k with h | h
          · exact hq.out j h
          · obtain rfl : j = k := by omega
            rw [hO.out, hO2.out, hE]
        clear hE
        go_wp2_with fail
        go_region_held3 (fun w' => w'.cell? ⟨w.heap.size, 0, none⟩ = some (.int .i64 x) ∧ w'.cell? ⟨w.heap.size, 1, none⟩ = some (.int .i64 y) ∧ w'.cell? ⟨w.heap.size, 2, none⟩ = some (.slice Ag ng cg) ∧ w'.cell? ⟨w.heap.size, 3, none⟩ = some (.slice Ao no co) ∧ w'.cell? ⟨w.heap.size + 1, 0, none⟩ = some (.int .i64 x2) ∧ w'.cell? ⟨w.heap.size + 1, 1, none⟩ = some (.int .i64 y2) ∧ w'.cell? ⟨w.heap.size + 1, 2, none⟩ = some (.slice Bg mg dg) ∧ w'.cell? ⟨w.heap.size + 1, 3, none⟩ = some (.slice Bo mo do_))
          (first | go_keep | (go_split_ands; exact ⟨cell_below (by assumption) hb4, cell_below (by assumption) hb4, cell_below (by assumption) hb4, cell_below (by assumption) hb4, cell_below (by assumption) hb4, cell_below (by assumption) hb4, cell_below (by assumption) hb4, cell_below (by assumption) hb4⟩) | (go_split_ands; exact ⟨cell_below (by assumption) hb3, cell_below (by assumption) hb3, cell_below (by assumption) hb3, cell_below (by assumption) hb3, cell_below (by assumption) hb3, cell_below (by assumption) hb3, cell_below (by assumption) hb3, cell_below (by assumption) hb3⟩))
          (first | (go_at_call_of 150 (Value.agg #[.int .i64 x, .int .i64 y, .slice Ag ng cg, .slice Ao no co]); refine (ciOuts_any x y Ag ng cg Ao no co A1 X c1 gs os (bitsN k X) _ ⟨hr.1.below hbd (Nat.le_refl _), hr.2.below hbd (Nat.le_refl _)⟩ (ho1.reads.drewN 1) (bitsN_bd _ _) hgat hos' (by omega) (by omega) (by omega)).mono ?_; rintro e W3 hT; rw [hPk.out] at hT; obtain ⟨A3, c3, rfl, ho3, hb3⟩ := hT.open_ hOl) | (go_at_call_of 150 (Value.agg #[.int .i64 x2, .int .i64 y2, .slice Bg mg dg, .slice Bo mo do_]); refine (ciOuts_any x2 y2 Bg mg dg Bo mo do_ A1 X c1 hs_ ps (bitsN k X) _ ⟨hs.1.below (hbd.trans (hb3.mono hbd.size)) (Nat.le_refl _), hs.2.below (hbd.trans (hb3.mono hbd.size)) (Nat.le_refl _)⟩ ((ho1.reads.drewN 1).below hb3 (Nat.le_refl _)) (bitsN_bd _ _) hgat2 hos2' (by omega) (by omega) (by omega)).mono ?_; rintro e W4 hT; rw [hPk2.out] at hT; obtain ⟨A4, c4, rfl, ho4, hb4⟩ := hT.open_ hOl2) | (go_at_call 124; refine (l1Same_any A3 A4 no c3 mo c4 O O2 _ (ho3.reads.below hb4 (Nat.le_refl _)) ho4.reads (by omega) (by omega)).mono ?_; rintro e W5 ⟨he, j5, rfl⟩; rw [HS.out] at he; obtain rfl := he))
        have hb5 := hbv.trans ((below_drewN (bnext (bnext (below_of_drewN 1) hb3) hb4) j5).mono (by omega))
        clear hb3 hb4 ho3 ho4 hbv hb
        go_wp2
        go_roundw
        case rel => exact ⟨k + 1, by omega, by go_num, hq', hb5⟩
        case measure => simp [intOf]; omega
      | false =>
        have hE : ¬ O = O2 := by simpa [sameB] using hs0
        have HS := Lib.hid hs0; clear hs0
        have HR : Hid (uneq (outsN gs os X) (outsN hs_ ps X) N = k) := Lib.hid (uneq_some hlt hq.out (by rw [hO.out, hO2.out]; exact hE))
        clear hE
        go_wp2_with fail
        go_region_held3 (fun w' => w'.cell? ⟨w.heap.size, 0, none⟩ = some (.int .i64 x) ∧ w'.cell? ⟨w.heap.size, 1, none⟩ = some (.int .i64 y) ∧ w'.cell? ⟨w.heap.size, 2, none⟩ = some (.slice Ag ng cg) ∧ w'.cell? ⟨w.heap.size, 3, none⟩ = some (.slice Ao no co) ∧ w'.cell? ⟨w.heap.size + 1, 0, none⟩ = some (.int .i64 x2) ∧ w'.cell? ⟨w.heap.size + 1, 1, none⟩ = some (.int .i64 y2) ∧ w'.cell? ⟨w.heap.size + 1, 2, none⟩ = some (.slice Bg mg dg) ∧ w'.cell? ⟨w.heap.size + 1, 3, none⟩ = some (.slice Bo mo do_))
          (first | go_keep | (go_split_ands; exact ⟨cell_below (by assumption) hb4, cell_below (by assumption) hb4, cell_below (by assumption) hb4, cell_below (by assumption) hb4, cell_below (by assumption) hb4, cell_below (by assumption) hb4, cell_below (by assumption) hb4, cell_below (by assumption) hb4⟩) | (go_split_ands; exact ⟨cell_below (by assumption) hb3, cell_below (by assumption) hb3, cell_below (by assumption) hb3, cell_below (by assumption) hb3, cell_below (by assumption) hb3, cell_below (by assumption) hb3, cell_below (by assumption) hb3, cell_below (by assumption) hb3⟩))
          (first | (go_at_call_of 150 (Value.agg #[.int .i64 x, .int .i64 y, .slice Ag ng cg, .slice Ao no co]); refine (ciOuts_any x y Ag ng cg Ao no co A1 X c1 gs os (bitsN k X) _ ⟨hr.1.below hbd (Nat.le_refl _), hr.2.below hbd (Nat.le_refl _)⟩ (ho1.reads.drewN 1) (bitsN_bd _ _) hgat hos' (by omega) (by omega) (by omega)).mono ?_; rintro e W3 hT; rw [hPk.out] at hT; obtain ⟨A3, c3, rfl, ho3, hb3⟩ := hT.open_ hOl) | (go_at_call_of 150 (Value.agg #[.int .i64 x2, .int .i64 y2, .slice Bg mg dg, .slice Bo mo do_]); refine (ciOuts_any x2 y2 Bg mg dg Bo mo do_ A1 X c1 hs_ ps (bitsN k X) _ ⟨hs.1.below (hbd.trans (hb3.mono hbd.size)) (Nat.le_refl _), hs.2.below (hbd.trans (hb3.mono hbd.size)) (Nat.le_refl _)⟩ ((ho1.reads.drewN 1).below hb3 (Nat.le_refl _)) (bitsN_bd _ _) hgat2 hos2' (by omega) (by omega) (by omega)).mono ?_; rintro e W4 hT; rw [hPk2.out] at hT; obtain ⟨A4, c4, rfl, ho4, hb4⟩ := hT.open_ hOl2) | (go_at_call 124; refine (l1Same_any A3 A4 no c3 mo c4 O O2 _ (ho3.reads.below hb4 (Nat.le_refl _)) ho4.reads (by omega) (by omega)).mono ?_; rintro e W5 ⟨he, j5, rfl⟩; rw [HS.out] at he; obtain rfl := he))
        have hb5 := hbd.trans ((below_drewN (bnext hb3 hb4) j5).mono hbd.size)
        go_wp2
        go_ret
        exact ⟨by rw [HR.out]; rfl, hb5⟩
    · obtain rfl : N = k := Nat.le_antisymm (Nat.le_of_not_lt hlt) hk
      have hsh := HSH.out
      have HR : Hid (uneq (outsN gs os X) (outsN hs_ ps X) N = -1) := Lib.hid (uneq_none hq.out)
      go_wp2
      go_ret
      exact ⟨by rw [HR.out]; rfl, hbw⟩

end Go.Proofs.Ytanlbdkggocdiaa
