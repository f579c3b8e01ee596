/- Contracts of AreEqual, FirstUnequal. -/
import Derived.Deep.RegionLaw
import Derived.Test.YtikgagjoapggnaaQP27
namespace Go.Proofs.Ytikgagjoapggnaa
open Go.RowKit
set_option linter.unusedVariables false
set_option linter.unusedSimpArgs false
def fuV (x y : Int) (gs : List G3) (os : List Int) (x2 y2 : Int) (hs : List G3) (ps : List Int) : Int := if pairB x y gs os x2 y2 hs ps = true then uneqF x y gs os hs ps else -1
def eqV (x y : Int) (gs : List G3) (os : List Int) (x2 y2 : Int) (hs : List G3) (ps : List Int) : Bool := pairB x y gs os x2 y2 hs ps && decide (uneqF x y gs os hs ps < 0)
theorem fuV_t {x y : Int} {gs : List G3} {os : List Int} {x2 y2 : Int} {hs : List G3} {ps : List Int} (h : pairB x y gs os x2 y2 hs ps = true) : fuV x y gs os x2 y2 hs ps = uneqF x y gs os hs ps := by rw [fuV, if_pos h]
theorem fuV_f {x y : Int} {gs : List G3} {os : List Int} {x2 y2 : Int} {hs : List G3} {ps : List Int} (h : pairB x y gs os x2 y2 hs ps = false) : fuV x y gs os x2 y2 hs ps = -1 := by rw [fuV, if_neg (by rw [h]; decide)]
theorem eqV_t {x y : Int} {gs : List G3} {os : List Int} {x2 y2 : Int} {hs : List G3} {ps : List Int} (h : pairB x y gs os x2 y2 hs ps = true) : eqV x y gs os x2 y2 hs ps = decide (uneqF x y gs os hs ps < 0) := by rw [eqV, h, Bool.true_and]
theorem eqV_f {x y : Int} {gs : List G3} {os : List Int} {x2 y2 : Int} {hs : List G3} {ps : List Int} (h : pairB x y gs os x2 y2 hs ps = false) : eqV x y gs os x2 y2 hs ps = false := by rw [eqV, h, Bool.false_and]
set_option maxRecDepth 100000 in
set_option maxHeartbeats 1600000 in
theorem spec_AreEqual_any (x y : Int) (Ag : Option Addr) (ng cg : Nat) (Ao : Option Addr) (no co : Nat) (x2 y2 : Int) (Bg : Option Addr) (mg dg : Nat) (Bo : Option Addr) (mo do_ : Nat) (gs : List G3) (os : List Int) (hs_ : List G3) (ps : List Int) (w : World) (hr : RG w Ag ng gs ∧ RI w Ao no os) (hng : ng ≤ 2097152) (hno : no ≤ 2097152) (hs : RG w Bg mg hs_ ∧ RI w Bo mo ps) (hmg : mg ≤ 2097152) (hmo : mo ≤ 2097152) :
    Calls Try.prog 9 #[.agg #[.int .i64 x, .int .i64 y, .slice Ag ng cg, .slice Ao no co], .agg #[.int .i64 x2, .int .i64 y2, .slice Bg mg dg, .slice Bo mo do_]] w fun e w' => e = .returned (.tuple #[.bool (eqV x y gs os x2 y2 hs_ ps), .bool (pairB x y gs os x2 y2 hs_ ps)]) ∧ Below w.heap.size w w' := by
  have hB : Below w.heap.size w ((w.alloc (.cells #[.int .i64 x, .int .i64 y, .slice Ag ng cg, .slice Ao no co] 26)).alloc (.cells #[.int .i64 x2, .int .i64 y2, .slice Bg mg dg, .slice Bo mo do_] 26)) := ((Below.refl _ _).alloc (Nat.le_refl _) _).alloc (by simp) _
  have hlg := hr.1.len
  have hlo := hr.2.len
  have hlh := hs.1.len
  have hlp := hs.2.len
  cases h0 : pairB x y gs os x2 y2 hs_ ps with
  | false =>
    have HE := Lib.hid (eqV_f h0)
    have H0 := Lib.hid h0; clear h0
    go_enter Try.func9, Try.ntmps9
    go_wp2_with fail
    have q9 := siPair_any x y Ag ng cg Ao no co x2 y2 Bg mg dg Bo mo do_ gs os hs_ ps _ ⟨hr.1.below hB (Nat.le_refl _), hr.2.below hB (Nat.le_refl _)⟩ ⟨hs.1.below hB (Nat.le_refl _), hs.2.below hB (Nat.le_refl _)⟩ hng hno hmg hmo
    refine q9.mono ?_
    clear q9
    rintro e v1 ⟨rfl, hb1⟩
    rw [H0.out]
    obtain ⟨hc1, hf1⟩ := bcell hb1
    have hz1 := hb1.size
    simp only [World.size_alloc] at hz1
    have hz1' : w.heap.size < v1.heap.size := by omega
    have hy1' : w.heap.size + 1 < v1.heap.size := by omega
    have hB1 := hB.trans (hb1.mono hB.size)
    go_wp2
    go_ret2
    exact ⟨by rw [HE.out]; rfl, hB1⟩
  | true =>
    have HE := Lib.hid (eqV_t h0)
    obtain ⟨p1, p2, p3, p4, p5⟩ := pairB_bd h0
    obtain ⟨h1, h2, h3⟩ := smallB_bd p1
    obtain ⟨h1d, h2d, h3d⟩ := smallB_bd p2
    obtain ⟨⟨b1, b2⟩, ⟨b3, b4⟩, b5, b6, b7, b8⟩ := circB_bd h1
    obtain ⟨_, _, d5, d6, d7, d8⟩ := circB_bd h1d
    obtain ⟨X, hX⟩ : ∃ X : Nat, x + y = X := ⟨(x + y).toNat, by omega⟩
    have hXt : (x + y).toNat = X := by omega
    have hXd : x2 + y2 = X := by rw [← p3, ← p4]; exact hX
    rw [hX] at b7 b8
    rw [hXd] at d7 d8
    obtain ⟨N, hN⟩ : ∃ N, N = 2 ^ X := ⟨_, rfl⟩
    have hP := (pow_wrap hN (by omega)).1
    have hU : uneq (outsN gs os X) (outsN hs_ ps X) N = uneqF x y gs os hs_ ps := by rw [uneqF, hXt, hN]
    have hUb := uneq_bd (outsN gs os X) (outsN hs_ ps X) N
    rw [hU] at hUb
    have HU := Lib.hid hU; have HN := Lib.hid hN; have H0 := Lib.hid h0; have H7 := Lib.hid b7; have H8 := Lib.hid b8; have H7d := Lib.hid d7; have H8d := Lib.hid d8; clear hU hN h0 h1 h1d p1 p2 p3 p4 p5 b7 b8 d7 d8
    go_enter Try.func9, Try.ntmps9
    go_wp2_with fail
    have q9 := siPair_any x y Ag ng cg Ao no co x2 y2 Bg mg dg Bo mo do_ gs os hs_ ps _ ⟨hr.1.below hB (Nat.le_refl _), hr.2.below hB (Nat.le_refl _)⟩ ⟨hs.1.below hB (Nat.le_refl _), hs.2.below hB (Nat.le_refl _)⟩ hng hno hmg hmo
    refine q9.mono ?_
    clear q9
    rintro e v1 ⟨rfl, hb1⟩
    rw [H0.out]
    obtain ⟨hc1, hf1⟩ := bcell hb1
    have hz1 := hb1.size
    simp only [World.size_alloc] at hz1
    have hz1' : w.heap.size < v1.heap.size := by omega
    have hy1' : w.heap.size + 1 < v1.heap.size := by omega
    have hB1 := hB.trans (hb1.mono hB.size)
    go_wp2_with fail
    have q9 := siUnequal_any x y Ag ng cg Ao no co x2 y2 Bg mg dg Bo mo do_ gs os hs_ ps X N _ ⟨hr.1.below hB1 (Nat.le_refl _), hr.2.below hB1 (Nat.le_refl _)⟩ (by omega) (by omega) hX (by omega) HN.out H7.out H8.out (by omega) (by omega) ⟨hs.1.below hB1 (Nat.le_refl _), hs.2.below hB1 (Nat.le_refl _)⟩ hXd H7d.out H8d.out (by omega) (by omega)
    refine q9.mono ?_
    clear q9
    rintro e v2 ⟨rfl, hb2⟩
    rw [HU.out]
    go_wp2
    go_ret2
    exact ⟨by rw [HE.out]; rfl, hB1.trans (hb2.mono hB1.size)⟩
theorem firstF_pair {x y : Int} {gs : List G3} {os : List Int} {x2 y2 : Int} {hs : List G3} {ps : List Int} (h : pairB x y gs os x2 y2 hs ps = false) : firstF x y gs os x2 y2 hs ps = none := by simp [firstF, h]
theorem firstF_none {x y : Int} {gs : List G3} {os : List Int} {x2 y2 : Int} {hs : List G3} {ps : List Int} (h : uneqF x y gs os hs ps < 0) : firstF x y gs os x2 y2 hs ps = none := by
  unfold firstF; rw [if_neg (fun hc => by have := hc.2; omega)]
theorem firstF_some {x y : Int} {gs : List G3} {os : List Int} {x2 y2 : Int} {hs : List G3} {ps : List Int} (h0 : pairB x y gs os x2 y2 hs ps = true) (h : ¬ uneqF x y gs os hs ps < 0) : firstF x y gs os x2 y2 hs ps = some (uneqF x y gs os hs ps) := by
  unfold firstF; rw [if_pos ⟨h0, by omega⟩]
set_option maxRecDepth 100000 in
set_option maxHeartbeats 1600000 in
theorem spec_FirstUnequal_any (x y : Int) (Ag : Option Addr) (ng cg : Nat) (Ao : Option Addr) (no co : Nat) (x2 y2 : Int) (Bg : Option Addr) (mg dg : Nat) (Bo : Option Addr) (mo do_ : Nat) (gs : List G3) (os : List Int) (hs_ : List G3) (ps : List Int) (w : World) (hr : RG w Ag ng gs ∧ RI w Ao no os) (hng : ng ≤ 2097152) (hno : no ≤ 2097152) (hs : RG w Bg mg hs_ ∧ RI w Bo mo ps) (hmg : mg ≤ 2097152) (hmo : mo ≤ 2097152) :
    Calls Try.prog 11 #[.agg #[.int .i64 x, .int .i64 y, .slice Ag ng cg, .slice Ao no co], .agg #[.int .i64 x2, .int .i64 y2, .slice Bg mg dg, .slice Bo mo do_]] w (RetZO w (firstF x y gs os x2 y2 hs_ ps)) := by
  have hB : Below w.heap.size w ((w.alloc (.cells #[.int .i64 x, .int .i64 y, .slice Ag ng cg, .slice Ao no co] 26)).alloc (.cells #[.int .i64 x2, .int .i64 y2, .slice Bg mg dg, .slice Bo mo do_] 26)) := ((Below.refl _ _).alloc (Nat.le_refl _) _).alloc (by simp) _
  have hlg := hr.1.len
  have hlo := hr.2.len
  have hlh := hs.1.len
  have hlp := hs.2.len
  cases h0 : pairB x y gs os x2 y2 hs_ ps with
  | false =>
    have HR : Hid (firstF x y gs os x2 y2 hs_ ps = none) := Lib.hid (firstF_pair h0)
    have H0 := Lib.hid h0; clear h0
    go_enter Try.func11, Try.ntmps11
    go_wp2_with fail
    have q9 := siPair_any x y Ag ng cg Ao no co x2 y2 Bg mg dg Bo mo do_ gs os hs_ ps _ ⟨hr.1.below hB (Nat.le_refl _), hr.2.below hB (Nat.le_refl _)⟩ ⟨hs.1.below hB (Nat.le_refl _), hs.2.below hB (Nat.le_refl _)⟩ hng hno hmg hmo
    refine q9.mono ?_
    clear q9
    rintro e v1 ⟨rfl, hb1⟩
    rw [H0.out]
    obtain ⟨hc1, hf1⟩ := bcell hb1
    have hz1 := hb1.size
    simp only [World.size_alloc] at hz1
    have hz1' : w.heap.size < v1.heap.size := by omega
    have hy1' : w.heap.size + 1 < v1.heap.size := by omega
    have hB1 := hB.trans (hb1.mono hB.size)
    go_wp2
    go_ret2
    exact RetZO.none_ hB1 HR.out rfl
  | true =>
    by_cases hn : uneqF x y gs os hs_ ps < 0
    · have HR : Hid (firstF x y gs os x2 y2 hs_ ps = none) := Lib.hid (firstF_none hn)
      obtain ⟨p1, p2, p3, p4, p5⟩ := pairB_bd h0
      obtain ⟨h1, h2, h3⟩ := smallB_bd p1
      obtain ⟨h1d, h2d, h3d⟩ := smallB_bd p2
      obtain ⟨⟨b1, b2⟩, ⟨b3, b4⟩, b5, b6, b7, b8⟩ := circB_bd h1
      obtain ⟨_, _, d5, d6, d7, d8⟩ := circB_bd h1d
      obtain ⟨X, hX⟩ : ∃ X : Nat, x + y = X := ⟨(x + y).toNat, by omega⟩
      have hXt : (x + y).toNat = X := by omega
      have hXd : x2 + y2 = X := by rw [← p3, ← p4]; exact hX
      rw [hX] at b7 b8
      rw [hXd] at d7 d8
      obtain ⟨N, hN⟩ : ∃ N, N = 2 ^ X := ⟨_, rfl⟩
      have hP := (pow_wrap hN (by omega)).1
      have hU : uneq (outsN gs os X) (outsN hs_ ps X) N = uneqF x y gs os hs_ ps := by rw [uneqF, hXt, hN]
      have hUb := uneq_bd (outsN gs os X) (outsN hs_ ps X) N
      rw [hU] at hUb
      have HU := Lib.hid hU; have HN := Lib.hid hN; have H0 := Lib.hid h0; have H7 := Lib.hid b7; have H8 := Lib.hid b8; have H7d := Lib.hid d7; have H8d := Lib.hid d8; clear hU hN h0 h1 h1d p1 p2 p3 p4 p5 b7 b8 d7 d8
      generalize uneqF x y gs os hs_ ps = u at *
      go_enter Try.func11, Try.ntmps11
      go_wp2_with fail
      have q9 := siPair_any x y Ag ng cg Ao no co x2 y2 Bg mg dg Bo mo do_ gs os hs_ ps _ ⟨hr.1.below hB (Nat.le_refl _), hr.2.below hB (Nat.le_refl _)⟩ ⟨hs.1.below hB (Nat.le_refl _), hs.2.below hB (Nat.le_refl _)⟩ hng hno hmg hmo
      refine q9.mono ?_
      clear q9
      rintro e v1 ⟨rfl, hb1⟩
      rw [H0.out]
      obtain ⟨hc1, hf1⟩ := bcell hb1
      have hz1 := hb1.size
      simp only [World.size_alloc] at hz1
      have hz1' : w.heap.size < v1.heap.size := by omega
      have hy1' : w.heap.size + 1 < v1.heap.size := by omega
      have hB1 := hB.trans (hb1.mono hB.size)
      go_wp2_with fail
      have q9 := siUnequal_any x y Ag ng cg Ao no co x2 y2 Bg mg dg Bo mo do_ gs os hs_ ps X N _ ⟨hr.1.below hB1 (Nat.le_refl _), hr.2.below hB1 (Nat.le_refl _)⟩ (by omega) (by omega) hX (by omega) HN.out H7.out H8.out (by omega) (by omega) ⟨hs.1.below hB1 (Nat.le_refl _), hs.2.below hB1 (Nat.le_refl _)⟩ hXd H7d.out H8d.out (by omega) (by omega)
      refine q9.mono ?_
      clear q9
      rintro e v2 ⟨rfl, hb2⟩
      rw [HU.out]
      go_wp2
      go_ret2
      exact RetZO.none_ (hB1.trans (hb2.mono hB1.size)) HR.out rfl
    · have HR : Hid (firstF x y gs os x2 y2 hs_ ps = some (uneqF x y gs os hs_ ps)) := Lib.hid (firstF_some h0 hn)
      obtain ⟨p1, p2, p3, p4, p5⟩ := pairB_bd h0
      obtain ⟨h1, h2, h3⟩ := smallB_bd p1
      obtain ⟨h1d, h2d, h3d⟩ := smallB_bd p2
      obtain ⟨⟨b1, b2⟩, ⟨b3, b4⟩, b5, b6, b7, b8⟩ := circB_bd h1
      obtain ⟨_, _, d5, d6, d7, d8⟩ := circB_bd h1d
      obtain ⟨X, hX⟩ : ∃ X : Nat, x + y = X := ⟨(x + y).toNat, by omega⟩
      have hXt : (x + y).toNat = X := by omega
      have hXd : x2 + y2 = X := by rw [← p3, ← p4]; exact hX
      rw [hX] at b7 b8
      rw [hXd] at d7 d8
      obtain ⟨N, hN⟩ : ∃ N, N = 2 ^ X := ⟨_, rfl⟩
      have hP := (pow_wrap hN (by omega)).1
      have hU : uneq (outsN gs os X) (outsN hs_ ps X) N = uneqF x y gs os hs_ ps := by rw [uneqF, hXt, hN]
      have hUb := uneq_bd (outsN gs os X) (outsN hs_ ps X) N
      rw [hU] at hUb
      have HU := Lib.hid hU; have HN := Lib.hid hN; have H0 := Lib.hid h0; have H7 := Lib.hid b7; have H8 := Lib.hid b8; have H7d := Lib.hid d7; have H8d := Lib.hid d8; clear hU hN h0 h1 h1d p1 p2 p3 p4 p5 b7 b8 d7 d8
      generalize uneqF x y gs os hs_ ps = u at *
      go_enter Try.func11, Try.ntmps11
      go_wp2_with fail
      have q9 := siPair_any x y Ag ng cg Ao no co x2 y2 Bg mg dg Bo mo do_ gs os hs_ ps _ ⟨hr.1.below hB (Nat.le_refl _), hr.2.below hB (Nat.le_refl _)⟩ ⟨hs.1.below hB (Nat.le_refl _), hs.2.below hB (Nat.le_refl _)⟩ hng hno hmg hmo
      refine q9.mono ?_
      clear q9
      rintro e v1 ⟨rfl, hb1⟩
      rw [H0.out]
      obtain ⟨hc1, hf1⟩ := bcell hb1
      have hz1 := hb1.size
      simp only [World.size_alloc] at hz1
      have hz1' : w.heap.size < v1.heap.size := by omega
      have hy1' : w.heap.size + 1 < v1.heap.size := by omega
      have hB1 := hB.trans (hb1.mono hB.size)
      go_wp2_with fail
      have q9 := siUnequal_any x y Ag ng cg Ao no co x2 y2 Bg mg dg Bo mo do_ gs os hs_ ps X N _ ⟨hr.1.below hB1 (Nat.le_refl _), hr.2.below hB1 (Nat.le_refl _)⟩ (by omega) (by omega) hX (by omega) HN.out H7.out H8.out (by omega) (by omega) ⟨hs.1.below hB1 (Nat.le_refl _), hs.2.below hB1 (Nat.le_refl _)⟩ hXd H7d.out H8d.out (by omega) (by omega)
      refine q9.mono ?_
      clear q9
      rintro e v2 ⟨rfl, hb2⟩
      rw [HU.out]
      obtain ⟨hc2, hf2⟩ := bcell hb2
      have hz2 := hb2.size
      have hz2' : w.heap.size < v2.heap.size := by omega
      have hy2' : w.heap.size + 1 < v2.heap.size := by omega
      have hB2 := hB1.trans (hb2.mono hB1.size)
      go_wp2_with fail
      have q9 := siUnequal_any x y Ag ng cg Ao no co x2 y2 Bg mg dg Bo mo do_ gs os hs_ ps X N _ ⟨hr.1.below hB2 (Nat.le_refl _), hr.2.below hB2 (Nat.le_refl _)⟩ (by omega) (by omega) hX (by omega) HN.out H7.out H8.out (by omega) (by omega) ⟨hs.1.below hB2 (Nat.le_refl _), hs.2.below hB2 (Nat.le_refl _)⟩ hXd H7d.out H8d.out (by omega) (by omega)
      refine q9.mono ?_
      clear q9
      rintro e v3 ⟨rfl, hb3⟩
      rw [HU.out]
      go_wp2
      go_ret2
      exact RetZO.some_ (hB2.trans (hb3.mono hB2.size)) HR.out rfl
set_option maxRecDepth 100000 in
set_option maxHeartbeats 1600000 in
theorem firstUnequal_any (x y : Int) (Ag : Option Addr) (ng cg : Nat) (Ao : Option Addr) (no co : Nat) (x2 y2 : Int) (Bg : Option Addr) (mg dg : Nat) (Bo : Option Addr) (mo do_ : Nat) (gs : List G3) (os : List Int) (hs_ : List G3) (ps : List Int) (w : World) (hr : RG w Ag ng gs ∧ RI w Ao no os) (hs : RG w Bg mg hs_ ∧ RI w Bo mo ps) (hng : ng ≤ 2097152) (hno : no ≤ 2097152) (hmg : mg ≤ 2097152) (hmo : mo ≤ 2097152) :
    Calls Try.prog 31 #[.agg #[.int .i64 x, .int .i64 y, .slice Ag ng cg, .slice Ao no co], .agg #[.int .i64 x2, .int .i64 y2, .slice Bg mg dg, .slice Bo mo do_]] w fun e w' => e = .returned (.tuple #[.int .i64 (fuV x y gs os x2 y2 hs_ ps), .bool (pairB x y gs os x2 y2 hs_ ps)]) ∧ Below w.heap.size w w' := by
  have hB : Below w.heap.size w ((w.alloc (.cells #[.int .i64 x, .int .i64 y, .slice Ag ng cg, .slice Ao no co] 26)).alloc (.cells #[.int .i64 x2, .int .i64 y2, .slice Bg mg dg, .slice Bo mo do_] 26)) := ((Below.refl _ _).alloc (Nat.le_refl _) _).alloc (by simp) _
  have hlg := hr.1.len
  have hlo := hr.2.len
  have hlh := hs.1.len
  have hlp := hs.2.len
  cases h0 : smallB x y gs os 40 with
  | false =>
    have HR : Hid (pairB x y gs os x2 y2 hs_ ps = false) := Lib.hid (by simp [pairB, h0])
    have H0 := Lib.hid h0; clear h0
    go_enter Try.func31, Try.ntmps31
    go_wp2_with fail
    refine (isSmall_any x y Ag ng cg Ao no co gs os _ ⟨hr.1.below hB (Nat.le_refl _), hr.2.below hB (Nat.le_refl _)⟩ hng hno).mono ?_
    rintro e v1 ⟨rfl, hb1⟩
    rw [H0.out]
    have hB1 := hB.trans (hb1.mono hB.size)
    go_wp2
    go_ret2
    exact ⟨by rw [HR.out, fuV_f HR.out]; rfl, hB1⟩
  | true =>
    have H0 := Lib.hid h0; clear h0
    cases h1 : smallB x2 y2 hs_ ps 40 with
    | false =>
      have HR : Hid (pairB x y gs os x2 y2 hs_ ps = false) := Lib.hid (by simp [pairB, H0.out, h1])
      have H1 := Lib.hid h1; clear h1
      go_enter Try.func31, Try.ntmps31
      go_wp2_with fail
      refine (isSmall_any x y Ag ng cg Ao no co gs os _ ⟨hr.1.below hB (Nat.le_refl _), hr.2.below hB (Nat.le_refl _)⟩ hng hno).mono ?_
      rintro e v1 ⟨rfl, hb1⟩
      rw [H0.out]
      have hB1 := hB.trans (hb1.mono hB.size)
      have k0_0_1 := cell_below (cell_below (box_cell w #[.int .i64 x, .int .i64 y, .slice Ag ng cg, .slice Ao no co] (T := 26) 0 _ rfl) ((Below.refl _ _).alloc (Nat.le_refl _) (.cells #[.int .i64 x2, .int .i64 y2, .slice Bg mg dg, .slice Bo mo do_] 26))) hb1
      have k0_1_1 := cell_below (cell_below (box_cell w #[.int .i64 x, .int .i64 y, .slice Ag ng cg, .slice Ao no co] (T := 26) 1 _ rfl) ((Below.refl _ _).alloc (Nat.le_refl _) (.cells #[.int .i64 x2, .int .i64 y2, .slice Bg mg dg, .slice Bo mo do_] 26))) hb1
      have k0_2_1 := cell_below (cell_below (box_cell w #[.int .i64 x, .int .i64 y, .slice Ag ng cg, .slice Ao no co] (T := 26) 2 _ rfl) ((Below.refl _ _).alloc (Nat.le_refl _) (.cells #[.int .i64 x2, .int .i64 y2, .slice Bg mg dg, .slice Bo mo do_] 26))) hb1
      have k0_3_1 := cell_below (cell_below (box_cell w #[.int .i64 x, .int .i64 y, .slice Ag ng cg, .slice Ao no co] (T := 26) 3 _ rfl) ((Below.refl _ _).alloc (Nat.le_refl _) (.cells #[.int .i64 x2, .int .i64 y2, .slice Bg mg dg, .slice Bo mo do_] 26))) hb1
      have k1_0_1 := cell_below (box_cell (w.alloc (.cells #[.int .i64 x, .int .i64 y, .slice Ag ng cg, .slice Ao no co] 26)) #[.int .i64 x2, .int .i64 y2, .slice Bg mg dg, .slice Bo mo do_] (T := 26) 0 _ rfl) hb1; simp only [World.size_alloc] at k1_0_1
      have k1_1_1 := cell_below (box_cell (w.alloc (.cells #[.int .i64 x, .int .i64 y, .slice Ag ng cg, .slice Ao no co] 26)) #[.int .i64 x2, .int .i64 y2, .slice Bg mg dg, .slice Bo mo do_] (T := 26) 1 _ rfl) hb1; simp only [World.size_alloc] at k1_1_1
      have k1_2_1 := cell_below (box_cell (w.alloc (.cells #[.int .i64 x, .int .i64 y, .slice Ag ng cg, .slice Ao no co] 26)) #[.int .i64 x2, .int .i64 y2, .slice Bg mg dg, .slice Bo mo do_] (T := 26) 2 _ rfl) hb1; simp only [World.size_alloc] at k1_2_1
      have k1_3_1 := cell_below (box_cell (w.alloc (.cells #[.int .i64 x, .int .i64 y, .slice Ag ng cg, .slice Ao no co] 26)) #[.int .i64 x2, .int .i64 y2, .slice Bg mg dg, .slice Bo mo do_] (T := 26) 3 _ rfl) hb1; simp only [World.size_alloc] at k1_3_1
      have z0 : w.heap.size < v1.heap.size := by have := hb1.size; simp only [World.size_alloc] at this; omega
      have z1 : w.heap.size + 1 < v1.heap.size := by have := hb1.size; simp only [World.size_alloc] at this; omega
      go_wp2_with fail
      refine (isSmall_any x2 y2 Bg mg dg Bo mo do_ hs_ ps _ ⟨hs.1.below hB1 (Nat.le_refl _), hs.2.below hB1 (Nat.le_refl _)⟩ hmg hmo).mono ?_
      rintro e v2 ⟨rfl, hb2⟩
      rw [H1.out]
      have hB2 := hB1.trans (hb2.mono hB1.size)
      go_wp2
      go_ret2
      exact ⟨by rw [HR.out, fuV_f HR.out]; rfl, hB2⟩
    | true =>
      have H1 := Lib.hid h1; clear h1
      by_cases h2 : x = x2
      rotate_left
      · have e2 : ((x) == (x2)) = false := by simpa using h2
        have g2 : ((x) != (x2)) = true := by simpa using h2
        have HR : Hid (pairB x y gs os x2 y2 hs_ ps = false) := Lib.hid (by simp [pairB, H0.out, H1.out, h2])
        clear h2
        go_enter Try.func31, Try.ntmps31
        go_wp2_with fail
        refine (isSmall_any x y Ag ng cg Ao no co gs os _ ⟨hr.1.below hB (Nat.le_refl _), hr.2.below hB (Nat.le_refl _)⟩ hng hno).mono ?_
        rintro e v1 ⟨rfl, hb1⟩
        rw [H0.out]
        have hB1 := hB.trans (hb1.mono hB.size)
        have k0_0_1 := cell_below (cell_below (box_cell w #[.int .i64 x, .int .i64 y, .slice Ag ng cg, .slice Ao no co] (T := 26) 0 _ rfl) ((Below.refl _ _).alloc (Nat.le_refl _) (.cells #[.int .i64 x2, .int .i64 y2, .slice Bg mg dg, .slice Bo mo do_] 26))) hb1
        have k0_1_1 := cell_below (cell_below (box_cell w #[.int .i64 x, .int .i64 y, .slice Ag ng cg, .slice Ao no co] (T := 26) 1 _ rfl) ((Below.refl _ _).alloc (Nat.le_refl _) (.cells #[.int .i64 x2, .int .i64 y2, .slice Bg mg dg, .slice Bo mo do_] 26))) hb1
        have k0_2_1 := cell_below (cell_below (box_cell w #[.int .i64 x, .int .i64 y, .slice Ag ng cg, .slice Ao no co] (T := 26) 2 _ rfl) ((Below.refl _ _).alloc (Nat.le_refl _) (.cells #[.int .i64 x2, .int .i64 y2, .slice Bg mg dg, .slice Bo mo do_] 26))) hb1
        have k0_3_1 := cell_below (cell_below (box_cell w #[.int .i64 x, .int .i64 y, .slice Ag ng cg, .slice Ao no co] (T := 26) 3 _ rfl) ((Below.refl _ _).alloc (Nat.le_refl _) (.cells #[.int .i64 x2, .int .i64 y2, .slice Bg mg dg, .slice Bo mo do_] 26))) hb1
        have k1_0_1 := cell_below (box_cell (w.alloc (.cells #[.int .i64 x, .int .i64 y, .slice Ag ng cg, .slice Ao no co] 26)) #[.int .i64 x2, .int .i64 y2, .slice Bg mg dg, .slice Bo mo do_] (T := 26) 0 _ rfl) hb1; simp only [World.size_alloc] at k1_0_1
        have k1_1_1 := cell_below (box_cell (w.alloc (.cells #[.int .i64 x, .int .i64 y, .slice Ag ng cg, .slice Ao no co] 26)) #[.int .i64 x2, .int .i64 y2, .slice Bg mg dg, .slice Bo mo do_] (T := 26) 1 _ rfl) hb1; simp only [World.size_alloc] at k1_1_1
        have k1_2_1 := cell_below (box_cell (w.alloc (.cells #[.int .i64 x, .int .i64 y, .slice Ag ng cg, .slice Ao no co] 26)) #[.int .i64 x2, .int .i64 y2, .slice Bg mg dg, .slice Bo mo do_] (T := 26) 2 _ rfl) hb1; simp only [World.size_alloc] at k1_2_1
        have k1_3_1 := cell_below (box_cell (w.alloc (.cells #[.int .i64 x, .int .i64 y, .slice Ag ng cg, .slice Ao no co] 26)) #[.int .i64 x2, .int .i64 y2, .slice Bg mg dg, .slice Bo mo do_] (T := 26) 3 _ rfl) hb1; simp only [World.size_alloc] at k1_3_1
        have z0 : w.heap.size < v1.heap.size := by have := hb1.size; simp only [World.size_alloc] at this; omega
        have z1 : w.heap.size + 1 < v1.heap.size := by have := hb1.size; simp only [World.size_alloc] at this; omega
        go_wp2_with fail
        refine (isSmall_any x2 y2 Bg mg dg Bo mo do_ hs_ ps _ ⟨hs.1.below hB1 (Nat.le_refl _), hs.2.below hB1 (Nat.le_refl _)⟩ hmg hmo).mono ?_
        rintro e v2 ⟨rfl, hb2⟩
        rw [H1.out]
        have hB2 := hB1.trans (hb2.mono hB1.size)
        have k0_0_2 := cell_below k0_0_1 hb2; clear k0_0_1
        have k0_1_2 := cell_below k0_1_1 hb2; clear k0_1_1
        have k0_2_2 := cell_below k0_2_1 hb2; clear k0_2_1
        have k0_3_2 := cell_below k0_3_1 hb2; clear k0_3_1
        have k1_0_2 := cell_below k1_0_1 hb2; clear k1_0_1
        have k1_1_2 := cell_below k1_1_1 hb2; clear k1_1_1
        have k1_2_2 := cell_below k1_2_1 hb2; clear k1_2_1
        have k1_3_2 := cell_below k1_3_1 hb2; clear k1_3_1
        have z0_2 : w.heap.size < v2.heap.size := by have := hb2.size; omega
        have z1_2 : w.heap.size + 1 < v2.heap.size := by have := hb2.size; omega
        go_wp2
        go_ret2
        exact ⟨by rw [HR.out, fuV_f HR.out]; rfl, hB2⟩
      have e2 : ((x) == (x2)) = true := by simpa using h2
      have g2 : ((x) != (x2)) = false := by simpa using h2
      have H2 := Lib.hid h2; clear h2
      by_cases h3 : y = y2
      rotate_left
      · have e3 : ((y) == (y2)) = false := by simpa using h3
        have g3 : ((y) != (y2)) = true := by simpa using h3
        have HR : Hid (pairB x y gs os x2 y2 hs_ ps = false) := Lib.hid (by simp [pairB, H0.out, H1.out, H2.out, h3])
        clear h3
        go_enter Try.func31, Try.ntmps31
        go_wp2_with fail
        refine (isSmall_any x y Ag ng cg Ao no co gs os _ ⟨hr.1.below hB (Nat.le_refl _), hr.2.below hB (Nat.le_refl _)⟩ hng hno).mono ?_
        rintro e v1 ⟨rfl, hb1⟩
        rw [H0.out]
        have hB1 := hB.trans (hb1.mono hB.size)
        have k0_0_1 := cell_below (cell_below (box_cell w #[.int .i64 x, .int .i64 y, .slice Ag ng cg, .slice Ao no co] (T := 26) 0 _ rfl) ((Below.refl _ _).alloc (Nat.le_refl _) (.cells #[.int .i64 x2, .int .i64 y2, .slice Bg mg dg, .slice Bo mo do_] 26))) hb1
        have k0_1_1 := cell_below (cell_below (box_cell w #[.int .i64 x, .int .i64 y, .slice Ag ng cg, .slice Ao no co] (T := 26) 1 _ rfl) ((Below.refl _ _).alloc (Nat.le_refl _) (.cells #[.int .i64 x2, .int .i64 y2, .slice Bg mg dg, .slice Bo mo do_] 26))) hb1
        have k0_2_1 := cell_below (cell_below (box_cell w #[.int .i64 x, .int .i64 y, .slice Ag ng cg, .slice Ao no co] (T := 26) 2 _ rfl) ((Below.refl _ _).alloc (Nat.le_refl _) (.cells #[.int .i64 x2, .int .i64 y2, .slice Bg mg dg, .slice Bo mo do_] 26))) hb1
        have k0_3_1 := cell_below (cell_below (box_cell w #[.int .i64 x, .int .i64 y, .slice Ag ng cg, .slice Ao no co] (T := 26) 3 _ rfl) ((Below.refl _ _).alloc (Nat.le_refl _) (.cells #[.int .i64 x2, .int .i64 y2, .slice Bg mg dg, .slice Bo mo do_] 26))) hb1
        have k1_0_1 := cell_below (box_cell (w.alloc (.cells #[.int .i64 x, .int .i64 y, .slice Ag ng cg, .slice Ao no co] 26)) #[.int .i64 x2, .int .i64 y2, .slice Bg mg dg, .slice Bo mo do_] (T := 26) 0 _ rfl) hb1; simp only [World.size_alloc] at k1_0_1
        have k1_1_1 := cell_below (box_cell (w.alloc (.cells #[.int .i64 x, .int .i64 y, .slice Ag ng cg, .slice Ao no co] 26)) #[.int .i64 x2, .int .i64 y2, .slice Bg mg dg, .slice Bo mo do_] (T := 26) 1 _ rfl) hb1; simp only [World.size_alloc] at k1_1_1
        have k1_2_1 := cell_below (box_cell (w.alloc (.cells #[.int .i64 x, .int .i64 y, .slice Ag ng cg, .slice Ao no co] 26)) #[.int .i64 x2, .int .i64 y2, .slice Bg mg dg, .slice Bo mo do_] (T := 26) 2 _ rfl) hb1; simp only [World.size_alloc] at k1_2_1
        have k1_3_1 := cell_below (box_cell (w.alloc (.cells #[.int .i64 x, .int .i64 y, .slice Ag ng cg, .slice Ao no co] 26)) #[.int .i64 x2, .int .i64 y2, .slice Bg mg dg, .slice Bo mo do_] (T := 26) 3 _ rfl) hb1; simp only [World.size_alloc] at k1_3_1
        have z0 : w.heap.size < v1.heap.size := by have := hb1.size; simp only [World.size_alloc] at this; omega
        have z1 : w.heap.size + 1 < v1.heap.size := by have := hb1.size; simp only [World.size_alloc] at this; omega
        go_wp2_with fail
        refine (isSmall_any x2 y2 Bg mg dg Bo mo do_ hs_ ps _ ⟨hs.1.below hB1 (Nat.le_refl _), hs.2.below hB1 (Nat.le_refl _)⟩ hmg hmo).mono ?_
        rintro e v2 ⟨rfl, hb2⟩
        rw [H1.out]
        have hB2 := hB1.trans (hb2.mono hB1.size)
        have k0_0_2 := cell_below k0_0_1 hb2; clear k0_0_1
        have k0_1_2 := cell_below k0_1_1 hb2; clear k0_1_1
        have k0_2_2 := cell_below k0_2_1 hb2; clear k0_2_1
        have k0_3_2 := cell_below k0_3_1 hb2; clear k0_3_1
        have k1_0_2 := cell_below k1_0_1 hb2; clear k1_0_1
        have k1_1_2 := cell_below k1_1_1 hb2; clear k1_1_1
        have k1_2_2 := cell_below k1_2_1 hb2; clear k1_2_1
        have k1_3_2 := cell_below k1_3_1 hb2; clear k1_3_1
        have z0_2 : w.heap.size < v2.heap.size := by have := hb2.size; omega
        have z1_2 : w.heap.size + 1 < v2.heap.size := by have := hb2.size; omega
        go_wp2
        go_ret2
        exact ⟨by rw [HR.out, fuV_f HR.out]; rfl, hB2⟩
      have e3 : ((y) == (y2)) = true := by simpa using h3
      have g3 : ((y) != (y2)) = false := by simpa using h3
      have H3 := Lib.hid h3; clear h3
      by_cases h4 : (no : Int) = (mo : Int)
      rotate_left
      · have e4 : (((no : Int)) == ((mo : Int))) = false := by simpa using h4
        have g4 : (((no : Int)) != ((mo : Int))) = true := by simpa using h4
        have HR : Hid (pairB x y gs os x2 y2 hs_ ps = false) := Lib.hid (by simp [pairB, H0.out, H1.out, H2.out, H3.out, hlo, hlp, natne h4])
        clear h4
        go_enter Try.func31, Try.ntmps31
        go_wp2_with fail
        refine (isSmall_any x y Ag ng cg Ao no co gs os _ ⟨hr.1.below hB (Nat.le_refl _), hr.2.below hB (Nat.le_refl _)⟩ hng hno).mono ?_
        rintro e v1 ⟨rfl, hb1⟩
        rw [H0.out]
        have hB1 := hB.trans (hb1.mono hB.size)
        have k0_0_1 := cell_below (cell_below (box_cell w #[.int .i64 x, .int .i64 y, .slice Ag ng cg, .slice Ao no co] (T := 26) 0 _ rfl) ((Below.refl _ _).alloc (Nat.le_refl _) (.cells #[.int .i64 x2, .int .i64 y2, .slice Bg mg dg, .slice Bo mo do_] 26))) hb1
        have k0_1_1 := cell_below (cell_below (box_cell w #[.int .i64 x, .int .i64 y, .slice Ag ng cg, .slice Ao no co] (T := 26) 1 _ rfl) ((Below.refl _ _).alloc (Nat.le_refl _) (.cells #[.int .i64 x2, .int .i64 y2, .slice Bg mg dg, .slice Bo mo do_] 26))) hb1
        have k0_2_1 := cell_below (cell_below (box_cell w #[.int .i64 x, .int .i64 y, .slice Ag ng cg, .slice Ao no co] (T := 26) 2 _ rfl) ((Below.refl _ _).alloc (Nat.le_refl _) (.cells #[.int .i64 x2, .int .i64 y2, .slice Bg mg dg, .slice Bo mo do_] 26))) hb1
        have k0_3_1 := cell_below (cell_below (box_cell w #[.int .i64 x, .int .i64 y, .slice Ag ng cg, .slice Ao no co] (T := 26) 3 _ rfl) ((Below.refl _ _).alloc (Nat.le_refl _) (.cells #[.int .i64 x2, .int .i64 y2, .slice Bg mg dg, .slice Bo mo do_] 26))) hb1
        have k1_0_1 := cell_below (box_cell (w.alloc (.cells #[.int .i64 x, .int .i64 y, .slice Ag ng cg, .slice Ao no co] 26)) #[.int .i64 x2, .int .i64 y2, .slice Bg mg dg, .slice Bo mo do_] (T := 26) 0 _ rfl) hb1; simp only [World.size_alloc] at k1_0_1
        have k1_1_1 := cell_below (box_cell (w.alloc (.cells #[.int .i64 x, .int .i64 y, .slice Ag ng cg, .slice Ao no co] 26)) #[.int .i64 x2, .int .i64 y2, .slice Bg mg dg, .slice Bo mo do_] (T := 26) 1 _ rfl) hb1; simp only [World.size_alloc] at k1_1_1
        have k1_2_1 := cell_below (box_cell (w.alloc (.cells #[.int .i64 x, .int .i64 y, .slice Ag ng cg, .slice Ao no co] 26)) #[.int .i64 x2, .int .i64 y2, .slice Bg mg dg, .slice Bo mo do_] (T := 26) 2 _ rfl) hb1; simp only [World.size_alloc] at k1_2_1
        have k1_3_1 := cell_below (box_cell (w.alloc (.cells #[.int .i64 x, .int .i64 y, .slice Ag ng cg, .slice Ao no co] 26)) #[.int .i64 x2, .int .i64 y2, .slice Bg mg dg, .slice Bo mo do_] (T := 26) 3 _ rfl) hb1; simp only [World.size_alloc] at k1_3_1
        have z0 : w.heap.size < v1.heap.size := by have := hb1.size; simp only [World.size_alloc] at this; omega
        have z1 : w.heap.size + 1 < v1.heap.size := by have := hb1.size; simp only [World.size_alloc] at this; omega
        go_wp2_with fail
        refine (isSmall_any x2 y2 Bg mg dg Bo mo do_ hs_ ps _ ⟨hs.1.below hB1 (Nat.le_refl _), hs.2.below hB1 (Nat.le_refl _)⟩ hmg hmo).mono ?_
        rintro e v2 ⟨rfl, hb2⟩
        rw [H1.out]
        have hB2 := hB1.trans (hb2.mono hB1.size)
        have k0_0_2 := cell_below k0_0_1 hb2; clear k0_0_1
        have k0_1_2 := cell_below k0_1_1 hb2; clear k0_1_1
        have k0_2_2 := cell_below k0_2_1 hb2; clear k0_2_1
        have k0_3_2 := cell_below k0_3_1 hb2; clear k0_3_1
        have k1_0_2 := cell_below k1_0_1 hb2; clear k1_0_1
        have k1_1_2 := cell_below k1_1_1 hb2; clear k1_1_1
        have k1_2_2 := cell_below k1_2_1 hb2; clear k1_2_1
        have k1_3_2 := cell_below k1_3_1 hb2; clear k1_3_1
        have z0_2 : w.heap.size < v2.heap.size := by have := hb2.size; omega
        have z1_2 : w.heap.size + 1 < v2.heap.size := by have := hb2.size; omega
        go_wp2
        go_ret2
        exact ⟨by rw [HR.out, fuV_f HR.out]; rfl, hB2⟩
      have e4 : (((no : Int)) == ((mo : Int))) = true := by simpa using h4
      have g4 : (((no : Int)) != ((mo : Int))) = false := by simpa using h4
      have H4 := Lib.hid h4; clear h4
      have h0 : pairB x y gs os x2 y2 hs_ ps = true := by unfold pairB; rw [H0.out, H1.out]; simp [H2.out, H3.out, hlo, hlp, nateq H4.out]
      have HF := Lib.hid (fuV_t h0)
      have K0 := H0; have K1 := H1; clear H0
      obtain ⟨p1, p2, p3, p4, p5⟩ := pairB_bd h0
      obtain ⟨h1, h2, h3⟩ := smallB_bd p1
      obtain ⟨h1d, h2d, h3d⟩ := smallB_bd p2
      obtain ⟨⟨b1, b2⟩, ⟨b3, b4⟩, b5, b6, b7, b8⟩ := circB_bd h1
      obtain ⟨_, _, d5, d6, d7, d8⟩ := circB_bd h1d
      obtain ⟨X, hX⟩ : ∃ X : Nat, x + y = X := ⟨(x + y).toNat, by omega⟩
      have hXt : (x + y).toNat = X := by omega
      have hXd : x2 + y2 = X := by rw [← p3, ← p4]; exact hX
      rw [hX] at b7 b8
      rw [hXd] at d7 d8
      obtain ⟨N, hN⟩ : ∃ N, N = 2 ^ X := ⟨_, rfl⟩
      have hP := (pow_wrap hN (by omega)).1
      have hU : uneq (outsN gs os X) (outsN hs_ ps X) N = uneqF x y gs os hs_ ps := by rw [uneqF, hXt, hN]
      have hUb := uneq_bd (outsN gs os X) (outsN hs_ ps X) N
      rw [hU] at hUb
      have HU := Lib.hid hU; have HN := Lib.hid hN; have H0 := Lib.hid h0; have H7 := Lib.hid b7; have H8 := Lib.hid b8; have H7d := Lib.hid d7; have H8d := Lib.hid d8; clear hU hN h0 h1 h1d p1 p2 p3 p4 p5 b7 b8 d7 d8
      
      go_enter Try.func31, Try.ntmps31
      go_wp2_with fail
      refine (isSmall_any x y Ag ng cg Ao no co gs os _ ⟨hr.1.below hB (Nat.le_refl _), hr.2.below hB (Nat.le_refl _)⟩ hng hno).mono ?_
      rintro e v1 ⟨rfl, hb1⟩
      rw [K0.out]
      have hB1 := hB.trans (hb1.mono hB.size)
      have k0_0_1 := cell_below (cell_below (box_cell w #[.int .i64 x, .int .i64 y, .slice Ag ng cg, .slice Ao no co] (T := 26) 0 _ rfl) ((Below.refl _ _).alloc (Nat.le_refl _) (.cells #[.int .i64 x2, .int .i64 y2, .slice Bg mg dg, .slice Bo mo do_] 26))) hb1
      have k0_1_1 := cell_below (cell_below (box_cell w #[.int .i64 x, .int .i64 y, .slice Ag ng cg, .slice Ao no co] (T := 26) 1 _ rfl) ((Below.refl _ _).alloc (Nat.le_refl _) (.cells #[.int .i64 x2, .int .i64 y2, .slice Bg mg dg, .slice Bo mo do_] 26))) hb1
      have k0_2_1 := cell_below (cell_below (box_cell w #[.int .i64 x, .int .i64 y, .slice Ag ng cg, .slice Ao no co] (T := 26) 2 _ rfl) ((Below.refl _ _).alloc (Nat.le_refl _) (.cells #[.int .i64 x2, .int .i64 y2, .slice Bg mg dg, .slice Bo mo do_] 26))) hb1
      have k0_3_1 := cell_below (cell_below (box_cell w #[.int .i64 x, .int .i64 y, .slice Ag ng cg, .slice Ao no co] (T := 26) 3 _ rfl) ((Below.refl _ _).alloc (Nat.le_refl _) (.cells #[.int .i64 x2, .int .i64 y2, .slice Bg mg dg, .slice Bo mo do_] 26))) hb1
      have k1_0_1 := cell_below (box_cell (w.alloc (.cells #[.int .i64 x, .int .i64 y, .slice Ag ng cg, .slice Ao no co] 26)) #[.int .i64 x2, .int .i64 y2, .slice Bg mg dg, .slice Bo mo do_] (T := 26) 0 _ rfl) hb1; simp only [World.size_alloc] at k1_0_1
      have k1_1_1 := cell_below (box_cell (w.alloc (.cells #[.int .i64 x, .int .i64 y, .slice Ag ng cg, .slice Ao no co] 26)) #[.int .i64 x2, .int .i64 y2, .slice Bg mg dg, .slice Bo mo do_] (T := 26) 1 _ rfl) hb1; simp only [World.size_alloc] at k1_1_1
      have k1_2_1 := cell_below (box_cell (w.alloc (.cells #[.int .i64 x, .int .i64 y, .slice Ag ng cg, .slice Ao no co] 26)) #[.int .i64 x2, .int .i64 y2, .slice Bg mg dg, .slice Bo mo do_] (T := 26) 2 _ rfl) hb1; simp only [World.size_alloc] at k1_2_1
      have k1_3_1 := cell_below (box_cell (w.alloc (.cells #[.int .i64 x, .int .i64 y, .slice Ag ng cg, .slice Ao no co] 26)) #[.int .i64 x2, .int .i64 y2, .slice Bg mg dg, .slice Bo mo do_] (T := 26) 3 _ rfl) hb1; simp only [World.size_alloc] at k1_3_1
      have z0 : w.heap.size < v1.heap.size := by have := hb1.size; simp only [World.size_alloc] at this; omega
      have z1 : w.heap.size + 1 < v1.heap.size := by have := hb1.size; simp only [World.size_alloc] at this; omega
      go_wp2_with fail
      refine (isSmall_any x2 y2 Bg mg dg Bo mo do_ hs_ ps _ ⟨hs.1.below hB1 (Nat.le_refl _), hs.2.below hB1 (Nat.le_refl _)⟩ hmg hmo).mono ?_
      rintro e v2 ⟨rfl, hb2⟩
      rw [K1.out]
      have hB2 := hB1.trans (hb2.mono hB1.size)
      have k0_0_2 := cell_below k0_0_1 hb2; clear k0_0_1
      have k0_1_2 := cell_below k0_1_1 hb2; clear k0_1_1
      have k0_2_2 := cell_below k0_2_1 hb2; clear k0_2_1
      have k0_3_2 := cell_below k0_3_1 hb2; clear k0_3_1
      have k1_0_2 := cell_below k1_0_1 hb2; clear k1_0_1
      have k1_1_2 := cell_below k1_1_1 hb2; clear k1_1_1
      have k1_2_2 := cell_below k1_2_1 hb2; clear k1_2_1
      have k1_3_2 := cell_below k1_3_1 hb2; clear k1_3_1
      have z0_2 : w.heap.size < v2.heap.size := by have := hb2.size; omega
      have z1_2 : w.heap.size + 1 < v2.heap.size := by have := hb2.size; omega
      have hbd := below_drewN hB2 1
      go_wp2_with fail
      go_region_held3 (fun w' => w'.cell? ⟨w.heap.size, 0, none⟩ = some (.int .i64 x) ∧ w'.cell? ⟨w.heap.size, 1, none⟩ = some (.int .i64 y) ∧ w'.cell? ⟨w.heap.size, 2, none⟩ = some (.slice Ag ng cg) ∧ w'.cell? ⟨w.heap.size, 3, none⟩ = some (.slice Ao no co) ∧ w'.cell? ⟨w.heap.size + 1, 0, none⟩ = some (.int .i64 x2) ∧ w'.cell? ⟨w.heap.size + 1, 1, none⟩ = some (.int .i64 y2) ∧ w'.cell? ⟨w.heap.size + 1, 2, none⟩ = some (.slice Bg mg dg) ∧ w'.cell? ⟨w.heap.size + 1, 3, none⟩ = some (.slice Bo mo do_))
        (first | go_keep | (go_split_ands; exact ⟨cell_below (by assumption) hb4, cell_below (by assumption) hb4, cell_below (by assumption) hb4, cell_below (by assumption) hb4, cell_below (by assumption) hb4, cell_below (by assumption) hb4, cell_below (by assumption) hb4, cell_below (by assumption) hb4⟩) | (go_split_ands; exact ⟨cell_below (by assumption) hb3, cell_below (by assumption) hb3, cell_below (by assumption) hb3, cell_below (by assumption) hb3, cell_below (by assumption) hb3, cell_below (by assumption) hb3, cell_below (by assumption) hb3, cell_below (by assumption) hb3⟩) | ((try dsimp only); (repeat' apply And.intro) <;> go_keep))
        (first | (go_at_call_of 63 (Value.agg #[.int .i64 x, .int .i64 y, .slice Ag ng cg, .slice Ao no co]); refine (Circuit_table_any x y Ag ng cg Ao no co gs os X N _ ⟨hr.1.below hbd (Nat.le_refl _), hr.2.below hbd (Nat.le_refl _)⟩ (by omega) (by omega) hX (by omega) HN.out H7.out H8.out (by omega) (by omega)).mono ?_; rintro e W3 hT; obtain ⟨A1, cA1, rfl, hT1, hb3⟩ := hT.open_ (tabL_len _ _); have hsW3 : v2.heap.size ≤ W3.heap.size := hb3.size) | (go_at_call_of 63 (Value.agg #[.int .i64 x2, .int .i64 y2, .slice Bg mg dg, .slice Bo mo do_]); refine (Circuit_table_any x2 y2 Bg mg dg Bo mo do_ hs_ ps X N _ ⟨hs.1.below (hbd.trans (hb3.mono hbd.size)) (Nat.le_refl _), hs.2.below (hbd.trans (hb3.mono hbd.size)) (Nat.le_refl _)⟩ (by omega) (by omega) hXd (by omega) HN.out H7d.out H8d.out (by omega) (by omega)).mono ?_; rintro e W4 hT; obtain ⟨A2, cA2, rfl, hT2, hb4⟩ := hT.open_ (tabL_len _ _); have hsW4 : W3.heap.size ≤ W4.heap.size := hb4.size))
      have hbT := hB2.trans ((bnext (bnext (below_of_drewN 1) hb3) hb4).mono hB2.size)
      have hT1' := hT1.reads.below hb4 (Nat.le_refl _)
      have hT2' := hT2.reads
      clear hT1 hT2 hb3 hb4
      go_wp2_with fail
      go_loopw [46] (fun i wr => ∃ k : Nat, k ≤ N ∧ i = .int .i64 k ∧ Hid (∀ j, j < k → outsN gs os X j = outsN hs_ ps X j) ∧ Below W4.heap.size W4 wr) (fun i _ => N - (intOf i).toNat)
      case atStart => exact ⟨0, Nat.zero_le _, rfl, Lib.hid fun j hj => absurd hj (by omega), Below.refl _ _⟩
      case round =>
        obtain ⟨k, hk, rfl, hq, hb⟩ := hrel
        have hbw := hbT.trans (hb.mono hbT.size)
        by_cases hlt : k < N
        · obtain ⟨b', o', A2, m2, c2', rfl, hbB, e1, hr1⟩ := (hT1'.below hb (Nat.le_refl _)).at_ hlt
          obtain ⟨b3', o3, A3, m3, c3', rfl, hbB3, e2, hr2⟩ := (hT2'.below hb (Nat.le_refl _)).at_ hlt
          rw [gl_tabL hlt] at hr1 hr2
          obtain rfl : m2 = no := by rw [← hr1.len, outsN_len, hlo]
          obtain rfl : m3 = mo := by rw [← hr2.len, outsN_len, hlp]
          clear hT1' hT2'
          cases hs0 : sameB (outsN gs os X k) (outsN hs_ ps X k) with
          | true =>
            have hE : outsN gs os X k = outsN hs_ ps X k := by simpa [sameB] using hs0
            have HS := Lib.hid hs0; clear hs0
            have hq' : Hid (∀ j, j < k + 1 → outsN gs os X j = outsN hs_ ps X j) := Lib.hid fun j hj => by
              rcases Nat.lt_or_ge j k with h | h
              · exact hq.out j h
              · obtain rfl : j = k := Nat.le_antisymm (Nat.le_of_lt_succ hj) h
                exact hE
            clear hE
            go_wp2_with fail
            go_region_held3 (fun w' => w'.cell? ⟨b', o' + k, none⟩ = some (.slice A2 m2 c2') ∧ w'.cell? ⟨b3', o3 + k, none⟩ = some (.slice A3 m3 c3'))
              (first | go_keep | (go_split_ands; exact ⟨cell_below (by assumption) hbE, cell_below (by assumption) hbE⟩) | ((try dsimp only); (repeat' apply And.intro) <;> go_keep))
              (first | (go_at_call 64; refine (Equal_any A2 A3 m2 c2' m3 c3' _ _ _ (hr1.drewN 1) (hr2.drewN 1) (by omega) (by omega)).mono ?_; rintro e W5 ⟨he, j5, rfl⟩; rw [HS.out] at he; obtain rfl := he))
            have hb5 := below_drewN hb (1 + j5)
            clear e1 e2 hr1 hr2 hb
            go_wp2
            go_roundw
            case rel => exact ⟨k + 1, by omega, by go_num, hq', hb5⟩
            case measure => simp [intOf]; omega
          | false =>
            have hE : ¬ outsN gs os X k = outsN hs_ ps X k := by simpa [sameB] using hs0
            have HS := Lib.hid hs0; clear hs0
            have HU2 : Hid (uneqF x y gs os hs_ ps = k) := Lib.hid (HU.out.symm.trans (uneq_some hlt hq.out hE))
            clear hE
            go_wp2_with fail
            go_region_held3 (fun w' => w'.cell? ⟨b', o' + k, none⟩ = some (.slice A2 m2 c2') ∧ w'.cell? ⟨b3', o3 + k, none⟩ = some (.slice A3 m3 c3'))
              (first | go_keep | (go_split_ands; exact ⟨cell_below (by assumption) hbE, cell_below (by assumption) hbE⟩) | ((try dsimp only); (repeat' apply And.intro) <;> go_keep))
              (first | (go_at_call 64; refine (Equal_any A2 A3 m2 c2' m3 c3' _ _ _ (hr1.drewN 1) (hr2.drewN 1) (by omega) (by omega)).mono ?_; rintro e W5 ⟨he, j5, rfl⟩; rw [HS.out] at he; obtain rfl := he))
            go_wp2
            go_ret2
            exact ⟨by rw [HF.out, H0.out, HU2.out]; rfl, below_drewN hbw (1 + j5)⟩
        · obtain rfl : N = k := Nat.le_antisymm (Nat.le_of_not_lt hlt) hk
          have HU2 : Hid (uneqF x y gs os hs_ ps = -1) := Lib.hid (HU.out.symm.trans (uneq_none hq.out))
          go_wp2
          go_ret2
          exact ⟨by rw [HF.out, H0.out, HU2.out]; rfl, hbw⟩
set_option maxHeartbeats 800000 in
theorem AreEqual_any (x y : Int) (Ag : Option Addr) (ng cg : Nat) (Ao : Option Addr) (no co : Nat) (x2 y2 : Int) (Bg : Option Addr) (mg dg : Nat) (Bo : Option Addr) (mo do_ : Nat) (gs : List G3) (os : List Int) (hs_ : List G3) (ps : List Int) (w : World) (hr : RG w Ag ng gs ∧ RI w Ao no os) (hng : ng ≤ 2097152) (hno : no ≤ 2097152) (hs : RG w Bg mg hs_ ∧ RI w Bo mo ps) (hmg : mg ≤ 2097152) (hmo : mo ≤ 2097152) :
    Calls Try.prog 8 #[.agg #[.int .i64 x, .int .i64 y, .slice Ag ng cg, .slice Ao no co], .agg #[.int .i64 x2, .int .i64 y2, .slice Bg mg dg, .slice Bo mo do_]] w fun e w' => e = .returned (.tuple #[.bool (eqV x y gs os x2 y2 hs_ ps), .bool (pairB x y gs os x2 y2 hs_ ps)]) ∧ Below w.heap.size w w' := by
  have hB : Below w.heap.size w ((w.alloc (.cells #[.int .i64 x, .int .i64 y, .slice Ag ng cg, .slice Ao no co] 26)).alloc (.cells #[.int .i64 x2, .int .i64 y2, .slice Bg mg dg, .slice Bo mo do_] 26)) := ((Below.refl _ _).alloc (Nat.le_refl _) _).alloc (by simp) _
  have hlg := hr.1.len
  have hlo := hr.2.len
  have hlh := hs.1.len
  have hlp := hs.2.len
  cases h0 : pairB x y gs os x2 y2 hs_ ps with
  | false =>
    have HE := Lib.hid (eqV_f h0); have HF := Lib.hid (fuV_f h0)
    have H0 := Lib.hid h0; clear h0
    go_enter Try.func8, Try.ntmps8
    go_wp2_with fail
    have q9 := firstUnequal_any x y Ag ng cg Ao no co x2 y2 Bg mg dg Bo mo do_ gs os hs_ ps _ ⟨hr.1.below hB (Nat.le_refl _), hr.2.below hB (Nat.le_refl _)⟩ ⟨hs.1.below hB (Nat.le_refl _), hs.2.below hB (Nat.le_refl _)⟩ hng hno hmg hmo
    refine q9.mono ?_
    clear q9
    rintro e v1 ⟨rfl, hb1⟩
    rw [H0.out, HF.out]
    have hB1 := hB.trans (hb1.mono hB.size)
    go_wp2
    go_ret2
    exact ⟨by rw [HE.out]; rfl, hB1⟩
  | true =>
    have HE := Lib.hid (eqV_t h0); have HF := Lib.hid (fuV_t h0)
    have H0 := Lib.hid h0; clear h0
    go_enter Try.func8, Try.ntmps8
    go_wp2_with fail
    have q9 := firstUnequal_any x y Ag ng cg Ao no co x2 y2 Bg mg dg Bo mo do_ gs os hs_ ps _ ⟨hr.1.below hB (Nat.le_refl _), hr.2.below hB (Nat.le_refl _)⟩ ⟨hs.1.below hB (Nat.le_refl _), hs.2.below hB (Nat.le_refl _)⟩ hng hno hmg hmo
    refine q9.mono ?_
    clear q9
    rintro e v1 ⟨rfl, hb1⟩
    rw [H0.out, HF.out]
    have hB1 := hB.trans (hb1.mono hB.size)
    go_wp2
    go_ret2
    exact ⟨by rw [HE.out]; rfl, hB1⟩
set_option maxHeartbeats 800000 in
theorem FirstUnequal_any (x y : Int) (Ag : Option Addr) (ng cg : Nat) (Ao : Option Addr) (no co : Nat) (x2 y2 : Int) (Bg : Option Addr) (mg dg : Nat) (Bo : Option Addr) (mo do_ : Nat) (gs : List G3) (os : List Int) (hs_ : List G3) (ps : List Int) (w : World) (hr : RG w Ag ng gs ∧ RI w Ao no os) (hng : ng ≤ 2097152) (hno : no ≤ 2097152) (hs : RG w Bg mg hs_ ∧ RI w Bo mo ps) (hmg : mg ≤ 2097152) (hmo : mo ≤ 2097152) :
    Calls Try.prog 10 #[.agg #[.int .i64 x, .int .i64 y, .slice Ag ng cg, .slice Ao no co], .agg #[.int .i64 x2, .int .i64 y2, .slice Bg mg dg, .slice Bo mo do_]] w (RetZO w (firstF x y gs os x2 y2 hs_ ps)) := by
  have hB : Below w.heap.size w ((w.alloc (.cells #[.int .i64 x, .int .i64 y, .slice Ag ng cg, .slice Ao no co] 26)).alloc (.cells #[.int .i64 x2, .int .i64 y2, .slice Bg mg dg, .slice Bo mo do_] 26)) := ((Below.refl _ _).alloc (Nat.le_refl _) _).alloc (by simp) _
  have hlg := hr.1.len
  have hlo := hr.2.len
  have hlh := hs.1.len
  have hlp := hs.2.len
  cases h0 : pairB x y gs os x2 y2 hs_ ps with
  | false =>
    have HR : Hid (firstF x y gs os x2 y2 hs_ ps = none) := Lib.hid (firstF_pair h0)
    have HF := Lib.hid (fuV_f h0)
    have H0 := Lib.hid h0; clear h0
    go_enter Try.func10, Try.ntmps10
    go_wp2_with fail
    have q9 := firstUnequal_any x y Ag ng cg Ao no co x2 y2 Bg mg dg Bo mo do_ gs os hs_ ps _ ⟨hr.1.below hB (Nat.le_refl _), hr.2.below hB (Nat.le_refl _)⟩ ⟨hs.1.below hB (Nat.le_refl _), hs.2.below hB (Nat.le_refl _)⟩ hng hno hmg hmo
    refine q9.mono ?_
    clear q9
    rintro e v1 ⟨rfl, hb1⟩
    rw [H0.out, HF.out]
    have hB1 := hB.trans (hb1.mono hB.size)
    go_wp2
    go_ret2
    exact RetZO.none_ hB1 HR.out rfl
  | true =>
    by_cases hn : uneqF x y gs os hs_ ps < 0
    · have HR : Hid (firstF x y gs os x2 y2 hs_ ps = none) := Lib.hid (firstF_none hn)
      have HF := Lib.hid (fuV_t h0)
      have H0 := Lib.hid h0; clear h0
      go_enter Try.func10, Try.ntmps10
      go_wp2_with fail
      have q9 := firstUnequal_any x y Ag ng cg Ao no co x2 y2 Bg mg dg Bo mo do_ gs os hs_ ps _ ⟨hr.1.below hB (Nat.le_refl _), hr.2.below hB (Nat.le_refl _)⟩ ⟨hs.1.below hB (Nat.le_refl _), hs.2.below hB (Nat.le_refl _)⟩ hng hno hmg hmo
      refine q9.mono ?_
      clear q9
      rintro e v1 ⟨rfl, hb1⟩
      rw [H0.out, HF.out]
      have hB1 := hB.trans (hb1.mono hB.size)
      go_wp2
      go_ret2
      exact RetZO.none_ hB1 HR.out rfl
    · have HR : Hid (firstF x y gs os x2 y2 hs_ ps = some (uneqF x y gs os hs_ ps)) := Lib.hid (firstF_some h0 hn)
      have HF := Lib.hid (fuV_t h0)
      have H0 := Lib.hid h0; clear h0
      go_enter Try.func10, Try.ntmps10
      go_wp2_with fail
      have q9 := firstUnequal_any x y Ag ng cg Ao no co x2 y2 Bg mg dg Bo mo do_ gs os hs_ ps _ ⟨hr.1.below hB (Nat.le_refl _), hr.2.below hB (Nat.le_refl _)⟩ ⟨hs.1.below hB (Nat.le_refl _), hs.2.below hB (Nat.le_refl _)⟩ hng hno hmg hmo
      refine q9.mono ?_
      clear q9
      rintro e v1 ⟨rfl, hb1⟩
      rw [H0.out, HF.out]
      have hB1 := hB.trans (hb1.mono hB.size)
      go_wp2
      go_ret2
      exact RetZO.some_ hB1 HR.out rfl
end Go.Proofs.Ytikgagjoapggnaa
