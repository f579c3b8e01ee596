/- The walk of the law FnExactCountInputsFor: whatever its arguments read as, it returns true and leaves what was there. No condition. -/
import Derived.Test.YtjjphaiomaiilaaGreatQA
import Derived.Test.YtjjphaiomaiilaaGreatQXFs4
namespace Go.Proofs.YtjjphaiomaiilaaGreat.lawCountInputsFor
open Go.RowKit
set_option linter.unusedVariables false
set_option linter.unusedSimpArgs false
set_option maxRecDepth 100000 in
set_option maxHeartbeats 8000000 in
theorem walk (a0 : Option Addr) (n0 c0 : Nat) (x0 : List Ln) (a1 : Option Addr) (n1 c1 : Nat) (x1 : List Int) (w : World) (h0 : RLn w a0 n0 x0 ∧ n0 ≤ maxLen ∧ ∀ s ∈ x0, bigL s) (h1 : RI w a1 n1 x1) :
    Calls Tryz.prog 9 #[.slice a0 n0 c0, .slice a1 n1 c1] w fun e w' => e = .returned (.bool true) ∧ Below w.heap.size w w' := by
  obtain ⟨h0, hN0, hL0⟩ := h0
  by_cases s1 : n1 ≤ 1048576
  rotate_left
  · have s1' : (1048576 : Int) < (n1 : Int) := by omega
    go_enter Tryz.func9, Tryz.ntmps9
    go_wp2
    go_ret
    exact ⟨rfl, (Below.refl _ _)⟩
  have l0 := h0.len
  have l1 := h1.len
  by_cases t0 : (szLs 1048576 x0) < 0
  · skip
    go_enter Tryz.func9, Tryz.ntmps9
    go_wp2_with fail
    refine (szLineS_any a0 n0 c0 x0 1048576 _ h0 (by omega) hN0 hL0).mono ?_
    rintro e w1 ⟨rfl, b1⟩
    have z1 := b1.size
    have B1 := b1; clear b1
    go_wp2
    go_ret
    exact ⟨rfl, B1⟩
  have tz0 := szLs_bd (left := 1048576) (l := x0) (by omega) (by omega); obtain ⟨ta0, hsh0⟩ := tz0.2.2 (by omega); have htp0 := szLs_parts (left := 1048576) (l := x0) (by omega) (by omega) (by omega)
  go_enter Tryz.func9, Tryz.ntmps9
  go_wp2_with fail
  refine (szLineS_any a0 n0 c0 x0 1048576 _ h0 (by omega) hN0 hL0).mono ?_
  rintro e w1 ⟨rfl, b1⟩
  have z1 := b1.size
  have B1 := b1; clear b1
  go_wp2_with fail
  refine (toLineS_any _ _ _ x0 _ (h0.below B1 (Nat.le_refl _)) (by omega) hsh0).mono ?_
  rintro e w2 ⟨Tt1x0, rfl, ft1x0_2, b2⟩
  have z2 := b2.size
  have B2 := B1.trans (b2.mono B1.size); clear b2 B1
  go_wp2_with fail
  refine (toIntS_any _ _ _ x1 _ (h1.below B2 (Nat.le_refl _)) (by omega)).mono ?_
  rintro e w3 ⟨Tt2x1, rfl, ft2x1_3, b3⟩
  have ft1x0_3 := ft1x0_2.below b3 (.inl (Nat.le_refl _)); clear ft1x0_2
  have z3 := b3.size
  have B3 := B2.trans (b3.mono B2.size); clear b3 B2
  go_wp2_with fail
  refine (spec_CountInputsFor_any _ _ _ _ _ _ x0 x1 _ ft1x0_3.reads (by omega) (Nat.le_refl _) hsh0 ft2x1_3.reads (by omega) ).mono ?_
  rintro e w4 ⟨rfl, b4⟩
  have ft1x0_4 := ft1x0_3.below b4 (.inl (Nat.le_refl _)); clear ft1x0_3
  have ft2x1_4 := ft2x1_3.below b4 (.inl (Nat.le_refl _)); clear ft2x1_3
  have z4 := b4.size
  have B4 := B3.trans (b4.mono B3.size); clear b4 B3
  clear ft1x0_4
  clear ft2x1_4
  go_wp2_with fail
  refine (toLineS_any _ _ _ x0 _ (h0.below B4 (Nat.le_refl _)) (by omega) hsh0).mono ?_
  rintro e w5 ⟨Tx0, rfl, fx0_5, b5⟩
  have z5 := b5.size
  have B5 := B4.trans (b5.mono B4.size); clear b5 B4
  go_wp2_with fail
  refine (toIntS_any _ _ _ x1 _ (h1.below B5 (Nat.le_refl _)) (by omega)).mono ?_
  rintro e w6 ⟨Tx1, rfl, fx1_6, b6⟩
  have fx0_6 := fx0_5.below b6 (.inl (Nat.le_refl _)); clear fx0_5
  have z6 := b6.size
  have B6 := B5.trans (b6.mono B5.size); clear b6 B5
  go_wp2_with fail
  refine (CountInputsFor_any _ _ _ _ _ _ x0 x1 _ fx0_6.reads (by omega) (Nat.le_refl _) hsh0 fx1_6.reads (by omega) ).mono ?_
  rintro e w7 ⟨rfl, b7⟩
  have fx0_7 := fx0_6.below b7 (.inl (Nat.le_refl _)); clear fx0_6
  have fx1_7 := fx1_6.below b7 (.inl (Nat.le_refl _)); clear fx1_6
  have z7 := b7.size
  have B7 := B6.trans (b7.mono B6.size); clear b7 B6
  go_wp2_with fail
  refine (toLineS_any _ _ _ x0 _ (h0.below B7 (Nat.le_refl _)) (by omega) hsh0).mono ?_
  rintro e w8 ⟨Ty7, rfl, fy7_8, b8⟩
  have fx0_8 := fx0_7.below b8 (.inl (Nat.le_refl _)); clear fx0_7
  have fx1_8 := fx1_7.below b8 (.inl (Nat.le_refl _)); clear fx1_7
  have z8 := b8.size
  have B8 := B7.trans (b8.mono B7.size); clear b8 B7
  go_wp2_with fail
  refine (eqLineS_b _ _ _ _ _ _ _ fx0_8.reads fy7_8.reads (by omega) hsh0).mono ?_
  rintro e w9 ⟨rfl, b9⟩
  have fx0_9 := fx0_8.below b9 (.inl (Nat.le_refl _)); clear fx0_8
  have fx1_9 := fx1_8.below b9 (.inl (Nat.le_refl _)); clear fx1_8
  have fy7_9 := fy7_8.below b9 (.inl (Nat.le_refl _)); clear fy7_8
  have z9 := b9.size
  have B9 := B8.trans (b9.mono B8.size); clear b9 B8
  clear fy7_9
  go_wp2_with fail
  refine (toIntS_any _ _ _ x1 _ (h1.below B9 (Nat.le_refl _)) (by omega)).mono ?_
  rintro e w10 ⟨Ty9, rfl, fy9_10, b10⟩
  have fx0_10 := fx0_9.below b10 (.inl (Nat.le_refl _)); clear fx0_9
  have fx1_10 := fx1_9.below b10 (.inl (Nat.le_refl _)); clear fx1_9
  have z10 := b10.size
  have B10 := B9.trans (b10.mono B9.size); clear b10 B9
  go_wp2_with fail
  refine (eqIntS_b _ _ _ _ _ _ _ fx1_10.reads fy9_10.reads (by omega)).mono ?_
  rintro e w11 ⟨rfl, b11⟩
  have fx0_11 := fx0_10.below b11 (.inl (Nat.le_refl _)); clear fx0_10
  have fx1_11 := fx1_10.below b11 (.inl (Nat.le_refl _)); clear fx1_10
  have fy9_11 := fy9_10.below b11 (.inl (Nat.le_refl _)); clear fy9_10
  have z11 := b11.size
  have B11 := B10.trans (b11.mono B10.size); clear b11 B10
  clear fy9_11
  go_wp2
  go_ret
  exact ⟨rfl, B11⟩
end Go.Proofs.YtjjphaiomaiilaaGreat.lawCountInputsFor
