/- The walk of the law FnExactRunCompiled: whatever its arguments read as, it returns true and leaves what was there. No condition. -/
import Derived.Test.YtjjphaiomaiilaaGreatQA
import Derived.Test.YtjjphaiomaiilaaGreatQXFs3
namespace Go.Proofs.YtjjphaiomaiilaaGreat.lawRunCompiled
open Go.RowKit
set_option linter.unusedVariables false
set_option linter.unusedSimpArgs false
set_option maxRecDepth 100000 in
set_option maxHeartbeats 8000000 in
theorem walk (a0 : Option Addr) (n0 c0 : Nat) (x0 : List Ln) (a1 : Option Addr) (n1 c1 : Nat) (x1 : List Int) (a2 : Option Addr) (n2 c2 : Nat) (x2 : List Int) (w : World) (h0 : RLn w a0 n0 x0 ∧ n0 ≤ maxLen ∧ ∀ s ∈ x0, bigL s) (h1 : RI w a1 n1 x1) (h2 : RI w a2 n2 x2) :
    Calls Tryz.prog 10 #[.slice a0 n0 c0, .slice a1 n1 c1, .slice a2 n2 c2] w fun e w' => e = .returned (.bool true) ∧ Below w.heap.size w w' := by
  obtain ⟨h0, hN0, hL0⟩ := h0
  by_cases s1 : n1 ≤ 1048576
  rotate_left
  · have s1' : (1048576 : Int) < (n1 : Int) := by omega
    go_enter Tryz.func10, Tryz.ntmps10
    go_wp2
    go_ret
    exact ⟨rfl, (Below.refl _ _)⟩
  by_cases s2 : n2 ≤ 1048576
  rotate_left
  · have s2' : (1048576 : Int) < (n2 : Int) := by omega
    go_enter Tryz.func10, Tryz.ntmps10
    go_wp2
    go_ret
    exact ⟨rfl, (Below.refl _ _)⟩
  have l0 := h0.len
  have l1 := h1.len
  have l2 := h2.len
  by_cases t0 : (szLs 1048576 x0) < 0
  · skip
    go_enter Tryz.func10, Tryz.ntmps10
    go_wp2_with fail
    refine (szLineS_any a0 n0 c0 x0 1048576 _ h0 (by omega) hN0 hL0).mono ?_
    rintro e w1 ⟨rfl, b1⟩
    have z1 := b1.size
    have B1 := b1; clear b1
    go_wp2
    go_ret
    exact ⟨rfl, B1⟩
  have tz0 := szLs_bd (left := 1048576) (l := x0) (by omega) (by omega); obtain ⟨ta0, hsh0⟩ := tz0.2.2 (by omega); have htp0 := szLs_parts (left := 1048576) (l := x0) (by omega) (by omega) (by omega)
  have hzl0 := rcF_len x0 x1 x2
  go_enter Tryz.func10, Tryz.ntmps10
  go_wp2_with fail
  refine (szLineS_any a0 n0 c0 x0 1048576 _ h0 (by omega) hN0 hL0).mono ?_
  rintro e w1 ⟨rfl, b1⟩
  have z1 := b1.size
  have B1 := b1; clear b1
  go_wp2_with fail
  refine (toLineS_any _ _ _ x0 _ (h0.below B1 (Nat.le_refl _)) (by omega) hsh0).mono ?_
  rintro e w2 ⟨Tt1x0, rfl, ft1x0_2, b2⟩
  have z2 := b2.size
  have B2 := B1.trans (b2.mono B1.size); clear b2 B1
  go_wp2_with fail
  refine (toIntS_any _ _ _ x1 _ (h1.below B2 (Nat.le_refl _)) (by omega)).mono ?_
  rintro e w3 ⟨Tt2x1, rfl, ft2x1_3, b3⟩
  have ft1x0_3 := ft1x0_2.below b3 (.inl (Nat.le_refl _)); clear ft1x0_2
  have z3 := b3.size
  have B3 := B2.trans (b3.mono B2.size); clear b3 B2
  go_wp2_with fail
  refine (toIntS_any _ _ _ x2 _ (h2.below B3 (Nat.le_refl _)) (by omega)).mono ?_
  rintro e w4 ⟨Tt3x2, rfl, ft3x2_4, b4⟩
  have ft1x0_4 := ft1x0_3.below b4 (.inl (Nat.le_refl _)); clear ft1x0_3
  have ft2x1_4 := ft2x1_3.below b4 (.inl (Nat.le_refl _)); clear ft2x1_3
  have z4 := b4.size
  have B4 := B3.trans (b4.mono B3.size); clear b4 B3
  go_wp2_with fail
  refine (spec_RunCompiled_any _ _ _ _ _ _ _ _ _ x0 x1 x2 _ ft1x0_4.reads (by omega) (Nat.le_refl _) hsh0 ft2x1_4.reads (by omega) ft3x2_4.reads (by omega) ).mono ?_
  rintro e w5 ⟨Aw0, Cw0, rfl, fw0_5, b5⟩
  have ft1x0_5 := ft1x0_4.below b5 (.inl (Nat.le_refl _)); clear ft1x0_4
  have ft2x1_5 := ft2x1_4.below b5 (.inl (Nat.le_refl _)); clear ft2x1_4
  have ft3x2_5 := ft3x2_4.below b5 (.inl (Nat.le_refl _)); clear ft3x2_4
  have z5 := b5.size
  have B5 := B4.trans (b5.mono B4.size); clear b5 B4
  clear ft1x0_5
  clear ft2x1_5
  clear ft3x2_5
  go_wp2_with fail
  refine (toLineS_any _ _ _ x0 _ (h0.below B5 (Nat.le_refl _)) (by omega) hsh0).mono ?_
  rintro e w6 ⟨Tx0, rfl, fx0_6, b6⟩
  have fw0_6 := fw0_5.below b6 (.inl (Nat.le_refl _)); clear fw0_5
  have z6 := b6.size
  have B6 := B5.trans (b6.mono B5.size); clear b6 B5
  go_wp2_with fail
  refine (toIntS_any _ _ _ x1 _ (h1.below B6 (Nat.le_refl _)) (by omega)).mono ?_
  rintro e w7 ⟨Tx1, rfl, fx1_7, b7⟩
  have fw0_7 := fw0_6.below b7 (.inl (Nat.le_refl _)); clear fw0_6
  have fx0_7 := fx0_6.below b7 (.inl (Nat.le_refl _)); clear fx0_6
  have z7 := b7.size
  have B7 := B6.trans (b7.mono B6.size); clear b7 B6
  go_wp2_with fail
  refine (toIntS_any _ _ _ x2 _ (h2.below B7 (Nat.le_refl _)) (by omega)).mono ?_
  rintro e w8 ⟨Tx2, rfl, fx2_8, b8⟩
  have fw0_8 := fw0_7.below b8 (.inl (Nat.le_refl _)); clear fw0_7
  have fx0_8 := fx0_7.below b8 (.inl (Nat.le_refl _)); clear fx0_7
  have fx1_8 := fx1_7.below b8 (.inl (Nat.le_refl _)); clear fx1_7
  have z8 := b8.size
  have B8 := B7.trans (b8.mono B7.size); clear b8 B7
  go_wp2_with fail
  refine (RunCompiled_any _ _ _ _ _ _ _ _ _ x0 x1 x2 _ fx0_8.reads (by omega) (Nat.le_refl _) hsh0 fx1_8.reads (by omega) fx2_8.reads (by omega) ).mono ?_
  rintro e w9 ⟨Ag0, Cg0, rfl, fg0_9, b9⟩
  have fw0_9 := fw0_8.below b9 (.inl (Nat.le_refl _)); clear fw0_8
  have fx0_9 := fx0_8.below b9 (.inl (Nat.le_refl _)); clear fx0_8
  have fx1_9 := fx1_8.below b9 (.inl (Nat.le_refl _)); clear fx1_8
  have fx2_9 := fx2_8.below b9 (.inl (Nat.le_refl _)); clear fx2_8
  have z9 := b9.size
  have B9 := B8.trans (b9.mono B8.size); clear b9 B8
  go_wp2_with fail
  refine (eqIntS_b _ _ _ _ _ _ _ fg0_9.reads fw0_9.reads (by omega)).mono ?_
  rintro e w10 ⟨rfl, b10⟩
  have fw0_10 := fw0_9.below b10 (.inl (Nat.le_refl _)); clear fw0_9
  have fx0_10 := fx0_9.below b10 (.inl (Nat.le_refl _)); clear fx0_9
  have fx1_10 := fx1_9.below b10 (.inl (Nat.le_refl _)); clear fx1_9
  have fx2_10 := fx2_9.below b10 (.inl (Nat.le_refl _)); clear fx2_9
  have fg0_10 := fg0_9.below b10 (.inl (Nat.le_refl _)); clear fg0_9
  have z10 := b10.size
  have B10 := B9.trans (b10.mono B9.size); clear b10 B9
  go_wp2_with fail
  refine (toLineS_any _ _ _ x0 _ (h0.below B10 (Nat.le_refl _)) (by omega) hsh0).mono ?_
  rintro e w11 ⟨Ty10, rfl, fy10_11, b11⟩
  have fw0_11 := fw0_10.below b11 (.inl (Nat.le_refl _)); clear fw0_10
  have fx0_11 := fx0_10.below b11 (.inl (Nat.le_refl _)); clear fx0_10
  have fx1_11 := fx1_10.below b11 (.inl (Nat.le_refl _)); clear fx1_10
  have fx2_11 := fx2_10.below b11 (.inl (Nat.le_refl _)); clear fx2_10
  have fg0_11 := fg0_10.below b11 (.inl (Nat.le_refl _)); clear fg0_10
  have z11 := b11.size
  have B11 := B10.trans (b11.mono B10.size); clear b11 B10
  go_wp2_with fail
  refine (eqLineS_b _ _ _ _ _ _ _ fx0_11.reads fy10_11.reads (by omega) hsh0).mono ?_
  rintro e w12 ⟨rfl, b12⟩
  have fw0_12 := fw0_11.below b12 (.inl (Nat.le_refl _)); clear fw0_11
  have fx0_12 := fx0_11.below b12 (.inl (Nat.le_refl _)); clear fx0_11
  have fx1_12 := fx1_11.below b12 (.inl (Nat.le_refl _)); clear fx1_11
  have fx2_12 := fx2_11.below b12 (.inl (Nat.le_refl _)); clear fx2_11
  have fg0_12 := fg0_11.below b12 (.inl (Nat.le_refl _)); clear fg0_11
  have fy10_12 := fy10_11.below b12 (.inl (Nat.le_refl _)); clear fy10_11
  have z12 := b12.size
  have B12 := B11.trans (b12.mono B11.size); clear b12 B11
  clear fy10_12
  go_wp2_with fail
  refine (toIntS_any _ _ _ x1 _ (h1.below B12 (Nat.le_refl _)) (by omega)).mono ?_
  rintro e w13 ⟨Ty12, rfl, fy12_13, b13⟩
  have fw0_13 := fw0_12.below b13 (.inl (Nat.le_refl _)); clear fw0_12
  have fx0_13 := fx0_12.below b13 (.inl (Nat.le_refl _)); clear fx0_12
  have fx1_13 := fx1_12.below b13 (.inl (Nat.le_refl _)); clear fx1_12
  have fx2_13 := fx2_12.below b13 (.inl (Nat.le_refl _)); clear fx2_12
  have fg0_13 := fg0_12.below b13 (.inl (Nat.le_refl _)); clear fg0_12
  have z13 := b13.size
  have B13 := B12.trans (b13.mono B12.size); clear b13 B12
  go_wp2_with fail
  refine (eqIntS_b _ _ _ _ _ _ _ fx1_13.reads fy12_13.reads (by omega)).mono ?_
  rintro e w14 ⟨rfl, b14⟩
  have fw0_14 := fw0_13.below b14 (.inl (Nat.le_refl _)); clear fw0_13
  have fx0_14 := fx0_13.below b14 (.inl (Nat.le_refl _)); clear fx0_13
  have fx1_14 := fx1_13.below b14 (.inl (Nat.le_refl _)); clear fx1_13
  have fx2_14 := fx2_13.below b14 (.inl (Nat.le_refl _)); clear fx2_13
  have fg0_14 := fg0_13.below b14 (.inl (Nat.le_refl _)); clear fg0_13
  have fy12_14 := fy12_13.below b14 (.inl (Nat.le_refl _)); clear fy12_13
  have z14 := b14.size
  have B14 := B13.trans (b14.mono B13.size); clear b14 B13
  clear fy12_14
  go_wp2_with fail
  refine (toIntS_any _ _ _ x2 _ (h2.below B14 (Nat.le_refl _)) (by omega)).mono ?_
  rintro e w15 ⟨Ty14, rfl, fy14_15, b15⟩
  have fw0_15 := fw0_14.below b15 (.inl (Nat.le_refl _)); clear fw0_14
  have fx0_15 := fx0_14.below b15 (.inl (Nat.le_refl _)); clear fx0_14
  have fx1_15 := fx1_14.below b15 (.inl (Nat.le_refl _)); clear fx1_14
  have fx2_15 := fx2_14.below b15 (.inl (Nat.le_refl _)); clear fx2_14
  have fg0_15 := fg0_14.below b15 (.inl (Nat.le_refl _)); clear fg0_14
  have z15 := b15.size
  have B15 := B14.trans (b15.mono B14.size); clear b15 B14
  go_wp2_with fail
  refine (eqIntS_b _ _ _ _ _ _ _ fx2_15.reads fy14_15.reads (by omega)).mono ?_
  rintro e w16 ⟨rfl, b16⟩
  have fw0_16 := fw0_15.below b16 (.inl (Nat.le_refl _)); clear fw0_15
  have fx0_16 := fx0_15.below b16 (.inl (Nat.le_refl _)); clear fx0_15
  have fx1_16 := fx1_15.below b16 (.inl (Nat.le_refl _)); clear fx1_15
  have fx2_16 := fx2_15.below b16 (.inl (Nat.le_refl _)); clear fx2_15
  have fg0_16 := fg0_15.below b16 (.inl (Nat.le_refl _)); clear fg0_15
  have fy14_16 := fy14_15.below b16 (.inl (Nat.le_refl _)); clear fy14_15
  have z16 := b16.size
  have B16 := B15.trans (b16.mono B15.size); clear b16 B15
  clear fy14_16
  go_wp2_with fail
  refine (markLineS_c _ _ _ _ _ _ _ _ fx0_16 (by omega) hsh0 htp0 (by omega) (by omega)).mono ?_
  rintro e w17 ⟨rfl, g17⟩
  have fw0_17 := fw0_16.chg g17 (.inl (by omega)); clear fw0_16
  have fx1_17 := fx1_16.chg g17 (.inr (by omega)); clear fx1_16
  have fx2_17 := fx2_16.chg g17 (.inr (by omega)); clear fx2_16
  have fg0_17 := fg0_16.chg g17 (.inr (by omega)); clear fg0_16
  have z17 := g17.size
  have B17 := g17.below_ B16 (by omega) B16.size; clear B16 fx0_16 g17
  go_wp2_with fail
  refine (markIntS_c _ _ _ _ _ _ _ _ fx1_17 (by omega) (by omega) (by omega)).mono ?_
  rintro e w18 ⟨rfl, fx1_18, g18⟩
  have fw0_18 := fw0_17.chg g18 (.inl (by omega)); clear fw0_17
  have fx2_18 := fx2_17.chg g18 (.inr (by omega)); clear fx2_17
  have fg0_18 := fg0_17.chg g18 (.inr (by omega)); clear fg0_17
  have z18 := g18.size
  have B18 := g18.below_ B17 (by omega) B17.size; clear B17 fx1_17 g18
  go_wp2_with fail
  refine (markIntS_c _ _ _ _ _ _ _ _ fx2_18 (by omega) (by omega) (by omega)).mono ?_
  rintro e w19 ⟨rfl, fx2_19, g19⟩
  have fw0_19 := fw0_18.chg g19 (.inl (by omega)); clear fw0_18
  have fx1_19 := fx1_18.chg g19 (.inl (by omega)); clear fx1_18
  have fg0_19 := fg0_18.chg g19 (.inr (by omega)); clear fg0_18
  have z19 := g19.size
  have B19 := g19.below_ B18 (by omega) B18.size; clear B18 fx2_18 g19
  go_wp2_with fail
  refine (eqIntS_b _ _ _ _ _ _ _ fg0_19.reads fw0_19.reads (by omega)).mono ?_
  rintro e w20 ⟨rfl, b20⟩
  have fw0_20 := fw0_19.below b20 (.inl (Nat.le_refl _)); clear fw0_19
  have fx1_20 := fx1_19.below b20 (.inl (Nat.le_refl _)); clear fx1_19
  have fx2_20 := fx2_19.below b20 (.inl (Nat.le_refl _)); clear fx2_19
  have fg0_20 := fg0_19.below b20 (.inl (Nat.le_refl _)); clear fg0_19
  have z20 := b20.size
  have B20 := B19.trans (b20.mono B19.size); clear b20 B19
  go_wp2_with fail
  refine (markIntS_c _ _ _ _ _ _ _ _ fg0_20 (by omega) (by omega) (by omega)).mono ?_
  rintro e w21 ⟨rfl, fg0_21, g21⟩
  have fw0_21 := fw0_20.chg g21 (.inl (by omega)); clear fw0_20
  have fx1_21 := fx1_20.chg g21 (.inl (by omega)); clear fx1_20
  have fx2_21 := fx2_20.chg g21 (.inl (by omega)); clear fx2_20
  have z21 := g21.size
  have B21 := g21.below_ B20 (by omega) B20.size; clear B20 fg0_20 g21
  go_wp2_with fail
  refine (heldIntS_b _ _ _ _ _ fg0_21.reads (by omega) (by omega) (by omega)).mono ?_
  rintro e w22 ⟨rfl, b22⟩
  have fw0_22 := fw0_21.below b22 (.inl (Nat.le_refl _)); clear fw0_21
  have fx1_22 := fx1_21.below b22 (.inl (Nat.le_refl _)); clear fx1_21
  have fx2_22 := fx2_21.below b22 (.inl (Nat.le_refl _)); clear fx2_21
  have fg0_22 := fg0_21.below b22 (.inl (Nat.le_refl _)); clear fg0_21
  have z22 := b22.size
  have B22 := B21.trans (b22.mono B21.size); clear b22 B21
  go_wp2_with fail
  refine (toLineS_any _ _ _ x0 _ (h0.below B22 (Nat.le_refl _)) (by omega) hsh0).mono ?_
  rintro e w23 ⟨Tt22x0, rfl, ft22x0_23, b23⟩
  have fw0_23 := fw0_22.below b23 (.inl (Nat.le_refl _)); clear fw0_22
  have fx1_23 := fx1_22.below b23 (.inl (Nat.le_refl _)); clear fx1_22
  have fx2_23 := fx2_22.below b23 (.inl (Nat.le_refl _)); clear fx2_22
  have fg0_23 := fg0_22.below b23 (.inl (Nat.le_refl _)); clear fg0_22
  have z23 := b23.size
  have B23 := B22.trans (b23.mono B22.size); clear b23 B22
  go_wp2_with fail
  refine (toIntS_any _ _ _ x1 _ (h1.below B23 (Nat.le_refl _)) (by omega)).mono ?_
  rintro e w24 ⟨Tt23x1, rfl, ft23x1_24, b24⟩
  have fw0_24 := fw0_23.below b24 (.inl (Nat.le_refl _)); clear fw0_23
  have fx1_24 := fx1_23.below b24 (.inl (Nat.le_refl _)); clear fx1_23
  have fx2_24 := fx2_23.below b24 (.inl (Nat.le_refl _)); clear fx2_23
  have fg0_24 := fg0_23.below b24 (.inl (Nat.le_refl _)); clear fg0_23
  have ft22x0_24 := ft22x0_23.below b24 (.inl (Nat.le_refl _)); clear ft22x0_23
  have z24 := b24.size
  have B24 := B23.trans (b24.mono B23.size); clear b24 B23
  go_wp2_with fail
  refine (toIntS_any _ _ _ x2 _ (h2.below B24 (Nat.le_refl _)) (by omega)).mono ?_
  rintro e w25 ⟨Tt24x2, rfl, ft24x2_25, b25⟩
  have fw0_25 := fw0_24.below b25 (.inl (Nat.le_refl _)); clear fw0_24
  have fx1_25 := fx1_24.below b25 (.inl (Nat.le_refl _)); clear fx1_24
  have fx2_25 := fx2_24.below b25 (.inl (Nat.le_refl _)); clear fx2_24
  have fg0_25 := fg0_24.below b25 (.inl (Nat.le_refl _)); clear fg0_24
  have ft22x0_25 := ft22x0_24.below b25 (.inl (Nat.le_refl _)); clear ft22x0_24
  have ft23x1_25 := ft23x1_24.below b25 (.inl (Nat.le_refl _)); clear ft23x1_24
  have z25 := b25.size
  have B25 := B24.trans (b25.mono B24.size); clear b25 B24
  go_wp2_with fail
  refine (RunCompiled_any _ _ _ _ _ _ _ _ _ x0 x1 x2 _ ft22x0_25.reads (by omega) (Nat.le_refl _) hsh0 ft23x1_25.reads (by omega) ft24x2_25.reads (by omega) ).mono ?_
  rintro e w26 ⟨Ah0, Ch0, rfl, fh0_26, b26⟩
  have fw0_26 := fw0_25.below b26 (.inl (Nat.le_refl _)); clear fw0_25
  have fx1_26 := fx1_25.below b26 (.inl (Nat.le_refl _)); clear fx1_25
  have fx2_26 := fx2_25.below b26 (.inl (Nat.le_refl _)); clear fx2_25
  have fg0_26 := fg0_25.below b26 (.inl (Nat.le_refl _)); clear fg0_25
  have ft22x0_26 := ft22x0_25.below b26 (.inl (Nat.le_refl _)); clear ft22x0_25
  have ft23x1_26 := ft23x1_25.below b26 (.inl (Nat.le_refl _)); clear ft23x1_25
  have ft24x2_26 := ft24x2_25.below b26 (.inl (Nat.le_refl _)); clear ft24x2_25
  have z26 := b26.size
  have B26 := B25.trans (b26.mono B25.size); clear b26 B25
  clear ft22x0_26
  clear ft23x1_26
  clear ft24x2_26
  go_wp2_with fail
  refine (eqIntS_b _ _ _ _ _ _ _ fh0_26.reads fw0_26.reads (by omega)).mono ?_
  rintro e w27 ⟨rfl, b27⟩
  have fw0_27 := fw0_26.below b27 (.inl (Nat.le_refl _)); clear fw0_26
  have fx1_27 := fx1_26.below b27 (.inl (Nat.le_refl _)); clear fx1_26
  have fx2_27 := fx2_26.below b27 (.inl (Nat.le_refl _)); clear fx2_26
  have fg0_27 := fg0_26.below b27 (.inl (Nat.le_refl _)); clear fg0_26
  have fh0_27 := fh0_26.below b27 (.inl (Nat.le_refl _)); clear fh0_26
  have z27 := b27.size
  have B27 := B26.trans (b27.mono B26.size); clear b27 B26
  go_wp2_with fail
  refine (heldIntS_b _ _ _ _ _ fg0_27.reads (by omega) (by omega) (by omega)).mono ?_
  rintro e w28 ⟨rfl, b28⟩
  have fw0_28 := fw0_27.below b28 (.inl (Nat.le_refl _)); clear fw0_27
  have fx1_28 := fx1_27.below b28 (.inl (Nat.le_refl _)); clear fx1_27
  have fx2_28 := fx2_27.below b28 (.inl (Nat.le_refl _)); clear fx2_27
  have fg0_28 := fg0_27.below b28 (.inl (Nat.le_refl _)); clear fg0_27
  have fh0_28 := fh0_27.below b28 (.inl (Nat.le_refl _)); clear fh0_27
  have z28 := b28.size
  have B28 := B27.trans (b28.mono B27.size); clear b28 B27
  go_wp2
  go_ret
  exact ⟨rfl, B28⟩
end Go.Proofs.YtjjphaiomaiilaaGreat.lawRunCompiled
