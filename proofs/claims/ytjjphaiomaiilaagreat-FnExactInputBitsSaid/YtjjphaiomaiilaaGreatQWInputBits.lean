/- The walk of the law FnExactInputBits: whatever its arguments read as, it returns true and leaves what was there. No condition. -/
import Derived.Test.YtjjphaiomaiilaaGreatQA
import Derived.Test.YtjjphaiomaiilaaGreatQXFs3
namespace Go.Proofs.YtjjphaiomaiilaaGreat.lawInputBits
open Go.RowKit
set_option linter.unusedVariables false
set_option linter.unusedSimpArgs false
set_option maxRecDepth 100000 in
set_option maxHeartbeats 8000000 in
theorem walk (a0 : Option Addr) (n0 c0 : Nat) (x0 : List Ln) (a1 : Int) (a2 : Option Addr) (n2 c2 : Nat) (x2 : List Int) (w : World) (h0 : RLn w a0 n0 x0 ∧ n0 ≤ maxLen ∧ ∀ s ∈ x0, bigL s) (h1 : (Lit.int .i64 a1).wf = true) (h2 : RI w a2 n2 x2) :
    Calls Tryz.prog 7 #[.slice a0 n0 c0, .int .i64 a1, .slice a2 n2 c2] w fun e w' => e = .returned (.bool true) ∧ Below w.heap.size w w' := by
  obtain ⟨h0, hN0, hL0⟩ := h0
  by_cases s2 : n2 ≤ 1048576
  rotate_left
  · have s2' : (1048576 : Int) < (n2 : Int) := by omega
    go_enter Tryz.func7, Tryz.ntmps7
    go_wp2
    go_ret
    exact ⟨rfl, (Below.refl _ _)⟩
  have l0 := h0.len
  have l2 := h2.len
  by_cases t0 : (szLs 1048576 x0) < 0
  · skip
    go_enter Tryz.func7, Tryz.ntmps7
    go_wp2_with fail
    refine (szLineS_any a0 n0 c0 x0 1048576 _ h0 (by omega) hN0 hL0).mono ?_
    rintro e w1 ⟨rfl, b1⟩
    have z1 := b1.size
    have B1 := b1; clear b1
    go_wp2
    go_ret
    exact ⟨rfl, B1⟩
  have tz0 := szLs_bd (left := 1048576) (l := x0) (by omega) (by omega); obtain ⟨ta0, hsh0⟩ := tz0.2.2 (by omega); have htp0 := szLs_parts (left := 1048576) (l := x0) (by omega) (by omega) (by omega)
  have hzl0 := ibF_len x0 a1 x2
  go_enter Tryz.func7, Tryz.ntmps7
  go_wp2_with fail
  refine (szLineS_any a0 n0 c0 x0 1048576 _ h0 (by omega) hN0 hL0).mono ?_
  rintro e w1 ⟨rfl, b1⟩
  have z1 := b1.size
  have B1 := b1; clear b1
  go_wp2_with fail
  refine (toLineS_any _ _ _ x0 _ (h0.below B1 (Nat.le_refl _)) (by omega) hsh0).mono ?_
  rintro e w2 ⟨Tt1x0, rfl, ft1x0_2, b2⟩
  have z2 := b2.size
  have B2 := B1.trans (b2.mono B1.size); clear b2 B1
  go_wp2_with fail
  refine (toIntS_any _ _ _ x2 _ (h2.below B2 (Nat.le_refl _)) (by omega)).mono ?_
  rintro e w3 ⟨Tt2x2, rfl, ft2x2_3, b3⟩
  have ft1x0_3 := ft1x0_2.below b3 (.inl (Nat.le_refl _)); clear ft1x0_2
  have z3 := b3.size
  have B3 := B2.trans (b3.mono B2.size); clear b3 B2
  go_wp2_with fail
  refine (spec_InputBits_any _ _ _ _ _ _ x0 a1 x2 _ ft1x0_3.reads (by omega) (Nat.le_refl _) hsh0 ft2x2_3.reads (by omega) ).mono ?_
  rintro e w4 ⟨Aw0, Cw0, rfl, fw0_4, b4⟩
  have ft1x0_4 := ft1x0_3.below b4 (.inl (Nat.le_refl _)); clear ft1x0_3
  have ft2x2_4 := ft2x2_3.below b4 (.inl (Nat.le_refl _)); clear ft2x2_3
  have z4 := b4.size
  have B4 := B3.trans (b4.mono B3.size); clear b4 B3
  clear ft1x0_4
  clear ft2x2_4
  go_wp2_with fail
  refine (toLineS_any _ _ _ x0 _ (h0.below B4 (Nat.le_refl _)) (by omega) hsh0).mono ?_
  rintro e w5 ⟨Tx0, rfl, fx0_5, b5⟩
  have fw0_5 := fw0_4.below b5 (.inl (Nat.le_refl _)); clear fw0_4
  have z5 := b5.size
  have B5 := B4.trans (b5.mono B4.size); clear b5 B4
  go_wp2_with fail
  refine (toIntS_any _ _ _ x2 _ (h2.below B5 (Nat.le_refl _)) (by omega)).mono ?_
  rintro e w6 ⟨Tx2, rfl, fx2_6, b6⟩
  have fw0_6 := fw0_5.below b6 (.inl (Nat.le_refl _)); clear fw0_5
  have fx0_6 := fx0_5.below b6 (.inl (Nat.le_refl _)); clear fx0_5
  have z6 := b6.size
  have B6 := B5.trans (b6.mono B5.size); clear b6 B5
  go_wp2_with fail
  refine (InputBits_any _ _ _ _ _ _ x0 a1 x2 _ fx0_6.reads (by omega) (Nat.le_refl _) hsh0 fx2_6.reads (by omega) ).mono ?_
  rintro e w7 ⟨Ag0, Cg0, rfl, fg0_7, b7⟩
  have fw0_7 := fw0_6.below b7 (.inl (Nat.le_refl _)); clear fw0_6
  have fx0_7 := fx0_6.below b7 (.inl (Nat.le_refl _)); clear fx0_6
  have fx2_7 := fx2_6.below b7 (.inl (Nat.le_refl _)); clear fx2_6
  have z7 := b7.size
  have B7 := B6.trans (b7.mono B6.size); clear b7 B6
  go_wp2_with fail
  refine (eqIntS_b _ _ _ _ _ _ _ fg0_7.reads fw0_7.reads (by omega)).mono ?_
  rintro e w8 ⟨rfl, b8⟩
  have fw0_8 := fw0_7.below b8 (.inl (Nat.le_refl _)); clear fw0_7
  have fx0_8 := fx0_7.below b8 (.inl (Nat.le_refl _)); clear fx0_7
  have fx2_8 := fx2_7.below b8 (.inl (Nat.le_refl _)); clear fx2_7
  have fg0_8 := fg0_7.below b8 (.inl (Nat.le_refl _)); clear fg0_7
  have z8 := b8.size
  have B8 := B7.trans (b8.mono B7.size); clear b8 B7
  go_wp2_with fail
  refine (toLineS_any _ _ _ x0 _ (h0.below B8 (Nat.le_refl _)) (by omega) hsh0).mono ?_
  rintro e w9 ⟨Ty8, rfl, fy8_9, b9⟩
  have fw0_9 := fw0_8.below b9 (.inl (Nat.le_refl _)); clear fw0_8
  have fx0_9 := fx0_8.below b9 (.inl (Nat.le_refl _)); clear fx0_8
  have fx2_9 := fx2_8.below b9 (.inl (Nat.le_refl _)); clear fx2_8
  have fg0_9 := fg0_8.below b9 (.inl (Nat.le_refl _)); clear fg0_8
  have z9 := b9.size
  have B9 := B8.trans (b9.mono B8.size); clear b9 B8
  go_wp2_with fail
  refine (eqLineS_b _ _ _ _ _ _ _ fx0_9.reads fy8_9.reads (by omega) hsh0).mono ?_
  rintro e w10 ⟨rfl, b10⟩
  have fw0_10 := fw0_9.below b10 (.inl (Nat.le_refl _)); clear fw0_9
  have fx0_10 := fx0_9.below b10 (.inl (Nat.le_refl _)); clear fx0_9
  have fx2_10 := fx2_9.below b10 (.inl (Nat.le_refl _)); clear fx2_9
  have fg0_10 := fg0_9.below b10 (.inl (Nat.le_refl _)); clear fg0_9
  have fy8_10 := fy8_9.below b10 (.inl (Nat.le_refl _)); clear fy8_9
  have z10 := b10.size
  have B10 := B9.trans (b10.mono B9.size); clear b10 B9
  clear fy8_10
  go_wp2_with fail
  refine (toIntS_any _ _ _ x2 _ (h2.below B10 (Nat.le_refl _)) (by omega)).mono ?_
  rintro e w11 ⟨Ty10, rfl, fy10_11, b11⟩
  have fw0_11 := fw0_10.below b11 (.inl (Nat.le_refl _)); clear fw0_10
  have fx0_11 := fx0_10.below b11 (.inl (Nat.le_refl _)); clear fx0_10
  have fx2_11 := fx2_10.below b11 (.inl (Nat.le_refl _)); clear fx2_10
  have fg0_11 := fg0_10.below b11 (.inl (Nat.le_refl _)); clear fg0_10
  have z11 := b11.size
  have B11 := B10.trans (b11.mono B10.size); clear b11 B10
  go_wp2_with fail
  refine (eqIntS_b _ _ _ _ _ _ _ fx2_11.reads fy10_11.reads (by omega)).mono ?_
  rintro e w12 ⟨rfl, b12⟩
  have fw0_12 := fw0_11.below b12 (.inl (Nat.le_refl _)); clear fw0_11
  have fx0_12 := fx0_11.below b12 (.inl (Nat.le_refl _)); clear fx0_11
  have fx2_12 := fx2_11.below b12 (.inl (Nat.le_refl _)); clear fx2_11
  have fg0_12 := fg0_11.below b12 (.inl (Nat.le_refl _)); clear fg0_11
  have fy10_12 := fy10_11.below b12 (.inl (Nat.le_refl _)); clear fy10_11
  have z12 := b12.size
  have B12 := B11.trans (b12.mono B11.size); clear b12 B11
  clear fy10_12
  go_wp2_with fail
  refine (markLineS_c _ _ _ _ _ _ _ _ fx0_12 (by omega) hsh0 htp0 (by omega) (by omega)).mono ?_
  rintro e w13 ⟨rfl, g13⟩
  have fw0_13 := fw0_12.chg g13 (.inl (by omega)); clear fw0_12
  have fx2_13 := fx2_12.chg g13 (.inr (by omega)); clear fx2_12
  have fg0_13 := fg0_12.chg g13 (.inr (by omega)); clear fg0_12
  have z13 := g13.size
  have B13 := g13.below_ B12 (by omega) B12.size; clear B12 fx0_12 g13
  go_wp2_with fail
  refine (markIntS_c _ _ _ _ _ _ _ _ fx2_13 (by omega) (by omega) (by omega)).mono ?_
  rintro e w14 ⟨rfl, fx2_14, g14⟩
  have fw0_14 := fw0_13.chg g14 (.inl (by omega)); clear fw0_13
  have fg0_14 := fg0_13.chg g14 (.inr (by omega)); clear fg0_13
  have z14 := g14.size
  have B14 := g14.below_ B13 (by omega) B13.size; clear B13 fx2_13 g14
  go_wp2_with fail
  refine (eqIntS_b _ _ _ _ _ _ _ fg0_14.reads fw0_14.reads (by omega)).mono ?_
  rintro e w15 ⟨rfl, b15⟩
  have fw0_15 := fw0_14.below b15 (.inl (Nat.le_refl _)); clear fw0_14
  have fx2_15 := fx2_14.below b15 (.inl (Nat.le_refl _)); clear fx2_14
  have fg0_15 := fg0_14.below b15 (.inl (Nat.le_refl _)); clear fg0_14
  have z15 := b15.size
  have B15 := B14.trans (b15.mono B14.size); clear b15 B14
  go_wp2_with fail
  refine (markIntS_c _ _ _ _ _ _ _ _ fg0_15 (by omega) (by omega) (by omega)).mono ?_
  rintro e w16 ⟨rfl, fg0_16, g16⟩
  have fw0_16 := fw0_15.chg g16 (.inl (by omega)); clear fw0_15
  have fx2_16 := fx2_15.chg g16 (.inl (by omega)); clear fx2_15
  have z16 := g16.size
  have B16 := g16.below_ B15 (by omega) B15.size; clear B15 fg0_15 g16
  go_wp2_with fail
  refine (heldIntS_b _ _ _ _ _ fg0_16.reads (by omega) (by omega) (by omega)).mono ?_
  rintro e w17 ⟨rfl, b17⟩
  have fw0_17 := fw0_16.below b17 (.inl (Nat.le_refl _)); clear fw0_16
  have fx2_17 := fx2_16.below b17 (.inl (Nat.le_refl _)); clear fx2_16
  have fg0_17 := fg0_16.below b17 (.inl (Nat.le_refl _)); clear fg0_16
  have z17 := b17.size
  have B17 := B16.trans (b17.mono B16.size); clear b17 B16
  go_wp2_with fail
  refine (toLineS_any _ _ _ x0 _ (h0.below B17 (Nat.le_refl _)) (by omega) hsh0).mono ?_
  rintro e w18 ⟨Tt17x0, rfl, ft17x0_18, b18⟩
  have fw0_18 := fw0_17.below b18 (.inl (Nat.le_refl _)); clear fw0_17
  have fx2_18 := fx2_17.below b18 (.inl (Nat.le_refl _)); clear fx2_17
  have fg0_18 := fg0_17.below b18 (.inl (Nat.le_refl _)); clear fg0_17
  have z18 := b18.size
  have B18 := B17.trans (b18.mono B17.size); clear b18 B17
  go_wp2_with fail
  refine (toIntS_any _ _ _ x2 _ (h2.below B18 (Nat.le_refl _)) (by omega)).mono ?_
  rintro e w19 ⟨Tt18x2, rfl, ft18x2_19, b19⟩
  have fw0_19 := fw0_18.below b19 (.inl (Nat.le_refl _)); clear fw0_18
  have fx2_19 := fx2_18.below b19 (.inl (Nat.le_refl _)); clear fx2_18
  have fg0_19 := fg0_18.below b19 (.inl (Nat.le_refl _)); clear fg0_18
  have ft17x0_19 := ft17x0_18.below b19 (.inl (Nat.le_refl _)); clear ft17x0_18
  have z19 := b19.size
  have B19 := B18.trans (b19.mono B18.size); clear b19 B18
  go_wp2_with fail
  refine (InputBits_any _ _ _ _ _ _ x0 a1 x2 _ ft17x0_19.reads (by omega) (Nat.le_refl _) hsh0 ft18x2_19.reads (by omega) ).mono ?_
  rintro e w20 ⟨Ah0, Ch0, rfl, fh0_20, b20⟩
  have fw0_20 := fw0_19.below b20 (.inl (Nat.le_refl _)); clear fw0_19
  have fx2_20 := fx2_19.below b20 (.inl (Nat.le_refl _)); clear fx2_19
  have fg0_20 := fg0_19.below b20 (.inl (Nat.le_refl _)); clear fg0_19
  have ft17x0_20 := ft17x0_19.below b20 (.inl (Nat.le_refl _)); clear ft17x0_19
  have ft18x2_20 := ft18x2_19.below b20 (.inl (Nat.le_refl _)); clear ft18x2_19
  have z20 := b20.size
  have B20 := B19.trans (b20.mono B19.size); clear b20 B19
  clear ft17x0_20
  clear ft18x2_20
  go_wp2_with fail
  refine (eqIntS_b _ _ _ _ _ _ _ fh0_20.reads fw0_20.reads (by omega)).mono ?_
  rintro e w21 ⟨rfl, b21⟩
  have fw0_21 := fw0_20.below b21 (.inl (Nat.le_refl _)); clear fw0_20
  have fx2_21 := fx2_20.below b21 (.inl (Nat.le_refl _)); clear fx2_20
  have fg0_21 := fg0_20.below b21 (.inl (Nat.le_refl _)); clear fg0_20
  have fh0_21 := fh0_20.below b21 (.inl (Nat.le_refl _)); clear fh0_20
  have z21 := b21.size
  have B21 := B20.trans (b21.mono B20.size); clear b21 B20
  go_wp2_with fail
  refine (heldIntS_b _ _ _ _ _ fg0_21.reads (by omega) (by omega) (by omega)).mono ?_
  rintro e w22 ⟨rfl, b22⟩
  have fw0_22 := fw0_21.below b22 (.inl (Nat.le_refl _)); clear fw0_21
  have fx2_22 := fx2_21.below b22 (.inl (Nat.le_refl _)); clear fx2_21
  have fg0_22 := fg0_21.below b22 (.inl (Nat.le_refl _)); clear fg0_21
  have fh0_22 := fh0_21.below b22 (.inl (Nat.le_refl _)); clear fh0_21
  have z22 := b22.size
  have B22 := B21.trans (b22.mono B21.size); clear b22 B21
  go_wp2
  go_ret
  exact ⟨rfl, B22⟩
end Go.Proofs.YtjjphaiomaiilaaGreat.lawInputBits
