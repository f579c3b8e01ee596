/- The law FnExactRefreshBits holds: for every input it returns true, and each argument reads afterwards as it read before. No condition. -/
import Derived.Test.YthmdgcbhoijmgaaRows
import Derived.Test.YthmdgcbhoijmgaaChg
import Derived.Test.YthmdgcbhoijmgaaRow
import Derived.Test.YthmdgcbhoijmgaaSplit2
namespace Go.Proofs.Ythmdgcbhoijmgaa.lawRefreshBits
open Go.ChangeShapes Go.WideShapes Go.ChangeAt Go.RowKit
open Go.ChangeMaps (open_string shut_string)
set_option linter.unusedVariables false
set_option linter.unusedSimpArgs false

set_option maxRecDepth 100000 in
set_option maxHeartbeats 4000000 in
theorem walk (a0 : Int) (a1 : Option Addr) (n1 c1 : Nat) (x1 : List Int) (a2 : Option Addr) (n2 c2 : Nat) (x2 : List Int) (w : World) (h0 : (Lit.int .i64 a0).wf = true) (h1 : RI w a1 n1 x1) (h2 : RI w a2 n2 x2) :
    Calls Try.prog 12 #[.int .i64 a0, .slice a1 n1 c1, .slice a2 n2 c2] w fun e w' => e = .returned (.bool true) ∧ Below w.heap.size w w' := by
  by_cases s1 : n1 ≤ 1048576
  rotate_left
  · have s1' : (1048576 : Int) < (n1 : Int) := by omega
    go_enter Try.func12, Try.ntmps12
    go_wp2
    go_ret
    exact ⟨rfl, Below.refl _ _⟩
  by_cases s2 : n2 ≤ 1048576
  rotate_left
  · have s2' : (1048576 : Int) < (n2 : Int) := by omega
    go_enter Try.func12, Try.ntmps12
    go_wp2
    go_ret
    exact ⟨rfl, Below.refl _ _⟩
  have l1 := h1.len
  have l2 := h2.len
  have hzl0 := refreshF_len a0 n1 n2 x1 x2
  go_enter Try.func12, Try.ntmps12
  go_wp2_with fail
  refine (toIntS_any _ _ _ x1 _ h1 (by omega)).mono ?_
  rintro e w1 ⟨Tt0x1, rfl, ft0x1_1, b1⟩
  have z1 := b1.size
  have B1 := b1; clear b1
  go_wp2_with fail
  refine (toIntS_any _ _ _ x2 _ (h2.below B1 (Nat.le_refl _)) (by omega)).mono ?_
  rintro e w2 ⟨Tt1x2, rfl, ft1x2_2, b2⟩
  have ft0x1_2 := ft0x1_1.below b2 (.inl (Nat.le_refl _)); clear ft0x1_1
  have z2 := b2.size
  have B2 := B1.trans (b2.mono B1.size); clear b2 B1
  go_wp2_with fail
  refine (spec_RefreshBits_any ft0x1_2.reads (by omega) ft1x2_2.reads (by omega) ).mono ?_
  rintro e w3 ⟨Aw0, Cw0, Aw1, Cw1, Mw0, rfl, fw0_3, fw1_3, ⟨mw0, Mw0m⟩, b3⟩
  have ft0x1_3 := ft0x1_2.below b3 (.inl (Nat.le_refl _)); clear ft0x1_2
  have ft1x2_3 := ft1x2_2.below b3 (.inl (Nat.le_refl _)); clear ft1x2_2
  have z3 := b3.size
  have B3 := B2.trans (b3.mono B2.size); clear b3 B2
  clear ft0x1_3
  clear ft1x2_3
  go_wp2_with fail
  refine (toIntS_any _ _ _ x1 _ (h1.below B3 (Nat.le_refl _)) (by omega)).mono ?_
  rintro e w4 ⟨Tx1, rfl, fx1_4, b4⟩
  have fw0_4 := fw0_3.below b4 (.inl (Nat.le_refl _)); clear fw0_3
  have fw1_4 := fw1_3.below b4 (.inl (Nat.le_refl _)); clear fw1_3
  have z4 := b4.size
  have B4 := B3.trans (b4.mono B3.size); clear b4 B3
  go_wp2_with fail
  refine (toIntS_any _ _ _ x2 _ (h2.below B4 (Nat.le_refl _)) (by omega)).mono ?_
  rintro e w5 ⟨Tx2, rfl, fx2_5, b5⟩
  have fw0_5 := fw0_4.below b5 (.inl (Nat.le_refl _)); clear fw0_4
  have fw1_5 := fw1_4.below b5 (.inl (Nat.le_refl _)); clear fw1_4
  have fx1_5 := fx1_4.below b5 (.inl (Nat.le_refl _)); clear fx1_4
  have z5 := b5.size
  have B5 := B4.trans (b5.mono B4.size); clear b5 B4
  go_wp2_with fail
  refine (RefreshBits_any fx1_5.reads (by omega) fx2_5.reads (by omega) ).mono ?_
  rintro e w6 ⟨Ag0, Cg0, Ag1, Cg1, Mg0, rfl, fg0_6, fg1_6, ⟨mg0, Mg0m⟩, b6⟩
  have fw0_6 := fw0_5.below b6 (.inl (Nat.le_refl _)); clear fw0_5
  have fw1_6 := fw1_5.below b6 (.inl (Nat.le_refl _)); clear fw1_5
  have fx1_6 := fx1_5.below b6 (.inl (Nat.le_refl _)); clear fx1_5
  have fx2_6 := fx2_5.below b6 (.inl (Nat.le_refl _)); clear fx2_5
  have z6 := b6.size
  have B6 := B5.trans (b6.mono B5.size); clear b6 B5
  go_wp2_with fail
  refine (eqIntS_b _ _ _ _ _ _ _ fg0_6.reads fw0_6.reads (by omega)).mono ?_
  rintro e w7 ⟨rfl, b7⟩
  have fw0_7 := fw0_6.below b7 (.inl (Nat.le_refl _)); clear fw0_6
  have fw1_7 := fw1_6.below b7 (.inl (Nat.le_refl _)); clear fw1_6
  have fx1_7 := fx1_6.below b7 (.inl (Nat.le_refl _)); clear fx1_6
  have fx2_7 := fx2_6.below b7 (.inl (Nat.le_refl _)); clear fx2_6
  have fg0_7 := fg0_6.below b7 (.inl (Nat.le_refl _)); clear fg0_6
  have fg1_7 := fg1_6.below b7 (.inl (Nat.le_refl _)); clear fg1_6
  have z7 := b7.size
  have B7 := B6.trans (b7.mono B6.size); clear b7 B6
  go_wp2_with fail
  refine (eqIntS_b _ _ _ _ _ _ _ fg1_7.reads fw1_7.reads (by omega)).mono ?_
  rintro e w8 ⟨rfl, b8⟩
  have fw0_8 := fw0_7.below b8 (.inl (Nat.le_refl _)); clear fw0_7
  have fw1_8 := fw1_7.below b8 (.inl (Nat.le_refl _)); clear fw1_7
  have fx1_8 := fx1_7.below b8 (.inl (Nat.le_refl _)); clear fx1_7
  have fx2_8 := fx2_7.below b8 (.inl (Nat.le_refl _)); clear fx2_7
  have fg0_8 := fg0_7.below b8 (.inl (Nat.le_refl _)); clear fg0_7
  have fg1_8 := fg1_7.below b8 (.inl (Nat.le_refl _)); clear fg1_7
  have z8 := b8.size
  have B8 := B7.trans (b8.mono B7.size); clear b8 B7
  go_wp2_with fail
  refine (toIntS_any _ _ _ x1 _ (h1.below B8 (Nat.le_refl _)) (by omega)).mono ?_
  rintro e w9 ⟨Ty8, rfl, fy8_9, b9⟩
  have fw0_9 := fw0_8.below b9 (.inl (Nat.le_refl _)); clear fw0_8
  have fw1_9 := fw1_8.below b9 (.inl (Nat.le_refl _)); clear fw1_8
  have fx1_9 := fx1_8.below b9 (.inl (Nat.le_refl _)); clear fx1_8
  have fx2_9 := fx2_8.below b9 (.inl (Nat.le_refl _)); clear fx2_8
  have fg0_9 := fg0_8.below b9 (.inl (Nat.le_refl _)); clear fg0_8
  have fg1_9 := fg1_8.below b9 (.inl (Nat.le_refl _)); clear fg1_8
  have z9 := b9.size
  have B9 := B8.trans (b9.mono B8.size); clear b9 B8
  go_wp2_with fail
  refine (eqIntS_b _ _ _ _ _ _ _ fx1_9.reads fy8_9.reads (by omega)).mono ?_
  rintro e w10 ⟨rfl, b10⟩
  have fw0_10 := fw0_9.below b10 (.inl (Nat.le_refl _)); clear fw0_9
  have fw1_10 := fw1_9.below b10 (.inl (Nat.le_refl _)); clear fw1_9
  have fx1_10 := fx1_9.below b10 (.inl (Nat.le_refl _)); clear fx1_9
  have fx2_10 := fx2_9.below b10 (.inl (Nat.le_refl _)); clear fx2_9
  have fg0_10 := fg0_9.below b10 (.inl (Nat.le_refl _)); clear fg0_9
  have fg1_10 := fg1_9.below b10 (.inl (Nat.le_refl _)); clear fg1_9
  have fy8_10 := fy8_9.below b10 (.inl (Nat.le_refl _)); clear fy8_9
  have z10 := b10.size
  have B10 := B9.trans (b10.mono B9.size); clear b10 B9
  clear fy8_10
  go_wp2_with fail
  refine (toIntS_any _ _ _ x2 _ (h2.below B10 (Nat.le_refl _)) (by omega)).mono ?_
  rintro e w11 ⟨Ty10, rfl, fy10_11, b11⟩
  have fw0_11 := fw0_10.below b11 (.inl (Nat.le_refl _)); clear fw0_10
  have fw1_11 := fw1_10.below b11 (.inl (Nat.le_refl _)); clear fw1_10
  have fx1_11 := fx1_10.below b11 (.inl (Nat.le_refl _)); clear fx1_10
  have fx2_11 := fx2_10.below b11 (.inl (Nat.le_refl _)); clear fx2_10
  have fg0_11 := fg0_10.below b11 (.inl (Nat.le_refl _)); clear fg0_10
  have fg1_11 := fg1_10.below b11 (.inl (Nat.le_refl _)); clear fg1_10
  have z11 := b11.size
  have B11 := B10.trans (b11.mono B10.size); clear b11 B10
  go_wp2_with fail
  refine (eqIntS_b _ _ _ _ _ _ _ fx2_11.reads fy10_11.reads (by omega)).mono ?_
  rintro e w12 ⟨rfl, b12⟩
  have fw0_12 := fw0_11.below b12 (.inl (Nat.le_refl _)); clear fw0_11
  have fw1_12 := fw1_11.below b12 (.inl (Nat.le_refl _)); clear fw1_11
  have fx1_12 := fx1_11.below b12 (.inl (Nat.le_refl _)); clear fx1_11
  have fx2_12 := fx2_11.below b12 (.inl (Nat.le_refl _)); clear fx2_11
  have fg0_12 := fg0_11.below b12 (.inl (Nat.le_refl _)); clear fg0_11
  have fg1_12 := fg1_11.below b12 (.inl (Nat.le_refl _)); clear fg1_11
  have fy10_12 := fy10_11.below b12 (.inl (Nat.le_refl _)); clear fy10_11
  have z12 := b12.size
  have B12 := B11.trans (b12.mono B11.size); clear b12 B11
  clear fy10_12
  go_wp2_with fail
  refine (markIntS_c _ _ _ _ _ _ _ _ fx1_12 (by omega) (by omega) (by omega)).mono ?_
  rintro e w13 ⟨rfl, fx1_13, g13⟩
  have fw0_13 := fw0_12.chg g13 (.inl (by omega)); clear fw0_12
  have fw1_13 := fw1_12.chg g13 (.inl (by omega)); clear fw1_12
  have fx2_13 := fx2_12.chg g13 (.inr (by omega)); clear fx2_12
  have fg0_13 := fg0_12.chg g13 (.inr (by omega)); clear fg0_12
  have fg1_13 := fg1_12.chg g13 (.inr (by omega)); clear fg1_12
  have z13 := g13.size
  have B13 := g13.below_ B12 (by omega) B12.size; clear B12 fx1_12 g13
  go_wp2_with fail
  refine (markIntS_c _ _ _ _ _ _ _ _ fx2_13 (by omega) (by omega) (by omega)).mono ?_
  rintro e w14 ⟨rfl, fx2_14, g14⟩
  have fw0_14 := fw0_13.chg g14 (.inl (by omega)); clear fw0_13
  have fw1_14 := fw1_13.chg g14 (.inl (by omega)); clear fw1_13
  have fx1_14 := fx1_13.chg g14 (.inl (by omega)); clear fx1_13
  have fg0_14 := fg0_13.chg g14 (.inr (by omega)); clear fg0_13
  have fg1_14 := fg1_13.chg g14 (.inr (by omega)); clear fg1_13
  have z14 := g14.size
  have B14 := g14.below_ B13 (by omega) B13.size; clear B13 fx2_13 g14
  go_wp2_with fail
  refine (eqIntS_b _ _ _ _ _ _ _ fg0_14.reads fw0_14.reads (by omega)).mono ?_
  rintro e w15 ⟨rfl, b15⟩
  have fw0_15 := fw0_14.below b15 (.inl (Nat.le_refl _)); clear fw0_14
  have fw1_15 := fw1_14.below b15 (.inl (Nat.le_refl _)); clear fw1_14
  have fx1_15 := fx1_14.below b15 (.inl (Nat.le_refl _)); clear fx1_14
  have fx2_15 := fx2_14.below b15 (.inl (Nat.le_refl _)); clear fx2_14
  have fg0_15 := fg0_14.below b15 (.inl (Nat.le_refl _)); clear fg0_14
  have fg1_15 := fg1_14.below b15 (.inl (Nat.le_refl _)); clear fg1_14
  have z15 := b15.size
  have B15 := B14.trans (b15.mono B14.size); clear b15 B14
  go_wp2_with fail
  refine (eqIntS_b _ _ _ _ _ _ _ fg1_15.reads fw1_15.reads (by omega)).mono ?_
  rintro e w16 ⟨rfl, b16⟩
  have fw0_16 := fw0_15.below b16 (.inl (Nat.le_refl _)); clear fw0_15
  have fw1_16 := fw1_15.below b16 (.inl (Nat.le_refl _)); clear fw1_15
  have fx1_16 := fx1_15.below b16 (.inl (Nat.le_refl _)); clear fx1_15
  have fx2_16 := fx2_15.below b16 (.inl (Nat.le_refl _)); clear fx2_15
  have fg0_16 := fg0_15.below b16 (.inl (Nat.le_refl _)); clear fg0_15
  have fg1_16 := fg1_15.below b16 (.inl (Nat.le_refl _)); clear fg1_15
  have z16 := b16.size
  have B16 := B15.trans (b16.mono B15.size); clear b16 B15
  go_wp2_with fail
  refine (markIntS_c _ _ _ _ _ _ _ _ fg0_16 (by omega) (by omega) (by omega)).mono ?_
  rintro e w17 ⟨rfl, fg0_17, g17⟩
  have fw0_17 := fw0_16.chg g17 (.inl (by omega)); clear fw0_16
  have fw1_17 := fw1_16.chg g17 (.inl (by omega)); clear fw1_16
  have fx1_17 := fx1_16.chg g17 (.inl (by omega)); clear fx1_16
  have fx2_17 := fx2_16.chg g17 (.inl (by omega)); clear fx2_16
  have fg1_17 := fg1_16.chg g17 (.inr (by omega)); clear fg1_16
  have z17 := g17.size
  have B17 := g17.below_ B16 (by omega) B16.size; clear B16 fg0_16 g17
  go_wp2_with fail
  refine (markIntS_c _ _ _ _ _ _ _ _ fg1_17 (by omega) (by omega) (by omega)).mono ?_
  rintro e w18 ⟨rfl, fg1_18, g18⟩
  have fw0_18 := fw0_17.chg g18 (.inl (by omega)); clear fw0_17
  have fw1_18 := fw1_17.chg g18 (.inl (by omega)); clear fw1_17
  have fx1_18 := fx1_17.chg g18 (.inl (by omega)); clear fx1_17
  have fx2_18 := fx2_17.chg g18 (.inl (by omega)); clear fx2_17
  have fg0_18 := fg0_17.chg g18 (.inl (by omega)); clear fg0_17
  have z18 := g18.size
  have B18 := g18.below_ B17 (by omega) B17.size; clear B17 fg1_17 g18
  go_wp2_with fail
  refine (heldIntS_b _ _ _ _ _ fg0_18.reads (by omega) (by omega) (by omega)).mono ?_
  rintro e w19 ⟨rfl, b19⟩
  have fw0_19 := fw0_18.below b19 (.inl (Nat.le_refl _)); clear fw0_18
  have fw1_19 := fw1_18.below b19 (.inl (Nat.le_refl _)); clear fw1_18
  have fx1_19 := fx1_18.below b19 (.inl (Nat.le_refl _)); clear fx1_18
  have fx2_19 := fx2_18.below b19 (.inl (Nat.le_refl _)); clear fx2_18
  have fg0_19 := fg0_18.below b19 (.inl (Nat.le_refl _)); clear fg0_18
  have fg1_19 := fg1_18.below b19 (.inl (Nat.le_refl _)); clear fg1_18
  have z19 := b19.size
  have B19 := B18.trans (b19.mono B18.size); clear b19 B18
  go_wp2_with fail
  refine (heldIntS_b _ _ _ _ _ fg1_19.reads (by omega) (by omega) (by omega)).mono ?_
  rintro e w20 ⟨rfl, b20⟩
  have fw0_20 := fw0_19.below b20 (.inl (Nat.le_refl _)); clear fw0_19
  have fw1_20 := fw1_19.below b20 (.inl (Nat.le_refl _)); clear fw1_19
  have fx1_20 := fx1_19.below b20 (.inl (Nat.le_refl _)); clear fx1_19
  have fx2_20 := fx2_19.below b20 (.inl (Nat.le_refl _)); clear fx2_19
  have fg0_20 := fg0_19.below b20 (.inl (Nat.le_refl _)); clear fg0_19
  have fg1_20 := fg1_19.below b20 (.inl (Nat.le_refl _)); clear fg1_19
  have z20 := b20.size
  have B20 := B19.trans (b20.mono B19.size); clear b20 B19
  go_wp2_with fail
  refine (toIntS_any _ _ _ x1 _ (h1.below B20 (Nat.le_refl _)) (by omega)).mono ?_
  rintro e w21 ⟨Tt20x1, rfl, ft20x1_21, b21⟩
  have fw0_21 := fw0_20.below b21 (.inl (Nat.le_refl _)); clear fw0_20
  have fw1_21 := fw1_20.below b21 (.inl (Nat.le_refl _)); clear fw1_20
  have fx1_21 := fx1_20.below b21 (.inl (Nat.le_refl _)); clear fx1_20
  have fx2_21 := fx2_20.below b21 (.inl (Nat.le_refl _)); clear fx2_20
  have fg0_21 := fg0_20.below b21 (.inl (Nat.le_refl _)); clear fg0_20
  have fg1_21 := fg1_20.below b21 (.inl (Nat.le_refl _)); clear fg1_20
  have z21 := b21.size
  have B21 := B20.trans (b21.mono B20.size); clear b21 B20
  go_wp2_with fail
  refine (toIntS_any _ _ _ x2 _ (h2.below B21 (Nat.le_refl _)) (by omega)).mono ?_
  rintro e w22 ⟨Tt21x2, rfl, ft21x2_22, b22⟩
  have fw0_22 := fw0_21.below b22 (.inl (Nat.le_refl _)); clear fw0_21
  have fw1_22 := fw1_21.below b22 (.inl (Nat.le_refl _)); clear fw1_21
  have fx1_22 := fx1_21.below b22 (.inl (Nat.le_refl _)); clear fx1_21
  have fx2_22 := fx2_21.below b22 (.inl (Nat.le_refl _)); clear fx2_21
  have fg0_22 := fg0_21.below b22 (.inl (Nat.le_refl _)); clear fg0_21
  have fg1_22 := fg1_21.below b22 (.inl (Nat.le_refl _)); clear fg1_21
  have ft20x1_22 := ft20x1_21.below b22 (.inl (Nat.le_refl _)); clear ft20x1_21
  have z22 := b22.size
  have B22 := B21.trans (b22.mono B21.size); clear b22 B21
  go_wp2_with fail
  refine (RefreshBits_any ft20x1_22.reads (by omega) ft21x2_22.reads (by omega) ).mono ?_
  rintro e w23 ⟨Ah0, Ch0, Ah1, Ch1, Mh0, rfl, fh0_23, fh1_23, ⟨mh0, Mh0m⟩, b23⟩
  have fw0_23 := fw0_22.below b23 (.inl (Nat.le_refl _)); clear fw0_22
  have fw1_23 := fw1_22.below b23 (.inl (Nat.le_refl _)); clear fw1_22
  have fx1_23 := fx1_22.below b23 (.inl (Nat.le_refl _)); clear fx1_22
  have fx2_23 := fx2_22.below b23 (.inl (Nat.le_refl _)); clear fx2_22
  have fg0_23 := fg0_22.below b23 (.inl (Nat.le_refl _)); clear fg0_22
  have fg1_23 := fg1_22.below b23 (.inl (Nat.le_refl _)); clear fg1_22
  have ft20x1_23 := ft20x1_22.below b23 (.inl (Nat.le_refl _)); clear ft20x1_22
  have ft21x2_23 := ft21x2_22.below b23 (.inl (Nat.le_refl _)); clear ft21x2_22
  have z23 := b23.size
  have B23 := B22.trans (b23.mono B22.size); clear b23 B22
  clear ft20x1_23
  clear ft21x2_23
  go_wp2_with fail
  refine (eqIntS_b _ _ _ _ _ _ _ fh0_23.reads fw0_23.reads (by omega)).mono ?_
  rintro e w24 ⟨rfl, b24⟩
  have fw0_24 := fw0_23.below b24 (.inl (Nat.le_refl _)); clear fw0_23
  have fw1_24 := fw1_23.below b24 (.inl (Nat.le_refl _)); clear fw1_23
  have fx1_24 := fx1_23.below b24 (.inl (Nat.le_refl _)); clear fx1_23
  have fx2_24 := fx2_23.below b24 (.inl (Nat.le_refl _)); clear fx2_23
  have fg0_24 := fg0_23.below b24 (.inl (Nat.le_refl _)); clear fg0_23
  have fg1_24 := fg1_23.below b24 (.inl (Nat.le_refl _)); clear fg1_23
  have fh0_24 := fh0_23.below b24 (.inl (Nat.le_refl _)); clear fh0_23
  have fh1_24 := fh1_23.below b24 (.inl (Nat.le_refl _)); clear fh1_23
  have z24 := b24.size
  have B24 := B23.trans (b24.mono B23.size); clear b24 B23
  go_wp2_with fail
  refine (eqIntS_b _ _ _ _ _ _ _ fh1_24.reads fw1_24.reads (by omega)).mono ?_
  rintro e w25 ⟨rfl, b25⟩
  have fw0_25 := fw0_24.below b25 (.inl (Nat.le_refl _)); clear fw0_24
  have fw1_25 := fw1_24.below b25 (.inl (Nat.le_refl _)); clear fw1_24
  have fx1_25 := fx1_24.below b25 (.inl (Nat.le_refl _)); clear fx1_24
  have fx2_25 := fx2_24.below b25 (.inl (Nat.le_refl _)); clear fx2_24
  have fg0_25 := fg0_24.below b25 (.inl (Nat.le_refl _)); clear fg0_24
  have fg1_25 := fg1_24.below b25 (.inl (Nat.le_refl _)); clear fg1_24
  have fh0_25 := fh0_24.below b25 (.inl (Nat.le_refl _)); clear fh0_24
  have fh1_25 := fh1_24.below b25 (.inl (Nat.le_refl _)); clear fh1_24
  have z25 := b25.size
  have B25 := B24.trans (b25.mono B24.size); clear b25 B24
  go_wp2_with fail
  refine (heldIntS_b _ _ _ _ _ fg0_25.reads (by omega) (by omega) (by omega)).mono ?_
  rintro e w26 ⟨rfl, b26⟩
  have fw0_26 := fw0_25.below b26 (.inl (Nat.le_refl _)); clear fw0_25
  have fw1_26 := fw1_25.below b26 (.inl (Nat.le_refl _)); clear fw1_25
  have fx1_26 := fx1_25.below b26 (.inl (Nat.le_refl _)); clear fx1_25
  have fx2_26 := fx2_25.below b26 (.inl (Nat.le_refl _)); clear fx2_25
  have fg0_26 := fg0_25.below b26 (.inl (Nat.le_refl _)); clear fg0_25
  have fg1_26 := fg1_25.below b26 (.inl (Nat.le_refl _)); clear fg1_25
  have fh0_26 := fh0_25.below b26 (.inl (Nat.le_refl _)); clear fh0_25
  have fh1_26 := fh1_25.below b26 (.inl (Nat.le_refl _)); clear fh1_25
  have z26 := b26.size
  have B26 := B25.trans (b26.mono B25.size); clear b26 B25
  go_wp2_with fail
  refine (heldIntS_b _ _ _ _ _ fg1_26.reads (by omega) (by omega) (by omega)).mono ?_
  rintro e w27 ⟨rfl, b27⟩
  have fw0_27 := fw0_26.below b27 (.inl (Nat.le_refl _)); clear fw0_26
  have fw1_27 := fw1_26.below b27 (.inl (Nat.le_refl _)); clear fw1_26
  have fx1_27 := fx1_26.below b27 (.inl (Nat.le_refl _)); clear fx1_26
  have fx2_27 := fx2_26.below b27 (.inl (Nat.le_refl _)); clear fx2_26
  have fg0_27 := fg0_26.below b27 (.inl (Nat.le_refl _)); clear fg0_26
  have fg1_27 := fg1_26.below b27 (.inl (Nat.le_refl _)); clear fg1_26
  have fh0_27 := fh0_26.below b27 (.inl (Nat.le_refl _)); clear fh0_26
  have fh1_27 := fh1_26.below b27 (.inl (Nat.le_refl _)); clear fh1_26
  have z27 := b27.size
  have B27 := B26.trans (b27.mono B26.size); clear b27 B26
  go_wp2
  go_ret
  exact ⟨rfl, B27⟩

set_option maxRecDepth 100000 in
theorem lifted (os : Os) (started : os.Started) (H : Type) (enc : TypeId × Value → H) :
    ReturnsInHanded {} Try.checked os 12 .any (Rows.fnExactRefreshBitsSpec.pre6 enc Try.prog Try.f12 Rows.fnExactRefreshBitsRow.domain false) (Rows.fnExactRefreshBitsSpec.post enc Try.prog Try.f12 false true false false) := by
  refine returnsInHanded_of_change (C := Try.checked) own started (by kernel_rfl) Try.func12
    (ChangeSpec.witness6 (enc := enc) (C := Try.checked) false ⟨#[], #[.int .i64 0, .slice none 0 0, .slice none 0 0], []⟩ 8 (by kernel_rfl) (by kernel_rfl) (by kernel_rfl) (by kernel_rfl)) ?_
  intro W base args ds gs before hval0 hW hcnd _
  have hval : ∀ (j : Nat) t v, Try.f12.params[j]? = some t → args[j]? = some v → Value.okWide Try.prog W .any base t v := hval0
  have hW' := hW
  obtain ⟨p, q, hA0, hV, rfl, hfz, hnd⟩ := hW
  have hA : DataW.TrodAll enc Try.prog W 0 (fun _ => true) true Try.f12.params.toList args.toList ds p := hA0
  rw [Try.params12] at hA hval
  obtain ⟨v0, vs0, d0, ds0, p0, q0, hargs, rfl, rfl, h0, r0⟩ := trodAll_cons hA
  obtain ⟨v1, vs1, d1, ds1, p1, q1, rfl, rfl, rfl, h1, r1⟩ := trodAll_cons r0
  obtain ⟨v2, vs2, d2, ds2, p2, q2, rfl, rfl, rfl, h2, r2⟩ := trodAll_cons r1
  obtain ⟨rfl, rfl, rfl⟩ := trodAll_nil r2
  obtain rfl : args = #[v0, v1, v2] := by cases args; simp_all
  obtain ⟨rfl, rfl⟩ := trodVars_none hV
  obtain ⟨a0, rfl, rfl, rfl, w0⟩ := open_int Try.underlying3 (hval 0 3 v0 rfl rfl) h0
  obtain ⟨a1, n1, c1, rfl⟩ := okWide_slice Try.underlying22 (hval 1 22 v1 rfl rfl)
  have k1 := h1
  have lt1 : ∀ x ∈ p1, x.block < W.heap.size := by obtain ⟨m, hm⟩ := k1; exact DataW.trod_lt m _ _ _ hm
  obtain ⟨x1, w1⟩ : ∃ xs, RI W a1 n1 xs := RI_of_trod h1
  obtain ⟨a2, n2, c2, rfl⟩ := okWide_slice Try.underlying22 (hval 2 22 v2 rfl rfl)
  have k2 := h2
  have lt2 : ∀ x ∈ p2, x.block < W.heap.size := by obtain ⟨m, hm⟩ := k2; exact DataW.trod_lt m _ _ _ hm
  obtain ⟨x2, w2⟩ : ∃ xs, RI W a2 n2 xs := RI_of_trod h2
  clear hA0 hval0
  refine (walk a0 a1 n1 c1 x1 a2 n2 c2 x2 W w0 w1 w2).mono fun e W' ⟨he, bel⟩ => ?_
  subst he
  exact ⟨_, rfl, _, _, _, [], _, [], hW', trodAll_mk1 (shut_bool Try.underlying4 _), (trodAll_cons_mk (shut_int Try.underlying3 w0) (trodAll_cons_mk (Below.trod laidOut (by kernel_rfl) (of_decide_eq_true (by kernel_rfl)) k1 bel lt1) (trodAll_cons_mk (Below.trod laidOut (by kernel_rfl) (of_decide_eq_true (by kernel_rfl)) k2 bel lt2) trodAll_mk0))), rfl, bel.frame _, fun h => by cases h⟩

theorem over : Rows.fnExactRefreshBitsRow.holds Try.pinned (OpenSpec.ofChange Rows.fnExactRefreshBitsSpec) :=
  OpenClaim.holds_of_wide 12 Try.f12 rfl rfl rfl rfl rfl rfl rfl ⟨rfl, rfl, rfl, rfl, rfl⟩ rfl rfl rfl rfl rfl (by kernel_rfl) Try.func12 (by kernel_rfl)
    (of_decide_eq_true (by kernel_rfl)) (by unfold Func.isWrapper; first | (rw [if_pos (by decide +kernel)]; kernel_rfl) | (rw [if_neg (by decide +kernel)]; exact ⟨rfl, rfl⟩))
    (fun os started H enc _ => lifted os started H enc)

/-- The given statement. -/
theorem proved : Rows.FnExactRefreshBitsSaid := over

end Go.Proofs.Ythmdgcbhoijmgaa.lawRefreshBits
