/- The walk of the law FnExactArithValues: whatever its arguments read as, it returns true and leaves what was there. No condition. -/
import Derived.Test.YtanlbdkggocdiaaChg
import Derived.Test.YtanlbdkggocdiaaAV
import Derived.Test.YtanlbdkggocdiaaCLaw2
namespace Go.Proofs.Ytanlbdkggocdiaa.lawArithValues
open Go.RowKit
set_option linter.unusedVariables false
set_option linter.unusedSimpArgs false

set_option maxRecDepth 100000 in
set_option maxHeartbeats 8000000 in
theorem walk (a0 : Int) (y0 u0 : Int) (A0 : Option Addr) (n0 c0 : Nat) (O0 : Option Addr) (m0 d0 : Nat) (g0 : List G3) (o0 : List Int) (a1 : Option Addr) (n1 c1 : Nat) (x1 : List Int) (a2 : Option Addr) (n2 c2 : Nat) (x2 : List Int) (w : World) (h0 : (RG w A0 n0 g0 ∧ RI w O0 m0 o0) ∧ n0 ≤ maxLen ∧ m0 ≤ maxLen) (h1 : RI w a1 n1 x1) (h2 : RI w a2 n2 x2) :
    Calls Try.prog 3 #[.agg #[.int .i64 a0, .int .i64 y0, .int .i64 u0, .slice A0 n0 c0, .slice O0 m0 d0], .slice a1 n1 c1, .slice a2 n2 c2] w fun e w' => e = .returned (.bool true) ∧ Below w.heap.size w w' := by
  obtain ⟨h0, hN0, hM0⟩ := h0
  have al1 : Below w.heap.size w (w.alloc (.cells #[.int .i64 a0, .int .i64 y0, .int .i64 u0, .slice A0 n0 c0, .slice O0 m0 d0] 25)) := (Below.refl _ _).alloc (Nat.le_refl _) _
  have xP0_al1 : BxA (w.alloc (.cells #[.int .i64 a0, .int .i64 y0, .int .i64 u0, .slice A0 n0 c0, .slice O0 m0 d0] 25)) w.heap.size a0 y0 u0 A0 n0 c0 O0 m0 d0 := BxA.new _ _
  have Bq1 := al1
  clear al1
  by_cases s1 : n1 ≤ 1048576
  rotate_left
  · have s1' : (1048576 : Int) < (n1 : Int) := by omega
    go_enter Try.func3, Try.ntmps3
    go_wp2
    go_ret
    exact ⟨rfl, Bq1⟩
  by_cases s2 : n2 ≤ 1048576
  rotate_left
  · have s2' : (1048576 : Int) < (n2 : Int) := by omega
    go_enter Try.func3, Try.ntmps3
    go_wp2
    go_ret
    exact ⟨rfl, Bq1⟩
  have l0 := h0.1.len; have k0 := h0.2.len
  have l1 := h1.len
  have l2 := h2.len
  by_cases t0 : (szC 1048576 n0 m0) < 0
  · skip
    go_enter Try.func3, Try.ntmps3
    have qq := xP0_al1; obtain ⟨qP0_0, qP0_1, qP0_2, qP0_3, qP0_4⟩ := qq
    go_wp2_with fail
    refine (szArith_any a0 y0 u0 A0 n0 c0 O0 m0 d0 1048576 _ (by omega) hN0 hM0).mono ?_
    rintro e w1 ⟨rfl, b1⟩
    clear qP0_0 qP0_1 qP0_2 qP0_3 qP0_4
    have xP0_1 := xP0_al1.below b1; clear xP0_al1
    have z1 := b1.size
    simp only [World.size_alloc] at z1
    have B1 := Bq1.trans (b1.mono Bq1.size); clear b1 Bq1
    go_wp2
    go_ret
    exact ⟨rfl, B1⟩
  obtain ⟨ta0, tb0, tc0, td0⟩ := szC_pos (l := 1048576) (n := n0) (m := m0) t0
  have hzl0 := arValF_len a0 y0 u0 g0 o0 n1 n2 x1 x2 l1 l2
  go_enter Try.func3, Try.ntmps3
  have qq := xP0_al1; obtain ⟨qP0_0, qP0_1, qP0_2, qP0_3, qP0_4⟩ := qq
  go_wp2_with fail
  refine (szArith_any a0 y0 u0 A0 n0 c0 O0 m0 d0 1048576 _ (by omega) hN0 hM0).mono ?_
  rintro e w1 ⟨rfl, b1⟩
  clear qP0_0 qP0_1 qP0_2 qP0_3 qP0_4
  have xP0_1 := xP0_al1.below b1; clear xP0_al1
  have z1 := b1.size
  simp only [World.size_alloc] at z1
  have B1 := Bq1.trans (b1.mono Bq1.size); clear b1 Bq1
  have qq := xP0_1; obtain ⟨qP0_0, qP0_1, qP0_2, qP0_3, qP0_4⟩ := qq
  go_wp2_with fail
  refine (toArith_any a0 y0 u0 A0 n0 c0 O0 m0 d0 _ _ _ ⟨h0.1.below B1 (Nat.le_refl _), h0.2.below B1 (Nat.le_refl _)⟩ (by omega) (by omega)).mono ?_
  rintro e w2 ⟨St1x0, Tt1x0, rfl, ft1x0_2, b2⟩
  clear qP0_0 qP0_1 qP0_2 qP0_3 qP0_4
  have xP0_2 := xP0_1.below b2; clear xP0_1
  have z2 := b2.size
  have B2 := B1.trans (b2.mono B1.size); clear b2 B1
  go_wp2_with fail
  refine (toIntS_any _ _ _ x1 _ (h1.below B2 (Nat.le_refl _)) (by omega)).mono ?_
  rintro e w3 ⟨Tt2x1, rfl, ft2x1_3, b3⟩
  have ft1x0_3 := ft1x0_2.below b3 (.inl (Nat.le_refl _)); clear ft1x0_2
  have xP0_3 := xP0_2.below b3; clear xP0_2
  have z3 := b3.size
  have B3 := B2.trans (b3.mono B2.size); clear b3 B2
  go_wp2_with fail
  refine (toIntS_any _ _ _ x2 _ (h2.below B3 (Nat.le_refl _)) (by omega)).mono ?_
  rintro e w4 ⟨Tt3x2, rfl, ft3x2_4, b4⟩
  have ft1x0_4 := ft1x0_3.below b4 (.inl (Nat.le_refl _)); clear ft1x0_3
  have ft2x1_4 := ft2x1_3.below b4 (.inl (Nat.le_refl _)); clear ft2x1_3
  have xP0_4 := xP0_3.below b4; clear xP0_3
  have z4 := b4.size
  have B4 := B3.trans (b4.mono B3.size); clear b4 B3
  go_wp2_with fail
  refine (spec_ArithValues_any _ _ _ _ _ _ _ _ _ _ _ _ _ _ _ _ _ _ _ _ ft1x0_4.reads (by omega) (by omega) ft2x1_4.reads (by omega) ft3x2_4.reads (by omega) ).mono ?_
  rintro e w5 ⟨Aw0, Cw0, rfl, fw0_5, b5⟩
  have ft1x0_5 := ft1x0_4.below b5 (.inl (Nat.le_refl _)); clear ft1x0_4
  have ft2x1_5 := ft2x1_4.below b5 (.inl (Nat.le_refl _)); clear ft2x1_4
  have ft3x2_5 := ft3x2_4.below b5 (.inl (Nat.le_refl _)); clear ft3x2_4
  have xP0_5 := xP0_4.below b5; clear xP0_4
  have z5 := b5.size
  have B5 := B4.trans (b5.mono B4.size); clear b5 B4
  clear ft1x0_5
  clear ft2x1_5
  clear ft3x2_5
  have qq := xP0_5; obtain ⟨qP0_0, qP0_1, qP0_2, qP0_3, qP0_4⟩ := qq
  go_wp2_with fail
  refine (toArith_any a0 y0 u0 A0 n0 c0 O0 m0 d0 _ _ _ ⟨h0.1.below B5 (Nat.le_refl _), h0.2.below B5 (Nat.le_refl _)⟩ (by omega) (by omega)).mono ?_
  rintro e w6 ⟨Sx0, Tx0, rfl, fx0_6, b6⟩
  clear qP0_0 qP0_1 qP0_2 qP0_3 qP0_4
  have fw0_6 := fw0_5.below b6 (.inl (Nat.le_refl _)); clear fw0_5
  have xP0_6 := xP0_5.below b6; clear xP0_5
  have z6 := b6.size
  have B6 := B5.trans (b6.mono B5.size); clear b6 B5
  have al2 : Below w6.heap.size w6 (w6.alloc (.cells #[.int .i64 a0, .int .i64 y0, .int .i64 u0, .slice (some Sx0) n0 n0, .slice (some Tx0) m0 m0] 31)) := (Below.refl _ _).alloc (Nat.le_refl _) _
  have fw0_al2 := fw0_6.below al2 (.inl (Nat.le_refl _)); clear fw0_6
  have fx0_al2 := fx0_6.below al2 (.inl (Nat.le_refl _)); clear fx0_6
  have xP0_al2 := xP0_6.below al2; clear xP0_6
  have xx0_al2 : BxA (w6.alloc (.cells #[.int .i64 a0, .int .i64 y0, .int .i64 u0, .slice (some Sx0) n0 n0, .slice (some Tx0) m0 m0] 31)) w6.heap.size a0 y0 u0 (some Sx0) n0 n0 (some Tx0) m0 m0 := BxA.new _ _
  have Bq2 := B6.trans (al2.mono B6.size); clear B6
  clear al2
  go_wp2_with fail
  refine (toIntS_any _ _ _ x1 _ (h1.below Bq2 (Nat.le_refl _)) (by omega)).mono ?_
  rintro e w7 ⟨Tx1, rfl, fx1_7, b7⟩
  have fw0_7 := fw0_al2.below b7 (.inl (Nat.le_refl _)); clear fw0_al2
  have fx0_7 := fx0_al2.below b7 (.inl (Nat.le_refl _)); clear fx0_al2
  have xP0_7 := xP0_al2.below b7; clear xP0_al2
  have xx0_7 := xx0_al2.below b7; clear xx0_al2
  have z7 := b7.size
  simp only [World.size_alloc] at z7
  simp only [World.size_alloc] at fx1_7
  have B7 := Bq2.trans (b7.mono Bq2.size); clear b7 Bq2
  go_wp2_with fail
  refine (toIntS_any _ _ _ x2 _ (h2.below B7 (Nat.le_refl _)) (by omega)).mono ?_
  rintro e w8 ⟨Tx2, rfl, fx2_8, b8⟩
  have fw0_8 := fw0_7.below b8 (.inl (Nat.le_refl _)); clear fw0_7
  have fx0_8 := fx0_7.below b8 (.inl (Nat.le_refl _)); clear fx0_7
  have fx1_8 := fx1_7.below b8 (.inl (Nat.le_refl _)); clear fx1_7
  have xP0_8 := xP0_7.below b8; clear xP0_7
  have xx0_8 := xx0_7.below b8; clear xx0_7
  have z8 := b8.size
  have B8 := B7.trans (b8.mono B7.size); clear b8 B7
  have qq := xx0_8; obtain ⟨qx0_0, qx0_1, qx0_2, qx0_3, qx0_4⟩ := qq
  go_wp2_with fail
  refine (ArithValues_any _ _ _ _ _ _ _ _ _ _ _ _ _ _ _ _ _ _ _ _ fx0_8.reads (by omega) (by omega) fx1_8.reads (by omega) fx2_8.reads (by omega) ).mono ?_
  rintro e w9 ⟨Ag0, Cg0, rfl, fg0_9, b9⟩
  clear qx0_0 qx0_1 qx0_2 qx0_3 qx0_4
  have fw0_9 := fw0_8.below b9 (.inl (Nat.le_refl _)); clear fw0_8
  have fx0_9 := fx0_8.below b9 (.inl (Nat.le_refl _)); clear fx0_8
  have fx1_9 := fx1_8.below b9 (.inl (Nat.le_refl _)); clear fx1_8
  have fx2_9 := fx2_8.below b9 (.inl (Nat.le_refl _)); clear fx2_8
  have xP0_9 := xP0_8.below b9; clear xP0_8
  have xx0_9 := xx0_8.below b9; clear xx0_8
  have z9 := b9.size
  have B9 := B8.trans (b9.mono B8.size); clear b9 B8
  go_wp2_with fail
  refine (eqIntS_b _ _ _ _ _ _ _ fg0_9.reads fw0_9.reads (by omega)).mono ?_
  rintro e w10 ⟨rfl, b10⟩
  have fw0_10 := fw0_9.below b10 (.inl (Nat.le_refl _)); clear fw0_9
  have fx0_10 := fx0_9.below b10 (.inl (Nat.le_refl _)); clear fx0_9
  have fx1_10 := fx1_9.below b10 (.inl (Nat.le_refl _)); clear fx1_9
  have fx2_10 := fx2_9.below b10 (.inl (Nat.le_refl _)); clear fx2_9
  have fg0_10 := fg0_9.below b10 (.inl (Nat.le_refl _)); clear fg0_9
  have xP0_10 := xP0_9.below b10; clear xP0_9
  have xx0_10 := xx0_9.below b10; clear xx0_9
  have z10 := b10.size
  have B10 := B9.trans (b10.mono B9.size); clear b10 B9
  have qq := xx0_10; obtain ⟨qx0_0, qx0_1, qx0_2, qx0_3, qx0_4⟩ := qq
  have qq := xP0_10; obtain ⟨qP0_0, qP0_1, qP0_2, qP0_3, qP0_4⟩ := qq
  have Bd11 := below_drewN B10 1
  go_wp2_with fail
  go_region_held3 (fun w' => w'.cell? ⟨w6.heap.size, 0, none⟩ = some (.int .i64 a0) ∧ w'.cell? ⟨w6.heap.size, 1, none⟩ = some (.int .i64 y0) ∧ w'.cell? ⟨w6.heap.size, 2, none⟩ = some (.int .i64 u0) ∧ w'.cell? ⟨w6.heap.size, 3, none⟩ = some (.slice (some Sx0) n0 n0) ∧ w'.cell? ⟨w6.heap.size, 4, none⟩ = some (.slice (some Tx0) m0 m0) ∧ w'.cell? ⟨w.heap.size, 0, none⟩ = some (.int .i64 a0) ∧ w'.cell? ⟨w.heap.size, 1, none⟩ = some (.int .i64 y0) ∧ w'.cell? ⟨w.heap.size, 2, none⟩ = some (.int .i64 u0) ∧ w'.cell? ⟨w.heap.size, 3, none⟩ = some (.slice A0 n0 c0) ∧ w'.cell? ⟨w.heap.size, 4, none⟩ = some (.slice O0 m0 d0))
    (first | go_keep | (go_split_ands; exact ⟨cell_below (by assumption) b12, cell_below (by assumption) b12, cell_below (by assumption) b12, cell_below (by assumption) b12, cell_below (by assumption) b12, cell_below (by assumption) b12, cell_below (by assumption) b12, cell_below (by assumption) b12, cell_below (by assumption) b12, cell_below (by assumption) b12⟩) | (go_split_ands; exact ⟨cell_below (by assumption) b11, cell_below (by assumption) b11, cell_below (by assumption) b11, cell_below (by assumption) b11, cell_below (by assumption) b11, cell_below (by assumption) b11, cell_below (by assumption) b11, cell_below (by assumption) b11, cell_below (by assumption) b11, cell_below (by assumption) b11⟩))
    (first | (go_at_call 22; refine (toArith_any a0 y0 u0 A0 n0 c0 O0 m0 d0 _ _ _ ⟨h0.1.below Bd11 (Nat.le_refl _), h0.2.below Bd11 (Nat.le_refl _)⟩ (by omega) (by omega)).mono ?_; rintro e w11 ⟨Sy10, Ty10, rfl, fy10_11, b11⟩) | (go_at_call 26; refine (eqArith_any _ _ _ _ _ _ _ _ _ _ _ _ _ _ _ _ (OwnC.reads (OwnC.below (w := World.drewN w10 1) fx0_10 b11 (.inl (Nat.le_refl _)))) fy10_11.reads (by omega) (by omega)).mono ?_; rintro e w12 ⟨rfl, b12⟩))
  clear qx0_0 qx0_1 qx0_2 qx0_3 qx0_4 qP0_0 qP0_1 qP0_2 qP0_3 qP0_4
  have b11_ : Below w10.heap.size w10 w11 := (below_drewN (Below.refl _ _) 1).trans (b11.mono (Nat.le_refl _)); clear b11; have b11 := b11_; clear b11_
  clear fy10_11 Bd11
  have fw0_11 := fw0_10.below b11 (.inl (Nat.le_refl _)); clear fw0_10
  have fx0_11 := fx0_10.below b11 (.inl (Nat.le_refl _)); clear fx0_10
  have fx1_11 := fx1_10.below b11 (.inl (Nat.le_refl _)); clear fx1_10
  have fx2_11 := fx2_10.below b11 (.inl (Nat.le_refl _)); clear fx2_10
  have fg0_11 := fg0_10.below b11 (.inl (Nat.le_refl _)); clear fg0_10
  have xP0_11 := xP0_10.below b11; clear xP0_10
  have xx0_11 := xx0_10.below b11; clear xx0_10
  have z11 := b11.size
  have B11 := B10.trans (b11.mono B10.size); clear b11 B10
  have fw0_12 := fw0_11.below b12 (.inl (Nat.le_refl _)); clear fw0_11
  have fx0_12 := fx0_11.below b12 (.inl (Nat.le_refl _)); clear fx0_11
  have fx1_12 := fx1_11.below b12 (.inl (Nat.le_refl _)); clear fx1_11
  have fx2_12 := fx2_11.below b12 (.inl (Nat.le_refl _)); clear fx2_11
  have fg0_12 := fg0_11.below b12 (.inl (Nat.le_refl _)); clear fg0_11
  have xP0_12 := xP0_11.below b12; clear xP0_11
  have xx0_12 := xx0_11.below b12; clear xx0_11
  have z12 := b12.size
  have B12 := B11.trans (b12.mono B11.size); clear b12 B11
  go_wp2_with fail
  refine (toIntS_any _ _ _ x1 _ (h1.below B12 (Nat.le_refl _)) (by omega)).mono ?_
  rintro e w13 ⟨Ty12, rfl, fy12_13, b13⟩
  have fw0_13 := fw0_12.below b13 (.inl (Nat.le_refl _)); clear fw0_12
  have fx0_13 := fx0_12.below b13 (.inl (Nat.le_refl _)); clear fx0_12
  have fx1_13 := fx1_12.below b13 (.inl (Nat.le_refl _)); clear fx1_12
  have fx2_13 := fx2_12.below b13 (.inl (Nat.le_refl _)); clear fx2_12
  have fg0_13 := fg0_12.below b13 (.inl (Nat.le_refl _)); clear fg0_12
  have xP0_13 := xP0_12.below b13; clear xP0_12
  have xx0_13 := xx0_12.below b13; clear xx0_12
  have z13 := b13.size
  have B13 := B12.trans (b13.mono B12.size); clear b13 B12
  go_wp2_with fail
  refine (eqIntS_b _ _ _ _ _ _ _ fx1_13.reads fy12_13.reads (by omega)).mono ?_
  rintro e w14 ⟨rfl, b14⟩
  have fw0_14 := fw0_13.below b14 (.inl (Nat.le_refl _)); clear fw0_13
  have fx0_14 := fx0_13.below b14 (.inl (Nat.le_refl _)); clear fx0_13
  have fx1_14 := fx1_13.below b14 (.inl (Nat.le_refl _)); clear fx1_13
  have fx2_14 := fx2_13.below b14 (.inl (Nat.le_refl _)); clear fx2_13
  have fg0_14 := fg0_13.below b14 (.inl (Nat.le_refl _)); clear fg0_13
  have fy12_14 := fy12_13.below b14 (.inl (Nat.le_refl _)); clear fy12_13
  have xP0_14 := xP0_13.below b14; clear xP0_13
  have xx0_14 := xx0_13.below b14; clear xx0_13
  have z14 := b14.size
  have B14 := B13.trans (b14.mono B13.size); clear b14 B13
  clear fy12_14
  go_wp2_with fail
  refine (toIntS_any _ _ _ x2 _ (h2.below B14 (Nat.le_refl _)) (by omega)).mono ?_
  rintro e w15 ⟨Ty14, rfl, fy14_15, b15⟩
  have fw0_15 := fw0_14.below b15 (.inl (Nat.le_refl _)); clear fw0_14
  have fx0_15 := fx0_14.below b15 (.inl (Nat.le_refl _)); clear fx0_14
  have fx1_15 := fx1_14.below b15 (.inl (Nat.le_refl _)); clear fx1_14
  have fx2_15 := fx2_14.below b15 (.inl (Nat.le_refl _)); clear fx2_14
  have fg0_15 := fg0_14.below b15 (.inl (Nat.le_refl _)); clear fg0_14
  have xP0_15 := xP0_14.below b15; clear xP0_14
  have xx0_15 := xx0_14.below b15; clear xx0_14
  have z15 := b15.size
  have B15 := B14.trans (b15.mono B14.size); clear b15 B14
  go_wp2_with fail
  refine (eqIntS_b _ _ _ _ _ _ _ fx2_15.reads fy14_15.reads (by omega)).mono ?_
  rintro e w16 ⟨rfl, b16⟩
  have fw0_16 := fw0_15.below b16 (.inl (Nat.le_refl _)); clear fw0_15
  have fx0_16 := fx0_15.below b16 (.inl (Nat.le_refl _)); clear fx0_15
  have fx1_16 := fx1_15.below b16 (.inl (Nat.le_refl _)); clear fx1_15
  have fx2_16 := fx2_15.below b16 (.inl (Nat.le_refl _)); clear fx2_15
  have fg0_16 := fg0_15.below b16 (.inl (Nat.le_refl _)); clear fg0_15
  have fy14_16 := fy14_15.below b16 (.inl (Nat.le_refl _)); clear fy14_15
  have xP0_16 := xP0_15.below b16; clear xP0_15
  have xx0_16 := xx0_15.below b16; clear xx0_15
  have z16 := b16.size
  have B16 := B15.trans (b16.mono B15.size); clear b16 B15
  clear fy14_16
  have qq := xx0_16; obtain ⟨qx0_0, qx0_1, qx0_2, qx0_3, qx0_4⟩ := qq
  go_wp2_with fail
  refine (markArith_c _ _ _ _ _ _ _ _ _ _ _ _ _ _ _ fx0_16 (by omega) (by omega) (by omega) (by omega)).mono ?_
  rintro e w17 ⟨rfl, fx0_17, g17⟩
  clear qx0_0 qx0_1 qx0_2 qx0_3 qx0_4
  have xP0_17 := xP0_16.chg g17 (by omega); clear xP0_16
  have xx0_17 := xx0_16.chg g17 (by omega); clear xx0_16
  have fw0_17 := fw0_16.chg g17 (.inl (by omega)); clear fw0_16
  have fx1_17 := fx1_16.chg g17 (.inr (by omega)); clear fx1_16
  have fx2_17 := fx2_16.chg g17 (.inr (by omega)); clear fx2_16
  have fg0_17 := fg0_16.chg g17 (.inr (by omega)); clear fg0_16
  have z17 := g17.size
  have B17 := g17.below_ B16 (by omega) B16.size; clear B16 fx0_16 g17
  go_wp2_with fail
  refine (markIntS_c _ _ _ _ _ _ _ _ fx1_17 (by omega) (by omega) (by omega)).mono ?_
  rintro e w18 ⟨rfl, fx1_18, g18⟩
  have xP0_18 := xP0_17.chg g18 (by omega); clear xP0_17
  have xx0_18 := xx0_17.chg g18 (by omega); clear xx0_17
  have fw0_18 := fw0_17.chg g18 (.inl (by omega)); clear fw0_17
  have fx0_18 := fx0_17.chg g18 (.inl (by omega)); clear fx0_17
  have fx2_18 := fx2_17.chg g18 (.inr (by omega)); clear fx2_17
  have fg0_18 := fg0_17.chg g18 (.inr (by omega)); clear fg0_17
  have z18 := g18.size
  have B18 := g18.below_ B17 (by omega) B17.size; clear B17 fx1_17 g18
  go_wp2_with fail
  refine (markIntS_c _ _ _ _ _ _ _ _ fx2_18 (by omega) (by omega) (by omega)).mono ?_
  rintro e w19 ⟨rfl, fx2_19, g19⟩
  have xP0_19 := xP0_18.chg g19 (by omega); clear xP0_18
  have xx0_19 := xx0_18.chg g19 (by omega); clear xx0_18
  have fw0_19 := fw0_18.chg g19 (.inl (by omega)); clear fw0_18
  have fx0_19 := fx0_18.chg g19 (.inl (by omega)); clear fx0_18
  have fx1_19 := fx1_18.chg g19 (.inl (by omega)); clear fx1_18
  have fg0_19 := fg0_18.chg g19 (.inr (by omega)); clear fg0_18
  have z19 := g19.size
  have B19 := g19.below_ B18 (by omega) B18.size; clear B18 fx2_18 g19
  go_wp2_with fail
  refine (eqIntS_b _ _ _ _ _ _ _ fg0_19.reads fw0_19.reads (by omega)).mono ?_
  rintro e w20 ⟨rfl, b20⟩
  have fw0_20 := fw0_19.below b20 (.inl (Nat.le_refl _)); clear fw0_19
  have fx0_20 := fx0_19.below b20 (.inl (Nat.le_refl _)); clear fx0_19
  have fx1_20 := fx1_19.below b20 (.inl (Nat.le_refl _)); clear fx1_19
  have fx2_20 := fx2_19.below b20 (.inl (Nat.le_refl _)); clear fx2_19
  have fg0_20 := fg0_19.below b20 (.inl (Nat.le_refl _)); clear fg0_19
  have xP0_20 := xP0_19.below b20; clear xP0_19
  have xx0_20 := xx0_19.below b20; clear xx0_19
  have z20 := b20.size
  have B20 := B19.trans (b20.mono B19.size); clear b20 B19
  go_wp2_with fail
  refine (markIntS_c _ _ _ _ _ _ _ _ fg0_20 (by omega) (by omega) (by omega)).mono ?_
  rintro e w21 ⟨rfl, fg0_21, g21⟩
  have xP0_21 := xP0_20.chg g21 (by omega); clear xP0_20
  have xx0_21 := xx0_20.chg g21 (by omega); clear xx0_20
  have fw0_21 := fw0_20.chg g21 (.inl (by omega)); clear fw0_20
  have fx0_21 := fx0_20.chg g21 (.inl (by omega)); clear fx0_20
  have fx1_21 := fx1_20.chg g21 (.inl (by omega)); clear fx1_20
  have fx2_21 := fx2_20.chg g21 (.inl (by omega)); clear fx2_20
  have z21 := g21.size
  have B21 := g21.below_ B20 (by omega) B20.size; clear B20 fg0_20 g21
  go_wp2_with fail
  refine (heldIntS_b _ _ _ _ _ fg0_21.reads (by omega) (by omega) (by omega)).mono ?_
  rintro e w22 ⟨rfl, b22⟩
  have fw0_22 := fw0_21.below b22 (.inl (Nat.le_refl _)); clear fw0_21
  have fx0_22 := fx0_21.below b22 (.inl (Nat.le_refl _)); clear fx0_21
  have fx1_22 := fx1_21.below b22 (.inl (Nat.le_refl _)); clear fx1_21
  have fx2_22 := fx2_21.below b22 (.inl (Nat.le_refl _)); clear fx2_21
  have fg0_22 := fg0_21.below b22 (.inl (Nat.le_refl _)); clear fg0_21
  have xP0_22 := xP0_21.below b22; clear xP0_21
  have xx0_22 := xx0_21.below b22; clear xx0_21
  have z22 := b22.size
  have B22 := B21.trans (b22.mono B21.size); clear b22 B21
  have qq := xP0_22; obtain ⟨qP0_0, qP0_1, qP0_2, qP0_3, qP0_4⟩ := qq
  go_wp2_with fail
  refine (toArith_any a0 y0 u0 A0 n0 c0 O0 m0 d0 _ _ _ ⟨h0.1.below B22 (Nat.le_refl _), h0.2.below B22 (Nat.le_refl _)⟩ (by omega) (by omega)).mono ?_
  rintro e w23 ⟨St22x0, Tt22x0, rfl, ft22x0_23, b23⟩
  clear qP0_0 qP0_1 qP0_2 qP0_3 qP0_4
  have fw0_23 := fw0_22.below b23 (.inl (Nat.le_refl _)); clear fw0_22
  have fx0_23 := fx0_22.below b23 (.inl (Nat.le_refl _)); clear fx0_22
  have fx1_23 := fx1_22.below b23 (.inl (Nat.le_refl _)); clear fx1_22
  have fx2_23 := fx2_22.below b23 (.inl (Nat.le_refl _)); clear fx2_22
  have fg0_23 := fg0_22.below b23 (.inl (Nat.le_refl _)); clear fg0_22
  have xP0_23 := xP0_22.below b23; clear xP0_22
  have xx0_23 := xx0_22.below b23; clear xx0_22
  have z23 := b23.size
  have B23 := B22.trans (b23.mono B22.size); clear b23 B22
  go_wp2_with fail
  refine (toIntS_any _ _ _ x1 _ (h1.below B23 (Nat.le_refl _)) (by omega)).mono ?_
  rintro e w24 ⟨Tt23x1, rfl, ft23x1_24, b24⟩
  have fw0_24 := fw0_23.below b24 (.inl (Nat.le_refl _)); clear fw0_23
  have fx0_24 := fx0_23.below b24 (.inl (Nat.le_refl _)); clear fx0_23
  have fx1_24 := fx1_23.below b24 (.inl (Nat.le_refl _)); clear fx1_23
  have fx2_24 := fx2_23.below b24 (.inl (Nat.le_refl _)); clear fx2_23
  have fg0_24 := fg0_23.below b24 (.inl (Nat.le_refl _)); clear fg0_23
  have ft22x0_24 := ft22x0_23.below b24 (.inl (Nat.le_refl _)); clear ft22x0_23
  have xP0_24 := xP0_23.below b24; clear xP0_23
  have xx0_24 := xx0_23.below b24; clear xx0_23
  have z24 := b24.size
  have B24 := B23.trans (b24.mono B23.size); clear b24 B23
  go_wp2_with fail
  refine (toIntS_any _ _ _ x2 _ (h2.below B24 (Nat.le_refl _)) (by omega)).mono ?_
  rintro e w25 ⟨Tt24x2, rfl, ft24x2_25, b25⟩
  have fw0_25 := fw0_24.below b25 (.inl (Nat.le_refl _)); clear fw0_24
  have fx0_25 := fx0_24.below b25 (.inl (Nat.le_refl _)); clear fx0_24
  have fx1_25 := fx1_24.below b25 (.inl (Nat.le_refl _)); clear fx1_24
  have fx2_25 := fx2_24.below b25 (.inl (Nat.le_refl _)); clear fx2_24
  have fg0_25 := fg0_24.below b25 (.inl (Nat.le_refl _)); clear fg0_24
  have ft22x0_25 := ft22x0_24.below b25 (.inl (Nat.le_refl _)); clear ft22x0_24
  have ft23x1_25 := ft23x1_24.below b25 (.inl (Nat.le_refl _)); clear ft23x1_24
  have xP0_25 := xP0_24.below b25; clear xP0_24
  have xx0_25 := xx0_24.below b25; clear xx0_24
  have z25 := b25.size
  have B25 := B24.trans (b25.mono B24.size); clear b25 B24
  go_wp2_with fail
  refine (ArithValues_any _ _ _ _ _ _ _ _ _ _ _ _ _ _ _ _ _ _ _ _ ft22x0_25.reads (by omega) (by omega) ft23x1_25.reads (by omega) ft24x2_25.reads (by omega) ).mono ?_
  rintro e w26 ⟨Ah0, Ch0, rfl, fh0_26, b26⟩
  have fw0_26 := fw0_25.below b26 (.inl (Nat.le_refl _)); clear fw0_25
  have fx0_26 := fx0_25.below b26 (.inl (Nat.le_refl _)); clear fx0_25
  have fx1_26 := fx1_25.below b26 (.inl (Nat.le_refl _)); clear fx1_25
  have fx2_26 := fx2_25.below b26 (.inl (Nat.le_refl _)); clear fx2_25
  have fg0_26 := fg0_25.below b26 (.inl (Nat.le_refl _)); clear fg0_25
  have ft22x0_26 := ft22x0_25.below b26 (.inl (Nat.le_refl _)); clear ft22x0_25
  have ft23x1_26 := ft23x1_25.below b26 (.inl (Nat.le_refl _)); clear ft23x1_25
  have ft24x2_26 := ft24x2_25.below b26 (.inl (Nat.le_refl _)); clear ft24x2_25
  have xP0_26 := xP0_25.below b26; clear xP0_25
  have xx0_26 := xx0_25.below b26; clear xx0_25
  have z26 := b26.size
  have B26 := B25.trans (b26.mono B25.size); clear b26 B25
  clear ft22x0_26
  clear ft23x1_26
  clear ft24x2_26
  go_wp2_with fail
  refine (eqIntS_b _ _ _ _ _ _ _ fh0_26.reads fw0_26.reads (by omega)).mono ?_
  rintro e w27 ⟨rfl, b27⟩
  have fw0_27 := fw0_26.below b27 (.inl (Nat.le_refl _)); clear fw0_26
  have fx0_27 := fx0_26.below b27 (.inl (Nat.le_refl _)); clear fx0_26
  have fx1_27 := fx1_26.below b27 (.inl (Nat.le_refl _)); clear fx1_26
  have fx2_27 := fx2_26.below b27 (.inl (Nat.le_refl _)); clear fx2_26
  have fg0_27 := fg0_26.below b27 (.inl (Nat.le_refl _)); clear fg0_26
  have fh0_27 := fh0_26.below b27 (.inl (Nat.le_refl _)); clear fh0_26
  have xP0_27 := xP0_26.below b27; clear xP0_26
  have xx0_27 := xx0_26.below b27; clear xx0_26
  have z27 := b27.size
  have B27 := B26.trans (b27.mono B26.size); clear b27 B26
  go_wp2_with fail
  refine (heldIntS_b _ _ _ _ _ fg0_27.reads (by omega) (by omega) (by omega)).mono ?_
  rintro e w28 ⟨rfl, b28⟩
  have fw0_28 := fw0_27.below b28 (.inl (Nat.le_refl _)); clear fw0_27
  have fx0_28 := fx0_27.below b28 (.inl (Nat.le_refl _)); clear fx0_27
  have fx1_28 := fx1_27.below b28 (.inl (Nat.le_refl _)); clear fx1_27
  have fx2_28 := fx2_27.below b28 (.inl (Nat.le_refl _)); clear fx2_27
  have fg0_28 := fg0_27.below b28 (.inl (Nat.le_refl _)); clear fg0_27
  have fh0_28 := fh0_27.below b28 (.inl (Nat.le_refl _)); clear fh0_27
  have xP0_28 := xP0_27.below b28; clear xP0_27
  have xx0_28 := xx0_27.below b28; clear xx0_27
  have z28 := b28.size
  have B28 := B27.trans (b28.mono B27.size); clear b28 B27
  go_wp2
  go_ret
  exact ⟨rfl, B28⟩

end Go.Proofs.Ytanlbdkggocdiaa.lawArithValues
