/- The walk of the law FnExactCountInputs: whatever its arguments read as, it returns true and leaves what was there. No condition. -/
import Derived.Test.YtanlbdkggocdiaaChg
import Derived.Test.YtanlbdkggocdiaaCount
import Derived.Test.YtanlbdkggocdiaaCLaw2
namespace Go.Proofs.Ytanlbdkggocdiaa.lawCountInputs
open Go.RowKit
set_option linter.unusedVariables false
set_option linter.unusedSimpArgs false

set_option maxRecDepth 100000 in
set_option maxHeartbeats 8000000 in
theorem walk (a0 : Int) (y0 u0 : Int) (A0 : Option Addr) (n0 c0 : Nat) (O0 : Option Addr) (m0 d0 : Nat) (g0 : List G3) (o0 : List Int) (a1 : Option Addr) (n1 c1 : Nat) (x1 : List Int) (w : World) (h0 : (RG w A0 n0 g0 ∧ RI w O0 m0 o0) ∧ n0 ≤ maxLen ∧ m0 ≤ maxLen) (h1 : RI w a1 n1 x1) :
    Calls Try.prog 12 #[.agg #[.int .i64 a0, .int .i64 y0, .int .i64 u0, .slice A0 n0 c0, .slice O0 m0 d0], .slice a1 n1 c1] w fun e w' => e = .returned (.bool true) ∧ Below w.heap.size w w' := by
  obtain ⟨h0, hN0, hM0⟩ := h0
  have al1 : Below w.heap.size w (w.alloc (.cells #[.int .i64 a0, .int .i64 y0, .int .i64 u0, .slice A0 n0 c0, .slice O0 m0 d0] 25)) := (Below.refl _ _).alloc (Nat.le_refl _) _
  have xP0_al1 : BxA (w.alloc (.cells #[.int .i64 a0, .int .i64 y0, .int .i64 u0, .slice A0 n0 c0, .slice O0 m0 d0] 25)) w.heap.size a0 y0 u0 A0 n0 c0 O0 m0 d0 := BxA.new _ _
  have Bq1 := al1
  clear al1
  by_cases s1 : n1 ≤ 1048576
  rotate_left
  · have s1' : (1048576 : Int) < (n1 : Int) := by omega
    go_enter Try.func12, Try.ntmps12
    go_wp2
    go_ret
    exact ⟨rfl, Bq1⟩
  have l0 := h0.1.len; have k0 := h0.2.len
  have l1 := h1.len
  by_cases t0 : (szC 1048576 n0 m0) < 0
  · skip
    go_enter Try.func12, Try.ntmps12
    have qq := xP0_al1; obtain ⟨qP0_0, qP0_1, qP0_2, qP0_3, qP0_4⟩ := qq
    go_wp2_with fail
    refine (szArith_any a0 y0 u0 A0 n0 c0 O0 m0 d0 1048576 _ (by omega) hN0 hM0).mono ?_
    rintro e w1 ⟨rfl, b1⟩
    clear qP0_0 qP0_1 qP0_2 qP0_3 qP0_4
    have xP0_1 := xP0_al1.below b1; clear xP0_al1
    have z1 := b1.size
    simp only [World.size_alloc] at z1
    have B1 := Bq1.trans (b1.mono Bq1.size); clear b1 Bq1
    go_wp2
    go_ret
    exact ⟨rfl, B1⟩
  obtain ⟨ta0, tb0, tc0, td0⟩ := szC_pos (l := 1048576) (n := n0) (m := m0) t0
  go_enter Try.func12, Try.ntmps12
  have qq := xP0_al1; obtain ⟨qP0_0, qP0_1, qP0_2, qP0_3, qP0_4⟩ := qq
  go_wp2_with fail
  refine (szArith_any a0 y0 u0 A0 n0 c0 O0 m0 d0 1048576 _ (by omega) hN0 hM0).mono ?_
  rintro e w1 ⟨rfl, b1⟩
  clear qP0_0 qP0_1 qP0_2 qP0_3 qP0_4
  have xP0_1 := xP0_al1.below b1; clear xP0_al1
  have z1 := b1.size
  simp only [World.size_alloc] at z1
  have B1 := Bq1.trans (b1.mono Bq1.size); clear b1 Bq1
  have qq := xP0_1; obtain ⟨qP0_0, qP0_1, qP0_2, qP0_3, qP0_4⟩ := qq
  go_wp2_with fail
  refine (toArith_any a0 y0 u0 A0 n0 c0 O0 m0 d0 _ _ _ ⟨h0.1.below B1 (Nat.le_refl _), h0.2.below B1 (Nat.le_refl _)⟩ (by omega) (by omega)).mono ?_
  rintro e w2 ⟨St1x0, Tt1x0, rfl, ft1x0_2, b2⟩
  clear qP0_0 qP0_1 qP0_2 qP0_3 qP0_4
  have xP0_2 := xP0_1.below b2; clear xP0_1
  have z2 := b2.size
  have B2 := B1.trans (b2.mono B1.size); clear b2 B1
  go_wp2_with fail
  refine (toIntS_any _ _ _ x1 _ (h1.below B2 (Nat.le_refl _)) (by omega)).mono ?_
  rintro e w3 ⟨Tt2x1, rfl, ft2x1_3, b3⟩
  have ft1x0_3 := ft1x0_2.below b3 (.inl (Nat.le_refl _)); clear ft1x0_2
  have xP0_3 := xP0_2.below b3; clear xP0_2
  have z3 := b3.size
  have B3 := B2.trans (b3.mono B2.size); clear b3 B2
  go_wp2_with fail
  refine (spec_CountInputs_any _ _ _ _ _ _ _ _ _ _ _ _ _ _ _ _ ft1x0_3.reads (by omega) (by omega) ft2x1_3.reads (by omega) ).mono ?_
  rintro e w4 ⟨rfl, b4⟩
  have ft1x0_4 := ft1x0_3.below b4 (.inl (Nat.le_refl _)); clear ft1x0_3
  have ft2x1_4 := ft2x1_3.below b4 (.inl (Nat.le_refl _)); clear ft2x1_3
  have xP0_4 := xP0_3.below b4; clear xP0_3
  have z4 := b4.size
  have B4 := B3.trans (b4.mono B3.size); clear b4 B3
  clear ft1x0_4
  clear ft2x1_4
  have qq := xP0_4; obtain ⟨qP0_0, qP0_1, qP0_2, qP0_3, qP0_4⟩ := qq
  go_wp2_with fail
  refine (toArith_any a0 y0 u0 A0 n0 c0 O0 m0 d0 _ _ _ ⟨h0.1.below B4 (Nat.le_refl _), h0.2.below B4 (Nat.le_refl _)⟩ (by omega) (by omega)).mono ?_
  rintro e w5 ⟨Sx0, Tx0, rfl, fx0_5, b5⟩
  clear qP0_0 qP0_1 qP0_2 qP0_3 qP0_4
  have xP0_5 := xP0_4.below b5; clear xP0_4
  have z5 := b5.size
  have B5 := B4.trans (b5.mono B4.size); clear b5 B4
  have al2 : Below w5.heap.size w5 (w5.alloc (.cells #[.int .i64 a0, .int .i64 y0, .int .i64 u0, .slice (some Sx0) n0 n0, .slice (some Tx0) m0 m0] 31)) := (Below.refl _ _).alloc (Nat.le_refl _) _
  have fx0_al2 := fx0_5.below al2 (.inl (Nat.le_refl _)); clear fx0_5
  have xP0_al2 := xP0_5.below al2; clear xP0_5
  have xx0_al2 : BxA (w5.alloc (.cells #[.int .i64 a0, .int .i64 y0, .int .i64 u0, .slice (some Sx0) n0 n0, .slice (some Tx0) m0 m0] 31)) w5.heap.size a0 y0 u0 (some Sx0) n0 n0 (some Tx0) m0 m0 := BxA.new _ _
  have Bq2 := B5.trans (al2.mono B5.size); clear B5
  clear al2
  go_wp2_with fail
  refine (toIntS_any _ _ _ x1 _ (h1.below Bq2 (Nat.le_refl _)) (by omega)).mono ?_
  rintro e w6 ⟨Tx1, rfl, fx1_6, b6⟩
  have fx0_6 := fx0_al2.below b6 (.inl (Nat.le_refl _)); clear fx0_al2
  have xP0_6 := xP0_al2.below b6; clear xP0_al2
  have xx0_6 := xx0_al2.below b6; clear xx0_al2
  have z6 := b6.size
  simp only [World.size_alloc] at z6
  simp only [World.size_alloc] at fx1_6
  have B6 := Bq2.trans (b6.mono Bq2.size); clear b6 Bq2
  have qq := xx0_6; obtain ⟨qx0_0, qx0_1, qx0_2, qx0_3, qx0_4⟩ := qq
  go_wp2_with fail
  refine (CountInputs_any _ _ _ _ _ _ _ _ _ _ _ _ _ _ _ _ fx0_6.reads (by omega) (by omega) fx1_6.reads (by omega) ).mono ?_
  rintro e w7 ⟨rfl, b7⟩
  clear qx0_0 qx0_1 qx0_2 qx0_3 qx0_4
  have fx0_7 := fx0_6.below b7 (.inl (Nat.le_refl _)); clear fx0_6
  have fx1_7 := fx1_6.below b7 (.inl (Nat.le_refl _)); clear fx1_6
  have xP0_7 := xP0_6.below b7; clear xP0_6
  have xx0_7 := xx0_6.below b7; clear xx0_6
  have z7 := b7.size
  have B7 := B6.trans (b7.mono B6.size); clear b7 B6
  have qq := xx0_7; obtain ⟨qx0_0, qx0_1, qx0_2, qx0_3, qx0_4⟩ := qq
  have qq := xP0_7; obtain ⟨qP0_0, qP0_1, qP0_2, qP0_3, qP0_4⟩ := qq
  have Bd8 := below_drewN B7 1
  go_wp2_with fail
  go_region_held3 (fun w' => w'.cell? ⟨w5.heap.size, 0, none⟩ = some (.int .i64 a0) ∧ w'.cell? ⟨w5.heap.size, 1, none⟩ = some (.int .i64 y0) ∧ w'.cell? ⟨w5.heap.size, 2, none⟩ = some (.int .i64 u0) ∧ w'.cell? ⟨w5.heap.size, 3, none⟩ = some (.slice (some Sx0) n0 n0) ∧ w'.cell? ⟨w5.heap.size, 4, none⟩ = some (.slice (some Tx0) m0 m0) ∧ w'.cell? ⟨w.heap.size, 0, none⟩ = some (.int .i64 a0) ∧ w'.cell? ⟨w.heap.size, 1, none⟩ = some (.int .i64 y0) ∧ w'.cell? ⟨w.heap.size, 2, none⟩ = some (.int .i64 u0) ∧ w'.cell? ⟨w.heap.size, 3, none⟩ = some (.slice A0 n0 c0) ∧ w'.cell? ⟨w.heap.size, 4, none⟩ = some (.slice O0 m0 d0))
    (first | go_keep | (go_split_ands; exact ⟨cell_below (by assumption) b9, cell_below (by assumption) b9, cell_below (by assumption) b9, cell_below (by assumption) b9, cell_below (by assumption) b9, cell_below (by assumption) b9, cell_below (by assumption) b9, cell_below (by assumption) b9, cell_below (by assumption) b9, cell_below (by assumption) b9⟩) | (go_split_ands; exact ⟨cell_below (by assumption) b8, cell_below (by assumption) b8, cell_below (by assumption) b8, cell_below (by assumption) b8, cell_below (by assumption) b8, cell_below (by assumption) b8, cell_below (by assumption) b8, cell_below (by assumption) b8, cell_below (by assumption) b8, cell_below (by assumption) b8⟩))
    (first | (go_at_call 22; refine (toArith_any a0 y0 u0 A0 n0 c0 O0 m0 d0 _ _ _ ⟨h0.1.below Bd8 (Nat.le_refl _), h0.2.below Bd8 (Nat.le_refl _)⟩ (by omega) (by omega)).mono ?_; rintro e w8 ⟨Sy7, Ty7, rfl, fy7_8, b8⟩) | (go_at_call 26; refine (eqArith_any _ _ _ _ _ _ _ _ _ _ _ _ _ _ _ _ (OwnC.reads (OwnC.below (w := World.drewN w7 1) fx0_7 b8 (.inl (Nat.le_refl _)))) fy7_8.reads (by omega) (by omega)).mono ?_; rintro e w9 ⟨rfl, b9⟩))
  clear qx0_0 qx0_1 qx0_2 qx0_3 qx0_4 qP0_0 qP0_1 qP0_2 qP0_3 qP0_4
  have b8_ : Below w7.heap.size w7 w8 := (below_drewN (Below.refl _ _) 1).trans (b8.mono (Nat.le_refl _)); clear b8; have b8 := b8_; clear b8_
  clear fy7_8 Bd8
  have fx0_8 := fx0_7.below b8 (.inl (Nat.le_refl _)); clear fx0_7
  have fx1_8 := fx1_7.below b8 (.inl (Nat.le_refl _)); clear fx1_7
  have xP0_8 := xP0_7.below b8; clear xP0_7
  have xx0_8 := xx0_7.below b8; clear xx0_7
  have z8 := b8.size
  have B8 := B7.trans (b8.mono B7.size); clear b8 B7
  have fx0_9 := fx0_8.below b9 (.inl (Nat.le_refl _)); clear fx0_8
  have fx1_9 := fx1_8.below b9 (.inl (Nat.le_refl _)); clear fx1_8
  have xP0_9 := xP0_8.below b9; clear xP0_8
  have xx0_9 := xx0_8.below b9; clear xx0_8
  have z9 := b9.size
  have B9 := B8.trans (b9.mono B8.size); clear b9 B8
  go_wp2_with fail
  refine (toIntS_any _ _ _ x1 _ (h1.below B9 (Nat.le_refl _)) (by omega)).mono ?_
  rintro e w10 ⟨Ty9, rfl, fy9_10, b10⟩
  have fx0_10 := fx0_9.below b10 (.inl (Nat.le_refl _)); clear fx0_9
  have fx1_10 := fx1_9.below b10 (.inl (Nat.le_refl _)); clear fx1_9
  have xP0_10 := xP0_9.below b10; clear xP0_9
  have xx0_10 := xx0_9.below b10; clear xx0_9
  have z10 := b10.size
  have B10 := B9.trans (b10.mono B9.size); clear b10 B9
  go_wp2_with fail
  refine (eqIntS_b _ _ _ _ _ _ _ fx1_10.reads fy9_10.reads (by omega)).mono ?_
  rintro e w11 ⟨rfl, b11⟩
  have fx0_11 := fx0_10.below b11 (.inl (Nat.le_refl _)); clear fx0_10
  have fx1_11 := fx1_10.below b11 (.inl (Nat.le_refl _)); clear fx1_10
  have fy9_11 := fy9_10.below b11 (.inl (Nat.le_refl _)); clear fy9_10
  have xP0_11 := xP0_10.below b11; clear xP0_10
  have xx0_11 := xx0_10.below b11; clear xx0_10
  have z11 := b11.size
  have B11 := B10.trans (b11.mono B10.size); clear b11 B10
  clear fy9_11
  go_wp2
  go_ret
  exact ⟨rfl, B11⟩

end Go.Proofs.Ytanlbdkggocdiaa.lawCountInputs
