/- The walk of the law FnExactAreEqual: whatever its arguments read as, it returns true and leaves what was there. No condition. -/
import Derived.Test.YtanlbdkggocdiaaChg
import Derived.Test.YtanlbdkggocdiaaPairD
import Derived.Test.YtanlbdkggocdiaaCLaw2
namespace Go.Proofs.Ytanlbdkggocdiaa.lawAreEqual
open Go.RowKit
set_option linter.unusedVariables false
set_option linter.unusedSimpArgs false

set_option maxRecDepth 100000 in
set_option maxHeartbeats 8000000 in
theorem walk (y0 u0 : Int) (A0 : Option Addr) (n0 c0 : Nat) (O0 : Option Addr) (m0 d0 : Nat) (g0 : List G3) (o0 : List Int) (y1 u1 : Int) (A1 : Option Addr) (n1 c1 : Nat) (O1 : Option Addr) (m1 d1 : Nat) (g1 : List G3) (o1 : List Int) (w : World) (h0 : (RG w A0 n0 g0 ∧ RI w O0 m0 o0) ∧ n0 ≤ maxLen ∧ m0 ≤ maxLen) (h1 : (RG w A1 n1 g1 ∧ RI w O1 m1 o1) ∧ n1 ≤ maxLen ∧ m1 ≤ maxLen) :
    Calls Try.prog 6 #[.agg #[.int .i64 y0, .int .i64 u0, .slice A0 n0 c0, .slice O0 m0 d0], .agg #[.int .i64 y1, .int .i64 u1, .slice A1 n1 c1, .slice O1 m1 d1]] w fun e w' => e = .returned (.bool true) ∧ Below w.heap.size w w' := by
  obtain ⟨h0, hN0, hM0⟩ := h0
  obtain ⟨h1, hN1, hM1⟩ := h1
  have al1 : Below w.heap.size w (w.alloc (.cells #[.int .i64 y0, .int .i64 u0, .slice A0 n0 c0, .slice O0 m0 d0] 40)) := (Below.refl _ _).alloc (Nat.le_refl _) _
  have xP0_al1 : BxC (w.alloc (.cells #[.int .i64 y0, .int .i64 u0, .slice A0 n0 c0, .slice O0 m0 d0] 40)) w.heap.size y0 u0 A0 n0 c0 O0 m0 d0 := BxC.new _ _
  have Bq1 := al1
  clear al1
  have al2 : Below (w.alloc (.cells #[.int .i64 y0, .int .i64 u0, .slice A0 n0 c0, .slice O0 m0 d0] 40)).heap.size (w.alloc (.cells #[.int .i64 y0, .int .i64 u0, .slice A0 n0 c0, .slice O0 m0 d0] 40)) ((w.alloc (.cells #[.int .i64 y0, .int .i64 u0, .slice A0 n0 c0, .slice O0 m0 d0] 40)).alloc (.cells #[.int .i64 y1, .int .i64 u1, .slice A1 n1 c1, .slice O1 m1 d1] 40)) := (Below.refl _ _).alloc (Nat.le_refl _) _
  have xP0_al2 := xP0_al1.below al2; clear xP0_al1
  have xP1_al2 : BxC ((w.alloc (.cells #[.int .i64 y0, .int .i64 u0, .slice A0 n0 c0, .slice O0 m0 d0] 40)).alloc (.cells #[.int .i64 y1, .int .i64 u1, .slice A1 n1 c1, .slice O1 m1 d1] 40)) (w.alloc (.cells #[.int .i64 y0, .int .i64 u0, .slice A0 n0 c0, .slice O0 m0 d0] 40)).heap.size y1 u1 A1 n1 c1 O1 m1 d1 := BxC.new _ _
  simp only [World.size_alloc] at xP1_al2
  have Bq2 := Bq1.trans (al2.mono Bq1.size); clear Bq1
  clear al2
  have l0 := h0.1.len; have k0 := h0.2.len
  have l1 := h1.1.len; have k1 := h1.2.len
  by_cases t0 : (szC 1048576 n0 m0) < 0
  · skip
    go_enter Try.func6, Try.ntmps6
    have qq := xP0_al2; obtain ⟨qP0_0, qP0_1, qP0_2, qP0_3⟩ := qq
    go_wp2_with fail
    refine (szCircuit_any y0 u0 A0 n0 c0 O0 m0 d0 1048576 _ (by omega) hN0 hM0).mono ?_
    rintro e w1 ⟨rfl, b1⟩
    clear qP0_0 qP0_1 qP0_2 qP0_3
    have xP0_1 := xP0_al2.below b1; clear xP0_al2
    have xP1_1 := xP1_al2.below b1; clear xP1_al2
    have z1 := b1.size
    simp only [World.size_alloc] at z1
    have B1 := Bq2.trans (b1.mono Bq2.size); clear b1 Bq2
    go_wp2
    go_ret
    exact ⟨rfl, B1⟩
  obtain ⟨ta0, tb0, tc0, td0⟩ := szC_pos (l := 1048576) (n := n0) (m := m0) t0
  by_cases t1 : (szC (szC 1048576 n0 m0) n1 m1) < 0
  · skip
    go_enter Try.func6, Try.ntmps6
    have qq := xP0_al2; obtain ⟨qP0_0, qP0_1, qP0_2, qP0_3⟩ := qq
    go_wp2_with fail
    refine (szCircuit_any y0 u0 A0 n0 c0 O0 m0 d0 1048576 _ (by omega) hN0 hM0).mono ?_
    rintro e w1 ⟨rfl, b1⟩
    clear qP0_0 qP0_1 qP0_2 qP0_3
    have xP0_1 := xP0_al2.below b1; clear xP0_al2
    have xP1_1 := xP1_al2.below b1; clear xP1_al2
    have z1 := b1.size
    simp only [World.size_alloc] at z1
    have B1 := Bq2.trans (b1.mono Bq2.size); clear b1 Bq2
    have qq := xP1_1; obtain ⟨qP1_0, qP1_1, qP1_2, qP1_3⟩ := qq
    go_wp2_with fail
    refine (szCircuit_any y1 u1 A1 n1 c1 O1 m1 d1 (szC 1048576 n0 m0) _ (by omega) hN1 hM1).mono ?_
    rintro e w2 ⟨rfl, b2⟩
    clear qP1_0 qP1_1 qP1_2 qP1_3
    have xP0_2 := xP0_1.below b2; clear xP0_1
    have xP1_2 := xP1_1.below b2; clear xP1_1
    have z2 := b2.size
    have B2 := B1.trans (b2.mono B1.size); clear b2 B1
    go_wp2
    go_ret
    exact ⟨rfl, B2⟩
  obtain ⟨ta1, tb1, tc1, td1⟩ := szC_pos (l := (szC 1048576 n0 m0)) (n := n1) (m := m1) t1
  go_enter Try.func6, Try.ntmps6
  have qq := xP0_al2; obtain ⟨qP0_0, qP0_1, qP0_2, qP0_3⟩ := qq
  go_wp2_with fail
  refine (szCircuit_any y0 u0 A0 n0 c0 O0 m0 d0 1048576 _ (by omega) hN0 hM0).mono ?_
  rintro e w1 ⟨rfl, b1⟩
  clear qP0_0 qP0_1 qP0_2 qP0_3
  have xP0_1 := xP0_al2.below b1; clear xP0_al2
  have xP1_1 := xP1_al2.below b1; clear xP1_al2
  have z1 := b1.size
  simp only [World.size_alloc] at z1
  have B1 := Bq2.trans (b1.mono Bq2.size); clear b1 Bq2
  have qq := xP1_1; obtain ⟨qP1_0, qP1_1, qP1_2, qP1_3⟩ := qq
  go_wp2_with fail
  refine (szCircuit_any y1 u1 A1 n1 c1 O1 m1 d1 (szC 1048576 n0 m0) _ (by omega) hN1 hM1).mono ?_
  rintro e w2 ⟨rfl, b2⟩
  clear qP1_0 qP1_1 qP1_2 qP1_3
  have xP0_2 := xP0_1.below b2; clear xP0_1
  have xP1_2 := xP1_1.below b2; clear xP1_1
  have z2 := b2.size
  have B2 := B1.trans (b2.mono B1.size); clear b2 B1
  have Bd2 := below_drewN B2 1
  have qq := xP0_2; obtain ⟨qP0_0, qP0_1, qP0_2, qP0_3⟩ := qq
  have qq := xP1_2; obtain ⟨qP1_0, qP1_1, qP1_2, qP1_3⟩ := qq
  go_wp2_with fail
  go_region_held3 (fun w' => w'.cell? ⟨w.heap.size, 0, none⟩ = some (.int .i64 y0) ∧ w'.cell? ⟨w.heap.size, 1, none⟩ = some (.int .i64 u0) ∧ w'.cell? ⟨w.heap.size, 2, none⟩ = some (.slice A0 n0 c0) ∧ w'.cell? ⟨w.heap.size, 3, none⟩ = some (.slice O0 m0 d0) ∧ w'.cell? ⟨(w.heap.size + 1), 0, none⟩ = some (.int .i64 y1) ∧ w'.cell? ⟨(w.heap.size + 1), 1, none⟩ = some (.int .i64 u1) ∧ w'.cell? ⟨(w.heap.size + 1), 2, none⟩ = some (.slice A1 n1 c1) ∧ w'.cell? ⟨(w.heap.size + 1), 3, none⟩ = some (.slice O1 m1 d1))
    (first | go_keep | (go_split_ands; exact ⟨cell_below (by assumption) b5, cell_below (by assumption) b5, cell_below (by assumption) b5, cell_below (by assumption) b5, cell_below (by assumption) b5, cell_below (by assumption) b5, cell_below (by assumption) b5, cell_below (by assumption) b5⟩) | (go_split_ands; exact ⟨cell_below (by assumption) b4, cell_below (by assumption) b4, cell_below (by assumption) b4, cell_below (by assumption) b4, cell_below (by assumption) b4, cell_below (by assumption) b4, cell_below (by assumption) b4, cell_below (by assumption) b4⟩) | (go_split_ands; exact ⟨cell_below (by assumption) b3, cell_below (by assumption) b3, cell_below (by assumption) b3, cell_below (by assumption) b3, cell_below (by assumption) b3, cell_below (by assumption) b3, cell_below (by assumption) b3, cell_below (by assumption) b3⟩))
    (first | (go_at_call_of 32 (Value.agg #[.int .i64 y0, .int .i64 u0, .slice A0 n0 c0, .slice O0 m0 d0]); refine (toCircuit_any y0 u0 A0 n0 c0 O0 m0 d0 _ _ _ ⟨h0.1.below Bd2 (Nat.le_refl _), h0.2.below Bd2 (Nat.le_refl _)⟩ (by omega) (by omega)).mono ?_; rintro e w3 ⟨St2x0, Tt2x0, rfl, ft2x0, b3⟩) | (go_at_call_of 32 (Value.agg #[.int .i64 y1, .int .i64 u1, .slice A1 n1 c1, .slice O1 m1 d1]); refine (toCircuit_any y1 u1 A1 n1 c1 O1 m1 d1 _ _ _ ⟨h1.1.below (Bd2.trans (b3.mono Bd2.size)) (Nat.le_refl _), h1.2.below (Bd2.trans (b3.mono Bd2.size)) (Nat.le_refl _)⟩ (by omega) (by omega)).mono ?_; rintro e w4 ⟨St2x1, Tt2x1, rfl, ft2x1, b4⟩) | (go_at_call 38; refine (spec_AreEqual_any _ _ _ _ _ _ _ _ _ _ _ _ _ _ _ _ _ _ _ _ _ (ft2x0.below b4 (.inl (Nat.le_refl _))).reads (by omega) (by omega) ft2x1.reads (by omega) (by omega) ).mono ?_; rintro e w5 ⟨rfl, b5⟩))
  clear qP0_0 qP0_1 qP0_2 qP0_3 qP1_0 qP1_1 qP1_2 qP1_3
  have b3_ : Below w2.heap.size w2 w3 := (below_drewN (Below.refl _ _) 1).trans (b3.mono (Nat.le_refl _)); clear b3; have b3 := b3_; clear b3_
  have xP0_3 := xP0_2.below b3; clear xP0_2
  have xP1_3 := xP1_2.below b3; clear xP1_2
  have z3 := b3.size
  have B3 := B2.trans (b3.mono B2.size); clear b3 B2
  have xP0_4 := xP0_3.below b4; clear xP0_3
  have xP1_4 := xP1_3.below b4; clear xP1_3
  have z4 := b4.size
  have B4 := B3.trans (b4.mono B3.size); clear b4 B3
  have xP0_5 := xP0_4.below b5; clear xP0_4
  have xP1_5 := xP1_4.below b5; clear xP1_4
  have z5 := b5.size
  have B5 := B4.trans (b5.mono B4.size); clear b5 B4
  clear Bd2 ft2x0 ft2x1
  have qq := xP0_5; obtain ⟨qP0_0, qP0_1, qP0_2, qP0_3⟩ := qq
  go_wp2_with fail
  refine (toCircuit_any y0 u0 A0 n0 c0 O0 m0 d0 _ _ _ ⟨h0.1.below B5 (Nat.le_refl _), h0.2.below B5 (Nat.le_refl _)⟩ (by omega) (by omega)).mono ?_
  rintro e w6 ⟨Sx0, Tx0, rfl, fx0_6, b6⟩
  clear qP0_0 qP0_1 qP0_2 qP0_3
  have xP0_6 := xP0_5.below b6; clear xP0_5
  have xP1_6 := xP1_5.below b6; clear xP1_5
  have z6 := b6.size
  have B6 := B5.trans (b6.mono B5.size); clear b6 B5
  have al3 : Below w6.heap.size w6 (w6.alloc (.cells #[.int .i64 y0, .int .i64 u0, .slice (some Sx0) n0 n0, .slice (some Tx0) m0 m0] 45)) := (Below.refl _ _).alloc (Nat.le_refl _) _
  have fx0_al3 := fx0_6.below al3 (.inl (Nat.le_refl _)); clear fx0_6
  have xP0_al3 := xP0_6.below al3; clear xP0_6
  have xP1_al3 := xP1_6.below al3; clear xP1_6
  have xx0_al3 : BxC (w6.alloc (.cells #[.int .i64 y0, .int .i64 u0, .slice (some Sx0) n0 n0, .slice (some Tx0) m0 m0] 45)) w6.heap.size y0 u0 (some Sx0) n0 n0 (some Tx0) m0 m0 := BxC.new _ _
  have Bq3 := B6.trans (al3.mono B6.size); clear B6
  clear al3
  have qq := xP1_al3; obtain ⟨qP1_0, qP1_1, qP1_2, qP1_3⟩ := qq
  go_wp2_with fail
  refine (toCircuit_any y1 u1 A1 n1 c1 O1 m1 d1 _ _ _ ⟨h1.1.below Bq3 (Nat.le_refl _), h1.2.below Bq3 (Nat.le_refl _)⟩ (by omega) (by omega)).mono ?_
  rintro e w7 ⟨Sx1, Tx1, rfl, fx1_7, b7⟩
  clear qP1_0 qP1_1 qP1_2 qP1_3
  have fx0_7 := fx0_al3.below b7 (.inl (Nat.le_refl _)); clear fx0_al3
  have xP0_7 := xP0_al3.below b7; clear xP0_al3
  have xP1_7 := xP1_al3.below b7; clear xP1_al3
  have xx0_7 := xx0_al3.below b7; clear xx0_al3
  have z7 := b7.size
  simp only [World.size_alloc] at z7
  simp only [World.size_alloc] at fx1_7
  have B7 := Bq3.trans (b7.mono Bq3.size); clear b7 Bq3
  have al4 : Below w7.heap.size w7 (w7.alloc (.cells #[.int .i64 y1, .int .i64 u1, .slice (some Sx1) n1 n1, .slice (some Tx1) m1 m1] 45)) := (Below.refl _ _).alloc (Nat.le_refl _) _
  have fx0_al4 := fx0_7.below al4 (.inl (Nat.le_refl _)); clear fx0_7
  have fx1_al4 := fx1_7.below al4 (.inl (Nat.le_refl _)); clear fx1_7
  have xP0_al4 := xP0_7.below al4; clear xP0_7
  have xP1_al4 := xP1_7.below al4; clear xP1_7
  have xx0_al4 := xx0_7.below al4; clear xx0_7
  have xx1_al4 : BxC (w7.alloc (.cells #[.int .i64 y1, .int .i64 u1, .slice (some Sx1) n1 n1, .slice (some Tx1) m1 m1] 45)) w7.heap.size y1 u1 (some Sx1) n1 n1 (some Tx1) m1 m1 := BxC.new _ _
  have Bq4 := B7.trans (al4.mono B7.size); clear B7
  clear al4
  have qq := xx0_al4; obtain ⟨qx0_0, qx0_1, qx0_2, qx0_3⟩ := qq
  have qq := xx1_al4; obtain ⟨qx1_0, qx1_1, qx1_2, qx1_3⟩ := qq
  go_wp2_with fail
  refine (AreEqual_any _ _ _ _ _ _ _ _ _ _ _ _ _ _ _ _ _ _ _ _ _ fx0_al4.reads (by omega) (by omega) fx1_al4.reads (by omega) (by omega) ).mono ?_
  rintro e w8 ⟨rfl, b8⟩
  clear qx0_0 qx0_1 qx0_2 qx0_3 qx1_0 qx1_1 qx1_2 qx1_3
  have fx0_8 := fx0_al4.below b8 (.inl (Nat.le_refl _)); clear fx0_al4
  have fx1_8 := fx1_al4.below b8 (.inl (Nat.le_refl _)); clear fx1_al4
  have xP0_8 := xP0_al4.below b8; clear xP0_al4
  have xP1_8 := xP1_al4.below b8; clear xP1_al4
  have xx0_8 := xx0_al4.below b8; clear xx0_al4
  have xx1_8 := xx1_al4.below b8; clear xx1_al4
  have z8 := b8.size
  simp only [World.size_alloc] at z8
  have B8 := Bq4.trans (b8.mono Bq4.size); clear b8 Bq4
  have qq := xx0_8; obtain ⟨qx0_0, qx0_1, qx0_2, qx0_3⟩ := qq
  have qq := xP0_8; obtain ⟨qP0_0, qP0_1, qP0_2, qP0_3⟩ := qq
  have Bd9 := below_drewN B8 1
  go_wp2_with fail
  go_region_held3 (fun w' => w'.cell? ⟨w6.heap.size, 0, none⟩ = some (.int .i64 y0) ∧ w'.cell? ⟨w6.heap.size, 1, none⟩ = some (.int .i64 u0) ∧ w'.cell? ⟨w6.heap.size, 2, none⟩ = some (.slice (some Sx0) n0 n0) ∧ w'.cell? ⟨w6.heap.size, 3, none⟩ = some (.slice (some Tx0) m0 m0) ∧ w'.cell? ⟨w.heap.size, 0, none⟩ = some (.int .i64 y0) ∧ w'.cell? ⟨w.heap.size, 1, none⟩ = some (.int .i64 u0) ∧ w'.cell? ⟨w.heap.size, 2, none⟩ = some (.slice A0 n0 c0) ∧ w'.cell? ⟨w.heap.size, 3, none⟩ = some (.slice O0 m0 d0))
    (first | go_keep | (go_split_ands; exact ⟨cell_below (by assumption) b10, cell_below (by assumption) b10, cell_below (by assumption) b10, cell_below (by assumption) b10, cell_below (by assumption) b10, cell_below (by assumption) b10, cell_below (by assumption) b10, cell_below (by assumption) b10⟩) | (go_split_ands; exact ⟨cell_below (by assumption) b9, cell_below (by assumption) b9, cell_below (by assumption) b9, cell_below (by assumption) b9, cell_below (by assumption) b9, cell_below (by assumption) b9, cell_below (by assumption) b9, cell_below (by assumption) b9⟩))
    (first | (go_at_call 32; refine (toCircuit_any y0 u0 A0 n0 c0 O0 m0 d0 _ _ _ ⟨h0.1.below Bd9 (Nat.le_refl _), h0.2.below Bd9 (Nat.le_refl _)⟩ (by omega) (by omega)).mono ?_; rintro e w9 ⟨Sy8, Ty8, rfl, fy8_9, b9⟩) | (go_at_call 34; refine (eqCircuit_any _ _ _ _ _ _ _ _ _ _ _ _ _ _ _ (OwnC.reads (OwnC.below (w := World.drewN w8 1) fx0_8 b9 (.inl (Nat.le_refl _)))) fy8_9.reads (by omega) (by omega)).mono ?_; rintro e w10 ⟨rfl, b10⟩))
  clear qx0_0 qx0_1 qx0_2 qx0_3 qP0_0 qP0_1 qP0_2 qP0_3
  have b9_ : Below w8.heap.size w8 w9 := (below_drewN (Below.refl _ _) 1).trans (b9.mono (Nat.le_refl _)); clear b9; have b9 := b9_; clear b9_
  clear fy8_9 Bd9
  have fx0_9 := fx0_8.below b9 (.inl (Nat.le_refl _)); clear fx0_8
  have fx1_9 := fx1_8.below b9 (.inl (Nat.le_refl _)); clear fx1_8
  have xP0_9 := xP0_8.below b9; clear xP0_8
  have xP1_9 := xP1_8.below b9; clear xP1_8
  have xx0_9 := xx0_8.below b9; clear xx0_8
  have xx1_9 := xx1_8.below b9; clear xx1_8
  have z9 := b9.size
  have B9 := B8.trans (b9.mono B8.size); clear b9 B8
  have fx0_10 := fx0_9.below b10 (.inl (Nat.le_refl _)); clear fx0_9
  have fx1_10 := fx1_9.below b10 (.inl (Nat.le_refl _)); clear fx1_9
  have xP0_10 := xP0_9.below b10; clear xP0_9
  have xP1_10 := xP1_9.below b10; clear xP1_9
  have xx0_10 := xx0_9.below b10; clear xx0_9
  have xx1_10 := xx1_9.below b10; clear xx1_9
  have z10 := b10.size
  have B10 := B9.trans (b10.mono B9.size); clear b10 B9
  have qq := xx1_10; obtain ⟨qx1_0, qx1_1, qx1_2, qx1_3⟩ := qq
  have qq := xP1_10; obtain ⟨qP1_0, qP1_1, qP1_2, qP1_3⟩ := qq
  have Bd11 := below_drewN B10 1
  go_wp2_with fail
  go_region_held3 (fun w' => w'.cell? ⟨w7.heap.size, 0, none⟩ = some (.int .i64 y1) ∧ w'.cell? ⟨w7.heap.size, 1, none⟩ = some (.int .i64 u1) ∧ w'.cell? ⟨w7.heap.size, 2, none⟩ = some (.slice (some Sx1) n1 n1) ∧ w'.cell? ⟨w7.heap.size, 3, none⟩ = some (.slice (some Tx1) m1 m1) ∧ w'.cell? ⟨(w.heap.size + 1), 0, none⟩ = some (.int .i64 y1) ∧ w'.cell? ⟨(w.heap.size + 1), 1, none⟩ = some (.int .i64 u1) ∧ w'.cell? ⟨(w.heap.size + 1), 2, none⟩ = some (.slice A1 n1 c1) ∧ w'.cell? ⟨(w.heap.size + 1), 3, none⟩ = some (.slice O1 m1 d1))
    (first | go_keep | (go_split_ands; exact ⟨cell_below (by assumption) b12, cell_below (by assumption) b12, cell_below (by assumption) b12, cell_below (by assumption) b12, cell_below (by assumption) b12, cell_below (by assumption) b12, cell_below (by assumption) b12, cell_below (by assumption) b12⟩) | (go_split_ands; exact ⟨cell_below (by assumption) b11, cell_below (by assumption) b11, cell_below (by assumption) b11, cell_below (by assumption) b11, cell_below (by assumption) b11, cell_below (by assumption) b11, cell_below (by assumption) b11, cell_below (by assumption) b11⟩))
    (first | (go_at_call 32; refine (toCircuit_any y1 u1 A1 n1 c1 O1 m1 d1 _ _ _ ⟨h1.1.below Bd11 (Nat.le_refl _), h1.2.below Bd11 (Nat.le_refl _)⟩ (by omega) (by omega)).mono ?_; rintro e w11 ⟨Sy10, Ty10, rfl, fy10_11, b11⟩) | (go_at_call 34; refine (eqCircuit_any _ _ _ _ _ _ _ _ _ _ _ _ _ _ _ (OwnC.reads (OwnC.below (w := World.drewN w10 1) fx1_10 b11 (.inl (Nat.le_refl _)))) fy10_11.reads (by omega) (by omega)).mono ?_; rintro e w12 ⟨rfl, b12⟩))
  clear qx1_0 qx1_1 qx1_2 qx1_3 qP1_0 qP1_1 qP1_2 qP1_3
  have b11_ : Below w10.heap.size w10 w11 := (below_drewN (Below.refl _ _) 1).trans (b11.mono (Nat.le_refl _)); clear b11; have b11 := b11_; clear b11_
  clear fy10_11 Bd11
  have fx0_11 := fx0_10.below b11 (.inl (Nat.le_refl _)); clear fx0_10
  have fx1_11 := fx1_10.below b11 (.inl (Nat.le_refl _)); clear fx1_10
  have xP0_11 := xP0_10.below b11; clear xP0_10
  have xP1_11 := xP1_10.below b11; clear xP1_10
  have xx0_11 := xx0_10.below b11; clear xx0_10
  have xx1_11 := xx1_10.below b11; clear xx1_10
  have z11 := b11.size
  have B11 := B10.trans (b11.mono B10.size); clear b11 B10
  have fx0_12 := fx0_11.below b12 (.inl (Nat.le_refl _)); clear fx0_11
  have fx1_12 := fx1_11.below b12 (.inl (Nat.le_refl _)); clear fx1_11
  have xP0_12 := xP0_11.below b12; clear xP0_11
  have xP1_12 := xP1_11.below b12; clear xP1_11
  have xx0_12 := xx0_11.below b12; clear xx0_11
  have xx1_12 := xx1_11.below b12; clear xx1_11
  have z12 := b12.size
  have B12 := B11.trans (b12.mono B11.size); clear b12 B11
  go_wp2
  go_ret
  exact ⟨rfl, B12⟩

end Go.Proofs.Ytanlbdkggocdiaa.lawAreEqual
