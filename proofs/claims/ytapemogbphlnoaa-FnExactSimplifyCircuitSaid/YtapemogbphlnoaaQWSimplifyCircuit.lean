/- The walk of the law FnExactSimplifyCircuit: whatever its arguments read as, it returns true and leaves what was there. No condition. -/
import Derived.Test.YtapemogbphlnoaaQChg
import Derived.Test.YtapemogbphlnoaaQSi3
import Derived.Test.YtapemogbphlnoaaQSr4
import Derived.Test.YtapemogbphlnoaaQCLaw2
namespace Go.Proofs.Ytapemogbphlnoaa.lawSimplifyCircuit
open Go.RowKit
set_option linter.unusedVariables false
set_option linter.unusedSimpArgs false

set_option maxRecDepth 100000 in
set_option maxHeartbeats 8000000 in
theorem walk (y0 u0 : Int) (A0 : Option Addr) (n0 c0 : Nat) (O0 : Option Addr) (m0 d0 : Nat) (g0 : List G3) (o0 : List Int) (w : World) (h0 : (RG w A0 n0 g0 ∧ RI w O0 m0 o0) ∧ n0 ≤ maxLen ∧ m0 ≤ maxLen) :
    Calls Try.prog 5 #[.agg #[.int .i64 y0, .int .i64 u0, .slice A0 n0 c0, .slice O0 m0 d0]] w fun e w' => e = .returned (.bool true) ∧ Below w.heap.size w w' := by
  obtain ⟨h0, hN0, hM0⟩ := h0
  have al1 : Below w.heap.size w (w.alloc (.cells #[.int .i64 y0, .int .i64 u0, .slice A0 n0 c0, .slice O0 m0 d0] 49)) := (Below.refl _ _).alloc (Nat.le_refl _) _
  have xP0_al1 : BxC (w.alloc (.cells #[.int .i64 y0, .int .i64 u0, .slice A0 n0 c0, .slice O0 m0 d0] 49)) w.heap.size y0 u0 A0 n0 c0 O0 m0 d0 := BxC.new _ _
  have Bq1 := al1
  clear al1
  have l0 := h0.1.len; have k0 := h0.2.len
  by_cases t0 : (szC 1048576 n0 m0) < 0
  · skip
    go_enter Try.func5, Try.ntmps5
    have qq := xP0_al1; obtain ⟨qP0_0, qP0_1, qP0_2, qP0_3⟩ := qq
    go_wp2_with fail
    refine (szCircuit_any y0 u0 A0 n0 c0 O0 m0 d0 1048576 _ (by omega) hN0 hM0).mono ?_
    rintro e w1 ⟨rfl, b1⟩
    clear qP0_0 qP0_1 qP0_2 qP0_3
    have xP0_1 := xP0_al1.below b1; clear xP0_al1
    have z1 := b1.size
    simp only [World.size_alloc] at z1
    have B1 := Bq1.trans (b1.mono Bq1.size); clear b1 Bq1
    go_wp2
    go_ret
    exact ⟨rfl, B1⟩
  obtain ⟨ta0, tb0, tc0, td0⟩ := szC_pos (l := 1048576) (n := n0) (m := m0) t0
  have hzl0 := simpF_len y0 u0 g0 o0
  go_enter Try.func5, Try.ntmps5
  have qq := xP0_al1; obtain ⟨qP0_0, qP0_1, qP0_2, qP0_3⟩ := qq
  go_wp2_with fail
  refine (szCircuit_any y0 u0 A0 n0 c0 O0 m0 d0 1048576 _ (by omega) hN0 hM0).mono ?_
  rintro e w1 ⟨rfl, b1⟩
  clear qP0_0 qP0_1 qP0_2 qP0_3
  have xP0_1 := xP0_al1.below b1; clear xP0_al1
  have z1 := b1.size
  simp only [World.size_alloc] at z1
  have B1 := Bq1.trans (b1.mono Bq1.size); clear b1 Bq1
  have qq := xP0_1; obtain ⟨qP0_0, qP0_1, qP0_2, qP0_3⟩ := qq
  go_wp2_with fail
  refine (toCircuit_any y0 u0 A0 n0 c0 O0 m0 d0 _ _ _ ⟨h0.1.below B1 (Nat.le_refl _), h0.2.below B1 (Nat.le_refl _)⟩ (by omega) (by omega)).mono ?_
  rintro e w2 ⟨St1x0, Tt1x0, rfl, ft1x0_2, b2⟩
  clear qP0_0 qP0_1 qP0_2 qP0_3
  have xP0_2 := xP0_1.below b2; clear xP0_1
  have z2 := b2.size
  have B2 := B1.trans (b2.mono B1.size); clear b2 B1
  go_wp2_with fail
  refine (spec_SimplifyCircuit_any _ _ _ _ _ _ _ _ _ _ _ ft1x0_2.reads (by omega) (by omega) ).mono ?_
  rintro e w3 ⟨Aw0, Cw0, Ew0, Dw0, rfl, fw0_3, b3⟩
  have ft1x0_3 := ft1x0_2.below b3 (.inl (Nat.le_refl _)); clear ft1x0_2
  have xP0_3 := xP0_2.below b3; clear xP0_2
  have z3 := b3.size
  have B3 := B2.trans (b3.mono B2.size); clear b3 B2
  clear ft1x0_3
  have al2 : Below w3.heap.size w3 (w3.alloc (.cells #[.int .i64 ((simpF y0 u0 g0 o0).getD ⟨0, 0, [], []⟩).i0, .int .i64 ((simpF y0 u0 g0 o0).getD ⟨0, 0, [], []⟩).i1, .slice Aw0 ((simpF y0 u0 g0 o0).getD ⟨0, 0, [], []⟩).gs.length Cw0, .slice Ew0 ((simpF y0 u0 g0 o0).getD ⟨0, 0, [], []⟩).os.length Dw0] 26)) := (Below.refl _ _).alloc (Nat.le_refl _) _
  have fw0_al2 := fw0_3.below al2 (.inl (Nat.le_refl _)); clear fw0_3
  have xP0_al2 := xP0_3.below al2; clear xP0_3
  have xw0_al2 : BxC (w3.alloc (.cells #[.int .i64 ((simpF y0 u0 g0 o0).getD ⟨0, 0, [], []⟩).i0, .int .i64 ((simpF y0 u0 g0 o0).getD ⟨0, 0, [], []⟩).i1, .slice Aw0 ((simpF y0 u0 g0 o0).getD ⟨0, 0, [], []⟩).gs.length Cw0, .slice Ew0 ((simpF y0 u0 g0 o0).getD ⟨0, 0, [], []⟩).os.length Dw0] 26)) w3.heap.size ((simpF y0 u0 g0 o0).getD ⟨0, 0, [], []⟩).i0 ((simpF y0 u0 g0 o0).getD ⟨0, 0, [], []⟩).i1 Aw0 ((simpF y0 u0 g0 o0).getD ⟨0, 0, [], []⟩).gs.length Cw0 Ew0 ((simpF y0 u0 g0 o0).getD ⟨0, 0, [], []⟩).os.length Dw0 := BxC.new _ _
  have Bq2 := B3.trans (al2.mono B3.size); clear B3
  clear al2
  have qq := xP0_al2; obtain ⟨qP0_0, qP0_1, qP0_2, qP0_3⟩ := qq
  go_wp2_with fail
  refine (toCircuit_any y0 u0 A0 n0 c0 O0 m0 d0 _ _ _ ⟨h0.1.below Bq2 (Nat.le_refl _), h0.2.below Bq2 (Nat.le_refl _)⟩ (by omega) (by omega)).mono ?_
  rintro e w4 ⟨Sx0, Tx0, rfl, fx0_4, b4⟩
  clear qP0_0 qP0_1 qP0_2 qP0_3
  have fw0_4 := fw0_al2.below b4 (.inl (Nat.le_refl _)); clear fw0_al2
  have xP0_4 := xP0_al2.below b4; clear xP0_al2
  have xw0_4 := xw0_al2.below b4; clear xw0_al2
  have z4 := b4.size
  simp only [World.size_alloc] at z4
  simp only [World.size_alloc] at fx0_4
  have B4 := Bq2.trans (b4.mono Bq2.size); clear b4 Bq2
  have al3 : Below w4.heap.size w4 (w4.alloc (.cells #[.int .i64 y0, .int .i64 u0, .slice (some Sx0) n0 n0, .slice (some Tx0) m0 m0] 26)) := (Below.refl _ _).alloc (Nat.le_refl _) _
  have fw0_al3 := fw0_4.below al3 (.inl (Nat.le_refl _)); clear fw0_4
  have fx0_al3 := fx0_4.below al3 (.inl (Nat.le_refl _)); clear fx0_4
  have xP0_al3 := xP0_4.below al3; clear xP0_4
  have xw0_al3 := xw0_4.below al3; clear xw0_4
  have xx0_al3 : BxC (w4.alloc (.cells #[.int .i64 y0, .int .i64 u0, .slice (some Sx0) n0 n0, .slice (some Tx0) m0 m0] 26)) w4.heap.size y0 u0 (some Sx0) n0 n0 (some Tx0) m0 m0 := BxC.new _ _
  have Bq3 := B4.trans (al3.mono B4.size); clear B4
  clear al3
  have qq := xx0_al3; obtain ⟨qx0_0, qx0_1, qx0_2, qx0_3⟩ := qq
  go_wp2_with fail
  refine (SimplifyCircuit_any _ _ _ _ _ _ _ _ _ _ _ fx0_al3.reads (by omega) (by omega) ).mono ?_
  rintro e w5 ⟨Ag0, Cg0, Eg0, Dg0, rfl, fg0_5, b5⟩
  clear qx0_0 qx0_1 qx0_2 qx0_3
  have fw0_5 := fw0_al3.below b5 (.inl (Nat.le_refl _)); clear fw0_al3
  have fx0_5 := fx0_al3.below b5 (.inl (Nat.le_refl _)); clear fx0_al3
  have xP0_5 := xP0_al3.below b5; clear xP0_al3
  have xw0_5 := xw0_al3.below b5; clear xw0_al3
  have xx0_5 := xx0_al3.below b5; clear xx0_al3
  have z5 := b5.size
  simp only [World.size_alloc] at z5
  simp only [World.size_alloc] at fg0_5
  have B5 := Bq3.trans (b5.mono Bq3.size); clear b5 Bq3
  have al4 : Below w5.heap.size w5 (w5.alloc (.cells #[.int .i64 ((simpF y0 u0 g0 o0).getD ⟨0, 0, [], []⟩).i0, .int .i64 ((simpF y0 u0 g0 o0).getD ⟨0, 0, [], []⟩).i1, .slice Ag0 ((simpF y0 u0 g0 o0).getD ⟨0, 0, [], []⟩).gs.length Cg0, .slice Eg0 ((simpF y0 u0 g0 o0).getD ⟨0, 0, [], []⟩).os.length Dg0] 26)) := (Below.refl _ _).alloc (Nat.le_refl _) _
  have fw0_al4 := fw0_5.below al4 (.inl (Nat.le_refl _)); clear fw0_5
  have fx0_al4 := fx0_5.below al4 (.inl (Nat.le_refl _)); clear fx0_5
  have fg0_al4 := fg0_5.below al4 (.inl (Nat.le_refl _)); clear fg0_5
  have xP0_al4 := xP0_5.below al4; clear xP0_5
  have xw0_al4 := xw0_5.below al4; clear xw0_5
  have xx0_al4 := xx0_5.below al4; clear xx0_5
  have xg0_al4 : BxC (w5.alloc (.cells #[.int .i64 ((simpF y0 u0 g0 o0).getD ⟨0, 0, [], []⟩).i0, .int .i64 ((simpF y0 u0 g0 o0).getD ⟨0, 0, [], []⟩).i1, .slice Ag0 ((simpF y0 u0 g0 o0).getD ⟨0, 0, [], []⟩).gs.length Cg0, .slice Eg0 ((simpF y0 u0 g0 o0).getD ⟨0, 0, [], []⟩).os.length Dg0] 26)) w5.heap.size ((simpF y0 u0 g0 o0).getD ⟨0, 0, [], []⟩).i0 ((simpF y0 u0 g0 o0).getD ⟨0, 0, [], []⟩).i1 Ag0 ((simpF y0 u0 g0 o0).getD ⟨0, 0, [], []⟩).gs.length Cg0 Eg0 ((simpF y0 u0 g0 o0).getD ⟨0, 0, [], []⟩).os.length Dg0 := BxC.new _ _
  have Bq4 := B5.trans (al4.mono B5.size); clear B5
  clear al4
  have qq := xg0_al4; obtain ⟨qg0_0, qg0_1, qg0_2, qg0_3⟩ := qq
  have qq := xw0_al4; obtain ⟨qw0_0, qw0_1, qw0_2, qw0_3⟩ := qq
  go_wp2_with fail
  refine (eqCircuit_any _ _ _ _ _ _ _ _ _ _ _ _ _ _ _ fg0_al4.reads fw0_al4.reads (by omega) (by omega)).mono ?_
  rintro e w6 ⟨rfl, b6⟩
  clear qg0_0 qg0_1 qg0_2 qg0_3 qw0_0 qw0_1 qw0_2 qw0_3
  have fw0_6 := fw0_al4.below b6 (.inl (Nat.le_refl _)); clear fw0_al4
  have fx0_6 := fx0_al4.below b6 (.inl (Nat.le_refl _)); clear fx0_al4
  have fg0_6 := fg0_al4.below b6 (.inl (Nat.le_refl _)); clear fg0_al4
  have xP0_6 := xP0_al4.below b6; clear xP0_al4
  have xw0_6 := xw0_al4.below b6; clear xw0_al4
  have xx0_6 := xx0_al4.below b6; clear xx0_al4
  have xg0_6 := xg0_al4.below b6; clear xg0_al4
  have z6 := b6.size
  simp only [World.size_alloc] at z6
  have B6 := Bq4.trans (b6.mono Bq4.size); clear b6 Bq4
  have qq := xx0_6; obtain ⟨qx0_0, qx0_1, qx0_2, qx0_3⟩ := qq
  have qq := xP0_6; obtain ⟨qP0_0, qP0_1, qP0_2, qP0_3⟩ := qq
  have Bd7 := below_drewN B6 1
  go_wp2_with fail
  go_region_held3 (fun w' => w'.cell? ⟨w4.heap.size, 0, none⟩ = some (.int .i64 y0) ∧ w'.cell? ⟨w4.heap.size, 1, none⟩ = some (.int .i64 u0) ∧ w'.cell? ⟨w4.heap.size, 2, none⟩ = some (.slice (some Sx0) n0 n0) ∧ w'.cell? ⟨w4.heap.size, 3, none⟩ = some (.slice (some Tx0) m0 m0) ∧ w'.cell? ⟨w.heap.size, 0, none⟩ = some (.int .i64 y0) ∧ w'.cell? ⟨w.heap.size, 1, none⟩ = some (.int .i64 u0) ∧ w'.cell? ⟨w.heap.size, 2, none⟩ = some (.slice A0 n0 c0) ∧ w'.cell? ⟨w.heap.size, 3, none⟩ = some (.slice O0 m0 d0))
    (first | go_keep | (go_split_ands; exact ⟨cell_below (by assumption) b8, cell_below (by assumption) b8, cell_below (by assumption) b8, cell_below (by assumption) b8, cell_below (by assumption) b8, cell_below (by assumption) b8, cell_below (by assumption) b8, cell_below (by assumption) b8⟩) | (go_split_ands; exact ⟨cell_below (by assumption) b7, cell_below (by assumption) b7, cell_below (by assumption) b7, cell_below (by assumption) b7, cell_below (by assumption) b7, cell_below (by assumption) b7, cell_below (by assumption) b7, cell_below (by assumption) b7⟩) | ((try dsimp only); (repeat' apply And.intro) <;> go_keep))
    (first | (go_at_call 24; refine (toCircuit_any y0 u0 A0 n0 c0 O0 m0 d0 _ _ _ ⟨h0.1.below Bd7 (Nat.le_refl _), h0.2.below Bd7 (Nat.le_refl _)⟩ (by omega) (by omega)).mono ?_; rintro e w7 ⟨Sy6, Ty6, rfl, fy6_7, b7⟩) | (go_at_call 17; refine (eqCircuit_any _ _ _ _ _ _ _ _ _ _ _ _ _ _ _ (OwnC.reads (OwnC.below (w := World.drewN w6 1) fx0_6 b7 (.inl (Nat.le_refl _)))) fy6_7.reads (by omega) (by omega)).mono ?_; rintro e w8 ⟨rfl, b8⟩))
  clear qx0_0 qx0_1 qx0_2 qx0_3 qP0_0 qP0_1 qP0_2 qP0_3
  have b7_ : Below w6.heap.size w6 w7 := (below_drewN (Below.refl _ _) 1).trans (b7.mono (Nat.le_refl _)); clear b7; have b7 := b7_; clear b7_
  clear fy6_7 Bd7
  have fw0_7 := fw0_6.below b7 (.inl (Nat.le_refl _)); clear fw0_6
  have fx0_7 := fx0_6.below b7 (.inl (Nat.le_refl _)); clear fx0_6
  have fg0_7 := fg0_6.below b7 (.inl (Nat.le_refl _)); clear fg0_6
  have xP0_7 := xP0_6.below b7; clear xP0_6
  have xw0_7 := xw0_6.below b7; clear xw0_6
  have xx0_7 := xx0_6.below b7; clear xx0_6
  have xg0_7 := xg0_6.below b7; clear xg0_6
  have z7 := b7.size
  have B7 := B6.trans (b7.mono B6.size); clear b7 B6
  have fw0_8 := fw0_7.below b8 (.inl (Nat.le_refl _)); clear fw0_7
  have fx0_8 := fx0_7.below b8 (.inl (Nat.le_refl _)); clear fx0_7
  have fg0_8 := fg0_7.below b8 (.inl (Nat.le_refl _)); clear fg0_7
  have xP0_8 := xP0_7.below b8; clear xP0_7
  have xw0_8 := xw0_7.below b8; clear xw0_7
  have xx0_8 := xx0_7.below b8; clear xx0_7
  have xg0_8 := xg0_7.below b8; clear xg0_7
  have z8 := b8.size
  have B8 := B7.trans (b8.mono B7.size); clear b8 B7
  have qq := xx0_8; obtain ⟨qx0_0, qx0_1, qx0_2, qx0_3⟩ := qq
  go_wp2_with fail
  refine (markCircuit_c _ _ _ _ _ _ _ _ _ _ _ _ _ _ fx0_8 (by omega) (by omega) (by omega) (by omega)).mono ?_
  rintro e w9 ⟨rfl, fx0_9, g9⟩
  clear qx0_0 qx0_1 qx0_2 qx0_3
  have xP0_9 := xP0_8.chg g9 (by omega); clear xP0_8
  have xw0_9 := xw0_8.chg g9 (by omega); clear xw0_8
  have xx0_9 := xx0_8.chg g9 (by omega); clear xx0_8
  have xg0_9 := xg0_8.chg g9 (by omega); clear xg0_8
  have fw0_9 := fw0_8.chg g9 (.inl (by omega)); clear fw0_8
  have fg0_9 := fg0_8.chg g9 (.inr (by omega)); clear fg0_8
  have z9 := g9.size
  have B9 := g9.below_ B8 (by omega) B8.size; clear B8 fx0_8 g9
  have qq := xg0_9; obtain ⟨qg0_0, qg0_1, qg0_2, qg0_3⟩ := qq
  have qq := xw0_9; obtain ⟨qw0_0, qw0_1, qw0_2, qw0_3⟩ := qq
  go_wp2_with fail
  refine (eqCircuit_any _ _ _ _ _ _ _ _ _ _ _ _ _ _ _ fg0_9.reads fw0_9.reads (by omega) (by omega)).mono ?_
  rintro e w10 ⟨rfl, b10⟩
  clear qg0_0 qg0_1 qg0_2 qg0_3 qw0_0 qw0_1 qw0_2 qw0_3
  have fw0_10 := fw0_9.below b10 (.inl (Nat.le_refl _)); clear fw0_9
  have fx0_10 := fx0_9.below b10 (.inl (Nat.le_refl _)); clear fx0_9
  have fg0_10 := fg0_9.below b10 (.inl (Nat.le_refl _)); clear fg0_9
  have xP0_10 := xP0_9.below b10; clear xP0_9
  have xw0_10 := xw0_9.below b10; clear xw0_9
  have xx0_10 := xx0_9.below b10; clear xx0_9
  have xg0_10 := xg0_9.below b10; clear xg0_9
  have z10 := b10.size
  have B10 := B9.trans (b10.mono B9.size); clear b10 B9
  have qq := xg0_10; obtain ⟨qg0_0, qg0_1, qg0_2, qg0_3⟩ := qq
  go_wp2_with fail
  refine (markCircuit_c _ _ _ _ _ _ _ _ _ _ _ _ _ _ fg0_10 (by omega) (by omega) (by omega) (by omega)).mono ?_
  rintro e w11 ⟨rfl, fg0_11, g11⟩
  clear qg0_0 qg0_1 qg0_2 qg0_3
  have xP0_11 := xP0_10.chg g11 (by omega); clear xP0_10
  have xw0_11 := xw0_10.chg g11 (by omega); clear xw0_10
  have xx0_11 := xx0_10.chg g11 (by omega); clear xx0_10
  have xg0_11 := xg0_10.chg g11 (by omega); clear xg0_10
  have fw0_11 := fw0_10.chg g11 (.inl (by omega)); clear fw0_10
  have fx0_11 := fx0_10.chg g11 (.inl (by omega)); clear fx0_10
  have z11 := g11.size
  have B11 := g11.below_ B10 (by omega) B10.size; clear B10 fg0_10 g11
  have qq := xg0_11; obtain ⟨qg0_0, qg0_1, qg0_2, qg0_3⟩ := qq
  go_wp2_with fail
  refine (heldCircuit_b _ _ _ _ _ _ _ _ _ _ fg0_11.reads (by omega) (by omega) (by omega) (by omega)).mono ?_
  rintro e w12 ⟨rfl, b12⟩
  clear qg0_0 qg0_1 qg0_2 qg0_3
  have fw0_12 := fw0_11.below b12 (.inl (Nat.le_refl _)); clear fw0_11
  have fx0_12 := fx0_11.below b12 (.inl (Nat.le_refl _)); clear fx0_11
  have fg0_12 := fg0_11.below b12 (.inl (Nat.le_refl _)); clear fg0_11
  have xP0_12 := xP0_11.below b12; clear xP0_11
  have xw0_12 := xw0_11.below b12; clear xw0_11
  have xx0_12 := xx0_11.below b12; clear xx0_11
  have xg0_12 := xg0_11.below b12; clear xg0_11
  have z12 := b12.size
  have B12 := B11.trans (b12.mono B11.size); clear b12 B11
  have qq := xP0_12; obtain ⟨qP0_0, qP0_1, qP0_2, qP0_3⟩ := qq
  go_wp2_with fail
  refine (toCircuit_any y0 u0 A0 n0 c0 O0 m0 d0 _ _ _ ⟨h0.1.below B12 (Nat.le_refl _), h0.2.below B12 (Nat.le_refl _)⟩ (by omega) (by omega)).mono ?_
  rintro e w13 ⟨St12x0, Tt12x0, rfl, ft12x0_13, b13⟩
  clear qP0_0 qP0_1 qP0_2 qP0_3
  have fw0_13 := fw0_12.below b13 (.inl (Nat.le_refl _)); clear fw0_12
  have fx0_13 := fx0_12.below b13 (.inl (Nat.le_refl _)); clear fx0_12
  have fg0_13 := fg0_12.below b13 (.inl (Nat.le_refl _)); clear fg0_12
  have xP0_13 := xP0_12.below b13; clear xP0_12
  have xw0_13 := xw0_12.below b13; clear xw0_12
  have xx0_13 := xx0_12.below b13; clear xx0_12
  have xg0_13 := xg0_12.below b13; clear xg0_12
  have z13 := b13.size
  have B13 := B12.trans (b13.mono B12.size); clear b13 B12
  go_wp2_with fail
  refine (SimplifyCircuit_any _ _ _ _ _ _ _ _ _ _ _ ft12x0_13.reads (by omega) (by omega) ).mono ?_
  rintro e w14 ⟨Ah0, Ch0, Eh0, Dh0, rfl, fh0_14, b14⟩
  have fw0_14 := fw0_13.below b14 (.inl (Nat.le_refl _)); clear fw0_13
  have fx0_14 := fx0_13.below b14 (.inl (Nat.le_refl _)); clear fx0_13
  have fg0_14 := fg0_13.below b14 (.inl (Nat.le_refl _)); clear fg0_13
  have ft12x0_14 := ft12x0_13.below b14 (.inl (Nat.le_refl _)); clear ft12x0_13
  have xP0_14 := xP0_13.below b14; clear xP0_13
  have xw0_14 := xw0_13.below b14; clear xw0_13
  have xx0_14 := xx0_13.below b14; clear xx0_13
  have xg0_14 := xg0_13.below b14; clear xg0_13
  have z14 := b14.size
  have B14 := B13.trans (b14.mono B13.size); clear b14 B13
  clear ft12x0_14
  have al5 : Below w14.heap.size w14 (w14.alloc (.cells #[.int .i64 ((simpF y0 u0 g0 o0).getD ⟨0, 0, [], []⟩).i0, .int .i64 ((simpF y0 u0 g0 o0).getD ⟨0, 0, [], []⟩).i1, .slice Ah0 ((simpF y0 u0 g0 o0).getD ⟨0, 0, [], []⟩).gs.length Ch0, .slice Eh0 ((simpF y0 u0 g0 o0).getD ⟨0, 0, [], []⟩).os.length Dh0] 26)) := (Below.refl _ _).alloc (Nat.le_refl _) _
  have fw0_al5 := fw0_14.below al5 (.inl (Nat.le_refl _)); clear fw0_14
  have fx0_al5 := fx0_14.below al5 (.inl (Nat.le_refl _)); clear fx0_14
  have fg0_al5 := fg0_14.below al5 (.inl (Nat.le_refl _)); clear fg0_14
  have fh0_al5 := fh0_14.below al5 (.inl (Nat.le_refl _)); clear fh0_14
  have xP0_al5 := xP0_14.below al5; clear xP0_14
  have xw0_al5 := xw0_14.below al5; clear xw0_14
  have xx0_al5 := xx0_14.below al5; clear xx0_14
  have xg0_al5 := xg0_14.below al5; clear xg0_14
  have xh0_al5 : BxC (w14.alloc (.cells #[.int .i64 ((simpF y0 u0 g0 o0).getD ⟨0, 0, [], []⟩).i0, .int .i64 ((simpF y0 u0 g0 o0).getD ⟨0, 0, [], []⟩).i1, .slice Ah0 ((simpF y0 u0 g0 o0).getD ⟨0, 0, [], []⟩).gs.length Ch0, .slice Eh0 ((simpF y0 u0 g0 o0).getD ⟨0, 0, [], []⟩).os.length Dh0] 26)) w14.heap.size ((simpF y0 u0 g0 o0).getD ⟨0, 0, [], []⟩).i0 ((simpF y0 u0 g0 o0).getD ⟨0, 0, [], []⟩).i1 Ah0 ((simpF y0 u0 g0 o0).getD ⟨0, 0, [], []⟩).gs.length Ch0 Eh0 ((simpF y0 u0 g0 o0).getD ⟨0, 0, [], []⟩).os.length Dh0 := BxC.new _ _
  have Bq5 := B14.trans (al5.mono B14.size); clear B14
  clear al5
  have qq := xh0_al5; obtain ⟨qh0_0, qh0_1, qh0_2, qh0_3⟩ := qq
  have qq := xw0_al5; obtain ⟨qw0_0, qw0_1, qw0_2, qw0_3⟩ := qq
  go_wp2_with fail
  refine (eqCircuit_any _ _ _ _ _ _ _ _ _ _ _ _ _ _ _ fh0_al5.reads fw0_al5.reads (by omega) (by omega)).mono ?_
  rintro e w15 ⟨rfl, b15⟩
  clear qh0_0 qh0_1 qh0_2 qh0_3 qw0_0 qw0_1 qw0_2 qw0_3
  have fw0_15 := fw0_al5.below b15 (.inl (Nat.le_refl _)); clear fw0_al5
  have fx0_15 := fx0_al5.below b15 (.inl (Nat.le_refl _)); clear fx0_al5
  have fg0_15 := fg0_al5.below b15 (.inl (Nat.le_refl _)); clear fg0_al5
  have fh0_15 := fh0_al5.below b15 (.inl (Nat.le_refl _)); clear fh0_al5
  have xP0_15 := xP0_al5.below b15; clear xP0_al5
  have xw0_15 := xw0_al5.below b15; clear xw0_al5
  have xx0_15 := xx0_al5.below b15; clear xx0_al5
  have xg0_15 := xg0_al5.below b15; clear xg0_al5
  have xh0_15 := xh0_al5.below b15; clear xh0_al5
  have z15 := b15.size
  simp only [World.size_alloc] at z15
  have B15 := Bq5.trans (b15.mono Bq5.size); clear b15 Bq5
  have qq := xg0_15; obtain ⟨qg0_0, qg0_1, qg0_2, qg0_3⟩ := qq
  go_wp2_with fail
  refine (heldCircuit_b _ _ _ _ _ _ _ _ _ _ fg0_15.reads (by omega) (by omega) (by omega) (by omega)).mono ?_
  rintro e w16 ⟨rfl, b16⟩
  clear qg0_0 qg0_1 qg0_2 qg0_3
  have fw0_16 := fw0_15.below b16 (.inl (Nat.le_refl _)); clear fw0_15
  have fx0_16 := fx0_15.below b16 (.inl (Nat.le_refl _)); clear fx0_15
  have fg0_16 := fg0_15.below b16 (.inl (Nat.le_refl _)); clear fg0_15
  have fh0_16 := fh0_15.below b16 (.inl (Nat.le_refl _)); clear fh0_15
  have xP0_16 := xP0_15.below b16; clear xP0_15
  have xw0_16 := xw0_15.below b16; clear xw0_15
  have xx0_16 := xx0_15.below b16; clear xx0_15
  have xg0_16 := xg0_15.below b16; clear xg0_15
  have xh0_16 := xh0_15.below b16; clear xh0_15
  have z16 := b16.size
  have B16 := B15.trans (b16.mono B15.size); clear b16 B15
  go_wp2
  go_ret
  exact ⟨rfl, B16⟩

end Go.Proofs.Ytapemogbphlnoaa.lawSimplifyCircuit
