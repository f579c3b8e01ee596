/- The walk of the law FnExactArithText: whatever its arguments read as, it returns true and leaves what was there. No condition. -/
import Derived.Test.YtgpfiefhhlejfaaDoorChg
import Derived.Test.YtgpfiefhhlejfaaDoorAtx
import Derived.Test.YtgpfiefhhlejfaaDoorAts
import Derived.Test.YtgpfiefhhlejfaaDoorCLaw2
namespace Go.Proofs.YtgpfiefhhlejfaaDoor.lawArithText
open Go.RowKit
set_option linter.unusedVariables false
set_option linter.unusedSimpArgs false

set_option maxRecDepth 100000 in
set_option maxHeartbeats 8000000 in
theorem walk (a0 : Int) (y0 u0 : Int) (A0 : Option Addr) (n0 c0 : Nat) (O0 : Option Addr) (m0 d0 : Nat) (g0 : List G3) (o0 : List Int) (w : World) (h0 : (RG w A0 n0 g0 ∧ RI w O0 m0 o0) ∧ n0 ≤ maxLen ∧ m0 ≤ maxLen) (hT : PT w) (hG : AWs w) :
    Calls Tryd.prog 4 #[.agg #[.int .i64 a0, .int .i64 y0, .int .i64 u0, .slice A0 n0 c0, .slice O0 m0 d0]] w fun e w' => e = .returned (.bool true) ∧ Below w.heap.size w w' := by
  obtain ⟨h0, hN0, hM0⟩ := h0
  have al1 : Below w.heap.size w (w.alloc (.cells #[.int .i64 a0, .int .i64 y0, .int .i64 u0, .slice A0 n0 c0, .slice O0 m0 d0] 36)) := (Below.refl _ _).alloc (Nat.le_refl _) _
  have xP0_al1 : BxA (w.alloc (.cells #[.int .i64 a0, .int .i64 y0, .int .i64 u0, .slice A0 n0 c0, .slice O0 m0 d0] 36)) w.heap.size a0 y0 u0 A0 n0 c0 O0 m0 d0 := BxA.new _ _
  have Bq1 := al1
  clear al1
  have l0 := h0.1.len; have k0 := h0.2.len
  by_cases t0 : (szC 1048576 n0 m0) < 0
  · skip
    go_enter Tryd.func4, Tryd.ntmps4
    have qq := xP0_al1; obtain ⟨qP0_0, qP0_1, qP0_2, qP0_3, qP0_4⟩ := qq
    go_wp2_with fail
    refine (szArith_any a0 y0 u0 A0 n0 c0 O0 m0 d0 1048576 _ (by omega) hN0 hM0).mono ?_
    rintro e w1 ⟨rfl, b1⟩
    clear qP0_0 qP0_1 qP0_2 qP0_3 qP0_4
    have xP0_1 := xP0_al1.below b1; clear xP0_al1
    have z1 := b1.size
    simp only [World.size_alloc] at z1
    have B1 := Bq1.trans (b1.mono Bq1.size); clear b1 Bq1
    go_wp2
    go_ret
    exact ⟨rfl, B1⟩
  obtain ⟨ta0, tb0, tc0, td0⟩ := szC_pos (l := 1048576) (n := n0) (m := m0) t0
  go_enter Tryd.func4, Tryd.ntmps4
  have qq := xP0_al1; obtain ⟨qP0_0, qP0_1, qP0_2, qP0_3, qP0_4⟩ := qq
  go_wp2_with fail
  refine (szArith_any a0 y0 u0 A0 n0 c0 O0 m0 d0 1048576 _ (by omega) hN0 hM0).mono ?_
  rintro e w1 ⟨rfl, b1⟩
  clear qP0_0 qP0_1 qP0_2 qP0_3 qP0_4
  have xP0_1 := xP0_al1.below b1; clear xP0_al1
  have z1 := b1.size
  simp only [World.size_alloc] at z1
  have B1 := Bq1.trans (b1.mono Bq1.size); clear b1 Bq1
  have qq := xP0_1; obtain ⟨qP0_0, qP0_1, qP0_2, qP0_3, qP0_4⟩ := qq
  go_wp2_with fail
  refine (toArith_any a0 y0 u0 A0 n0 c0 O0 m0 d0 _ _ _ ⟨h0.1.below B1 (Nat.le_refl _), h0.2.below B1 (Nat.le_refl _)⟩ (by omega) (by omega)).mono ?_
  rintro e w2 ⟨St1x0, Tt1x0, rfl, ft1x0_2, b2⟩
  clear qP0_0 qP0_1 qP0_2 qP0_3 qP0_4
  have xP0_2 := xP0_1.below b2; clear xP0_1
  have z2 := b2.size
  have B2 := B1.trans (b2.mono B1.size); clear b2 B1
  go_wp2_with fail
  refine (spec_ArithText_any _ _ _ _ _ _ _ _ _ _ _ _ ft1x0_2.reads (by omega) (by omega) ).mono ?_
  rintro e w3 ⟨rfl, b3⟩
  have ft1x0_3 := ft1x0_2.below b3 (.inl (Nat.le_refl _)); clear ft1x0_2
  have xP0_3 := xP0_2.below b3; clear xP0_2
  have z3 := b3.size
  have B3 := B2.trans (b3.mono B2.size); clear b3 B2
  clear ft1x0_3
  have qq := xP0_3; obtain ⟨qP0_0, qP0_1, qP0_2, qP0_3, qP0_4⟩ := qq
  go_wp2_with fail
  refine (toArith_any a0 y0 u0 A0 n0 c0 O0 m0 d0 _ _ _ ⟨h0.1.below B3 (Nat.le_refl _), h0.2.below B3 (Nat.le_refl _)⟩ (by omega) (by omega)).mono ?_
  rintro e w4 ⟨Sx0, Tx0, rfl, fx0_4, b4⟩
  clear qP0_0 qP0_1 qP0_2 qP0_3 qP0_4
  have xP0_4 := xP0_3.below b4; clear xP0_3
  have z4 := b4.size
  have B4 := B3.trans (b4.mono B3.size); clear b4 B3
  have al2 : Below w4.heap.size w4 (w4.alloc (.cells #[.int .i64 a0, .int .i64 y0, .int .i64 u0, .slice (some Sx0) n0 n0, .slice (some Tx0) m0 m0] 40)) := (Below.refl _ _).alloc (Nat.le_refl _) _
  have fx0_al2 := fx0_4.below al2 (.inl (Nat.le_refl _)); clear fx0_4
  have xP0_al2 := xP0_4.below al2; clear xP0_4
  have xx0_al2 : BxA (w4.alloc (.cells #[.int .i64 a0, .int .i64 y0, .int .i64 u0, .slice (some Sx0) n0 n0, .slice (some Tx0) m0 m0] 40)) w4.heap.size a0 y0 u0 (some Sx0) n0 n0 (some Tx0) m0 m0 := BxA.new _ _
  have Bq2 := B4.trans (al2.mono B4.size); clear B4
  clear al2
  have qq := xx0_al2; obtain ⟨qx0_0, qx0_1, qx0_2, qx0_3, qx0_4⟩ := qq
  go_wp2_with fail
  refine (ArithText_any _ _ _ _ _ _ _ _ _ _ _ _ fx0_al2.reads (by omega) (by omega) (hT.below Bq2 (Nat.le_refl _)) (hG.below Bq2 (Nat.le_refl _))).mono ?_
  rintro e w5 ⟨rfl, b5⟩
  clear qx0_0 qx0_1 qx0_2 qx0_3 qx0_4
  have fx0_5 := fx0_al2.below b5 (.inl (Nat.le_refl _)); clear fx0_al2
  have xP0_5 := xP0_al2.below b5; clear xP0_al2
  have xx0_5 := xx0_al2.below b5; clear xx0_al2
  have z5 := b5.size
  simp only [World.size_alloc] at z5
  have B5 := Bq2.trans (b5.mono Bq2.size); clear b5 Bq2
  have qq := xx0_5; obtain ⟨qx0_0, qx0_1, qx0_2, qx0_3, qx0_4⟩ := qq
  have qq := xP0_5; obtain ⟨qP0_0, qP0_1, qP0_2, qP0_3, qP0_4⟩ := qq
  have Bd6 := below_drewN B5 1
  go_wp2_with fail
  go_region_held3 (fun w' => w'.cell? ⟨w4.heap.size, 0, none⟩ = some (.int .i64 a0) ∧ w'.cell? ⟨w4.heap.size, 1, none⟩ = some (.int .i64 y0) ∧ w'.cell? ⟨w4.heap.size, 2, none⟩ = some (.int .i64 u0) ∧ w'.cell? ⟨w4.heap.size, 3, none⟩ = some (.slice (some Sx0) n0 n0) ∧ w'.cell? ⟨w4.heap.size, 4, none⟩ = some (.slice (some Tx0) m0 m0) ∧ w'.cell? ⟨w.heap.size, 0, none⟩ = some (.int .i64 a0) ∧ w'.cell? ⟨w.heap.size, 1, none⟩ = some (.int .i64 y0) ∧ w'.cell? ⟨w.heap.size, 2, none⟩ = some (.int .i64 u0) ∧ w'.cell? ⟨w.heap.size, 3, none⟩ = some (.slice A0 n0 c0) ∧ w'.cell? ⟨w.heap.size, 4, none⟩ = some (.slice O0 m0 d0))
    (first | go_keep | (go_split_ands; exact ⟨cell_below (by assumption) b7, cell_below (by assumption) b7, cell_below (by assumption) b7, cell_below (by assumption) b7, cell_below (by assumption) b7, cell_below (by assumption) b7, cell_below (by assumption) b7, cell_below (by assumption) b7, cell_below (by assumption) b7, cell_below (by assumption) b7⟩) | (go_split_ands; exact ⟨cell_below (by assumption) b6, cell_below (by assumption) b6, cell_below (by assumption) b6, cell_below (by assumption) b6, cell_below (by assumption) b6, cell_below (by assumption) b6, cell_below (by assumption) b6, cell_below (by assumption) b6, cell_below (by assumption) b6, cell_below (by assumption) b6⟩) | ((try dsimp only); (repeat' apply And.intro) <;> go_keep))
    (first | (go_at_call 14; refine (toArith_any a0 y0 u0 A0 n0 c0 O0 m0 d0 _ _ _ ⟨h0.1.below Bd6 (Nat.le_refl _), h0.2.below Bd6 (Nat.le_refl _)⟩ (by omega) (by omega)).mono ?_; rintro e w6 ⟨Sy5, Ty5, rfl, fy5_6, b6⟩) | (go_at_call 16; refine (eqArith_any _ _ _ _ _ _ _ _ _ _ _ _ _ _ _ _ (OwnC.reads (OwnC.below (w := World.drewN w5 1) fx0_5 b6 (.inl (Nat.le_refl _)))) fy5_6.reads (by omega) (by omega)).mono ?_; rintro e w7 ⟨rfl, b7⟩))
  clear qx0_0 qx0_1 qx0_2 qx0_3 qx0_4 qP0_0 qP0_1 qP0_2 qP0_3 qP0_4
  have b6_ : Below w5.heap.size w5 w6 := (below_drewN (Below.refl _ _) 1).trans (b6.mono (Nat.le_refl _)); clear b6; have b6 := b6_; clear b6_
  clear fy5_6 Bd6
  have fx0_6 := fx0_5.below b6 (.inl (Nat.le_refl _)); clear fx0_5
  have xP0_6 := xP0_5.below b6; clear xP0_5
  have xx0_6 := xx0_5.below b6; clear xx0_5
  have z6 := b6.size
  have B6 := B5.trans (b6.mono B5.size); clear b6 B5
  have fx0_7 := fx0_6.below b7 (.inl (Nat.le_refl _)); clear fx0_6
  have xP0_7 := xP0_6.below b7; clear xP0_6
  have xx0_7 := xx0_6.below b7; clear xx0_6
  have z7 := b7.size
  have B7 := B6.trans (b7.mono B6.size); clear b7 B6
  go_wp2
  go_ret
  exact ⟨rfl, B7⟩

end Go.Proofs.YtgpfiefhhlejfaaDoor.lawArithText
