/- The walk of the law FnExactLineOfGate: whatever its arguments read as, it returns true and leaves what was there. No condition. -/
import Derived.Test.YtjjphaiomaiilaaGreatQA
import Derived.Test.YtjjphaiomaiilaaGreatQXFs1
namespace Go.Proofs.YtjjphaiomaiilaaGreat.lawLineOfGate
open Go.RowKit
set_option linter.unusedVariables false
set_option linter.unusedSimpArgs false
set_option maxRecDepth 100000 in
set_option maxHeartbeats 8000000 in
theorem walk (a0 : Option Addr) (n0 c0 : Nat) (x0 : List Ln) (a1 : Int) (w : World) (h0 : RLn w a0 n0 x0 ∧ n0 ≤ maxLen ∧ ∀ s ∈ x0, bigL s) (h1 : (Lit.int .i64 a1).wf = true) :
    Calls Tryz.prog 3 #[.slice a0 n0 c0, .int .i64 a1] w fun e w' => e = .returned (.bool true) ∧ Below w.heap.size w w' := by
  obtain ⟨h0, hN0, hL0⟩ := h0
  have l0 := h0.len
  by_cases t0 : (szLs 1048576 x0) < 0
  · skip
    go_enter Tryz.func3, Tryz.ntmps3
    go_wp2_with fail
    refine (szLineS_any a0 n0 c0 x0 1048576 _ h0 (by omega) hN0 hL0).mono ?_
    rintro e w1 ⟨rfl, b1⟩
    have z1 := b1.size
    have B1 := b1; clear b1
    go_wp2
    go_ret
    exact ⟨rfl, B1⟩
  have tz0 := szLs_bd (left := 1048576) (l := x0) (by omega) (by omega); obtain ⟨ta0, hsh0⟩ := tz0.2.2 (by omega); have htp0 := szLs_parts (left := 1048576) (l := x0) (by omega) (by omega) (by omega)
  go_enter Tryz.func3, Tryz.ntmps3
  go_wp2_with fail
  refine (szLineS_any a0 n0 c0 x0 1048576 _ h0 (by omega) hN0 hL0).mono ?_
  rintro e w1 ⟨rfl, b1⟩
  have z1 := b1.size
  have B1 := b1; clear b1
  go_wp2_with fail
  refine (toLineS_any _ _ _ x0 _ (h0.below B1 (Nat.le_refl _)) (by omega) hsh0).mono ?_
  rintro e w2 ⟨Tt1x0, rfl, ft1x0_2, b2⟩
  have z2 := b2.size
  have B2 := B1.trans (b2.mono B1.size); clear b2 B1
  go_wp2_with fail
  refine (spec_LineOfGate_any _ _ _ x0 a1 _ ft1x0_2.reads (by omega) (Nat.le_refl _) hsh0 ).mono ?_
  rintro e w3 ⟨rfl, b3⟩
  have ft1x0_3 := ft1x0_2.below b3 (.inl (Nat.le_refl _)); clear ft1x0_2
  have z3 := b3.size
  have B3 := B2.trans (b3.mono B2.size); clear b3 B2
  clear ft1x0_3
  go_wp2_with fail
  refine (toLineS_any _ _ _ x0 _ (h0.below B3 (Nat.le_refl _)) (by omega) hsh0).mono ?_
  rintro e w4 ⟨Tx0, rfl, fx0_4, b4⟩
  have z4 := b4.size
  have B4 := B3.trans (b4.mono B3.size); clear b4 B3
  go_wp2_with fail
  refine (LineOfGate_any _ _ _ x0 a1 _ fx0_4.reads (by omega) (Nat.le_refl _) hsh0 ).mono ?_
  rintro e w5 ⟨rfl, b5⟩
  have fx0_5 := fx0_4.below b5 (.inl (Nat.le_refl _)); clear fx0_4
  have z5 := b5.size
  have B5 := B4.trans (b5.mono B4.size); clear b5 B4
  go_wp2_with fail
  refine (toLineS_any _ _ _ x0 _ (h0.below B5 (Nat.le_refl _)) (by omega) hsh0).mono ?_
  rintro e w6 ⟨Ty5, rfl, fy5_6, b6⟩
  have fx0_6 := fx0_5.below b6 (.inl (Nat.le_refl _)); clear fx0_5
  have z6 := b6.size
  have B6 := B5.trans (b6.mono B5.size); clear b6 B5
  go_wp2_with fail
  refine (eqLineS_b _ _ _ _ _ _ _ fx0_6.reads fy5_6.reads (by omega) hsh0).mono ?_
  rintro e w7 ⟨rfl, b7⟩
  have fx0_7 := fx0_6.below b7 (.inl (Nat.le_refl _)); clear fx0_6
  have fy5_7 := fy5_6.below b7 (.inl (Nat.le_refl _)); clear fy5_6
  have z7 := b7.size
  have B7 := B6.trans (b7.mono B6.size); clear b7 B6
  clear fy5_7
  go_wp2
  go_ret
  exact ⟨rfl, B7⟩
end Go.Proofs.YtjjphaiomaiilaaGreat.lawLineOfGate
