/- The walk of the law FnExactWiresOf: whatever its arguments read as, it returns true and leaves what was there. No condition. -/
import Derived.Test.YtjjphaiomaiilaaGreatQA
import Derived.Test.YtjjphaiomaiilaaGreatQXFs1
namespace Go.Proofs.YtjjphaiomaiilaaGreat.lawWiresOf
open Go.RowKit
set_option linter.unusedVariables false
set_option linter.unusedSimpArgs false
set_option maxRecDepth 100000 in
set_option maxHeartbeats 8000000 in
theorem walk (a0 : Option Addr) (n0 c0 : Nat) (x0 : List Ln) (a1 : List UInt8) (w : World) (h0 : RLn w a0 n0 x0 ∧ n0 ≤ maxLen ∧ ∀ s ∈ x0, bigL s) (h1 : (bs a1).size ≤ maxLen) :
    Calls Tryz.prog 4 #[.slice a0 n0 c0, .string (bs a1)] w fun e w' => e = .returned (.bool true) ∧ Below w.heap.size w w' := by
  obtain ⟨h0, hN0, hL0⟩ := h0
  have hzs1 : (bs a1).size = a1.length := bs_size _
  by_cases s1 : a1.length ≤ 1048576
  rotate_left
  · have s1' : (1048576 : Int) < (a1.length : Int) := by omega
    go_enter Tryz.func4, Tryz.ntmps4
    go_wp2
    go_ret
    exact ⟨rfl, (Below.refl _ _)⟩
  have l0 := h0.len
  by_cases t0 : (szLs 1048576 x0) < 0
  · skip
    go_enter Tryz.func4, Tryz.ntmps4
    go_wp2_with fail
    refine (szLineS_any a0 n0 c0 x0 1048576 _ h0 (by omega) hN0 hL0).mono ?_
    rintro e w1 ⟨rfl, b1⟩
    have z1 := b1.size
    have B1 := b1; clear b1
    go_wp2
    go_ret
    exact ⟨rfl, B1⟩
  have tz0 := szLs_bd (left := 1048576) (l := x0) (by omega) (by omega); obtain ⟨ta0, hsh0⟩ := tz0.2.2 (by omega); have htp0 := szLs_parts (left := 1048576) (l := x0) (by omega) (by omega) (by omega)
  have hzl0 := wiF_len x0 a1
  go_enter Tryz.func4, Tryz.ntmps4
  go_wp2_with fail
  refine (szLineS_any a0 n0 c0 x0 1048576 _ h0 (by omega) hN0 hL0).mono ?_
  rintro e w1 ⟨rfl, b1⟩
  have z1 := b1.size
  have B1 := b1; clear b1
  go_wp2_with fail
  refine (toLineS_any _ _ _ x0 _ (h0.below B1 (Nat.le_refl _)) (by omega) hsh0).mono ?_
  rintro e w2 ⟨Tt1x0, rfl, ft1x0_2, b2⟩
  have z2 := b2.size
  have B2 := B1.trans (b2.mono B1.size); clear b2 B1
  go_wp2_with fail
  refine (spec_WiresOf_any _ _ _ x0 a1 _ ft1x0_2.reads (by omega) (Nat.le_refl _) hsh0 ).mono ?_
  rintro e w3 ⟨Aw0, Cw0, rfl, fw0_3, b3⟩
  have ft1x0_3 := ft1x0_2.below b3 (.inl (Nat.le_refl _)); clear ft1x0_2
  have z3 := b3.size
  have B3 := B2.trans (b3.mono B2.size); clear b3 B2
  clear ft1x0_3
  go_wp2_with fail
  refine (toLineS_any _ _ _ x0 _ (h0.below B3 (Nat.le_refl _)) (by omega) hsh0).mono ?_
  rintro e w4 ⟨Tx0, rfl, fx0_4, b4⟩
  have fw0_4 := fw0_3.below b4 (.inl (Nat.le_refl _)); clear fw0_3
  have z4 := b4.size
  have B4 := B3.trans (b4.mono B3.size); clear b4 B3
  go_wp2_with fail
  refine (WiresOf_any _ _ _ x0 a1 _ fx0_4.reads (by omega) (Nat.le_refl _) hsh0 ).mono ?_
  rintro e w5 ⟨Ag0, Cg0, rfl, fg0_5, b5⟩
  have fw0_5 := fw0_4.below b5 (.inl (Nat.le_refl _)); clear fw0_4
  have fx0_5 := fx0_4.below b5 (.inl (Nat.le_refl _)); clear fx0_4
  have z5 := b5.size
  have B5 := B4.trans (b5.mono B4.size); clear b5 B4
  go_wp2_with fail
  refine (eqIntS_b _ _ _ _ _ _ _ fg0_5.reads fw0_5.reads (by omega)).mono ?_
  rintro e w6 ⟨rfl, b6⟩
  have fw0_6 := fw0_5.below b6 (.inl (Nat.le_refl _)); clear fw0_5
  have fx0_6 := fx0_5.below b6 (.inl (Nat.le_refl _)); clear fx0_5
  have fg0_6 := fg0_5.below b6 (.inl (Nat.le_refl _)); clear fg0_5
  have z6 := b6.size
  have B6 := B5.trans (b6.mono B5.size); clear b6 B5
  go_wp2_with fail
  refine (toLineS_any _ _ _ x0 _ (h0.below B6 (Nat.le_refl _)) (by omega) hsh0).mono ?_
  rintro e w7 ⟨Ty6, rfl, fy6_7, b7⟩
  have fw0_7 := fw0_6.below b7 (.inl (Nat.le_refl _)); clear fw0_6
  have fx0_7 := fx0_6.below b7 (.inl (Nat.le_refl _)); clear fx0_6
  have fg0_7 := fg0_6.below b7 (.inl (Nat.le_refl _)); clear fg0_6
  have z7 := b7.size
  have B7 := B6.trans (b7.mono B6.size); clear b7 B6
  go_wp2_with fail
  refine (eqLineS_b _ _ _ _ _ _ _ fx0_7.reads fy6_7.reads (by omega) hsh0).mono ?_
  rintro e w8 ⟨rfl, b8⟩
  have fw0_8 := fw0_7.below b8 (.inl (Nat.le_refl _)); clear fw0_7
  have fx0_8 := fx0_7.below b8 (.inl (Nat.le_refl _)); clear fx0_7
  have fg0_8 := fg0_7.below b8 (.inl (Nat.le_refl _)); clear fg0_7
  have fy6_8 := fy6_7.below b8 (.inl (Nat.le_refl _)); clear fy6_7
  have z8 := b8.size
  have B8 := B7.trans (b8.mono B7.size); clear b8 B7
  clear fy6_8
  go_wp2_with fail
  refine (markLineS_c _ _ _ _ _ _ _ _ fx0_8 (by omega) hsh0 htp0 (by omega) (by omega)).mono ?_
  rintro e w9 ⟨rfl, g9⟩
  have fw0_9 := fw0_8.chg g9 (.inl (by omega)); clear fw0_8
  have fg0_9 := fg0_8.chg g9 (.inr (by omega)); clear fg0_8
  have z9 := g9.size
  have B9 := g9.below_ B8 (by omega) B8.size; clear B8 fx0_8 g9
  go_wp2_with fail
  refine (eqIntS_b _ _ _ _ _ _ _ fg0_9.reads fw0_9.reads (by omega)).mono ?_
  rintro e w10 ⟨rfl, b10⟩
  have fw0_10 := fw0_9.below b10 (.inl (Nat.le_refl _)); clear fw0_9
  have fg0_10 := fg0_9.below b10 (.inl (Nat.le_refl _)); clear fg0_9
  have z10 := b10.size
  have B10 := B9.trans (b10.mono B9.size); clear b10 B9
  go_wp2_with fail
  refine (markIntS_c _ _ _ _ _ _ _ _ fg0_10 (by omega) (by omega) (by omega)).mono ?_
  rintro e w11 ⟨rfl, fg0_11, g11⟩
  have fw0_11 := fw0_10.chg g11 (.inl (by omega)); clear fw0_10
  have z11 := g11.size
  have B11 := g11.below_ B10 (by omega) B10.size; clear B10 fg0_10 g11
  go_wp2_with fail
  refine (heldIntS_b _ _ _ _ _ fg0_11.reads (by omega) (by omega) (by omega)).mono ?_
  rintro e w12 ⟨rfl, b12⟩
  have fw0_12 := fw0_11.below b12 (.inl (Nat.le_refl _)); clear fw0_11
  have fg0_12 := fg0_11.below b12 (.inl (Nat.le_refl _)); clear fg0_11
  have z12 := b12.size
  have B12 := B11.trans (b12.mono B11.size); clear b12 B11
  go_wp2_with fail
  refine (toLineS_any _ _ _ x0 _ (h0.below B12 (Nat.le_refl _)) (by omega) hsh0).mono ?_
  rintro e w13 ⟨Tt12x0, rfl, ft12x0_13, b13⟩
  have fw0_13 := fw0_12.below b13 (.inl (Nat.le_refl _)); clear fw0_12
  have fg0_13 := fg0_12.below b13 (.inl (Nat.le_refl _)); clear fg0_12
  have z13 := b13.size
  have B13 := B12.trans (b13.mono B12.size); clear b13 B12
  go_wp2_with fail
  refine (WiresOf_any _ _ _ x0 a1 _ ft12x0_13.reads (by omega) (Nat.le_refl _) hsh0 ).mono ?_
  rintro e w14 ⟨Ah0, Ch0, rfl, fh0_14, b14⟩
  have fw0_14 := fw0_13.below b14 (.inl (Nat.le_refl _)); clear fw0_13
  have fg0_14 := fg0_13.below b14 (.inl (Nat.le_refl _)); clear fg0_13
  have ft12x0_14 := ft12x0_13.below b14 (.inl (Nat.le_refl _)); clear ft12x0_13
  have z14 := b14.size
  have B14 := B13.trans (b14.mono B13.size); clear b14 B13
  clear ft12x0_14
  go_wp2_with fail
  refine (eqIntS_b _ _ _ _ _ _ _ fh0_14.reads fw0_14.reads (by omega)).mono ?_
  rintro e w15 ⟨rfl, b15⟩
  have fw0_15 := fw0_14.below b15 (.inl (Nat.le_refl _)); clear fw0_14
  have fg0_15 := fg0_14.below b15 (.inl (Nat.le_refl _)); clear fg0_14
  have fh0_15 := fh0_14.below b15 (.inl (Nat.le_refl _)); clear fh0_14
  have z15 := b15.size
  have B15 := B14.trans (b15.mono B14.size); clear b15 B14
  go_wp2_with fail
  refine (heldIntS_b _ _ _ _ _ fg0_15.reads (by omega) (by omega) (by omega)).mono ?_
  rintro e w16 ⟨rfl, b16⟩
  have fw0_16 := fw0_15.below b16 (.inl (Nat.le_refl _)); clear fw0_15
  have fg0_16 := fg0_15.below b16 (.inl (Nat.le_refl _)); clear fg0_15
  have fh0_16 := fh0_15.below b16 (.inl (Nat.le_refl _)); clear fh0_15
  have z16 := b16.size
  have B16 := B15.trans (b16.mono B15.size); clear b16 B15
  go_wp2
  go_ret
  exact ⟨rfl, B16⟩
end Go.Proofs.YtjjphaiomaiilaaGreat.lawWiresOf
