/- The law FnExactScaleShare holds: for every input it returns true, and each argument reads afterwards as it read before. No condition. -/
import Derived.Test.YthmdgcbhoijmgaaRows
import Derived.Test.YthmdgcbhoijmgaaLaw
import Derived.Test.YthmdgcbhoijmgaaRow
import Derived.Test.YthmdgcbhoijmgaaSum2
namespace Go.Proofs.Ythmdgcbhoijmgaa.lawScaleShare
open Go.ChangeShapes Go.WideShapes Go.ChangeAt Go.RowKit
open Go.ChangeMaps (open_string shut_string)
set_option linter.unusedVariables false
set_option linter.unusedSimpArgs false

set_option maxRecDepth 100000 in
set_option maxHeartbeats 4000000 in
theorem walk (a0 : Int) (a1 : Option Addr) (n1 c1 : Nat) (x1 : List Int) (a2 : Int) (w : World) (h0 : (Lit.int .i64 a0).wf = true) (h1 : RI w a1 n1 x1) (h2 : (Lit.int .i64 a2).wf = true) :
    Calls Try.prog 11 #[.int .i64 a0, .slice a1 n1 c1, .int .i64 a2] w fun e w' => e = .returned (.bool true) ∧ Below w.heap.size w w' := by
  by_cases s1 : n1 ≤ 1048576
  rotate_left
  · have s1' : (1048576 : Int) < (n1 : Int) := by omega
    go_enter Try.func11, Try.ntmps11
    go_wp2
    go_ret
    exact ⟨rfl, Below.refl _ _⟩
  have l1 := h1.len
  have hzl0 := scaleF_len a0 n1 x1 a2
  go_enter Try.func11, Try.ntmps11
  go_wp2_with fail
  refine (toIntS_any _ _ _ x1 _ h1 (by omega)).mono ?_
  rintro e w1 ⟨Tt0x1, rfl, ft0x1_1, b1⟩
  have z1 := b1.size
  have B1 := b1; clear b1
  go_wp2_with fail
  refine (spec_ScaleShare_any ft0x1_1.reads (by omega) ).mono ?_
  rintro e w2 ⟨Aw0, Cw0, rfl, fw0_2, b2⟩
  have ft0x1_2 := ft0x1_1.below b2 (.inl (Nat.le_refl _)); clear ft0x1_1
  have z2 := b2.size
  have B2 := B1.trans (b2.mono B1.size); clear b2 B1
  clear ft0x1_2
  go_wp2_with fail
  refine (toIntS_any _ _ _ x1 _ (h1.below B2 (Nat.le_refl _)) (by omega)).mono ?_
  rintro e w3 ⟨Tx1, rfl, fx1_3, b3⟩
  have fw0_3 := fw0_2.below b3 (.inl (Nat.le_refl _)); clear fw0_2
  have z3 := b3.size
  have B3 := B2.trans (b3.mono B2.size); clear b3 B2
  go_wp2_with fail
  refine (ScaleShare_any fx1_3.reads (by omega) ).mono ?_
  rintro e w4 ⟨Ag0, Cg0, rfl, fg0_4, b4⟩
  have fw0_4 := fw0_3.below b4 (.inl (Nat.le_refl _)); clear fw0_3
  have fx1_4 := fx1_3.below b4 (.inl (Nat.le_refl _)); clear fx1_3
  have z4 := b4.size
  have B4 := B3.trans (b4.mono B3.size); clear b4 B3
  go_wp2_with fail
  refine (eqIntS_b _ _ _ _ _ _ _ fg0_4.reads fw0_4.reads (by omega)).mono ?_
  rintro e w5 ⟨rfl, b5⟩
  have fw0_5 := fw0_4.below b5 (.inl (Nat.le_refl _)); clear fw0_4
  have fx1_5 := fx1_4.below b5 (.inl (Nat.le_refl _)); clear fx1_4
  have fg0_5 := fg0_4.below b5 (.inl (Nat.le_refl _)); clear fg0_4
  have z5 := b5.size
  have B5 := B4.trans (b5.mono B4.size); clear b5 B4
  go_wp2_with fail
  refine (toIntS_any _ _ _ x1 _ (h1.below B5 (Nat.le_refl _)) (by omega)).mono ?_
  rintro e w6 ⟨Ty5, rfl, fy5_6, b6⟩
  have fw0_6 := fw0_5.below b6 (.inl (Nat.le_refl _)); clear fw0_5
  have fx1_6 := fx1_5.below b6 (.inl (Nat.le_refl _)); clear fx1_5
  have fg0_6 := fg0_5.below b6 (.inl (Nat.le_refl _)); clear fg0_5
  have z6 := b6.size
  have B6 := B5.trans (b6.mono B5.size); clear b6 B5
  go_wp2_with fail
  refine (eqIntS_b _ _ _ _ _ _ _ fx1_6.reads fy5_6.reads (by omega)).mono ?_
  rintro e w7 ⟨rfl, b7⟩
  have fw0_7 := fw0_6.below b7 (.inl (Nat.le_refl _)); clear fw0_6
  have fx1_7 := fx1_6.below b7 (.inl (Nat.le_refl _)); clear fx1_6
  have fg0_7 := fg0_6.below b7 (.inl (Nat.le_refl _)); clear fg0_6
  have fy5_7 := fy5_6.below b7 (.inl (Nat.le_refl _)); clear fy5_6
  have z7 := b7.size
  have B7 := B6.trans (b7.mono B6.size); clear b7 B6
  clear fy5_7
  go_wp2_with fail
  refine (markIntS_any _ _ _ _ _ _ _ _ fx1_7 (by omega) (by omega) (by omega)).mono ?_
  rintro e w8 ⟨rfl, fx1_8, g8⟩
  have fw0_8 := fw0_7.grown g8 (fw0_7.ne fx1_7 (.inl (by omega))); clear fw0_7
  have fg0_8 := fg0_7.grown g8 (fg0_7.ne fx1_7 (.inr (by omega))); clear fg0_7
  have z8 := g8.size
  have B8 := B7.grown g8 B7.size (fun q hq => by have := fx1_7.lt q hq; omega); clear B7 fx1_7 g8
  go_wp2_with fail
  refine (eqIntS_b _ _ _ _ _ _ _ fg0_8.reads fw0_8.reads (by omega)).mono ?_
  rintro e w9 ⟨rfl, b9⟩
  have fw0_9 := fw0_8.below b9 (.inl (Nat.le_refl _)); clear fw0_8
  have fx1_9 := fx1_8.below b9 (.inl (Nat.le_refl _)); clear fx1_8
  have fg0_9 := fg0_8.below b9 (.inl (Nat.le_refl _)); clear fg0_8
  have z9 := b9.size
  have B9 := B8.trans (b9.mono B8.size); clear b9 B8
  go_wp2_with fail
  refine (markIntS_any _ _ _ _ _ _ _ _ fg0_9 (by omega) (by omega) (by omega)).mono ?_
  rintro e w10 ⟨rfl, fg0_10, g10⟩
  have fw0_10 := fw0_9.grown g10 (fw0_9.ne fg0_9 (.inl (by omega))); clear fw0_9
  have fx1_10 := fx1_9.grown g10 (fx1_9.ne fg0_9 (.inl (by omega))); clear fx1_9
  have z10 := g10.size
  have B10 := B9.grown g10 B9.size (fun q hq => by have := fg0_9.lt q hq; omega); clear B9 fg0_9 g10
  go_wp2_with fail
  refine (heldIntS_b _ _ _ _ _ fg0_10.reads (by omega) (by omega) (by omega)).mono ?_
  rintro e w11 ⟨rfl, b11⟩
  have fw0_11 := fw0_10.below b11 (.inl (Nat.le_refl _)); clear fw0_10
  have fx1_11 := fx1_10.below b11 (.inl (Nat.le_refl _)); clear fx1_10
  have fg0_11 := fg0_10.below b11 (.inl (Nat.le_refl _)); clear fg0_10
  have z11 := b11.size
  have B11 := B10.trans (b11.mono B10.size); clear b11 B10
  go_wp2_with fail
  refine (toIntS_any _ _ _ x1 _ (h1.below B11 (Nat.le_refl _)) (by omega)).mono ?_
  rintro e w12 ⟨Tt11x1, rfl, ft11x1_12, b12⟩
  have fw0_12 := fw0_11.below b12 (.inl (Nat.le_refl _)); clear fw0_11
  have fx1_12 := fx1_11.below b12 (.inl (Nat.le_refl _)); clear fx1_11
  have fg0_12 := fg0_11.below b12 (.inl (Nat.le_refl _)); clear fg0_11
  have z12 := b12.size
  have B12 := B11.trans (b12.mono B11.size); clear b12 B11
  go_wp2_with fail
  refine (ScaleShare_any ft11x1_12.reads (by omega) ).mono ?_
  rintro e w13 ⟨Ah0, Ch0, rfl, fh0_13, b13⟩
  have fw0_13 := fw0_12.below b13 (.inl (Nat.le_refl _)); clear fw0_12
  have fx1_13 := fx1_12.below b13 (.inl (Nat.le_refl _)); clear fx1_12
  have fg0_13 := fg0_12.below b13 (.inl (Nat.le_refl _)); clear fg0_12
  have ft11x1_13 := ft11x1_12.below b13 (.inl (Nat.le_refl _)); clear ft11x1_12
  have z13 := b13.size
  have B13 := B12.trans (b13.mono B12.size); clear b13 B12
  clear ft11x1_13
  go_wp2_with fail
  refine (eqIntS_b _ _ _ _ _ _ _ fh0_13.reads fw0_13.reads (by omega)).mono ?_
  rintro e w14 ⟨rfl, b14⟩
  have fw0_14 := fw0_13.below b14 (.inl (Nat.le_refl _)); clear fw0_13
  have fx1_14 := fx1_13.below b14 (.inl (Nat.le_refl _)); clear fx1_13
  have fg0_14 := fg0_13.below b14 (.inl (Nat.le_refl _)); clear fg0_13
  have fh0_14 := fh0_13.below b14 (.inl (Nat.le_refl _)); clear fh0_13
  have z14 := b14.size
  have B14 := B13.trans (b14.mono B13.size); clear b14 B13
  go_wp2_with fail
  refine (heldIntS_b _ _ _ _ _ fg0_14.reads (by omega) (by omega) (by omega)).mono ?_
  rintro e w15 ⟨rfl, b15⟩
  have fw0_15 := fw0_14.below b15 (.inl (Nat.le_refl _)); clear fw0_14
  have fx1_15 := fx1_14.below b15 (.inl (Nat.le_refl _)); clear fx1_14
  have fg0_15 := fg0_14.below b15 (.inl (Nat.le_refl _)); clear fg0_14
  have fh0_15 := fh0_14.below b15 (.inl (Nat.le_refl _)); clear fh0_14
  have z15 := b15.size
  have B15 := B14.trans (b15.mono B14.size); clear b15 B14
  go_wp2
  go_ret
  exact ⟨rfl, B15⟩

set_option maxRecDepth 100000 in
theorem lifted (os : Os) (started : os.Started) (H : Type) (enc : TypeId × Value → H) :
    ReturnsInHanded {} Try.checked os 11 .any (Rows.fnExactScaleShareSpec.pre6 enc Try.prog Try.f11 Rows.fnExactScaleShareRow.domain false) (Rows.fnExactScaleShareSpec.post enc Try.prog Try.f11 false true false false) := by
  refine returnsInHanded_of_change (C := Try.checked) own started (by kernel_rfl) Try.func11
    (ChangeSpec.witness6 (enc := enc) (C := Try.checked) false ⟨#[], #[.int .i64 0, .slice none 0 0, .int .i64 0], []⟩ 8 (by kernel_rfl) (by kernel_rfl) (by kernel_rfl) (by kernel_rfl)) ?_
  intro W base args ds gs before hval0 hW hcnd _
  have hval : ∀ (j : Nat) t v, Try.f11.params[j]? = some t → args[j]? = some v → Value.okWide Try.prog W .any base t v := hval0
  have hW' := hW
  obtain ⟨p, q, hA0, hV, rfl, hfz, hnd⟩ := hW
  have hA : DataW.TrodAll enc Try.prog W 0 (fun _ => true) true Try.f11.params.toList args.toList ds p := hA0
  rw [Try.params11] at hA hval
  obtain ⟨v0, vs0, d0, ds0, p0, q0, hargs, rfl, rfl, h0, r0⟩ := trodAll_cons hA
  obtain ⟨v1, vs1, d1, ds1, p1, q1, rfl, rfl, rfl, h1, r1⟩ := trodAll_cons r0
  obtain ⟨v2, vs2, d2, ds2, p2, q2, rfl, rfl, rfl, h2, r2⟩ := trodAll_cons r1
  obtain ⟨rfl, rfl, rfl⟩ := trodAll_nil r2
  obtain rfl : args = #[v0, v1, v2] := by cases args; simp_all
  obtain ⟨rfl, rfl⟩ := trodVars_none hV
  obtain ⟨a0, rfl, rfl, rfl, w0⟩ := open_int Try.underlying3 (hval 0 3 v0 rfl rfl) h0
  obtain ⟨a1, n1, c1, rfl⟩ := okWide_slice Try.underlying22 (hval 1 22 v1 rfl rfl)
  have k1 := h1
  have lt1 : ∀ x ∈ p1, x.block < W.heap.size := by obtain ⟨m, hm⟩ := k1; exact DataW.trod_lt m _ _ _ hm
  obtain ⟨x1, w1⟩ : ∃ xs, RI W a1 n1 xs := RI_of_trod h1
  obtain ⟨a2, rfl, rfl, rfl, w2⟩ := open_int Try.underlying3 (hval 2 3 v2 rfl rfl) h2
  clear hA0 hval0
  refine (walk a0 a1 n1 c1 x1 a2 W w0 w1 w2).mono fun e W' ⟨he, bel⟩ => ?_
  subst he
  exact ⟨_, rfl, _, _, _, [], _, [], hW', trodAll_mk1 (shut_bool Try.underlying4 _), (trodAll_cons_mk (shut_int Try.underlying3 w0) (trodAll_cons_mk (Below.trod laidOut (by kernel_rfl) (of_decide_eq_true (by kernel_rfl)) k1 bel lt1) (trodAll_cons_mk (shut_int Try.underlying3 w2) trodAll_mk0))), rfl, bel.frame _, fun h => by cases h⟩

theorem over : Rows.fnExactScaleShareRow.holds Try.pinned (OpenSpec.ofChange Rows.fnExactScaleShareSpec) :=
  OpenClaim.holds_of_wide 11 Try.f11 rfl rfl rfl rfl rfl rfl rfl ⟨rfl, rfl, rfl, rfl, rfl⟩ rfl rfl rfl rfl rfl (by kernel_rfl) Try.func11 (by kernel_rfl)
    (of_decide_eq_true (by kernel_rfl)) (by unfold Func.isWrapper; first | (rw [if_pos (by decide +kernel)]; kernel_rfl) | (rw [if_neg (by decide +kernel)]; exact ⟨rfl, rfl⟩))
    (fun os started H enc _ => lifted os started H enc)

/-- The given statement. -/
theorem proved : Rows.FnExactScaleShareSaid := over

end Go.Proofs.Ythmdgcbhoijmgaa.lawScaleShare
