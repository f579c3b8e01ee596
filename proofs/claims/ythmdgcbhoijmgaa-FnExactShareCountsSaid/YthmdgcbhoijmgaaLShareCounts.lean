/- The law FnExactShareCounts holds: for every input it returns true, and each argument reads afterwards as it read before. No condition. -/
import Derived.Test.YthmdgcbhoijmgaaRows
import Derived.Test.YthmdgcbhoijmgaaChg
import Derived.Test.YthmdgcbhoijmgaaRow
import Derived.Test.YthmdgcbhoijmgaaPairs
namespace Go.Proofs.Ythmdgcbhoijmgaa.lawShareCounts
open Go.ChangeShapes Go.WideShapes Go.ChangeAt Go.RowKit
open Go.ChangeMaps (open_string shut_string)
set_option linter.unusedVariables false
set_option linter.unusedSimpArgs false

set_option maxRecDepth 100000 in
set_option maxHeartbeats 4000000 in
theorem walk (a0 : Int) (a1 : Int) (a2 : Int) (w : World) (h0 : (Lit.int .i64 a0).wf = true) (h1 : (Lit.int .i64 a1).wf = true) (h2 : (Lit.int .i64 a2).wf = true) :
    Calls Try.prog 4 #[.int .i64 a0, .int .i64 a1, .int .i64 a2] w fun e w' => e = .returned (.bool true) ∧ Below w.heap.size w w' := by
  have hzl0 := countsF_len a0 a1 a2
  go_enter Try.func4, Try.ntmps4
  go_wp2_with fail
  refine (spec_ShareCounts_any  ).mono ?_
  rintro e w1 ⟨Aw0, Cw0, rfl, fw0_1, b1⟩
  have z1 := b1.size
  have B1 := b1; clear b1
  go_wp2_with fail
  refine (ShareCounts_any  ).mono ?_
  rintro e w2 ⟨Ag0, Cg0, rfl, fg0_2, b2⟩
  have fw0_2 := fw0_1.below b2 (.inl (Nat.le_refl _)); clear fw0_1
  have z2 := b2.size
  have B2 := B1.trans (b2.mono B1.size); clear b2 B1
  go_wp2_with fail
  refine (eqIntS_b _ _ _ _ _ _ _ fg0_2.reads fw0_2.reads (by omega)).mono ?_
  rintro e w3 ⟨rfl, b3⟩
  have fw0_3 := fw0_2.below b3 (.inl (Nat.le_refl _)); clear fw0_2
  have fg0_3 := fg0_2.below b3 (.inl (Nat.le_refl _)); clear fg0_2
  have z3 := b3.size
  have B3 := B2.trans (b3.mono B2.size); clear b3 B2
  go_wp2_with fail
  refine (markIntS_c _ _ _ _ _ _ _ _ fg0_3 (by omega) (by omega) (by omega)).mono ?_
  rintro e w4 ⟨rfl, fg0_4, g4⟩
  have fw0_4 := fw0_3.chg g4 (.inl (by omega)); clear fw0_3
  have z4 := g4.size
  have B4 := g4.below_ B3 (by omega) B3.size; clear B3 fg0_3 g4
  go_wp2_with fail
  refine (heldIntS_b _ _ _ _ _ fg0_4.reads (by omega) (by omega) (by omega)).mono ?_
  rintro e w5 ⟨rfl, b5⟩
  have fw0_5 := fw0_4.below b5 (.inl (Nat.le_refl _)); clear fw0_4
  have fg0_5 := fg0_4.below b5 (.inl (Nat.le_refl _)); clear fg0_4
  have z5 := b5.size
  have B5 := B4.trans (b5.mono B4.size); clear b5 B4
  go_wp2_with fail
  refine (ShareCounts_any  ).mono ?_
  rintro e w6 ⟨Ah0, Ch0, rfl, fh0_6, b6⟩
  have fw0_6 := fw0_5.below b6 (.inl (Nat.le_refl _)); clear fw0_5
  have fg0_6 := fg0_5.below b6 (.inl (Nat.le_refl _)); clear fg0_5
  have z6 := b6.size
  have B6 := B5.trans (b6.mono B5.size); clear b6 B5
  go_wp2_with fail
  refine (eqIntS_b _ _ _ _ _ _ _ fh0_6.reads fw0_6.reads (by omega)).mono ?_
  rintro e w7 ⟨rfl, b7⟩
  have fw0_7 := fw0_6.below b7 (.inl (Nat.le_refl _)); clear fw0_6
  have fg0_7 := fg0_6.below b7 (.inl (Nat.le_refl _)); clear fg0_6
  have fh0_7 := fh0_6.below b7 (.inl (Nat.le_refl _)); clear fh0_6
  have z7 := b7.size
  have B7 := B6.trans (b7.mono B6.size); clear b7 B6
  go_wp2_with fail
  refine (heldIntS_b _ _ _ _ _ fg0_7.reads (by omega) (by omega) (by omega)).mono ?_
  rintro e w8 ⟨rfl, b8⟩
  have fw0_8 := fw0_7.below b8 (.inl (Nat.le_refl _)); clear fw0_7
  have fg0_8 := fg0_7.below b8 (.inl (Nat.le_refl _)); clear fg0_7
  have fh0_8 := fh0_7.below b8 (.inl (Nat.le_refl _)); clear fh0_7
  have z8 := b8.size
  have B8 := B7.trans (b8.mono B7.size); clear b8 B7
  go_wp2
  go_ret
  exact ⟨rfl, B8⟩

set_option maxRecDepth 100000 in
theorem lifted (os : Os) (started : os.Started) (H : Type) (enc : TypeId × Value → H) :
    ReturnsInHanded {} Try.checked os 4 .any (Rows.fnExactShareCountsSpec.pre6 enc Try.prog Try.f4 Rows.fnExactShareCountsRow.domain false) (Rows.fnExactShareCountsSpec.post enc Try.prog Try.f4 false true false false) := by
  refine returnsInHanded_of_change (C := Try.checked) own started (by kernel_rfl) Try.func4
    (ChangeSpec.witness6 (enc := enc) (C := Try.checked) false ⟨#[], #[.int .i64 0, .int .i64 0, .int .i64 0], []⟩ 8 (by kernel_rfl) (by kernel_rfl) (by kernel_rfl) (by kernel_rfl)) ?_
  intro W base args ds gs before hval0 hW hcnd _
  have hval : ∀ (j : Nat) t v, Try.f4.params[j]? = some t → args[j]? = some v → Value.okWide Try.prog W .any base t v := hval0
  have hW' := hW
  obtain ⟨p, q, hA0, hV, rfl, hfz, hnd⟩ := hW
  have hA : DataW.TrodAll enc Try.prog W 0 (fun _ => true) true Try.f4.params.toList args.toList ds p := hA0
  rw [Try.params4] at hA hval
  obtain ⟨v0, vs0, d0, ds0, p0, q0, hargs, rfl, rfl, h0, r0⟩ := trodAll_cons hA
  obtain ⟨v1, vs1, d1, ds1, p1, q1, rfl, rfl, rfl, h1, r1⟩ := trodAll_cons r0
  obtain ⟨v2, vs2, d2, ds2, p2, q2, rfl, rfl, rfl, h2, r2⟩ := trodAll_cons r1
  obtain ⟨rfl, rfl, rfl⟩ := trodAll_nil r2
  obtain rfl : args = #[v0, v1, v2] := by cases args; simp_all
  obtain ⟨rfl, rfl⟩ := trodVars_none hV
  obtain ⟨a0, rfl, rfl, rfl, w0⟩ := open_int Try.underlying3 (hval 0 3 v0 rfl rfl) h0
  obtain ⟨a1, rfl, rfl, rfl, w1⟩ := open_int Try.underlying3 (hval 1 3 v1 rfl rfl) h1
  obtain ⟨a2, rfl, rfl, rfl, w2⟩ := open_int Try.underlying3 (hval 2 3 v2 rfl rfl) h2
  clear hA0 hval0
  refine (walk a0 a1 a2 W w0 w1 w2).mono fun e W' ⟨he, bel⟩ => ?_
  subst he
  exact ⟨_, rfl, _, _, _, [], [], [], hW', trodAll_mk1 (shut_bool Try.underlying4 _), (trodAll_cons_mk (shut_int Try.underlying3 w0) (trodAll_cons_mk (shut_int Try.underlying3 w1) (trodAll_cons_mk (shut_int Try.underlying3 w2) trodAll_mk0))), rfl, bel.frame _, fun h => by cases h⟩

theorem over : Rows.fnExactShareCountsRow.holds Try.pinned (OpenSpec.ofChange Rows.fnExactShareCountsSpec) :=
  OpenClaim.holds_of_wide 4 Try.f4 rfl rfl rfl rfl rfl rfl rfl ⟨rfl, rfl, rfl, rfl, rfl⟩ rfl rfl rfl rfl rfl (by kernel_rfl) Try.func4 (by kernel_rfl)
    (of_decide_eq_true (by kernel_rfl)) (by unfold Func.isWrapper; first | (rw [if_pos (by decide +kernel)]; kernel_rfl) | (rw [if_neg (by decide +kernel)]; exact ⟨rfl, rfl⟩))
    (fun os started H enc _ => lifted os started H enc)

/-- The given statement. -/
theorem proved : Rows.FnExactShareCountsSaid := over

end Go.Proofs.Ythmdgcbhoijmgaa.lawShareCounts
