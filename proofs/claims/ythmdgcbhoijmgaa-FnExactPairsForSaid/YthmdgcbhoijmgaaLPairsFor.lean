/- The law FnExactPairsFor holds: for every input it returns true, and each argument reads afterwards as it read before. No condition. -/
import Derived.Test.YthmdgcbhoijmgaaRows
import Derived.Test.YthmdgcbhoijmgaaChg
import Derived.Test.YthmdgcbhoijmgaaRow
import Derived.Test.YthmdgcbhoijmgaaPairs
namespace Go.Proofs.Ythmdgcbhoijmgaa.lawPairsFor
open Go.ChangeShapes Go.WideShapes Go.ChangeAt Go.RowKit
open Go.ChangeMaps (open_string shut_string)
set_option linter.unusedVariables false
set_option linter.unusedSimpArgs false

set_option maxRecDepth 100000 in
set_option maxHeartbeats 4000000 in
theorem walk (a0 : Int) (a1 : Int) (w : World) (h0 : (Lit.int .i64 a0).wf = true) (h1 : (Lit.int .i64 a1).wf = true) :
    Calls Try.prog 6 #[.int .i64 a0, .int .i64 a1] w fun e w' => e = .returned (.bool true) ∧ Below w.heap.size w w' := by
  have hzl0 := pairsF_len a0 a1
  have hzl1 := pairsF_in a0 a1
  go_enter Try.func6, Try.ntmps6
  go_wp2_with fail
  refine (spec_PairsFor_any  ).mono ?_
  rintro e w1 ⟨Aw0, Cw0, rfl, fw0_1, b1⟩
  have z1 := b1.size
  have B1 := b1; clear b1
  go_wp2_with fail
  refine (PairsFor_any  ).mono ?_
  rintro e w2 ⟨Ag0, Cg0, rfl, fg0_2, b2⟩
  have fw0_2 := fw0_1.below b2 (Nat.le_refl _); clear fw0_1
  have z2 := b2.size
  have B2 := B1.trans (b2.mono B1.size); clear b2 B1
  go_wp2_with fail
  refine (eqIntSS_b _ _ _ _ _ _ _ fg0_2.reads fw0_2.reads (by omega) (fun xs hx => by have := hzl1 xs hx; omega)).mono ?_
  rintro e w3 ⟨rfl, b3⟩
  have fw0_3 := fw0_2.below b3 (Nat.le_refl _); clear fw0_2
  have fg0_3 := fg0_2.below b3 (Nat.le_refl _); clear fg0_2
  have z3 := b3.size
  have B3 := B2.trans (b3.mono B2.size); clear b3 B2
  go_wp2_with fail
  refine (markIntSS_c _ _ _ _ _ _ _ _ fg0_3 hzl1 (by omega) (by omega) (by omega)).mono ?_
  rintro e w4 ⟨rfl, fg0_4, g4⟩
  have fw0_4 := fw0_3.chg g4 (.inl (by omega)); clear fw0_3
  have z4 := g4.size
  have B4 := g4.below_ B3 (by omega) B3.size; clear B3 fg0_3 g4
  go_wp2_with fail
  refine (heldIntSS_b _ _ _ _ _ _ fg0_4.reads hzl1 (by omega) (by omega) (by omega)).mono ?_
  rintro e w5 ⟨rfl, b5⟩
  have fw0_5 := fw0_4.below b5 (Nat.le_refl _); clear fw0_4
  have fg0_5 := fg0_4.below b5 (Nat.le_refl _); clear fg0_4
  have z5 := b5.size
  have B5 := B4.trans (b5.mono B4.size); clear b5 B4
  go_wp2_with fail
  refine (PairsFor_any  ).mono ?_
  rintro e w6 ⟨Ah0, Ch0, rfl, fh0_6, b6⟩
  have fw0_6 := fw0_5.below b6 (Nat.le_refl _); clear fw0_5
  have fg0_6 := fg0_5.below b6 (Nat.le_refl _); clear fg0_5
  have z6 := b6.size
  have B6 := B5.trans (b6.mono B5.size); clear b6 B5
  go_wp2_with fail
  refine (eqIntSS_b _ _ _ _ _ _ _ fh0_6.reads fw0_6.reads (by omega) (fun xs hx => by have := hzl1 xs hx; omega)).mono ?_
  rintro e w7 ⟨rfl, b7⟩
  have fw0_7 := fw0_6.below b7 (Nat.le_refl _); clear fw0_6
  have fg0_7 := fg0_6.below b7 (Nat.le_refl _); clear fg0_6
  have fh0_7 := fh0_6.below b7 (Nat.le_refl _); clear fh0_6
  have z7 := b7.size
  have B7 := B6.trans (b7.mono B6.size); clear b7 B6
  go_wp2_with fail
  refine (heldIntSS_b _ _ _ _ _ _ fg0_7.reads hzl1 (by omega) (by omega) (by omega)).mono ?_
  rintro e w8 ⟨rfl, b8⟩
  have fw0_8 := fw0_7.below b8 (Nat.le_refl _); clear fw0_7
  have fg0_8 := fg0_7.below b8 (Nat.le_refl _); clear fg0_7
  have fh0_8 := fh0_7.below b8 (Nat.le_refl _); clear fh0_7
  have z8 := b8.size
  have B8 := B7.trans (b8.mono B7.size); clear b8 B7
  go_wp2
  go_ret
  exact ⟨rfl, B8⟩

set_option maxRecDepth 100000 in
theorem lifted (os : Os) (started : os.Started) (H : Type) (enc : TypeId × Value → H) :
    ReturnsInHanded {} Try.checked os 6 .any (Rows.fnExactPairsForSpec.pre6 enc Try.prog Try.f6 Rows.fnExactPairsForRow.domain false) (Rows.fnExactPairsForSpec.post enc Try.prog Try.f6 false true false false) := by
  refine returnsInHanded_of_change (C := Try.checked) own started (by kernel_rfl) Try.func6
    (ChangeSpec.witness6 (enc := enc) (C := Try.checked) false ⟨#[], #[.int .i64 0, .int .i64 0], []⟩ 8 (by kernel_rfl) (by kernel_rfl) (by kernel_rfl) (by kernel_rfl)) ?_
  intro W base args ds gs before hval0 hW hcnd _
  have hval : ∀ (j : Nat) t v, Try.f6.params[j]? = some t → args[j]? = some v → Value.okWide Try.prog W .any base t v := hval0
  have hW' := hW
  obtain ⟨p, q, hA0, hV, rfl, hfz, hnd⟩ := hW
  have hA : DataW.TrodAll enc Try.prog W 0 (fun _ => true) true Try.f6.params.toList args.toList ds p := hA0
  rw [Try.params6] at hA hval
  obtain ⟨v0, vs0, d0, ds0, p0, q0, hargs, rfl, rfl, h0, r0⟩ := trodAll_cons hA
  obtain ⟨v1, vs1, d1, ds1, p1, q1, rfl, rfl, rfl, h1, r1⟩ := trodAll_cons r0
  obtain ⟨rfl, rfl, rfl⟩ := trodAll_nil r1
  obtain rfl : args = #[v0, v1] := by cases args; simp_all
  obtain ⟨rfl, rfl⟩ := trodVars_none hV
  obtain ⟨a0, rfl, rfl, rfl, w0⟩ := open_int Try.underlying3 (hval 0 3 v0 rfl rfl) h0
  obtain ⟨a1, rfl, rfl, rfl, w1⟩ := open_int Try.underlying3 (hval 1 3 v1 rfl rfl) h1
  clear hA0 hval0
  refine (walk a0 a1 W w0 w1).mono fun e W' ⟨he, bel⟩ => ?_
  subst he
  exact ⟨_, rfl, _, _, _, [], [], [], hW', trodAll_mk1 (shut_bool Try.underlying4 _), (trodAll_cons_mk (shut_int Try.underlying3 w0) (trodAll_cons_mk (shut_int Try.underlying3 w1) trodAll_mk0)), rfl, bel.frame _, fun h => by cases h⟩

theorem over : Rows.fnExactPairsForRow.holds Try.pinned (OpenSpec.ofChange Rows.fnExactPairsForSpec) :=
  OpenClaim.holds_of_wide 6 Try.f6 rfl rfl rfl rfl rfl rfl rfl ⟨rfl, rfl, rfl, rfl, rfl⟩ rfl rfl rfl rfl rfl (by kernel_rfl) Try.func6 (by kernel_rfl)
    (of_decide_eq_true (by kernel_rfl)) (by unfold Func.isWrapper; first | (rw [if_pos (by decide +kernel)]; kernel_rfl) | (rw [if_neg (by decide +kernel)]; exact ⟨rfl, rfl⟩))
    (fun os started H enc _ => lifted os started H enc)

/-- The given statement. -/
theorem proved : Rows.FnExactPairsForSaid := over

end Go.Proofs.Ythmdgcbhoijmgaa.lawPairsFor
