/- The law FnExactInnerShares holds: for every input it returns true, and each argument reads afterwards as it read before. No condition. -/
import Derived.Test.YthmdgcbhoijmgaaRows
import Derived.Test.YthmdgcbhoijmgaaLaw
import Derived.Test.YthmdgcbhoijmgaaRow
import Derived.Test.YthmdgcbhoijmgaaSum2
namespace Go.Proofs.Ythmdgcbhoijmgaa.lawInnerShares
open Go.ChangeShapes Go.WideShapes Go.ChangeAt Go.RowKit
open Go.ChangeMaps (open_string shut_string)
set_option linter.unusedVariables false
set_option linter.unusedSimpArgs false

set_option maxRecDepth 100000 in
set_option maxHeartbeats 4000000 in
theorem walk (a0 : Int) (a1 : Option Addr) (n1 c1 : Nat) (x1 : List Int) (a2 : Option Addr) (n2 c2 : Nat) (x2 : List Int) (w : World) (h0 : (Lit.int .i64 a0).wf = true) (h1 : RI w a1 n1 x1) (h2 : RI w a2 n2 x2) :
    Calls Try.prog 5 #[.int .i64 a0, .slice a1 n1 c1, .slice a2 n2 c2] w fun e w' => e = .returned (.bool true) ∧ Below w.heap.size w w' := by
  by_cases s1 : n1 ≤ 1048576
  rotate_left
  · have s1' : (1048576 : Int) < (n1 : Int) := by omega
    go_enter Try.func5, Try.ntmps5
    go_wp2
    go_ret
    exact ⟨rfl, Below.refl _ _⟩
  by_cases s2 : n2 ≤ 1048576
  rotate_left
  · have s2' : (1048576 : Int) < (n2 : Int) := by omega
    go_enter Try.func5, Try.ntmps5
    go_wp2
    go_ret
    exact ⟨rfl, Below.refl _ _⟩
  have l1 := h1.len
  have l2 := h2.len
  go_enter Try.func5, Try.ntmps5
  go_wp2_with fail
  refine (toIntS_any _ _ _ x1 _ h1 (by omega)).mono ?_
  rintro e w1 ⟨Tt0x1, rfl, ft0x1_1, b1⟩
  have z1 := b1.size
  have B1 := b1; clear b1
  go_wp2_with fail
  refine (toIntS_any _ _ _ x2 _ (h2.below B1 (Nat.le_refl _)) (by omega)).mono ?_
  rintro e w2 ⟨Tt1x2, rfl, ft1x2_2, b2⟩
  have ft0x1_2 := ft0x1_1.below b2 (.inl (Nat.le_refl _)); clear ft0x1_1
  have z2 := b2.size
  have B2 := B1.trans (b2.mono B1.size); clear b2 B1
  go_wp2_with fail
  refine (spec_InnerShares_any ft0x1_2.reads (by omega) ft1x2_2.reads (by omega) ).mono ?_
  rintro e w3 ⟨rfl, b3⟩
  have ft0x1_3 := ft0x1_2.below b3 (.inl (Nat.le_refl _)); clear ft0x1_2
  have ft1x2_3 := ft1x2_2.below b3 (.inl (Nat.le_refl _)); clear ft1x2_2
  have z3 := b3.size
  have B3 := B2.trans (b3.mono B2.size); clear b3 B2
  clear ft0x1_3
  clear ft1x2_3
  go_wp2_with fail
  refine (toIntS_any _ _ _ x1 _ (h1.below B3 (Nat.le_refl _)) (by omega)).mono ?_
  rintro e w4 ⟨Tx1, rfl, fx1_4, b4⟩
  have z4 := b4.size
  have B4 := B3.trans (b4.mono B3.size); clear b4 B3
  go_wp2_with fail
  refine (toIntS_any _ _ _ x2 _ (h2.below B4 (Nat.le_refl _)) (by omega)).mono ?_
  rintro e w5 ⟨Tx2, rfl, fx2_5, b5⟩
  have fx1_5 := fx1_4.below b5 (.inl (Nat.le_refl _)); clear fx1_4
  have z5 := b5.size
  have B5 := B4.trans (b5.mono B4.size); clear b5 B4
  go_wp2_with fail
  refine (InnerShares_any fx1_5.reads (by omega) fx2_5.reads (by omega) ).mono ?_
  rintro e w6 ⟨rfl, b6⟩
  have fx1_6 := fx1_5.below b6 (.inl (Nat.le_refl _)); clear fx1_5
  have fx2_6 := fx2_5.below b6 (.inl (Nat.le_refl _)); clear fx2_5
  have z6 := b6.size
  have B6 := B5.trans (b6.mono B5.size); clear b6 B5
  go_wp2_with fail
  refine (toIntS_any _ _ _ x1 _ (h1.below B6 (Nat.le_refl _)) (by omega)).mono ?_
  rintro e w7 ⟨Ty6, rfl, fy6_7, b7⟩
  have fx1_7 := fx1_6.below b7 (.inl (Nat.le_refl _)); clear fx1_6
  have fx2_7 := fx2_6.below b7 (.inl (Nat.le_refl _)); clear fx2_6
  have z7 := b7.size
  have B7 := B6.trans (b7.mono B6.size); clear b7 B6
  go_wp2_with fail
  refine (eqIntS_b _ _ _ _ _ _ _ fx1_7.reads fy6_7.reads (by omega)).mono ?_
  rintro e w8 ⟨rfl, b8⟩
  have fx1_8 := fx1_7.below b8 (.inl (Nat.le_refl _)); clear fx1_7
  have fx2_8 := fx2_7.below b8 (.inl (Nat.le_refl _)); clear fx2_7
  have fy6_8 := fy6_7.below b8 (.inl (Nat.le_refl _)); clear fy6_7
  have z8 := b8.size
  have B8 := B7.trans (b8.mono B7.size); clear b8 B7
  clear fy6_8
  go_wp2_with fail
  refine (toIntS_any _ _ _ x2 _ (h2.below B8 (Nat.le_refl _)) (by omega)).mono ?_
  rintro e w9 ⟨Ty8, rfl, fy8_9, b9⟩
  have fx1_9 := fx1_8.below b9 (.inl (Nat.le_refl _)); clear fx1_8
  have fx2_9 := fx2_8.below b9 (.inl (Nat.le_refl _)); clear fx2_8
  have z9 := b9.size
  have B9 := B8.trans (b9.mono B8.size); clear b9 B8
  go_wp2_with fail
  refine (eqIntS_b _ _ _ _ _ _ _ fx2_9.reads fy8_9.reads (by omega)).mono ?_
  rintro e w10 ⟨rfl, b10⟩
  have fx1_10 := fx1_9.below b10 (.inl (Nat.le_refl _)); clear fx1_9
  have fx2_10 := fx2_9.below b10 (.inl (Nat.le_refl _)); clear fx2_9
  have fy8_10 := fy8_9.below b10 (.inl (Nat.le_refl _)); clear fy8_9
  have z10 := b10.size
  have B10 := B9.trans (b10.mono B9.size); clear b10 B9
  clear fy8_10
  go_wp2
  go_ret
  exact ⟨rfl, B10⟩

set_option maxRecDepth 100000 in
theorem lifted (os : Os) (started : os.Started) (H : Type) (enc : TypeId × Value → H) :
    ReturnsInHanded {} Try.checked os 5 .any (Rows.fnExactInnerSharesSpec.pre6 enc Try.prog Try.f5 Rows.fnExactInnerSharesRow.domain false) (Rows.fnExactInnerSharesSpec.post enc Try.prog Try.f5 false true false false) := by
  refine returnsInHanded_of_change (C := Try.checked) own started (by kernel_rfl) Try.func5
    (ChangeSpec.witness6 (enc := enc) (C := Try.checked) false ⟨#[], #[.int .i64 0, .slice none 0 0, .slice none 0 0], []⟩ 8 (by kernel_rfl) (by kernel_rfl) (by kernel_rfl) (by kernel_rfl)) ?_
  intro W base args ds gs before hval0 hW hcnd _
  have hval : ∀ (j : Nat) t v, Try.f5.params[j]? = some t → args[j]? = some v → Value.okWide Try.prog W .any base t v := hval0
  have hW' := hW
  obtain ⟨p, q, hA0, hV, rfl, hfz, hnd⟩ := hW
  have hA : DataW.TrodAll enc Try.prog W 0 (fun _ => true) true Try.f5.params.toList args.toList ds p := hA0
  rw [Try.params5] at hA hval
  obtain ⟨v0, vs0, d0, ds0, p0, q0, hargs, rfl, rfl, h0, r0⟩ := trodAll_cons hA
  obtain ⟨v1, vs1, d1, ds1, p1, q1, rfl, rfl, rfl, h1, r1⟩ := trodAll_cons r0
  obtain ⟨v2, vs2, d2, ds2, p2, q2, rfl, rfl, rfl, h2, r2⟩ := trodAll_cons r1
  obtain ⟨rfl, rfl, rfl⟩ := trodAll_nil r2
  obtain rfl : args = #[v0, v1, v2] := by cases args; simp_all
  obtain ⟨rfl, rfl⟩ := trodVars_none hV
  obtain ⟨a0, rfl, rfl, rfl, w0⟩ := open_int Try.underlying3 (hval 0 3 v0 rfl rfl) h0
  obtain ⟨a1, n1, c1, rfl⟩ := okWide_slice Try.underlying22 (hval 1 22 v1 rfl rfl)
  have k1 := h1
  have lt1 : ∀ x ∈ p1, x.block < W.heap.size := by obtain ⟨m, hm⟩ := k1; exact DataW.trod_lt m _ _ _ hm
  obtain ⟨x1, w1⟩ : ∃ xs, RI W a1 n1 xs := RI_of_trod h1
  obtain ⟨a2, n2, c2, rfl⟩ := okWide_slice Try.underlying22 (hval 2 22 v2 rfl rfl)
  have k2 := h2
  have lt2 : ∀ x ∈ p2, x.block < W.heap.size := by obtain ⟨m, hm⟩ := k2; exact DataW.trod_lt m _ _ _ hm
  obtain ⟨x2, w2⟩ : ∃ xs, RI W a2 n2 xs := RI_of_trod h2
  clear hA0 hval0
  refine (walk a0 a1 n1 c1 x1 a2 n2 c2 x2 W w0 w1 w2).mono fun e W' ⟨he, bel⟩ => ?_
  subst he
  exact ⟨_, rfl, _, _, _, [], _, [], hW', trodAll_mk1 (shut_bool Try.underlying4 _), (trodAll_cons_mk (shut_int Try.underlying3 w0) (trodAll_cons_mk (Below.trod laidOut (by kernel_rfl) (of_decide_eq_true (by kernel_rfl)) k1 bel lt1) (trodAll_cons_mk (Below.trod laidOut (by kernel_rfl) (of_decide_eq_true (by kernel_rfl)) k2 bel lt2) trodAll_mk0))), rfl, bel.frame _, fun h => by cases h⟩

theorem over : Rows.fnExactInnerSharesRow.holds Try.pinned (OpenSpec.ofChange Rows.fnExactInnerSharesSpec) :=
  OpenClaim.holds_of_wide 5 Try.f5 rfl rfl rfl rfl rfl rfl rfl ⟨rfl, rfl, rfl, rfl, rfl⟩ rfl rfl rfl rfl rfl (by kernel_rfl) Try.func5 (by kernel_rfl)
    (of_decide_eq_true (by kernel_rfl)) (by unfold Func.isWrapper; first | (rw [if_pos (by decide +kernel)]; kernel_rfl) | (rw [if_neg (by decide +kernel)]; exact ⟨rfl, rfl⟩))
    (fun os started H enc _ => lifted os started H enc)

/-- The given statement. -/
theorem proved : Rows.FnExactInnerSharesSaid := over

end Go.Proofs.Ythmdgcbhoijmgaa.lawInnerShares
