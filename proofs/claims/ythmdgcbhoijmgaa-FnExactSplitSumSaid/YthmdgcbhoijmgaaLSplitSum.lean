/- The law FnExactSplitSum holds: for every input it returns true, and each argument reads afterwards as it read before. No condition. -/
import Derived.Test.YthmdgcbhoijmgaaRows
import Derived.Test.YthmdgcbhoijmgaaChg
import Derived.Test.YthmdgcbhoijmgaaRow
import Derived.Test.YthmdgcbhoijmgaaSplit3
namespace Go.Proofs.Ythmdgcbhoijmgaa.lawSplitSum
open Go.ChangeShapes Go.WideShapes Go.ChangeAt Go.RowKit
open Go.ChangeMaps (open_string shut_string)
set_option linter.unusedVariables false
set_option linter.unusedSimpArgs false

set_option maxRecDepth 100000 in
set_option maxHeartbeats 4000000 in
theorem walk (a0 : Int) (a1 : Int) (a2 : Option Addr) (n2 c2 : Nat) (x2 : List Int) (w : World) (h0 : (Lit.int .i64 a0).wf = true) (h1 : (Lit.int .i64 a1).wf = true) (h2 : RI w a2 n2 x2) :
    Calls Try.prog 15 #[.int .i64 a0, .int .i64 a1, .slice a2 n2 c2] w fun e w' => e = .returned (.bool true) ∧ Below w.heap.size w w' := by
  by_cases s2 : n2 ≤ 1048576
  rotate_left
  · have s2' : (1048576 : Int) < (n2 : Int) := by omega
    go_enter Try.func15, Try.ntmps15
    go_wp2
    go_ret
    exact ⟨rfl, Below.refl _ _⟩
  have l2 := h2.len
  have hzl0 := splitSF_len a0 a1 n2 x2
  go_enter Try.func15, Try.ntmps15
  go_wp2_with fail
  refine (toIntS_any _ _ _ x2 _ h2 (by omega)).mono ?_
  rintro e w1 ⟨Tt0x2, rfl, ft0x2_1, b1⟩
  have z1 := b1.size
  have B1 := b1; clear b1
  go_wp2_with fail
  refine (spec_SplitSum_any ft0x2_1.reads (by omega) ).mono ?_
  rintro e w2 ⟨Aw0, Cw0, Aw1, Cw1, Mw0, rfl, fw0_2, fw1_2, ⟨mw0, Mw0m⟩, b2⟩
  have ft0x2_2 := ft0x2_1.below b2 (.inl (Nat.le_refl _)); clear ft0x2_1
  have z2 := b2.size
  have B2 := B1.trans (b2.mono B1.size); clear b2 B1
  clear ft0x2_2
  go_wp2_with fail
  refine (toIntS_any _ _ _ x2 _ (h2.below B2 (Nat.le_refl _)) (by omega)).mono ?_
  rintro e w3 ⟨Tx2, rfl, fx2_3, b3⟩
  have fw0_3 := fw0_2.below b3 (.inl (Nat.le_refl _)); clear fw0_2
  have fw1_3 := fw1_2.below b3 (.inl (Nat.le_refl _)); clear fw1_2
  have z3 := b3.size
  have B3 := B2.trans (b3.mono B2.size); clear b3 B2
  go_wp2_with fail
  refine (SplitSum_any fx2_3.reads (by omega) ).mono ?_
  rintro e w4 ⟨Ag0, Cg0, Ag1, Cg1, Mg0, rfl, fg0_4, fg1_4, ⟨mg0, Mg0m⟩, b4⟩
  have fw0_4 := fw0_3.below b4 (.inl (Nat.le_refl _)); clear fw0_3
  have fw1_4 := fw1_3.below b4 (.inl (Nat.le_refl _)); clear fw1_3
  have fx2_4 := fx2_3.below b4 (.inl (Nat.le_refl _)); clear fx2_3
  have z4 := b4.size
  have B4 := B3.trans (b4.mono B3.size); clear b4 B3
  go_wp2_with fail
  refine (eqIntS_b _ _ _ _ _ _ _ fg0_4.reads fw0_4.reads (by omega)).mono ?_
  rintro e w5 ⟨rfl, b5⟩
  have fw0_5 := fw0_4.below b5 (.inl (Nat.le_refl _)); clear fw0_4
  have fw1_5 := fw1_4.below b5 (.inl (Nat.le_refl _)); clear fw1_4
  have fx2_5 := fx2_4.below b5 (.inl (Nat.le_refl _)); clear fx2_4
  have fg0_5 := fg0_4.below b5 (.inl (Nat.le_refl _)); clear fg0_4
  have fg1_5 := fg1_4.below b5 (.inl (Nat.le_refl _)); clear fg1_4
  have z5 := b5.size
  have B5 := B4.trans (b5.mono B4.size); clear b5 B4
  go_wp2_with fail
  refine (eqIntS_b _ _ _ _ _ _ _ fg1_5.reads fw1_5.reads (by omega)).mono ?_
  rintro e w6 ⟨rfl, b6⟩
  have fw0_6 := fw0_5.below b6 (.inl (Nat.le_refl _)); clear fw0_5
  have fw1_6 := fw1_5.below b6 (.inl (Nat.le_refl _)); clear fw1_5
  have fx2_6 := fx2_5.below b6 (.inl (Nat.le_refl _)); clear fx2_5
  have fg0_6 := fg0_5.below b6 (.inl (Nat.le_refl _)); clear fg0_5
  have fg1_6 := fg1_5.below b6 (.inl (Nat.le_refl _)); clear fg1_5
  have z6 := b6.size
  have B6 := B5.trans (b6.mono B5.size); clear b6 B5
  go_wp2_with fail
  refine (toIntS_any _ _ _ x2 _ (h2.below B6 (Nat.le_refl _)) (by omega)).mono ?_
  rintro e w7 ⟨Ty6, rfl, fy6_7, b7⟩
  have fw0_7 := fw0_6.below b7 (.inl (Nat.le_refl _)); clear fw0_6
  have fw1_7 := fw1_6.below b7 (.inl (Nat.le_refl _)); clear fw1_6
  have fx2_7 := fx2_6.below b7 (.inl (Nat.le_refl _)); clear fx2_6
  have fg0_7 := fg0_6.below b7 (.inl (Nat.le_refl _)); clear fg0_6
  have fg1_7 := fg1_6.below b7 (.inl (Nat.le_refl _)); clear fg1_6
  have z7 := b7.size
  have B7 := B6.trans (b7.mono B6.size); clear b7 B6
  go_wp2_with fail
  refine (eqIntS_b _ _ _ _ _ _ _ fx2_7.reads fy6_7.reads (by omega)).mono ?_
  rintro e w8 ⟨rfl, b8⟩
  have fw0_8 := fw0_7.below b8 (.inl (Nat.le_refl _)); clear fw0_7
  have fw1_8 := fw1_7.below b8 (.inl (Nat.le_refl _)); clear fw1_7
  have fx2_8 := fx2_7.below b8 (.inl (Nat.le_refl _)); clear fx2_7
  have fg0_8 := fg0_7.below b8 (.inl (Nat.le_refl _)); clear fg0_7
  have fg1_8 := fg1_7.below b8 (.inl (Nat.le_refl _)); clear fg1_7
  have fy6_8 := fy6_7.below b8 (.inl (Nat.le_refl _)); clear fy6_7
  have z8 := b8.size
  have B8 := B7.trans (b8.mono B7.size); clear b8 B7
  clear fy6_8
  go_wp2_with fail
  refine (markIntS_c _ _ _ _ _ _ _ _ fx2_8 (by omega) (by omega) (by omega)).mono ?_
  rintro e w9 ⟨rfl, fx2_9, g9⟩
  have fw0_9 := fw0_8.chg g9 (.inl (by omega)); clear fw0_8
  have fw1_9 := fw1_8.chg g9 (.inl (by omega)); clear fw1_8
  have fg0_9 := fg0_8.chg g9 (.inr (by omega)); clear fg0_8
  have fg1_9 := fg1_8.chg g9 (.inr (by omega)); clear fg1_8
  have z9 := g9.size
  have B9 := g9.below_ B8 (by omega) B8.size; clear B8 fx2_8 g9
  go_wp2_with fail
  refine (eqIntS_b _ _ _ _ _ _ _ fg0_9.reads fw0_9.reads (by omega)).mono ?_
  rintro e w10 ⟨rfl, b10⟩
  have fw0_10 := fw0_9.below b10 (.inl (Nat.le_refl _)); clear fw0_9
  have fw1_10 := fw1_9.below b10 (.inl (Nat.le_refl _)); clear fw1_9
  have fx2_10 := fx2_9.below b10 (.inl (Nat.le_refl _)); clear fx2_9
  have fg0_10 := fg0_9.below b10 (.inl (Nat.le_refl _)); clear fg0_9
  have fg1_10 := fg1_9.below b10 (.inl (Nat.le_refl _)); clear fg1_9
  have z10 := b10.size
  have B10 := B9.trans (b10.mono B9.size); clear b10 B9
  go_wp2_with fail
  refine (eqIntS_b _ _ _ _ _ _ _ fg1_10.reads fw1_10.reads (by omega)).mono ?_
  rintro e w11 ⟨rfl, b11⟩
  have fw0_11 := fw0_10.below b11 (.inl (Nat.le_refl _)); clear fw0_10
  have fw1_11 := fw1_10.below b11 (.inl (Nat.le_refl _)); clear fw1_10
  have fx2_11 := fx2_10.below b11 (.inl (Nat.le_refl _)); clear fx2_10
  have fg0_11 := fg0_10.below b11 (.inl (Nat.le_refl _)); clear fg0_10
  have fg1_11 := fg1_10.below b11 (.inl (Nat.le_refl _)); clear fg1_10
  have z11 := b11.size
  have B11 := B10.trans (b11.mono B10.size); clear b11 B10
  go_wp2_with fail
  refine (markIntS_c _ _ _ _ _ _ _ _ fg0_11 (by omega) (by omega) (by omega)).mono ?_
  rintro e w12 ⟨rfl, fg0_12, g12⟩
  have fw0_12 := fw0_11.chg g12 (.inl (by omega)); clear fw0_11
  have fw1_12 := fw1_11.chg g12 (.inl (by omega)); clear fw1_11
  have fx2_12 := fx2_11.chg g12 (.inl (by omega)); clear fx2_11
  have fg1_12 := fg1_11.chg g12 (.inr (by omega)); clear fg1_11
  have z12 := g12.size
  have B12 := g12.below_ B11 (by omega) B11.size; clear B11 fg0_11 g12
  go_wp2_with fail
  refine (markIntS_c _ _ _ _ _ _ _ _ fg1_12 (by omega) (by omega) (by omega)).mono ?_
  rintro e w13 ⟨rfl, fg1_13, g13⟩
  have fw0_13 := fw0_12.chg g13 (.inl (by omega)); clear fw0_12
  have fw1_13 := fw1_12.chg g13 (.inl (by omega)); clear fw1_12
  have fx2_13 := fx2_12.chg g13 (.inl (by omega)); clear fx2_12
  have fg0_13 := fg0_12.chg g13 (.inl (by omega)); clear fg0_12
  have z13 := g13.size
  have B13 := g13.below_ B12 (by omega) B12.size; clear B12 fg1_12 g13
  go_wp2_with fail
  refine (heldIntS_b _ _ _ _ _ fg0_13.reads (by omega) (by omega) (by omega)).mono ?_
  rintro e w14 ⟨rfl, b14⟩
  have fw0_14 := fw0_13.below b14 (.inl (Nat.le_refl _)); clear fw0_13
  have fw1_14 := fw1_13.below b14 (.inl (Nat.le_refl _)); clear fw1_13
  have fx2_14 := fx2_13.below b14 (.inl (Nat.le_refl _)); clear fx2_13
  have fg0_14 := fg0_13.below b14 (.inl (Nat.le_refl _)); clear fg0_13
  have fg1_14 := fg1_13.below b14 (.inl (Nat.le_refl _)); clear fg1_13
  have z14 := b14.size
  have B14 := B13.trans (b14.mono B13.size); clear b14 B13
  go_wp2_with fail
  refine (heldIntS_b _ _ _ _ _ fg1_14.reads (by omega) (by omega) (by omega)).mono ?_
  rintro e w15 ⟨rfl, b15⟩
  have fw0_15 := fw0_14.below b15 (.inl (Nat.le_refl _)); clear fw0_14
  have fw1_15 := fw1_14.below b15 (.inl (Nat.le_refl _)); clear fw1_14
  have fx2_15 := fx2_14.below b15 (.inl (Nat.le_refl _)); clear fx2_14
  have fg0_15 := fg0_14.below b15 (.inl (Nat.le_refl _)); clear fg0_14
  have fg1_15 := fg1_14.below b15 (.inl (Nat.le_refl _)); clear fg1_14
  have z15 := b15.size
  have B15 := B14.trans (b15.mono B14.size); clear b15 B14
  go_wp2_with fail
  refine (toIntS_any _ _ _ x2 _ (h2.below B15 (Nat.le_refl _)) (by omega)).mono ?_
  rintro e w16 ⟨Tt15x2, rfl, ft15x2_16, b16⟩
  have fw0_16 := fw0_15.below b16 (.inl (Nat.le_refl _)); clear fw0_15
  have fw1_16 := fw1_15.below b16 (.inl (Nat.le_refl _)); clear fw1_15
  have fx2_16 := fx2_15.below b16 (.inl (Nat.le_refl _)); clear fx2_15
  have fg0_16 := fg0_15.below b16 (.inl (Nat.le_refl _)); clear fg0_15
  have fg1_16 := fg1_15.below b16 (.inl (Nat.le_refl _)); clear fg1_15
  have z16 := b16.size
  have B16 := B15.trans (b16.mono B15.size); clear b16 B15
  go_wp2_with fail
  refine (SplitSum_any ft15x2_16.reads (by omega) ).mono ?_
  rintro e w17 ⟨Ah0, Ch0, Ah1, Ch1, Mh0, rfl, fh0_17, fh1_17, ⟨mh0, Mh0m⟩, b17⟩
  have fw0_17 := fw0_16.below b17 (.inl (Nat.le_refl _)); clear fw0_16
  have fw1_17 := fw1_16.below b17 (.inl (Nat.le_refl _)); clear fw1_16
  have fx2_17 := fx2_16.below b17 (.inl (Nat.le_refl _)); clear fx2_16
  have fg0_17 := fg0_16.below b17 (.inl (Nat.le_refl _)); clear fg0_16
  have fg1_17 := fg1_16.below b17 (.inl (Nat.le_refl _)); clear fg1_16
  have ft15x2_17 := ft15x2_16.below b17 (.inl (Nat.le_refl _)); clear ft15x2_16
  have z17 := b17.size
  have B17 := B16.trans (b17.mono B16.size); clear b17 B16
  clear ft15x2_17
  go_wp2_with fail
  refine (eqIntS_b _ _ _ _ _ _ _ fh0_17.reads fw0_17.reads (by omega)).mono ?_
  rintro e w18 ⟨rfl, b18⟩
  have fw0_18 := fw0_17.below b18 (.inl (Nat.le_refl _)); clear fw0_17
  have fw1_18 := fw1_17.below b18 (.inl (Nat.le_refl _)); clear fw1_17
  have fx2_18 := fx2_17.below b18 (.inl (Nat.le_refl _)); clear fx2_17
  have fg0_18 := fg0_17.below b18 (.inl (Nat.le_refl _)); clear fg0_17
  have fg1_18 := fg1_17.below b18 (.inl (Nat.le_refl _)); clear fg1_17
  have fh0_18 := fh0_17.below b18 (.inl (Nat.le_refl _)); clear fh0_17
  have fh1_18 := fh1_17.below b18 (.inl (Nat.le_refl _)); clear fh1_17
  have z18 := b18.size
  have B18 := B17.trans (b18.mono B17.size); clear b18 B17
  go_wp2_with fail
  refine (eqIntS_b _ _ _ _ _ _ _ fh1_18.reads fw1_18.reads (by omega)).mono ?_
  rintro e w19 ⟨rfl, b19⟩
  have fw0_19 := fw0_18.below b19 (.inl (Nat.le_refl _)); clear fw0_18
  have fw1_19 := fw1_18.below b19 (.inl (Nat.le_refl _)); clear fw1_18
  have fx2_19 := fx2_18.below b19 (.inl (Nat.le_refl _)); clear fx2_18
  have fg0_19 := fg0_18.below b19 (.inl (Nat.le_refl _)); clear fg0_18
  have fg1_19 := fg1_18.below b19 (.inl (Nat.le_refl _)); clear fg1_18
  have fh0_19 := fh0_18.below b19 (.inl (Nat.le_refl _)); clear fh0_18
  have fh1_19 := fh1_18.below b19 (.inl (Nat.le_refl _)); clear fh1_18
  have z19 := b19.size
  have B19 := B18.trans (b19.mono B18.size); clear b19 B18
  go_wp2_with fail
  refine (heldIntS_b _ _ _ _ _ fg0_19.reads (by omega) (by omega) (by omega)).mono ?_
  rintro e w20 ⟨rfl, b20⟩
  have fw0_20 := fw0_19.below b20 (.inl (Nat.le_refl _)); clear fw0_19
  have fw1_20 := fw1_19.below b20 (.inl (Nat.le_refl _)); clear fw1_19
  have fx2_20 := fx2_19.below b20 (.inl (Nat.le_refl _)); clear fx2_19
  have fg0_20 := fg0_19.below b20 (.inl (Nat.le_refl _)); clear fg0_19
  have fg1_20 := fg1_19.below b20 (.inl (Nat.le_refl _)); clear fg1_19
  have fh0_20 := fh0_19.below b20 (.inl (Nat.le_refl _)); clear fh0_19
  have fh1_20 := fh1_19.below b20 (.inl (Nat.le_refl _)); clear fh1_19
  have z20 := b20.size
  have B20 := B19.trans (b20.mono B19.size); clear b20 B19
  go_wp2_with fail
  refine (heldIntS_b _ _ _ _ _ fg1_20.reads (by omega) (by omega) (by omega)).mono ?_
  rintro e w21 ⟨rfl, b21⟩
  have fw0_21 := fw0_20.below b21 (.inl (Nat.le_refl _)); clear fw0_20
  have fw1_21 := fw1_20.below b21 (.inl (Nat.le_refl _)); clear fw1_20
  have fx2_21 := fx2_20.below b21 (.inl (Nat.le_refl _)); clear fx2_20
  have fg0_21 := fg0_20.below b21 (.inl (Nat.le_refl _)); clear fg0_20
  have fg1_21 := fg1_20.below b21 (.inl (Nat.le_refl _)); clear fg1_20
  have fh0_21 := fh0_20.below b21 (.inl (Nat.le_refl _)); clear fh0_20
  have fh1_21 := fh1_20.below b21 (.inl (Nat.le_refl _)); clear fh1_20
  have z21 := b21.size
  have B21 := B20.trans (b21.mono B20.size); clear b21 B20
  go_wp2
  go_ret
  exact ⟨rfl, B21⟩

set_option maxRecDepth 100000 in
theorem lifted (os : Os) (started : os.Started) (H : Type) (enc : TypeId × Value → H) :
    ReturnsInHanded {} Try.checked os 15 .any (Rows.fnExactSplitSumSpec.pre6 enc Try.prog Try.f15 Rows.fnExactSplitSumRow.domain false) (Rows.fnExactSplitSumSpec.post enc Try.prog Try.f15 false true false false) := by
  refine returnsInHanded_of_change (C := Try.checked) own started (by kernel_rfl) Try.func15
    (ChangeSpec.witness6 (enc := enc) (C := Try.checked) false ⟨#[], #[.int .i64 0, .int .i64 0, .slice none 0 0], []⟩ 8 (by kernel_rfl) (by kernel_rfl) (by kernel_rfl) (by kernel_rfl)) ?_
  intro W base args ds gs before hval0 hW hcnd _
  have hval : ∀ (j : Nat) t v, Try.f15.params[j]? = some t → args[j]? = some v → Value.okWide Try.prog W .any base t v := hval0
  have hW' := hW
  obtain ⟨p, q, hA0, hV, rfl, hfz, hnd⟩ := hW
  have hA : DataW.TrodAll enc Try.prog W 0 (fun _ => true) true Try.f15.params.toList args.toList ds p := hA0
  rw [Try.params15] at hA hval
  obtain ⟨v0, vs0, d0, ds0, p0, q0, hargs, rfl, rfl, h0, r0⟩ := trodAll_cons hA
  obtain ⟨v1, vs1, d1, ds1, p1, q1, rfl, rfl, rfl, h1, r1⟩ := trodAll_cons r0
  obtain ⟨v2, vs2, d2, ds2, p2, q2, rfl, rfl, rfl, h2, r2⟩ := trodAll_cons r1
  obtain ⟨rfl, rfl, rfl⟩ := trodAll_nil r2
  obtain rfl : args = #[v0, v1, v2] := by cases args; simp_all
  obtain ⟨rfl, rfl⟩ := trodVars_none hV
  obtain ⟨a0, rfl, rfl, rfl, w0⟩ := open_int Try.underlying3 (hval 0 3 v0 rfl rfl) h0
  obtain ⟨a1, rfl, rfl, rfl, w1⟩ := open_int Try.underlying3 (hval 1 3 v1 rfl rfl) h1
  obtain ⟨a2, n2, c2, rfl⟩ := okWide_slice Try.underlying22 (hval 2 22 v2 rfl rfl)
  have k2 := h2
  have lt2 : ∀ x ∈ p2, x.block < W.heap.size := by obtain ⟨m, hm⟩ := k2; exact DataW.trod_lt m _ _ _ hm
  obtain ⟨x2, w2⟩ : ∃ xs, RI W a2 n2 xs := RI_of_trod h2
  clear hA0 hval0
  refine (walk a0 a1 a2 n2 c2 x2 W w0 w1 w2).mono fun e W' ⟨he, bel⟩ => ?_
  subst he
  exact ⟨_, rfl, _, _, _, [], _, [], hW', trodAll_mk1 (shut_bool Try.underlying4 _), (trodAll_cons_mk (shut_int Try.underlying3 w0) (trodAll_cons_mk (shut_int Try.underlying3 w1) (trodAll_cons_mk (Below.trod laidOut (by kernel_rfl) (of_decide_eq_true (by kernel_rfl)) k2 bel lt2) trodAll_mk0))), rfl, bel.frame _, fun h => by cases h⟩

theorem over : Rows.fnExactSplitSumRow.holds Try.pinned (OpenSpec.ofChange Rows.fnExactSplitSumSpec) :=
  OpenClaim.holds_of_wide 15 Try.f15 rfl rfl rfl rfl rfl rfl rfl ⟨rfl, rfl, rfl, rfl, rfl⟩ rfl rfl rfl rfl rfl (by kernel_rfl) Try.func15 (by kernel_rfl)
    (of_decide_eq_true (by kernel_rfl)) (by unfold Func.isWrapper; first | (rw [if_pos (by decide +kernel)]; kernel_rfl) | (rw [if_neg (by decide +kernel)]; exact ⟨rfl, rfl⟩))
    (fun os started H enc _ => lifted os started H enc)

/-- The given statement. -/
theorem proved : Rows.FnExactSplitSumSaid := over

end Go.Proofs.Ythmdgcbhoijmgaa.lawSplitSum
