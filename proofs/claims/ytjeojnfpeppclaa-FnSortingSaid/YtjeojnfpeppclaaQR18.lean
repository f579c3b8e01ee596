/- The walk of the law FnSorting: whatever its arguments read as, it returns true and leaves what was there. No condition. -/
import Derived.Test.YtjeojnfpeppclaaQR17
namespace Go.Proofs.Ytjeojnfpeppclaa.lawFnSorting
open Go.RowKit
set_option linter.unusedVariables false
set_option linter.unusedSimpArgs false
attribute [local go_sem] sepAt sepUpon pureAt pureUpon
theorem open_cs {w w' : World} {C : Ci} {e : Ending} (h : RetC w (some C) e w') : ∃ A c O d, e = .returned (.tuple #[.agg #[.int .i64 C.i0, .int .i64 C.i1, .slice A C.gs.length c, .slice O C.os.length d], .bool true]) ∧ (RG w' A C.gs.length C.gs ∧ RI w' O C.os.length C.os) ∧ Below w.heap.size w w' := by
 obtain ⟨A, c, O, d, h1, h2, h3⟩ := h
 exact ⟨A, c, O, d, h1, ⟨h2.1.reads, h2.2.1.reads⟩, h3⟩
theorem open_cn {w w' : World} {e : Ending} (h : RetC w none e w') : ∃ A c O d, e = .returned (.tuple #[.agg #[.int .i64 0, .int .i64 0, .slice A 0 c, .slice O 0 d], .bool false]) ∧ (RG w' A 0 [] ∧ RI w' O 0 []) ∧ Below w.heap.size w w' := by
 obtain ⟨A, c, O, d, h1, h2, h3⟩ := h
 exact ⟨A, c, O, d, h1, ⟨h2.1.reads, h2.2.1.reads⟩, h3⟩
theorem sameB_rf (xs : List Int) : sameB xs xs = true := by
 unfold sameB
 simp
theorem qInts_bl (A B : Option Addr) (n c d : Nat) (xs : List Int) (w : World) (ha : RI w A n xs) (hb : RI w B n xs) (hn : n ≤ 2097152) :
 Calls Try.prog 17 #[.slice A n c, .slice B n d] w fun e w' => e = .returned (.bool true) ∧ Below w.heap.size w w' := by
 refine (sameInts_any A B n c n d xs xs w ha hb hn hn).mono ?_
 rintro e w' ⟨rfl, j, rfl⟩
 rw [sameB_rf]
 exact ⟨rfl, below_of_drewN j⟩
theorem all_snoc {us : List Int} {x : Int} {lo hi : Int} (h : us.all (inB lo hi) = true) (hx : inB lo hi x = true) : (us ++ [x]).all (inB lo hi) = true := by
 rw [List.all_append, h]; simp [hx]
set_option maxRecDepth 100000 in
set_option maxHeartbeats 80000000 in
theorem walk (Y : Option Addr) (n c : Nat) (Z : Option Addr) (m d : Nat) (w : World) (hY0 : RY0 w Y n) (hn : n ≤ 140737488355328) (hZ0 : RY0 w Z m) (hm : m ≤ 140737488355328) :
 Calls Try.prog 3 #[.slice Y n c, .slice Z m d] w fun e w' => e = .returned (.bool true) ∧ Below w.heap.size w w' := by
 cases hs : bigB n m with
 | true =>
  have hs1 := zH hs; clear hs
  go_enter Try.func3, Try.ntmps3
  go_wp2_with fail
  refine (big_any Y Z n c m d _ hn hm).mono ?_
  rintro e a1 ⟨rfl, rfl⟩
  rw [hs1.out]
  go_wp2
  go_ret
  exact ⟨rfl, Below.refl _ _⟩
 | false =>
  have hnm : n + m ≤ 1048576 := by have h := of_decide_eq_false hs; omega
  have hs1 := zH hs; clear hs
  have hY : RY w Y n := hY0.ry (by omega)
  have hZ : RY w Z m := hZ0.ry (by omega)
  clear hY0 hZ0
  go_enter Try.func3, Try.ntmps3
  go_wp2_with fail
  refine (big_any Y Z n c m d _ hn hm).mono ?_
  rintro e a1 ⟨rfl, rfl⟩
  rw [hs1.out]
  clear hs1 hn hm
  go_wp2_with fail
  refine (DrawMergeNetwork_any Y n c w hY).mono ?_
  rintro e a1 ⟨x, hx1, hx2, rfl, bD2⟩
  have B_3 := bD2
  clear hY
  obtain ⟨M, hM⟩ : ∃ q9, (mgnF x).getD [] = q9 := ⟨_, rfl⟩
  obtain ⟨mb, hmb⟩ : ∃ q9, (mgnF x).isSome = q9 := ⟨_, rfl⟩
  have Ml := mgnF_len x
  rw [hM] at Ml
  have HM := zH hM; have HMB := zH hmb
  clear hM hmb
  obtain ⟨I, hI⟩ : ∃ q9, (insF x).getD [] = q9 := ⟨_, rfl⟩
  obtain ⟨ib, hib⟩ : ∃ q9, (insF x).isSome = q9 := ⟨_, rfl⟩
  have Il := insF_lenS x
  rw [hI] at Il
  have HI := zH hI; have HIB := zH hib
  clear hI hib
  go_wp2_with fail
  refine (MergeNetwork_any x a1).mono ?_
  rintro e a4 hT
  obtain ⟨A1, c1, rfl, r1, b1⟩ := RetOS.letters HM.out HMB.out hT
  clear hT
  have B_6 := B_3.trans (b1.mono B_3.size)
  clear B_3
  go_wp2_with fail
  refine (spec_MergeNetwork_any x a4).mono ?_
  rintro e a7 hT
  obtain ⟨A2, c2, rfl, r2, b2⟩ := RetOS.letters HM.out HMB.out hT
  clear hT
  have r1_9 := r1.below b2 lR
  have B_10 := B_6.trans (b2.mono B_6.size)
  clear r1 B_6
  go_wp2_with fail
  refine (InsertionNetwork_any x a7).mono ?_
  rintro e a11 hT
  obtain ⟨A3, c3, rfl, r3, b3⟩ := RetOS.letters HI.out HIB.out hT
  clear hT
  have r1_13 := r1_9.below b3 lR
  have r2_14 := r2.below b3 lR
  have B_15 := B_10.trans (b3.mono B_10.size)
  clear r1_9 r2 B_10
  go_wp2_with fail
  refine (Zaw x a11).mono ?_
  rintro e a16 hT
  obtain ⟨A4, c4, rfl, r4, b4⟩ := RetOS.letters HI.out HIB.out hT
  clear hT
  have r1_18 := r1_13.below b4 lR
  have r2_19 := r2_14.below b4 lR
  have r3_20 := r3.below b4 lR
  have B_21 := B_15.trans (b4.mono B_15.size)
  clear r1_13 r2_14 r3 B_15
  have z1 : (mb != mb) = false := by simp
  have z2 : (ib != ib) = false := by simp
  go_wp2_with fail
  refine (Zbr A1 A2 M.length c1 c2 M a16 r1_18 r2_19 (by omega)).mono ?_
  rintro e a22 ⟨rfl, b23⟩
  have r1_24 := r1_18.below b23 lR
  have r2_25 := r2_19.below b23 lR
  have r3_26 := r3_20.below b23 lR
  have r4_27 := r4.below b23 lR
  have B_28 := B_21.trans (b23.mono B_21.size)
  clear r1_18 r2_19 r3_20 r4 B_21
  go_wp2_with fail
  refine (Zbr A3 A4 I.length c3 c4 I a22 r3_26 r4_27 (by omega)).mono ?_
  rintro e a29 ⟨rfl, b30⟩
  have r1_31 := r1_24.below b30 lR
  have r2_32 := r2_25.below b30 lR
  have r3_33 := r3_26.below b30 lR
  have r4_34 := r4_27.below b30 lR
  have B_35 := B_28.trans (b30.mono B_28.size)
  clear r1_24 r2_25 r3_26 r4_27 B_28
  clear z1 z2
  clear r1_31
  clear r3_33
  go_upto_if 100 with (fail)
  go_cut [14, 15] from 101 to 112 (fun s14 s15 wx => Below a29.heap.size a29 wx)
  case first =>
   cases mb with
   | false =>
    go_wp2
    go_meet
    exact Below.refl _ _
   | true =>
    obtain ⟨hB1, hB2⟩ := mgn_sorts (Zbm HM.out HMB.out)
    have hB1 := zH hB1; have hB2 := zH hB2
    go_wp2_with fail
    refine (SortsAll_any x A2 M.length c2 M _ r2_32 (by omega)).mono ?_
    rintro e a36 ⟨he, b37⟩
    rw [hB2.out, hB1.out] at he
    subst he
    go_wp2
    go_meet
    exact b37
  case rest =>
   clear r2_32
   generalize wc = a36 at *
   have r4_37 := r4_34.below hcut lR
   have B_38 := B_35.trans (hcut.mono B_35.size)
   clear r4_34 B_35
   clear HM HMB
   go_upto_if 113 with (fail)
   go_cut [5, 6, 7, 8, 9, 10, 11, 12, 13, 14, 15, 16, 17] from 114 to 125 (fun s5 s6 s7 s8 s9 s10 s11 s12 s13 s14 s15 s16 s17 wx => Below a36.heap.size a36 wx)
   case first =>
    cases ib with
    | false =>
     go_wp2
     go_meet
     exact Below.refl _ _
    | true =>
     obtain ⟨hB1, hB2⟩ := ins_sorts (Zbm HI.out HIB.out)
     have hB1 := zH hB1; have hB2 := zH hB2
     go_wp2_with fail
     refine (SortsAll_any x A4 I.length c4 I _ r4_37 (by omega)).mono ?_
     rintro e a39 ⟨he, b40⟩
     rw [hB2.out, hB1.out] at he
     subst he
     go_wp2
     go_meet
     exact b40
   case rest =>
    clear r4_37
    generalize wc = a39 at *
    have B_40 := B_38.trans (hcut.mono B_38.size)
    clear B_38
    clear HI HIB
    go_wp2_with fail
    have hZ41 : RY a39 Z m := hZ.alt (Alt.of_new (S := fun _ => False) B_40) (fun _ _ _ _ h => h)
    go_wp2_with fail
    refine (DrawPruneNetwork_any Z m d _ hZ41).mono ?_
    rintro e a42 ⟨x5, A5, k5, c5, l5, rfl, r5, hk5, hx5, bD43⟩
    have B_44 := B_40.trans (bD43.mono B_40.size)
    clear B_40
    clear hZ41
    obtain rfl : l5.length = k5 := r5.len
    obtain ⟨P, hP⟩ : ∃ q9, (prF x5 l5).getD [] = q9 := ⟨_, rfl⟩
    obtain ⟨pb, hpb⟩ : ∃ q9, (prF x5 l5).isSome = q9 := ⟨_, rfl⟩
    have Pl := prF_len x5 l5
    rw [hP] at Pl
    have HP := zH hP; have HPB := zH hpb
    clear hP hpb
    obtain ⟨Q, hQ⟩ : ∃ q9, (ndF x5 l5).getD [] = q9 := ⟨_, rfl⟩
    obtain ⟨qb, hqb⟩ : ∃ q9, (ndF x5 l5).isSome = q9 := ⟨_, rfl⟩
    have Ql := ndF_len x5 l5
    rw [hQ] at Ql
    have HQ := zH hQ; have HQB := zH hqb
    clear hQ hqb
    go_wp2_with fail
    refine (PruneNetwork_any x5 A5 l5.length c5 l5 a42 r5 (by omega)).mono ?_
    rintro e a45 hT
    obtain ⟨A6, c6, rfl, r6, b6⟩ := RetOS.letters HP.out HPB.out hT
    clear hT
    have r5_47 := r5.below b6 lR
    have B_48 := B_44.trans (b6.mono B_44.size)
    clear r5 B_44
    go_wp2_with fail
    refine (spec_PruneNetwork_any x5 A5 l5.length c5 l5 a45 r5_47 (by omega)).mono ?_
    rintro e a49 hT
    obtain ⟨A7, c7, rfl, r7, b7⟩ := RetOS.letters HP.out HPB.out hT
    clear hT
    have r5_51 := r5_47.below b7 lR
    have r6_52 := r6.below b7 lR
    have B_53 := B_48.trans (b7.mono B_48.size)
    clear r5_47 r6 B_48
    go_wp2_with fail
    refine (NeedlessSteps_any x5 A5 l5.length c5 l5 a49 r5_51 (by omega)).mono ?_
    rintro e a54 hT
    obtain ⟨A8, c8, rfl, r8, b8⟩ := RetO.lettersS HQ.out HQB.out hT
    clear hT
    have r5_56 := r5_51.below b8 lR
    have r6_57 := r6_52.below b8 lR
    have r7_58 := r7.below b8 lR
    have B_59 := B_53.trans (b8.mono B_53.size)
    clear r5_51 r6_52 r7 B_53
    go_wp2_with fail
    refine (spec_NeedlessSteps_any x5 A5 l5.length c5 l5 a54 r5_56 (by omega)).mono ?_
    rintro e a60 hT
    obtain ⟨A9, c9, rfl, r9, b9⟩ := RetO.lettersS HQ.out HQB.out hT
    clear hT
    have r5_62 := r5_56.below b9 lR
    have r6_63 := r6_57.below b9 lR
    have r7_64 := r7_58.below b9 lR
    have r8_65 := r8.below b9 lR
    have B_66 := B_59.trans (b9.mono B_59.size)
    clear r5_56 r6_57 r7_58 r8 B_59
    go_upto_region 23 with (fail)
    go_cut [187] from 155 to 187 (fun s187 wx => s187 = .bool false ∧ Below a60.heap.size a60 wx)
    case first =>
     have z1 : (pb != pb) = false := by simp
     have z2 : (qb != qb) = false := by simp
     go_wp2_with fail
     refine (Zbr A6 A7 P.length c6 c7 P a60 r6_63 r7_64 (by omega)).mono ?_
     rintro e a67 ⟨rfl, b68⟩
     have r5_69 := r5_62.below b68 lR
     have r6_70 := r6_63.below b68 lR
     have r7_71 := r7_64.below b68 lR
     have r8_72 := r8_65.below b68 lR
     have r9_73 := r9.below b68 lR
     have B_74 := b68
     clear r5_62 r6_63 r7_64 r8_65 r9
     go_wp2_with fail
     refine (qInts_bl A8 A9 Q.length c8 c9 Q a67 r8_72 r9_73 (by omega)).mono ?_
     rintro e a75 ⟨rfl, b76⟩
     have r5_77 := r5_69.below b76 lR
     have r6_78 := r6_70.below b76 lR
     have r7_79 := r7_71.below b76 lR
     have r8_80 := r8_72.below b76 lR
     have r9_81 := r9_73.below b76 lR
     have B_82 := B_74.trans (b76.mono B_74.size)
     clear r5_69 r6_70 r7_71 r8_72 r9_73 B_74
     cases pb with
     | false =>
      go_wp2
      go_meet
      exact ⟨rfl, B_82⟩
     | true =>
      have hsum : ((P.length : Int) + (Q.length : Int)) = (l5.length : Int) := by obtain ⟨_, _, _, _, _, _, h1, _⟩ := pr_law (Q := []) (Zbm HP.out HPB.out) HQ.out; omega
      have hne : ((l5.length : Int) != (l5.length : Int)) = false := by simp
      have hw1 : IntKind.i64.wrap ((P.length : Int) + (Q.length : Int)) = (l5.length : Int) := by rw [hsum, IntKind.wrap_i64] <;> omega
      go_wp2
      go_meet
      exact ⟨rfl, B_82⟩
    case rest =>
     clear r6_63
     clear r8_65
     clear r9
     obtain ⟨rfl, hcut⟩ := hcut
     generalize wc = a67 at *
     have r5_68 := r5_62.below hcut lR
     have r7_69 := r7_64.below hcut lR
     have B_70 := B_66.trans (hcut.mono B_66.size)
     clear r5_62 r7_64 B_66
     have hP200 : P.length ≤ 200 := by omega
     go_upto_if 188 with (fail)
     go_cut [18, 19, 20, 21, 22, 23, 24, 25, 26, 27, 28, 29, 30, 31, 32, 33] from 189 to 229 (fun s18 s19 s20 s21 s22 s23 s24 s25 s26 s27 s28 s29 s30 s31 s32 s33 wx => Below a67.heap.size a67 wx)
     case first =>
      cases pb with
      | false =>
       go_wp2
       go_meet
       exact Below.refl _ _
      | true =>
       obtain ⟨N, rfl, hN1, hN12, hl60, hP60, _, hnb, hnp, hps⟩ := pr_law (Q := []) (Zbm HP.out HPB.out) HQ.out
       have Hnb := zH hnb; have Hnp := zH hnp; have Hps := zH hps
       clear hnb hnp hps HP HPB HQ HQB
       go_wp2
       go_loopw [28, 29] (fun v i wr => ∃ (j : Nat) (R : Option Addr) (rc : Nat) (us : List Int), j ≤ N ∧ i = .int .i64 j ∧ v = .slice R j rc ∧ Own wr a67.heap.size wr.heap.size (.slice R j rc) j us ∧ Hid (us.all (inB (-1000000) 1000000) = true) ∧ Below a67.heap.size a67 wr) (fun _ i _ => N - (intOf i).toNat)
       case atStart => exact ⟨0, none, 0, [], by omega, rfl, rfl, Own.none_ _ _ _, zH rfl, Below.refl _ _⟩
       case round =>
        obtain ⟨j, R, rc, us, hj, rfl, rfl, ho, hall, hb⟩ := hrel
        by_cases hjl : (j : Int) < (N : Int)
        ·have hw1 : IntKind.i64.wrap (7 * (j : Int)) = 7 * (j : Int) := by rw [IntKind.wrap_i64] <;> omega
         have hw2 : IntKind.i64.wrap (3 * (n : Int)) = 3 * (n : Int) := by rw [IntKind.wrap_i64] <;> omega
         have hw3 : IntKind.i64.wrap (7 * (j : Int) + 3 * (n : Int)) = 7 * (j : Int) + 3 * (n : Int) := by rw [IntKind.wrap_i64] <;> omega
         have hA := ho.alloc (.cells #[.int .i64 ((7 * (j : Int) + 3 * (n : Int)) % 11)] 3)
         have hz := hb.size
         go_wp2_with (at_builtin; refine Zae _ rfl _ _ rfl rfl hA rfl (Zbb _ _ _ _ (by simp)) (by omega) oM ?_; intro A7 c7 w7 hown7 hg7 hat7 hk7)
         have hb7 := Zaf (hb.alloc hz (.cells #[.int .i64 ((7 * (j : Int) + 3 * (n : Int)) % 11)] 3)) hA hg7 (by simp; omega) lR
         have hal7 : Hid ((us ++ [(7 * (j : Int) + 3 * (n : Int)) % 11]).all (inB (-1000000) 1000000) = true) := zH (all_snoc hall.out (inB_iff.2 (by omega)))
         clear hg7 hat7 hA hb ho hw1 hw2 hw3
         go_wp2
         go_roundw
         case rel => exact ⟨j + 1, A7, c7, _, by omega, by go_num, rfl, hown7, hal7, hb7⟩
         case measure => simp [intOf]; omega
        ·obtain rfl : j = N := by omega
         clear hj hjl
         obtain ⟨SR, hSR⟩ : ∃ q9, srt l5 us l5.length = q9 := ⟨_, rfl⟩
         have HSR := zH hSR
         have HSP : Hid (srt P us P.length = SR) := zH (by rw [Hps.out us ho.len, hSR])
         have HSL : Hid (SR.length = j) := zH (by rw [← hSR, srt_len]; exact ho.len)
         clear hSR Hps
         have r5_71 := r5_68.below hb lR
         have r7_72 := r7_69.below hb lR
         have B_73 := hb
         clear r5_68 r7_69
         generalize wr = zx at *
         go_wp2_with fail
         have q9 := SortWith_ok j A5 l5.length c5 l5 R rc us zx r5_71 Hnb.out ho.reads hall.out
         rw [HSR.out] at q9
         refine q9.mono ?_
         clear q9
         rintro e a74 hT
         obtain ⟨A10, c10, rfl, o10, b10⟩ := RetO.openS hT HSL.out
         clear hT
         have ho2 := ho.below b10 (.inl lR)
         have r5_75 := r5_71.below b10 lR
         have r7_76 := r7_72.below b10 lR
         have B_77 := B_73.trans (b10.mono B_73.size)
         clear r5_71 r7_72 B_73
         go_wp2_with fail
         have q9 := SortWith_ok j A7 P.length c7 P R rc us a74 r7_76 Hnp.out ho2.reads hall.out
         rw [HSP.out] at q9
         refine q9.mono ?_
         clear q9
         rintro e a78 hT
         obtain ⟨A11, c11, rfl, o11, b11⟩ := RetO.openS hT HSL.out
         clear hT
         have r5_79 := r5_75.below b11 lR
         have r7_80 := r7_76.below b11 lR
         have o10_81 := o10.below b11 (.inl lR)
         have B_82 := B_77.trans (b11.mono B_77.size)
         clear r5_75 r7_76 o10 B_77
         go_wp2_with fail
         refine (qInts_bl A10 A11 j c10 c11 SR a78 o10_81.reads o11.reads (by omega)).mono ?_
         rintro e a83 ⟨rfl, b84⟩
         have r5_85 := r5_79.below b84 lR
         have r7_86 := r7_80.below b84 lR
         have o10_87 := o10_81.below b84 (.inl lR)
         have o11_88 := o11.below b84 (.inl lR)
         have B_89 := B_82.trans (b84.mono B_82.size)
         clear r5_79 r7_80 o10_81 o11 B_82
         go_wp2
         go_meet
         exact B_89
     case rest =>
      clear r5_68
      clear r7_69
      generalize wc = a71 at *
      have B_72 := B_70.trans (hcut.mono B_70.size)
      clear B_70
      clear HP HPB HQ HQB Pl Ql hP200
      go_wp2_with fail
      have hZ73 : RY a71 Z m := hZ.alt (Alt.of_new (S := fun _ => False) B_72) (fun _ _ _ _ h => h)
      go_wp2_with fail
      refine (DrawNetworkCircuit_any Z m d _ hZ73).mono ?_
      rintro e a74 ⟨x12, A12, k12, c12, l12, W12, rfl, r12, hk12, hx12, hW12, bD75⟩
      have B_76 := B_72.trans (bD75.mono B_72.size)
      clear B_72
      clear hZ73 hZ
      obtain rfl : l12.length = k12 := r12.len
      cases hnf : netF x12 l12 W12 with
      | none =>
       have HN := zH hnf; clear hnf
       go_wp2_with fail
       have q79 := Zbq x12 A12 l12.length c12 l12 W12 a74 r12 (by omega)
       rw [HN.out] at q79
       refine q79.mono ?_
       clear q79
       rintro e a77 hT
       obtain ⟨A13, ca13, O13, co13, rfl, r13, b13⟩ := open_cn hT
       clear hT
       have r12_80 := r12.below b13 lR
       have B_81 := B_76.trans (b13.mono B_76.size)
       clear r12 B_76
       have al82 : Below a77.heap.size a77 (a77.alloc (.cells #[.int .i64 0, .int .i64 0, .slice A13 0 ca13, .slice O13 0 co13] 43)) := bA
       have z83 : (a77.alloc (.cells #[.int .i64 0, .int .i64 0, .slice A13 0 ca13, .slice O13 0 co13] 43)).heap.size = a77.heap.size + 1 := by simp
       have p13_84 : BxC (a77.alloc (.cells #[.int .i64 0, .int .i64 0, .slice A13 0 ca13, .slice O13 0 co13] 43)) a77.heap.size 0 0 A13 0 ca13 O13 0 co13 := BxC.new _ _
       have r12_85 := r12_80.below al82 lR
       have r13_86 := And.intro (r13.1.below al82 lR) (r13.2.below al82 lR)
       have B_87 := B_81.trans (al82.mono B_81.size)
       clear r12_80 r13 B_81
       go_wp2_with fail
       generalize (a77.alloc (.cells #[.int .i64 0, .int .i64 0, .slice A13 0 ca13, .slice O13 0 co13] 43)) = a88 at *
       clear al82
       have q91 := Zbc x12 A12 l12.length c12 l12 W12 a88 r12_85 (by omega)
       rw [HN.out] at q91
       refine q91.mono ?_
       clear q91
       rintro e a89 hT
       obtain ⟨A14, ca14, O14, co14, rfl, r14, b14⟩ := open_cn hT
       clear hT
       have r12_92 := r12_85.below b14 lR
       have r13_93 := And.intro (r13_86.1.below b14 lR) (r13_86.2.below b14 lR)
       have p13_94 := p13_84.below b14
       have B_95 := B_87.trans (b14.mono B_87.size)
       clear r12_85 r13_86 p13_84 B_87
       have al96 : Below a89.heap.size a89 (a89.alloc (.cells #[.int .i64 0, .int .i64 0, .slice A14 0 ca14, .slice O14 0 co14] 43)) := bA
       have z97 : (a89.alloc (.cells #[.int .i64 0, .int .i64 0, .slice A14 0 ca14, .slice O14 0 co14] 43)).heap.size = a89.heap.size + 1 := by simp
       have p14_98 : BxC (a89.alloc (.cells #[.int .i64 0, .int .i64 0, .slice A14 0 ca14, .slice O14 0 co14] 43)) a89.heap.size 0 0 A14 0 ca14 O14 0 co14 := BxC.new _ _
       have r12_99 := r12_92.below al96 lR
       have r13_100 := And.intro (r13_93.1.below al96 lR) (r13_93.2.below al96 lR)
       have p13_101 := p13_94.below al96
       have r14_102 := And.intro (r14.1.below al96 lR) (r14.2.below al96 lR)
       have B_103 := B_95.trans (al96.mono B_95.size)
       clear r12_92 r13_93 p13_94 r14 B_95
       have hq := p13_101; obtain ⟨k0, k1, k2, k3⟩ := hq
       have hq := p14_98; obtain ⟨m0, m1, m2, m3⟩ := hq
       go_wp2_with fail
       generalize (a89.alloc (.cells #[.int .i64 0, .int .i64 0, .slice A14 0 ca14, .slice O14 0 co14] 43)) = a104 at *
       clear al96
       refine (pSameCircuit_any 0 0 A13 A14 0 ca13 ca14 O13 O14 0 co13 co14 [] [] _ r13_100 r14_102 (by omega) (by omega)).mono ?_
       rintro e a105 ⟨rfl, b106⟩
       clear k0 k1 k2 k3 m0 m1 m2 m3
       have r12_107 := r12_99.below b106 lR
       have r13_108 := And.intro (r13_100.1.below b106 lR) (r13_100.2.below b106 lR)
       have p13_109 := p13_101.below b106
       have r14_110 := And.intro (r14_102.1.below b106 lR) (r14_102.2.below b106 lR)
       have p14_111 := p14_98.below b106
       have B_112 := B_103.trans (b106.mono B_103.size)
       clear r12_99 r13_100 p13_101 r14_102 p14_98 B_103
       go_wp2
       go_ret
       exact ⟨rfl, B_112⟩
      | some C =>
       obtain ⟨cx, cy, cg, co⟩ := C
       obtain ⟨N, W, T, rfl, rfl, rfl, rfl, hTe, hN1, hN12, hW1, hW4, hT20, hnb, hcb, hcol, hcg, hfin⟩ := net_fin hnf
       have HN := zH hnf; have HTe := zH hTe; have Hnb := zH hnb; have Hcb := zH hcb; have Hcol := zH hcol; have Hfin := zH hfin; have hcol2 : co.length ≤ 20 := by omega
       clear hnf hTe hnb hcb hcol hfin hW12 hx12
       go_wp2_with fail
       have q79 := Zbq (N : Int) A12 l12.length c12 l12 (W : Int) a74 r12 (by omega)
       rw [HN.out] at q79
       refine q79.mono ?_
       clear q79
       rintro e a77 hT
       obtain ⟨A13, ca13, O13, co13, rfl, r13, b13⟩ := open_cs hT
       clear hT
       dsimp only at r13 ⊢
       have r12_80 := r12.below b13 lR
       have B_81 := B_76.trans (b13.mono B_76.size)
       clear r12 B_76
       have al82 : Below a77.heap.size a77 (a77.alloc (.cells #[.int .i64 (T : Int), .int .i64 0, .slice A13 cg.length ca13, .slice O13 co.length co13] 43)) := bA
       have z83 : (a77.alloc (.cells #[.int .i64 (T : Int), .int .i64 0, .slice A13 cg.length ca13, .slice O13 co.length co13] 43)).heap.size = a77.heap.size + 1 := by simp
       have p13_84 : BxC (a77.alloc (.cells #[.int .i64 (T : Int), .int .i64 0, .slice A13 cg.length ca13, .slice O13 co.length co13] 43)) a77.heap.size (T : Int) 0 A13 cg.length ca13 O13 co.length co13 := BxC.new _ _
       have r12_85 := r12_80.below al82 lR
       have r13_86 := And.intro (r13.1.below al82 lR) (r13.2.below al82 lR)
       have B_87 := B_81.trans (al82.mono B_81.size)
       clear r12_80 r13 B_81
       go_wp2_with fail
       generalize (a77.alloc (.cells #[.int .i64 (T : Int), .int .i64 0, .slice A13 cg.length ca13, .slice O13 co.length co13] 43)) = a88 at *
       clear al82
       have q91 := Zbc (N : Int) A12 l12.length c12 l12 (W : Int) a88 r12_85 (by omega)
       rw [HN.out] at q91
       refine q91.mono ?_
       clear q91
       rintro e a89 hT
       obtain ⟨A14, ca14, O14, co14, rfl, r14, b14⟩ := open_cs hT
       clear hT
       dsimp only at r14 ⊢
       have r12_92 := r12_85.below b14 lR
       have r13_93 := And.intro (r13_86.1.below b14 lR) (r13_86.2.below b14 lR)
       have p13_94 := p13_84.below b14
       have B_95 := B_87.trans (b14.mono B_87.size)
       clear r12_85 r13_86 p13_84 B_87
       have al96 : Below a89.heap.size a89 (a89.alloc (.cells #[.int .i64 (T : Int), .int .i64 0, .slice A14 cg.length ca14, .slice O14 co.length co14] 43)) := bA
       have z97 : (a89.alloc (.cells #[.int .i64 (T : Int), .int .i64 0, .slice A14 cg.length ca14, .slice O14 co.length co14] 43)).heap.size = a89.heap.size + 1 := by simp
       have p14_98 : BxC (a89.alloc (.cells #[.int .i64 (T : Int), .int .i64 0, .slice A14 cg.length ca14, .slice O14 co.length co14] 43)) a89.heap.size (T : Int) 0 A14 cg.length ca14 O14 co.length co14 := BxC.new _ _
       have r12_99 := r12_92.below al96 lR
       have r13_100 := And.intro (r13_93.1.below al96 lR) (r13_93.2.below al96 lR)
       have p13_101 := p13_94.below al96
       have r14_102 := And.intro (r14.1.below al96 lR) (r14.2.below al96 lR)
       have B_103 := B_95.trans (al96.mono B_95.size)
       clear r12_92 r13_93 p13_94 r14 B_95
       have hq := p13_101; obtain ⟨k0, k1, k2, k3⟩ := hq
       have hq := p14_98; obtain ⟨m0, m1, m2, m3⟩ := hq
       go_wp2_with fail
       generalize (a89.alloc (.cells #[.int .i64 (T : Int), .int .i64 0, .slice A14 cg.length ca14, .slice O14 co.length co14] 43)) = a104 at *
       clear al96
       refine (pSameCircuit_any (T : Int) 0 A13 A14 cg.length ca13 ca14 O13 O14 co.length co13 co14 cg co _ r13_100 r14_102 (by omega) (by omega)).mono ?_
       rintro e a105 ⟨rfl, b106⟩
       clear k0 k1 k2 k3 m0 m1 m2 m3
       have r12_107 := r12_99.below b106 lR
       have r13_108 := And.intro (r13_100.1.below b106 lR) (r13_100.2.below b106 lR)
       have p13_109 := p13_101.below b106
       have r14_110 := And.intro (r14_102.1.below b106 lR) (r14_102.2.below b106 lR)
       have p14_111 := p14_98.below b106
       have B_112 := B_103.trans (b106.mono B_103.size)
       clear r12_99 r13_100 p13_101 r14_102 p14_98 B_103
       clear r13_108
       clear p13_109
       clear HN
       go_wp2
       obtain ⟨p2, hp2⟩ : ∃ p2 : Nat, 2 ^ W = p2 := ⟨_, rfl⟩
       have hp2a : 1 ≤ p2 := by rw [← hp2]; exact Nat.one_le_two_pow
       have hp2b : p2 ≤ 16 := by rw [← hp2]; exact Nat.le_trans (Nat.pow_le_pow_right (by omega) hW4) (by decide)
       have HP2 := zH hp2
       clear hp2
       go_loopw [41, 42, 43] (fun v u i wr => ∃ (j L : Nat) (R : Option Addr) (rc : Nat) (S : Option Addr) (sc : Nat) (vs : List Nat), j ≤ N ∧ Hid (L = j * W) ∧ L ≤ 20 ∧ i = .int .i64 j ∧ v = .slice R j rc ∧ u = .slice S L sc ∧ Own wr a105.heap.size wr.heap.size (.slice R j rc) j (iL vs) ∧ Own wr a105.heap.size wr.heap.size (.slice S L sc) L (inpK vs W) ∧ Apart (.slice R j rc) (.slice S L sc) ∧ Hid (∀ v ∈ vs, v < p2) ∧ Below a105.heap.size a105 wr) (fun _ _ i _ => N - (intOf i).toNat)
       case atStart => exact ⟨0, 0, none, 0, none, 0, [], by omega, zH (by simp), by omega, rfl, rfl, rfl, Own.none_ _ _ _, Own.none_ _ _ _, Apart.none_ _ _ _, zH (fun v hv => absurd hv (by simp)), Below.refl _ _⟩
       case round =>
        obtain ⟨j, L, R, rc, S, sc, vs, hj, hL, hL20, rfl, rfl, rfl, ox, oi, hap, hvs, hb⟩ := hrel
        by_cases hjl : (j : Int) < (N : Int)
        ·clear r12_107 r14_110 p14_111
         have hw1 : IntKind.i64.wrap (5 * (j : Int)) = 5 * (j : Int) := by rw [IntKind.wrap_i64] <;> omega
         have hw2 : IntKind.i64.wrap (5 * (j : Int) + (m : Int)) = 5 * (j : Int) + (m : Int) := by rw [IntKind.wrap_i64] <;> omega
         have hP0 : ¬ (p2 : Int) = 0 := by omega
         have hPi : (2 : Int) ^ W = p2 := by rw [← HP2.out]; simp
         have hta : ((W : Nat) : Int).toNat = W := by simp
         go_wp2_with fail
         obtain ⟨V, hV⟩ : ∃ V : Nat, (5 * (j : Int) + (m : Int)) % (p2 : Int) = V := ⟨_, (Int.toNat_of_nonneg (Int.emod_nonneg _ hP0)).symm⟩
         have hVb : V < p2 := by have := Int.emod_lt_of_pos (5 * (j : Int) + (m : Int)) (show (0 : Int) < p2 by omega); omega
         rw [hV]
         have HVW : Hid (V < 2 ^ W) := zH (by rw [HP2.out]; exact hVb)
         clear hV hPi hta hw1 hw2 hP0
         refine (BitsOf_ok V W _ (by omega) HVW.out).mono ?_
         rintro e z1 hT
         obtain ⟨Bb, cb, rfl, ob, bb⟩ := RetO.openS hT (Zat V W)
         clear hT HVW
         have hz := hb.size
         have hb1 := hb.trans (bb.mono hz)
         have hz1 := hb1.size
         have apR : Apart (.slice Bb W cb) (.slice R j rc) := fun g h1 h2 => by have e1 := (ob.lt g h1).1; have e2 := (ox.lt g h2).2; omega
         have apS : Apart (.slice Bb W cb) (.slice S L sc) := fun g h1 h2 => by have e1 := (ob.lt g h1).1; have e2 := (oi.lt g h2).2; omega
         have ox2 := (ox.below bb (.inl lR)).alloc (.cells #[.int .i64 (V : Int)] 3)
         have oi2 := (oi.below bb (.inl lR)).alloc (.cells #[.int .i64 (V : Int)] 3)
         have ob2 := ob.alloc (.cells #[.int .i64 (V : Int)] 3)
         have hb2 := hb1.alloc hz1 (.cells #[.int .i64 (V : Int)] 3)
         clear ox oi bb hb
         go_upto_region 50 with (at_builtin; refine Zae _ rfl _ _ rfl rfl ox2 rfl (Zbb _ _ _ _ (by simp)) (by omega) oM ?_; intro A5 c5 w5 hown5 hg5 hat5 hk5)
         have oi5 := oi2.apart hg5 hap.symm_
         have ob5 := ob2.apart hg5 apR
         have hb5 := Zaf hb2 ox2 hg5 (by simp; omega) lR
         have ap5 := hap.symm_.app oi2 lR hat5
         have hz5 := hg5.size
         rw [← iL_snoc] at hown5
         clear hk5 ob2 hb2 apR ox2 oi2 hap hg5 hat5
         have hz5b := hb5.size
         go_wp2_with (at_builtin; refine Zae _ rfl _ _ rfl rfl oi5 rfl ob5.reads (by omega) oM ?_; intro A6 c6 w6 hown6 hg6 hat6 hk6)
         have ox6 := (hown5.apart hg6 ap5.symm_).now
         have ap6 := ap5.symm_.app hown5 lR hat6
         have hb6 := Zaf hb5 oi5 hg6 hz5b lR
         rw [← inpK_snoc] at hown6
         have hL2 : Hid (L + W = (j + 1) * W) := zH (by rw [Nat.succ_mul, hL.out])
         have hL3 : L + W ≤ 20 := by rw [hL2.out]; exact Nat.le_trans (Nat.mul_le_mul_right W (show j + 1 ≤ N by omega)) (by rw [← HTe.out]; exact hT20)
         have hvs2 : Hid (∀ v ∈ vs ++ [V], v < p2) := zH (fun v hv => (List.mem_append.1 hv).elim (hvs.out v) (fun h => by rw [List.mem_singleton.1 h]; exact hVb))
         clear hat6 hg6 hk6 oi5 hown5 ob5 hb5 ap5 hz5
         go_wp2
         go_roundw
         case rel => exact ⟨j + 1, L + W, A5, c5, A6, c6, vs ++ [V], by omega, hL2, hL3, by go_num, rfl, rfl, ox6, hown6, ap6, hvs2, hb6⟩
         case measure => simp [intOf]; omega
        ·obtain rfl : j = N := by omega
         obtain rfl : L = T := by rw [hL.out, HTe.out]
         clear hj hjl hL hL20 hap
         have hvl : vs.length = j := by have := ox.len; rw [iL_len] at this; exact this
         obtain ⟨f1, f2, f3, f4⟩ := Hfin.out vs hvl (by rw [HP2.out]; exact hvs.out)
         obtain ⟨SR, hSR⟩ : ∃ q9, srt l12 (iL vs) l12.length = q9 := ⟨_, rfl⟩
         obtain ⟨OB, hOB⟩ : ∃ q9, pick (vals cg (inpK vs W ++ []) cg.length) co = q9 := ⟨_, rfl⟩
         rw [hOB] at f1 f2 f4
         rw [hSR] at f1 f3
         have HSR := zH hSR; have HOB := zH hOB; have F1 := zH f1; have F2 := zH f2; have F3 := zH f3; have F4 := zH f4; have HA := zH (iL_all (B := p2) (by omega) hvs.out)
         clear hSR hOB f1 f2 f3 f4 hvl Hfin hvs
         have r12_113 := r12_107.below hb lR
         have r14_114 := And.intro (r14_110.1.below hb lR) (r14_110.2.below hb lR)
         have p14_115 := p14_111.below hb
         have B_116 := B_112.trans (hb.mono B_112.size)
         clear r12_107 r14_110 p14_111 B_112
         generalize wr = zx at *
         go_wp2_with fail
         have q9 := SortWith_ok j A12 l12.length c12 l12 R rc (iL vs) zx r12_113 Hnb.out ox.reads HA.out
         rw [HSR.out] at q9
         refine q9.mono ?_
         clear q9
         rintro e a117 hT
         obtain ⟨Ay, cyy, rfl, oy, by_⟩ := RetO.openS hT F3.out
         clear hT
         have r12_118 := r12_113.below by_ lR
         have r14_119 := And.intro (r14_114.1.below by_ lR) (r14_114.2.below by_ lR)
         have p14_120 := p14_115.below by_
         have ox_121 := ox.below by_ (.inl lR)
         have oi_122 := oi.below by_ (.inl lR)
         have B_123 := B_116.trans (by_.mono B_116.size)
         clear r12_113 r14_114 p14_115 ox oi B_116
         have hq := p14_120; obtain ⟨k0, k1, k2, k3⟩ := hq
         go_wp2_with fail
         have q9 := EvalCircuit_ok (L : Int) 0 A14 cg.length ca14 O14 co.length co14 S none L sc 0 0 cg co (inpK vs W) [] a117 r14_119 (by omega) (by omega) Hcb.out oi_122.reads ⟨rfl, fun h => absurd h (by omega)⟩ rfl rfl (inpK_bd vs W) rfl
         rw [HOB.out] at q9
         refine q9.mono ?_
         clear q9 k0 k1 k2 k3
         rintro e a124 hT
         obtain ⟨Ao, coo, rfl, oo, bo⟩ := RetO.openS hT F2.out
         clear hT
         have r12_125 := r12_118.below bo lR
         have r14_126 := And.intro (r14_119.1.below bo lR) (r14_119.2.below bo lR)
         have p14_127 := p14_120.below bo
         have ox_128 := ox_121.below bo (.inl lR)
         have oi_129 := oi_122.below bo (.inl lR)
         have oy_130 := oy.below bo (.inl lR)
         have B_131 := B_123.trans (bo.mono B_123.size)
         clear r12_118 r14_119 p14_120 ox_121 oi_122 oy B_123
         clear r12_125
         clear r14_126
         clear p14_127
         clear ox_128
         clear oi_129
         have hcap := oo.capLeS
         have n1 : ((j : Int) != j) = false := by simp
         have n2 : ((L : Int) != L) = false := by simp
         have hNW : (j : Int) * (W : Int) = (L : Int) := by rw [HTe.out]; simp
         go_wp2
         clear n1 n2 hNW
         go_loopw [324] (fun i wr => ∃ k : Nat, k ≤ j ∧ i = .int .i64 k ∧ Below a124.heap.size a124 wr) (fun i _ => j - (intOf i).toNat)
         case atStart => exact ⟨0, Nat.zero_le _, rfl, Below.refl _ _⟩
         case round =>
          obtain ⟨k, hk, rfl, hbk⟩ := hrel
          by_cases hkl : k < j
          ·have hki : (k : Int) < (j : Int) := by omega
           have f1 := F1.out k hkl
           obtain ⟨K, hK⟩ : ∃ K, k * W = K := ⟨_, rfl⟩
           rw [hK] at f1
           have hKL : K + W ≤ L := by have h1 := Nat.mul_le_mul_right W (show k + 1 ≤ j by omega); rw [Nat.succ_mul, hK, ← HTe.out] at h1; exact h1
           have hKi : (k : Int) * (W : Int) = (K : Int) := by rw [← hK]; simp
           have hKj : ((k : Int) + 1) * (W : Int) = ((K + W : Nat) : Int) := by rw [Int.add_mul, hKi]; simp
           have hw1 : IntKind.i64.wrap ((k : Int) + 1) = (k : Int) + 1 := by rw [IntKind.wrap_i64] <;> omega
           have oy2 := oy_130.below hbk (.inl lR)
           have oo2 := oo.below hbk (.inl lR)
           obtain ⟨yb, yo, rfl, _, d1⟩ := oy2.reads.at_ hkl
           have ht0 := oo2.reads
           obtain ⟨ob, oo9, rfl, _, _⟩ := ht0.at_ (k := 0) (by omega)
           have ht := (ht0.dropK_ K (by omega)).takeK_ W (by omega)
           have hsl := slice_lh ob oo9 L coo K W hKL hcap (by omega)
           have hall := allB_take_ (allB_drop_ F4.out K) W
           obtain ⟨G, hG⟩ : ∃ G, gi SR k = G := ⟨_, rfl⟩
           rw [hG] at f1 d1
           have HF1 := zH f1; have HAL := zH hall
           have n3 : (G != G) = false := by simp
           clear f1 hall hG hK oy2 oo2 ht0 oy_130 oo
           go_wp2_with fail
           have q9 := NumberOf_ok (some ⟨ob, oo9 + K, none⟩) W (coo - K) _ _ ht (by omega) HAL.out
           rw [HF1.out] at q9
           refine q9.mono ?_
           clear q9
           rintro e z3 ⟨rfl, b3⟩
           have hb3 := hbk.trans (b3.mono hbk.size)
           clear hsl d1 ht b3 hbk hKi hKj
           go_wp2
           go_roundw
           case rel => exact ⟨k + 1, by omega, by go_num, hb3⟩
           case measure => simp [intOf]; omega
          ·obtain rfl : k = j := by omega
           go_wp2
           go_ret
           exact ⟨rfl, B_131.trans (hbk.mono B_131.size)⟩
end Go.Proofs.Ytjeojnfpeppclaa.lawFnSorting
