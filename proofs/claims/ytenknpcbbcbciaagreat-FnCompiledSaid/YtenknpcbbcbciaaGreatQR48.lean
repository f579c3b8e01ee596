/- The walk of the law FnCompiled: whatever its arguments read as, it returns true and leaves what was there. No condition. -/
import Derived.Test.YtenknpcbbcbciaaGreatQR47
namespace Go.Proofs.YtenknpcbbcbciaaGreat.lawFnCompiled
open Go.RowKit
set_option linter.unusedVariables false
set_option linter.unusedSimpArgs false
attribute [local go_sem] sepAt sepUpon pureAt pureUpon
theorem open_cs {w w' : World} {C : Ci} {e : Ending} (h : RetC w (some C) e w') : ∃ A c O d, e = .returned (.tuple #[.agg #[.int .i64 C.i0, .int .i64 C.i1, .slice A C.gs.length c, .slice O C.os.length d], .bool true]) ∧ (RG w' A C.gs.length C.gs ∧ RI w' O C.os.length C.os) ∧ Below w.heap.size w w' := by
 obtain ⟨A, c, O, d, h1, h2, h3⟩ := h
 exact ⟨A, c, O, d, h1, ⟨h2.1.reads, h2.2.1.reads⟩, h3⟩
theorem sameB_rf (xs : List Int) : sameB xs xs = true := by
 unfold sameB
 simp
theorem qInts_bl (A B : Option Addr) (n c d : Nat) (xs : List Int) (w : World) (ha : RI w A n xs) (hb : RI w B n xs) (hn : n ≤ 2097152) :
 Calls Tryz.prog 15 #[.slice A n c, .slice B n d] w fun e w' => e = .returned (.bool true) ∧ Below w.heap.size w w' := by
 refine (qInts_any A B n c n d xs xs w ha hb hn hn).mono ?_
 rintro e w' ⟨rfl, j, rfl⟩
 rw [sameB_rf]
 exact ⟨rfl, Zaj j⟩
theorem RetO.letters {w w' : World} {o : Option (List Int)} {vs : List Int} {t : Bool} {e : Ending} (hv : o.getD [] = vs) (ht : o.isSome = t) (h : RetO w o e w') :
 ∃ A c, e = .returned (.tuple #[.slice A vs.length c, .bool t]) ∧ RI w' A vs.length vs ∧ vs.length ≤ c ∧ Below w.heap.size w w' := by
 subst hv; subst ht
 obtain ⟨A, c, h1, h2, h3⟩ := h
 exact ⟨A, c, h1, h2.reads, h2.capLe, h3⟩
theorem opt_letters {α : Type} {o : Option α} {d v : α} (hv : o.getD d = v) (ht : o.isSome = true) : o = some v := by
 cases o with
 | none => simp at ht
 | some x => rw [Option.getD_some] at hv; rw [hv]
theorem co_law {l : List Ln} {xs ys ws : List Int} (h : rcF l xs ys = some ws) : ∃ (cx cy : Int) (g : List G3) (os U0 U1 RB : List Int), goodP l ∧ fitB (insL l 0) xs = true ∧ fitB (insL l 1) ys = true ∧
 Hid (compF l = some ⟨cx, cy, g, os⟩) ∧ Hid (ibF l 0 xs = some U0) ∧ Hid (ibF l 1 ys = some U1) ∧ Hid (rpV l xs ys = ws) ∧ Hid (pick (vals g (U0 ++ U1) g.length) os = RB) ∧ Hid (rnF l RB = some ws) ∧
 Hid (circB cx cy g os = true) ∧ Hid ((U0.length : Int) = cx) ∧ Hid ((U1.length : Int) = cy) ∧ Hid (allB 0 1 U0 = true) ∧ Hid (allB 0 1 U1 = true) ∧ U0.length ≤ 20 ∧ U1.length ≤ 20 ∧ RB.length ≤ 40 ∧ ws.length ≤ 10 ∧ g.length ≤ 300 ∧ os.length ≤ 40 := by
 obtain ⟨hco, f0, f1, hw, _⟩ := rc_law h
 have hd := coB_data hco
 obtain ⟨hg, hcb⟩ := Zce hco
 have hw0 := Zbq hg.2.1 0
 have hw1 := Zbq hg.2.1 1
 have b0 := Zbs hw0 xs (insL l 0).length lR
 have b1 := Zbs hw1 ys (insL l 1).length lR
 have s0 := Zcn hw0
 have s1 := Zcn hw1
 have s2 := Zcn (Zdg hg.2.1)
 have hx := hd.x
 have hy := hd.y
 have hng := hd.ng
 have hno := hd.no
 have hbits : allB 0 1 (bitsK (insL l 0) xs (insL l 0).length ++ bitsK (insL l 1) ys (insL l 1).length) = true := allB_iff.2 fun z hz => (List.mem_append.1 hz).elim (fun h => allB_iff.1 (Zcx _ _ _) z h) (fun h => allB_iff.1 (Zcx _ _ _) z h)
 have hrun := runB_bd hd hbits (by rw [List.length_append, b0, b1]; omega)
 have hrl := runB_len l (bitsK (insL l 0) xs (insL l 0).length ++ bitsK (insL l 1) ys (insL l 1).length)
 have hofs := hd.offs
 have hrc : rcF l xs ys = some (numK (outsL l) (runB l (bitsK (insL l 0) xs (insL l 0).length ++ bitsK (insL l 1) ys (insL l 1).length)) (outsL l).length) := if_pos ⟨hco, f0, f1⟩
 have hlen := rcF_len l xs ys
 rw [h, Option.getD_some] at hlen
 refine ⟨sumI (insL l 0), sumI (insL l 1), (cc l).g, (cc l).os, bitsK (insL l 0) xs (insL l 0).length, bitsK (insL l 1) ys (insL l 1).length, runB l (bitsK (insL l 0) xs (insL l 0).length ++ bitsK (insL l 1) ys (insL l 1).length), hg, f0, f1, zH ?_, zH ?_, zH ?_, zH hw.symm, zH rfl, zH ?_, zH hcb, zH (by omega), zH (by omega), zH (Zcx _ _ _), zH (Zcx _ _ _), by omega, by omega, by omega, hlen, hng, hno⟩
 ·unfold compF; rw [if_pos hco]
 ·unfold ibF; rw [if_pos ⟨hco, by decide, f0⟩]
 ·unfold ibF; rw [if_pos ⟨hco, by decide, f1⟩]
 ·unfold rnF
  rw [if_pos ⟨hco, hrun, by rw [hrl]; omega⟩, ← h, hrc]
set_option maxRecDepth 100000 in
set_option maxHeartbeats 80000000 in
theorem walk (Y : Option Addr) (n c : Nat) (Z : Option Addr) (m d : Nat) (w : World) (hY0 : RY0 w Y n) (hn : n ≤ 140737488355328) (hZ0 : RY0 w Z m) (hm : m ≤ 140737488355328) :
 Calls Tryz.prog 3 #[.slice Y n c, .slice Z m d] w fun e w' => e = .returned (.bool true) ∧ Below w.heap.size w w' := by
 have hwr : IntKind.i64.wrap ((n : Int) + m) = (n : Int) + m := by rw [IntKind.wrap_i64] <;> omega
 by_cases hs : (1048576 : Int) < (n : Int) + m
 ·go_enter Tryz.func3, Tryz.ntmps3
  go_wp2
  go_ret
  exact ⟨rfl, Below.refl _ _⟩
 ·have hnm : n + m ≤ 1048576 := by omega
  have hY : RY w Y n := hY0.ry (by omega)
  have hZ : RY w Z m := hZ0.ry (by omega)
  go_enter Tryz.func3, Tryz.ntmps3
  go_wp2_with fail
  refine (DrawRunCompiled_any Y n c w hY).mono ?_
  rintro e a1 ⟨l, A0, X0, X1, k0, d0, n0, e0, n1, e1, xs, ys, rfl, r0, p0, x0, x1, hn0, hn1, bD2⟩
  have B_3 := bD2
  clear hY
  have hk0 := p0.n40
  have hk0b : k0 ≤ 2097152 := by omega
  obtain ⟨ws, hws⟩ : ∃ q9, (rcF l xs ys).getD [] = q9 := ⟨_, rfl⟩
  obtain ⟨wb, hwb⟩ : ∃ q9, (rcF l xs ys).isSome = q9 := ⟨_, rfl⟩
  have wsl := rcF_len l xs ys
  rw [hws] at wsl
  have HWS := zH hws; have HWB := zH hwb
  clear hws hwb
  go_wp2_with fail
  refine (RunCompiled_any A0 X0 X1 k0 d0 n0 e0 n1 e1 l xs ys a1 r0 hk0b p0.cap p0.sh x0 (by omega) x1 (by omega)).mono ?_
  rintro e a4 hT
  obtain ⟨A1, c1, rfl, i1, cp1, b1⟩ := RetO.letters HWS.out HWB.out hT
  clear hT
  have r0_6 := r0.below b1 lR
  have x0_7 := x0.below b1 lR
  have x1_8 := x1.below b1 lR
  have B_9 := B_3.trans (b1.mono B_3.size)
  clear r0 x0 x1 B_3
  clear b1
  go_wp2_with fail
  refine (spec_RunCompiled_any A0 X0 X1 k0 d0 n0 e0 n1 e1 l xs ys a4 r0_6 hk0b p0.cap p0.sh x0_7 (by omega) x1_8 (by omega)).mono ?_
  rintro e a10 hT
  obtain ⟨A2, c2, rfl, i2, cp2, b2⟩ := RetO.letters HWS.out HWB.out hT
  clear hT
  have r0_12 := r0_6.below b2 lR
  have x0_13 := x0_7.below b2 lR
  have x1_14 := x1_8.below b2 lR
  have i1_15 := i1.below b2 lR
  have B_16 := B_9.trans (b2.mono B_9.size)
  clear r0_6 x0_7 x1_8 i1 B_9
  clear b2
  go_wp2_with fail
  have hZ17 : RY a10 Z m := hZ.alt (Alt.of_new (S := fun _ => False) B_16) (fun _ _ _ _ h => h)
  refine (DrawResultNumbers_any Z m d _ hZ17).mono ?_
  rintro e a18 ⟨p, A3, X3, k3, d3, n3, e3, bt, rfl, r3, p3, x3, cp3, hn3, bD19⟩
  have r0_20 := r0_12.below bD19 lR
  have x0_21 := x0_13.below bD19 lR
  have x1_22 := x1_14.below bD19 lR
  have i1_23 := i1_15.below bD19 lR
  have i2_24 := i2.below bD19 lR
  have B_25 := B_16.trans (bD19.mono B_16.size)
  clear r0_12 x0_13 x1_14 i1_15 i2 B_16
  clear hZ17
  have hk3 := p3.n40
  have hk3b : k3 ≤ 2097152 := by omega
  obtain ⟨ns, hns⟩ : ∃ q9, (rnF p bt).getD [] = q9 := ⟨_, rfl⟩
  obtain ⟨nb, hnb⟩ : ∃ q9, (rnF p bt).isSome = q9 := ⟨_, rfl⟩
  have nsl := rnF_len p bt
  rw [hns] at nsl
  have HNS := zH hns; have HNB := zH hnb
  clear hns hnb
  go_wp2_with fail
  refine (Zeq A3 X3 k3 d3 n3 e3 p bt a18 r3 hk3b p3.cap p3.sh x3 (by omega) cp3).mono ?_
  rintro e a26 hT
  obtain ⟨A4, c4, rfl, i4, cp4, b4⟩ := RetO.letters HNS.out HNB.out hT
  clear hT
  have r0_28 := r0_20.below b4 lR
  have x0_29 := x0_21.below b4 lR
  have x1_30 := x1_22.below b4 lR
  have i1_31 := i1_23.below b4 lR
  have i2_32 := i2_24.below b4 lR
  have r3_33 := r3.below b4 lR
  have x3_34 := x3.below b4 lR
  have B_35 := B_25.trans (b4.mono B_25.size)
  clear r0_20 x0_21 x1_22 i1_23 i2_24 r3 x3 B_25
  clear b4
  go_wp2_with fail
  refine (spec_ResultNumbers_any A3 X3 k3 d3 n3 e3 p bt a26 r3_33 hk3b p3.cap p3.sh x3_34 (by omega) cp3).mono ?_
  rintro e a36 hT
  obtain ⟨A5, c5, rfl, i5, cp5, b5⟩ := RetO.letters HNS.out HNB.out hT
  clear hT
  have r0_38 := r0_28.below b5 lR
  have x0_39 := x0_29.below b5 lR
  have x1_40 := x1_30.below b5 lR
  have i1_41 := i1_31.below b5 lR
  have i2_42 := i2_32.below b5 lR
  have r3_43 := r3_33.below b5 lR
  have x3_44 := x3_34.below b5 lR
  have i4_45 := i4.below b5 lR
  have B_46 := B_35.trans (b5.mono B_35.size)
  clear r0_28 x0_29 x1_30 i1_31 i2_32 r3_33 x3_34 i4 B_35
  clear b5
  clear r3_43
  clear x3_44
  go_wp2_with fail
  have hZ47 : RY a36 Z m := hZ.alt (Alt.of_new (S := fun _ => False) B_46) (fun _ _ _ _ h => h)
  refine (DrawInputBits_any Z m d _ hZ47).mono ?_
  rintro e a48 ⟨q, A6, X6, k6, d6, n6, e6, pt, gv, rfl, hpt1, hpt2, r6, p6, x6, hn6, bD49⟩
  have r0_50 := r0_38.below bD49 lR
  have x0_51 := x0_39.below bD49 lR
  have x1_52 := x1_40.below bD49 lR
  have i1_53 := i1_41.below bD49 lR
  have i2_54 := i2_42.below bD49 lR
  have i4_55 := i4_45.below bD49 lR
  have i5_56 := i5.below bD49 lR
  have B_57 := B_46.trans (bD49.mono B_46.size)
  clear r0_38 x0_39 x1_40 i1_41 i2_42 i4_45 i5 B_46
  clear hZ47 hZ
  have hk6 := p6.n40
  have hk6b : k6 ≤ 2097152 := by omega
  obtain ⟨us, hus⟩ : ∃ q9, (ibF q pt gv).getD [] = q9 := ⟨_, rfl⟩
  obtain ⟨ub, hub⟩ : ∃ q9, (ibF q pt gv).isSome = q9 := ⟨_, rfl⟩
  have usl := ibF_len q pt gv
  rw [hus] at usl
  have HUS := zH hus; have HUB := zH hub
  clear hus hub
  go_wp2_with fail
  refine (Zff A6 X6 k6 d6 n6 e6 q pt gv a48 r6 hk6b p6.cap p6.sh x6 (by omega)).mono ?_
  rintro e a58 hT
  obtain ⟨A7, c7, rfl, i7, cp7, b7⟩ := RetO.letters HUS.out HUB.out hT
  clear hT
  have r0_60 := r0_50.below b7 lR
  have x0_61 := x0_51.below b7 lR
  have x1_62 := x1_52.below b7 lR
  have i1_63 := i1_53.below b7 lR
  have i2_64 := i2_54.below b7 lR
  have i4_65 := i4_55.below b7 lR
  have i5_66 := i5_56.below b7 lR
  have r6_67 := r6.below b7 lR
  have x6_68 := x6.below b7 lR
  have B_69 := B_57.trans (b7.mono B_57.size)
  clear r0_50 x0_51 x1_52 i1_53 i2_54 i4_55 i5_56 r6 x6 B_57
  clear b7
  go_wp2_with fail
  refine (spec_InputBits_any A6 X6 k6 d6 n6 e6 q pt gv a58 r6_67 hk6b p6.cap p6.sh x6_68 (by omega)).mono ?_
  rintro e a70 hT
  obtain ⟨A8, c8, rfl, i8, cp8, b8⟩ := RetO.letters HUS.out HUB.out hT
  clear hT
  have r0_72 := r0_60.below b8 lR
  have x0_73 := x0_61.below b8 lR
  have x1_74 := x1_62.below b8 lR
  have i1_75 := i1_63.below b8 lR
  have i2_76 := i2_64.below b8 lR
  have i4_77 := i4_65.below b8 lR
  have i5_78 := i5_66.below b8 lR
  have r6_79 := r6_67.below b8 lR
  have x6_80 := x6_68.below b8 lR
  have i7_81 := i7.below b8 lR
  have B_82 := B_69.trans (b8.mono B_69.size)
  clear r0_60 x0_61 x1_62 i1_63 i2_64 i4_65 i5_66 r6_67 x6_68 i7 B_69
  clear b8
  clear r6_79
  clear x6_80
  have z1 : (wb != wb) = false := by simp
  have z2 : (nb != nb) = false := by simp
  have z3 : (ub != ub) = false := by simp
  go_wp2_with fail
  refine (qInts_bl A1 A2 ws.length c1 c2 ws a70 i1_75 i2_76 (by omega)).mono ?_
  rintro e a83 ⟨rfl, b84⟩
  have r0_85 := r0_72.below b84 lR
  have x0_86 := x0_73.below b84 lR
  have x1_87 := x1_74.below b84 lR
  have i1_88 := i1_75.below b84 lR
  have i2_89 := i2_76.below b84 lR
  have i4_90 := i4_77.below b84 lR
  have i5_91 := i5_78.below b84 lR
  have i7_92 := i7_81.below b84 lR
  have i8_93 := i8.below b84 lR
  have B_94 := B_82.trans (b84.mono B_82.size)
  clear r0_72 x0_73 x1_74 i1_75 i2_76 i4_77 i5_78 i7_81 i8 B_82
  go_wp2_with fail
  refine (qInts_bl A4 A5 ns.length c4 c5 ns a83 i4_90 i5_91 (by omega)).mono ?_
  rintro e a95 ⟨rfl, b96⟩
  have r0_97 := r0_85.below b96 lR
  have x0_98 := x0_86.below b96 lR
  have x1_99 := x1_87.below b96 lR
  have i1_100 := i1_88.below b96 lR
  have i2_101 := i2_89.below b96 lR
  have i4_102 := i4_90.below b96 lR
  have i5_103 := i5_91.below b96 lR
  have i7_104 := i7_92.below b96 lR
  have i8_105 := i8_93.below b96 lR
  have B_106 := B_94.trans (b96.mono B_94.size)
  clear r0_85 x0_86 x1_87 i1_88 i2_89 i4_90 i5_91 i7_92 i8_93 B_94
  go_wp2_with fail
  refine (qInts_bl A7 A8 us.length c7 c8 us a95 i7_104 i8_105 (by omega)).mono ?_
  rintro e a107 ⟨rfl, b108⟩
  have r0_109 := r0_97.below b108 lR
  have x0_110 := x0_98.below b108 lR
  have x1_111 := x1_99.below b108 lR
  have i1_112 := i1_100.below b108 lR
  have i2_113 := i2_101.below b108 lR
  have i4_114 := i4_102.below b108 lR
  have i5_115 := i5_103.below b108 lR
  have i7_116 := i7_104.below b108 lR
  have i8_117 := i8_105.below b108 lR
  have B_118 := B_106.trans (b108.mono B_106.size)
  clear r0_97 x0_98 x1_99 i1_100 i2_101 i4_102 i5_103 i7_104 i8_105 B_106
  clear z1 z2 z3 HNS HNB HUS HUB
  clear i1_112
  clear i4_114
  clear i5_115
  clear i7_116
  clear i8_117
  cases wb with
  | false =>
   go_wp2
   go_ret
   exact ⟨rfl, B_118⟩
  | true =>
   have hrc := opt_letters HWS.out HWB.out
   obtain ⟨cx, cy, cg, co, U0, U1, RB, hgd, f0, f1, HCF, HI0, HI1, HRP, HEV, HRN, HCB, HU0, HU1, hA0, hA1, hu0, hu1, hrb, hwl2, hgl, hol⟩ := co_law hrc
   clear HWS HWB hrc
   go_wp2_with fail
   go_wp2_with fail
   have q121 := CompileProgram_any A0 k0 d0 l a107 r0_109 hk0b p0.cap p0.sh
   rw [HCF.out] at q121
   refine q121.mono ?_
   clear q121
   rintro e a119 hT
   obtain ⟨Aa, caa, Oa, coa, rfl, ra, ba⟩ := open_cs hT
   clear hT
   dsimp only at ra ⊢
   have r0_122 := r0_109.below ba lR
   have x0_123 := x0_110.below ba lR
   have x1_124 := x1_111.below ba lR
   have i2_125 := i2_113.below ba lR
   have B_126 := B_118.trans (ba.mono B_118.size)
   clear r0_109 x0_110 x1_111 i2_113 B_118
   clear ba
   have al127 : Below a119.heap.size a119 (a119.alloc (.cells #[.int .i64 cx, .int .i64 cy, .slice Aa cg.length caa, .slice Oa co.length coa] 38)) := bA
   have z128 : (a119.alloc (.cells #[.int .i64 cx, .int .i64 cy, .slice Aa cg.length caa, .slice Oa co.length coa] 38)).heap.size = a119.heap.size + 1 := by simp
   have pa_129 : BxC (a119.alloc (.cells #[.int .i64 cx, .int .i64 cy, .slice Aa cg.length caa, .slice Oa co.length coa] 38)) a119.heap.size cx cy Aa cg.length caa Oa co.length coa := BxC.new _ _
   have r0_130 := r0_122.below al127 lR
   have x0_131 := x0_123.below al127 lR
   have x1_132 := x1_124.below al127 lR
   have i2_133 := i2_125.below al127 lR
   have ra_134 := And.intro (ra.1.below al127 lR) (ra.2.below al127 lR)
   have B_135 := B_126.trans (al127.mono B_126.size)
   clear r0_122 x0_123 x1_124 i2_125 ra B_126
   go_wp2_with fail
   generalize (a119.alloc (.cells #[.int .i64 cx, .int .i64 cy, .slice Aa cg.length caa, .slice Oa co.length coa] 38)) = a136 at *
   clear al127
   go_wp2_with fail
   have q139 := Zet A0 k0 d0 l a136 r0_130 hk0b p0.cap p0.sh
   rw [HCF.out] at q139
   refine q139.mono ?_
   clear q139
   rintro e a137 hT
   obtain ⟨Ab, cab, Ob, cob, rfl, rb, bb⟩ := open_cs hT
   clear hT
   dsimp only at rb ⊢
   have r0_140 := r0_130.below bb lR
   have x0_141 := x0_131.below bb lR
   have x1_142 := x1_132.below bb lR
   have i2_143 := i2_133.below bb lR
   have ra_144 := And.intro (ra_134.1.below bb lR) (ra_134.2.below bb lR)
   have pa_145 := pa_129.below bb
   have B_146 := B_135.trans (bb.mono B_135.size)
   clear r0_130 x0_131 x1_132 i2_133 ra_134 pa_129 B_135
   clear bb
   have al147 : Below a137.heap.size a137 (a137.alloc (.cells #[.int .i64 cx, .int .i64 cy, .slice Ab cg.length cab, .slice Ob co.length cob] 38)) := bA
   have z148 : (a137.alloc (.cells #[.int .i64 cx, .int .i64 cy, .slice Ab cg.length cab, .slice Ob co.length cob] 38)).heap.size = a137.heap.size + 1 := by simp
   have pb_149 : BxC (a137.alloc (.cells #[.int .i64 cx, .int .i64 cy, .slice Ab cg.length cab, .slice Ob co.length cob] 38)) a137.heap.size cx cy Ab cg.length cab Ob co.length cob := BxC.new _ _
   have r0_150 := r0_140.below al147 lR
   have x0_151 := x0_141.below al147 lR
   have x1_152 := x1_142.below al147 lR
   have i2_153 := i2_143.below al147 lR
   have ra_154 := And.intro (ra_144.1.below al147 lR) (ra_144.2.below al147 lR)
   have pa_155 := pa_145.below al147
   have rb_156 := And.intro (rb.1.below al147 lR) (rb.2.below al147 lR)
   have B_157 := B_146.trans (al147.mono B_146.size)
   clear r0_140 x0_141 x1_142 i2_143 ra_144 pa_145 rb B_146
   go_wp2_with fail
   generalize (a137.alloc (.cells #[.int .i64 cx, .int .i64 cy, .slice Ab cg.length cab, .slice Ob co.length cob] 38)) = a158 at *
   clear al147
   have q161 := Zff A0 X0 k0 d0 n0 e0 l 0 xs a158 r0_150 hk0b p0.cap p0.sh x0_151 (by omega)
   rw [HI0.out] at q161
   refine q161.mono ?_
   clear q161
   rintro e a159 hT
   obtain ⟨Ac, cc, rfl, ic, bc⟩ := RetO.open_n hT rfl
   have ic := ic.reads
   clear hT
   have r0_162 := r0_150.below bc lR
   have x0_163 := x0_151.below bc lR
   have x1_164 := x1_152.below bc lR
   have i2_165 := i2_153.below bc lR
   have ra_166 := And.intro (ra_154.1.below bc lR) (ra_154.2.below bc lR)
   have pa_167 := pa_155.below bc
   have rb_168 := And.intro (rb_156.1.below bc lR) (rb_156.2.below bc lR)
   have pb_169 := pb_149.below bc
   have B_170 := B_157.trans (bc.mono B_157.size)
   clear r0_150 x0_151 x1_152 i2_153 ra_154 pa_155 rb_156 pb_149 B_157
   clear bc
   go_wp2_with fail
   have q173 := Zff A0 X1 k0 d0 n1 e1 l 1 ys a159 r0_162 hk0b p0.cap p0.sh x1_164 (by omega)
   rw [HI1.out] at q173
   refine q173.mono ?_
   clear q173
   rintro e a171 hT
   obtain ⟨Ad, cd, rfl, id, bd⟩ := RetO.open_n hT rfl
   have id := id.reads
   clear hT
   have r0_174 := r0_162.below bd lR
   have x0_175 := x0_163.below bd lR
   have x1_176 := x1_164.below bd lR
   have i2_177 := i2_165.below bd lR
   have ra_178 := And.intro (ra_166.1.below bd lR) (ra_166.2.below bd lR)
   have pa_179 := pa_167.below bd
   have rb_180 := And.intro (rb_168.1.below bd lR) (rb_168.2.below bd lR)
   have pb_181 := pb_169.below bd
   have ic_182 := ic.below bd lR
   have B_183 := B_170.trans (bd.mono B_170.size)
   clear r0_162 x0_163 x1_164 i2_165 ra_166 pa_167 rb_168 pb_169 ic B_170
   clear bd
   go_wp2_with fail
   have q186 := RunProgram_ok A0 X0 X1 k0 d0 n0 e0 n1 e1 l xs ys a171 r0_174 p0.cap p0.sh hgd x0_175 x1_176 f0 f1
   rw [HRP.out] at q186
   refine q186.mono ?_
   clear q186
   rintro e a184 hT
   obtain ⟨Ae, ce, rfl, ie, be⟩ := RetO.open_n hT rfl
   have ie := ie.reads
   clear hT
   have r0_187 := r0_174.below be lR
   have x0_188 := x0_175.below be lR
   have x1_189 := x1_176.below be lR
   have i2_190 := i2_177.below be lR
   have ra_191 := And.intro (ra_178.1.below be lR) (ra_178.2.below be lR)
   have pa_192 := pa_179.below be
   have rb_193 := And.intro (rb_180.1.below be lR) (rb_180.2.below be lR)
   have pb_194 := pb_181.below be
   have ic_195 := ic_182.below be lR
   have id_196 := id.below be lR
   have B_197 := B_183.trans (be.mono B_183.size)
   clear r0_174 x0_175 x1_176 i2_177 ra_178 pa_179 rb_180 pb_181 ic_182 id B_183
   clear be
   have hq := pa_192; obtain ⟨ka0, ka1, ka2, ka3⟩ := hq
   have hq := pb_194; obtain ⟨kb0, kb1, kb2, kb3⟩ := hq
   go_wp2_with fail
   refine (qCircuit_any cx cy Aa Ab cg.length caa cab Oa Ob co.length coa cob cg co a184 ra_191 rb_193 (by omega) (by omega)).mono ?_
   rintro e a198 ⟨rfl, b199⟩
   clear ka0 ka1 ka2 ka3 kb0 kb1 kb2 kb3
   have r0_200 := r0_187.below b199 lR
   have x0_201 := x0_188.below b199 lR
   have x1_202 := x1_189.below b199 lR
   have i2_203 := i2_190.below b199 lR
   have ra_204 := And.intro (ra_191.1.below b199 lR) (ra_191.2.below b199 lR)
   have pa_205 := pa_192.below b199
   have rb_206 := And.intro (rb_193.1.below b199 lR) (rb_193.2.below b199 lR)
   have pb_207 := pb_194.below b199
   have ic_208 := ic_195.below b199 lR
   have id_209 := id_196.below b199 lR
   have ie_210 := ie.below b199 lR
   have B_211 := B_197.trans (b199.mono B_197.size)
   clear r0_187 x0_188 x1_189 i2_190 ra_191 pa_192 rb_193 pb_194 ic_195 id_196 ie B_197
   go_wp2_with fail
   refine (qInts_bl Ae A2 ws.length ce c2 ws a198 ie_210 i2_203 (by omega)).mono ?_
   rintro e a212 ⟨rfl, b213⟩
   have r0_214 := r0_200.below b213 lR
   have x0_215 := x0_201.below b213 lR
   have x1_216 := x1_202.below b213 lR
   have i2_217 := i2_203.below b213 lR
   have ra_218 := And.intro (ra_204.1.below b213 lR) (ra_204.2.below b213 lR)
   have pa_219 := pa_205.below b213
   have rb_220 := And.intro (rb_206.1.below b213 lR) (rb_206.2.below b213 lR)
   have pb_221 := pb_207.below b213
   have ic_222 := ic_208.below b213 lR
   have id_223 := id_209.below b213 lR
   have ie_224 := ie_210.below b213 lR
   have B_225 := B_211.trans (b213.mono B_211.size)
   clear r0_200 x0_201 x1_202 i2_203 ra_204 pa_205 rb_206 pb_207 ic_208 id_209 ie_210 B_211
   have hq := pa_219; obtain ⟨ka0, ka1, ka2, ka3⟩ := hq
   go_wp2_with fail
   have q228 := EvalCircuit_ok cx cy Aa cg.length caa Oa co.length coa Ac Ad U0.length cc U1.length cd cg co U0 U1 a212 ra_218 (by omega) (by omega) HCB.out ic_222 id_223 HU0.out HU1.out hA0.out hA1.out
   rw [HEV.out] at q228
   refine q228.mono ?_
   clear q228
   rintro e a226 hT
   clear ka0 ka1 ka2 ka3
   obtain ⟨Af, cf, rfl, if_, bf⟩ := RetO.open_n hT rfl
   have cpf := if_.capLe
   have if_ := if_.reads
   clear hT
   have r0_229 := r0_214.below bf lR
   have x0_230 := x0_215.below bf lR
   have x1_231 := x1_216.below bf lR
   have i2_232 := i2_217.below bf lR
   have ra_233 := And.intro (ra_218.1.below bf lR) (ra_218.2.below bf lR)
   have pa_234 := pa_219.below bf
   have rb_235 := And.intro (rb_220.1.below bf lR) (rb_220.2.below bf lR)
   have pb_236 := pb_221.below bf
   have ic_237 := ic_222.below bf lR
   have id_238 := id_223.below bf lR
   have ie_239 := ie_224.below bf lR
   have B_240 := B_225.trans (bf.mono B_225.size)
   clear r0_214 x0_215 x1_216 i2_217 ra_218 pa_219 rb_220 pb_221 ic_222 id_223 ie_224 B_225
   clear bf
   go_wp2_with fail
   have q243 := Zeq A0 Af k0 d0 RB.length cf l RB a226 r0_229 hk0b p0.cap p0.sh if_ (by omega) cpf
   rw [HRN.out] at q243
   refine q243.mono ?_
   clear q243
   rintro e a241 hT
   obtain ⟨Ag, cg_, rfl, ig, bg⟩ := RetO.open_n hT rfl
   have ig := ig.reads
   clear hT
   have r0_244 := r0_229.below bg lR
   have x0_245 := x0_230.below bg lR
   have x1_246 := x1_231.below bg lR
   have i2_247 := i2_232.below bg lR
   have ra_248 := And.intro (ra_233.1.below bg lR) (ra_233.2.below bg lR)
   have pa_249 := pa_234.below bg
   have rb_250 := And.intro (rb_235.1.below bg lR) (rb_235.2.below bg lR)
   have pb_251 := pb_236.below bg
   have ic_252 := ic_237.below bg lR
   have id_253 := id_238.below bg lR
   have ie_254 := ie_239.below bg lR
   have if_255 := if_.below bg lR
   have B_256 := B_240.trans (bg.mono B_240.size)
   clear r0_229 x0_230 x1_231 i2_232 ra_233 pa_234 rb_235 pb_236 ic_237 id_238 ie_239 if_ B_240
   clear bg
   go_wp2_with fail
   refine (qInts_bl Ag A2 ws.length cg_ c2 ws a241 ig i2_247 (by omega)).mono ?_
   rintro e a257 ⟨rfl, b258⟩
   have r0_259 := r0_244.below b258 lR
   have x0_260 := x0_245.below b258 lR
   have x1_261 := x1_246.below b258 lR
   have i2_262 := i2_247.below b258 lR
   have ra_263 := And.intro (ra_248.1.below b258 lR) (ra_248.2.below b258 lR)
   have pa_264 := pa_249.below b258
   have rb_265 := And.intro (rb_250.1.below b258 lR) (rb_250.2.below b258 lR)
   have pb_266 := pb_251.below b258
   have ic_267 := ic_252.below b258 lR
   have id_268 := id_253.below b258 lR
   have ie_269 := ie_254.below b258 lR
   have if_270 := if_255.below b258 lR
   have ig_271 := ig.below b258 lR
   have B_272 := B_256.trans (b258.mono B_256.size)
   clear r0_244 x0_245 x1_246 i2_247 ra_248 pa_249 rb_250 pb_251 ic_252 id_253 ie_254 if_255 ig B_256
   go_wp2
   go_ret
   exact ⟨rfl, B_272⟩
end Go.Proofs.YtenknpcbbcbciaaGreat.lawFnCompiled
