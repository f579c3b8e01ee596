/- The walk of the law FnShapes: whatever its arguments read as, it returns true and leaves what was there. No condition. -/
import Derived.Test.YtgenehiiakdadaaQDr6
import Derived.Test.YtgenehiiakdadaaQSh1
import Derived.Test.YtgenehiiakdadaaQBes2
namespace Go.Proofs.Ytgenehiiakdadaa.lawFnShapes
open Go.RowKit
set_option linter.unusedVariables false
set_option linter.unusedSimpArgs false
attribute [local go_sem] sepAt sepUpon pureAt pureUpon

set_option maxRecDepth 100000 in
set_option maxHeartbeats 8000000 in
theorem walk (Y : Option Addr) (n c : Nat) (Z : Option Addr) (m d : Nat) (w : World) (hY0 : RY0 w Y n) (hn : n ≤ 140737488355328) (hZ0 : RY0 w Z m) (hm : m ≤ 140737488355328) :
    Calls Try.prog 3 #[.slice Y n c, .slice Z m d] w fun e w' => e = .returned (.bool true) ∧ Below w.heap.size w w' := by
  cases hs : bigB n m with
  | true =>
    have hs1 := Lib.hid hs; clear hs
    go_enter Try.func3, Try.ntmps3
    go_wp2_with fail
    refine (big_any Y Z n c m d _ hn hm).mono ?_
    rintro e a1 ⟨rfl, rfl⟩
    rw [hs1.out]
    go_wp2
    go_ret
    exact ⟨rfl, Below.refl _ _⟩
  | false =>
    have hnm : n + m ≤ 1048576 := by have h := of_decide_eq_false hs; omega
    have hs1 := Lib.hid hs; clear hs
    have hY : RY w Y n := hY0.ry (by omega)
    have hZ : RY w Z m := hZ0.ry (by omega)
    go_enter Try.func3, Try.ntmps3
    go_wp2_with fail
    refine (big_any Y Z n c m d _ hn hm).mono ?_
    rintro e a1 ⟨rfl, rfl⟩
    rw [hs1.out]
    clear hs1
    go_wp2_with fail
    refine (DrawBesideCircuit_any Y n c w hY).mono ?_
    rintro e a1 ⟨⟨x, y, gs, os⟩, ⟨u, v, hs, ps⟩, A, ca, O, co, A2, ca2, O2, co2, rfl, o1, hng, hno, o2, hmg, hmo, b2⟩
    dsimp only at o1 hng hno o2 hmg hmo ⊢
    have B_3 := b2
    have al4 : Below a1.heap.size a1 ((a1.alloc (.cells #[.int .i64 x, .int .i64 y, .slice A gs.length ca, .slice O os.length co] 27)).alloc (.cells #[.int .i64 u, .int .i64 v, .slice A2 hs.length ca2, .slice O2 ps.length co2] 27)) := ((Below.refl _ _).alloc (Nat.le_refl _) _).alloc (by simp) _
    have z5 : ((a1.alloc (.cells #[.int .i64 x, .int .i64 y, .slice A gs.length ca, .slice O os.length co] 27)).alloc (.cells #[.int .i64 u, .int .i64 v, .slice A2 hs.length ca2, .slice O2 ps.length co2] 27)).heap.size = a1.heap.size + 2 := by simp
    have p1_6 : BxC ((a1.alloc (.cells #[.int .i64 x, .int .i64 y, .slice A gs.length ca, .slice O os.length co] 27)).alloc (.cells #[.int .i64 u, .int .i64 v, .slice A2 hs.length ca2, .slice O2 ps.length co2] 27)) a1.heap.size x y A gs.length ca O os.length co := (BxC.new _ _).below ((Below.refl _ _).alloc (Nat.le_refl _) _)
    have p2_7 : BxC ((a1.alloc (.cells #[.int .i64 x, .int .i64 y, .slice A gs.length ca, .slice O os.length co] 27)).alloc (.cells #[.int .i64 u, .int .i64 v, .slice A2 hs.length ca2, .slice O2 ps.length co2] 27)) (a1.heap.size + 1) u v A2 hs.length ca2 O2 ps.length co2 := by simpa using BxC.new (x := u) (y := v) (Ag := A2) (ng := hs.length) (cg := ca2) (Ao := O2) (no := ps.length) (co := co2) (a1.alloc (.cells #[.int .i64 x, .int .i64 y, .slice A gs.length ca, .slice O os.length co] 27)) 27
    have r1_8 := o1.below al4 (.inl (Nat.le_refl _))
    have r2_9 := o2.below al4 (.inl (Nat.le_refl _))
    have B_10 := B_3.trans (al4.mono B_3.size)
    clear o1 o2 B_3
    have e1 : gs.length ≤ 2097152 := by omega
    have e2 : os.length ≤ 2097152 := by omega
    have e3 : hs.length ≤ 2097152 := by omega
    have e4 : ps.length ≤ 2097152 := by omega
    cases hF : besideF x y gs os u v hs ps with
    | none =>
        have HF := Lib.hid hF
        clear hF
        have hq := p1_6; obtain ⟨k0, k1, k2, k3⟩ := hq
        have hq := p2_7; obtain ⟨m0, m1, m2, m3⟩ := hq
        go_wp2_with fail
        generalize ((a1.alloc (.cells #[.int .i64 x, .int .i64 y, .slice A gs.length ca, .slice O os.length co] 27)).alloc (.cells #[.int .i64 u, .int .i64 v, .slice A2 hs.length ca2, .slice O2 ps.length co2] 27)) = a11 at *
        clear al4
        have q14 := BesideCircuit_any x y A gs.length ca O os.length co u v A2 hs.length ca2 O2 ps.length co2 gs os hs ps a11 ⟨r1_8.1.reads, r1_8.2.1.reads⟩ e1 e2 ⟨r2_9.1.reads, r2_9.2.1.reads⟩ e3 e4
        rw [HF.out] at q14
        refine q14.mono ?_
        clear q14
        rintro e a12 hT
        clear k0 k1 k2 k3 m0 m1 m2 m3
        obtain ⟨A3, ca3, O3, co3, rfl, o3, b3⟩ := RetC.open_n hT
        have r1_15 := r1_8.below b3 (.inl (Nat.le_refl _))
        have r2_16 := r2_9.below b3 (.inl (Nat.le_refl _))
        have p1_17 := p1_6.below b3
        have p2_18 := p2_7.below b3
        have B_19 := B_10.trans (b3.mono B_10.size)
        clear r1_8 r2_9 p1_6 p2_7 B_10
        have al20 : Below a12.heap.size a12 (a12.alloc (.cells #[.int .i64 0, .int .i64 0, .slice A3 0 ca3, .slice O3 0 co3] 27)) := (Below.refl _ _).alloc (Nat.le_refl _) _
        have z21 : (a12.alloc (.cells #[.int .i64 0, .int .i64 0, .slice A3 0 ca3, .slice O3 0 co3] 27)).heap.size = a12.heap.size + 1 := by simp
        have p3_22 : BxC (a12.alloc (.cells #[.int .i64 0, .int .i64 0, .slice A3 0 ca3, .slice O3 0 co3] 27)) a12.heap.size 0 0 A3 0 ca3 O3 0 co3 := BxC.new _ _
        have r1_23 := r1_15.below al20 (.inl (Nat.le_refl _))
        have r2_24 := r2_16.below al20 (.inl (Nat.le_refl _))
        have p1_25 := p1_17.below al20
        have p2_26 := p2_18.below al20
        have r3_27 := o3.below al20 (.inl (Nat.le_refl _))
        have B_28 := B_19.trans (al20.mono B_19.size)
        clear r1_15 r2_16 p1_17 p2_18 o3 B_19
        have hq := p1_25; obtain ⟨k0, k1, k2, k3⟩ := hq
        have hq := p2_26; obtain ⟨m0, m1, m2, m3⟩ := hq
        go_wp2_with fail
        generalize (a12.alloc (.cells #[.int .i64 0, .int .i64 0, .slice A3 0 ca3, .slice O3 0 co3] 27)) = a29 at *
        clear al20
        have q32 := spec_BesideCircuit_any x y A gs.length ca O os.length co u v A2 hs.length ca2 O2 ps.length co2 gs os hs ps a29 ⟨r1_23.1.reads, r1_23.2.1.reads⟩ e1 e2 ⟨r2_24.1.reads, r2_24.2.1.reads⟩ e3 e4
        rw [HF.out] at q32
        refine q32.mono ?_
        clear q32
        rintro e a30 hT
        clear k0 k1 k2 k3 m0 m1 m2 m3
        obtain ⟨A4, ca4, O4, co4, rfl, o4, b4⟩ := RetC.open_n hT
        have r1_33 := r1_23.below b4 (.inl (Nat.le_refl _))
        have r2_34 := r2_24.below b4 (.inl (Nat.le_refl _))
        have p1_35 := p1_25.below b4
        have p2_36 := p2_26.below b4
        have r3_37 := r3_27.below b4 (.inl (Nat.le_refl _))
        have p3_38 := p3_22.below b4
        have B_39 := B_28.trans (b4.mono B_28.size)
        clear r1_23 r2_24 p1_25 p2_26 r3_27 p3_22 B_28
        have al40 : Below a30.heap.size a30 (a30.alloc (.cells #[.int .i64 0, .int .i64 0, .slice A4 0 ca4, .slice O4 0 co4] 27)) := (Below.refl _ _).alloc (Nat.le_refl _) _
        have z41 : (a30.alloc (.cells #[.int .i64 0, .int .i64 0, .slice A4 0 ca4, .slice O4 0 co4] 27)).heap.size = a30.heap.size + 1 := by simp
        have p4_42 : BxC (a30.alloc (.cells #[.int .i64 0, .int .i64 0, .slice A4 0 ca4, .slice O4 0 co4] 27)) a30.heap.size 0 0 A4 0 ca4 O4 0 co4 := BxC.new _ _
        have r1_43 := r1_33.below al40 (.inl (Nat.le_refl _))
        have r2_44 := r2_34.below al40 (.inl (Nat.le_refl _))
        have p1_45 := p1_35.below al40
        have p2_46 := p2_36.below al40
        have r3_47 := r3_37.below al40 (.inl (Nat.le_refl _))
        have p3_48 := p3_38.below al40
        have r4_49 := o4.below al40 (.inl (Nat.le_refl _))
        have B_50 := B_39.trans (al40.mono B_39.size)
        clear r1_33 r2_34 p1_35 p2_36 r3_37 p3_38 o4 B_39
        have hq := p3_48; obtain ⟨k0, k1, k2, k3⟩ := hq
        have hq := p4_42; obtain ⟨m0, m1, m2, m3⟩ := hq
        go_wp2_with fail
        generalize (a30.alloc (.cells #[.int .i64 0, .int .i64 0, .slice A4 0 ca4, .slice O4 0 co4] 27)) = a51 at *
        clear al40
        refine (pSameCircuit_any 0 0 A3 A4 0 ca3 ca4 O3 O4 0 co3 co4 [] [] _ ⟨r3_47.1.reads, r3_47.2.1.reads⟩ ⟨r4_49.1.reads, r4_49.2.1.reads⟩ (by omega) (by omega)).mono ?_
        rintro e a52 ⟨rfl, b53⟩
        clear k0 k1 k2 k3 m0 m1 m2 m3
        have r1_54 := r1_43.below b53 (.inl (Nat.le_refl _))
        have r2_55 := r2_44.below b53 (.inl (Nat.le_refl _))
        have p1_56 := p1_45.below b53
        have p2_57 := p2_46.below b53
        have r3_58 := r3_47.below b53 (.inl (Nat.le_refl _))
        have p3_59 := p3_48.below b53
        have r4_60 := r4_49.below b53 (.inl (Nat.le_refl _))
        have p4_61 := p4_42.below b53
        have B_62 := B_50.trans (b53.mono B_50.size)
        clear r1_43 r2_44 p1_45 p2_46 r3_47 p3_48 r4_49 p4_42 B_50
        clear r1_54 r2_55 p1_56 p2_57 r3_58 p3_59 r4_60 p4_61
        have hZ1 : RY a52 Z m := hZ.alt (Alt.of_new (S := fun _ => False) B_62) (fun _ _ _ _ h => h)
        go_wp2_with fail
        refine (DrawUsedWires_any Z m d _ hZ1).mono ?_
        rintro e a63 ⟨⟨x5, y5, g5, q5⟩, A5, ca5, O5, co5, rfl, o5, hng5, hno5, b64⟩
        dsimp only at o5 hng5 hno5 ⊢
        clear hZ1
        have B_65 := B_62.trans (b64.mono B_62.size)
        clear B_62
        have al66 : Below a63.heap.size a63 (a63.alloc (.cells #[.int .i64 x5, .int .i64 y5, .slice A5 g5.length ca5, .slice O5 q5.length co5] 27)) := (Below.refl _ _).alloc (Nat.le_refl _) _
        have z67 : (a63.alloc (.cells #[.int .i64 x5, .int .i64 y5, .slice A5 g5.length ca5, .slice O5 q5.length co5] 27)).heap.size = a63.heap.size + 1 := by simp
        have e5_68 : BxC (a63.alloc (.cells #[.int .i64 x5, .int .i64 y5, .slice A5 g5.length ca5, .slice O5 q5.length co5] 27)) a63.heap.size x5 y5 A5 g5.length ca5 O5 q5.length co5 := BxC.new _ _
        have r5_69 := o5.below al66 (.inl (Nat.le_refl _))
        have B_70 := B_65.trans (al66.mono B_65.size)
        clear o5 B_65
        have nq5 : g5.length ≤ 2097152 := by omega
        have mq5 : q5.length ≤ 2097152 := by omega
        cases hU : uwF x5 y5 g5 q5 with
        | none =>
            have HU := Lib.hid hU
            clear hU
            have hq := e5_68; obtain ⟨k0, k1, k2, k3⟩ := hq
            go_wp2_with fail
            generalize (a63.alloc (.cells #[.int .i64 x5, .int .i64 y5, .slice A5 g5.length ca5, .slice O5 q5.length co5] 27)) = a71 at *
            clear al66
            have q74 := UsedWires_any x5 y5 A5 g5.length ca5 O5 q5.length co5 g5 q5 a71 ⟨r5_69.1.reads, r5_69.2.1.reads⟩ nq5 mq5
            rw [HU.out] at q74
            refine q74.mono ?_
            clear q74
            rintro e a72 hT
            clear k0 k1 k2 k3
            obtain ⟨Uu1, cu1, rfl, ou1, bu1⟩ := RetO.open_n hT
            have r5_75 := r5_69.below bu1 (.inl (Nat.le_refl _))
            have e5_76 := e5_68.below bu1
            have B_77 := B_70.trans (bu1.mono B_70.size)
            clear r5_69 e5_68 B_70
            have hq := e5_76; obtain ⟨k0, k1, k2, k3⟩ := hq
            go_wp2_with fail
            have q80 := spec_UsedWires_any x5 y5 A5 g5.length ca5 O5 q5.length co5 g5 q5 a72 ⟨r5_75.1.reads, r5_75.2.1.reads⟩ nq5 mq5
            rw [HU.out] at q80
            refine q80.mono ?_
            clear q80
            rintro e a78 hT
            clear k0 k1 k2 k3
            obtain ⟨Uu2, cu2, rfl, ou2, bu2⟩ := RetO.open_n hT
            have r5_81 := r5_75.below bu2 (.inl (Nat.le_refl _))
            have e5_82 := e5_76.below bu2
            have u1_83 := ou1.below bu2 (.inl (Nat.le_refl _))
            have B_84 := B_77.trans (bu2.mono B_77.size)
            clear r5_75 e5_76 ou1 B_77
            go_wp2_with fail
            refine (sameInts_any Uu1 Uu2 0 cu1 0 cu2 [] [] _ u1_83.reads ou2.reads (by omega) (by omega)).mono ?_
            rintro e a85 ⟨rfl, j5, rfl⟩
            rw [sameB_refl' _]
            have bj5 : Below a78.heap.size a78 (a78.drewN j5) := below_of_drewN j5
            have r5_87 := r5_81.below bj5 (.inl (Nat.le_refl _))
            have e5_88 := e5_82.below bj5
            have u1_89 := u1_83.below bj5 (.inl (Nat.le_refl _))
            have u2_90 := ou2.below bj5 (.inl (Nat.le_refl _))
            have B_91 := B_84.trans (bj5.mono B_84.size)
            clear r5_81 e5_82 u1_83 ou2 B_84
            generalize (a78.drewN j5) = a92 at *
            clear bj5
            have hq := e5_88; obtain ⟨k0, k1, k2, k3⟩ := hq
            go_wp2
            clear k0 k1 k2 k3
            go_loopw [242] (fun i wr => ∃ k : Nat, k ≤ q5.length ∧ i = .int .i64 k ∧ wr = a92) (fun i _ => q5.length - (intOf i).toNat)
            case atStart => exact ⟨0, Nat.zero_le _, rfl, rfl⟩
            case round =>
              obtain ⟨k, hk, rfl, rfl⟩ := hrel
              by_cases hlt : k < q5.length
              · obtain ⟨bq, oq, rfl, hbq, eq1⟩ := (r5_87.2.1.reads).at_ hlt
                generalize gi q5 k = X at *
                go_wp2
                go_roundw
                case rel => exact ⟨k + 1, by omega, by go_num, by first | rfl | trivial⟩
                case measure => simp [intOf]; omega
              · have hlt2 : ¬ k < q5.length := hlt
                have hZ2 : RY wr Z m := hZ.alt (Alt.of_new (S := fun _ => False) B_91) (fun _ _ _ _ h => h)
                clear r5_87 e5_88 u1_89 u2_90
                go_wp2_with fail
                refine (DrawDepthOf_any Z m d _ hZ2).mono ?_
                rintro e a93 ⟨⟨x7, y7, g7, q7⟩, A7, ca7, O7, co7, rfl, o7, hng7, hno7, b94⟩
                dsimp only at o7 hng7 hno7 ⊢
                clear hZ2
                have B_95 := B_91.trans (b94.mono B_91.size)
                clear B_91
                have al96 : Below a93.heap.size a93 (a93.alloc (.cells #[.int .i64 x7, .int .i64 y7, .slice A7 g7.length ca7, .slice O7 q7.length co7] 27)) := (Below.refl _ _).alloc (Nat.le_refl _) _
                have z97 : (a93.alloc (.cells #[.int .i64 x7, .int .i64 y7, .slice A7 g7.length ca7, .slice O7 q7.length co7] 27)).heap.size = a93.heap.size + 1 := by simp
                have e7_98 : BxC (a93.alloc (.cells #[.int .i64 x7, .int .i64 y7, .slice A7 g7.length ca7, .slice O7 q7.length co7] 27)) a93.heap.size x7 y7 A7 g7.length ca7 O7 q7.length co7 := BxC.new _ _
                have r7_99 := o7.below al96 (.inl (Nat.le_refl _))
                have B_100 := B_95.trans (al96.mono B_95.size)
                clear o7 B_95
                have nq7 : g7.length ≤ 2097152 := by omega
                have mq7 : q7.length ≤ 2097152 := by omega
                have hq := e7_98; obtain ⟨k0, k1, k2, k3⟩ := hq
                go_wp2_with fail
                generalize (a93.alloc (.cells #[.int .i64 x7, .int .i64 y7, .slice A7 g7.length ca7, .slice O7 q7.length co7] 27)) = a101 at *
                clear al96
                refine (DepthOf_any x7 y7 A7 g7.length ca7 O7 q7.length co7 g7 q7 _ ⟨r7_99.1.reads, r7_99.2.1.reads⟩ nq7 mq7).mono ?_
                rintro e a102 ⟨rfl, b103⟩
                clear k0 k1 k2 k3
                have r7_104 := r7_99.below b103 (.inl (Nat.le_refl _))
                have e7_105 := e7_98.below b103
                have B_106 := B_100.trans (b103.mono B_100.size)
                clear r7_99 e7_98 B_100
                have hq := e7_105; obtain ⟨k0, k1, k2, k3⟩ := hq
                go_wp2_with fail
                refine (spec_DepthOf_any x7 y7 A7 g7.length ca7 O7 q7.length co7 g7 q7 _ ⟨r7_104.1.reads, r7_104.2.1.reads⟩ nq7 mq7).mono ?_
                rintro e a107 ⟨rfl, b108⟩
                clear k0 k1 k2 k3
                have r7_109 := r7_104.below b108 (.inl (Nat.le_refl _))
                have e7_110 := e7_105.below b108
                have B_111 := B_106.trans (b108.mono B_106.size)
                clear r7_104 e7_105 B_106
                have hZ3 : RY a107 Z m := hZ.alt (Alt.of_new (S := fun _ => False) B_111) (fun _ _ _ _ h => h)
                clear r7_109 e7_110
                go_wp2_with fail
                refine (DrawCountGates_any Z m d _ hZ3).mono ?_
                rintro e a112 ⟨⟨x8, y8, g8, q8⟩, A8, ca8, O8, co8, rfl, o8, hng8, hno8, b113⟩
                dsimp only at o8 hng8 hno8 ⊢
                clear hZ3
                have B_114 := B_111.trans (b113.mono B_111.size)
                clear B_111
                have al115 : Below a112.heap.size a112 (a112.alloc (.cells #[.int .i64 x8, .int .i64 y8, .slice A8 g8.length ca8, .slice O8 q8.length co8] 27)) := (Below.refl _ _).alloc (Nat.le_refl _) _
                have z116 : (a112.alloc (.cells #[.int .i64 x8, .int .i64 y8, .slice A8 g8.length ca8, .slice O8 q8.length co8] 27)).heap.size = a112.heap.size + 1 := by simp
                have e8_117 : BxC (a112.alloc (.cells #[.int .i64 x8, .int .i64 y8, .slice A8 g8.length ca8, .slice O8 q8.length co8] 27)) a112.heap.size x8 y8 A8 g8.length ca8 O8 q8.length co8 := BxC.new _ _
                have r8_118 := o8.below al115 (.inl (Nat.le_refl _))
                have B_119 := B_114.trans (al115.mono B_114.size)
                clear o8 B_114
                have nq8 : g8.length ≤ 2097152 := by omega
                have mq8 : q8.length ≤ 2097152 := by omega
                have hq := e8_117; obtain ⟨k0, k1, k2, k3⟩ := hq
                go_wp2_with fail
                generalize (a112.alloc (.cells #[.int .i64 x8, .int .i64 y8, .slice A8 g8.length ca8, .slice O8 q8.length co8] 27)) = a120 at *
                clear al115
                refine (CountGates_any x8 y8 A8 g8.length ca8 O8 q8.length co8 g8 q8 _ ⟨r8_118.1.reads, r8_118.2.1.reads⟩ nq8 mq8).mono ?_
                rintro e a121 ⟨Tt1, ct1, rfl, ot1, b122⟩
                clear k0 k1 k2 k3
                have r8_123 := r8_118.below b122 (.inl (Nat.le_refl _))
                have e8_124 := e8_117.below b122
                have B_125 := B_119.trans (b122.mono B_119.size)
                clear r8_118 e8_117 B_119
                have hq := e8_124; obtain ⟨k0, k1, k2, k3⟩ := hq
                go_wp2_with fail
                refine (spec_CountGates_any x8 y8 A8 g8.length ca8 O8 q8.length co8 g8 q8 _ ⟨r8_123.1.reads, r8_123.2.1.reads⟩ nq8 mq8).mono ?_
                rintro e a126 ⟨Tt2, ct2, rfl, ot2, b127⟩
                clear k0 k1 k2 k3
                have r8_128 := r8_123.below b127 (.inl (Nat.le_refl _))
                have e8_129 := e8_124.below b127
                have t1_130 := ot1.below b127 (.inl (Nat.le_refl _))
                have B_131 := B_125.trans (b127.mono B_125.size)
                clear r8_123 e8_124 ot1 B_125
                have hT4 := ctF_len x8 y8 g8 q8
                go_wp2_with fail
                refine (sameInts_any Tt1 Tt2 _ ct1 _ ct2 ((ctF x8 y8 g8 q8).getD []) ((ctF x8 y8 g8 q8).getD []) _ t1_130.reads ot2.reads (by omega) (by omega)).mono ?_
                rintro e a132 ⟨rfl, j8, rfl⟩
                rw [sameB_refl' _]
                go_wp2
                go_ret
                exact ⟨by simp, below_drewN B_131 j8⟩
        | some U =>
            obtain ⟨hUl, hUm⟩ := uw_all hU
            obtain ⟨nU, hnU⟩ : ∃ nU, U.length = nU := ⟨_, rfl⟩
            rw [hnU] at hUl
            have HUm := Lib.hid hUm
            have HnU := Lib.hid hnU
            clear hUm hnU
            have HU := Lib.hid hU
            clear hU
            have hq := e5_68; obtain ⟨k0, k1, k2, k3⟩ := hq
            go_wp2_with fail
            generalize (a63.alloc (.cells #[.int .i64 x5, .int .i64 y5, .slice A5 g5.length ca5, .slice O5 q5.length co5] 27)) = a71 at *
            clear al66
            have q74 := UsedWires_any x5 y5 A5 g5.length ca5 O5 q5.length co5 g5 q5 a71 ⟨r5_69.1.reads, r5_69.2.1.reads⟩ nq5 mq5
            rw [HU.out] at q74
            refine q74.mono ?_
            clear q74
            rintro e a72 hT
            clear k0 k1 k2 k3
            obtain ⟨Uu1, cu1, rfl, ou1, bu1⟩ := RetO.open_s hT HnU.out
            have r5_75 := r5_69.below bu1 (.inl (Nat.le_refl _))
            have e5_76 := e5_68.below bu1
            have B_77 := B_70.trans (bu1.mono B_70.size)
            clear r5_69 e5_68 B_70
            have hq := e5_76; obtain ⟨k0, k1, k2, k3⟩ := hq
            go_wp2_with fail
            have q80 := spec_UsedWires_any x5 y5 A5 g5.length ca5 O5 q5.length co5 g5 q5 a72 ⟨r5_75.1.reads, r5_75.2.1.reads⟩ nq5 mq5
            rw [HU.out] at q80
            refine q80.mono ?_
            clear q80
            rintro e a78 hT
            clear k0 k1 k2 k3
            obtain ⟨Uu2, cu2, rfl, ou2, bu2⟩ := RetO.open_s hT HnU.out
            have r5_81 := r5_75.below bu2 (.inl (Nat.le_refl _))
            have e5_82 := e5_76.below bu2
            have u1_83 := ou1.below bu2 (.inl (Nat.le_refl _))
            have B_84 := B_77.trans (bu2.mono B_77.size)
            clear r5_75 e5_76 ou1 B_77
            go_wp2_with fail
            refine (sameInts_any Uu1 Uu2 nU cu1 nU cu2 U U _ u1_83.reads ou2.reads (by omega) (by omega)).mono ?_
            rintro e a85 ⟨rfl, j5, rfl⟩
            rw [sameB_refl' _]
            have bj5 : Below a78.heap.size a78 (a78.drewN j5) := below_of_drewN j5
            have r5_87 := r5_81.below bj5 (.inl (Nat.le_refl _))
            have e5_88 := e5_82.below bj5
            have u1_89 := u1_83.below bj5 (.inl (Nat.le_refl _))
            have u2_90 := ou2.below bj5 (.inl (Nat.le_refl _))
            have B_91 := B_84.trans (bj5.mono B_84.size)
            clear r5_81 e5_82 u1_83 ou2 B_84
            generalize (a78.drewN j5) = a92 at *
            clear bj5
            have hq := e5_88; obtain ⟨k0, k1, k2, k3⟩ := hq
            go_wp2
            clear k0 k1 k2 k3
            go_loopw [242] (fun i wr => ∃ k : Nat, k ≤ q5.length ∧ i = .int .i64 k ∧ wr = a92) (fun i _ => q5.length - (intOf i).toNat)
            case atStart => exact ⟨0, Nat.zero_le _, rfl, rfl⟩
            case round =>
              obtain ⟨k, hk, rfl, rfl⟩ := hrel
              by_cases hlt : k < q5.length
              · obtain ⟨bq, oq, rfl, hbq, eq1⟩ := (r5_87.2.1.reads).at_ hlt
                have hmem : gi q5 k ∈ U := HUm.out _ (gi_mem hlt)
                generalize gi q5 k = X at *
                go_wp2_with fail
                refine (pIn_any Uu2 nU cu2 U X _ u2_90.reads (by omega) hmem).mono ?_
                rintro e w6 ⟨rfl, rfl⟩
                go_wp2
                go_roundw
                case rel => exact ⟨k + 1, by omega, by go_num, by first | rfl | trivial⟩
                case measure => simp [intOf]; omega
              · have hlt2 : ¬ k < q5.length := hlt
                have hZ2 : RY wr Z m := hZ.alt (Alt.of_new (S := fun _ => False) B_91) (fun _ _ _ _ h => h)
                clear r5_87 e5_88 u1_89 u2_90
                go_wp2_with fail
                refine (DrawDepthOf_any Z m d _ hZ2).mono ?_
                rintro e a93 ⟨⟨x7, y7, g7, q7⟩, A7, ca7, O7, co7, rfl, o7, hng7, hno7, b94⟩
                dsimp only at o7 hng7 hno7 ⊢
                clear hZ2
                have B_95 := B_91.trans (b94.mono B_91.size)
                clear B_91
                have al96 : Below a93.heap.size a93 (a93.alloc (.cells #[.int .i64 x7, .int .i64 y7, .slice A7 g7.length ca7, .slice O7 q7.length co7] 27)) := (Below.refl _ _).alloc (Nat.le_refl _) _
                have z97 : (a93.alloc (.cells #[.int .i64 x7, .int .i64 y7, .slice A7 g7.length ca7, .slice O7 q7.length co7] 27)).heap.size = a93.heap.size + 1 := by simp
                have e7_98 : BxC (a93.alloc (.cells #[.int .i64 x7, .int .i64 y7, .slice A7 g7.length ca7, .slice O7 q7.length co7] 27)) a93.heap.size x7 y7 A7 g7.length ca7 O7 q7.length co7 := BxC.new _ _
                have r7_99 := o7.below al96 (.inl (Nat.le_refl _))
                have B_100 := B_95.trans (al96.mono B_95.size)
                clear o7 B_95
                have nq7 : g7.length ≤ 2097152 := by omega
                have mq7 : q7.length ≤ 2097152 := by omega
                have hq := e7_98; obtain ⟨k0, k1, k2, k3⟩ := hq
                go_wp2_with fail
                generalize (a93.alloc (.cells #[.int .i64 x7, .int .i64 y7, .slice A7 g7.length ca7, .slice O7 q7.length co7] 27)) = a101 at *
                clear al96
                refine (DepthOf_any x7 y7 A7 g7.length ca7 O7 q7.length co7 g7 q7 _ ⟨r7_99.1.reads, r7_99.2.1.reads⟩ nq7 mq7).mono ?_
                rintro e a102 ⟨rfl, b103⟩
                clear k0 k1 k2 k3
                have r7_104 := r7_99.below b103 (.inl (Nat.le_refl _))
                have e7_105 := e7_98.below b103
                have B_106 := B_100.trans (b103.mono B_100.size)
                clear r7_99 e7_98 B_100
                have hq := e7_105; obtain ⟨k0, k1, k2, k3⟩ := hq
                go_wp2_with fail
                refine (spec_DepthOf_any x7 y7 A7 g7.length ca7 O7 q7.length co7 g7 q7 _ ⟨r7_104.1.reads, r7_104.2.1.reads⟩ nq7 mq7).mono ?_
                rintro e a107 ⟨rfl, b108⟩
                clear k0 k1 k2 k3
                have r7_109 := r7_104.below b108 (.inl (Nat.le_refl _))
                have e7_110 := e7_105.below b108
                have B_111 := B_106.trans (b108.mono B_106.size)
                clear r7_104 e7_105 B_106
                have hZ3 : RY a107 Z m := hZ.alt (Alt.of_new (S := fun _ => False) B_111) (fun _ _ _ _ h => h)
                clear r7_109 e7_110
                go_wp2_with fail
                refine (DrawCountGates_any Z m d _ hZ3).mono ?_
                rintro e a112 ⟨⟨x8, y8, g8, q8⟩, A8, ca8, O8, co8, rfl, o8, hng8, hno8, b113⟩
                dsimp only at o8 hng8 hno8 ⊢
                clear hZ3
                have B_114 := B_111.trans (b113.mono B_111.size)
                clear B_111
                have al115 : Below a112.heap.size a112 (a112.alloc (.cells #[.int .i64 x8, .int .i64 y8, .slice A8 g8.length ca8, .slice O8 q8.length co8] 27)) := (Below.refl _ _).alloc (Nat.le_refl _) _
                have z116 : (a112.alloc (.cells #[.int .i64 x8, .int .i64 y8, .slice A8 g8.length ca8, .slice O8 q8.length co8] 27)).heap.size = a112.heap.size + 1 := by simp
                have e8_117 : BxC (a112.alloc (.cells #[.int .i64 x8, .int .i64 y8, .slice A8 g8.length ca8, .slice O8 q8.length co8] 27)) a112.heap.size x8 y8 A8 g8.length ca8 O8 q8.length co8 := BxC.new _ _
                have r8_118 := o8.below al115 (.inl (Nat.le_refl _))
                have B_119 := B_114.trans (al115.mono B_114.size)
                clear o8 B_114
                have nq8 : g8.length ≤ 2097152 := by omega
                have mq8 : q8.length ≤ 2097152 := by omega
                have hq := e8_117; obtain ⟨k0, k1, k2, k3⟩ := hq
                go_wp2_with fail
                generalize (a112.alloc (.cells #[.int .i64 x8, .int .i64 y8, .slice A8 g8.length ca8, .slice O8 q8.length co8] 27)) = a120 at *
                clear al115
                refine (CountGates_any x8 y8 A8 g8.length ca8 O8 q8.length co8 g8 q8 _ ⟨r8_118.1.reads, r8_118.2.1.reads⟩ nq8 mq8).mono ?_
                rintro e a121 ⟨Tt1, ct1, rfl, ot1, b122⟩
                clear k0 k1 k2 k3
                have r8_123 := r8_118.below b122 (.inl (Nat.le_refl _))
                have e8_124 := e8_117.below b122
                have B_125 := B_119.trans (b122.mono B_119.size)
                clear r8_118 e8_117 B_119
                have hq := e8_124; obtain ⟨k0, k1, k2, k3⟩ := hq
                go_wp2_with fail
                refine (spec_CountGates_any x8 y8 A8 g8.length ca8 O8 q8.length co8 g8 q8 _ ⟨r8_123.1.reads, r8_123.2.1.reads⟩ nq8 mq8).mono ?_
                rintro e a126 ⟨Tt2, ct2, rfl, ot2, b127⟩
                clear k0 k1 k2 k3
                have r8_128 := r8_123.below b127 (.inl (Nat.le_refl _))
                have e8_129 := e8_124.below b127
                have t1_130 := ot1.below b127 (.inl (Nat.le_refl _))
                have B_131 := B_125.trans (b127.mono B_125.size)
                clear r8_123 e8_124 ot1 B_125
                have hT4 := ctF_len x8 y8 g8 q8
                go_wp2_with fail
                refine (sameInts_any Tt1 Tt2 _ ct1 _ ct2 ((ctF x8 y8 g8 q8).getD []) ((ctF x8 y8 g8 q8).getD []) _ t1_130.reads ot2.reads (by omega) (by omega)).mono ?_
                rintro e a132 ⟨rfl, j8, rfl⟩
                rw [sameB_refl' _]
                go_wp2
                go_ret
                exact ⟨by simp, below_drewN B_131 j8⟩
    | some C =>
        obtain ⟨i, j, g, q⟩ := C
        obtain ⟨K1, K2, K3, hC⟩ := bes_all hF
        have HF := Lib.hid hF
        clear hF
        have hq := p1_6; obtain ⟨k0, k1, k2, k3⟩ := hq
        have hq := p2_7; obtain ⟨m0, m1, m2, m3⟩ := hq
        go_wp2_with fail
        generalize ((a1.alloc (.cells #[.int .i64 x, .int .i64 y, .slice A gs.length ca, .slice O os.length co] 27)).alloc (.cells #[.int .i64 u, .int .i64 v, .slice A2 hs.length ca2, .slice O2 ps.length co2] 27)) = a11 at *
        clear al4
        have q14 := BesideCircuit_any x y A gs.length ca O os.length co u v A2 hs.length ca2 O2 ps.length co2 gs os hs ps a11 ⟨r1_8.1.reads, r1_8.2.1.reads⟩ e1 e2 ⟨r2_9.1.reads, r2_9.2.1.reads⟩ e3 e4
        rw [HF.out] at q14
        refine q14.mono ?_
        clear q14
        rintro e a12 hT
        clear k0 k1 k2 k3 m0 m1 m2 m3
        obtain ⟨A3, ca3, O3, co3, rfl, o3, b3⟩ := RetC.open_s hT
        dsimp only at o3 ⊢
        have r1_15 := r1_8.below b3 (.inl (Nat.le_refl _))
        have r2_16 := r2_9.below b3 (.inl (Nat.le_refl _))
        have p1_17 := p1_6.below b3
        have p2_18 := p2_7.below b3
        have B_19 := B_10.trans (b3.mono B_10.size)
        clear r1_8 r2_9 p1_6 p2_7 B_10
        have al20 : Below a12.heap.size a12 (a12.alloc (.cells #[.int .i64 i, .int .i64 j, .slice A3 g.length ca3, .slice O3 q.length co3] 27)) := (Below.refl _ _).alloc (Nat.le_refl _) _
        have z21 : (a12.alloc (.cells #[.int .i64 i, .int .i64 j, .slice A3 g.length ca3, .slice O3 q.length co3] 27)).heap.size = a12.heap.size + 1 := by simp
        have p3_22 : BxC (a12.alloc (.cells #[.int .i64 i, .int .i64 j, .slice A3 g.length ca3, .slice O3 q.length co3] 27)) a12.heap.size i j A3 g.length ca3 O3 q.length co3 := BxC.new _ _
        have r1_23 := r1_15.below al20 (.inl (Nat.le_refl _))
        have r2_24 := r2_16.below al20 (.inl (Nat.le_refl _))
        have p1_25 := p1_17.below al20
        have p2_26 := p2_18.below al20
        have r3_27 := o3.below al20 (.inl (Nat.le_refl _))
        have B_28 := B_19.trans (al20.mono B_19.size)
        clear r1_15 r2_16 p1_17 p2_18 o3 B_19
        have hq := p1_25; obtain ⟨k0, k1, k2, k3⟩ := hq
        have hq := p2_26; obtain ⟨m0, m1, m2, m3⟩ := hq
        go_wp2_with fail
        generalize (a12.alloc (.cells #[.int .i64 i, .int .i64 j, .slice A3 g.length ca3, .slice O3 q.length co3] 27)) = a29 at *
        clear al20
        have q32 := spec_BesideCircuit_any x y A gs.length ca O os.length co u v A2 hs.length ca2 O2 ps.length co2 gs os hs ps a29 ⟨r1_23.1.reads, r1_23.2.1.reads⟩ e1 e2 ⟨r2_24.1.reads, r2_24.2.1.reads⟩ e3 e4
        rw [HF.out] at q32
        refine q32.mono ?_
        clear q32
        rintro e a30 hT
        clear k0 k1 k2 k3 m0 m1 m2 m3
        obtain ⟨A4, ca4, O4, co4, rfl, o4, b4⟩ := RetC.open_s hT
        dsimp only at o4 ⊢
        have r1_33 := r1_23.below b4 (.inl (Nat.le_refl _))
        have r2_34 := r2_24.below b4 (.inl (Nat.le_refl _))
        have p1_35 := p1_25.below b4
        have p2_36 := p2_26.below b4
        have r3_37 := r3_27.below b4 (.inl (Nat.le_refl _))
        have p3_38 := p3_22.below b4
        have B_39 := B_28.trans (b4.mono B_28.size)
        clear r1_23 r2_24 p1_25 p2_26 r3_27 p3_22 B_28
        have al40 : Below a30.heap.size a30 (a30.alloc (.cells #[.int .i64 i, .int .i64 j, .slice A4 g.length ca4, .slice O4 q.length co4] 27)) := (Below.refl _ _).alloc (Nat.le_refl _) _
        have z41 : (a30.alloc (.cells #[.int .i64 i, .int .i64 j, .slice A4 g.length ca4, .slice O4 q.length co4] 27)).heap.size = a30.heap.size + 1 := by simp
        have p4_42 : BxC (a30.alloc (.cells #[.int .i64 i, .int .i64 j, .slice A4 g.length ca4, .slice O4 q.length co4] 27)) a30.heap.size i j A4 g.length ca4 O4 q.length co4 := BxC.new _ _
        have r1_43 := r1_33.below al40 (.inl (Nat.le_refl _))
        have r2_44 := r2_34.below al40 (.inl (Nat.le_refl _))
        have p1_45 := p1_35.below al40
        have p2_46 := p2_36.below al40
        have r3_47 := r3_37.below al40 (.inl (Nat.le_refl _))
        have p3_48 := p3_38.below al40
        have r4_49 := o4.below al40 (.inl (Nat.le_refl _))
        have B_50 := B_39.trans (al40.mono B_39.size)
        clear r1_33 r2_34 p1_35 p2_36 r3_37 p3_38 o4 B_39
        have hq := p3_48; obtain ⟨k0, k1, k2, k3⟩ := hq
        have hq := p4_42; obtain ⟨m0, m1, m2, m3⟩ := hq
        have e5 : g.length ≤ 2097152 := by have := hC.ng; omega
        have e6 : q.length ≤ 2097152 := by have := hC.no; omega
        go_wp2_with fail
        generalize (a30.alloc (.cells #[.int .i64 i, .int .i64 j, .slice A4 g.length ca4, .slice O4 q.length co4] 27)) = a51 at *
        clear al40
        refine (pSameCircuit_any i j A3 A4 g.length ca3 ca4 O3 O4 q.length co3 co4 g q _ ⟨r3_47.1.reads, r3_47.2.1.reads⟩ ⟨r4_49.1.reads, r4_49.2.1.reads⟩ e5 e6).mono ?_
        rintro e a52 ⟨rfl, b53⟩
        clear k0 k1 k2 k3 m0 m1 m2 m3
        have r1_54 := r1_43.below b53 (.inl (Nat.le_refl _))
        have r2_55 := r2_44.below b53 (.inl (Nat.le_refl _))
        have p1_56 := p1_45.below b53
        have p2_57 := p2_46.below b53
        have r3_58 := r3_47.below b53 (.inl (Nat.le_refl _))
        have p3_59 := p3_48.below b53
        have r4_60 := r4_49.below b53 (.inl (Nat.le_refl _))
        have p4_61 := p4_42.below b53
        have B_62 := B_50.trans (b53.mono B_50.size)
        clear r1_43 r2_44 p1_45 p2_46 r3_47 p3_48 r4_49 p4_42 B_50
        have hq := p1_56; obtain ⟨k0, k1, k2, k3⟩ := hq
        go_wp2_with fail
        have q65 := CountGates_any x y A gs.length ca O os.length co gs os a52 ⟨r1_54.1.reads, r1_54.2.1.reads⟩ e1 e2
        rw [hC.t1] at q65
        refine q65.mono ?_
        clear q65
        rintro e a63 hT
        clear k0 k1 k2 k3
        obtain ⟨D1, cd1, rfl, d1, bd1⟩ := RetO.open_s hT hC.l1
        have r1_66 := r1_54.below bd1 (.inl (Nat.le_refl _))
        have r2_67 := r2_55.below bd1 (.inl (Nat.le_refl _))
        have p1_68 := p1_56.below bd1
        have p2_69 := p2_57.below bd1
        have r3_70 := r3_58.below bd1 (.inl (Nat.le_refl _))
        have p3_71 := p3_59.below bd1
        have r4_72 := r4_60.below bd1 (.inl (Nat.le_refl _))
        have p4_73 := p4_61.below bd1
        have B_74 := B_62.trans (bd1.mono B_62.size)
        clear r1_54 r2_55 p1_56 p2_57 r3_58 p3_59 r4_60 p4_61 B_62
        have hq := p2_69; obtain ⟨k0, k1, k2, k3⟩ := hq
        go_wp2_with fail
        have q77 := CountGates_any u v A2 hs.length ca2 O2 ps.length co2 hs ps a63 ⟨r2_67.1.reads, r2_67.2.1.reads⟩ e3 e4
        rw [hC.t2] at q77
        refine q77.mono ?_
        clear q77
        rintro e a75 hT
        clear k0 k1 k2 k3
        obtain ⟨D2, cd2, rfl, d2, bd2⟩ := RetO.open_s hT hC.l2
        have r1_78 := r1_66.below bd2 (.inl (Nat.le_refl _))
        have r2_79 := r2_67.below bd2 (.inl (Nat.le_refl _))
        have p1_80 := p1_68.below bd2
        have p2_81 := p2_69.below bd2
        have r3_82 := r3_70.below bd2 (.inl (Nat.le_refl _))
        have p3_83 := p3_71.below bd2
        have r4_84 := r4_72.below bd2 (.inl (Nat.le_refl _))
        have p4_85 := p4_73.below bd2
        have K1_86 := d1.below bd2 (.inl (Nat.le_refl _))
        have B_87 := B_74.trans (bd2.mono B_74.size)
        clear r1_66 r2_67 p1_68 p2_69 r3_70 p3_71 r4_72 p4_73 d1 B_74
        have hq := p3_83; obtain ⟨k0, k1, k2, k3⟩ := hq
        go_wp2_with fail
        have q90 := CountGates_any i j A3 g.length ca3 O3 q.length co3 g q a75 ⟨r3_82.1.reads, r3_82.2.1.reads⟩ e5 e6
        rw [hC.t3] at q90
        refine q90.mono ?_
        clear q90
        rintro e a88 hT
        clear k0 k1 k2 k3
        obtain ⟨D3, cd3, rfl, d3, bd3⟩ := RetO.open_s hT hC.l3
        have r1_91 := r1_78.below bd3 (.inl (Nat.le_refl _))
        have r2_92 := r2_79.below bd3 (.inl (Nat.le_refl _))
        have p1_93 := p1_80.below bd3
        have p2_94 := p2_81.below bd3
        have r3_95 := r3_82.below bd3 (.inl (Nat.le_refl _))
        have p3_96 := p3_83.below bd3
        have r4_97 := r4_84.below bd3 (.inl (Nat.le_refl _))
        have p4_98 := p4_85.below bd3
        have K1_99 := K1_86.below bd3 (.inl (Nat.le_refl _))
        have K2_100 := d2.below bd3 (.inl (Nat.le_refl _))
        have B_101 := B_87.trans (bd3.mono B_87.size)
        clear r1_78 r2_79 p1_80 p2_81 r3_82 p3_83 r4_84 p4_85 K1_86 d2 B_87
        have hq := p4_98; obtain ⟨m0, m1, m2, m3⟩ := hq
        have hK3 := d3
        have hbx4 := p4_98
        go_wp2_with fail
        refine wp_region_mem0 (33) [(⟨a30.heap.size, 2, none⟩, .slice A4 g.length ca4), (⟨a30.heap.size, 0, none⟩, .int .i64 i)] [(27, [], [])] [] [(27, Res.plain (.int .i64 (g.length : Int)))] (by kernel_rfl) (by kernel_rfl) (by kernel_rfl) (by simp only [CellsL, List.mem_cons, forall_eq_or_imp, List.not_mem_nil, false_implies, implies_true, and_true]; repeat (any_goals (apply And.intro)); all_goals (first | assumption | go_simp)) ?_
        simp only [List.take_succ_cons, List.take_zero, List.drop_succ_cons, List.drop_zero, List.take_nil, List.drop_nil, List.take, List.drop]
        repeat (first
          | ((with_reducible refine mem_pure0 ?_ ?_ ?_)
             · exact rfl
             · exact rfl
             intro K hK
             apply Exists.intro
             refine ⟨fun w3 hw3 => ?_, ?_⟩
             · have hcs := hw3
               simp only [CellsL, List.mem_cons, forall_eq_or_imp, List.not_mem_nil, false_implies, implies_true, and_true] at hcs
               clear hw3
               go_simp
               first | done | exact ⟨rfl, rfl⟩ | rfl
             refine hK _ ?_
             clear hK K
             try simp only [Act.put, List.setIfInBounds_toArray, List.set_cons_zero, List.set_cons_succ])
          | ((with_reducible refine mem_skip ?_ ?_ ?_)
             · exact rfl
             · exact wanted_not rfl rfl rfl rfl
             simp only [Act.put, List.setIfInBounds_toArray, List.set_cons_zero, List.set_cons_succ])
          | ((with_reducible refine mem_pure ?_ ?_ ?_)
             · exact rfl
             · exact wanted_some rfl rfl rfl rfl
             intro K hK
             apply Exists.intro
             refine ⟨fun w3 hw3 => ?_, ?_⟩
             · have hcs := hw3
               simp only [CellsL, List.mem_cons, forall_eq_or_imp, List.not_mem_nil, false_implies, implies_true, and_true] at hcs
               clear hw3
               go_simp
               first | done | exact ⟨rfl, rfl⟩ | rfl
             refine hK _ ?_
             clear hK K
             try simp only [Act.put, List.setIfInBounds_toArray, List.set_cons_zero, List.set_cons_succ]))
        focus
          (with_reducible refine mem_plain (.int .i64 (g.length : Int)) ?_ ?_ ?_ ?_ (hw := ?_))
          · exact rfl
          · exact rfl
          · intro w3 hw3 hc3 hp3
            have hcs := hc3
            simp only [CellsL, List.mem_cons, forall_eq_or_imp, List.not_mem_nil, false_implies, implies_true, and_true] at hcs
            (go_simp; refine (pSum_any D3 4 cd3 K3 _ (hK3.below (alt_below hw3) (.inl (Nat.le_refl _))).reads (by omega) hC.d3).mono ?_; rintro e w4 ⟨rfl, rfl⟩; rw [hC.tot]; exact retPost.mk_ (postPlain.mk_ (Below.refl _ _)))
          rotate_left
          · first | exact wanted_none rfl | exact wanted_some rfl rfl rfl rfl
          try simp only [Act.put, List.setIfInBounds_toArray, List.set_cons_zero, List.set_cons_succ]
        repeat (first
          | ((with_reducible refine mem_pure0 ?_ ?_ ?_)
             · exact rfl
             · exact rfl
             intro K hK
             apply Exists.intro
             refine ⟨fun w3 hw3 => ?_, ?_⟩
             · have hcs := hw3
               simp only [CellsL, List.mem_cons, forall_eq_or_imp, List.not_mem_nil, false_implies, implies_true, and_true] at hcs
               clear hw3
               go_simp
               first | done | exact ⟨rfl, rfl⟩ | rfl
             refine hK _ ?_
             clear hK K
             try simp only [Act.put, List.setIfInBounds_toArray, List.set_cons_zero, List.set_cons_succ])
          | ((with_reducible refine mem_skip ?_ ?_ ?_)
             · exact rfl
             · exact wanted_not rfl rfl rfl rfl
             simp only [Act.put, List.setIfInBounds_toArray, List.set_cons_zero, List.set_cons_succ])
          | ((with_reducible refine mem_pure ?_ ?_ ?_)
             · exact rfl
             · exact wanted_some rfl rfl rfl rfl
             intro K hK
             apply Exists.intro
             refine ⟨fun w3 hw3 => ?_, ?_⟩
             · have hcs := hw3
               simp only [CellsL, List.mem_cons, forall_eq_or_imp, List.not_mem_nil, false_implies, implies_true, and_true] at hcs
               clear hw3
               go_simp
               first | done | exact ⟨rfl, rfl⟩ | rfl
             refine hK _ ?_
             clear hK K
             try simp only [Act.put, List.setIfInBounds_toArray, List.set_cons_zero, List.set_cons_succ]))
        refine wpSep_end ?_
        intro wy hwy hcy hfin hap
        have bwy := alt_below hwy
        clear hfin hap hcy hwy hbx4 hK3 m0 m1 m2 m3
        have r1_102 := r1_91.below bwy (.inl (Nat.le_refl _))
        have r2_103 := r2_92.below bwy (.inl (Nat.le_refl _))
        have p1_104 := p1_93.below bwy
        have p2_105 := p2_94.below bwy
        have r3_106 := r3_95.below bwy (.inl (Nat.le_refl _))
        have p3_107 := p3_96.below bwy
        have r4_108 := r4_97.below bwy (.inl (Nat.le_refl _))
        have p4_109 := p4_98.below bwy
        have K1_110 := K1_99.below bwy (.inl (Nat.le_refl _))
        have K2_111 := K2_100.below bwy (.inl (Nat.le_refl _))
        have K3_112 := d3.below bwy (.inl (Nat.le_refl _))
        have B_113 := B_101.trans (bwy.mono B_101.size)
        clear r1_91 r2_92 p1_93 p2_94 r3_95 p3_96 r4_97 p4_98 K1_99 K2_100 d3 B_101
        have n4 : ((g.length : Int) != g.length) = false := by simp
        go_wp2
        go_loopw [129] (fun i9 wr => ∃ k j9 : Nat, k ≤ 4 ∧ i9 = .int .i64 k ∧ wr = wy.drewN j9) (fun i9 _ => 4 - (intOf i9).toNat)
        case atStart => exact ⟨0, 0, Nat.zero_le _, rfl, rfl⟩
        case round =>
          obtain ⟨k, j9, hk, rfl, rfl⟩ := hrel
          by_cases hlt : k < 4
          · obtain ⟨b1, z1, rfl, hb1, f1⟩ := (K1_110.reads).at_ hlt
            obtain ⟨b2, z2, rfl, hb2, f2⟩ := (K2_111.reads).at_ hlt
            obtain ⟨b3, z3, rfl, hb3, f3⟩ := (K3_112.reads).at_ hlt
            rw [hC.sum k hlt] at f3
            have m1 := hC.d1 k
            have m2 := hC.d2 k
            generalize gi K1 k = X1 at *
            generalize gi K2 k = X2 at *
            have hwx : IntKind.i64.wrap (X1 + X2) = X1 + X2 := by rw [IntKind.wrap_i64] <;> omega
            have hnx : (X1 + X2 != X1 + X2) = false := by simp
            go_wp2_with fail
            go_quiet (fail)
            go_wp2
            go_roundw
            case rel => exact ⟨k + 1, _, by omega, by go_num, by first | rfl | exact World.drewN_drewN _ _ _⟩
            case measure => simp [intOf]; omega
          · have bj9 : Below wy.heap.size wy (wy.drewN j9) := below_of_drewN j9
            have r1_114 := r1_102.below bj9 (.inl (Nat.le_refl _))
            have r2_115 := r2_103.below bj9 (.inl (Nat.le_refl _))
            have p1_116 := p1_104.below bj9
            have p2_117 := p2_105.below bj9
            have r3_118 := r3_106.below bj9 (.inl (Nat.le_refl _))
            have p3_119 := p3_107.below bj9
            have r4_120 := r4_108.below bj9 (.inl (Nat.le_refl _))
            have p4_121 := p4_109.below bj9
            have K1_122 := K1_110.below bj9 (.inl (Nat.le_refl _))
            have K2_123 := K2_111.below bj9 (.inl (Nat.le_refl _))
            have K3_124 := K3_112.below bj9 (.inl (Nat.le_refl _))
            have B_125 := B_113.trans (bj9.mono B_113.size)
            clear r1_102 r2_103 p1_104 p2_105 r3_106 p3_107 r4_108 p4_109 K1_110 K2_111 K3_112 B_113
            generalize wy.drewN j9 = a126 at *
            clear bj9
            clear K1_122 K2_123 K3_124
            have hq := p1_116; obtain ⟨k0, k1, k2, k3⟩ := hq
            go_wp2_with fail
            refine (DepthOf_any x y A gs.length ca O os.length co gs os _ ⟨r1_114.1.reads, r1_114.2.1.reads⟩ e1 e2).mono ?_
            rintro e a127 ⟨rfl, b128⟩
            clear k0 k1 k2 k3
            rw [hC.c1]
            have r1_129 := r1_114.below b128 (.inl (Nat.le_refl _))
            have r2_130 := r2_115.below b128 (.inl (Nat.le_refl _))
            have p1_131 := p1_116.below b128
            have p2_132 := p2_117.below b128
            have r3_133 := r3_118.below b128 (.inl (Nat.le_refl _))
            have p3_134 := p3_119.below b128
            have r4_135 := r4_120.below b128 (.inl (Nat.le_refl _))
            have p4_136 := p4_121.below b128
            have B_137 := B_125.trans (b128.mono B_125.size)
            clear r1_114 r2_115 p1_116 p2_117 r3_118 p3_119 r4_120 p4_121 B_125
            have hq := p2_132; obtain ⟨k0, k1, k2, k3⟩ := hq
            go_wp2_with fail
            refine (DepthOf_any u v A2 hs.length ca2 O2 ps.length co2 hs ps _ ⟨r2_130.1.reads, r2_130.2.1.reads⟩ e3 e4).mono ?_
            rintro e a138 ⟨rfl, b139⟩
            clear k0 k1 k2 k3
            rw [hC.c2]
            have r1_140 := r1_129.below b139 (.inl (Nat.le_refl _))
            have r2_141 := r2_130.below b139 (.inl (Nat.le_refl _))
            have p1_142 := p1_131.below b139
            have p2_143 := p2_132.below b139
            have r3_144 := r3_133.below b139 (.inl (Nat.le_refl _))
            have p3_145 := p3_134.below b139
            have r4_146 := r4_135.below b139 (.inl (Nat.le_refl _))
            have p4_147 := p4_136.below b139
            have B_148 := B_137.trans (b139.mono B_137.size)
            clear r1_129 r2_130 p1_131 p2_132 r3_133 p3_134 r4_135 p4_136 B_137
            have hq := p3_145; obtain ⟨k0, k1, k2, k3⟩ := hq
            go_wp2_with fail
            refine (DepthOf_any i j A3 g.length ca3 O3 q.length co3 g q _ ⟨r3_144.1.reads, r3_144.2.1.reads⟩ e5 e6).mono ?_
            rintro e a149 ⟨rfl, b150⟩
            clear k0 k1 k2 k3
            rw [hC.c3]
            have r1_151 := r1_140.below b150 (.inl (Nat.le_refl _))
            have r2_152 := r2_141.below b150 (.inl (Nat.le_refl _))
            have p1_153 := p1_142.below b150
            have p2_154 := p2_143.below b150
            have r3_155 := r3_144.below b150 (.inl (Nat.le_refl _))
            have p3_156 := p3_145.below b150
            have r4_157 := r4_146.below b150 (.inl (Nat.le_refl _))
            have p4_158 := p4_147.below b150
            have B_159 := B_148.trans (b150.mono B_148.size)
            clear r1_140 r2_141 p1_142 p2_143 r3_144 p3_145 r4_146 p4_147 B_148
            have hq := p4_158; obtain ⟨k0, k1, k2, k3⟩ := hq
            go_wp2_with fail
            refine (spec_DepthOf_any i j A4 g.length ca4 O4 q.length co4 g q _ ⟨r4_157.1.reads, r4_157.2.1.reads⟩ e5 e6).mono ?_
            rintro e a160 ⟨rfl, b161⟩
            clear k0 k1 k2 k3
            rw [hC.c3]
            have r1_162 := r1_151.below b161 (.inl (Nat.le_refl _))
            have r2_163 := r2_152.below b161 (.inl (Nat.le_refl _))
            have p1_164 := p1_153.below b161
            have p2_165 := p2_154.below b161
            have r3_166 := r3_155.below b161 (.inl (Nat.le_refl _))
            have p3_167 := p3_156.below b161
            have r4_168 := r4_157.below b161 (.inl (Nat.le_refl _))
            have p4_169 := p4_158.below b161
            have B_170 := B_159.trans (b161.mono B_159.size)
            clear r1_151 r2_152 p1_153 p2_154 r3_155 p3_156 r4_157 p4_158 B_159
            have w1 : ¬ depA i j g q < depA x y gs os := by have := hC.a1; omega
            have w2 : ¬ depA i j g q < depA u v hs ps := by have := hC.a2; omega
            have w3 : ¬ depB i j g q < depB x y gs os := by have := hC.b1; omega
            have w4 : ¬ depB i j g q < depB u v hs ps := by have := hC.b2; omega
            have w5 : ¬ (g.length : Int) < depA i j g q := by have := hC.top; omega
            have w6 : (depA i j g q != depA i j g q) = false := by simp
            have w7 : (depB i j g q != depB i j g q) = false := by simp
            have hq := p4_169; obtain ⟨m0, m1, m2, m3⟩ := hq
            clear r1_162 r2_163 p1_164 p2_165 r3_166 p3_167 r4_168 p4_169
            have hZ1 : RY a160 Z m := hZ.alt (Alt.of_new (S := fun _ => False) B_170) (fun _ _ _ _ h => h)
            go_wp2_with fail
            refine (DrawUsedWires_any Z m d _ hZ1).mono ?_
            rintro e a171 ⟨⟨x5, y5, g5, q5⟩, A5, ca5, O5, co5, rfl, o5, hng5, hno5, b172⟩
            dsimp only at o5 hng5 hno5 ⊢
            clear hZ1
            have B_173 := B_170.trans (b172.mono B_170.size)
            clear B_170
            have al174 : Below a171.heap.size a171 (a171.alloc (.cells #[.int .i64 x5, .int .i64 y5, .slice A5 g5.length ca5, .slice O5 q5.length co5] 27)) := (Below.refl _ _).alloc (Nat.le_refl _) _
            have z175 : (a171.alloc (.cells #[.int .i64 x5, .int .i64 y5, .slice A5 g5.length ca5, .slice O5 q5.length co5] 27)).heap.size = a171.heap.size + 1 := by simp
            have e5_176 : BxC (a171.alloc (.cells #[.int .i64 x5, .int .i64 y5, .slice A5 g5.length ca5, .slice O5 q5.length co5] 27)) a171.heap.size x5 y5 A5 g5.length ca5 O5 q5.length co5 := BxC.new _ _
            have r5_177 := o5.below al174 (.inl (Nat.le_refl _))
            have B_178 := B_173.trans (al174.mono B_173.size)
            clear o5 B_173
            have nq5 : g5.length ≤ 2097152 := by omega
            have mq5 : q5.length ≤ 2097152 := by omega
            cases hU : uwF x5 y5 g5 q5 with
            | none =>
                have HU := Lib.hid hU
                clear hU
                have hq := e5_176; obtain ⟨k0, k1, k2, k3⟩ := hq
                go_wp2_with fail
                generalize (a171.alloc (.cells #[.int .i64 x5, .int .i64 y5, .slice A5 g5.length ca5, .slice O5 q5.length co5] 27)) = a179 at *
                clear al174
                have q182 := UsedWires_any x5 y5 A5 g5.length ca5 O5 q5.length co5 g5 q5 a179 ⟨r5_177.1.reads, r5_177.2.1.reads⟩ nq5 mq5
                rw [HU.out] at q182
                refine q182.mono ?_
                clear q182
                rintro e a180 hT
                clear k0 k1 k2 k3
                obtain ⟨Uu1, cu1, rfl, ou1, bu1⟩ := RetO.open_n hT
                have r5_183 := r5_177.below bu1 (.inl (Nat.le_refl _))
                have e5_184 := e5_176.below bu1
                have B_185 := B_178.trans (bu1.mono B_178.size)
                clear r5_177 e5_176 B_178
                have hq := e5_184; obtain ⟨k0, k1, k2, k3⟩ := hq
                go_wp2_with fail
                have q188 := spec_UsedWires_any x5 y5 A5 g5.length ca5 O5 q5.length co5 g5 q5 a180 ⟨r5_183.1.reads, r5_183.2.1.reads⟩ nq5 mq5
                rw [HU.out] at q188
                refine q188.mono ?_
                clear q188
                rintro e a186 hT
                clear k0 k1 k2 k3
                obtain ⟨Uu2, cu2, rfl, ou2, bu2⟩ := RetO.open_n hT
                have r5_189 := r5_183.below bu2 (.inl (Nat.le_refl _))
                have e5_190 := e5_184.below bu2
                have u1_191 := ou1.below bu2 (.inl (Nat.le_refl _))
                have B_192 := B_185.trans (bu2.mono B_185.size)
                clear r5_183 e5_184 ou1 B_185
                go_wp2_with fail
                refine (sameInts_any Uu1 Uu2 0 cu1 0 cu2 [] [] _ u1_191.reads ou2.reads (by omega) (by omega)).mono ?_
                rintro e a193 ⟨rfl, j5, rfl⟩
                rw [sameB_refl' _]
                have bj5 : Below a186.heap.size a186 (a186.drewN j5) := below_of_drewN j5
                have r5_195 := r5_189.below bj5 (.inl (Nat.le_refl _))
                have e5_196 := e5_190.below bj5
                have u1_197 := u1_191.below bj5 (.inl (Nat.le_refl _))
                have u2_198 := ou2.below bj5 (.inl (Nat.le_refl _))
                have B_199 := B_192.trans (bj5.mono B_192.size)
                clear r5_189 e5_190 u1_191 ou2 B_192
                generalize (a186.drewN j5) = a200 at *
                clear bj5
                have hq := e5_196; obtain ⟨k0, k1, k2, k3⟩ := hq
                go_wp2
                clear k0 k1 k2 k3
                go_loopw [242] (fun i wr => ∃ k : Nat, k ≤ q5.length ∧ i = .int .i64 k ∧ wr = a200) (fun i _ => q5.length - (intOf i).toNat)
                case atStart => exact ⟨0, Nat.zero_le _, rfl, rfl⟩
                case round =>
                  obtain ⟨k, hk, rfl, rfl⟩ := hrel
                  by_cases hlt : k < q5.length
                  · obtain ⟨bq, oq, rfl, hbq, eq1⟩ := (r5_195.2.1.reads).at_ hlt
                    generalize gi q5 k = X at *
                    go_wp2
                    go_roundw
                    case rel => exact ⟨k + 1, by omega, by go_num, by first | rfl | trivial⟩
                    case measure => simp [intOf]; omega
                  · have hlt2 : ¬ k < q5.length := hlt
                    have hZ2 : RY wr Z m := hZ.alt (Alt.of_new (S := fun _ => False) B_199) (fun _ _ _ _ h => h)
                    clear r5_195 e5_196 u1_197 u2_198
                    go_wp2_with fail
                    refine (DrawDepthOf_any Z m d _ hZ2).mono ?_
                    rintro e a201 ⟨⟨x7, y7, g7, q7⟩, A7, ca7, O7, co7, rfl, o7, hng7, hno7, b202⟩
                    dsimp only at o7 hng7 hno7 ⊢
                    clear hZ2
                    have B_203 := B_199.trans (b202.mono B_199.size)
                    clear B_199
                    have al204 : Below a201.heap.size a201 (a201.alloc (.cells #[.int .i64 x7, .int .i64 y7, .slice A7 g7.length ca7, .slice O7 q7.length co7] 27)) := (Below.refl _ _).alloc (Nat.le_refl _) _
                    have z205 : (a201.alloc (.cells #[.int .i64 x7, .int .i64 y7, .slice A7 g7.length ca7, .slice O7 q7.length co7] 27)).heap.size = a201.heap.size + 1 := by simp
                    have e7_206 : BxC (a201.alloc (.cells #[.int .i64 x7, .int .i64 y7, .slice A7 g7.length ca7, .slice O7 q7.length co7] 27)) a201.heap.size x7 y7 A7 g7.length ca7 O7 q7.length co7 := BxC.new _ _
                    have r7_207 := o7.below al204 (.inl (Nat.le_refl _))
                    have B_208 := B_203.trans (al204.mono B_203.size)
                    clear o7 B_203
                    have nq7 : g7.length ≤ 2097152 := by omega
                    have mq7 : q7.length ≤ 2097152 := by omega
                    have hq := e7_206; obtain ⟨k0, k1, k2, k3⟩ := hq
                    go_wp2_with fail
                    generalize (a201.alloc (.cells #[.int .i64 x7, .int .i64 y7, .slice A7 g7.length ca7, .slice O7 q7.length co7] 27)) = a209 at *
                    clear al204
                    refine (DepthOf_any x7 y7 A7 g7.length ca7 O7 q7.length co7 g7 q7 _ ⟨r7_207.1.reads, r7_207.2.1.reads⟩ nq7 mq7).mono ?_
                    rintro e a210 ⟨rfl, b211⟩
                    clear k0 k1 k2 k3
                    have r7_212 := r7_207.below b211 (.inl (Nat.le_refl _))
                    have e7_213 := e7_206.below b211
                    have B_214 := B_208.trans (b211.mono B_208.size)
                    clear r7_207 e7_206 B_208
                    have hq := e7_213; obtain ⟨k0, k1, k2, k3⟩ := hq
                    go_wp2_with fail
                    refine (spec_DepthOf_any x7 y7 A7 g7.length ca7 O7 q7.length co7 g7 q7 _ ⟨r7_212.1.reads, r7_212.2.1.reads⟩ nq7 mq7).mono ?_
                    rintro e a215 ⟨rfl, b216⟩
                    clear k0 k1 k2 k3
                    have r7_217 := r7_212.below b216 (.inl (Nat.le_refl _))
                    have e7_218 := e7_213.below b216
                    have B_219 := B_214.trans (b216.mono B_214.size)
                    clear r7_212 e7_213 B_214
                    have hZ3 : RY a215 Z m := hZ.alt (Alt.of_new (S := fun _ => False) B_219) (fun _ _ _ _ h => h)
                    clear r7_217 e7_218
                    go_wp2_with fail
                    refine (DrawCountGates_any Z m d _ hZ3).mono ?_
                    rintro e a220 ⟨⟨x8, y8, g8, q8⟩, A8, ca8, O8, co8, rfl, o8, hng8, hno8, b221⟩
                    dsimp only at o8 hng8 hno8 ⊢
                    clear hZ3
                    have B_222 := B_219.trans (b221.mono B_219.size)
                    clear B_219
                    have al223 : Below a220.heap.size a220 (a220.alloc (.cells #[.int .i64 x8, .int .i64 y8, .slice A8 g8.length ca8, .slice O8 q8.length co8] 27)) := (Below.refl _ _).alloc (Nat.le_refl _) _
                    have z224 : (a220.alloc (.cells #[.int .i64 x8, .int .i64 y8, .slice A8 g8.length ca8, .slice O8 q8.length co8] 27)).heap.size = a220.heap.size + 1 := by simp
                    have e8_225 : BxC (a220.alloc (.cells #[.int .i64 x8, .int .i64 y8, .slice A8 g8.length ca8, .slice O8 q8.length co8] 27)) a220.heap.size x8 y8 A8 g8.length ca8 O8 q8.length co8 := BxC.new _ _
                    have r8_226 := o8.below al223 (.inl (Nat.le_refl _))
                    have B_227 := B_222.trans (al223.mono B_222.size)
                    clear o8 B_222
                    have nq8 : g8.length ≤ 2097152 := by omega
                    have mq8 : q8.length ≤ 2097152 := by omega
                    have hq := e8_225; obtain ⟨k0, k1, k2, k3⟩ := hq
                    go_wp2_with fail
                    generalize (a220.alloc (.cells #[.int .i64 x8, .int .i64 y8, .slice A8 g8.length ca8, .slice O8 q8.length co8] 27)) = a228 at *
                    clear al223
                    refine (CountGates_any x8 y8 A8 g8.length ca8 O8 q8.length co8 g8 q8 _ ⟨r8_226.1.reads, r8_226.2.1.reads⟩ nq8 mq8).mono ?_
                    rintro e a229 ⟨Tt1, ct1, rfl, ot1, b230⟩
                    clear k0 k1 k2 k3
                    have r8_231 := r8_226.below b230 (.inl (Nat.le_refl _))
                    have e8_232 := e8_225.below b230
                    have B_233 := B_227.trans (b230.mono B_227.size)
                    clear r8_226 e8_225 B_227
                    have hq := e8_232; obtain ⟨k0, k1, k2, k3⟩ := hq
                    go_wp2_with fail
                    refine (spec_CountGates_any x8 y8 A8 g8.length ca8 O8 q8.length co8 g8 q8 _ ⟨r8_231.1.reads, r8_231.2.1.reads⟩ nq8 mq8).mono ?_
                    rintro e a234 ⟨Tt2, ct2, rfl, ot2, b235⟩
                    clear k0 k1 k2 k3
                    have r8_236 := r8_231.below b235 (.inl (Nat.le_refl _))
                    have e8_237 := e8_232.below b235
                    have t1_238 := ot1.below b235 (.inl (Nat.le_refl _))
                    have B_239 := B_233.trans (b235.mono B_233.size)
                    clear r8_231 e8_232 ot1 B_233
                    have hT4 := ctF_len x8 y8 g8 q8
                    go_wp2_with fail
                    refine (sameInts_any Tt1 Tt2 _ ct1 _ ct2 ((ctF x8 y8 g8 q8).getD []) ((ctF x8 y8 g8 q8).getD []) _ t1_238.reads ot2.reads (by omega) (by omega)).mono ?_
                    rintro e a240 ⟨rfl, j8, rfl⟩
                    rw [sameB_refl' _]
                    go_wp2
                    go_ret
                    exact ⟨by simp, below_drewN B_239 j8⟩
            | some U =>
                obtain ⟨hUl, hUm⟩ := uw_all hU
                obtain ⟨nU, hnU⟩ : ∃ nU, U.length = nU := ⟨_, rfl⟩
                rw [hnU] at hUl
                have HUm := Lib.hid hUm
                have HnU := Lib.hid hnU
                clear hUm hnU
                have HU := Lib.hid hU
                clear hU
                have hq := e5_176; obtain ⟨k0, k1, k2, k3⟩ := hq
                go_wp2_with fail
                generalize (a171.alloc (.cells #[.int .i64 x5, .int .i64 y5, .slice A5 g5.length ca5, .slice O5 q5.length co5] 27)) = a179 at *
                clear al174
                have q182 := UsedWires_any x5 y5 A5 g5.length ca5 O5 q5.length co5 g5 q5 a179 ⟨r5_177.1.reads, r5_177.2.1.reads⟩ nq5 mq5
                rw [HU.out] at q182
                refine q182.mono ?_
                clear q182
                rintro e a180 hT
                clear k0 k1 k2 k3
                obtain ⟨Uu1, cu1, rfl, ou1, bu1⟩ := RetO.open_s hT HnU.out
                have r5_183 := r5_177.below bu1 (.inl (Nat.le_refl _))
                have e5_184 := e5_176.below bu1
                have B_185 := B_178.trans (bu1.mono B_178.size)
                clear r5_177 e5_176 B_178
                have hq := e5_184; obtain ⟨k0, k1, k2, k3⟩ := hq
                go_wp2_with fail
                have q188 := spec_UsedWires_any x5 y5 A5 g5.length ca5 O5 q5.length co5 g5 q5 a180 ⟨r5_183.1.reads, r5_183.2.1.reads⟩ nq5 mq5
                rw [HU.out] at q188
                refine q188.mono ?_
                clear q188
                rintro e a186 hT
                clear k0 k1 k2 k3
                obtain ⟨Uu2, cu2, rfl, ou2, bu2⟩ := RetO.open_s hT HnU.out
                have r5_189 := r5_183.below bu2 (.inl (Nat.le_refl _))
                have e5_190 := e5_184.below bu2
                have u1_191 := ou1.below bu2 (.inl (Nat.le_refl _))
                have B_192 := B_185.trans (bu2.mono B_185.size)
                clear r5_183 e5_184 ou1 B_185
                go_wp2_with fail
                refine (sameInts_any Uu1 Uu2 nU cu1 nU cu2 U U _ u1_191.reads ou2.reads (by omega) (by omega)).mono ?_
                rintro e a193 ⟨rfl, j5, rfl⟩
                rw [sameB_refl' _]
                have bj5 : Below a186.heap.size a186 (a186.drewN j5) := below_of_drewN j5
                have r5_195 := r5_189.below bj5 (.inl (Nat.le_refl _))
                have e5_196 := e5_190.below bj5
                have u1_197 := u1_191.below bj5 (.inl (Nat.le_refl _))
                have u2_198 := ou2.below bj5 (.inl (Nat.le_refl _))
                have B_199 := B_192.trans (bj5.mono B_192.size)
                clear r5_189 e5_190 u1_191 ou2 B_192
                generalize (a186.drewN j5) = a200 at *
                clear bj5
                have hq := e5_196; obtain ⟨k0, k1, k2, k3⟩ := hq
                go_wp2
                clear k0 k1 k2 k3
                go_loopw [242] (fun i wr => ∃ k : Nat, k ≤ q5.length ∧ i = .int .i64 k ∧ wr = a200) (fun i _ => q5.length - (intOf i).toNat)
                case atStart => exact ⟨0, Nat.zero_le _, rfl, rfl⟩
                case round =>
                  obtain ⟨k, hk, rfl, rfl⟩ := hrel
                  by_cases hlt : k < q5.length
                  · obtain ⟨bq, oq, rfl, hbq, eq1⟩ := (r5_195.2.1.reads).at_ hlt
                    have hmem : gi q5 k ∈ U := HUm.out _ (gi_mem hlt)
                    generalize gi q5 k = X at *
                    go_wp2_with fail
                    refine (pIn_any Uu2 nU cu2 U X _ u2_198.reads (by omega) hmem).mono ?_
                    rintro e w6 ⟨rfl, rfl⟩
                    go_wp2
                    go_roundw
                    case rel => exact ⟨k + 1, by omega, by go_num, by first | rfl | trivial⟩
                    case measure => simp [intOf]; omega
                  · have hlt2 : ¬ k < q5.length := hlt
                    have hZ2 : RY wr Z m := hZ.alt (Alt.of_new (S := fun _ => False) B_199) (fun _ _ _ _ h => h)
                    clear r5_195 e5_196 u1_197 u2_198
                    go_wp2_with fail
                    refine (DrawDepthOf_any Z m d _ hZ2).mono ?_
                    rintro e a201 ⟨⟨x7, y7, g7, q7⟩, A7, ca7, O7, co7, rfl, o7, hng7, hno7, b202⟩
                    dsimp only at o7 hng7 hno7 ⊢
                    clear hZ2
                    have B_203 := B_199.trans (b202.mono B_199.size)
                    clear B_199
                    have al204 : Below a201.heap.size a201 (a201.alloc (.cells #[.int .i64 x7, .int .i64 y7, .slice A7 g7.length ca7, .slice O7 q7.length co7] 27)) := (Below.refl _ _).alloc (Nat.le_refl _) _
                    have z205 : (a201.alloc (.cells #[.int .i64 x7, .int .i64 y7, .slice A7 g7.length ca7, .slice O7 q7.length co7] 27)).heap.size = a201.heap.size + 1 := by simp
                    have e7_206 : BxC (a201.alloc (.cells #[.int .i64 x7, .int .i64 y7, .slice A7 g7.length ca7, .slice O7 q7.length co7] 27)) a201.heap.size x7 y7 A7 g7.length ca7 O7 q7.length co7 := BxC.new _ _
                    have r7_207 := o7.below al204 (.inl (Nat.le_refl _))
                    have B_208 := B_203.trans (al204.mono B_203.size)
                    clear o7 B_203
                    have nq7 : g7.length ≤ 2097152 := by omega
                    have mq7 : q7.length ≤ 2097152 := by omega
                    have hq := e7_206; obtain ⟨k0, k1, k2, k3⟩ := hq
                    go_wp2_with fail
                    generalize (a201.alloc (.cells #[.int .i64 x7, .int .i64 y7, .slice A7 g7.length ca7, .slice O7 q7.length co7] 27)) = a209 at *
                    clear al204
                    refine (DepthOf_any x7 y7 A7 g7.length ca7 O7 q7.length co7 g7 q7 _ ⟨r7_207.1.reads, r7_207.2.1.reads⟩ nq7 mq7).mono ?_
                    rintro e a210 ⟨rfl, b211⟩
                    clear k0 k1 k2 k3
                    have r7_212 := r7_207.below b211 (.inl (Nat.le_refl _))
                    have e7_213 := e7_206.below b211
                    have B_214 := B_208.trans (b211.mono B_208.size)
                    clear r7_207 e7_206 B_208
                    have hq := e7_213; obtain ⟨k0, k1, k2, k3⟩ := hq
                    go_wp2_with fail
                    refine (spec_DepthOf_any x7 y7 A7 g7.length ca7 O7 q7.length co7 g7 q7 _ ⟨r7_212.1.reads, r7_212.2.1.reads⟩ nq7 mq7).mono ?_
                    rintro e a215 ⟨rfl, b216⟩
                    clear k0 k1 k2 k3
                    have r7_217 := r7_212.below b216 (.inl (Nat.le_refl _))
                    have e7_218 := e7_213.below b216
                    have B_219 := B_214.trans (b216.mono B_214.size)
                    clear r7_212 e7_213 B_214
                    have hZ3 : RY a215 Z m := hZ.alt (Alt.of_new (S := fun _ => False) B_219) (fun _ _ _ _ h => h)
                    clear r7_217 e7_218
                    go_wp2_with fail
                    refine (DrawCountGates_any Z m d _ hZ3).mono ?_
                    rintro e a220 ⟨⟨x8, y8, g8, q8⟩, A8, ca8, O8, co8, rfl, o8, hng8, hno8, b221⟩
                    dsimp only at o8 hng8 hno8 ⊢
                    clear hZ3
                    have B_222 := B_219.trans (b221.mono B_219.size)
                    clear B_219
                    have al223 : Below a220.heap.size a220 (a220.alloc (.cells #[.int .i64 x8, .int .i64 y8, .slice A8 g8.length ca8, .slice O8 q8.length co8] 27)) := (Below.refl _ _).alloc (Nat.le_refl _) _
                    have z224 : (a220.alloc (.cells #[.int .i64 x8, .int .i64 y8, .slice A8 g8.length ca8, .slice O8 q8.length co8] 27)).heap.size = a220.heap.size + 1 := by simp
                    have e8_225 : BxC (a220.alloc (.cells #[.int .i64 x8, .int .i64 y8, .slice A8 g8.length ca8, .slice O8 q8.length co8] 27)) a220.heap.size x8 y8 A8 g8.length ca8 O8 q8.length co8 := BxC.new _ _
                    have r8_226 := o8.below al223 (.inl (Nat.le_refl _))
                    have B_227 := B_222.trans (al223.mono B_222.size)
                    clear o8 B_222
                    have nq8 : g8.length ≤ 2097152 := by omega
                    have mq8 : q8.length ≤ 2097152 := by omega
                    have hq := e8_225; obtain ⟨k0, k1, k2, k3⟩ := hq
                    go_wp2_with fail
                    generalize (a220.alloc (.cells #[.int .i64 x8, .int .i64 y8, .slice A8 g8.length ca8, .slice O8 q8.length co8] 27)) = a228 at *
                    clear al223
                    refine (CountGates_any x8 y8 A8 g8.length ca8 O8 q8.length co8 g8 q8 _ ⟨r8_226.1.reads, r8_226.2.1.reads⟩ nq8 mq8).mono ?_
                    rintro e a229 ⟨Tt1, ct1, rfl, ot1, b230⟩
                    clear k0 k1 k2 k3
                    have r8_231 := r8_226.below b230 (.inl (Nat.le_refl _))
                    have e8_232 := e8_225.below b230
                    have B_233 := B_227.trans (b230.mono B_227.size)
                    clear r8_226 e8_225 B_227
                    have hq := e8_232; obtain ⟨k0, k1, k2, k3⟩ := hq
                    go_wp2_with fail
                    refine (spec_CountGates_any x8 y8 A8 g8.length ca8 O8 q8.length co8 g8 q8 _ ⟨r8_231.1.reads, r8_231.2.1.reads⟩ nq8 mq8).mono ?_
                    rintro e a234 ⟨Tt2, ct2, rfl, ot2, b235⟩
                    clear k0 k1 k2 k3
                    have r8_236 := r8_231.below b235 (.inl (Nat.le_refl _))
                    have e8_237 := e8_232.below b235
                    have t1_238 := ot1.below b235 (.inl (Nat.le_refl _))
                    have B_239 := B_233.trans (b235.mono B_233.size)
                    clear r8_231 e8_232 ot1 B_233
                    have hT4 := ctF_len x8 y8 g8 q8
                    go_wp2_with fail
                    refine (sameInts_any Tt1 Tt2 _ ct1 _ ct2 ((ctF x8 y8 g8 q8).getD []) ((ctF x8 y8 g8 q8).getD []) _ t1_238.reads ot2.reads (by omega) (by omega)).mono ?_
                    rintro e a240 ⟨rfl, j8, rfl⟩
                    rw [sameB_refl' _]
                    go_wp2
                    go_ret
                    exact ⟨by simp, below_drewN B_239 j8⟩

end Go.Proofs.Ytgenehiiakdadaa.lawFnShapes
