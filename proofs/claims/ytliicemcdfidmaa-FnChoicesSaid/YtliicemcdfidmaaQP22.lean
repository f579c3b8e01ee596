/- The walk of the law FnChoices: whatever its arguments read as, it returns true and leaves what was there. No condition. -/
import Derived.Test.YtliicemcdfidmaaQP10
import Derived.Test.YtliicemcdfidmaaQP12
import Derived.Test.YtliicemcdfidmaaQP16
import Derived.Test.YtliicemcdfidmaaQP20
import Derived.Test.YtliicemcdfidmaaQP15
import Derived.Test.YtliicemcdfidmaaQP21
import Derived.Test.YtliicemcdfidmaaQP08
namespace Go.Proofs.Ytliicemcdfidmaa.lawFnChoices
open Go.RowKit
set_option linter.unusedVariables false
set_option linter.unusedSimpArgs false
attribute [local go_sem] sepAt sepUpon pureAt pureUpon
theorem open_cs {w w' : World} {C : Ci} {e : Ending} (h : RetC w (some C) e w') : ∃ A c O d, e = .returned (.tuple #[.agg #[.int .i64 C.i0, .int .i64 C.i1, .slice A C.gs.length c, .slice O C.os.length d], .bool true]) ∧ (RG w' A C.gs.length C.gs ∧ RI w' O C.os.length C.os) ∧ Below w.heap.size w w' := by
  obtain ⟨A, c, O, d, h1, h2, h3⟩ := h
  exact ⟨A, c, O, d, h1, ⟨h2.1.reads, h2.2.1.reads⟩, h3⟩
theorem open_cn {w w' : World} {e : Ending} (h : RetC w none e w') : ∃ A c O d, e = .returned (.tuple #[.agg #[.int .i64 0, .int .i64 0, .slice A 0 c, .slice O 0 d], .bool false]) ∧ (RG w' A 0 [] ∧ RI w' O 0 []) ∧ Below w.heap.size w w' := by
  obtain ⟨A, c, O, d, h1, h2, h3⟩ := h
  exact ⟨A, c, O, d, h1, ⟨h2.1.reads, h2.2.1.reads⟩, h3⟩
theorem open_crs {w w' : World} {C : Ci} {e : Ending} (h : RetCr w (some C) e w') : ∃ A c O d, e = .returned (.tuple #[.agg #[.int .i64 C.i0, .int .i64 C.i1, .slice A C.gs.length c, .slice O C.os.length d], .bool true]) ∧ (RG w' A C.gs.length C.gs ∧ RI w' O C.os.length C.os) ∧ Below w.heap.size w w' := by
  obtain ⟨A, c, O, d, h1, h2, h3⟩ := h
  exact ⟨A, c, O, d, h1, ⟨h2.1.reads, h2.2.1⟩, h3⟩
theorem open_crn {w w' : World} {e : Ending} (h : RetCr w none e w') : ∃ A c O d, e = .returned (.tuple #[.agg #[.int .i64 0, .int .i64 0, .slice A 0 c, .slice O 0 d], .bool false]) ∧ (RG w' A 0 [] ∧ RI w' O 0 []) ∧ Below w.heap.size w w' := by
  obtain ⟨A, c, O, d, h1, h2, h3⟩ := h
  exact ⟨A, c, O, d, h1, ⟨h2.1.reads, h2.2.1⟩, h3⟩
theorem rd_drewN {w : World} {A O : Option Addr} {n m : Nat} {gs : List G3} {os : List Int} (h : RG w A n gs ∧ RI w O m os) (j : Nat) : RG (w.drewN j) A n gs ∧ RI (w.drewN j) O m os := h
theorem w64_id (n : Int) (h : -9223372036854775808 ≤ n ∧ n ≤ 9223372036854775807) : wrap64 n = n := by unfold wrap64; omega
theorem sb_lt {U V k : Nat} (hu : U < 2 ^ k) (hv : V < 2 ^ k) : U + V * 2 ^ k < 2 ^ (2 * k) := by
  have h7 : V * 2 ^ k + 2 ^ k ≤ 2 ^ k * 2 ^ k := by rw [← Nat.succ_mul]; exact Nat.mul_le_mul_right _ hv
  rw [show 2 * k = k + k by omega, Nat.pow_add]; omega
theorem sw_id {U V N : Nat} (hu : U < N) (hv : V < N) (hN : N ≤ 256) : wrap64 ((U : Int) + wrap64 ((V : Int) * N)) = ((U + V * N : Nat) : Int) := by
  have h5 : V * N ≤ 256 * 256 := Nat.mul_le_mul (by omega) hN
  have h6 : (V : Int) * N = ((V * N : Nat) : Int) := by simp
  rw [h6]
  clear h6
  generalize V * N = P at *
  rw [w64_id (P : Int) (by omega), w64_id _ (by omega)]
  omega
structure GOk (x y : Int) (G : Go2) : Prop where
  c : circB x y G.g G.o = true
  o : G.o.length ≤ 16
set_option maxRecDepth 100000 in
set_option maxHeartbeats 8000000 in
theorem walk (Y : Option Addr) (n c : Nat) (Z : Option Addr) (m d : Nat) (w : World) (hY0 : RY0 w Y n) (hn : n ≤ 140737488355328) (hZ0 : RY0 w Z m) (hm : m ≤ 140737488355328) :
    Calls Try.prog 3 #[.slice Y n c, .slice Z m d] w fun e w' => e = .returned (.bool true) ∧ Below w.heap.size w w' := by
  cases hs : bigB n m with
  | true =>
    have hs1 := Lib.hid hs; clear hs
    go_enter Try.func3, Try.ntmps3
    go_wp2_with fail
    refine (big_any Y Z n c m d _ hn hm).mono ?_
    rintro e a1 ⟨rfl, rfl⟩
    rw [hs1.out]
    go_wp2
    go_ret
    exact ⟨rfl, Below.refl _ _⟩
  | false =>
    have hnm : n + m ≤ 1048576 := by have h := of_decide_eq_false hs; omega
    have hs1 := Lib.hid hs; clear hs
    have hY : RY w Y n := hY0.ry (by omega)
    have hZ : RY w Z m := hZ0.ry (by omega)
    go_enter Try.func3, Try.ntmps3
    go_wp2_with fail
    refine (big_any Y Z n c m d _ hn hm).mono ?_
    rintro e a1 ⟨rfl, rfl⟩
    rw [hs1.out]
    clear hs1
    go_wp2_with fail
    refine (DrawGreatestCircuit_any Y n c w hY).mono ?_
    rintro e a1 ⟨a, ha1, ha2, rfl, b2⟩
    clear hY hY0
    have B_3 := b2
    cases h0 : inB 1 8 a with
    | false =>
        have HR1 : Hid (gadF greatestG 8 a = none) := Lib.hid (by simp [gadF, h0])
        have HR3 : Hid (gadF lessG 8 a = none) := Lib.hid (by simp [gadF, h0])
        have HR5 : Hid (gadF equalG 8 a = none) := Lib.hid (by simp [gadF, h0])
        have HR7 : Hid (chooseF a = none) := Lib.hid (by simp [chooseF, h0])
        clear h0
        go_wp2_with fail
        have q6 := GreatestCircuit_any a a1
        rw [HR1.out] at q6
        refine q6.mono ?_
        clear q6
        rintro e a4 hT
        obtain ⟨A1, ca1, O1, co1, rfl, r1, b1⟩ := open_cn hT
        clear hT
        have B_7 := B_3.trans (b1.mono B_3.size)
        clear B_3
        clear b1
        have al8 : Below a4.heap.size a4 (a4.alloc (.cells #[.int .i64 0, .int .i64 0, .slice A1 0 ca1, .slice O1 0 co1] 28)) := (Below.refl _ _).alloc (Nat.le_refl _) _
        have z9 : (a4.alloc (.cells #[.int .i64 0, .int .i64 0, .slice A1 0 ca1, .slice O1 0 co1] 28)).heap.size = a4.heap.size + 1 := by simp
        have p1_10 : BxC (a4.alloc (.cells #[.int .i64 0, .int .i64 0, .slice A1 0 ca1, .slice O1 0 co1] 28)) a4.heap.size 0 0 A1 0 ca1 O1 0 co1 := BxC.new _ _
        have r1_11 := And.intro (r1.1.below al8 (Nat.le_refl _)) (r1.2.below al8 (Nat.le_refl _))
        have B_12 := B_7.trans (al8.mono B_7.size)
        clear r1 B_7
        go_wp2_with fail
        generalize (a4.alloc (.cells #[.int .i64 0, .int .i64 0, .slice A1 0 ca1, .slice O1 0 co1] 28)) = a13 at *
        clear al8
        have q16 := spec_GreatestCircuit_any a a13
        rw [HR1.out] at q16
        refine q16.mono ?_
        clear q16
        rintro e a14 hT
        obtain ⟨A2, ca2, O2, co2, rfl, r2, b2⟩ := open_cn hT
        clear hT
        have r1_17 := And.intro (r1_11.1.below b2 (Nat.le_refl _)) (r1_11.2.below b2 (Nat.le_refl _))
        have p1_18 := p1_10.below b2
        have B_19 := B_12.trans (b2.mono B_12.size)
        clear r1_11 p1_10 B_12
        clear b2
        have al20 : Below a14.heap.size a14 (a14.alloc (.cells #[.int .i64 0, .int .i64 0, .slice A2 0 ca2, .slice O2 0 co2] 28)) := (Below.refl _ _).alloc (Nat.le_refl _) _
        have z21 : (a14.alloc (.cells #[.int .i64 0, .int .i64 0, .slice A2 0 ca2, .slice O2 0 co2] 28)).heap.size = a14.heap.size + 1 := by simp
        have p2_22 : BxC (a14.alloc (.cells #[.int .i64 0, .int .i64 0, .slice A2 0 ca2, .slice O2 0 co2] 28)) a14.heap.size 0 0 A2 0 ca2 O2 0 co2 := BxC.new _ _
        have r1_23 := And.intro (r1_17.1.below al20 (Nat.le_refl _)) (r1_17.2.below al20 (Nat.le_refl _))
        have p1_24 := p1_18.below al20
        have r2_25 := And.intro (r2.1.below al20 (Nat.le_refl _)) (r2.2.below al20 (Nat.le_refl _))
        have B_26 := B_19.trans (al20.mono B_19.size)
        clear r1_17 p1_18 r2 B_19
        go_wp2_with fail
        generalize (a14.alloc (.cells #[.int .i64 0, .int .i64 0, .slice A2 0 ca2, .slice O2 0 co2] 28)) = a27 at *
        clear al20
        have q30 := LessCircuit_any a a27
        rw [HR3.out] at q30
        refine q30.mono ?_
        clear q30
        rintro e a28 hT
        obtain ⟨A3, ca3, O3, co3, rfl, r3, b3⟩ := open_cn hT
        clear hT
        have r1_31 := And.intro (r1_23.1.below b3 (Nat.le_refl _)) (r1_23.2.below b3 (Nat.le_refl _))
        have p1_32 := p1_24.below b3
        have r2_33 := And.intro (r2_25.1.below b3 (Nat.le_refl _)) (r2_25.2.below b3 (Nat.le_refl _))
        have p2_34 := p2_22.below b3
        have B_35 := B_26.trans (b3.mono B_26.size)
        clear r1_23 p1_24 r2_25 p2_22 B_26
        clear b3
        have al36 : Below a28.heap.size a28 (a28.alloc (.cells #[.int .i64 0, .int .i64 0, .slice A3 0 ca3, .slice O3 0 co3] 28)) := (Below.refl _ _).alloc (Nat.le_refl _) _
        have z37 : (a28.alloc (.cells #[.int .i64 0, .int .i64 0, .slice A3 0 ca3, .slice O3 0 co3] 28)).heap.size = a28.heap.size + 1 := by simp
        have p3_38 : BxC (a28.alloc (.cells #[.int .i64 0, .int .i64 0, .slice A3 0 ca3, .slice O3 0 co3] 28)) a28.heap.size 0 0 A3 0 ca3 O3 0 co3 := BxC.new _ _
        have r1_39 := And.intro (r1_31.1.below al36 (Nat.le_refl _)) (r1_31.2.below al36 (Nat.le_refl _))
        have p1_40 := p1_32.below al36
        have r2_41 := And.intro (r2_33.1.below al36 (Nat.le_refl _)) (r2_33.2.below al36 (Nat.le_refl _))
        have p2_42 := p2_34.below al36
        have r3_43 := And.intro (r3.1.below al36 (Nat.le_refl _)) (r3.2.below al36 (Nat.le_refl _))
        have B_44 := B_35.trans (al36.mono B_35.size)
        clear r1_31 p1_32 r2_33 p2_34 r3 B_35
        go_wp2_with fail
        generalize (a28.alloc (.cells #[.int .i64 0, .int .i64 0, .slice A3 0 ca3, .slice O3 0 co3] 28)) = a45 at *
        clear al36
        have q48 := spec_LessCircuit_any a a45
        rw [HR3.out] at q48
        refine q48.mono ?_
        clear q48
        rintro e a46 hT
        obtain ⟨A4, ca4, O4, co4, rfl, r4, b4⟩ := open_crn hT
        clear hT
        have r1_49 := And.intro (r1_39.1.below b4 (Nat.le_refl _)) (r1_39.2.below b4 (Nat.le_refl _))
        have p1_50 := p1_40.below b4
        have r2_51 := And.intro (r2_41.1.below b4 (Nat.le_refl _)) (r2_41.2.below b4 (Nat.le_refl _))
        have p2_52 := p2_42.below b4
        have r3_53 := And.intro (r3_43.1.below b4 (Nat.le_refl _)) (r3_43.2.below b4 (Nat.le_refl _))
        have p3_54 := p3_38.below b4
        have B_55 := B_44.trans (b4.mono B_44.size)
        clear r1_39 p1_40 r2_41 p2_42 r3_43 p3_38 B_44
        clear b4
        have al56 : Below a46.heap.size a46 (a46.alloc (.cells #[.int .i64 0, .int .i64 0, .slice A4 0 ca4, .slice O4 0 co4] 28)) := (Below.refl _ _).alloc (Nat.le_refl _) _
        have z57 : (a46.alloc (.cells #[.int .i64 0, .int .i64 0, .slice A4 0 ca4, .slice O4 0 co4] 28)).heap.size = a46.heap.size + 1 := by simp
        have p4_58 : BxC (a46.alloc (.cells #[.int .i64 0, .int .i64 0, .slice A4 0 ca4, .slice O4 0 co4] 28)) a46.heap.size 0 0 A4 0 ca4 O4 0 co4 := BxC.new _ _
        have r1_59 := And.intro (r1_49.1.below al56 (Nat.le_refl _)) (r1_49.2.below al56 (Nat.le_refl _))
        have p1_60 := p1_50.below al56
        have r2_61 := And.intro (r2_51.1.below al56 (Nat.le_refl _)) (r2_51.2.below al56 (Nat.le_refl _))
        have p2_62 := p2_52.below al56
        have r3_63 := And.intro (r3_53.1.below al56 (Nat.le_refl _)) (r3_53.2.below al56 (Nat.le_refl _))
        have p3_64 := p3_54.below al56
        have r4_65 := And.intro (r4.1.below al56 (Nat.le_refl _)) (r4.2.below al56 (Nat.le_refl _))
        have B_66 := B_55.trans (al56.mono B_55.size)
        clear r1_49 p1_50 r2_51 p2_52 r3_53 p3_54 r4 B_55
        go_wp2_with fail
        generalize (a46.alloc (.cells #[.int .i64 0, .int .i64 0, .slice A4 0 ca4, .slice O4 0 co4] 28)) = a67 at *
        clear al56
        have q70 := EqualCircuit_any a a67
        rw [HR5.out] at q70
        refine q70.mono ?_
        clear q70
        rintro e a68 hT
        obtain ⟨A5, ca5, O5, co5, rfl, r5, b5⟩ := open_cn hT
        clear hT
        have r1_71 := And.intro (r1_59.1.below b5 (Nat.le_refl _)) (r1_59.2.below b5 (Nat.le_refl _))
        have p1_72 := p1_60.below b5
        have r2_73 := And.intro (r2_61.1.below b5 (Nat.le_refl _)) (r2_61.2.below b5 (Nat.le_refl _))
        have p2_74 := p2_62.below b5
        have r3_75 := And.intro (r3_63.1.below b5 (Nat.le_refl _)) (r3_63.2.below b5 (Nat.le_refl _))
        have p3_76 := p3_64.below b5
        have r4_77 := And.intro (r4_65.1.below b5 (Nat.le_refl _)) (r4_65.2.below b5 (Nat.le_refl _))
        have p4_78 := p4_58.below b5
        have B_79 := B_66.trans (b5.mono B_66.size)
        clear r1_59 p1_60 r2_61 p2_62 r3_63 p3_64 r4_65 p4_58 B_66
        clear b5
        have al80 : Below a68.heap.size a68 (a68.alloc (.cells #[.int .i64 0, .int .i64 0, .slice A5 0 ca5, .slice O5 0 co5] 28)) := (Below.refl _ _).alloc (Nat.le_refl _) _
        have z81 : (a68.alloc (.cells #[.int .i64 0, .int .i64 0, .slice A5 0 ca5, .slice O5 0 co5] 28)).heap.size = a68.heap.size + 1 := by simp
        have p5_82 : BxC (a68.alloc (.cells #[.int .i64 0, .int .i64 0, .slice A5 0 ca5, .slice O5 0 co5] 28)) a68.heap.size 0 0 A5 0 ca5 O5 0 co5 := BxC.new _ _
        have r1_83 := And.intro (r1_71.1.below al80 (Nat.le_refl _)) (r1_71.2.below al80 (Nat.le_refl _))
        have p1_84 := p1_72.below al80
        have r2_85 := And.intro (r2_73.1.below al80 (Nat.le_refl _)) (r2_73.2.below al80 (Nat.le_refl _))
        have p2_86 := p2_74.below al80
        have r3_87 := And.intro (r3_75.1.below al80 (Nat.le_refl _)) (r3_75.2.below al80 (Nat.le_refl _))
        have p3_88 := p3_76.below al80
        have r4_89 := And.intro (r4_77.1.below al80 (Nat.le_refl _)) (r4_77.2.below al80 (Nat.le_refl _))
        have p4_90 := p4_78.below al80
        have r5_91 := And.intro (r5.1.below al80 (Nat.le_refl _)) (r5.2.below al80 (Nat.le_refl _))
        have B_92 := B_79.trans (al80.mono B_79.size)
        clear r1_71 p1_72 r2_73 p2_74 r3_75 p3_76 r4_77 p4_78 r5 B_79
        go_wp2_with fail
        generalize (a68.alloc (.cells #[.int .i64 0, .int .i64 0, .slice A5 0 ca5, .slice O5 0 co5] 28)) = a93 at *
        clear al80
        have q96 := spec_EqualCircuit_any a a93
        rw [HR5.out] at q96
        refine q96.mono ?_
        clear q96
        rintro e a94 hT
        obtain ⟨A6, ca6, O6, co6, rfl, r6, b6⟩ := open_cn hT
        clear hT
        have r1_97 := And.intro (r1_83.1.below b6 (Nat.le_refl _)) (r1_83.2.below b6 (Nat.le_refl _))
        have p1_98 := p1_84.below b6
        have r2_99 := And.intro (r2_85.1.below b6 (Nat.le_refl _)) (r2_85.2.below b6 (Nat.le_refl _))
        have p2_100 := p2_86.below b6
        have r3_101 := And.intro (r3_87.1.below b6 (Nat.le_refl _)) (r3_87.2.below b6 (Nat.le_refl _))
        have p3_102 := p3_88.below b6
        have r4_103 := And.intro (r4_89.1.below b6 (Nat.le_refl _)) (r4_89.2.below b6 (Nat.le_refl _))
        have p4_104 := p4_90.below b6
        have r5_105 := And.intro (r5_91.1.below b6 (Nat.le_refl _)) (r5_91.2.below b6 (Nat.le_refl _))
        have p5_106 := p5_82.below b6
        have B_107 := B_92.trans (b6.mono B_92.size)
        clear r1_83 p1_84 r2_85 p2_86 r3_87 p3_88 r4_89 p4_90 r5_91 p5_82 B_92
        clear b6
        have al108 : Below a94.heap.size a94 (a94.alloc (.cells #[.int .i64 0, .int .i64 0, .slice A6 0 ca6, .slice O6 0 co6] 28)) := (Below.refl _ _).alloc (Nat.le_refl _) _
        have z109 : (a94.alloc (.cells #[.int .i64 0, .int .i64 0, .slice A6 0 ca6, .slice O6 0 co6] 28)).heap.size = a94.heap.size + 1 := by simp
        have p6_110 : BxC (a94.alloc (.cells #[.int .i64 0, .int .i64 0, .slice A6 0 ca6, .slice O6 0 co6] 28)) a94.heap.size 0 0 A6 0 ca6 O6 0 co6 := BxC.new _ _
        have r1_111 := And.intro (r1_97.1.below al108 (Nat.le_refl _)) (r1_97.2.below al108 (Nat.le_refl _))
        have p1_112 := p1_98.below al108
        have r2_113 := And.intro (r2_99.1.below al108 (Nat.le_refl _)) (r2_99.2.below al108 (Nat.le_refl _))
        have p2_114 := p2_100.below al108
        have r3_115 := And.intro (r3_101.1.below al108 (Nat.le_refl _)) (r3_101.2.below al108 (Nat.le_refl _))
        have p3_116 := p3_102.below al108
        have r4_117 := And.intro (r4_103.1.below al108 (Nat.le_refl _)) (r4_103.2.below al108 (Nat.le_refl _))
        have p4_118 := p4_104.below al108
        have r5_119 := And.intro (r5_105.1.below al108 (Nat.le_refl _)) (r5_105.2.below al108 (Nat.le_refl _))
        have p5_120 := p5_106.below al108
        have r6_121 := And.intro (r6.1.below al108 (Nat.le_refl _)) (r6.2.below al108 (Nat.le_refl _))
        have B_122 := B_107.trans (al108.mono B_107.size)
        clear r1_97 p1_98 r2_99 p2_100 r3_101 p3_102 r4_103 p4_104 r5_105 p5_106 r6 B_107
        go_wp2_with fail
        generalize (a94.alloc (.cells #[.int .i64 0, .int .i64 0, .slice A6 0 ca6, .slice O6 0 co6] 28)) = a123 at *
        clear al108
        have q126 := ChooseCircuit_any a a123
        rw [HR7.out] at q126
        refine q126.mono ?_
        clear q126
        rintro e a124 hT
        obtain ⟨A7, ca7, O7, co7, rfl, r7, b7⟩ := open_cn hT
        clear hT
        have r1_127 := And.intro (r1_111.1.below b7 (Nat.le_refl _)) (r1_111.2.below b7 (Nat.le_refl _))
        have p1_128 := p1_112.below b7
        have r2_129 := And.intro (r2_113.1.below b7 (Nat.le_refl _)) (r2_113.2.below b7 (Nat.le_refl _))
        have p2_130 := p2_114.below b7
        have r3_131 := And.intro (r3_115.1.below b7 (Nat.le_refl _)) (r3_115.2.below b7 (Nat.le_refl _))
        have p3_132 := p3_116.below b7
        have r4_133 := And.intro (r4_117.1.below b7 (Nat.le_refl _)) (r4_117.2.below b7 (Nat.le_refl _))
        have p4_134 := p4_118.below b7
        have r5_135 := And.intro (r5_119.1.below b7 (Nat.le_refl _)) (r5_119.2.below b7 (Nat.le_refl _))
        have p5_136 := p5_120.below b7
        have r6_137 := And.intro (r6_121.1.below b7 (Nat.le_refl _)) (r6_121.2.below b7 (Nat.le_refl _))
        have p6_138 := p6_110.below b7
        have B_139 := B_122.trans (b7.mono B_122.size)
        clear r1_111 p1_112 r2_113 p2_114 r3_115 p3_116 r4_117 p4_118 r5_119 p5_120 r6_121 p6_110 B_122
        clear b7
        have al140 : Below a124.heap.size a124 (a124.alloc (.cells #[.int .i64 0, .int .i64 0, .slice A7 0 ca7, .slice O7 0 co7] 28)) := (Below.refl _ _).alloc (Nat.le_refl _) _
        have z141 : (a124.alloc (.cells #[.int .i64 0, .int .i64 0, .slice A7 0 ca7, .slice O7 0 co7] 28)).heap.size = a124.heap.size + 1 := by simp
        have p7_142 : BxC (a124.alloc (.cells #[.int .i64 0, .int .i64 0, .slice A7 0 ca7, .slice O7 0 co7] 28)) a124.heap.size 0 0 A7 0 ca7 O7 0 co7 := BxC.new _ _
        have r1_143 := And.intro (r1_127.1.below al140 (Nat.le_refl _)) (r1_127.2.below al140 (Nat.le_refl _))
        have p1_144 := p1_128.below al140
        have r2_145 := And.intro (r2_129.1.below al140 (Nat.le_refl _)) (r2_129.2.below al140 (Nat.le_refl _))
        have p2_146 := p2_130.below al140
        have r3_147 := And.intro (r3_131.1.below al140 (Nat.le_refl _)) (r3_131.2.below al140 (Nat.le_refl _))
        have p3_148 := p3_132.below al140
        have r4_149 := And.intro (r4_133.1.below al140 (Nat.le_refl _)) (r4_133.2.below al140 (Nat.le_refl _))
        have p4_150 := p4_134.below al140
        have r5_151 := And.intro (r5_135.1.below al140 (Nat.le_refl _)) (r5_135.2.below al140 (Nat.le_refl _))
        have p5_152 := p5_136.below al140
        have r6_153 := And.intro (r6_137.1.below al140 (Nat.le_refl _)) (r6_137.2.below al140 (Nat.le_refl _))
        have p6_154 := p6_138.below al140
        have r7_155 := And.intro (r7.1.below al140 (Nat.le_refl _)) (r7.2.below al140 (Nat.le_refl _))
        have B_156 := B_139.trans (al140.mono B_139.size)
        clear r1_127 p1_128 r2_129 p2_130 r3_131 p3_132 r4_133 p4_134 r5_135 p5_136 r6_137 p6_138 r7 B_139
        go_wp2_with fail
        generalize (a124.alloc (.cells #[.int .i64 0, .int .i64 0, .slice A7 0 ca7, .slice O7 0 co7] 28)) = a157 at *
        clear al140
        have q160 := spec_ChooseCircuit_any a a157
        rw [HR7.out] at q160
        refine q160.mono ?_
        clear q160
        rintro e a158 hT
        obtain ⟨A8, ca8, O8, co8, rfl, r8, b8⟩ := open_cn hT
        clear hT
        have r1_161 := And.intro (r1_143.1.below b8 (Nat.le_refl _)) (r1_143.2.below b8 (Nat.le_refl _))
        have p1_162 := p1_144.below b8
        have r2_163 := And.intro (r2_145.1.below b8 (Nat.le_refl _)) (r2_145.2.below b8 (Nat.le_refl _))
        have p2_164 := p2_146.below b8
        have r3_165 := And.intro (r3_147.1.below b8 (Nat.le_refl _)) (r3_147.2.below b8 (Nat.le_refl _))
        have p3_166 := p3_148.below b8
        have r4_167 := And.intro (r4_149.1.below b8 (Nat.le_refl _)) (r4_149.2.below b8 (Nat.le_refl _))
        have p4_168 := p4_150.below b8
        have r5_169 := And.intro (r5_151.1.below b8 (Nat.le_refl _)) (r5_151.2.below b8 (Nat.le_refl _))
        have p5_170 := p5_152.below b8
        have r6_171 := And.intro (r6_153.1.below b8 (Nat.le_refl _)) (r6_153.2.below b8 (Nat.le_refl _))
        have p6_172 := p6_154.below b8
        have r7_173 := And.intro (r7_155.1.below b8 (Nat.le_refl _)) (r7_155.2.below b8 (Nat.le_refl _))
        have p7_174 := p7_142.below b8
        have B_175 := B_156.trans (b8.mono B_156.size)
        clear r1_143 p1_144 r2_145 p2_146 r3_147 p3_148 r4_149 p4_150 r5_151 p5_152 r6_153 p6_154 r7_155 p7_142 B_156
        clear b8
        have al176 : Below a158.heap.size a158 (a158.alloc (.cells #[.int .i64 0, .int .i64 0, .slice A8 0 ca8, .slice O8 0 co8] 28)) := (Below.refl _ _).alloc (Nat.le_refl _) _
        have z177 : (a158.alloc (.cells #[.int .i64 0, .int .i64 0, .slice A8 0 ca8, .slice O8 0 co8] 28)).heap.size = a158.heap.size + 1 := by simp
        have p8_178 : BxC (a158.alloc (.cells #[.int .i64 0, .int .i64 0, .slice A8 0 ca8, .slice O8 0 co8] 28)) a158.heap.size 0 0 A8 0 ca8 O8 0 co8 := BxC.new _ _
        have r1_179 := And.intro (r1_161.1.below al176 (Nat.le_refl _)) (r1_161.2.below al176 (Nat.le_refl _))
        have p1_180 := p1_162.below al176
        have r2_181 := And.intro (r2_163.1.below al176 (Nat.le_refl _)) (r2_163.2.below al176 (Nat.le_refl _))
        have p2_182 := p2_164.below al176
        have r3_183 := And.intro (r3_165.1.below al176 (Nat.le_refl _)) (r3_165.2.below al176 (Nat.le_refl _))
        have p3_184 := p3_166.below al176
        have r4_185 := And.intro (r4_167.1.below al176 (Nat.le_refl _)) (r4_167.2.below al176 (Nat.le_refl _))
        have p4_186 := p4_168.below al176
        have r5_187 := And.intro (r5_169.1.below al176 (Nat.le_refl _)) (r5_169.2.below al176 (Nat.le_refl _))
        have p5_188 := p5_170.below al176
        have r6_189 := And.intro (r6_171.1.below al176 (Nat.le_refl _)) (r6_171.2.below al176 (Nat.le_refl _))
        have p6_190 := p6_172.below al176
        have r7_191 := And.intro (r7_173.1.below al176 (Nat.le_refl _)) (r7_173.2.below al176 (Nat.le_refl _))
        have p7_192 := p7_174.below al176
        have r8_193 := And.intro (r8.1.below al176 (Nat.le_refl _)) (r8.2.below al176 (Nat.le_refl _))
        have B_194 := B_175.trans (al176.mono B_175.size)
        clear r1_161 p1_162 r2_163 p2_164 r3_165 p3_166 r4_167 p4_168 r5_169 p5_170 r6_171 p6_172 r7_173 p7_174 r8 B_175
        have hq := p1_180; obtain ⟨k0, k1, k2, k3⟩ := hq
        have hq := p2_182; obtain ⟨m0, m1, m2, m3⟩ := hq
        go_wp2_with fail
        generalize (a158.alloc (.cells #[.int .i64 0, .int .i64 0, .slice A8 0 ca8, .slice O8 0 co8] 28)) = a195 at *
        clear al176
        refine (pSameCircuit_any 0 0 A1 A2 0 ca1 ca2 O1 O2 0 co1 co2 [] [] _ r1_179 r2_181 (by omega) (by omega)).mono ?_
        rintro e a196 ⟨rfl, b197⟩
        clear k0 k1 k2 k3 m0 m1 m2 m3
        have r1_198 := And.intro (r1_179.1.below b197 (Nat.le_refl _)) (r1_179.2.below b197 (Nat.le_refl _))
        have p1_199 := p1_180.below b197
        have r2_200 := And.intro (r2_181.1.below b197 (Nat.le_refl _)) (r2_181.2.below b197 (Nat.le_refl _))
        have p2_201 := p2_182.below b197
        have r3_202 := And.intro (r3_183.1.below b197 (Nat.le_refl _)) (r3_183.2.below b197 (Nat.le_refl _))
        have p3_203 := p3_184.below b197
        have r4_204 := And.intro (r4_185.1.below b197 (Nat.le_refl _)) (r4_185.2.below b197 (Nat.le_refl _))
        have p4_205 := p4_186.below b197
        have r5_206 := And.intro (r5_187.1.below b197 (Nat.le_refl _)) (r5_187.2.below b197 (Nat.le_refl _))
        have p5_207 := p5_188.below b197
        have r6_208 := And.intro (r6_189.1.below b197 (Nat.le_refl _)) (r6_189.2.below b197 (Nat.le_refl _))
        have p6_209 := p6_190.below b197
        have r7_210 := And.intro (r7_191.1.below b197 (Nat.le_refl _)) (r7_191.2.below b197 (Nat.le_refl _))
        have p7_211 := p7_192.below b197
        have r8_212 := And.intro (r8_193.1.below b197 (Nat.le_refl _)) (r8_193.2.below b197 (Nat.le_refl _))
        have p8_213 := p8_178.below b197
        have B_214 := B_194.trans (b197.mono B_194.size)
        clear r1_179 p1_180 r2_181 p2_182 r3_183 p3_184 r4_185 p4_186 r5_187 p5_188 r6_189 p6_190 r7_191 p7_192 r8_193 p8_178 B_194
        have hq := p3_203; obtain ⟨k0, k1, k2, k3⟩ := hq
        have hq := p4_205; obtain ⟨m0, m1, m2, m3⟩ := hq
        go_wp2_with fail
        refine (pSameCircuit_any 0 0 A3 A4 0 ca3 ca4 O3 O4 0 co3 co4 [] [] _ r3_202 r4_204 (by omega) (by omega)).mono ?_
        rintro e a215 ⟨rfl, b216⟩
        clear k0 k1 k2 k3 m0 m1 m2 m3
        have r1_217 := And.intro (r1_198.1.below b216 (Nat.le_refl _)) (r1_198.2.below b216 (Nat.le_refl _))
        have p1_218 := p1_199.below b216
        have r2_219 := And.intro (r2_200.1.below b216 (Nat.le_refl _)) (r2_200.2.below b216 (Nat.le_refl _))
        have p2_220 := p2_201.below b216
        have r3_221 := And.intro (r3_202.1.below b216 (Nat.le_refl _)) (r3_202.2.below b216 (Nat.le_refl _))
        have p3_222 := p3_203.below b216
        have r4_223 := And.intro (r4_204.1.below b216 (Nat.le_refl _)) (r4_204.2.below b216 (Nat.le_refl _))
        have p4_224 := p4_205.below b216
        have r5_225 := And.intro (r5_206.1.below b216 (Nat.le_refl _)) (r5_206.2.below b216 (Nat.le_refl _))
        have p5_226 := p5_207.below b216
        have r6_227 := And.intro (r6_208.1.below b216 (Nat.le_refl _)) (r6_208.2.below b216 (Nat.le_refl _))
        have p6_228 := p6_209.below b216
        have r7_229 := And.intro (r7_210.1.below b216 (Nat.le_refl _)) (r7_210.2.below b216 (Nat.le_refl _))
        have p7_230 := p7_211.below b216
        have r8_231 := And.intro (r8_212.1.below b216 (Nat.le_refl _)) (r8_212.2.below b216 (Nat.le_refl _))
        have p8_232 := p8_213.below b216
        have B_233 := B_214.trans (b216.mono B_214.size)
        clear r1_198 p1_199 r2_200 p2_201 r3_202 p3_203 r4_204 p4_205 r5_206 p5_207 r6_208 p6_209 r7_210 p7_211 r8_212 p8_213 B_214
        have hq := p5_226; obtain ⟨k0, k1, k2, k3⟩ := hq
        have hq := p6_228; obtain ⟨m0, m1, m2, m3⟩ := hq
        go_wp2_with fail
        refine (pSameCircuit_any 0 0 A5 A6 0 ca5 ca6 O5 O6 0 co5 co6 [] [] _ r5_225 r6_227 (by omega) (by omega)).mono ?_
        rintro e a234 ⟨rfl, b235⟩
        clear k0 k1 k2 k3 m0 m1 m2 m3
        have r1_236 := And.intro (r1_217.1.below b235 (Nat.le_refl _)) (r1_217.2.below b235 (Nat.le_refl _))
        have p1_237 := p1_218.below b235
        have r2_238 := And.intro (r2_219.1.below b235 (Nat.le_refl _)) (r2_219.2.below b235 (Nat.le_refl _))
        have p2_239 := p2_220.below b235
        have r3_240 := And.intro (r3_221.1.below b235 (Nat.le_refl _)) (r3_221.2.below b235 (Nat.le_refl _))
        have p3_241 := p3_222.below b235
        have r4_242 := And.intro (r4_223.1.below b235 (Nat.le_refl _)) (r4_223.2.below b235 (Nat.le_refl _))
        have p4_243 := p4_224.below b235
        have r5_244 := And.intro (r5_225.1.below b235 (Nat.le_refl _)) (r5_225.2.below b235 (Nat.le_refl _))
        have p5_245 := p5_226.below b235
        have r6_246 := And.intro (r6_227.1.below b235 (Nat.le_refl _)) (r6_227.2.below b235 (Nat.le_refl _))
        have p6_247 := p6_228.below b235
        have r7_248 := And.intro (r7_229.1.below b235 (Nat.le_refl _)) (r7_229.2.below b235 (Nat.le_refl _))
        have p7_249 := p7_230.below b235
        have r8_250 := And.intro (r8_231.1.below b235 (Nat.le_refl _)) (r8_231.2.below b235 (Nat.le_refl _))
        have p8_251 := p8_232.below b235
        have B_252 := B_233.trans (b235.mono B_233.size)
        clear r1_217 p1_218 r2_219 p2_220 r3_221 p3_222 r4_223 p4_224 r5_225 p5_226 r6_227 p6_228 r7_229 p7_230 r8_231 p8_232 B_233
        have hq := p7_249; obtain ⟨k0, k1, k2, k3⟩ := hq
        have hq := p8_251; obtain ⟨m0, m1, m2, m3⟩ := hq
        go_wp2_with fail
        refine (pSameCircuit_any 0 0 A7 A8 0 ca7 ca8 O7 O8 0 co7 co8 [] [] _ r7_248 r8_250 (by omega) (by omega)).mono ?_
        rintro e a253 ⟨rfl, b254⟩
        clear k0 k1 k2 k3 m0 m1 m2 m3
        have r1_255 := And.intro (r1_236.1.below b254 (Nat.le_refl _)) (r1_236.2.below b254 (Nat.le_refl _))
        have p1_256 := p1_237.below b254
        have r2_257 := And.intro (r2_238.1.below b254 (Nat.le_refl _)) (r2_238.2.below b254 (Nat.le_refl _))
        have p2_258 := p2_239.below b254
        have r3_259 := And.intro (r3_240.1.below b254 (Nat.le_refl _)) (r3_240.2.below b254 (Nat.le_refl _))
        have p3_260 := p3_241.below b254
        have r4_261 := And.intro (r4_242.1.below b254 (Nat.le_refl _)) (r4_242.2.below b254 (Nat.le_refl _))
        have p4_262 := p4_243.below b254
        have r5_263 := And.intro (r5_244.1.below b254 (Nat.le_refl _)) (r5_244.2.below b254 (Nat.le_refl _))
        have p5_264 := p5_245.below b254
        have r6_265 := And.intro (r6_246.1.below b254 (Nat.le_refl _)) (r6_246.2.below b254 (Nat.le_refl _))
        have p6_266 := p6_247.below b254
        have r7_267 := And.intro (r7_248.1.below b254 (Nat.le_refl _)) (r7_248.2.below b254 (Nat.le_refl _))
        have p7_268 := p7_249.below b254
        have r8_269 := And.intro (r8_250.1.below b254 (Nat.le_refl _)) (r8_250.2.below b254 (Nat.le_refl _))
        have p8_270 := p8_251.below b254
        have B_271 := B_252.trans (b254.mono B_252.size)
        clear r1_236 p1_237 r2_238 p2_239 r3_240 p3_241 r4_242 p4_243 r5_244 p5_245 r6_246 p6_247 r7_248 p7_249 r8_250 p8_251 B_252
        go_wp2_with fail
        clear r1_255
        clear p1_256
        clear r2_257
        clear p2_258
        clear r3_259
        clear p3_260
        clear r4_261
        clear p4_262
        clear r5_263
        clear p5_264
        clear r6_265
        clear p6_266
        clear r7_267
        clear p7_268
        clear r8_269
        clear p8_270
        have hZ1 : RY a253 Z m := hZ.alt (Alt.of_new (S := fun _ => False) B_271) (fun _ _ _ _ h => h)
        refine (DrawConstantCircuit_any Z m d _ hZ1).mono ?_
        rintro e a272 ⟨cn, cw, hcn, hcw, rfl, bD⟩
        clear hZ1
        have B_273 := B_271.trans (bD.mono B_271.size)
        clear B_271
        clear bD
        cases hc9 : cstF' cn cw with
        | none =>
            have HR9 := Lib.hid hc9
            clear hc9
            go_wp2_with fail
            have q276 := ConstantCircuit_any cn cw a272
            rw [HR9.out] at q276
            refine q276.mono ?_
            clear q276
            rintro e a274 hT
            obtain ⟨B9, cb9, P9, cp9, rfl, r9, b9⟩ := open_cn hT
            clear hT
            have B_277 := B_273.trans (b9.mono B_273.size)
            clear B_273
            clear b9
            have al278 : Below a274.heap.size a274 (a274.alloc (.cells #[.int .i64 0, .int .i64 0, .slice B9 0 cb9, .slice P9 0 cp9] 28)) := (Below.refl _ _).alloc (Nat.le_refl _) _
            have z279 : (a274.alloc (.cells #[.int .i64 0, .int .i64 0, .slice B9 0 cb9, .slice P9 0 cp9] 28)).heap.size = a274.heap.size + 1 := by simp
            have p9_280 : BxC (a274.alloc (.cells #[.int .i64 0, .int .i64 0, .slice B9 0 cb9, .slice P9 0 cp9] 28)) a274.heap.size 0 0 B9 0 cb9 P9 0 cp9 := BxC.new _ _
            have r9_281 := And.intro (r9.1.below al278 (Nat.le_refl _)) (r9.2.below al278 (Nat.le_refl _))
            have B_282 := B_277.trans (al278.mono B_277.size)
            clear r9 B_277
            go_wp2_with fail
            generalize (a274.alloc (.cells #[.int .i64 0, .int .i64 0, .slice B9 0 cb9, .slice P9 0 cp9] 28)) = a283 at *
            clear al278
            have q286 := spec_ConstantCircuit_any cn cw a283
            rw [HR9.out] at q286
            refine q286.mono ?_
            clear q286
            rintro e a284 hT
            obtain ⟨B10, cb10, P10, cp10, rfl, r10, b10⟩ := open_cn hT
            clear hT
            have r9_287 := And.intro (r9_281.1.below b10 (Nat.le_refl _)) (r9_281.2.below b10 (Nat.le_refl _))
            have p9_288 := p9_280.below b10
            have B_289 := B_282.trans (b10.mono B_282.size)
            clear r9_281 p9_280 B_282
            clear b10
            have al290 : Below a284.heap.size a284 (a284.alloc (.cells #[.int .i64 0, .int .i64 0, .slice B10 0 cb10, .slice P10 0 cp10] 28)) := (Below.refl _ _).alloc (Nat.le_refl _) _
            have z291 : (a284.alloc (.cells #[.int .i64 0, .int .i64 0, .slice B10 0 cb10, .slice P10 0 cp10] 28)).heap.size = a284.heap.size + 1 := by simp
            have p10_292 : BxC (a284.alloc (.cells #[.int .i64 0, .int .i64 0, .slice B10 0 cb10, .slice P10 0 cp10] 28)) a284.heap.size 0 0 B10 0 cb10 P10 0 cp10 := BxC.new _ _
            have r9_293 := And.intro (r9_287.1.below al290 (Nat.le_refl _)) (r9_287.2.below al290 (Nat.le_refl _))
            have p9_294 := p9_288.below al290
            have r10_295 := And.intro (r10.1.below al290 (Nat.le_refl _)) (r10.2.below al290 (Nat.le_refl _))
            have B_296 := B_289.trans (al290.mono B_289.size)
            clear r9_287 p9_288 r10 B_289
            go_wp2_with fail
            generalize (a284.alloc (.cells #[.int .i64 0, .int .i64 0, .slice B10 0 cb10, .slice P10 0 cp10] 28)) = a297 at *
            clear al290
            have hZ2 : RY a297 Z m := hZ.alt (Alt.of_new (S := fun _ => False) B_296) (fun _ _ _ _ h => h)
            refine (DrawAndsOf_any Z m d _ hZ2).mono ?_
            rintro e a298 ⟨kd, kw, hkd, hkw, rfl, bE⟩
            clear hZ2
            have r9_299 := And.intro (r9_293.1.below bE (Nat.le_refl _)) (r9_293.2.below bE (Nat.le_refl _))
            have p9_300 := p9_294.below bE
            have r10_301 := And.intro (r10_295.1.below bE (Nat.le_refl _)) (r10_295.2.below bE (Nat.le_refl _))
            have p10_302 := p10_292.below bE
            have B_303 := B_296.trans (bE.mono B_296.size)
            clear r9_293 p9_294 r10_295 p10_292 B_296
            clear bE
            obtain ⟨qb, hqb⟩ : ∃ q, (circK kd kw).isSome = q := ⟨_, rfl⟩
            obtain ⟨qi, hqi⟩ : ∃ q, andsK kd kw = q := ⟨_, rfl⟩
            have HQB := Lib.hid hqb; have HQI := Lib.hid hqi
            clear hqb hqi
            go_wp2_with fail
            have q306 := AndsOf_any kd kw a298
            rw [HQB.out, HQI.out] at q306
            refine q306.mono ?_
            clear q306
            rintro e a304 ⟨rfl, b305⟩
            have r9_307 := And.intro (r9_299.1.below b305 (Nat.le_refl _)) (r9_299.2.below b305 (Nat.le_refl _))
            have p9_308 := p9_300.below b305
            have r10_309 := And.intro (r10_301.1.below b305 (Nat.le_refl _)) (r10_301.2.below b305 (Nat.le_refl _))
            have p10_310 := p10_302.below b305
            have B_311 := B_303.trans (b305.mono B_303.size)
            clear r9_299 p9_300 r10_301 p10_302 B_303
            go_wp2_with fail
            have q314 := spec_AndsOf_any kd kw a304
            rw [HQB.out, HQI.out] at q314
            refine q314.mono ?_
            clear q314
            rintro e a312 ⟨rfl, b313⟩
            have r9_315 := And.intro (r9_307.1.below b313 (Nat.le_refl _)) (r9_307.2.below b313 (Nat.le_refl _))
            have p9_316 := p9_308.below b313
            have r10_317 := And.intro (r10_309.1.below b313 (Nat.le_refl _)) (r10_309.2.below b313 (Nat.le_refl _))
            have p10_318 := p10_310.below b313
            have B_319 := B_311.trans (b313.mono B_311.size)
            clear r9_307 p9_308 r10_309 p10_310 B_311
            have n5 : (qb != qb) = false := by simp
            have n6 : (qi != qi) = false := by simp
            have hq := p9_316; obtain ⟨k0, k1, k2, k3⟩ := hq
            have hq := p10_318; obtain ⟨m0, m1, m2, m3⟩ := hq
            go_wp2_with fail
            refine (pSameCircuit_any 0 0 B9 B10 0 cb9 cb10 P9 P10 0 cp9 cp10 [] [] _ r9_315 r10_317 (by omega) (by omega)).mono ?_
            rintro e a320 ⟨rfl, b321⟩
            clear k0 k1 k2 k3 m0 m1 m2 m3
            have r9_322 := And.intro (r9_315.1.below b321 (Nat.le_refl _)) (r9_315.2.below b321 (Nat.le_refl _))
            have p9_323 := p9_316.below b321
            have r10_324 := And.intro (r10_317.1.below b321 (Nat.le_refl _)) (r10_317.2.below b321 (Nat.le_refl _))
            have p10_325 := p10_318.below b321
            have B_326 := B_319.trans (b321.mono B_319.size)
            clear r9_315 p9_316 r10_317 p10_318 B_319
            go_wp2
            go_ret
            exact ⟨rfl, B_326⟩
        | some M9 =>
            obtain ⟨i9, j9, g9, o9⟩ := M9
            obtain ⟨hi9, hj9, hC9, hl9, hA9⟩ := cst_law hc9
            dsimp only at hi9 hj9 hC9 hl9 hA9
            subst hi9
            subst hj9
            have hg9 : g9.length ≤ 300 := (circB_bd hC9).2.2.1
            have HC9 := Lib.hid hC9; have HA9 := Lib.hid hA9
            clear hC9 hA9
            have HR9 := Lib.hid hc9
            clear hc9
            go_wp2_with fail
            have q276 := ConstantCircuit_any cn cw a272
            rw [HR9.out] at q276
            refine q276.mono ?_
            clear q276
            rintro e a274 hT
            obtain ⟨B9, cb9, P9, cp9, rfl, r9, b9⟩ := open_cs hT
            clear hT
            dsimp only at r9 ⊢
            have B_277 := B_273.trans (b9.mono B_273.size)
            clear B_273
            clear b9
            have al278 : Below a274.heap.size a274 (a274.alloc (.cells #[.int .i64 0, .int .i64 0, .slice B9 g9.length cb9, .slice P9 o9.length cp9] 28)) := (Below.refl _ _).alloc (Nat.le_refl _) _
            have z279 : (a274.alloc (.cells #[.int .i64 0, .int .i64 0, .slice B9 g9.length cb9, .slice P9 o9.length cp9] 28)).heap.size = a274.heap.size + 1 := by simp
            have p9_280 : BxC (a274.alloc (.cells #[.int .i64 0, .int .i64 0, .slice B9 g9.length cb9, .slice P9 o9.length cp9] 28)) a274.heap.size 0 0 B9 g9.length cb9 P9 o9.length cp9 := BxC.new _ _
            have r9_281 := And.intro (r9.1.below al278 (Nat.le_refl _)) (r9.2.below al278 (Nat.le_refl _))
            have B_282 := B_277.trans (al278.mono B_277.size)
            clear r9 B_277
            go_wp2_with fail
            generalize (a274.alloc (.cells #[.int .i64 0, .int .i64 0, .slice B9 g9.length cb9, .slice P9 o9.length cp9] 28)) = a283 at *
            clear al278
            have q286 := spec_ConstantCircuit_any cn cw a283
            rw [HR9.out] at q286
            refine q286.mono ?_
            clear q286
            rintro e a284 hT
            obtain ⟨B10, cb10, P10, cp10, rfl, r10, b10⟩ := open_cs hT
            clear hT
            dsimp only at r10 ⊢
            have r9_287 := And.intro (r9_281.1.below b10 (Nat.le_refl _)) (r9_281.2.below b10 (Nat.le_refl _))
            have p9_288 := p9_280.below b10
            have B_289 := B_282.trans (b10.mono B_282.size)
            clear r9_281 p9_280 B_282
            clear b10
            have al290 : Below a284.heap.size a284 (a284.alloc (.cells #[.int .i64 0, .int .i64 0, .slice B10 g9.length cb10, .slice P10 o9.length cp10] 28)) := (Below.refl _ _).alloc (Nat.le_refl _) _
            have z291 : (a284.alloc (.cells #[.int .i64 0, .int .i64 0, .slice B10 g9.length cb10, .slice P10 o9.length cp10] 28)).heap.size = a284.heap.size + 1 := by simp
            have p10_292 : BxC (a284.alloc (.cells #[.int .i64 0, .int .i64 0, .slice B10 g9.length cb10, .slice P10 o9.length cp10] 28)) a284.heap.size 0 0 B10 g9.length cb10 P10 o9.length cp10 := BxC.new _ _
            have r9_293 := And.intro (r9_287.1.below al290 (Nat.le_refl _)) (r9_287.2.below al290 (Nat.le_refl _))
            have p9_294 := p9_288.below al290
            have r10_295 := And.intro (r10.1.below al290 (Nat.le_refl _)) (r10.2.below al290 (Nat.le_refl _))
            have B_296 := B_289.trans (al290.mono B_289.size)
            clear r9_287 p9_288 r10 B_289
            go_wp2_with fail
            generalize (a284.alloc (.cells #[.int .i64 0, .int .i64 0, .slice B10 g9.length cb10, .slice P10 o9.length cp10] 28)) = a297 at *
            clear al290
            have hZ2 : RY a297 Z m := hZ.alt (Alt.of_new (S := fun _ => False) B_296) (fun _ _ _ _ h => h)
            refine (DrawAndsOf_any Z m d _ hZ2).mono ?_
            rintro e a298 ⟨kd, kw, hkd, hkw, rfl, bE⟩
            clear hZ2
            have r9_299 := And.intro (r9_293.1.below bE (Nat.le_refl _)) (r9_293.2.below bE (Nat.le_refl _))
            have p9_300 := p9_294.below bE
            have r10_301 := And.intro (r10_295.1.below bE (Nat.le_refl _)) (r10_295.2.below bE (Nat.le_refl _))
            have p10_302 := p10_292.below bE
            have B_303 := B_296.trans (bE.mono B_296.size)
            clear r9_293 p9_294 r10_295 p10_292 B_296
            clear bE
            obtain ⟨qb, hqb⟩ : ∃ q, (circK kd kw).isSome = q := ⟨_, rfl⟩
            obtain ⟨qi, hqi⟩ : ∃ q, andsK kd kw = q := ⟨_, rfl⟩
            have HQB := Lib.hid hqb; have HQI := Lib.hid hqi
            clear hqb hqi
            go_wp2_with fail
            have q306 := AndsOf_any kd kw a298
            rw [HQB.out, HQI.out] at q306
            refine q306.mono ?_
            clear q306
            rintro e a304 ⟨rfl, b305⟩
            have r9_307 := And.intro (r9_299.1.below b305 (Nat.le_refl _)) (r9_299.2.below b305 (Nat.le_refl _))
            have p9_308 := p9_300.below b305
            have r10_309 := And.intro (r10_301.1.below b305 (Nat.le_refl _)) (r10_301.2.below b305 (Nat.le_refl _))
            have p10_310 := p10_302.below b305
            have B_311 := B_303.trans (b305.mono B_303.size)
            clear r9_299 p9_300 r10_301 p10_302 B_303
            go_wp2_with fail
            have q314 := spec_AndsOf_any kd kw a304
            rw [HQB.out, HQI.out] at q314
            refine q314.mono ?_
            clear q314
            rintro e a312 ⟨rfl, b313⟩
            have r9_315 := And.intro (r9_307.1.below b313 (Nat.le_refl _)) (r9_307.2.below b313 (Nat.le_refl _))
            have p9_316 := p9_308.below b313
            have r10_317 := And.intro (r10_309.1.below b313 (Nat.le_refl _)) (r10_309.2.below b313 (Nat.le_refl _))
            have p10_318 := p10_310.below b313
            have B_319 := B_311.trans (b313.mono B_311.size)
            clear r9_307 p9_308 r10_309 p10_310 B_311
            have n5 : (qb != qb) = false := by simp
            have n6 : (qi != qi) = false := by simp
            have hq := p9_316; obtain ⟨k0, k1, k2, k3⟩ := hq
            have hq := p10_318; obtain ⟨m0, m1, m2, m3⟩ := hq
            go_wp2_with fail
            refine (pSameCircuit_any 0 0 B9 B10 g9.length cb9 cb10 P9 P10 o9.length cp9 cp10 g9 o9 _ r9_315 r10_317 (by omega) (by omega)).mono ?_
            rintro e a320 ⟨rfl, b321⟩
            clear k0 k1 k2 k3 m0 m1 m2 m3
            have r9_322 := And.intro (r9_315.1.below b321 (Nat.le_refl _)) (r9_315.2.below b321 (Nat.le_refl _))
            have p9_323 := p9_316.below b321
            have r10_324 := And.intro (r10_317.1.below b321 (Nat.le_refl _)) (r10_317.2.below b321 (Nat.le_refl _))
            have p10_325 := p10_318.below b321
            have B_326 := B_319.trans (b321.mono B_319.size)
            clear r9_315 p9_316 r10_317 p10_318 B_319
            have hq := p10_325; obtain ⟨k0, k1, k2, k3⟩ := hq
            go_wp2_with fail
            refine (RunWith_ok 0 0 B10 g9.length cb10 P10 o9.length cp10 0 0 0 0 g9 o9 _ r10_324 (by omega) hl9 HC9.out rfl rfl (by omega) (by omega) (by decide) (by decide)).mono ?_
            rintro e a327 ⟨he, b328⟩
            rw [HA9.out] at he
            subst he
            clear k0 k1 k2 k3
            have n7 : (cn == cn) = true := by simp
            have r9_329 := And.intro (r9_322.1.below b328 (Nat.le_refl _)) (r9_322.2.below b328 (Nat.le_refl _))
            have p9_330 := p9_323.below b328
            have r10_331 := And.intro (r10_324.1.below b328 (Nat.le_refl _)) (r10_324.2.below b328 (Nat.le_refl _))
            have p10_332 := p10_325.below b328
            have B_333 := B_326.trans (b328.mono B_326.size)
            clear r9_322 p9_323 r10_324 p10_325 B_326
            go_wp2
            go_ret
            exact ⟨rfl, B_333⟩
    | true =>
        have hab := inB_iff.1 h0
        obtain ⟨k, rfl⟩ : ∃ k : Nat, a = k := ⟨a.toNat, by omega⟩
        have hk1 : 1 ≤ k := by omega
        have hk8 : k ≤ 8 := by omega
        have HR1 : Hid (gadF greatestG 8 (k : Int) = some ⟨k, k, (greatestG k).g, (greatestG k).o⟩) := Lib.hid (by simp [gadF, h0])
        have HC1 : GOk k k (greatestG k) := ⟨greatestG_ok k hk1 hk8, by show (chs _ _ _ _ _ k).o.length ≤ 16; rw [chs_o]; omega⟩
        have HA1 : Hid (∀ u v : Nat, u < 2 ^ k → v < 2 ^ k → ans (greatestG k) (bitsN u k ++ bitsN v k) = if u < v then (v : Int) else u) := Lib.hid (fun u v hu hv => greatest_v hk1 hu hv)
        generalize greatestG k = G1 at *
        obtain ⟨g1, o1⟩ := G1
        dsimp only at HR1
        have hl1 : g1.length ≤ 300 := (circB_bd HC1.c).2.2.1
        have ho1 : o1.length ≤ 16 := HC1.o
        have HD1 := Lib.hid HC1.c
        clear HC1
        have HR3 : Hid (gadF lessG 8 (k : Int) = some ⟨k, k, (lessG k).g, (lessG k).o⟩) := Lib.hid (by simp [gadF, h0])
        have HC3 : GOk k k (lessG k) := ⟨lessG_ok k hk1 hk8, by show ([_] : List Int).length ≤ 16; simp⟩
        have HA3 : Hid (∀ u v : Nat, u < 2 ^ k → v < 2 ^ k → ans (lessG k) (bitsN u k ++ bitsN v k) = if u < v then 1 else 0) := Lib.hid (fun u v hu hv => less_v hk1 hu hv)
        generalize lessG k = G3 at *
        obtain ⟨g3, o3⟩ := G3
        dsimp only at HR3
        have hl3 : g3.length ≤ 300 := (circB_bd HC3.c).2.2.1
        have ho3 : o3.length ≤ 16 := HC3.o
        have HD3 := Lib.hid HC3.c
        clear HC3
        have HR5 : Hid (gadF equalG 8 (k : Int) = some ⟨k, k, (equalG k).g, (equalG k).o⟩) := Lib.hid (by simp [gadF, h0])
        have HC5 : GOk k k (equalG k) := ⟨equalG_ok k hk1 hk8, by show ([_] : List Int).length ≤ 16; simp⟩
        have HA5 : Hid (∀ u v : Nat, u < 2 ^ k → v < 2 ^ k → ans (equalG k) (bitsN u k ++ bitsN v k) = if u = v then 1 else 0) := Lib.hid (fun u v hu hv => equal_v hk1 hu hv)
        generalize equalG k = G5 at *
        obtain ⟨g5, o5⟩ := G5
        dsimp only at HR5
        have hl5 : g5.length ≤ 300 := (circB_bd HC5.c).2.2.1
        have ho5 : o5.length ≤ 16 := HC5.o
        have HD5 := Lib.hid HC5.c
        clear HC5
        have HR7 : Hid (chooseF (k : Int) = some ⟨2 * k, 1, (chooseG k).g, (chooseG k).o⟩) := Lib.hid (by simp [chooseF, h0])
        have HC7 : GOk (2 * (k : Int)) 1 (chooseG k) := ⟨chooseG_ok k hk1 hk8, by show (chs _ _ _ _ _ k).o.length ≤ 16; rw [chs_o]; omega⟩
        have HA7 : Hid (∀ u v t : Nat, u < 2 ^ k → v < 2 ^ k → t < 2 → ans (chooseG k) (bitsN (u + v * 2 ^ k) (2 * k) ++ bitsN t 1) = if t = 1 then (u : Int) else v) := Lib.hid (fun u v t hu hv ht => choose_v hk1 hu hv ht)
        generalize chooseG k = G7 at *
        obtain ⟨g7, o7⟩ := G7
        dsimp only at HR7
        have hl7 : g7.length ≤ 300 := (circB_bd HC7.c).2.2.1
        have ho7 : o7.length ≤ 16 := HC7.o
        have HD7 := Lib.hid HC7.c
        clear HC7
        clear h0 hab
        go_wp2_with fail
        have q6 := GreatestCircuit_any (k : Int) a1
        rw [HR1.out] at q6
        refine q6.mono ?_
        clear q6
        rintro e a4 hT
        obtain ⟨A1, ca1, O1, co1, rfl, r1, b1⟩ := open_cs hT
        clear hT
        dsimp only at r1 ⊢
        have B_7 := B_3.trans (b1.mono B_3.size)
        clear B_3
        clear b1
        have al8 : Below a4.heap.size a4 (a4.alloc (.cells #[.int .i64 k, .int .i64 k, .slice A1 g1.length ca1, .slice O1 o1.length co1] 28)) := (Below.refl _ _).alloc (Nat.le_refl _) _
        have z9 : (a4.alloc (.cells #[.int .i64 k, .int .i64 k, .slice A1 g1.length ca1, .slice O1 o1.length co1] 28)).heap.size = a4.heap.size + 1 := by simp
        have p1_10 : BxC (a4.alloc (.cells #[.int .i64 k, .int .i64 k, .slice A1 g1.length ca1, .slice O1 o1.length co1] 28)) a4.heap.size k k A1 g1.length ca1 O1 o1.length co1 := BxC.new _ _
        have r1_11 := And.intro (r1.1.below al8 (Nat.le_refl _)) (r1.2.below al8 (Nat.le_refl _))
        have B_12 := B_7.trans (al8.mono B_7.size)
        clear r1 B_7
        go_wp2_with fail
        generalize (a4.alloc (.cells #[.int .i64 k, .int .i64 k, .slice A1 g1.length ca1, .slice O1 o1.length co1] 28)) = a13 at *
        clear al8
        have q16 := spec_GreatestCircuit_any (k : Int) a13
        rw [HR1.out] at q16
        refine q16.mono ?_
        clear q16
        rintro e a14 hT
        obtain ⟨A2, ca2, O2, co2, rfl, r2, b2⟩ := open_cs hT
        clear hT
        dsimp only at r2 ⊢
        have r1_17 := And.intro (r1_11.1.below b2 (Nat.le_refl _)) (r1_11.2.below b2 (Nat.le_refl _))
        have p1_18 := p1_10.below b2
        have B_19 := B_12.trans (b2.mono B_12.size)
        clear r1_11 p1_10 B_12
        clear b2
        have al20 : Below a14.heap.size a14 (a14.alloc (.cells #[.int .i64 k, .int .i64 k, .slice A2 g1.length ca2, .slice O2 o1.length co2] 28)) := (Below.refl _ _).alloc (Nat.le_refl _) _
        have z21 : (a14.alloc (.cells #[.int .i64 k, .int .i64 k, .slice A2 g1.length ca2, .slice O2 o1.length co2] 28)).heap.size = a14.heap.size + 1 := by simp
        have p2_22 : BxC (a14.alloc (.cells #[.int .i64 k, .int .i64 k, .slice A2 g1.length ca2, .slice O2 o1.length co2] 28)) a14.heap.size k k A2 g1.length ca2 O2 o1.length co2 := BxC.new _ _
        have r1_23 := And.intro (r1_17.1.below al20 (Nat.le_refl _)) (r1_17.2.below al20 (Nat.le_refl _))
        have p1_24 := p1_18.below al20
        have r2_25 := And.intro (r2.1.below al20 (Nat.le_refl _)) (r2.2.below al20 (Nat.le_refl _))
        have B_26 := B_19.trans (al20.mono B_19.size)
        clear r1_17 p1_18 r2 B_19
        go_wp2_with fail
        generalize (a14.alloc (.cells #[.int .i64 k, .int .i64 k, .slice A2 g1.length ca2, .slice O2 o1.length co2] 28)) = a27 at *
        clear al20
        have q30 := LessCircuit_any (k : Int) a27
        rw [HR3.out] at q30
        refine q30.mono ?_
        clear q30
        rintro e a28 hT
        obtain ⟨A3, ca3, O3, co3, rfl, r3, b3⟩ := open_cs hT
        clear hT
        dsimp only at r3 ⊢
        have r1_31 := And.intro (r1_23.1.below b3 (Nat.le_refl _)) (r1_23.2.below b3 (Nat.le_refl _))
        have p1_32 := p1_24.below b3
        have r2_33 := And.intro (r2_25.1.below b3 (Nat.le_refl _)) (r2_25.2.below b3 (Nat.le_refl _))
        have p2_34 := p2_22.below b3
        have B_35 := B_26.trans (b3.mono B_26.size)
        clear r1_23 p1_24 r2_25 p2_22 B_26
        clear b3
        have al36 : Below a28.heap.size a28 (a28.alloc (.cells #[.int .i64 k, .int .i64 k, .slice A3 g3.length ca3, .slice O3 o3.length co3] 28)) := (Below.refl _ _).alloc (Nat.le_refl _) _
        have z37 : (a28.alloc (.cells #[.int .i64 k, .int .i64 k, .slice A3 g3.length ca3, .slice O3 o3.length co3] 28)).heap.size = a28.heap.size + 1 := by simp
        have p3_38 : BxC (a28.alloc (.cells #[.int .i64 k, .int .i64 k, .slice A3 g3.length ca3, .slice O3 o3.length co3] 28)) a28.heap.size k k A3 g3.length ca3 O3 o3.length co3 := BxC.new _ _
        have r1_39 := And.intro (r1_31.1.below al36 (Nat.le_refl _)) (r1_31.2.below al36 (Nat.le_refl _))
        have p1_40 := p1_32.below al36
        have r2_41 := And.intro (r2_33.1.below al36 (Nat.le_refl _)) (r2_33.2.below al36 (Nat.le_refl _))
        have p2_42 := p2_34.below al36
        have r3_43 := And.intro (r3.1.below al36 (Nat.le_refl _)) (r3.2.below al36 (Nat.le_refl _))
        have B_44 := B_35.trans (al36.mono B_35.size)
        clear r1_31 p1_32 r2_33 p2_34 r3 B_35
        go_wp2_with fail
        generalize (a28.alloc (.cells #[.int .i64 k, .int .i64 k, .slice A3 g3.length ca3, .slice O3 o3.length co3] 28)) = a45 at *
        clear al36
        have q48 := spec_LessCircuit_any (k : Int) a45
        rw [HR3.out] at q48
        refine q48.mono ?_
        clear q48
        rintro e a46 hT
        obtain ⟨A4, ca4, O4, co4, rfl, r4, b4⟩ := open_crs hT
        clear hT
        dsimp only at r4 ⊢
        have r1_49 := And.intro (r1_39.1.below b4 (Nat.le_refl _)) (r1_39.2.below b4 (Nat.le_refl _))
        have p1_50 := p1_40.below b4
        have r2_51 := And.intro (r2_41.1.below b4 (Nat.le_refl _)) (r2_41.2.below b4 (Nat.le_refl _))
        have p2_52 := p2_42.below b4
        have r3_53 := And.intro (r3_43.1.below b4 (Nat.le_refl _)) (r3_43.2.below b4 (Nat.le_refl _))
        have p3_54 := p3_38.below b4
        have B_55 := B_44.trans (b4.mono B_44.size)
        clear r1_39 p1_40 r2_41 p2_42 r3_43 p3_38 B_44
        clear b4
        have al56 : Below a46.heap.size a46 (a46.alloc (.cells #[.int .i64 k, .int .i64 k, .slice A4 g3.length ca4, .slice O4 o3.length co4] 28)) := (Below.refl _ _).alloc (Nat.le_refl _) _
        have z57 : (a46.alloc (.cells #[.int .i64 k, .int .i64 k, .slice A4 g3.length ca4, .slice O4 o3.length co4] 28)).heap.size = a46.heap.size + 1 := by simp
        have p4_58 : BxC (a46.alloc (.cells #[.int .i64 k, .int .i64 k, .slice A4 g3.length ca4, .slice O4 o3.length co4] 28)) a46.heap.size k k A4 g3.length ca4 O4 o3.length co4 := BxC.new _ _
        have r1_59 := And.intro (r1_49.1.below al56 (Nat.le_refl _)) (r1_49.2.below al56 (Nat.le_refl _))
        have p1_60 := p1_50.below al56
        have r2_61 := And.intro (r2_51.1.below al56 (Nat.le_refl _)) (r2_51.2.below al56 (Nat.le_refl _))
        have p2_62 := p2_52.below al56
        have r3_63 := And.intro (r3_53.1.below al56 (Nat.le_refl _)) (r3_53.2.below al56 (Nat.le_refl _))
        have p3_64 := p3_54.below al56
        have r4_65 := And.intro (r4.1.below al56 (Nat.le_refl _)) (r4.2.below al56 (Nat.le_refl _))
        have B_66 := B_55.trans (al56.mono B_55.size)
        clear r1_49 p1_50 r2_51 p2_52 r3_53 p3_54 r4 B_55
        go_wp2_with fail
        generalize (a46.alloc (.cells #[.int .i64 k, .int .i64 k, .slice A4 g3.length ca4, .slice O4 o3.length co4] 28)) = a67 at *
        clear al56
        have q70 := EqualCircuit_any (k : Int) a67
        rw [HR5.out] at q70
        refine q70.mono ?_
        clear q70
        rintro e a68 hT
        obtain ⟨A5, ca5, O5, co5, rfl, r5, b5⟩ := open_cs hT
        clear hT
        dsimp only at r5 ⊢
        have r1_71 := And.intro (r1_59.1.below b5 (Nat.le_refl _)) (r1_59.2.below b5 (Nat.le_refl _))
        have p1_72 := p1_60.below b5
        have r2_73 := And.intro (r2_61.1.below b5 (Nat.le_refl _)) (r2_61.2.below b5 (Nat.le_refl _))
        have p2_74 := p2_62.below b5
        have r3_75 := And.intro (r3_63.1.below b5 (Nat.le_refl _)) (r3_63.2.below b5 (Nat.le_refl _))
        have p3_76 := p3_64.below b5
        have r4_77 := And.intro (r4_65.1.below b5 (Nat.le_refl _)) (r4_65.2.below b5 (Nat.le_refl _))
        have p4_78 := p4_58.below b5
        have B_79 := B_66.trans (b5.mono B_66.size)
        clear r1_59 p1_60 r2_61 p2_62 r3_63 p3_64 r4_65 p4_58 B_66
        clear b5
        have al80 : Below a68.heap.size a68 (a68.alloc (.cells #[.int .i64 k, .int .i64 k, .slice A5 g5.length ca5, .slice O5 o5.length co5] 28)) := (Below.refl _ _).alloc (Nat.le_refl _) _
        have z81 : (a68.alloc (.cells #[.int .i64 k, .int .i64 k, .slice A5 g5.length ca5, .slice O5 o5.length co5] 28)).heap.size = a68.heap.size + 1 := by simp
        have p5_82 : BxC (a68.alloc (.cells #[.int .i64 k, .int .i64 k, .slice A5 g5.length ca5, .slice O5 o5.length co5] 28)) a68.heap.size k k A5 g5.length ca5 O5 o5.length co5 := BxC.new _ _
        have r1_83 := And.intro (r1_71.1.below al80 (Nat.le_refl _)) (r1_71.2.below al80 (Nat.le_refl _))
        have p1_84 := p1_72.below al80
        have r2_85 := And.intro (r2_73.1.below al80 (Nat.le_refl _)) (r2_73.2.below al80 (Nat.le_refl _))
        have p2_86 := p2_74.below al80
        have r3_87 := And.intro (r3_75.1.below al80 (Nat.le_refl _)) (r3_75.2.below al80 (Nat.le_refl _))
        have p3_88 := p3_76.below al80
        have r4_89 := And.intro (r4_77.1.below al80 (Nat.le_refl _)) (r4_77.2.below al80 (Nat.le_refl _))
        have p4_90 := p4_78.below al80
        have r5_91 := And.intro (r5.1.below al80 (Nat.le_refl _)) (r5.2.below al80 (Nat.le_refl _))
        have B_92 := B_79.trans (al80.mono B_79.size)
        clear r1_71 p1_72 r2_73 p2_74 r3_75 p3_76 r4_77 p4_78 r5 B_79
        go_wp2_with fail
        generalize (a68.alloc (.cells #[.int .i64 k, .int .i64 k, .slice A5 g5.length ca5, .slice O5 o5.length co5] 28)) = a93 at *
        clear al80
        have q96 := spec_EqualCircuit_any (k : Int) a93
        rw [HR5.out] at q96
        refine q96.mono ?_
        clear q96
        rintro e a94 hT
        obtain ⟨A6, ca6, O6, co6, rfl, r6, b6⟩ := open_cs hT
        clear hT
        dsimp only at r6 ⊢
        have r1_97 := And.intro (r1_83.1.below b6 (Nat.le_refl _)) (r1_83.2.below b6 (Nat.le_refl _))
        have p1_98 := p1_84.below b6
        have r2_99 := And.intro (r2_85.1.below b6 (Nat.le_refl _)) (r2_85.2.below b6 (Nat.le_refl _))
        have p2_100 := p2_86.below b6
        have r3_101 := And.intro (r3_87.1.below b6 (Nat.le_refl _)) (r3_87.2.below b6 (Nat.le_refl _))
        have p3_102 := p3_88.below b6
        have r4_103 := And.intro (r4_89.1.below b6 (Nat.le_refl _)) (r4_89.2.below b6 (Nat.le_refl _))
        have p4_104 := p4_90.below b6
        have r5_105 := And.intro (r5_91.1.below b6 (Nat.le_refl _)) (r5_91.2.below b6 (Nat.le_refl _))
        have p5_106 := p5_82.below b6
        have B_107 := B_92.trans (b6.mono B_92.size)
        clear r1_83 p1_84 r2_85 p2_86 r3_87 p3_88 r4_89 p4_90 r5_91 p5_82 B_92
        clear b6
        have al108 : Below a94.heap.size a94 (a94.alloc (.cells #[.int .i64 k, .int .i64 k, .slice A6 g5.length ca6, .slice O6 o5.length co6] 28)) := (Below.refl _ _).alloc (Nat.le_refl _) _
        have z109 : (a94.alloc (.cells #[.int .i64 k, .int .i64 k, .slice A6 g5.length ca6, .slice O6 o5.length co6] 28)).heap.size = a94.heap.size + 1 := by simp
        have p6_110 : BxC (a94.alloc (.cells #[.int .i64 k, .int .i64 k, .slice A6 g5.length ca6, .slice O6 o5.length co6] 28)) a94.heap.size k k A6 g5.length ca6 O6 o5.length co6 := BxC.new _ _
        have r1_111 := And.intro (r1_97.1.below al108 (Nat.le_refl _)) (r1_97.2.below al108 (Nat.le_refl _))
        have p1_112 := p1_98.below al108
        have r2_113 := And.intro (r2_99.1.below al108 (Nat.le_refl _)) (r2_99.2.below al108 (Nat.le_refl _))
        have p2_114 := p2_100.below al108
        have r3_115 := And.intro (r3_101.1.below al108 (Nat.le_refl _)) (r3_101.2.below al108 (Nat.le_refl _))
        have p3_116 := p3_102.below al108
        have r4_117 := And.intro (r4_103.1.below al108 (Nat.le_refl _)) (r4_103.2.below al108 (Nat.le_refl _))
        have p4_118 := p4_104.below al108
        have r5_119 := And.intro (r5_105.1.below al108 (Nat.le_refl _)) (r5_105.2.below al108 (Nat.le_refl _))
        have p5_120 := p5_106.below al108
        have r6_121 := And.intro (r6.1.below al108 (Nat.le_refl _)) (r6.2.below al108 (Nat.le_refl _))
        have B_122 := B_107.trans (al108.mono B_107.size)
        clear r1_97 p1_98 r2_99 p2_100 r3_101 p3_102 r4_103 p4_104 r5_105 p5_106 r6 B_107
        go_wp2_with fail
        generalize (a94.alloc (.cells #[.int .i64 k, .int .i64 k, .slice A6 g5.length ca6, .slice O6 o5.length co6] 28)) = a123 at *
        clear al108
        have q126 := ChooseCircuit_any (k : Int) a123
        rw [HR7.out] at q126
        refine q126.mono ?_
        clear q126
        rintro e a124 hT
        obtain ⟨A7, ca7, O7, co7, rfl, r7, b7⟩ := open_cs hT
        clear hT
        dsimp only at r7 ⊢
        have r1_127 := And.intro (r1_111.1.below b7 (Nat.le_refl _)) (r1_111.2.below b7 (Nat.le_refl _))
        have p1_128 := p1_112.below b7
        have r2_129 := And.intro (r2_113.1.below b7 (Nat.le_refl _)) (r2_113.2.below b7 (Nat.le_refl _))
        have p2_130 := p2_114.below b7
        have r3_131 := And.intro (r3_115.1.below b7 (Nat.le_refl _)) (r3_115.2.below b7 (Nat.le_refl _))
        have p3_132 := p3_116.below b7
        have r4_133 := And.intro (r4_117.1.below b7 (Nat.le_refl _)) (r4_117.2.below b7 (Nat.le_refl _))
        have p4_134 := p4_118.below b7
        have r5_135 := And.intro (r5_119.1.below b7 (Nat.le_refl _)) (r5_119.2.below b7 (Nat.le_refl _))
        have p5_136 := p5_120.below b7
        have r6_137 := And.intro (r6_121.1.below b7 (Nat.le_refl _)) (r6_121.2.below b7 (Nat.le_refl _))
        have p6_138 := p6_110.below b7
        have B_139 := B_122.trans (b7.mono B_122.size)
        clear r1_111 p1_112 r2_113 p2_114 r3_115 p3_116 r4_117 p4_118 r5_119 p5_120 r6_121 p6_110 B_122
        clear b7
        have al140 : Below a124.heap.size a124 (a124.alloc (.cells #[.int .i64 (2 * (k : Int)), .int .i64 1, .slice A7 g7.length ca7, .slice O7 o7.length co7] 28)) := (Below.refl _ _).alloc (Nat.le_refl _) _
        have z141 : (a124.alloc (.cells #[.int .i64 (2 * (k : Int)), .int .i64 1, .slice A7 g7.length ca7, .slice O7 o7.length co7] 28)).heap.size = a124.heap.size + 1 := by simp
        have p7_142 : BxC (a124.alloc (.cells #[.int .i64 (2 * (k : Int)), .int .i64 1, .slice A7 g7.length ca7, .slice O7 o7.length co7] 28)) a124.heap.size (2 * (k : Int)) 1 A7 g7.length ca7 O7 o7.length co7 := BxC.new _ _
        have r1_143 := And.intro (r1_127.1.below al140 (Nat.le_refl _)) (r1_127.2.below al140 (Nat.le_refl _))
        have p1_144 := p1_128.below al140
        have r2_145 := And.intro (r2_129.1.below al140 (Nat.le_refl _)) (r2_129.2.below al140 (Nat.le_refl _))
        have p2_146 := p2_130.below al140
        have r3_147 := And.intro (r3_131.1.below al140 (Nat.le_refl _)) (r3_131.2.below al140 (Nat.le_refl _))
        have p3_148 := p3_132.below al140
        have r4_149 := And.intro (r4_133.1.below al140 (Nat.le_refl _)) (r4_133.2.below al140 (Nat.le_refl _))
        have p4_150 := p4_134.below al140
        have r5_151 := And.intro (r5_135.1.below al140 (Nat.le_refl _)) (r5_135.2.below al140 (Nat.le_refl _))
        have p5_152 := p5_136.below al140
        have r6_153 := And.intro (r6_137.1.below al140 (Nat.le_refl _)) (r6_137.2.below al140 (Nat.le_refl _))
        have p6_154 := p6_138.below al140
        have r7_155 := And.intro (r7.1.below al140 (Nat.le_refl _)) (r7.2.below al140 (Nat.le_refl _))
        have B_156 := B_139.trans (al140.mono B_139.size)
        clear r1_127 p1_128 r2_129 p2_130 r3_131 p3_132 r4_133 p4_134 r5_135 p5_136 r6_137 p6_138 r7 B_139
        go_wp2_with fail
        generalize (a124.alloc (.cells #[.int .i64 (2 * (k : Int)), .int .i64 1, .slice A7 g7.length ca7, .slice O7 o7.length co7] 28)) = a157 at *
        clear al140
        have q160 := spec_ChooseCircuit_any (k : Int) a157
        rw [HR7.out] at q160
        refine q160.mono ?_
        clear q160
        rintro e a158 hT
        obtain ⟨A8, ca8, O8, co8, rfl, r8, b8⟩ := open_cs hT
        clear hT
        dsimp only at r8 ⊢
        have r1_161 := And.intro (r1_143.1.below b8 (Nat.le_refl _)) (r1_143.2.below b8 (Nat.le_refl _))
        have p1_162 := p1_144.below b8
        have r2_163 := And.intro (r2_145.1.below b8 (Nat.le_refl _)) (r2_145.2.below b8 (Nat.le_refl _))
        have p2_164 := p2_146.below b8
        have r3_165 := And.intro (r3_147.1.below b8 (Nat.le_refl _)) (r3_147.2.below b8 (Nat.le_refl _))
        have p3_166 := p3_148.below b8
        have r4_167 := And.intro (r4_149.1.below b8 (Nat.le_refl _)) (r4_149.2.below b8 (Nat.le_refl _))
        have p4_168 := p4_150.below b8
        have r5_169 := And.intro (r5_151.1.below b8 (Nat.le_refl _)) (r5_151.2.below b8 (Nat.le_refl _))
        have p5_170 := p5_152.below b8
        have r6_171 := And.intro (r6_153.1.below b8 (Nat.le_refl _)) (r6_153.2.below b8 (Nat.le_refl _))
        have p6_172 := p6_154.below b8
        have r7_173 := And.intro (r7_155.1.below b8 (Nat.le_refl _)) (r7_155.2.below b8 (Nat.le_refl _))
        have p7_174 := p7_142.below b8
        have B_175 := B_156.trans (b8.mono B_156.size)
        clear r1_143 p1_144 r2_145 p2_146 r3_147 p3_148 r4_149 p4_150 r5_151 p5_152 r6_153 p6_154 r7_155 p7_142 B_156
        clear b8
        have al176 : Below a158.heap.size a158 (a158.alloc (.cells #[.int .i64 (2 * (k : Int)), .int .i64 1, .slice A8 g7.length ca8, .slice O8 o7.length co8] 28)) := (Below.refl _ _).alloc (Nat.le_refl _) _
        have z177 : (a158.alloc (.cells #[.int .i64 (2 * (k : Int)), .int .i64 1, .slice A8 g7.length ca8, .slice O8 o7.length co8] 28)).heap.size = a158.heap.size + 1 := by simp
        have p8_178 : BxC (a158.alloc (.cells #[.int .i64 (2 * (k : Int)), .int .i64 1, .slice A8 g7.length ca8, .slice O8 o7.length co8] 28)) a158.heap.size (2 * (k : Int)) 1 A8 g7.length ca8 O8 o7.length co8 := BxC.new _ _
        have r1_179 := And.intro (r1_161.1.below al176 (Nat.le_refl _)) (r1_161.2.below al176 (Nat.le_refl _))
        have p1_180 := p1_162.below al176
        have r2_181 := And.intro (r2_163.1.below al176 (Nat.le_refl _)) (r2_163.2.below al176 (Nat.le_refl _))
        have p2_182 := p2_164.below al176
        have r3_183 := And.intro (r3_165.1.below al176 (Nat.le_refl _)) (r3_165.2.below al176 (Nat.le_refl _))
        have p3_184 := p3_166.below al176
        have r4_185 := And.intro (r4_167.1.below al176 (Nat.le_refl _)) (r4_167.2.below al176 (Nat.le_refl _))
        have p4_186 := p4_168.below al176
        have r5_187 := And.intro (r5_169.1.below al176 (Nat.le_refl _)) (r5_169.2.below al176 (Nat.le_refl _))
        have p5_188 := p5_170.below al176
        have r6_189 := And.intro (r6_171.1.below al176 (Nat.le_refl _)) (r6_171.2.below al176 (Nat.le_refl _))
        have p6_190 := p6_172.below al176
        have r7_191 := And.intro (r7_173.1.below al176 (Nat.le_refl _)) (r7_173.2.below al176 (Nat.le_refl _))
        have p7_192 := p7_174.below al176
        have r8_193 := And.intro (r8.1.below al176 (Nat.le_refl _)) (r8.2.below al176 (Nat.le_refl _))
        have B_194 := B_175.trans (al176.mono B_175.size)
        clear r1_161 p1_162 r2_163 p2_164 r3_165 p3_166 r4_167 p4_168 r5_169 p5_170 r6_171 p6_172 r7_173 p7_174 r8 B_175
        have hq := p1_180; obtain ⟨k0, k1, k2, k3⟩ := hq
        have hq := p2_182; obtain ⟨m0, m1, m2, m3⟩ := hq
        go_wp2_with fail
        generalize (a158.alloc (.cells #[.int .i64 (2 * (k : Int)), .int .i64 1, .slice A8 g7.length ca8, .slice O8 o7.length co8] 28)) = a195 at *
        clear al176
        refine (pSameCircuit_any k k A1 A2 g1.length ca1 ca2 O1 O2 o1.length co1 co2 g1 o1 _ r1_179 r2_181 (by omega) (by omega)).mono ?_
        rintro e a196 ⟨rfl, b197⟩
        clear k0 k1 k2 k3 m0 m1 m2 m3
        have r1_198 := And.intro (r1_179.1.below b197 (Nat.le_refl _)) (r1_179.2.below b197 (Nat.le_refl _))
        have p1_199 := p1_180.below b197
        have r2_200 := And.intro (r2_181.1.below b197 (Nat.le_refl _)) (r2_181.2.below b197 (Nat.le_refl _))
        have p2_201 := p2_182.below b197
        have r3_202 := And.intro (r3_183.1.below b197 (Nat.le_refl _)) (r3_183.2.below b197 (Nat.le_refl _))
        have p3_203 := p3_184.below b197
        have r4_204 := And.intro (r4_185.1.below b197 (Nat.le_refl _)) (r4_185.2.below b197 (Nat.le_refl _))
        have p4_205 := p4_186.below b197
        have r5_206 := And.intro (r5_187.1.below b197 (Nat.le_refl _)) (r5_187.2.below b197 (Nat.le_refl _))
        have p5_207 := p5_188.below b197
        have r6_208 := And.intro (r6_189.1.below b197 (Nat.le_refl _)) (r6_189.2.below b197 (Nat.le_refl _))
        have p6_209 := p6_190.below b197
        have r7_210 := And.intro (r7_191.1.below b197 (Nat.le_refl _)) (r7_191.2.below b197 (Nat.le_refl _))
        have p7_211 := p7_192.below b197
        have r8_212 := And.intro (r8_193.1.below b197 (Nat.le_refl _)) (r8_193.2.below b197 (Nat.le_refl _))
        have p8_213 := p8_178.below b197
        have B_214 := B_194.trans (b197.mono B_194.size)
        clear r1_179 p1_180 r2_181 p2_182 r3_183 p3_184 r4_185 p4_186 r5_187 p5_188 r6_189 p6_190 r7_191 p7_192 r8_193 p8_178 B_194
        have hq := p3_203; obtain ⟨k0, k1, k2, k3⟩ := hq
        have hq := p4_205; obtain ⟨m0, m1, m2, m3⟩ := hq
        go_wp2_with fail
        refine (pSameCircuit_any k k A3 A4 g3.length ca3 ca4 O3 O4 o3.length co3 co4 g3 o3 _ r3_202 r4_204 (by omega) (by omega)).mono ?_
        rintro e a215 ⟨rfl, b216⟩
        clear k0 k1 k2 k3 m0 m1 m2 m3
        have r1_217 := And.intro (r1_198.1.below b216 (Nat.le_refl _)) (r1_198.2.below b216 (Nat.le_refl _))
        have p1_218 := p1_199.below b216
        have r2_219 := And.intro (r2_200.1.below b216 (Nat.le_refl _)) (r2_200.2.below b216 (Nat.le_refl _))
        have p2_220 := p2_201.below b216
        have r3_221 := And.intro (r3_202.1.below b216 (Nat.le_refl _)) (r3_202.2.below b216 (Nat.le_refl _))
        have p3_222 := p3_203.below b216
        have r4_223 := And.intro (r4_204.1.below b216 (Nat.le_refl _)) (r4_204.2.below b216 (Nat.le_refl _))
        have p4_224 := p4_205.below b216
        have r5_225 := And.intro (r5_206.1.below b216 (Nat.le_refl _)) (r5_206.2.below b216 (Nat.le_refl _))
        have p5_226 := p5_207.below b216
        have r6_227 := And.intro (r6_208.1.below b216 (Nat.le_refl _)) (r6_208.2.below b216 (Nat.le_refl _))
        have p6_228 := p6_209.below b216
        have r7_229 := And.intro (r7_210.1.below b216 (Nat.le_refl _)) (r7_210.2.below b216 (Nat.le_refl _))
        have p7_230 := p7_211.below b216
        have r8_231 := And.intro (r8_212.1.below b216 (Nat.le_refl _)) (r8_212.2.below b216 (Nat.le_refl _))
        have p8_232 := p8_213.below b216
        have B_233 := B_214.trans (b216.mono B_214.size)
        clear r1_198 p1_199 r2_200 p2_201 r3_202 p3_203 r4_204 p4_205 r5_206 p5_207 r6_208 p6_209 r7_210 p7_211 r8_212 p8_213 B_214
        have hq := p5_226; obtain ⟨k0, k1, k2, k3⟩ := hq
        have hq := p6_228; obtain ⟨m0, m1, m2, m3⟩ := hq
        go_wp2_with fail
        refine (pSameCircuit_any k k A5 A6 g5.length ca5 ca6 O5 O6 o5.length co5 co6 g5 o5 _ r5_225 r6_227 (by omega) (by omega)).mono ?_
        rintro e a234 ⟨rfl, b235⟩
        clear k0 k1 k2 k3 m0 m1 m2 m3
        have r1_236 := And.intro (r1_217.1.below b235 (Nat.le_refl _)) (r1_217.2.below b235 (Nat.le_refl _))
        have p1_237 := p1_218.below b235
        have r2_238 := And.intro (r2_219.1.below b235 (Nat.le_refl _)) (r2_219.2.below b235 (Nat.le_refl _))
        have p2_239 := p2_220.below b235
        have r3_240 := And.intro (r3_221.1.below b235 (Nat.le_refl _)) (r3_221.2.below b235 (Nat.le_refl _))
        have p3_241 := p3_222.below b235
        have r4_242 := And.intro (r4_223.1.below b235 (Nat.le_refl _)) (r4_223.2.below b235 (Nat.le_refl _))
        have p4_243 := p4_224.below b235
        have r5_244 := And.intro (r5_225.1.below b235 (Nat.le_refl _)) (r5_225.2.below b235 (Nat.le_refl _))
        have p5_245 := p5_226.below b235
        have r6_246 := And.intro (r6_227.1.below b235 (Nat.le_refl _)) (r6_227.2.below b235 (Nat.le_refl _))
        have p6_247 := p6_228.below b235
        have r7_248 := And.intro (r7_229.1.below b235 (Nat.le_refl _)) (r7_229.2.below b235 (Nat.le_refl _))
        have p7_249 := p7_230.below b235
        have r8_250 := And.intro (r8_231.1.below b235 (Nat.le_refl _)) (r8_231.2.below b235 (Nat.le_refl _))
        have p8_251 := p8_232.below b235
        have B_252 := B_233.trans (b235.mono B_233.size)
        clear r1_217 p1_218 r2_219 p2_220 r3_221 p3_222 r4_223 p4_224 r5_225 p5_226 r6_227 p6_228 r7_229 p7_230 r8_231 p8_232 B_233
        have hq := p7_249; obtain ⟨k0, k1, k2, k3⟩ := hq
        have hq := p8_251; obtain ⟨m0, m1, m2, m3⟩ := hq
        go_wp2_with fail
        refine (pSameCircuit_any (2 * (k : Int)) 1 A7 A8 g7.length ca7 ca8 O7 O8 o7.length co7 co8 g7 o7 _ r7_248 r8_250 (by omega) (by omega)).mono ?_
        rintro e a253 ⟨rfl, b254⟩
        clear k0 k1 k2 k3 m0 m1 m2 m3
        have r1_255 := And.intro (r1_236.1.below b254 (Nat.le_refl _)) (r1_236.2.below b254 (Nat.le_refl _))
        have p1_256 := p1_237.below b254
        have r2_257 := And.intro (r2_238.1.below b254 (Nat.le_refl _)) (r2_238.2.below b254 (Nat.le_refl _))
        have p2_258 := p2_239.below b254
        have r3_259 := And.intro (r3_240.1.below b254 (Nat.le_refl _)) (r3_240.2.below b254 (Nat.le_refl _))
        have p3_260 := p3_241.below b254
        have r4_261 := And.intro (r4_242.1.below b254 (Nat.le_refl _)) (r4_242.2.below b254 (Nat.le_refl _))
        have p4_262 := p4_243.below b254
        have r5_263 := And.intro (r5_244.1.below b254 (Nat.le_refl _)) (r5_244.2.below b254 (Nat.le_refl _))
        have p5_264 := p5_245.below b254
        have r6_265 := And.intro (r6_246.1.below b254 (Nat.le_refl _)) (r6_246.2.below b254 (Nat.le_refl _))
        have p6_266 := p6_247.below b254
        have r7_267 := And.intro (r7_248.1.below b254 (Nat.le_refl _)) (r7_248.2.below b254 (Nat.le_refl _))
        have p7_268 := p7_249.below b254
        have r8_269 := And.intro (r8_250.1.below b254 (Nat.le_refl _)) (r8_250.2.below b254 (Nat.le_refl _))
        have p8_270 := p8_251.below b254
        have B_271 := B_252.trans (b254.mono B_252.size)
        clear r1_236 p1_237 r2_238 p2_239 r3_240 p3_241 r4_242 p4_243 r5_244 p5_245 r6_246 p6_247 r7_248 p7_249 r8_250 p8_251 B_252
        clear r1_255
        clear p1_256
        clear r3_259
        clear p3_260
        clear r5_263
        clear p5_264
        clear r7_267
        clear p7_268
        obtain ⟨N, hN⟩ : ∃ N : Nat, 2 ^ k = N := ⟨_, rfl⟩
        have hN1 : 1 ≤ N := by rw [← hN]; exact Nat.one_le_two_pow
        have hN2 : N ≤ 256 := by rw [← hN]; exact Nat.le_trans (Nat.pow_le_pow_right (by omega) hk8) (by decide)
        have hNi : (2 : Int) ^ k = N := by rw [← hN]; simp
        have hta : ((k : Nat) : Int).toNat = k := by simp
        have hN0 : ¬ (N : Int) = 0 := by omega
        go_wp2_with fail
        go_quiet (fail)
        obtain ⟨U, hU⟩ : ∃ U : Nat, (3 * (n : Int) + m) % (N : Int) = U := ⟨_, (Int.toNat_of_nonneg (Int.emod_nonneg _ hN0)).symm⟩
        obtain ⟨V, hV⟩ : ∃ V : Nat, (5 * (m : Int) + 2) % (N : Int) = V := ⟨_, (Int.toNat_of_nonneg (Int.emod_nonneg _ hN0)).symm⟩
        have hUb : U < N := by have := Int.emod_lt_of_pos (3 * (n : Int) + m) (show (0 : Int) < N by omega); omega
        have hVb : V < N := by have := Int.emod_lt_of_pos (5 * (m : Int) + 2) (show (0 : Int) < N by omega); omega
        rw [hU, hV]
        have hUk : U < 2 ^ k := by rw [hN]; exact hUb
        have hVk : V < 2 ^ k := by rw [hN]; exact hVb
        have HN := Lib.hid hN
        have HNi := Lib.hid hNi
        have HU := Lib.hid (And.intro hUk hVk)
        clear hU hV hN hNi hta hN0 hUk hVk
        rcases Nat.lt_trichotomy U V with h | h | h
        · have h1 : (U : Int) < V := by omega
          have h2 : ((U : Int) == V) = false := by simp; omega
          have hq := p2_258; obtain ⟨k0, k1, k2, k3⟩ := hq
          go_wp2_with fail
          refine (RunWith_ok k k A2 g1.length ca2 O2 o1.length co2 U V k k g1 o1 _ (rd_drewN r2_257 _) (by omega) ho1 HD1.out rfl rfl (by omega) (by omega) HU.out.1 HU.out.2).mono ?_
          rintro e a273 ⟨he, b2740⟩
          rw [HA1.out U V HU.out.1 HU.out.2, if_pos h] at he
          subst he
          have b274 := (below_of_drewN _).trans b2740
          clear b2740 k0 k1 k2 k3
          have r2_275 := And.intro (r2_257.1.below b274 (Nat.le_refl _)) (r2_257.2.below b274 (Nat.le_refl _))
          have p2_276 := p2_258.below b274
          have r4_277 := And.intro (r4_261.1.below b274 (Nat.le_refl _)) (r4_261.2.below b274 (Nat.le_refl _))
          have p4_278 := p4_262.below b274
          have r6_279 := And.intro (r6_265.1.below b274 (Nat.le_refl _)) (r6_265.2.below b274 (Nat.le_refl _))
          have p6_280 := p6_266.below b274
          have r8_281 := And.intro (r8_269.1.below b274 (Nat.le_refl _)) (r8_269.2.below b274 (Nat.le_refl _))
          have p8_282 := p8_270.below b274
          have B_283 := B_271.trans (b274.mono B_271.size)
          clear r2_257 p2_258 r4_261 p4_262 r6_265 p6_266 r8_269 p8_270 B_271
          have hq := p4_278; obtain ⟨k0, k1, k2, k3⟩ := hq
          go_wp2_with fail
          refine (RunWith_ok k k A4 g3.length ca4 O4 o3.length co4 U V k k g3 o3 a273 r4_277 (by omega) ho3 HD3.out rfl rfl (by omega) (by omega) HU.out.1 HU.out.2).mono ?_
          rintro e a285 ⟨he, b2860⟩
          rw [HA3.out U V HU.out.1 HU.out.2, if_pos h] at he
          subst he
          have b286 := b2860
          clear b2860 k0 k1 k2 k3
          have r2_287 := And.intro (r2_275.1.below b286 (Nat.le_refl _)) (r2_275.2.below b286 (Nat.le_refl _))
          have p2_288 := p2_276.below b286
          have r4_289 := And.intro (r4_277.1.below b286 (Nat.le_refl _)) (r4_277.2.below b286 (Nat.le_refl _))
          have p4_290 := p4_278.below b286
          have r6_291 := And.intro (r6_279.1.below b286 (Nat.le_refl _)) (r6_279.2.below b286 (Nat.le_refl _))
          have p6_292 := p6_280.below b286
          have r8_293 := And.intro (r8_281.1.below b286 (Nat.le_refl _)) (r8_281.2.below b286 (Nat.le_refl _))
          have p8_294 := p8_282.below b286
          have B_295 := B_283.trans (b286.mono B_283.size)
          clear r2_275 p2_276 r4_277 p4_278 r6_279 p6_280 r8_281 p8_282 B_283
          have hq := p6_292; obtain ⟨k0, k1, k2, k3⟩ := hq
          go_wp2_with fail
          refine (RunWith_ok k k A6 g5.length ca6 O6 o5.length co6 U V k k g5 o5 a285 r6_291 (by omega) ho5 HD5.out rfl rfl (by omega) (by omega) HU.out.1 HU.out.2).mono ?_
          rintro e a297 ⟨he, b2980⟩
          rw [HA5.out U V HU.out.1 HU.out.2, if_neg (by omega)] at he
          subst he
          have b298 := b2980
          clear b2980 k0 k1 k2 k3
          have r2_299 := And.intro (r2_287.1.below b298 (Nat.le_refl _)) (r2_287.2.below b298 (Nat.le_refl _))
          have p2_300 := p2_288.below b298
          have r4_301 := And.intro (r4_289.1.below b298 (Nat.le_refl _)) (r4_289.2.below b298 (Nat.le_refl _))
          have p4_302 := p4_290.below b298
          have r6_303 := And.intro (r6_291.1.below b298 (Nat.le_refl _)) (r6_291.2.below b298 (Nat.le_refl _))
          have p6_304 := p6_292.below b298
          have r8_305 := And.intro (r8_293.1.below b298 (Nat.le_refl _)) (r8_293.2.below b298 (Nat.le_refl _))
          have p8_306 := p8_294.below b298
          have B_307 := B_295.trans (b298.mono B_295.size)
          clear r2_287 p2_288 r4_289 p4_290 r6_291 p6_292 r8_293 p8_294 B_295
          obtain ⟨S, hS⟩ : ∃ S : Nat, U + V * 2 ^ k = S := ⟨_, rfl⟩
          have HS1 : Hid (ans ⟨g7, o7⟩ (bitsN S (2 * k) ++ bitsN 1 1) = (U : Int)) := Lib.hid (by rw [← hS, HA7.out U V 1 HU.out.1 HU.out.2 (by omega), if_pos rfl])
          have HS0 : Hid (ans ⟨g7, o7⟩ (bitsN S (2 * k) ++ bitsN 0 1) = (V : Int)) := Lib.hid (by rw [← hS, HA7.out U V 0 HU.out.1 HU.out.2 (by omega), if_neg (by omega)])
          have HSb : Hid (S < 2 ^ (2 * k)) := Lib.hid (by rw [← hS]; exact sb_lt HU.out.1 HU.out.2)
          have HW : Hid (wrap64 ((U : Int) + wrap64 ((V : Int) * N)) = (S : Int)) := Lib.hid (by rw [HN.out] at hS; rw [← hS]; exact sw_id hUb hVb hN2)
          clear hS
          have hNi := HNi.out
          have hta : ((k : Nat) : Int).toNat = k := by simp
          have hq := p8_306; obtain ⟨k0, k1, k2, k3⟩ := hq
          go_wp2_with fail
          rw [HW.out]
          clear hNi hta
          refine (RunWith_ok (2 * (k : Int)) 1 A8 g7.length ca8 O8 o7.length co8 S 1 (2 * k) 1 g7 o7 _ r8_305 (by omega) ho7 HD7.out (by omega) rfl (by omega) (by omega) HSb.out (by decide)).mono ?_
          rintro e a308 ⟨he, b309⟩
          rw [HS1.out] at he
          subst he
          clear k0 k1 k2 k3
          have r2_310 := And.intro (r2_299.1.below b309 (Nat.le_refl _)) (r2_299.2.below b309 (Nat.le_refl _))
          have p2_311 := p2_300.below b309
          have r4_312 := And.intro (r4_301.1.below b309 (Nat.le_refl _)) (r4_301.2.below b309 (Nat.le_refl _))
          have p4_313 := p4_302.below b309
          have r6_314 := And.intro (r6_303.1.below b309 (Nat.le_refl _)) (r6_303.2.below b309 (Nat.le_refl _))
          have p6_315 := p6_304.below b309
          have r8_316 := And.intro (r8_305.1.below b309 (Nat.le_refl _)) (r8_305.2.below b309 (Nat.le_refl _))
          have p8_317 := p8_306.below b309
          have B_318 := B_307.trans (b309.mono B_307.size)
          clear r2_299 p2_300 r4_301 p4_302 r6_303 p6_304 r8_305 p8_306 B_307
          have hNi := HNi.out
          have hta : ((k : Nat) : Int).toNat = k := by simp
          have hq := p8_317; obtain ⟨k0, k1, k2, k3⟩ := hq
          go_wp2_with fail
          rw [HW.out]
          clear hNi hta
          refine (RunWith_ok (2 * (k : Int)) 1 A8 g7.length ca8 O8 o7.length co8 S 0 (2 * k) 1 g7 o7 _ r8_316 (by omega) ho7 HD7.out (by omega) rfl (by omega) (by omega) HSb.out (by decide)).mono ?_
          rintro e a319 ⟨he, b320⟩
          rw [HS0.out] at he
          subst he
          clear k0 k1 k2 k3
          have r2_321 := And.intro (r2_310.1.below b320 (Nat.le_refl _)) (r2_310.2.below b320 (Nat.le_refl _))
          have p2_322 := p2_311.below b320
          have r4_323 := And.intro (r4_312.1.below b320 (Nat.le_refl _)) (r4_312.2.below b320 (Nat.le_refl _))
          have p4_324 := p4_313.below b320
          have r6_325 := And.intro (r6_314.1.below b320 (Nat.le_refl _)) (r6_314.2.below b320 (Nat.le_refl _))
          have p6_326 := p6_315.below b320
          have r8_327 := And.intro (r8_316.1.below b320 (Nat.le_refl _)) (r8_316.2.below b320 (Nat.le_refl _))
          have p8_328 := p8_317.below b320
          have B_329 := B_318.trans (b320.mono B_318.size)
          clear r2_310 p2_311 r4_312 p4_313 r6_314 p6_315 r8_316 p8_317 B_318
          have n1 : ((U : Int) != U) = false := by simp
          have n2 : ((V : Int) != V) = false := by simp
          clear r2_321
          clear p2_322
          clear r4_323
          clear p4_324
          clear r6_325
          clear p6_326
          clear r8_327
          clear p8_328
          go_wp2_with fail
          have hZ1 : RY a319 Z m := hZ.alt (Alt.of_new (S := fun _ => False) B_329) (fun _ _ _ _ h => h)
          refine (DrawConstantCircuit_any Z m d _ hZ1).mono ?_
          rintro e a330 ⟨cn, cw, hcn, hcw, rfl, bD⟩
          clear hZ1
          have B_331 := B_329.trans (bD.mono B_329.size)
          clear B_329
          clear bD
          cases hc9 : cstF' cn cw with
          | none =>
              have HR9 := Lib.hid hc9
              clear hc9
              go_wp2_with fail
              have q334 := ConstantCircuit_any cn cw a330
              rw [HR9.out] at q334
              refine q334.mono ?_
              clear q334
              rintro e a332 hT
              obtain ⟨B9, cb9, P9, cp9, rfl, r9, b9⟩ := open_cn hT
              clear hT
              have B_335 := B_331.trans (b9.mono B_331.size)
              clear B_331
              clear b9
              have al336 : Below a332.heap.size a332 (a332.alloc (.cells #[.int .i64 0, .int .i64 0, .slice B9 0 cb9, .slice P9 0 cp9] 28)) := (Below.refl _ _).alloc (Nat.le_refl _) _
              have z337 : (a332.alloc (.cells #[.int .i64 0, .int .i64 0, .slice B9 0 cb9, .slice P9 0 cp9] 28)).heap.size = a332.heap.size + 1 := by simp
              have p9_338 : BxC (a332.alloc (.cells #[.int .i64 0, .int .i64 0, .slice B9 0 cb9, .slice P9 0 cp9] 28)) a332.heap.size 0 0 B9 0 cb9 P9 0 cp9 := BxC.new _ _
              have r9_339 := And.intro (r9.1.below al336 (Nat.le_refl _)) (r9.2.below al336 (Nat.le_refl _))
              have B_340 := B_335.trans (al336.mono B_335.size)
              clear r9 B_335
              go_wp2_with fail
              generalize (a332.alloc (.cells #[.int .i64 0, .int .i64 0, .slice B9 0 cb9, .slice P9 0 cp9] 28)) = a341 at *
              clear al336
              have q344 := spec_ConstantCircuit_any cn cw a341
              rw [HR9.out] at q344
              refine q344.mono ?_
              clear q344
              rintro e a342 hT
              obtain ⟨B10, cb10, P10, cp10, rfl, r10, b10⟩ := open_cn hT
              clear hT
              have r9_345 := And.intro (r9_339.1.below b10 (Nat.le_refl _)) (r9_339.2.below b10 (Nat.le_refl _))
              have p9_346 := p9_338.below b10
              have B_347 := B_340.trans (b10.mono B_340.size)
              clear r9_339 p9_338 B_340
              clear b10
              have al348 : Below a342.heap.size a342 (a342.alloc (.cells #[.int .i64 0, .int .i64 0, .slice B10 0 cb10, .slice P10 0 cp10] 28)) := (Below.refl _ _).alloc (Nat.le_refl _) _
              have z349 : (a342.alloc (.cells #[.int .i64 0, .int .i64 0, .slice B10 0 cb10, .slice P10 0 cp10] 28)).heap.size = a342.heap.size + 1 := by simp
              have p10_350 : BxC (a342.alloc (.cells #[.int .i64 0, .int .i64 0, .slice B10 0 cb10, .slice P10 0 cp10] 28)) a342.heap.size 0 0 B10 0 cb10 P10 0 cp10 := BxC.new _ _
              have r9_351 := And.intro (r9_345.1.below al348 (Nat.le_refl _)) (r9_345.2.below al348 (Nat.le_refl _))
              have p9_352 := p9_346.below al348
              have r10_353 := And.intro (r10.1.below al348 (Nat.le_refl _)) (r10.2.below al348 (Nat.le_refl _))
              have B_354 := B_347.trans (al348.mono B_347.size)
              clear r9_345 p9_346 r10 B_347
              go_wp2_with fail
              generalize (a342.alloc (.cells #[.int .i64 0, .int .i64 0, .slice B10 0 cb10, .slice P10 0 cp10] 28)) = a355 at *
              clear al348
              have hZ2 : RY a355 Z m := hZ.alt (Alt.of_new (S := fun _ => False) B_354) (fun _ _ _ _ h => h)
              refine (DrawAndsOf_any Z m d _ hZ2).mono ?_
              rintro e a356 ⟨kd, kw, hkd, hkw, rfl, bE⟩
              clear hZ2
              have r9_357 := And.intro (r9_351.1.below bE (Nat.le_refl _)) (r9_351.2.below bE (Nat.le_refl _))
              have p9_358 := p9_352.below bE
              have r10_359 := And.intro (r10_353.1.below bE (Nat.le_refl _)) (r10_353.2.below bE (Nat.le_refl _))
              have p10_360 := p10_350.below bE
              have B_361 := B_354.trans (bE.mono B_354.size)
              clear r9_351 p9_352 r10_353 p10_350 B_354
              clear bE
              obtain ⟨qb, hqb⟩ : ∃ q, (circK kd kw).isSome = q := ⟨_, rfl⟩
              obtain ⟨qi, hqi⟩ : ∃ q, andsK kd kw = q := ⟨_, rfl⟩
              have HQB := Lib.hid hqb; have HQI := Lib.hid hqi
              clear hqb hqi
              go_wp2_with fail
              have q364 := AndsOf_any kd kw a356
              rw [HQB.out, HQI.out] at q364
              refine q364.mono ?_
              clear q364
              rintro e a362 ⟨rfl, b363⟩
              have r9_365 := And.intro (r9_357.1.below b363 (Nat.le_refl _)) (r9_357.2.below b363 (Nat.le_refl _))
              have p9_366 := p9_358.below b363
              have r10_367 := And.intro (r10_359.1.below b363 (Nat.le_refl _)) (r10_359.2.below b363 (Nat.le_refl _))
              have p10_368 := p10_360.below b363
              have B_369 := B_361.trans (b363.mono B_361.size)
              clear r9_357 p9_358 r10_359 p10_360 B_361
              go_wp2_with fail
              have q372 := spec_AndsOf_any kd kw a362
              rw [HQB.out, HQI.out] at q372
              refine q372.mono ?_
              clear q372
              rintro e a370 ⟨rfl, b371⟩
              have r9_373 := And.intro (r9_365.1.below b371 (Nat.le_refl _)) (r9_365.2.below b371 (Nat.le_refl _))
              have p9_374 := p9_366.below b371
              have r10_375 := And.intro (r10_367.1.below b371 (Nat.le_refl _)) (r10_367.2.below b371 (Nat.le_refl _))
              have p10_376 := p10_368.below b371
              have B_377 := B_369.trans (b371.mono B_369.size)
              clear r9_365 p9_366 r10_367 p10_368 B_369
              have n5 : (qb != qb) = false := by simp
              have n6 : (qi != qi) = false := by simp
              have hq := p9_374; obtain ⟨k0, k1, k2, k3⟩ := hq
              have hq := p10_376; obtain ⟨m0, m1, m2, m3⟩ := hq
              go_wp2_with fail
              refine (pSameCircuit_any 0 0 B9 B10 0 cb9 cb10 P9 P10 0 cp9 cp10 [] [] _ r9_373 r10_375 (by omega) (by omega)).mono ?_
              rintro e a378 ⟨rfl, b379⟩
              clear k0 k1 k2 k3 m0 m1 m2 m3
              have r9_380 := And.intro (r9_373.1.below b379 (Nat.le_refl _)) (r9_373.2.below b379 (Nat.le_refl _))
              have p9_381 := p9_374.below b379
              have r10_382 := And.intro (r10_375.1.below b379 (Nat.le_refl _)) (r10_375.2.below b379 (Nat.le_refl _))
              have p10_383 := p10_376.below b379
              have B_384 := B_377.trans (b379.mono B_377.size)
              clear r9_373 p9_374 r10_375 p10_376 B_377
              go_wp2
              go_ret
              exact ⟨rfl, B_384⟩
          | some M9 =>
              obtain ⟨i9, j9, g9, o9⟩ := M9
              obtain ⟨hi9, hj9, hC9, hl9, hA9⟩ := cst_law hc9
              dsimp only at hi9 hj9 hC9 hl9 hA9
              subst hi9
              subst hj9
              have hg9 : g9.length ≤ 300 := (circB_bd hC9).2.2.1
              have HC9 := Lib.hid hC9; have HA9 := Lib.hid hA9
              clear hC9 hA9
              have HR9 := Lib.hid hc9
              clear hc9
              go_wp2_with fail
              have q334 := ConstantCircuit_any cn cw a330
              rw [HR9.out] at q334
              refine q334.mono ?_
              clear q334
              rintro e a332 hT
              obtain ⟨B9, cb9, P9, cp9, rfl, r9, b9⟩ := open_cs hT
              clear hT
              dsimp only at r9 ⊢
              have B_335 := B_331.trans (b9.mono B_331.size)
              clear B_331
              clear b9
              have al336 : Below a332.heap.size a332 (a332.alloc (.cells #[.int .i64 0, .int .i64 0, .slice B9 g9.length cb9, .slice P9 o9.length cp9] 28)) := (Below.refl _ _).alloc (Nat.le_refl _) _
              have z337 : (a332.alloc (.cells #[.int .i64 0, .int .i64 0, .slice B9 g9.length cb9, .slice P9 o9.length cp9] 28)).heap.size = a332.heap.size + 1 := by simp
              have p9_338 : BxC (a332.alloc (.cells #[.int .i64 0, .int .i64 0, .slice B9 g9.length cb9, .slice P9 o9.length cp9] 28)) a332.heap.size 0 0 B9 g9.length cb9 P9 o9.length cp9 := BxC.new _ _
              have r9_339 := And.intro (r9.1.below al336 (Nat.le_refl _)) (r9.2.below al336 (Nat.le_refl _))
              have B_340 := B_335.trans (al336.mono B_335.size)
              clear r9 B_335
              go_wp2_with fail
              generalize (a332.alloc (.cells #[.int .i64 0, .int .i64 0, .slice B9 g9.length cb9, .slice P9 o9.length cp9] 28)) = a341 at *
              clear al336
              have q344 := spec_ConstantCircuit_any cn cw a341
              rw [HR9.out] at q344
              refine q344.mono ?_
              clear q344
              rintro e a342 hT
              obtain ⟨B10, cb10, P10, cp10, rfl, r10, b10⟩ := open_cs hT
              clear hT
              dsimp only at r10 ⊢
              have r9_345 := And.intro (r9_339.1.below b10 (Nat.le_refl _)) (r9_339.2.below b10 (Nat.le_refl _))
              have p9_346 := p9_338.below b10
              have B_347 := B_340.trans (b10.mono B_340.size)
              clear r9_339 p9_338 B_340
              clear b10
              have al348 : Below a342.heap.size a342 (a342.alloc (.cells #[.int .i64 0, .int .i64 0, .slice B10 g9.length cb10, .slice P10 o9.length cp10] 28)) := (Below.refl _ _).alloc (Nat.le_refl _) _
              have z349 : (a342.alloc (.cells #[.int .i64 0, .int .i64 0, .slice B10 g9.length cb10, .slice P10 o9.length cp10] 28)).heap.size = a342.heap.size + 1 := by simp
              have p10_350 : BxC (a342.alloc (.cells #[.int .i64 0, .int .i64 0, .slice B10 g9.length cb10, .slice P10 o9.length cp10] 28)) a342.heap.size 0 0 B10 g9.length cb10 P10 o9.length cp10 := BxC.new _ _
              have r9_351 := And.intro (r9_345.1.below al348 (Nat.le_refl _)) (r9_345.2.below al348 (Nat.le_refl _))
              have p9_352 := p9_346.below al348
              have r10_353 := And.intro (r10.1.below al348 (Nat.le_refl _)) (r10.2.below al348 (Nat.le_refl _))
              have B_354 := B_347.trans (al348.mono B_347.size)
              clear r9_345 p9_346 r10 B_347
              go_wp2_with fail
              generalize (a342.alloc (.cells #[.int .i64 0, .int .i64 0, .slice B10 g9.length cb10, .slice P10 o9.length cp10] 28)) = a355 at *
              clear al348
              have hZ2 : RY a355 Z m := hZ.alt (Alt.of_new (S := fun _ => False) B_354) (fun _ _ _ _ h => h)
              refine (DrawAndsOf_any Z m d _ hZ2).mono ?_
              rintro e a356 ⟨kd, kw, hkd, hkw, rfl, bE⟩
              clear hZ2
              have r9_357 := And.intro (r9_351.1.below bE (Nat.le_refl _)) (r9_351.2.below bE (Nat.le_refl _))
              have p9_358 := p9_352.below bE
              have r10_359 := And.intro (r10_353.1.below bE (Nat.le_refl _)) (r10_353.2.below bE (Nat.le_refl _))
              have p10_360 := p10_350.below bE
              have B_361 := B_354.trans (bE.mono B_354.size)
              clear r9_351 p9_352 r10_353 p10_350 B_354
              clear bE
              obtain ⟨qb, hqb⟩ : ∃ q, (circK kd kw).isSome = q := ⟨_, rfl⟩
              obtain ⟨qi, hqi⟩ : ∃ q, andsK kd kw = q := ⟨_, rfl⟩
              have HQB := Lib.hid hqb; have HQI := Lib.hid hqi
              clear hqb hqi
              go_wp2_with fail
              have q364 := AndsOf_any kd kw a356
              rw [HQB.out, HQI.out] at q364
              refine q364.mono ?_
              clear q364
              rintro e a362 ⟨rfl, b363⟩
              have r9_365 := And.intro (r9_357.1.below b363 (Nat.le_refl _)) (r9_357.2.below b363 (Nat.le_refl _))
              have p9_366 := p9_358.below b363
              have r10_367 := And.intro (r10_359.1.below b363 (Nat.le_refl _)) (r10_359.2.below b363 (Nat.le_refl _))
              have p10_368 := p10_360.below b363
              have B_369 := B_361.trans (b363.mono B_361.size)
              clear r9_357 p9_358 r10_359 p10_360 B_361
              go_wp2_with fail
              have q372 := spec_AndsOf_any kd kw a362
              rw [HQB.out, HQI.out] at q372
              refine q372.mono ?_
              clear q372
              rintro e a370 ⟨rfl, b371⟩
              have r9_373 := And.intro (r9_365.1.below b371 (Nat.le_refl _)) (r9_365.2.below b371 (Nat.le_refl _))
              have p9_374 := p9_366.below b371
              have r10_375 := And.intro (r10_367.1.below b371 (Nat.le_refl _)) (r10_367.2.below b371 (Nat.le_refl _))
              have p10_376 := p10_368.below b371
              have B_377 := B_369.trans (b371.mono B_369.size)
              clear r9_365 p9_366 r10_367 p10_368 B_369
              have n5 : (qb != qb) = false := by simp
              have n6 : (qi != qi) = false := by simp
              have hq := p9_374; obtain ⟨k0, k1, k2, k3⟩ := hq
              have hq := p10_376; obtain ⟨m0, m1, m2, m3⟩ := hq
              go_wp2_with fail
              refine (pSameCircuit_any 0 0 B9 B10 g9.length cb9 cb10 P9 P10 o9.length cp9 cp10 g9 o9 _ r9_373 r10_375 (by omega) (by omega)).mono ?_
              rintro e a378 ⟨rfl, b379⟩
              clear k0 k1 k2 k3 m0 m1 m2 m3
              have r9_380 := And.intro (r9_373.1.below b379 (Nat.le_refl _)) (r9_373.2.below b379 (Nat.le_refl _))
              have p9_381 := p9_374.below b379
              have r10_382 := And.intro (r10_375.1.below b379 (Nat.le_refl _)) (r10_375.2.below b379 (Nat.le_refl _))
              have p10_383 := p10_376.below b379
              have B_384 := B_377.trans (b379.mono B_377.size)
              clear r9_373 p9_374 r10_375 p10_376 B_377
              have hq := p10_383; obtain ⟨k0, k1, k2, k3⟩ := hq
              go_wp2_with fail
              refine (RunWith_ok 0 0 B10 g9.length cb10 P10 o9.length cp10 0 0 0 0 g9 o9 _ r10_382 (by omega) hl9 HC9.out rfl rfl (by omega) (by omega) (by decide) (by decide)).mono ?_
              rintro e a385 ⟨he, b386⟩
              rw [HA9.out] at he
              subst he
              clear k0 k1 k2 k3
              have n7 : (cn == cn) = true := by simp
              have r9_387 := And.intro (r9_380.1.below b386 (Nat.le_refl _)) (r9_380.2.below b386 (Nat.le_refl _))
              have p9_388 := p9_381.below b386
              have r10_389 := And.intro (r10_382.1.below b386 (Nat.le_refl _)) (r10_382.2.below b386 (Nat.le_refl _))
              have p10_390 := p10_383.below b386
              have B_391 := B_384.trans (b386.mono B_384.size)
              clear r9_380 p9_381 r10_382 p10_383 B_384
              go_wp2
              go_ret
              exact ⟨rfl, B_391⟩
        · subst h
          have h2 : ((U : Int) == U) = true := by simp
          have h1 : ¬ (U : Int) < U := by omega
          have hq := p2_258; obtain ⟨k0, k1, k2, k3⟩ := hq
          go_wp2_with fail
          refine (RunWith_ok k k A2 g1.length ca2 O2 o1.length co2 U U k k g1 o1 _ (rd_drewN r2_257 _) (by omega) ho1 HD1.out rfl rfl (by omega) (by omega) HU.out.1 HU.out.2).mono ?_
          rintro e a273 ⟨he, b2740⟩
          rw [HA1.out U U HU.out.1 HU.out.2, if_neg (Nat.lt_irrefl U)] at he
          subst he
          have b274 := (below_of_drewN _).trans b2740
          clear b2740 k0 k1 k2 k3
          have r2_275 := And.intro (r2_257.1.below b274 (Nat.le_refl _)) (r2_257.2.below b274 (Nat.le_refl _))
          have p2_276 := p2_258.below b274
          have r4_277 := And.intro (r4_261.1.below b274 (Nat.le_refl _)) (r4_261.2.below b274 (Nat.le_refl _))
          have p4_278 := p4_262.below b274
          have r6_279 := And.intro (r6_265.1.below b274 (Nat.le_refl _)) (r6_265.2.below b274 (Nat.le_refl _))
          have p6_280 := p6_266.below b274
          have r8_281 := And.intro (r8_269.1.below b274 (Nat.le_refl _)) (r8_269.2.below b274 (Nat.le_refl _))
          have p8_282 := p8_270.below b274
          have B_283 := B_271.trans (b274.mono B_271.size)
          clear r2_257 p2_258 r4_261 p4_262 r6_265 p6_266 r8_269 p8_270 B_271
          have hq := p4_278; obtain ⟨k0, k1, k2, k3⟩ := hq
          go_wp2_with fail
          refine (RunWith_ok k k A4 g3.length ca4 O4 o3.length co4 U U k k g3 o3 a273 r4_277 (by omega) ho3 HD3.out rfl rfl (by omega) (by omega) HU.out.1 HU.out.2).mono ?_
          rintro e a285 ⟨he, b2860⟩
          rw [HA3.out U U HU.out.1 HU.out.2, if_neg (Nat.lt_irrefl U)] at he
          subst he
          have b286 := b2860
          clear b2860 k0 k1 k2 k3
          have r2_287 := And.intro (r2_275.1.below b286 (Nat.le_refl _)) (r2_275.2.below b286 (Nat.le_refl _))
          have p2_288 := p2_276.below b286
          have r4_289 := And.intro (r4_277.1.below b286 (Nat.le_refl _)) (r4_277.2.below b286 (Nat.le_refl _))
          have p4_290 := p4_278.below b286
          have r6_291 := And.intro (r6_279.1.below b286 (Nat.le_refl _)) (r6_279.2.below b286 (Nat.le_refl _))
          have p6_292 := p6_280.below b286
          have r8_293 := And.intro (r8_281.1.below b286 (Nat.le_refl _)) (r8_281.2.below b286 (Nat.le_refl _))
          have p8_294 := p8_282.below b286
          have B_295 := B_283.trans (b286.mono B_283.size)
          clear r2_275 p2_276 r4_277 p4_278 r6_279 p6_280 r8_281 p8_282 B_283
          have hq := p6_292; obtain ⟨k0, k1, k2, k3⟩ := hq
          go_wp2_with fail
          refine (RunWith_ok k k A6 g5.length ca6 O6 o5.length co6 U U k k g5 o5 a285 r6_291 (by omega) ho5 HD5.out rfl rfl (by omega) (by omega) HU.out.1 HU.out.2).mono ?_
          rintro e a297 ⟨he, b2980⟩
          rw [HA5.out U U HU.out.1 HU.out.2, if_pos rfl] at he
          subst he
          have b298 := b2980
          clear b2980 k0 k1 k2 k3
          have r2_299 := And.intro (r2_287.1.below b298 (Nat.le_refl _)) (r2_287.2.below b298 (Nat.le_refl _))
          have p2_300 := p2_288.below b298
          have r4_301 := And.intro (r4_289.1.below b298 (Nat.le_refl _)) (r4_289.2.below b298 (Nat.le_refl _))
          have p4_302 := p4_290.below b298
          have r6_303 := And.intro (r6_291.1.below b298 (Nat.le_refl _)) (r6_291.2.below b298 (Nat.le_refl _))
          have p6_304 := p6_292.below b298
          have r8_305 := And.intro (r8_293.1.below b298 (Nat.le_refl _)) (r8_293.2.below b298 (Nat.le_refl _))
          have p8_306 := p8_294.below b298
          have B_307 := B_295.trans (b298.mono B_295.size)
          clear r2_287 p2_288 r4_289 p4_290 r6_291 p6_292 r8_293 p8_294 B_295
          obtain ⟨S, hS⟩ : ∃ S : Nat, U + U * 2 ^ k = S := ⟨_, rfl⟩
          have HS1 : Hid (ans ⟨g7, o7⟩ (bitsN S (2 * k) ++ bitsN 1 1) = (U : Int)) := Lib.hid (by rw [← hS, HA7.out U U 1 HU.out.1 HU.out.2 (by omega), if_pos rfl])
          have HS0 : Hid (ans ⟨g7, o7⟩ (bitsN S (2 * k) ++ bitsN 0 1) = (U : Int)) := Lib.hid (by rw [← hS, HA7.out U U 0 HU.out.1 HU.out.2 (by omega), if_neg (by omega)])
          have HSb : Hid (S < 2 ^ (2 * k)) := Lib.hid (by rw [← hS]; exact sb_lt HU.out.1 HU.out.2)
          have HW : Hid (wrap64 ((U : Int) + wrap64 ((U : Int) * N)) = (S : Int)) := Lib.hid (by rw [HN.out] at hS; rw [← hS]; exact sw_id hUb hUb hN2)
          clear hS
          have hNi := HNi.out
          have hta : ((k : Nat) : Int).toNat = k := by simp
          have hq := p8_306; obtain ⟨k0, k1, k2, k3⟩ := hq
          go_wp2_with fail
          rw [HW.out]
          clear hNi hta
          refine (RunWith_ok (2 * (k : Int)) 1 A8 g7.length ca8 O8 o7.length co8 S 1 (2 * k) 1 g7 o7 _ r8_305 (by omega) ho7 HD7.out (by omega) rfl (by omega) (by omega) HSb.out (by decide)).mono ?_
          rintro e a308 ⟨he, b309⟩
          rw [HS1.out] at he
          subst he
          clear k0 k1 k2 k3
          have r2_310 := And.intro (r2_299.1.below b309 (Nat.le_refl _)) (r2_299.2.below b309 (Nat.le_refl _))
          have p2_311 := p2_300.below b309
          have r4_312 := And.intro (r4_301.1.below b309 (Nat.le_refl _)) (r4_301.2.below b309 (Nat.le_refl _))
          have p4_313 := p4_302.below b309
          have r6_314 := And.intro (r6_303.1.below b309 (Nat.le_refl _)) (r6_303.2.below b309 (Nat.le_refl _))
          have p6_315 := p6_304.below b309
          have r8_316 := And.intro (r8_305.1.below b309 (Nat.le_refl _)) (r8_305.2.below b309 (Nat.le_refl _))
          have p8_317 := p8_306.below b309
          have B_318 := B_307.trans (b309.mono B_307.size)
          clear r2_299 p2_300 r4_301 p4_302 r6_303 p6_304 r8_305 p8_306 B_307
          have hNi := HNi.out
          have hta : ((k : Nat) : Int).toNat = k := by simp
          have hq := p8_317; obtain ⟨k0, k1, k2, k3⟩ := hq
          go_wp2_with fail
          rw [HW.out]
          clear hNi hta
          refine (RunWith_ok (2 * (k : Int)) 1 A8 g7.length ca8 O8 o7.length co8 S 0 (2 * k) 1 g7 o7 _ r8_316 (by omega) ho7 HD7.out (by omega) rfl (by omega) (by omega) HSb.out (by decide)).mono ?_
          rintro e a319 ⟨he, b320⟩
          rw [HS0.out] at he
          subst he
          clear k0 k1 k2 k3
          have r2_321 := And.intro (r2_310.1.below b320 (Nat.le_refl _)) (r2_310.2.below b320 (Nat.le_refl _))
          have p2_322 := p2_311.below b320
          have r4_323 := And.intro (r4_312.1.below b320 (Nat.le_refl _)) (r4_312.2.below b320 (Nat.le_refl _))
          have p4_324 := p4_313.below b320
          have r6_325 := And.intro (r6_314.1.below b320 (Nat.le_refl _)) (r6_314.2.below b320 (Nat.le_refl _))
          have p6_326 := p6_315.below b320
          have r8_327 := And.intro (r8_316.1.below b320 (Nat.le_refl _)) (r8_316.2.below b320 (Nat.le_refl _))
          have p8_328 := p8_317.below b320
          have B_329 := B_318.trans (b320.mono B_318.size)
          clear r2_310 p2_311 r4_312 p4_313 r6_314 p6_315 r8_316 p8_317 B_318
          have n1 : ((U : Int) != U) = false := by simp
          have n2 : ((U : Int) != U) = false := by simp
          clear r2_321
          clear p2_322
          clear r4_323
          clear p4_324
          clear r6_325
          clear p6_326
          clear r8_327
          clear p8_328
          go_wp2_with fail
          have hZ1 : RY a319 Z m := hZ.alt (Alt.of_new (S := fun _ => False) B_329) (fun _ _ _ _ h => h)
          refine (DrawConstantCircuit_any Z m d _ hZ1).mono ?_
          rintro e a330 ⟨cn, cw, hcn, hcw, rfl, bD⟩
          clear hZ1
          have B_331 := B_329.trans (bD.mono B_329.size)
          clear B_329
          clear bD
          cases hc9 : cstF' cn cw with
          | none =>
              have HR9 := Lib.hid hc9
              clear hc9
              go_wp2_with fail
              have q334 := ConstantCircuit_any cn cw a330
              rw [HR9.out] at q334
              refine q334.mono ?_
              clear q334
              rintro e a332 hT
              obtain ⟨B9, cb9, P9, cp9, rfl, r9, b9⟩ := open_cn hT
              clear hT
              have B_335 := B_331.trans (b9.mono B_331.size)
              clear B_331
              clear b9
              have al336 : Below a332.heap.size a332 (a332.alloc (.cells #[.int .i64 0, .int .i64 0, .slice B9 0 cb9, .slice P9 0 cp9] 28)) := (Below.refl _ _).alloc (Nat.le_refl _) _
              have z337 : (a332.alloc (.cells #[.int .i64 0, .int .i64 0, .slice B9 0 cb9, .slice P9 0 cp9] 28)).heap.size = a332.heap.size + 1 := by simp
              have p9_338 : BxC (a332.alloc (.cells #[.int .i64 0, .int .i64 0, .slice B9 0 cb9, .slice P9 0 cp9] 28)) a332.heap.size 0 0 B9 0 cb9 P9 0 cp9 := BxC.new _ _
              have r9_339 := And.intro (r9.1.below al336 (Nat.le_refl _)) (r9.2.below al336 (Nat.le_refl _))
              have B_340 := B_335.trans (al336.mono B_335.size)
              clear r9 B_335
              go_wp2_with fail
              generalize (a332.alloc (.cells #[.int .i64 0, .int .i64 0, .slice B9 0 cb9, .slice P9 0 cp9] 28)) = a341 at *
              clear al336
              have q344 := spec_ConstantCircuit_any cn cw a341
              rw [HR9.out] at q344
              refine q344.mono ?_
              clear q344
              rintro e a342 hT
              obtain ⟨B10, cb10, P10, cp10, rfl, r10, b10⟩ := open_cn hT
              clear hT
              have r9_345 := And.intro (r9_339.1.below b10 (Nat.le_refl _)) (r9_339.2.below b10 (Nat.le_refl _))
              have p9_346 := p9_338.below b10
              have B_347 := B_340.trans (b10.mono B_340.size)
              clear r9_339 p9_338 B_340
              clear b10
              have al348 : Below a342.heap.size a342 (a342.alloc (.cells #[.int .i64 0, .int .i64 0, .slice B10 0 cb10, .slice P10 0 cp10] 28)) := (Below.refl _ _).alloc (Nat.le_refl _) _
              have z349 : (a342.alloc (.cells #[.int .i64 0, .int .i64 0, .slice B10 0 cb10, .slice P10 0 cp10] 28)).heap.size = a342.heap.size + 1 := by simp
              have p10_350 : BxC (a342.alloc (.cells #[.int .i64 0, .int .i64 0, .slice B10 0 cb10, .slice P10 0 cp10] 28)) a342.heap.size 0 0 B10 0 cb10 P10 0 cp10 := BxC.new _ _
              have r9_351 := And.intro (r9_345.1.below al348 (Nat.le_refl _)) (r9_345.2.below al348 (Nat.le_refl _))
              have p9_352 := p9_346.below al348
              have r10_353 := And.intro (r10.1.below al348 (Nat.le_refl _)) (r10.2.below al348 (Nat.le_refl _))
              have B_354 := B_347.trans (al348.mono B_347.size)
              clear r9_345 p9_346 r10 B_347
              go_wp2_with fail
              generalize (a342.alloc (.cells #[.int .i64 0, .int .i64 0, .slice B10 0 cb10, .slice P10 0 cp10] 28)) = a355 at *
              clear al348
              have hZ2 : RY a355 Z m := hZ.alt (Alt.of_new (S := fun _ => False) B_354) (fun _ _ _ _ h => h)
              refine (DrawAndsOf_any Z m d _ hZ2).mono ?_
              rintro e a356 ⟨kd, kw, hkd, hkw, rfl, bE⟩
              clear hZ2
              have r9_357 := And.intro (r9_351.1.below bE (Nat.le_refl _)) (r9_351.2.below bE (Nat.le_refl _))
              have p9_358 := p9_352.below bE
              have r10_359 := And.intro (r10_353.1.below bE (Nat.le_refl _)) (r10_353.2.below bE (Nat.le_refl _))
              have p10_360 := p10_350.below bE
              have B_361 := B_354.trans (bE.mono B_354.size)
              clear r9_351 p9_352 r10_353 p10_350 B_354
              clear bE
              obtain ⟨qb, hqb⟩ : ∃ q, (circK kd kw).isSome = q := ⟨_, rfl⟩
              obtain ⟨qi, hqi⟩ : ∃ q, andsK kd kw = q := ⟨_, rfl⟩
              have HQB := Lib.hid hqb; have HQI := Lib.hid hqi
              clear hqb hqi
              go_wp2_with fail
              have q364 := AndsOf_any kd kw a356
              rw [HQB.out, HQI.out] at q364
              refine q364.mono ?_
              clear q364
              rintro e a362 ⟨rfl, b363⟩
              have r9_365 := And.intro (r9_357.1.below b363 (Nat.le_refl _)) (r9_357.2.below b363 (Nat.le_refl _))
              have p9_366 := p9_358.below b363
              have r10_367 := And.intro (r10_359.1.below b363 (Nat.le_refl _)) (r10_359.2.below b363 (Nat.le_refl _))
              have p10_368 := p10_360.below b363
              have B_369 := B_361.trans (b363.mono B_361.size)
              clear r9_357 p9_358 r10_359 p10_360 B_361
              go_wp2_with fail
              have q372 := spec_AndsOf_any kd kw a362
              rw [HQB.out, HQI.out] at q372
              refine q372.mono ?_
              clear q372
              rintro e a370 ⟨rfl, b371⟩
              have r9_373 := And.intro (r9_365.1.below b371 (Nat.le_refl _)) (r9_365.2.below b371 (Nat.le_refl _))
              have p9_374 := p9_366.below b371
              have r10_375 := And.intro (r10_367.1.below b371 (Nat.le_refl _)) (r10_367.2.below b371 (Nat.le_refl _))
              have p10_376 := p10_368.below b371
              have B_377 := B_369.trans (b371.mono B_369.size)
              clear r9_365 p9_366 r10_367 p10_368 B_369
              have n5 : (qb != qb) = false := by simp
              have n6 : (qi != qi) = false := by simp
              have hq := p9_374; obtain ⟨k0, k1, k2, k3⟩ := hq
              have hq := p10_376; obtain ⟨m0, m1, m2, m3⟩ := hq
              go_wp2_with fail
              refine (pSameCircuit_any 0 0 B9 B10 0 cb9 cb10 P9 P10 0 cp9 cp10 [] [] _ r9_373 r10_375 (by omega) (by omega)).mono ?_
              rintro e a378 ⟨rfl, b379⟩
              clear k0 k1 k2 k3 m0 m1 m2 m3
              have r9_380 := And.intro (r9_373.1.below b379 (Nat.le_refl _)) (r9_373.2.below b379 (Nat.le_refl _))
              have p9_381 := p9_374.below b379
              have r10_382 := And.intro (r10_375.1.below b379 (Nat.le_refl _)) (r10_375.2.below b379 (Nat.le_refl _))
              have p10_383 := p10_376.below b379
              have B_384 := B_377.trans (b379.mono B_377.size)
              clear r9_373 p9_374 r10_375 p10_376 B_377
              go_wp2
              go_ret
              exact ⟨rfl, B_384⟩
          | some M9 =>
              obtain ⟨i9, j9, g9, o9⟩ := M9
              obtain ⟨hi9, hj9, hC9, hl9, hA9⟩ := cst_law hc9
              dsimp only at hi9 hj9 hC9 hl9 hA9
              subst hi9
              subst hj9
              have hg9 : g9.length ≤ 300 := (circB_bd hC9).2.2.1
              have HC9 := Lib.hid hC9; have HA9 := Lib.hid hA9
              clear hC9 hA9
              have HR9 := Lib.hid hc9
              clear hc9
              go_wp2_with fail
              have q334 := ConstantCircuit_any cn cw a330
              rw [HR9.out] at q334
              refine q334.mono ?_
              clear q334
              rintro e a332 hT
              obtain ⟨B9, cb9, P9, cp9, rfl, r9, b9⟩ := open_cs hT
              clear hT
              dsimp only at r9 ⊢
              have B_335 := B_331.trans (b9.mono B_331.size)
              clear B_331
              clear b9
              have al336 : Below a332.heap.size a332 (a332.alloc (.cells #[.int .i64 0, .int .i64 0, .slice B9 g9.length cb9, .slice P9 o9.length cp9] 28)) := (Below.refl _ _).alloc (Nat.le_refl _) _
              have z337 : (a332.alloc (.cells #[.int .i64 0, .int .i64 0, .slice B9 g9.length cb9, .slice P9 o9.length cp9] 28)).heap.size = a332.heap.size + 1 := by simp
              have p9_338 : BxC (a332.alloc (.cells #[.int .i64 0, .int .i64 0, .slice B9 g9.length cb9, .slice P9 o9.length cp9] 28)) a332.heap.size 0 0 B9 g9.length cb9 P9 o9.length cp9 := BxC.new _ _
              have r9_339 := And.intro (r9.1.below al336 (Nat.le_refl _)) (r9.2.below al336 (Nat.le_refl _))
              have B_340 := B_335.trans (al336.mono B_335.size)
              clear r9 B_335
              go_wp2_with fail
              generalize (a332.alloc (.cells #[.int .i64 0, .int .i64 0, .slice B9 g9.length cb9, .slice P9 o9.length cp9] 28)) = a341 at *
              clear al336
              have q344 := spec_ConstantCircuit_any cn cw a341
              rw [HR9.out] at q344
              refine q344.mono ?_
              clear q344
              rintro e a342 hT
              obtain ⟨B10, cb10, P10, cp10, rfl, r10, b10⟩ := open_cs hT
              clear hT
              dsimp only at r10 ⊢
              have r9_345 := And.intro (r9_339.1.below b10 (Nat.le_refl _)) (r9_339.2.below b10 (Nat.le_refl _))
              have p9_346 := p9_338.below b10
              have B_347 := B_340.trans (b10.mono B_340.size)
              clear r9_339 p9_338 B_340
              clear b10
              have al348 : Below a342.heap.size a342 (a342.alloc (.cells #[.int .i64 0, .int .i64 0, .slice B10 g9.length cb10, .slice P10 o9.length cp10] 28)) := (Below.refl _ _).alloc (Nat.le_refl _) _
              have z349 : (a342.alloc (.cells #[.int .i64 0, .int .i64 0, .slice B10 g9.length cb10, .slice P10 o9.length cp10] 28)).heap.size = a342.heap.size + 1 := by simp
              have p10_350 : BxC (a342.alloc (.cells #[.int .i64 0, .int .i64 0, .slice B10 g9.length cb10, .slice P10 o9.length cp10] 28)) a342.heap.size 0 0 B10 g9.length cb10 P10 o9.length cp10 := BxC.new _ _
              have r9_351 := And.intro (r9_345.1.below al348 (Nat.le_refl _)) (r9_345.2.below al348 (Nat.le_refl _))
              have p9_352 := p9_346.below al348
              have r10_353 := And.intro (r10.1.below al348 (Nat.le_refl _)) (r10.2.below al348 (Nat.le_refl _))
              have B_354 := B_347.trans (al348.mono B_347.size)
              clear r9_345 p9_346 r10 B_347
              go_wp2_with fail
              generalize (a342.alloc (.cells #[.int .i64 0, .int .i64 0, .slice B10 g9.length cb10, .slice P10 o9.length cp10] 28)) = a355 at *
              clear al348
              have hZ2 : RY a355 Z m := hZ.alt (Alt.of_new (S := fun _ => False) B_354) (fun _ _ _ _ h => h)
              refine (DrawAndsOf_any Z m d _ hZ2).mono ?_
              rintro e a356 ⟨kd, kw, hkd, hkw, rfl, bE⟩
              clear hZ2
              have r9_357 := And.intro (r9_351.1.below bE (Nat.le_refl _)) (r9_351.2.below bE (Nat.le_refl _))
              have p9_358 := p9_352.below bE
              have r10_359 := And.intro (r10_353.1.below bE (Nat.le_refl _)) (r10_353.2.below bE (Nat.le_refl _))
              have p10_360 := p10_350.below bE
              have B_361 := B_354.trans (bE.mono B_354.size)
              clear r9_351 p9_352 r10_353 p10_350 B_354
              clear bE
              obtain ⟨qb, hqb⟩ : ∃ q, (circK kd kw).isSome = q := ⟨_, rfl⟩
              obtain ⟨qi, hqi⟩ : ∃ q, andsK kd kw = q := ⟨_, rfl⟩
              have HQB := Lib.hid hqb; have HQI := Lib.hid hqi
              clear hqb hqi
              go_wp2_with fail
              have q364 := AndsOf_any kd kw a356
              rw [HQB.out, HQI.out] at q364
              refine q364.mono ?_
              clear q364
              rintro e a362 ⟨rfl, b363⟩
              have r9_365 := And.intro (r9_357.1.below b363 (Nat.le_refl _)) (r9_357.2.below b363 (Nat.le_refl _))
              have p9_366 := p9_358.below b363
              have r10_367 := And.intro (r10_359.1.below b363 (Nat.le_refl _)) (r10_359.2.below b363 (Nat.le_refl _))
              have p10_368 := p10_360.below b363
              have B_369 := B_361.trans (b363.mono B_361.size)
              clear r9_357 p9_358 r10_359 p10_360 B_361
              go_wp2_with fail
              have q372 := spec_AndsOf_any kd kw a362
              rw [HQB.out, HQI.out] at q372
              refine q372.mono ?_
              clear q372
              rintro e a370 ⟨rfl, b371⟩
              have r9_373 := And.intro (r9_365.1.below b371 (Nat.le_refl _)) (r9_365.2.below b371 (Nat.le_refl _))
              have p9_374 := p9_366.below b371
              have r10_375 := And.intro (r10_367.1.below b371 (Nat.le_refl _)) (r10_367.2.below b371 (Nat.le_refl _))
              have p10_376 := p10_368.below b371
              have B_377 := B_369.trans (b371.mono B_369.size)
              clear r9_365 p9_366 r10_367 p10_368 B_369
              have n5 : (qb != qb) = false := by simp
              have n6 : (qi != qi) = false := by simp
              have hq := p9_374; obtain ⟨k0, k1, k2, k3⟩ := hq
              have hq := p10_376; obtain ⟨m0, m1, m2, m3⟩ := hq
              go_wp2_with fail
              refine (pSameCircuit_any 0 0 B9 B10 g9.length cb9 cb10 P9 P10 o9.length cp9 cp10 g9 o9 _ r9_373 r10_375 (by omega) (by omega)).mono ?_
              rintro e a378 ⟨rfl, b379⟩
              clear k0 k1 k2 k3 m0 m1 m2 m3
              have r9_380 := And.intro (r9_373.1.below b379 (Nat.le_refl _)) (r9_373.2.below b379 (Nat.le_refl _))
              have p9_381 := p9_374.below b379
              have r10_382 := And.intro (r10_375.1.below b379 (Nat.le_refl _)) (r10_375.2.below b379 (Nat.le_refl _))
              have p10_383 := p10_376.below b379
              have B_384 := B_377.trans (b379.mono B_377.size)
              clear r9_373 p9_374 r10_375 p10_376 B_377
              have hq := p10_383; obtain ⟨k0, k1, k2, k3⟩ := hq
              go_wp2_with fail
              refine (RunWith_ok 0 0 B10 g9.length cb10 P10 o9.length cp10 0 0 0 0 g9 o9 _ r10_382 (by omega) hl9 HC9.out rfl rfl (by omega) (by omega) (by decide) (by decide)).mono ?_
              rintro e a385 ⟨he, b386⟩
              rw [HA9.out] at he
              subst he
              clear k0 k1 k2 k3
              have n7 : (cn == cn) = true := by simp
              have r9_387 := And.intro (r9_380.1.below b386 (Nat.le_refl _)) (r9_380.2.below b386 (Nat.le_refl _))
              have p9_388 := p9_381.below b386
              have r10_389 := And.intro (r10_382.1.below b386 (Nat.le_refl _)) (r10_382.2.below b386 (Nat.le_refl _))
              have p10_390 := p10_383.below b386
              have B_391 := B_384.trans (b386.mono B_384.size)
              clear r9_380 p9_381 r10_382 p10_383 B_384
              go_wp2
              go_ret
              exact ⟨rfl, B_391⟩
        · have h1 : ¬ (U : Int) < V := by omega
          have h3 : ¬ U < V := by omega
          have h2 : ((U : Int) == V) = false := by simp; omega
          have hq := p2_258; obtain ⟨k0, k1, k2, k3⟩ := hq
          go_wp2_with fail
          refine (RunWith_ok k k A2 g1.length ca2 O2 o1.length co2 U V k k g1 o1 _ (rd_drewN r2_257 _) (by omega) ho1 HD1.out rfl rfl (by omega) (by omega) HU.out.1 HU.out.2).mono ?_
          rintro e a273 ⟨he, b2740⟩
          rw [HA1.out U V HU.out.1 HU.out.2, if_neg h3] at he
          subst he
          have b274 := (below_of_drewN _).trans b2740
          clear b2740 k0 k1 k2 k3
          have r2_275 := And.intro (r2_257.1.below b274 (Nat.le_refl _)) (r2_257.2.below b274 (Nat.le_refl _))
          have p2_276 := p2_258.below b274
          have r4_277 := And.intro (r4_261.1.below b274 (Nat.le_refl _)) (r4_261.2.below b274 (Nat.le_refl _))
          have p4_278 := p4_262.below b274
          have r6_279 := And.intro (r6_265.1.below b274 (Nat.le_refl _)) (r6_265.2.below b274 (Nat.le_refl _))
          have p6_280 := p6_266.below b274
          have r8_281 := And.intro (r8_269.1.below b274 (Nat.le_refl _)) (r8_269.2.below b274 (Nat.le_refl _))
          have p8_282 := p8_270.below b274
          have B_283 := B_271.trans (b274.mono B_271.size)
          clear r2_257 p2_258 r4_261 p4_262 r6_265 p6_266 r8_269 p8_270 B_271
          have hq := p4_278; obtain ⟨k0, k1, k2, k3⟩ := hq
          go_wp2_with fail
          refine (RunWith_ok k k A4 g3.length ca4 O4 o3.length co4 U V k k g3 o3 a273 r4_277 (by omega) ho3 HD3.out rfl rfl (by omega) (by omega) HU.out.1 HU.out.2).mono ?_
          rintro e a285 ⟨he, b2860⟩
          rw [HA3.out U V HU.out.1 HU.out.2, if_neg h3] at he
          subst he
          have b286 := b2860
          clear b2860 k0 k1 k2 k3
          have r2_287 := And.intro (r2_275.1.below b286 (Nat.le_refl _)) (r2_275.2.below b286 (Nat.le_refl _))
          have p2_288 := p2_276.below b286
          have r4_289 := And.intro (r4_277.1.below b286 (Nat.le_refl _)) (r4_277.2.below b286 (Nat.le_refl _))
          have p4_290 := p4_278.below b286
          have r6_291 := And.intro (r6_279.1.below b286 (Nat.le_refl _)) (r6_279.2.below b286 (Nat.le_refl _))
          have p6_292 := p6_280.below b286
          have r8_293 := And.intro (r8_281.1.below b286 (Nat.le_refl _)) (r8_281.2.below b286 (Nat.le_refl _))
          have p8_294 := p8_282.below b286
          have B_295 := B_283.trans (b286.mono B_283.size)
          clear r2_275 p2_276 r4_277 p4_278 r6_279 p6_280 r8_281 p8_282 B_283
          have hq := p6_292; obtain ⟨k0, k1, k2, k3⟩ := hq
          go_wp2_with fail
          refine (RunWith_ok k k A6 g5.length ca6 O6 o5.length co6 U V k k g5 o5 a285 r6_291 (by omega) ho5 HD5.out rfl rfl (by omega) (by omega) HU.out.1 HU.out.2).mono ?_
          rintro e a297 ⟨he, b2980⟩
          rw [HA5.out U V HU.out.1 HU.out.2, if_neg (by omega)] at he
          subst he
          have b298 := b2980
          clear b2980 k0 k1 k2 k3
          have r2_299 := And.intro (r2_287.1.below b298 (Nat.le_refl _)) (r2_287.2.below b298 (Nat.le_refl _))
          have p2_300 := p2_288.below b298
          have r4_301 := And.intro (r4_289.1.below b298 (Nat.le_refl _)) (r4_289.2.below b298 (Nat.le_refl _))
          have p4_302 := p4_290.below b298
          have r6_303 := And.intro (r6_291.1.below b298 (Nat.le_refl _)) (r6_291.2.below b298 (Nat.le_refl _))
          have p6_304 := p6_292.below b298
          have r8_305 := And.intro (r8_293.1.below b298 (Nat.le_refl _)) (r8_293.2.below b298 (Nat.le_refl _))
          have p8_306 := p8_294.below b298
          have B_307 := B_295.trans (b298.mono B_295.size)
          clear r2_287 p2_288 r4_289 p4_290 r6_291 p6_292 r8_293 p8_294 B_295
          obtain ⟨S, hS⟩ : ∃ S : Nat, U + V * 2 ^ k = S := ⟨_, rfl⟩
          have HS1 : Hid (ans ⟨g7, o7⟩ (bitsN S (2 * k) ++ bitsN 1 1) = (U : Int)) := Lib.hid (by rw [← hS, HA7.out U V 1 HU.out.1 HU.out.2 (by omega), if_pos rfl])
          have HS0 : Hid (ans ⟨g7, o7⟩ (bitsN S (2 * k) ++ bitsN 0 1) = (V : Int)) := Lib.hid (by rw [← hS, HA7.out U V 0 HU.out.1 HU.out.2 (by omega), if_neg (by omega)])
          have HSb : Hid (S < 2 ^ (2 * k)) := Lib.hid (by rw [← hS]; exact sb_lt HU.out.1 HU.out.2)
          have HW : Hid (wrap64 ((U : Int) + wrap64 ((V : Int) * N)) = (S : Int)) := Lib.hid (by rw [HN.out] at hS; rw [← hS]; exact sw_id hUb hVb hN2)
          clear hS
          have hNi := HNi.out
          have hta : ((k : Nat) : Int).toNat = k := by simp
          have hq := p8_306; obtain ⟨k0, k1, k2, k3⟩ := hq
          go_wp2_with fail
          rw [HW.out]
          clear hNi hta
          refine (RunWith_ok (2 * (k : Int)) 1 A8 g7.length ca8 O8 o7.length co8 S 1 (2 * k) 1 g7 o7 _ r8_305 (by omega) ho7 HD7.out (by omega) rfl (by omega) (by omega) HSb.out (by decide)).mono ?_
          rintro e a308 ⟨he, b309⟩
          rw [HS1.out] at he
          subst he
          clear k0 k1 k2 k3
          have r2_310 := And.intro (r2_299.1.below b309 (Nat.le_refl _)) (r2_299.2.below b309 (Nat.le_refl _))
          have p2_311 := p2_300.below b309
          have r4_312 := And.intro (r4_301.1.below b309 (Nat.le_refl _)) (r4_301.2.below b309 (Nat.le_refl _))
          have p4_313 := p4_302.below b309
          have r6_314 := And.intro (r6_303.1.below b309 (Nat.le_refl _)) (r6_303.2.below b309 (Nat.le_refl _))
          have p6_315 := p6_304.below b309
          have r8_316 := And.intro (r8_305.1.below b309 (Nat.le_refl _)) (r8_305.2.below b309 (Nat.le_refl _))
          have p8_317 := p8_306.below b309
          have B_318 := B_307.trans (b309.mono B_307.size)
          clear r2_299 p2_300 r4_301 p4_302 r6_303 p6_304 r8_305 p8_306 B_307
          have hNi := HNi.out
          have hta : ((k : Nat) : Int).toNat = k := by simp
          have hq := p8_317; obtain ⟨k0, k1, k2, k3⟩ := hq
          go_wp2_with fail
          rw [HW.out]
          clear hNi hta
          refine (RunWith_ok (2 * (k : Int)) 1 A8 g7.length ca8 O8 o7.length co8 S 0 (2 * k) 1 g7 o7 _ r8_316 (by omega) ho7 HD7.out (by omega) rfl (by omega) (by omega) HSb.out (by decide)).mono ?_
          rintro e a319 ⟨he, b320⟩
          rw [HS0.out] at he
          subst he
          clear k0 k1 k2 k3
          have r2_321 := And.intro (r2_310.1.below b320 (Nat.le_refl _)) (r2_310.2.below b320 (Nat.le_refl _))
          have p2_322 := p2_311.below b320
          have r4_323 := And.intro (r4_312.1.below b320 (Nat.le_refl _)) (r4_312.2.below b320 (Nat.le_refl _))
          have p4_324 := p4_313.below b320
          have r6_325 := And.intro (r6_314.1.below b320 (Nat.le_refl _)) (r6_314.2.below b320 (Nat.le_refl _))
          have p6_326 := p6_315.below b320
          have r8_327 := And.intro (r8_316.1.below b320 (Nat.le_refl _)) (r8_316.2.below b320 (Nat.le_refl _))
          have p8_328 := p8_317.below b320
          have B_329 := B_318.trans (b320.mono B_318.size)
          clear r2_310 p2_311 r4_312 p4_313 r6_314 p6_315 r8_316 p8_317 B_318
          have n1 : ((U : Int) != U) = false := by simp
          have n2 : ((V : Int) != V) = false := by simp
          clear r2_321
          clear p2_322
          clear r4_323
          clear p4_324
          clear r6_325
          clear p6_326
          clear r8_327
          clear p8_328
          go_wp2_with fail
          have hZ1 : RY a319 Z m := hZ.alt (Alt.of_new (S := fun _ => False) B_329) (fun _ _ _ _ h => h)
          refine (DrawConstantCircuit_any Z m d _ hZ1).mono ?_
          rintro e a330 ⟨cn, cw, hcn, hcw, rfl, bD⟩
          clear hZ1
          have B_331 := B_329.trans (bD.mono B_329.size)
          clear B_329
          clear bD
          cases hc9 : cstF' cn cw with
          | none =>
              have HR9 := Lib.hid hc9
              clear hc9
              go_wp2_with fail
              have q334 := ConstantCircuit_any cn cw a330
              rw [HR9.out] at q334
              refine q334.mono ?_
              clear q334
              rintro e a332 hT
              obtain ⟨B9, cb9, P9, cp9, rfl, r9, b9⟩ := open_cn hT
              clear hT
              have B_335 := B_331.trans (b9.mono B_331.size)
              clear B_331
              clear b9
              have al336 : Below a332.heap.size a332 (a332.alloc (.cells #[.int .i64 0, .int .i64 0, .slice B9 0 cb9, .slice P9 0 cp9] 28)) := (Below.refl _ _).alloc (Nat.le_refl _) _
              have z337 : (a332.alloc (.cells #[.int .i64 0, .int .i64 0, .slice B9 0 cb9, .slice P9 0 cp9] 28)).heap.size = a332.heap.size + 1 := by simp
              have p9_338 : BxC (a332.alloc (.cells #[.int .i64 0, .int .i64 0, .slice B9 0 cb9, .slice P9 0 cp9] 28)) a332.heap.size 0 0 B9 0 cb9 P9 0 cp9 := BxC.new _ _
              have r9_339 := And.intro (r9.1.below al336 (Nat.le_refl _)) (r9.2.below al336 (Nat.le_refl _))
              have B_340 := B_335.trans (al336.mono B_335.size)
              clear r9 B_335
              go_wp2_with fail
              generalize (a332.alloc (.cells #[.int .i64 0, .int .i64 0, .slice B9 0 cb9, .slice P9 0 cp9] 28)) = a341 at *
              clear al336
              have q344 := spec_ConstantCircuit_any cn cw a341
              rw [HR9.out] at q344
              refine q344.mono ?_
              clear q344
              rintro e a342 hT
              obtain ⟨B10, cb10, P10, cp10, rfl, r10, b10⟩ := open_cn hT
              clear hT
              have r9_345 := And.intro (r9_339.1.below b10 (Nat.le_refl _)) (r9_339.2.below b10 (Nat.le_refl _))
              have p9_346 := p9_338.below b10
              have B_347 := B_340.trans (b10.mono B_340.size)
              clear r9_339 p9_338 B_340
              clear b10
              have al348 : Below a342.heap.size a342 (a342.alloc (.cells #[.int .i64 0, .int .i64 0, .slice B10 0 cb10, .slice P10 0 cp10] 28)) := (Below.refl _ _).alloc (Nat.le_refl _) _
              have z349 : (a342.alloc (.cells #[.int .i64 0, .int .i64 0, .slice B10 0 cb10, .slice P10 0 cp10] 28)).heap.size = a342.heap.size + 1 := by simp
              have p10_350 : BxC (a342.alloc (.cells #[.int .i64 0, .int .i64 0, .slice B10 0 cb10, .slice P10 0 cp10] 28)) a342.heap.size 0 0 B10 0 cb10 P10 0 cp10 := BxC.new _ _
              have r9_351 := And.intro (r9_345.1.below al348 (Nat.le_refl _)) (r9_345.2.below al348 (Nat.le_refl _))
              have p9_352 := p9_346.below al348
              have r10_353 := And.intro (r10.1.below al348 (Nat.le_refl _)) (r10.2.below al348 (Nat.le_refl _))
              have B_354 := B_347.trans (al348.mono B_347.size)
              clear r9_345 p9_346 r10 B_347
              go_wp2_with fail
              generalize (a342.alloc (.cells #[.int .i64 0, .int .i64 0, .slice B10 0 cb10, .slice P10 0 cp10] 28)) = a355 at *
              clear al348
              have hZ2 : RY a355 Z m := hZ.alt (Alt.of_new (S := fun _ => False) B_354) (fun _ _ _ _ h => h)
              refine (DrawAndsOf_any Z m d _ hZ2).mono ?_
              rintro e a356 ⟨kd, kw, hkd, hkw, rfl, bE⟩
              clear hZ2
              have r9_357 := And.intro (r9_351.1.below bE (Nat.le_refl _)) (r9_351.2.below bE (Nat.le_refl _))
              have p9_358 := p9_352.below bE
              have r10_359 := And.intro (r10_353.1.below bE (Nat.le_refl _)) (r10_353.2.below bE (Nat.le_refl _))
              have p10_360 := p10_350.below bE
              have B_361 := B_354.trans (bE.mono B_354.size)
              clear r9_351 p9_352 r10_353 p10_350 B_354
              clear bE
              obtain ⟨qb, hqb⟩ : ∃ q, (circK kd kw).isSome = q := ⟨_, rfl⟩
              obtain ⟨qi, hqi⟩ : ∃ q, andsK kd kw = q := ⟨_, rfl⟩
              have HQB := Lib.hid hqb; have HQI := Lib.hid hqi
              clear hqb hqi
              go_wp2_with fail
              have q364 := AndsOf_any kd kw a356
              rw [HQB.out, HQI.out] at q364
              refine q364.mono ?_
              clear q364
              rintro e a362 ⟨rfl, b363⟩
              have r9_365 := And.intro (r9_357.1.below b363 (Nat.le_refl _)) (r9_357.2.below b363 (Nat.le_refl _))
              have p9_366 := p9_358.below b363
              have r10_367 := And.intro (r10_359.1.below b363 (Nat.le_refl _)) (r10_359.2.below b363 (Nat.le_refl _))
              have p10_368 := p10_360.below b363
              have B_369 := B_361.trans (b363.mono B_361.size)
              clear r9_357 p9_358 r10_359 p10_360 B_361
              go_wp2_with fail
              have q372 := spec_AndsOf_any kd kw a362
              rw [HQB.out, HQI.out] at q372
              refine q372.mono ?_
              clear q372
              rintro e a370 ⟨rfl, b371⟩
              have r9_373 := And.intro (r9_365.1.below b371 (Nat.le_refl _)) (r9_365.2.below b371 (Nat.le_refl _))
              have p9_374 := p9_366.below b371
              have r10_375 := And.intro (r10_367.1.below b371 (Nat.le_refl _)) (r10_367.2.below b371 (Nat.le_refl _))
              have p10_376 := p10_368.below b371
              have B_377 := B_369.trans (b371.mono B_369.size)
              clear r9_365 p9_366 r10_367 p10_368 B_369
              have n5 : (qb != qb) = false := by simp
              have n6 : (qi != qi) = false := by simp
              have hq := p9_374; obtain ⟨k0, k1, k2, k3⟩ := hq
              have hq := p10_376; obtain ⟨m0, m1, m2, m3⟩ := hq
              go_wp2_with fail
              refine (pSameCircuit_any 0 0 B9 B10 0 cb9 cb10 P9 P10 0 cp9 cp10 [] [] _ r9_373 r10_375 (by omega) (by omega)).mono ?_
              rintro e a378 ⟨rfl, b379⟩
              clear k0 k1 k2 k3 m0 m1 m2 m3
              have r9_380 := And.intro (r9_373.1.below b379 (Nat.le_refl _)) (r9_373.2.below b379 (Nat.le_refl _))
              have p9_381 := p9_374.below b379
              have r10_382 := And.intro (r10_375.1.below b379 (Nat.le_refl _)) (r10_375.2.below b379 (Nat.le_refl _))
              have p10_383 := p10_376.below b379
              have B_384 := B_377.trans (b379.mono B_377.size)
              clear r9_373 p9_374 r10_375 p10_376 B_377
              go_wp2
              go_ret
              exact ⟨rfl, B_384⟩
          | some M9 =>
              obtain ⟨i9, j9, g9, o9⟩ := M9
              obtain ⟨hi9, hj9, hC9, hl9, hA9⟩ := cst_law hc9
              dsimp only at hi9 hj9 hC9 hl9 hA9
              subst hi9
              subst hj9
              have hg9 : g9.length ≤ 300 := (circB_bd hC9).2.2.1
              have HC9 := Lib.hid hC9; have HA9 := Lib.hid hA9
              clear hC9 hA9
              have HR9 := Lib.hid hc9
              clear hc9
              go_wp2_with fail
              have q334 := ConstantCircuit_any cn cw a330
              rw [HR9.out] at q334
              refine q334.mono ?_
              clear q334
              rintro e a332 hT
              obtain ⟨B9, cb9, P9, cp9, rfl, r9, b9⟩ := open_cs hT
              clear hT
              dsimp only at r9 ⊢
              have B_335 := B_331.trans (b9.mono B_331.size)
              clear B_331
              clear b9
              have al336 : Below a332.heap.size a332 (a332.alloc (.cells #[.int .i64 0, .int .i64 0, .slice B9 g9.length cb9, .slice P9 o9.length cp9] 28)) := (Below.refl _ _).alloc (Nat.le_refl _) _
              have z337 : (a332.alloc (.cells #[.int .i64 0, .int .i64 0, .slice B9 g9.length cb9, .slice P9 o9.length cp9] 28)).heap.size = a332.heap.size + 1 := by simp
              have p9_338 : BxC (a332.alloc (.cells #[.int .i64 0, .int .i64 0, .slice B9 g9.length cb9, .slice P9 o9.length cp9] 28)) a332.heap.size 0 0 B9 g9.length cb9 P9 o9.length cp9 := BxC.new _ _
              have r9_339 := And.intro (r9.1.below al336 (Nat.le_refl _)) (r9.2.below al336 (Nat.le_refl _))
              have B_340 := B_335.trans (al336.mono B_335.size)
              clear r9 B_335
              go_wp2_with fail
              generalize (a332.alloc (.cells #[.int .i64 0, .int .i64 0, .slice B9 g9.length cb9, .slice P9 o9.length cp9] 28)) = a341 at *
              clear al336
              have q344 := spec_ConstantCircuit_any cn cw a341
              rw [HR9.out] at q344
              refine q344.mono ?_
              clear q344
              rintro e a342 hT
              obtain ⟨B10, cb10, P10, cp10, rfl, r10, b10⟩ := open_cs hT
              clear hT
              dsimp only at r10 ⊢
              have r9_345 := And.intro (r9_339.1.below b10 (Nat.le_refl _)) (r9_339.2.below b10 (Nat.le_refl _))
              have p9_346 := p9_338.below b10
              have B_347 := B_340.trans (b10.mono B_340.size)
              clear r9_339 p9_338 B_340
              clear b10
              have al348 : Below a342.heap.size a342 (a342.alloc (.cells #[.int .i64 0, .int .i64 0, .slice B10 g9.length cb10, .slice P10 o9.length cp10] 28)) := (Below.refl _ _).alloc (Nat.le_refl _) _
              have z349 : (a342.alloc (.cells #[.int .i64 0, .int .i64 0, .slice B10 g9.length cb10, .slice P10 o9.length cp10] 28)).heap.size = a342.heap.size + 1 := by simp
              have p10_350 : BxC (a342.alloc (.cells #[.int .i64 0, .int .i64 0, .slice B10 g9.length cb10, .slice P10 o9.length cp10] 28)) a342.heap.size 0 0 B10 g9.length cb10 P10 o9.length cp10 := BxC.new _ _
              have r9_351 := And.intro (r9_345.1.below al348 (Nat.le_refl _)) (r9_345.2.below al348 (Nat.le_refl _))
              have p9_352 := p9_346.below al348
              have r10_353 := And.intro (r10.1.below al348 (Nat.le_refl _)) (r10.2.below al348 (Nat.le_refl _))
              have B_354 := B_347.trans (al348.mono B_347.size)
              clear r9_345 p9_346 r10 B_347
              go_wp2_with fail
              generalize (a342.alloc (.cells #[.int .i64 0, .int .i64 0, .slice B10 g9.length cb10, .slice P10 o9.length cp10] 28)) = a355 at *
              clear al348
              have hZ2 : RY a355 Z m := hZ.alt (Alt.of_new (S := fun _ => False) B_354) (fun _ _ _ _ h => h)
              refine (DrawAndsOf_any Z m d _ hZ2).mono ?_
              rintro e a356 ⟨kd, kw, hkd, hkw, rfl, bE⟩
              clear hZ2
              have r9_357 := And.intro (r9_351.1.below bE (Nat.le_refl _)) (r9_351.2.below bE (Nat.le_refl _))
              have p9_358 := p9_352.below bE
              have r10_359 := And.intro (r10_353.1.below bE (Nat.le_refl _)) (r10_353.2.below bE (Nat.le_refl _))
              have p10_360 := p10_350.below bE
              have B_361 := B_354.trans (bE.mono B_354.size)
              clear r9_351 p9_352 r10_353 p10_350 B_354
              clear bE
              obtain ⟨qb, hqb⟩ : ∃ q, (circK kd kw).isSome = q := ⟨_, rfl⟩
              obtain ⟨qi, hqi⟩ : ∃ q, andsK kd kw = q := ⟨_, rfl⟩
              have HQB := Lib.hid hqb; have HQI := Lib.hid hqi
              clear hqb hqi
              go_wp2_with fail
              have q364 := AndsOf_any kd kw a356
              rw [HQB.out, HQI.out] at q364
              refine q364.mono ?_
              clear q364
              rintro e a362 ⟨rfl, b363⟩
              have r9_365 := And.intro (r9_357.1.below b363 (Nat.le_refl _)) (r9_357.2.below b363 (Nat.le_refl _))
              have p9_366 := p9_358.below b363
              have r10_367 := And.intro (r10_359.1.below b363 (Nat.le_refl _)) (r10_359.2.below b363 (Nat.le_refl _))
              have p10_368 := p10_360.below b363
              have B_369 := B_361.trans (b363.mono B_361.size)
              clear r9_357 p9_358 r10_359 p10_360 B_361
              go_wp2_with fail
              have q372 := spec_AndsOf_any kd kw a362
              rw [HQB.out, HQI.out] at q372
              refine q372.mono ?_
              clear q372
              rintro e a370 ⟨rfl, b371⟩
              have r9_373 := And.intro (r9_365.1.below b371 (Nat.le_refl _)) (r9_365.2.below b371 (Nat.le_refl _))
              have p9_374 := p9_366.below b371
              have r10_375 := And.intro (r10_367.1.below b371 (Nat.le_refl _)) (r10_367.2.below b371 (Nat.le_refl _))
              have p10_376 := p10_368.below b371
              have B_377 := B_369.trans (b371.mono B_369.size)
              clear r9_365 p9_366 r10_367 p10_368 B_369
              have n5 : (qb != qb) = false := by simp
              have n6 : (qi != qi) = false := by simp
              have hq := p9_374; obtain ⟨k0, k1, k2, k3⟩ := hq
              have hq := p10_376; obtain ⟨m0, m1, m2, m3⟩ := hq
              go_wp2_with fail
              refine (pSameCircuit_any 0 0 B9 B10 g9.length cb9 cb10 P9 P10 o9.length cp9 cp10 g9 o9 _ r9_373 r10_375 (by omega) (by omega)).mono ?_
              rintro e a378 ⟨rfl, b379⟩
              clear k0 k1 k2 k3 m0 m1 m2 m3
              have r9_380 := And.intro (r9_373.1.below b379 (Nat.le_refl _)) (r9_373.2.below b379 (Nat.le_refl _))
              have p9_381 := p9_374.below b379
              have r10_382 := And.intro (r10_375.1.below b379 (Nat.le_refl _)) (r10_375.2.below b379 (Nat.le_refl _))
              have p10_383 := p10_376.below b379
              have B_384 := B_377.trans (b379.mono B_377.size)
              clear r9_373 p9_374 r10_375 p10_376 B_377
              have hq := p10_383; obtain ⟨k0, k1, k2, k3⟩ := hq
              go_wp2_with fail
              refine (RunWith_ok 0 0 B10 g9.length cb10 P10 o9.length cp10 0 0 0 0 g9 o9 _ r10_382 (by omega) hl9 HC9.out rfl rfl (by omega) (by omega) (by decide) (by decide)).mono ?_
              rintro e a385 ⟨he, b386⟩
              rw [HA9.out] at he
              subst he
              clear k0 k1 k2 k3
              have n7 : (cn == cn) = true := by simp
              have r9_387 := And.intro (r9_380.1.below b386 (Nat.le_refl _)) (r9_380.2.below b386 (Nat.le_refl _))
              have p9_388 := p9_381.below b386
              have r10_389 := And.intro (r10_382.1.below b386 (Nat.le_refl _)) (r10_382.2.below b386 (Nat.le_refl _))
              have p10_390 := p10_383.below b386
              have B_391 := B_384.trans (b386.mono B_384.size)
              clear r9_380 p9_381 r10_382 p10_383 B_384
              go_wp2
              go_ret
              exact ⟨rfl, B_391⟩
end Go.Proofs.Ytliicemcdfidmaa.lawFnChoices
