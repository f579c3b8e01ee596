/- The walk of the law FnSimplified: whatever its arguments read as, it returns true and leaves what was there. No condition. -/
import Derived.Test.YtikgagjoapggnaaQP24
import Derived.Test.YtikgagjoapggnaaQP28
import Derived.Test.YtikgagjoapggnaaQP31
import Derived.Test.YtikgagjoapggnaaQP32
import Derived.Test.YtikgagjoapggnaaQP36
namespace Go.Proofs.Ytikgagjoapggnaa.lawFnSimplified
open Go.RowKit
set_option linter.unusedVariables false
set_option linter.unusedSimpArgs false
attribute [local go_sem] sepAt sepUpon pureAt pureUpon
theorem open_cs {w w' : World} {C : Ci} {e : Ending} (h : RetC w (some C) e w') : ∃ A c O d, e = .returned (.tuple #[.agg #[.int .i64 C.i0, .int .i64 C.i1, .slice A C.gs.length c, .slice O C.os.length d], .bool true]) ∧ OwnC w' w.heap.size w'.heap.size A C.gs.length c O C.os.length d C.gs C.os ∧ Below w.heap.size w w' := h
theorem open_cn {w w' : World} {e : Ending} (h : RetC w none e w') : ∃ A c O d, e = .returned (.tuple #[.agg #[.int .i64 0, .int .i64 0, .slice A 0 c, .slice O 0 d], .bool false]) ∧ OwnC w' w.heap.size w'.heap.size A 0 c O 0 d [] [] ∧ Below w.heap.size w w' := h
theorem open_os {w w' : World} {U : List Int} {n : Nat} {e : Ending} (h : RetO w (some U) e w') (hn : U.length = n) : ∃ A c, e = .returned (.tuple #[.slice A n c, .bool true]) ∧ Own w' w.heap.size w'.heap.size (.slice A n c) n U ∧ Below w.heap.size w w' := by subst hn; exact h
theorem qInts_true (A B : Option Addr) (n c d : Nat) (xs : List Int) (w : World) (ha : RI w A n xs) (hb : RI w B n xs) (hn : n ≤ 2097152) :
    Calls Try.prog 15 #[.slice A n c, .slice B n d] w fun e w' => e = .returned (.bool true) ∧ ∃ j, w.drewN j = w' := by
  refine (qInts_any A B n c n d xs xs w ha hb hn hn).mono ?_
  rintro e w' ⟨rfl, j, h⟩
  rw [sameB_refl2]
  exact ⟨rfl, j, h.symm⟩
set_option maxRecDepth 100000 in
set_option maxHeartbeats 8000000 in
theorem walk (Y : Option Addr) (n c : Nat) (Z : Option Addr) (m d : Nat) (w : World) (hY0 : RY0 w Y n) (hn : n ≤ 140737488355328) (hZ0 : RY0 w Z m) (hm : m ≤ 140737488355328) :
    Calls Try.prog 3 #[.slice Y n c, .slice Z m d] w fun e w' => e = .returned (.bool true) ∧ Below w.heap.size w w' := by
  have hsum : IntKind.i64.wrap ((n : Int) + m) = ((n + m : Nat) : Int) := by rw [IntKind.wrap_i64] <;> omega
  by_cases hs : 1048576 < n + m
  · have hs1 : (1048576 : Int) < ((n + m : Nat) : Int) := by omega
    have hs2 : (1048576 : Int) < (n : Int) + m := by omega
    go_enter Try.func3, Try.ntmps3
    go_wp2
    go_ret
    exact ⟨rfl, Below.refl _ _⟩
  have hs1 : ¬ (1048576 : Int) < ((n + m : Nat) : Int) := by omega
  have hs2 : ¬ (1048576 : Int) < (n : Int) + m := by omega
  have hY : RY w Y n := hY0.ry (by omega)
  have hZ : RY w Z m := hZ0.ry (by omega)
  go_enter Try.func3, Try.ntmps3
  go_wp2_with fail
  refine (DrawSimplifyCircuit_any Y n c w hY).mono ?_
  rintro e a1 ⟨⟨x, y, gs, os⟩, A, ca, O, co, rfl, o1, hng, hno, b2⟩
  dsimp only at o1 hng hno ⊢
  clear hs1 hs2 hsum hY hY0
  have B_3 := b2
  have al4 : Below a1.heap.size a1 (a1.alloc (.cells #[.int .i64 x, .int .i64 y, .slice A gs.length ca, .slice O os.length co] 26)) := (Below.refl _ _).alloc (Nat.le_refl _) _
  have z5 : (a1.alloc (.cells #[.int .i64 x, .int .i64 y, .slice A gs.length ca, .slice O os.length co] 26)).heap.size = a1.heap.size + 1 := by simp
  have p1_6 : BxC (a1.alloc (.cells #[.int .i64 x, .int .i64 y, .slice A gs.length ca, .slice O os.length co] 26)) a1.heap.size x y A gs.length ca O os.length co := BxC.new _ _
  have r1_7 := o1.below al4 (.inl (Nat.le_refl _))
  have B_8 := B_3.trans (al4.mono B_3.size)
  clear o1 B_3
  have e1 : gs.length ≤ 2097152 := by omega
  have e2 : os.length ≤ 2097152 := by omega
  cases hS : simpF x y gs os with
  | none =>
      have HS := Lib.hid hS
      clear hS
      have hq := p1_6; obtain ⟨k0, k1, k2, k3⟩ := hq
      go_wp2_with fail
      generalize (a1.alloc (.cells #[.int .i64 x, .int .i64 y, .slice A gs.length ca, .slice O os.length co] 26)) = a9 at *
      clear al4
      have q12 := SimplifyCircuit_any x y A gs.length ca O os.length co gs os a9 ⟨r1_7.1.reads, r1_7.2.1.reads⟩ e1 e2
      rw [HS.out] at q12
      refine q12.mono ?_
      clear q12
      rintro e a10 hT
      clear k0 k1 k2 k3
      obtain ⟨A2, ca2, O2, co2, rfl, o2, b2⟩ := open_cn hT
      clear hT
      have r1_13 := r1_7.below b2 (.inl (Nat.le_refl _))
      have p1_14 := p1_6.below b2
      have B_15 := B_8.trans (b2.mono B_8.size)
      clear r1_7 p1_6 B_8
      have al16 : Below a10.heap.size a10 (a10.alloc (.cells #[.int .i64 0, .int .i64 0, .slice A2 0 ca2, .slice O2 0 co2] 26)) := (Below.refl _ _).alloc (Nat.le_refl _) _
      have z17 : (a10.alloc (.cells #[.int .i64 0, .int .i64 0, .slice A2 0 ca2, .slice O2 0 co2] 26)).heap.size = a10.heap.size + 1 := by simp
      have p2_18 : BxC (a10.alloc (.cells #[.int .i64 0, .int .i64 0, .slice A2 0 ca2, .slice O2 0 co2] 26)) a10.heap.size 0 0 A2 0 ca2 O2 0 co2 := BxC.new _ _
      have r1_19 := r1_13.below al16 (.inl (Nat.le_refl _))
      have p1_20 := p1_14.below al16
      have r2_21 := o2.below al16 (.inl (Nat.le_refl _))
      have B_22 := B_15.trans (al16.mono B_15.size)
      clear r1_13 p1_14 o2 B_15
      have hq := p1_20; obtain ⟨k0, k1, k2, k3⟩ := hq
      go_wp2_with fail
      generalize (a10.alloc (.cells #[.int .i64 0, .int .i64 0, .slice A2 0 ca2, .slice O2 0 co2] 26)) = a23 at *
      clear al16
      have q26 := spec_SimplifyCircuit_any x y A gs.length ca O os.length co gs os a23 ⟨r1_19.1.reads, r1_19.2.1.reads⟩ e1 e2
      rw [HS.out] at q26
      refine q26.mono ?_
      clear q26
      rintro e a24 hT
      clear k0 k1 k2 k3
      obtain ⟨A3, ca3, O3, co3, rfl, o3, b3⟩ := open_cn hT
      clear hT
      have r1_27 := r1_19.below b3 (.inl (Nat.le_refl _))
      have p1_28 := p1_20.below b3
      have r2_29 := r2_21.below b3 (.inl (Nat.le_refl _))
      have p2_30 := p2_18.below b3
      have B_31 := B_22.trans (b3.mono B_22.size)
      clear r1_19 p1_20 r2_21 p2_18 B_22
      have al32 : Below a24.heap.size a24 (a24.alloc (.cells #[.int .i64 0, .int .i64 0, .slice A3 0 ca3, .slice O3 0 co3] 26)) := (Below.refl _ _).alloc (Nat.le_refl _) _
      have z33 : (a24.alloc (.cells #[.int .i64 0, .int .i64 0, .slice A3 0 ca3, .slice O3 0 co3] 26)).heap.size = a24.heap.size + 1 := by simp
      have p3_34 : BxC (a24.alloc (.cells #[.int .i64 0, .int .i64 0, .slice A3 0 ca3, .slice O3 0 co3] 26)) a24.heap.size 0 0 A3 0 ca3 O3 0 co3 := BxC.new _ _
      have r1_35 := r1_27.below al32 (.inl (Nat.le_refl _))
      have p1_36 := p1_28.below al32
      have r2_37 := r2_29.below al32 (.inl (Nat.le_refl _))
      have p2_38 := p2_30.below al32
      have r3_39 := o3.below al32 (.inl (Nat.le_refl _))
      have B_40 := B_31.trans (al32.mono B_31.size)
      clear r1_27 p1_28 r2_29 p2_30 o3 B_31
      go_wp2_with fail
      generalize (a24.alloc (.cells #[.int .i64 0, .int .i64 0, .slice A3 0 ca3, .slice O3 0 co3] 26)) = a41 at *
      clear al32
      have hZ1 : RY a41 Z m := hZ.alt (Alt.of_new (S := fun _ => False) B_40) (fun _ _ _ _ h => h)
      refine (DrawAreEqual_any Z m d _ hZ1).mono ?_
      rintro e a42 ⟨⟨x4, y4, g4, q4⟩, ⟨x5, y5, g5, q5⟩, A4, ca4, O4, co4, A5, ca5, O5, co5, rfl, o4, h4, h5, o5, h6, h7, bD⟩
      dsimp only at o4 o5 h4 h5 h6 h7 ⊢
      clear hZ1 hZ
      have r1_43 := r1_35.below bD (.inl (Nat.le_refl _))
      have p1_44 := p1_36.below bD
      have r2_45 := r2_37.below bD (.inl (Nat.le_refl _))
      have p2_46 := p2_38.below bD
      have r3_47 := r3_39.below bD (.inl (Nat.le_refl _))
      have p3_48 := p3_34.below bD
      have B_49 := B_40.trans (bD.mono B_40.size)
      clear r1_35 p1_36 r2_37 p2_38 r3_39 p3_34 B_40
      have al50 : Below a42.heap.size a42 ((a42.alloc (.cells #[.int .i64 x4, .int .i64 y4, .slice A4 g4.length ca4, .slice O4 q4.length co4] 26)).alloc (.cells #[.int .i64 x5, .int .i64 y5, .slice A5 g5.length ca5, .slice O5 q5.length co5] 26)) := ((Below.refl _ _).alloc (Nat.le_refl _) _).alloc (by simp) _
      have z51 : ((a42.alloc (.cells #[.int .i64 x4, .int .i64 y4, .slice A4 g4.length ca4, .slice O4 q4.length co4] 26)).alloc (.cells #[.int .i64 x5, .int .i64 y5, .slice A5 g5.length ca5, .slice O5 q5.length co5] 26)).heap.size = a42.heap.size + 2 := by simp
      have p4_52 : BxC ((a42.alloc (.cells #[.int .i64 x4, .int .i64 y4, .slice A4 g4.length ca4, .slice O4 q4.length co4] 26)).alloc (.cells #[.int .i64 x5, .int .i64 y5, .slice A5 g5.length ca5, .slice O5 q5.length co5] 26)) a42.heap.size x4 y4 A4 g4.length ca4 O4 q4.length co4 := (BxC.new _ _).below ((Below.refl _ _).alloc (Nat.le_refl _) _)
      have p5_53 : BxC ((a42.alloc (.cells #[.int .i64 x4, .int .i64 y4, .slice A4 g4.length ca4, .slice O4 q4.length co4] 26)).alloc (.cells #[.int .i64 x5, .int .i64 y5, .slice A5 g5.length ca5, .slice O5 q5.length co5] 26)) (a42.heap.size + 1) x5 y5 A5 g5.length ca5 O5 q5.length co5 := by simpa using BxC.new (x := x5) (y := y5) (Ag := A5) (ng := g5.length) (cg := ca5) (Ao := O5) (no := q5.length) (co := co5) (a42.alloc (.cells #[.int .i64 x4, .int .i64 y4, .slice A4 g4.length ca4, .slice O4 q4.length co4] 26)) 26
      have r1_54 := r1_43.below al50 (.inl (Nat.le_refl _))
      have p1_55 := p1_44.below al50
      have r2_56 := r2_45.below al50 (.inl (Nat.le_refl _))
      have p2_57 := p2_46.below al50
      have r3_58 := r3_47.below al50 (.inl (Nat.le_refl _))
      have p3_59 := p3_48.below al50
      have r4_60 := o4.below al50 (.inl (Nat.le_refl _))
      have r5_61 := o5.below al50 (.inl (Nat.le_refl _))
      have B_62 := B_49.trans (al50.mono B_49.size)
      clear r1_43 p1_44 r2_45 p2_46 r3_47 p3_48 o4 o5 B_49
      obtain ⟨q8, hq8⟩ : ∃ q, pairB x4 y4 g4 q4 x5 y5 g5 q5 = q := ⟨_, rfl⟩
      obtain ⟨q9, hq9⟩ : ∃ q, eqV x4 y4 g4 q4 x5 y5 g5 q5 = q := ⟨_, rfl⟩
      obtain ⟨f8, hf8⟩ : ∃ f, firstF x4 y4 g4 q4 x5 y5 g5 q5 = f := ⟨_, rfl⟩
      have HN : Hid (q8 = true → (f8.isSome == q9) = false) := Lib.hid (fun h => by rw [← hf8, ← hq9]; exact fe_ne (hq8.trans h))
      have H8 := Lib.hid hq8; have H9 := Lib.hid hq9; have HF := Lib.hid hf8
      clear hq8 hq9 hf8
      obtain ⟨fz, hfz⟩ : ∃ z, f8.getD 0 = z := ⟨_, rfl⟩
      obtain ⟨fb, hfb⟩ : ∃ z, f8.isSome = z := ⟨_, rfl⟩
      rw [hfb] at HN
      have HZ := Lib.hid hfz; have HB := Lib.hid hfb
      clear hfz hfb
      have HN2 := HN.out
      clear HN
      have hq := p4_52; obtain ⟨k0, k1, k2, k3⟩ := hq
      have hq := p5_53; obtain ⟨m0, m1, m2, m3⟩ := hq
      have hN3 := Lib.hid HN2
      clear HN2
      go_wp2_with fail
      generalize ((a42.alloc (.cells #[.int .i64 x4, .int .i64 y4, .slice A4 g4.length ca4, .slice O4 q4.length co4] 26)).alloc (.cells #[.int .i64 x5, .int .i64 y5, .slice A5 g5.length ca5, .slice O5 q5.length co5] 26)) = a63 at *
      clear al50
      have q66 := AreEqual_any x4 y4 A4 g4.length ca4 O4 q4.length co4 x5 y5 A5 g5.length ca5 O5 q5.length co5 g4 q4 g5 q5 a63 ⟨r4_60.1.reads, r4_60.2.1.reads⟩ (by omega) (by omega) ⟨r5_61.1.reads, r5_61.2.1.reads⟩ (by omega) (by omega)
      rw [H8.out, H9.out] at q66
      refine q66.mono ?_
      clear q66
      rintro e a64 ⟨rfl, b65⟩
      clear k0 k1 k2 k3 m0 m1 m2 m3
      have r1_67 := r1_54.below b65 (.inl (Nat.le_refl _))
      have p1_68 := p1_55.below b65
      have r2_69 := r2_56.below b65 (.inl (Nat.le_refl _))
      have p2_70 := p2_57.below b65
      have r3_71 := r3_58.below b65 (.inl (Nat.le_refl _))
      have p3_72 := p3_59.below b65
      have r4_73 := r4_60.below b65 (.inl (Nat.le_refl _))
      have r5_74 := r5_61.below b65 (.inl (Nat.le_refl _))
      have p4_75 := p4_52.below b65
      have p5_76 := p5_53.below b65
      have B_77 := B_62.trans (b65.mono B_62.size)
      clear r1_54 p1_55 r2_56 p2_57 r3_58 p3_59 r4_60 r5_61 p4_52 p5_53 B_62
      have hq := p4_75; obtain ⟨k0, k1, k2, k3⟩ := hq
      have hq := p5_76; obtain ⟨m0, m1, m2, m3⟩ := hq
      go_wp2_with fail
      have q80 := spec_AreEqual_any x4 y4 A4 g4.length ca4 O4 q4.length co4 x5 y5 A5 g5.length ca5 O5 q5.length co5 g4 q4 g5 q5 a64 ⟨r4_73.1.reads, r4_73.2.1.reads⟩ (by omega) (by omega) ⟨r5_74.1.reads, r5_74.2.1.reads⟩ (by omega) (by omega)
      rw [H8.out, H9.out] at q80
      refine q80.mono ?_
      clear q80
      rintro e a78 ⟨rfl, b79⟩
      clear k0 k1 k2 k3 m0 m1 m2 m3
      have r1_81 := r1_67.below b79 (.inl (Nat.le_refl _))
      have p1_82 := p1_68.below b79
      have r2_83 := r2_69.below b79 (.inl (Nat.le_refl _))
      have p2_84 := p2_70.below b79
      have r3_85 := r3_71.below b79 (.inl (Nat.le_refl _))
      have p3_86 := p3_72.below b79
      have r4_87 := r4_73.below b79 (.inl (Nat.le_refl _))
      have r5_88 := r5_74.below b79 (.inl (Nat.le_refl _))
      have p4_89 := p4_75.below b79
      have p5_90 := p5_76.below b79
      have B_91 := B_77.trans (b79.mono B_77.size)
      clear r1_67 p1_68 r2_69 p2_70 r3_71 p3_72 r4_73 r5_74 p4_75 p5_76 B_77
      have hq := p4_89; obtain ⟨k0, k1, k2, k3⟩ := hq
      have hq := p5_90; obtain ⟨m0, m1, m2, m3⟩ := hq
      go_wp2_with fail
      have q94 := FirstUnequal_any x4 y4 A4 g4.length ca4 O4 q4.length co4 x5 y5 A5 g5.length ca5 O5 q5.length co5 g4 q4 g5 q5 a78 ⟨r4_87.1.reads, r4_87.2.1.reads⟩ (by omega) (by omega) ⟨r5_88.1.reads, r5_88.2.1.reads⟩ (by omega) (by omega)
      rw [HF.out] at q94
      refine q94.mono ?_
      clear q94
      rintro e a92 ⟨rfl, b93⟩
      rw [HZ.out, HB.out]
      clear k0 k1 k2 k3 m0 m1 m2 m3
      have r1_95 := r1_81.below b93 (.inl (Nat.le_refl _))
      have p1_96 := p1_82.below b93
      have r2_97 := r2_83.below b93 (.inl (Nat.le_refl _))
      have p2_98 := p2_84.below b93
      have r3_99 := r3_85.below b93 (.inl (Nat.le_refl _))
      have p3_100 := p3_86.below b93
      have r4_101 := r4_87.below b93 (.inl (Nat.le_refl _))
      have r5_102 := r5_88.below b93 (.inl (Nat.le_refl _))
      have p4_103 := p4_89.below b93
      have p5_104 := p5_90.below b93
      have B_105 := B_91.trans (b93.mono B_91.size)
      clear r1_81 p1_82 r2_83 p2_84 r3_85 p3_86 r4_87 r5_88 p4_89 p5_90 B_91
      have hq := p4_103; obtain ⟨k0, k1, k2, k3⟩ := hq
      have hq := p5_104; obtain ⟨m0, m1, m2, m3⟩ := hq
      go_wp2_with fail
      have q108 := spec_FirstUnequal_any x4 y4 A4 g4.length ca4 O4 q4.length co4 x5 y5 A5 g5.length ca5 O5 q5.length co5 g4 q4 g5 q5 a92 ⟨r4_101.1.reads, r4_101.2.1.reads⟩ (by omega) (by omega) ⟨r5_102.1.reads, r5_102.2.1.reads⟩ (by omega) (by omega)
      rw [HF.out] at q108
      refine q108.mono ?_
      clear q108
      rintro e a106 ⟨rfl, b107⟩
      rw [HZ.out, HB.out]
      clear k0 k1 k2 k3 m0 m1 m2 m3
      have r1_109 := r1_95.below b107 (.inl (Nat.le_refl _))
      have p1_110 := p1_96.below b107
      have r2_111 := r2_97.below b107 (.inl (Nat.le_refl _))
      have p2_112 := p2_98.below b107
      have r3_113 := r3_99.below b107 (.inl (Nat.le_refl _))
      have p3_114 := p3_100.below b107
      have r4_115 := r4_101.below b107 (.inl (Nat.le_refl _))
      have r5_116 := r5_102.below b107 (.inl (Nat.le_refl _))
      have p4_117 := p4_103.below b107
      have p5_118 := p5_104.below b107
      have B_119 := B_105.trans (b107.mono B_105.size)
      clear r1_95 p1_96 r2_97 p2_98 r3_99 p3_100 r4_101 r5_102 p4_103 p5_104 B_105
      have n1 : (fz != fz) = false := by simp
      have n3 : (fb != fb) = false := by simp
      have HN2 := hN3.out
      cases q8 with
      | false =>
          have n2 : (q9 != q9) = false := by simp
          clear HN2
          have hq := p2_112; obtain ⟨k0, k1, k2, k3⟩ := hq
          have hq := p3_114; obtain ⟨m0, m1, m2, m3⟩ := hq
          go_wp2_with fail
          refine (qCircuit_any 0 0 A2 A3 0 ca2 ca3 O2 O3 0 co2 co3 [] [] _ ⟨r2_111.1.reads, r2_111.2.1.reads⟩ ⟨r3_113.1.reads, r3_113.2.1.reads⟩ (by omega) (by omega)).mono ?_
          rintro e a120 ⟨rfl, b121⟩
          clear k0 k1 k2 k3 m0 m1 m2 m3
          have r1_122 := r1_109.below b121 (.inl (Nat.le_refl _))
          have p1_123 := p1_110.below b121
          have r2_124 := r2_111.below b121 (.inl (Nat.le_refl _))
          have p2_125 := p2_112.below b121
          have r3_126 := r3_113.below b121 (.inl (Nat.le_refl _))
          have p3_127 := p3_114.below b121
          have r4_128 := r4_115.below b121 (.inl (Nat.le_refl _))
          have r5_129 := r5_116.below b121 (.inl (Nat.le_refl _))
          have p4_130 := p4_117.below b121
          have p5_131 := p5_118.below b121
          have B_132 := B_119.trans (b121.mono B_119.size)
          clear r1_109 p1_110 r2_111 p2_112 r3_113 p3_114 r4_115 r5_116 p4_117 p5_118 B_119
          go_wp2
          go_ret
          exact ⟨rfl, B_132⟩
      | true =>
          have n2 : (q9 != q9) = false := by simp
          have n4 : (fb == q9) = false := HN2 rfl
          clear HN2
          have hq := p2_112; obtain ⟨k0, k1, k2, k3⟩ := hq
          have hq := p3_114; obtain ⟨m0, m1, m2, m3⟩ := hq
          go_wp2_with fail
          refine (qCircuit_any 0 0 A2 A3 0 ca2 ca3 O2 O3 0 co2 co3 [] [] _ ⟨r2_111.1.reads, r2_111.2.1.reads⟩ ⟨r3_113.1.reads, r3_113.2.1.reads⟩ (by omega) (by omega)).mono ?_
          rintro e a120 ⟨rfl, b121⟩
          clear k0 k1 k2 k3 m0 m1 m2 m3
          have r1_122 := r1_109.below b121 (.inl (Nat.le_refl _))
          have p1_123 := p1_110.below b121
          have r2_124 := r2_111.below b121 (.inl (Nat.le_refl _))
          have p2_125 := p2_112.below b121
          have r3_126 := r3_113.below b121 (.inl (Nat.le_refl _))
          have p3_127 := p3_114.below b121
          have r4_128 := r4_115.below b121 (.inl (Nat.le_refl _))
          have r5_129 := r5_116.below b121 (.inl (Nat.le_refl _))
          have p4_130 := p4_117.below b121
          have p5_131 := p5_118.below b121
          have B_132 := B_119.trans (b121.mono B_119.size)
          clear r1_109 p1_110 r2_111 p2_112 r3_113 p3_114 r4_115 r5_116 p4_117 p5_118 B_119
          go_wp2
          go_ret
          exact ⟨rfl, B_132⟩
  | some M =>
      obtain ⟨i2, j2, g2, q2⟩ := M
      obtain ⟨M2, hM2⟩ := simp_again hS
      obtain ⟨h1, h2, sm, hk⟩ := simp_law hS
      dsimp only at h1 h2 sm hk hM2
      have h1 := h1.symm
      have h2 := h2.symm
      subst h1
      subst h2
      obtain ⟨i3, j3, g3, q3⟩ := M2
      obtain ⟨h1, h2, sm2, _⟩ := simp_law hM2
      dsimp only at h1 h2 sm2
      have h1 := h1.symm
      have h2 := h2.symm
      subst h1
      subst h2
      obtain ⟨bx, by_, _, _, _, _⟩ := circB_bd sm.c
      have u2 : g2.length ≤ 310 := by have := (circB_bd sm.m).2.2.1; omega
      have u3 : q2.length ≤ 50 := by have := (circB_bd sm.m).2.2.2.1; omega
      have u4 : g3.length ≤ 310 := by have := (circB_bd sm2.m).2.2.1; omega
      have u5 : q3.length ≤ 50 := by have := (circB_bd sm2.m).2.2.2.1; omega
      obtain ⟨L1, hL1⟩ : ∃ L, cntK gs gs.length = L := ⟨_, rfl⟩
      obtain ⟨L2, hL2⟩ : ∃ L, cntK g2 g2.length = L := ⟨_, rfl⟩
      have HK1 : Hid (ctF x y gs os = some L1) := Lib.hid (by rw [← hL1]; simp [ctF, sm.c])
      have HK2 : Hid (ctF x y g2 q2 = some L2) := Lib.hid (by rw [← hL2]; simp [ctF, sm.m])
      have HL1 : Hid (L1.length = 4) := Lib.hid (by rw [← hL1]; exact cntK_len _ _)
      have HL2 : Hid (L2.length = 4) := Lib.hid (by rw [← hL2]; exact cntK_len _ _)
      rw [hL1, hL2] at hk
      clear hL1 hL2
      have HS2 := Lib.hid hM2
      have Hsm := Lib.hid sm; have Hsm2 := Lib.hid sm2
      have Hk := Lib.hid hk
      clear hM2 sm sm2 hk
      have HS := Lib.hid hS
      clear hS
      have hq := p1_6; obtain ⟨k0, k1, k2, k3⟩ := hq
      go_wp2_with fail
      generalize (a1.alloc (.cells #[.int .i64 x, .int .i64 y, .slice A gs.length ca, .slice O os.length co] 26)) = a9 at *
      clear al4
      have q12 := SimplifyCircuit_any x y A gs.length ca O os.length co gs os a9 ⟨r1_7.1.reads, r1_7.2.1.reads⟩ e1 e2
      rw [HS.out] at q12
      refine q12.mono ?_
      clear q12
      rintro e a10 hT
      clear k0 k1 k2 k3
      obtain ⟨A2, ca2, O2, co2, rfl, o2, b2⟩ := open_cs hT
      clear hT
      dsimp only at o2 ⊢
      have r1_13 := r1_7.below b2 (.inl (Nat.le_refl _))
      have p1_14 := p1_6.below b2
      have B_15 := B_8.trans (b2.mono B_8.size)
      clear r1_7 p1_6 B_8
      have al16 : Below a10.heap.size a10 (a10.alloc (.cells #[.int .i64 x, .int .i64 y, .slice A2 g2.length ca2, .slice O2 q2.length co2] 26)) := (Below.refl _ _).alloc (Nat.le_refl _) _
      have z17 : (a10.alloc (.cells #[.int .i64 x, .int .i64 y, .slice A2 g2.length ca2, .slice O2 q2.length co2] 26)).heap.size = a10.heap.size + 1 := by simp
      have p2_18 : BxC (a10.alloc (.cells #[.int .i64 x, .int .i64 y, .slice A2 g2.length ca2, .slice O2 q2.length co2] 26)) a10.heap.size x y A2 g2.length ca2 O2 q2.length co2 := BxC.new _ _
      have r1_19 := r1_13.below al16 (.inl (Nat.le_refl _))
      have p1_20 := p1_14.below al16
      have r2_21 := o2.below al16 (.inl (Nat.le_refl _))
      have B_22 := B_15.trans (al16.mono B_15.size)
      clear r1_13 p1_14 o2 B_15
      have hq := p1_20; obtain ⟨k0, k1, k2, k3⟩ := hq
      go_wp2_with fail
      generalize (a10.alloc (.cells #[.int .i64 x, .int .i64 y, .slice A2 g2.length ca2, .slice O2 q2.length co2] 26)) = a23 at *
      clear al16
      have q26 := spec_SimplifyCircuit_any x y A gs.length ca O os.length co gs os a23 ⟨r1_19.1.reads, r1_19.2.1.reads⟩ e1 e2
      rw [HS.out] at q26
      refine q26.mono ?_
      clear q26
      rintro e a24 hT
      clear k0 k1 k2 k3
      obtain ⟨A3, ca3, O3, co3, rfl, o3, b3⟩ := open_cs hT
      clear hT
      dsimp only at o3 ⊢
      have r1_27 := r1_19.below b3 (.inl (Nat.le_refl _))
      have p1_28 := p1_20.below b3
      have r2_29 := r2_21.below b3 (.inl (Nat.le_refl _))
      have p2_30 := p2_18.below b3
      have B_31 := B_22.trans (b3.mono B_22.size)
      clear r1_19 p1_20 r2_21 p2_18 B_22
      have al32 : Below a24.heap.size a24 (a24.alloc (.cells #[.int .i64 x, .int .i64 y, .slice A3 g2.length ca3, .slice O3 q2.length co3] 26)) := (Below.refl _ _).alloc (Nat.le_refl _) _
      have z33 : (a24.alloc (.cells #[.int .i64 x, .int .i64 y, .slice A3 g2.length ca3, .slice O3 q2.length co3] 26)).heap.size = a24.heap.size + 1 := by simp
      have p3_34 : BxC (a24.alloc (.cells #[.int .i64 x, .int .i64 y, .slice A3 g2.length ca3, .slice O3 q2.length co3] 26)) a24.heap.size x y A3 g2.length ca3 O3 q2.length co3 := BxC.new _ _
      have r1_35 := r1_27.below al32 (.inl (Nat.le_refl _))
      have p1_36 := p1_28.below al32
      have r2_37 := r2_29.below al32 (.inl (Nat.le_refl _))
      have p2_38 := p2_30.below al32
      have r3_39 := o3.below al32 (.inl (Nat.le_refl _))
      have B_40 := B_31.trans (al32.mono B_31.size)
      clear r1_27 p1_28 r2_29 p2_30 o3 B_31
      go_wp2_with fail
      generalize (a24.alloc (.cells #[.int .i64 x, .int .i64 y, .slice A3 g2.length ca3, .slice O3 q2.length co3] 26)) = a41 at *
      clear al32
      have hZ1 : RY a41 Z m := hZ.alt (Alt.of_new (S := fun _ => False) B_40) (fun _ _ _ _ h => h)
      refine (DrawAreEqual_any Z m d _ hZ1).mono ?_
      rintro e a42 ⟨⟨x4, y4, g4, q4⟩, ⟨x5, y5, g5, q5⟩, A4, ca4, O4, co4, A5, ca5, O5, co5, rfl, o4, h4, h5, o5, h6, h7, bD⟩
      dsimp only at o4 o5 h4 h5 h6 h7 ⊢
      clear hZ1 hZ
      have r1_43 := r1_35.below bD (.inl (Nat.le_refl _))
      have p1_44 := p1_36.below bD
      have r2_45 := r2_37.below bD (.inl (Nat.le_refl _))
      have p2_46 := p2_38.below bD
      have r3_47 := r3_39.below bD (.inl (Nat.le_refl _))
      have p3_48 := p3_34.below bD
      have B_49 := B_40.trans (bD.mono B_40.size)
      clear r1_35 p1_36 r2_37 p2_38 r3_39 p3_34 B_40
      have al50 : Below a42.heap.size a42 ((a42.alloc (.cells #[.int .i64 x4, .int .i64 y4, .slice A4 g4.length ca4, .slice O4 q4.length co4] 26)).alloc (.cells #[.int .i64 x5, .int .i64 y5, .slice A5 g5.length ca5, .slice O5 q5.length co5] 26)) := ((Below.refl _ _).alloc (Nat.le_refl _) _).alloc (by simp) _
      have z51 : ((a42.alloc (.cells #[.int .i64 x4, .int .i64 y4, .slice A4 g4.length ca4, .slice O4 q4.length co4] 26)).alloc (.cells #[.int .i64 x5, .int .i64 y5, .slice A5 g5.length ca5, .slice O5 q5.length co5] 26)).heap.size = a42.heap.size + 2 := by simp
      have p4_52 : BxC ((a42.alloc (.cells #[.int .i64 x4, .int .i64 y4, .slice A4 g4.length ca4, .slice O4 q4.length co4] 26)).alloc (.cells #[.int .i64 x5, .int .i64 y5, .slice A5 g5.length ca5, .slice O5 q5.length co5] 26)) a42.heap.size x4 y4 A4 g4.length ca4 O4 q4.length co4 := (BxC.new _ _).below ((Below.refl _ _).alloc (Nat.le_refl _) _)
      have p5_53 : BxC ((a42.alloc (.cells #[.int .i64 x4, .int .i64 y4, .slice A4 g4.length ca4, .slice O4 q4.length co4] 26)).alloc (.cells #[.int .i64 x5, .int .i64 y5, .slice A5 g5.length ca5, .slice O5 q5.length co5] 26)) (a42.heap.size + 1) x5 y5 A5 g5.length ca5 O5 q5.length co5 := by simpa using BxC.new (x := x5) (y := y5) (Ag := A5) (ng := g5.length) (cg := ca5) (Ao := O5) (no := q5.length) (co := co5) (a42.alloc (.cells #[.int .i64 x4, .int .i64 y4, .slice A4 g4.length ca4, .slice O4 q4.length co4] 26)) 26
      have r1_54 := r1_43.below al50 (.inl (Nat.le_refl _))
      have p1_55 := p1_44.below al50
      have r2_56 := r2_45.below al50 (.inl (Nat.le_refl _))
      have p2_57 := p2_46.below al50
      have r3_58 := r3_47.below al50 (.inl (Nat.le_refl _))
      have p3_59 := p3_48.below al50
      have r4_60 := o4.below al50 (.inl (Nat.le_refl _))
      have r5_61 := o5.below al50 (.inl (Nat.le_refl _))
      have B_62 := B_49.trans (al50.mono B_49.size)
      clear r1_43 p1_44 r2_45 p2_46 r3_47 p3_48 o4 o5 B_49
      obtain ⟨q8, hq8⟩ : ∃ q, pairB x4 y4 g4 q4 x5 y5 g5 q5 = q := ⟨_, rfl⟩
      obtain ⟨q9, hq9⟩ : ∃ q, eqV x4 y4 g4 q4 x5 y5 g5 q5 = q := ⟨_, rfl⟩
      obtain ⟨f8, hf8⟩ : ∃ f, firstF x4 y4 g4 q4 x5 y5 g5 q5 = f := ⟨_, rfl⟩
      have HN : Hid (q8 = true → (f8.isSome == q9) = false) := Lib.hid (fun h => by rw [← hf8, ← hq9]; exact fe_ne (hq8.trans h))
      have H8 := Lib.hid hq8; have H9 := Lib.hid hq9; have HF := Lib.hid hf8
      clear hq8 hq9 hf8
      obtain ⟨fz, hfz⟩ : ∃ z, f8.getD 0 = z := ⟨_, rfl⟩
      obtain ⟨fb, hfb⟩ : ∃ z, f8.isSome = z := ⟨_, rfl⟩
      rw [hfb] at HN
      have HZ := Lib.hid hfz; have HB := Lib.hid hfb
      clear hfz hfb
      have HN2 := HN.out
      clear HN
      have hq := p4_52; obtain ⟨k0, k1, k2, k3⟩ := hq
      have hq := p5_53; obtain ⟨m0, m1, m2, m3⟩ := hq
      have hN3 := Lib.hid HN2
      clear HN2
      go_wp2_with fail
      generalize ((a42.alloc (.cells #[.int .i64 x4, .int .i64 y4, .slice A4 g4.length ca4, .slice O4 q4.length co4] 26)).alloc (.cells #[.int .i64 x5, .int .i64 y5, .slice A5 g5.length ca5, .slice O5 q5.length co5] 26)) = a63 at *
      clear al50
      have q66 := AreEqual_any x4 y4 A4 g4.length ca4 O4 q4.length co4 x5 y5 A5 g5.length ca5 O5 q5.length co5 g4 q4 g5 q5 a63 ⟨r4_60.1.reads, r4_60.2.1.reads⟩ (by omega) (by omega) ⟨r5_61.1.reads, r5_61.2.1.reads⟩ (by omega) (by omega)
      rw [H8.out, H9.out] at q66
      refine q66.mono ?_
      clear q66
      rintro e a64 ⟨rfl, b65⟩
      clear k0 k1 k2 k3 m0 m1 m2 m3
      have r1_67 := r1_54.below b65 (.inl (Nat.le_refl _))
      have p1_68 := p1_55.below b65
      have r2_69 := r2_56.below b65 (.inl (Nat.le_refl _))
      have p2_70 := p2_57.below b65
      have r3_71 := r3_58.below b65 (.inl (Nat.le_refl _))
      have p3_72 := p3_59.below b65
      have r4_73 := r4_60.below b65 (.inl (Nat.le_refl _))
      have r5_74 := r5_61.below b65 (.inl (Nat.le_refl _))
      have p4_75 := p4_52.below b65
      have p5_76 := p5_53.below b65
      have B_77 := B_62.trans (b65.mono B_62.size)
      clear r1_54 p1_55 r2_56 p2_57 r3_58 p3_59 r4_60 r5_61 p4_52 p5_53 B_62
      have hq := p4_75; obtain ⟨k0, k1, k2, k3⟩ := hq
      have hq := p5_76; obtain ⟨m0, m1, m2, m3⟩ := hq
      go_wp2_with fail
      have q80 := spec_AreEqual_any x4 y4 A4 g4.length ca4 O4 q4.length co4 x5 y5 A5 g5.length ca5 O5 q5.length co5 g4 q4 g5 q5 a64 ⟨r4_73.1.reads, r4_73.2.1.reads⟩ (by omega) (by omega) ⟨r5_74.1.reads, r5_74.2.1.reads⟩ (by omega) (by omega)
      rw [H8.out, H9.out] at q80
      refine q80.mono ?_
      clear q80
      rintro e a78 ⟨rfl, b79⟩
      clear k0 k1 k2 k3 m0 m1 m2 m3
      have r1_81 := r1_67.below b79 (.inl (Nat.le_refl _))
      have p1_82 := p1_68.below b79
      have r2_83 := r2_69.below b79 (.inl (Nat.le_refl _))
      have p2_84 := p2_70.below b79
      have r3_85 := r3_71.below b79 (.inl (Nat.le_refl _))
      have p3_86 := p3_72.below b79
      have r4_87 := r4_73.below b79 (.inl (Nat.le_refl _))
      have r5_88 := r5_74.below b79 (.inl (Nat.le_refl _))
      have p4_89 := p4_75.below b79
      have p5_90 := p5_76.below b79
      have B_91 := B_77.trans (b79.mono B_77.size)
      clear r1_67 p1_68 r2_69 p2_70 r3_71 p3_72 r4_73 r5_74 p4_75 p5_76 B_77
      have hq := p4_89; obtain ⟨k0, k1, k2, k3⟩ := hq
      have hq := p5_90; obtain ⟨m0, m1, m2, m3⟩ := hq
      go_wp2_with fail
      have q94 := FirstUnequal_any x4 y4 A4 g4.length ca4 O4 q4.length co4 x5 y5 A5 g5.length ca5 O5 q5.length co5 g4 q4 g5 q5 a78 ⟨r4_87.1.reads, r4_87.2.1.reads⟩ (by omega) (by omega) ⟨r5_88.1.reads, r5_88.2.1.reads⟩ (by omega) (by omega)
      rw [HF.out] at q94
      refine q94.mono ?_
      clear q94
      rintro e a92 ⟨rfl, b93⟩
      rw [HZ.out, HB.out]
      clear k0 k1 k2 k3 m0 m1 m2 m3
      have r1_95 := r1_81.below b93 (.inl (Nat.le_refl _))
      have p1_96 := p1_82.below b93
      have r2_97 := r2_83.below b93 (.inl (Nat.le_refl _))
      have p2_98 := p2_84.below b93
      have r3_99 := r3_85.below b93 (.inl (Nat.le_refl _))
      have p3_100 := p3_86.below b93
      have r4_101 := r4_87.below b93 (.inl (Nat.le_refl _))
      have r5_102 := r5_88.below b93 (.inl (Nat.le_refl _))
      have p4_103 := p4_89.below b93
      have p5_104 := p5_90.below b93
      have B_105 := B_91.trans (b93.mono B_91.size)
      clear r1_81 p1_82 r2_83 p2_84 r3_85 p3_86 r4_87 r5_88 p4_89 p5_90 B_91
      have hq := p4_103; obtain ⟨k0, k1, k2, k3⟩ := hq
      have hq := p5_104; obtain ⟨m0, m1, m2, m3⟩ := hq
      go_wp2_with fail
      have q108 := spec_FirstUnequal_any x4 y4 A4 g4.length ca4 O4 q4.length co4 x5 y5 A5 g5.length ca5 O5 q5.length co5 g4 q4 g5 q5 a92 ⟨r4_101.1.reads, r4_101.2.1.reads⟩ (by omega) (by omega) ⟨r5_102.1.reads, r5_102.2.1.reads⟩ (by omega) (by omega)
      rw [HF.out] at q108
      refine q108.mono ?_
      clear q108
      rintro e a106 ⟨rfl, b107⟩
      rw [HZ.out, HB.out]
      clear k0 k1 k2 k3 m0 m1 m2 m3
      have r1_109 := r1_95.below b107 (.inl (Nat.le_refl _))
      have p1_110 := p1_96.below b107
      have r2_111 := r2_97.below b107 (.inl (Nat.le_refl _))
      have p2_112 := p2_98.below b107
      have r3_113 := r3_99.below b107 (.inl (Nat.le_refl _))
      have p3_114 := p3_100.below b107
      have r4_115 := r4_101.below b107 (.inl (Nat.le_refl _))
      have r5_116 := r5_102.below b107 (.inl (Nat.le_refl _))
      have p4_117 := p4_103.below b107
      have p5_118 := p5_104.below b107
      have B_119 := B_105.trans (b107.mono B_105.size)
      clear r1_95 p1_96 r2_97 p2_98 r3_99 p3_100 r4_101 r5_102 p4_103 p5_104 B_105
      have n1 : (fz != fz) = false := by simp
      have n3 : (fb != fb) = false := by simp
      have HN2 := hN3.out
      cases q8 with
      | false =>
          have n2 : (q9 != q9) = false := by simp
          clear HN2
          have hq := p2_112; obtain ⟨k0, k1, k2, k3⟩ := hq
          have hq := p3_114; obtain ⟨m0, m1, m2, m3⟩ := hq
          go_wp2_with fail
          refine (qCircuit_any x y A2 A3 g2.length ca2 ca3 O2 O3 q2.length co2 co3 g2 q2 _ ⟨r2_111.1.reads, r2_111.2.1.reads⟩ ⟨r3_113.1.reads, r3_113.2.1.reads⟩ (by omega) (by omega)).mono ?_
          rintro e a120 ⟨rfl, b121⟩
          clear k0 k1 k2 k3 m0 m1 m2 m3
          have r1_122 := r1_109.below b121 (.inl (Nat.le_refl _))
          have p1_123 := p1_110.below b121
          have r2_124 := r2_111.below b121 (.inl (Nat.le_refl _))
          have p2_125 := p2_112.below b121
          have r3_126 := r3_113.below b121 (.inl (Nat.le_refl _))
          have p3_127 := p3_114.below b121
          have r4_128 := r4_115.below b121 (.inl (Nat.le_refl _))
          have r5_129 := r5_116.below b121 (.inl (Nat.le_refl _))
          have p4_130 := p4_117.below b121
          have p5_131 := p5_118.below b121
          have B_132 := B_119.trans (b121.mono B_119.size)
          clear r1_109 p1_110 r2_111 p2_112 r3_113 p3_114 r4_115 r5_116 p4_117 p5_118 B_119
          clear r4_128
          clear p4_130
          clear r5_129
          clear p5_131
          have hq := p1_123; obtain ⟨k0, k1, k2, k3⟩ := hq
          go_wp2_with fail
          have q135 := CountGates_any x y A gs.length ca O os.length co gs os a120 ⟨r1_122.1.reads, r1_122.2.1.reads⟩ (by omega) (by omega)
          rw [HK1.out] at q135
          refine q135.mono ?_
          clear q135
          rintro e a133 hT
          clear k0 k1 k2 k3
          obtain ⟨Ba, da, rfl, ta, bba⟩ := open_os hT HL1.out
          clear hT
          have r1_136 := r1_122.below bba (.inl (Nat.le_refl _))
          have p1_137 := p1_123.below bba
          have r2_138 := r2_124.below bba (.inl (Nat.le_refl _))
          have p2_139 := p2_125.below bba
          have r3_140 := r3_126.below bba (.inl (Nat.le_refl _))
          have p3_141 := p3_127.below bba
          have B_142 := B_132.trans (bba.mono B_132.size)
          clear r1_122 p1_123 r2_124 p2_125 r3_126 p3_127 B_132
          clear bba
          have hq := p2_139; obtain ⟨k0, k1, k2, k3⟩ := hq
          go_wp2_with fail
          have q145 := CountGates_any x y A2 g2.length ca2 O2 q2.length co2 g2 q2 a133 ⟨r2_138.1.reads, r2_138.2.1.reads⟩ (by omega) (by omega)
          rw [HK2.out] at q145
          refine q145.mono ?_
          clear q145
          rintro e a143 hT
          clear k0 k1 k2 k3
          obtain ⟨Bb, db, rfl, tb, bbb⟩ := open_os hT HL2.out
          clear hT
          have r1_146 := r1_136.below bbb (.inl (Nat.le_refl _))
          have p1_147 := p1_137.below bbb
          have r2_148 := r2_138.below bbb (.inl (Nat.le_refl _))
          have p2_149 := p2_139.below bbb
          have r3_150 := r3_140.below bbb (.inl (Nat.le_refl _))
          have p3_151 := p3_141.below bbb
          have ta_152 := ta.below bbb (.inl (Nat.le_refl _))
          have B_153 := B_142.trans (bbb.mono B_142.size)
          clear r1_136 p1_137 r2_138 p2_139 r3_140 p3_141 ta B_142
          clear bbb
          have hq := p1_147; obtain ⟨k0, k1, k2, k3⟩ := hq
          go_wp2_with fail
          have q156 := spec_CountGates_any x y A gs.length ca O os.length co gs os a143 ⟨r1_146.1.reads, r1_146.2.1.reads⟩ (by omega) (by omega)
          rw [HK1.out] at q156
          refine q156.mono ?_
          clear q156
          rintro e a154 hT
          clear k0 k1 k2 k3
          obtain ⟨Bc, dc, rfl, tc, bbc⟩ := open_os hT HL1.out
          clear hT
          have r1_157 := r1_146.below bbc (.inl (Nat.le_refl _))
          have p1_158 := p1_147.below bbc
          have r2_159 := r2_148.below bbc (.inl (Nat.le_refl _))
          have p2_160 := p2_149.below bbc
          have r3_161 := r3_150.below bbc (.inl (Nat.le_refl _))
          have p3_162 := p3_151.below bbc
          have ta_163 := ta_152.below bbc (.inl (Nat.le_refl _))
          have tb_164 := tb.below bbc (.inl (Nat.le_refl _))
          have B_165 := B_153.trans (bbc.mono B_153.size)
          clear r1_146 p1_147 r2_148 p2_149 r3_150 p3_151 ta_152 tb B_153
          clear bbc
          have hq := p3_162; obtain ⟨k0, k1, k2, k3⟩ := hq
          go_wp2_with fail
          have q168 := spec_CountGates_any x y A3 g2.length ca3 O3 q2.length co3 g2 q2 a154 ⟨r3_161.1.reads, r3_161.2.1.reads⟩ (by omega) (by omega)
          rw [HK2.out] at q168
          refine q168.mono ?_
          clear q168
          rintro e a166 hT
          clear k0 k1 k2 k3
          obtain ⟨Bd, dd, rfl, td, bbd⟩ := open_os hT HL2.out
          clear hT
          have r1_169 := r1_157.below bbd (.inl (Nat.le_refl _))
          have p1_170 := p1_158.below bbd
          have r2_171 := r2_159.below bbd (.inl (Nat.le_refl _))
          have p2_172 := p2_160.below bbd
          have r3_173 := r3_161.below bbd (.inl (Nat.le_refl _))
          have p3_174 := p3_162.below bbd
          have ta_175 := ta_163.below bbd (.inl (Nat.le_refl _))
          have tb_176 := tb_164.below bbd (.inl (Nat.le_refl _))
          have tc_177 := tc.below bbd (.inl (Nat.le_refl _))
          have B_178 := B_165.trans (bbd.mono B_165.size)
          clear r1_157 p1_158 r2_159 p2_160 r3_161 p3_162 ta_163 tb_164 tc B_165
          clear bbd
          have hq := p2_172; obtain ⟨k0, k1, k2, k3⟩ := hq
          go_wp2_with fail
          have q181 := SimplifyCircuit_any x y A2 g2.length ca2 O2 q2.length co2 g2 q2 a166 ⟨r2_171.1.reads, r2_171.2.1.reads⟩ (by omega) (by omega)
          rw [HS2.out] at q181
          refine q181.mono ?_
          clear q181
          rintro e a179 hT
          clear k0 k1 k2 k3
          obtain ⟨A6, ca6, O6, co6, rfl, o6, b6⟩ := open_cs hT
          clear hT
          dsimp only at o6 ⊢
          have r1_182 := r1_169.below b6 (.inl (Nat.le_refl _))
          have p1_183 := p1_170.below b6
          have r2_184 := r2_171.below b6 (.inl (Nat.le_refl _))
          have p2_185 := p2_172.below b6
          have r3_186 := r3_173.below b6 (.inl (Nat.le_refl _))
          have p3_187 := p3_174.below b6
          have ta_188 := ta_175.below b6 (.inl (Nat.le_refl _))
          have tb_189 := tb_176.below b6 (.inl (Nat.le_refl _))
          have tc_190 := tc_177.below b6 (.inl (Nat.le_refl _))
          have td_191 := td.below b6 (.inl (Nat.le_refl _))
          have B_192 := B_178.trans (b6.mono B_178.size)
          clear r1_169 p1_170 r2_171 p2_172 r3_173 p3_174 ta_175 tb_176 tc_177 td B_178
          have al193 : Below a179.heap.size a179 (a179.alloc (.cells #[.int .i64 x, .int .i64 y, .slice A6 g3.length ca6, .slice O6 q3.length co6] 26)) := (Below.refl _ _).alloc (Nat.le_refl _) _
          have z194 : (a179.alloc (.cells #[.int .i64 x, .int .i64 y, .slice A6 g3.length ca6, .slice O6 q3.length co6] 26)).heap.size = a179.heap.size + 1 := by simp
          have p6_195 : BxC (a179.alloc (.cells #[.int .i64 x, .int .i64 y, .slice A6 g3.length ca6, .slice O6 q3.length co6] 26)) a179.heap.size x y A6 g3.length ca6 O6 q3.length co6 := BxC.new _ _
          have r1_196 := r1_182.below al193 (.inl (Nat.le_refl _))
          have p1_197 := p1_183.below al193
          have r2_198 := r2_184.below al193 (.inl (Nat.le_refl _))
          have p2_199 := p2_185.below al193
          have r3_200 := r3_186.below al193 (.inl (Nat.le_refl _))
          have p3_201 := p3_187.below al193
          have ta_202 := ta_188.below al193 (.inl (Nat.le_refl _))
          have tb_203 := tb_189.below al193 (.inl (Nat.le_refl _))
          have tc_204 := tc_190.below al193 (.inl (Nat.le_refl _))
          have td_205 := td_191.below al193 (.inl (Nat.le_refl _))
          have r6_206 := o6.below al193 (.inl (Nat.le_refl _))
          have B_207 := B_192.trans (al193.mono B_192.size)
          clear r1_182 p1_183 r2_184 p2_185 r3_186 p3_187 ta_188 tb_189 tc_190 td_191 o6 B_192
          go_wp2_with fail
          generalize (a179.alloc (.cells #[.int .i64 x, .int .i64 y, .slice A6 g3.length ca6, .slice O6 q3.length co6] 26)) = a208 at *
          clear al193
          obtain ⟨K, hK⟩ : ∃ K, gi L1 1 = K := ⟨_, rfl⟩
          obtain ⟨L, hL⟩ : ∃ L, gi L2 1 = L := ⟨_, rfl⟩
          have hLK := Hk.out
          rw [hK, hL] at hLK
          have HLK : Hid (decide (K < L) = false) := Lib.hid (decide_eq_false (by omega))
          have hIa := ta_202.reads; have hIb := tb_203.reads; have hIc := tc_204.reads; have hId := td_205.reads
          obtain ⟨kb, ob, hBc, hkb, f1⟩ := hIc.at_ (k := 1) (by omega)
          obtain ⟨kd, od, hBd, hkd, f2⟩ := hId.at_ (k := 1) (by omega)
          rw [hK] at f1
          rw [hL] at f2
          subst hBc
          subst hBd
          clear hK hL hLK Hk ta_202 tb_203 tc_204 td_205
          go_wp2_with fail
          refine wp_region_mem0 (39) [(⟨kb, ob + 1, none⟩, .int .i64 K), (⟨kd, od + 1, none⟩, .int .i64 L)] [(17, [], []), (23, [], [])] [17, 23] [(17, Res.plain (.bool true)), (23, Res.plain (.bool true))] (by kernel_rfl) (by kernel_rfl) (by kernel_rfl) (by simp only [CellsL, List.mem_cons, forall_eq_or_imp, List.not_mem_nil, false_implies, implies_true, and_true]; repeat (any_goals (apply And.intro)); all_goals (first | assumption | go_simp)) ?_
          simp only [List.take_succ_cons, List.take_zero, List.drop_succ_cons, List.drop_zero, List.take_nil, List.drop_nil, List.take, List.drop]
          have hLK2 := HLK.out
          repeat (first
            | ((with_reducible refine mem_pure0 ?_ ?_ ?_)
               · exact rfl
               · exact rfl
               intro K hK
               apply Exists.intro
               refine ⟨fun w3 hw3 => ?_, ?_⟩
               · have hcs := hw3
                 simp only [CellsL, List.mem_cons, forall_eq_or_imp, List.not_mem_nil, false_implies, implies_true, and_true] at hcs
                 clear hw3
                 go_simp
                 first | done | exact ⟨rfl, rfl⟩ | rfl
               refine hK _ ?_
               clear hK K
               try simp only [Act.put, List.setIfInBounds_toArray, List.set_cons_zero, List.set_cons_succ])
            | ((with_reducible refine mem_skip ?_ ?_ ?_)
               · exact rfl
               · exact wanted_not rfl rfl rfl rfl
               simp only [Act.put, List.setIfInBounds_toArray, List.set_cons_zero, List.set_cons_succ])
            | ((with_reducible refine mem_pure ?_ ?_ ?_)
               · exact rfl
               · exact wanted_some rfl rfl rfl rfl
               intro K hK
               apply Exists.intro
               refine ⟨fun w3 hw3 => ?_, ?_⟩
               · have hcs := hw3
                 simp only [CellsL, List.mem_cons, forall_eq_or_imp, List.not_mem_nil, false_implies, implies_true, and_true] at hcs
                 clear hw3
                 go_simp
                 first | done | exact ⟨rfl, rfl⟩ | rfl
               refine hK _ ?_
               clear hK K
               try simp only [Act.put, List.setIfInBounds_toArray, List.set_cons_zero, List.set_cons_succ]))
          focus
            (with_reducible refine mem_plain (.bool true) ?_ ?_ ?_ ?_ (hw := ?_))
            · exact rfl
            · exact rfl
            · intro w3 hw3 hc3 hp3
              have hcs := hc3
              simp only [CellsL, List.mem_cons, forall_eq_or_imp, List.not_mem_nil, false_implies, implies_true, and_true] at hcs
              go_simp; refine (qInts_true _ _ 4 da dc L1 _ (hIa.below (alt_below hw3) (Nat.le_refl _)) (hIc.below (alt_below hw3) (Nat.le_refl _)) (by omega)).mono ?_; rintro e w8 ⟨rfl, j, rfl⟩; exact retPost.mk_ ⟨rfl, below_of_drewN _⟩
            rotate_left
            · first | exact wanted_none rfl | exact wanted_some rfl rfl rfl rfl
            try simp only [Act.put, List.setIfInBounds_toArray, List.set_cons_zero, List.set_cons_succ]
          repeat (first
            | ((with_reducible refine mem_pure0 ?_ ?_ ?_)
               · exact rfl
               · exact rfl
               intro K hK
               apply Exists.intro
               refine ⟨fun w3 hw3 => ?_, ?_⟩
               · have hcs := hw3
                 simp only [CellsL, List.mem_cons, forall_eq_or_imp, List.not_mem_nil, false_implies, implies_true, and_true] at hcs
                 clear hw3
                 go_simp
                 first | done | exact ⟨rfl, rfl⟩ | rfl
               refine hK _ ?_
               clear hK K
               try simp only [Act.put, List.setIfInBounds_toArray, List.set_cons_zero, List.set_cons_succ])
            | ((with_reducible refine mem_skip ?_ ?_ ?_)
               · exact rfl
               · exact wanted_not rfl rfl rfl rfl
               simp only [Act.put, List.setIfInBounds_toArray, List.set_cons_zero, List.set_cons_succ])
            | ((with_reducible refine mem_pure ?_ ?_ ?_)
               · exact rfl
               · exact wanted_some rfl rfl rfl rfl
               intro K hK
               apply Exists.intro
               refine ⟨fun w3 hw3 => ?_, ?_⟩
               · have hcs := hw3
                 simp only [CellsL, List.mem_cons, forall_eq_or_imp, List.not_mem_nil, false_implies, implies_true, and_true] at hcs
                 clear hw3
                 go_simp
                 first | done | exact ⟨rfl, rfl⟩ | rfl
               refine hK _ ?_
               clear hK K
               try simp only [Act.put, List.setIfInBounds_toArray, List.set_cons_zero, List.set_cons_succ]))
          focus
            (with_reducible refine mem_plain (.bool true) ?_ ?_ ?_ ?_ (hw := ?_))
            · exact rfl
            · exact rfl
            · intro w3 hw3 hc3 hp3
              have hcs := hc3
              simp only [CellsL, List.mem_cons, forall_eq_or_imp, List.not_mem_nil, false_implies, implies_true, and_true] at hcs
              go_simp; refine (qInts_true _ _ 4 db dd L2 _ (hIb.below (alt_below hw3) (Nat.le_refl _)) (hId.below (alt_below hw3) (Nat.le_refl _)) (by omega)).mono ?_; rintro e w8 ⟨rfl, j, rfl⟩; exact retPost.mk_ ⟨rfl, below_of_drewN _⟩
            rotate_left
            · first | exact wanted_none rfl | exact wanted_some rfl rfl rfl rfl
            try simp only [Act.put, List.setIfInBounds_toArray, List.set_cons_zero, List.set_cons_succ]
          repeat (first
            | ((with_reducible refine mem_pure0 ?_ ?_ ?_)
               · exact rfl
               · exact rfl
               intro K hK
               apply Exists.intro
               refine ⟨fun w3 hw3 => ?_, ?_⟩
               · have hcs := hw3
                 simp only [CellsL, List.mem_cons, forall_eq_or_imp, List.not_mem_nil, false_implies, implies_true, and_true] at hcs
                 clear hw3
                 go_simp
                 first | done | exact ⟨rfl, rfl⟩ | rfl
               refine hK _ ?_
               clear hK K
               try simp only [Act.put, List.setIfInBounds_toArray, List.set_cons_zero, List.set_cons_succ])
            | ((with_reducible refine mem_skip ?_ ?_ ?_)
               · exact rfl
               · exact wanted_not rfl rfl rfl rfl
               simp only [Act.put, List.setIfInBounds_toArray, List.set_cons_zero, List.set_cons_succ])
            | ((with_reducible refine mem_pure ?_ ?_ ?_)
               · exact rfl
               · exact wanted_some rfl rfl rfl rfl
               intro K hK
               apply Exists.intro
               refine ⟨fun w3 hw3 => ?_, ?_⟩
               · have hcs := hw3
                 simp only [CellsL, List.mem_cons, forall_eq_or_imp, List.not_mem_nil, false_implies, implies_true, and_true] at hcs
                 clear hw3
                 go_simp
                 first | done | exact ⟨rfl, rfl⟩ | rfl
               refine hK _ ?_
               clear hK K
               try simp only [Act.put, List.setIfInBounds_toArray, List.set_cons_zero, List.set_cons_succ]))
          refine wpSep_end ?_
          intro wy hwy hcy hfin hap
          clear hLK2
          have by9 := alt_below hwy
          clear hfin hap hcy hwy
          have r1_209 := r1_196.below by9 (.inl (Nat.le_refl _))
          have p1_210 := p1_197.below by9
          have r2_211 := r2_198.below by9 (.inl (Nat.le_refl _))
          have p2_212 := p2_199.below by9
          have r3_213 := r3_200.below by9 (.inl (Nat.le_refl _))
          have p3_214 := p3_201.below by9
          have r6_215 := r6_206.below by9 (.inl (Nat.le_refl _))
          have p6_216 := p6_195.below by9
          have B_217 := B_207.trans (by9.mono B_207.size)
          clear r1_196 p1_197 r2_198 p2_199 r3_200 p3_201 r6_206 p6_195 B_207
          clear f1 f2 hIa hIb hIc hId
          have hq := p1_210; obtain ⟨k0, k1, k2, k3⟩ := hq
          have hw1 : IntKind.i64.wrap (x + y) = x + y := by rw [IntKind.wrap_i64] <;> omega
          by_cases h10 : 10 < x + y
          · go_wp2
            go_ret
            exact ⟨rfl, B_217⟩
          · have h11 : x + y ≤ 10 := by omega
            have hp1 := Lib.hid (Hsm.out.pair h11); have hp2 := Lib.hid (Hsm2.out.pair h11); have hv1 := Lib.hid (Hsm.out.eqv h11); have hv2 := Lib.hid (Hsm2.out.eqv h11)
            clear h11
            have hq := p2_212; obtain ⟨m0, m1, m2, m3⟩ := hq
            go_wp2_with fail
            have qa := AreEqual_any x y A gs.length ca O os.length co x y A2 g2.length ca2 O2 q2.length co2 gs os g2 q2 _ ⟨r1_209.1.reads, r1_209.2.1.reads⟩ (by omega) (by omega) ⟨r2_211.1.reads, r2_211.2.1.reads⟩ (by omega) (by omega)
            rw [hv1.out, hp1.out] at qa
            refine qa.mono ?_
            clear qa
            rintro e az ⟨rfl, bz⟩
            clear k0 k1 k2 k3 m0 m1 m2 m3 hw1 h10
            have r1_218 := r1_209.below bz (.inl (Nat.le_refl _))
            have p1_219 := p1_210.below bz
            have r2_220 := r2_211.below bz (.inl (Nat.le_refl _))
            have p2_221 := p2_212.below bz
            have r3_222 := r3_213.below bz (.inl (Nat.le_refl _))
            have p3_223 := p3_214.below bz
            have r6_224 := r6_215.below bz (.inl (Nat.le_refl _))
            have p6_225 := p6_216.below bz
            have B_226 := B_217.trans (bz.mono B_217.size)
            clear r1_209 p1_210 r2_211 p2_212 r3_213 p3_214 r6_215 p6_216 B_217
            have hq := p6_225; obtain ⟨k0, k1, k2, k3⟩ := hq
            have hq := p2_221; obtain ⟨m0, m1, m2, m3⟩ := hq
            go_wp2_with fail
            have qa := AreEqual_any x y A2 g2.length ca2 O2 q2.length co2 x y A6 g3.length ca6 O6 q3.length co6 g2 q2 g3 q3 _ ⟨r2_220.1.reads, r2_220.2.1.reads⟩ (by omega) (by omega) ⟨r6_224.1.reads, r6_224.2.1.reads⟩ (by omega) (by omega)
            rw [hv2.out, hp2.out] at qa
            refine qa.mono ?_
            clear qa
            rintro e ay ⟨rfl, by0⟩
            clear k0 k1 k2 k3 m0 m1 m2 m3
            have r1_227 := r1_218.below by0 (.inl (Nat.le_refl _))
            have p1_228 := p1_219.below by0
            have r2_229 := r2_220.below by0 (.inl (Nat.le_refl _))
            have p2_230 := p2_221.below by0
            have r3_231 := r3_222.below by0 (.inl (Nat.le_refl _))
            have p3_232 := p3_223.below by0
            have r6_233 := r6_224.below by0 (.inl (Nat.le_refl _))
            have p6_234 := p6_225.below by0
            have B_235 := B_226.trans (by0.mono B_226.size)
            clear r1_218 p1_219 r2_220 p2_221 r3_222 p3_223 r6_224 p6_225 B_226
            go_wp2
            go_ret
            exact ⟨rfl, B_235⟩
      | true =>
          have n2 : (q9 != q9) = false := by simp
          have n4 : (fb == q9) = false := HN2 rfl
          clear HN2
          have hq := p2_112; obtain ⟨k0, k1, k2, k3⟩ := hq
          have hq := p3_114; obtain ⟨m0, m1, m2, m3⟩ := hq
          go_wp2_with fail
          refine (qCircuit_any x y A2 A3 g2.length ca2 ca3 O2 O3 q2.length co2 co3 g2 q2 _ ⟨r2_111.1.reads, r2_111.2.1.reads⟩ ⟨r3_113.1.reads, r3_113.2.1.reads⟩ (by omega) (by omega)).mono ?_
          rintro e a120 ⟨rfl, b121⟩
          clear k0 k1 k2 k3 m0 m1 m2 m3
          have r1_122 := r1_109.below b121 (.inl (Nat.le_refl _))
          have p1_123 := p1_110.below b121
          have r2_124 := r2_111.below b121 (.inl (Nat.le_refl _))
          have p2_125 := p2_112.below b121
          have r3_126 := r3_113.below b121 (.inl (Nat.le_refl _))
          have p3_127 := p3_114.below b121
          have r4_128 := r4_115.below b121 (.inl (Nat.le_refl _))
          have r5_129 := r5_116.below b121 (.inl (Nat.le_refl _))
          have p4_130 := p4_117.below b121
          have p5_131 := p5_118.below b121
          have B_132 := B_119.trans (b121.mono B_119.size)
          clear r1_109 p1_110 r2_111 p2_112 r3_113 p3_114 r4_115 r5_116 p4_117 p5_118 B_119
          clear r4_128
          clear p4_130
          clear r5_129
          clear p5_131
          have hq := p1_123; obtain ⟨k0, k1, k2, k3⟩ := hq
          go_wp2_with fail
          have q135 := CountGates_any x y A gs.length ca O os.length co gs os a120 ⟨r1_122.1.reads, r1_122.2.1.reads⟩ (by omega) (by omega)
          rw [HK1.out] at q135
          refine q135.mono ?_
          clear q135
          rintro e a133 hT
          clear k0 k1 k2 k3
          obtain ⟨Ba, da, rfl, ta, bba⟩ := open_os hT HL1.out
          clear hT
          have r1_136 := r1_122.below bba (.inl (Nat.le_refl _))
          have p1_137 := p1_123.below bba
          have r2_138 := r2_124.below bba (.inl (Nat.le_refl _))
          have p2_139 := p2_125.below bba
          have r3_140 := r3_126.below bba (.inl (Nat.le_refl _))
          have p3_141 := p3_127.below bba
          have B_142 := B_132.trans (bba.mono B_132.size)
          clear r1_122 p1_123 r2_124 p2_125 r3_126 p3_127 B_132
          clear bba
          have hq := p2_139; obtain ⟨k0, k1, k2, k3⟩ := hq
          go_wp2_with fail
          have q145 := CountGates_any x y A2 g2.length ca2 O2 q2.length co2 g2 q2 a133 ⟨r2_138.1.reads, r2_138.2.1.reads⟩ (by omega) (by omega)
          rw [HK2.out] at q145
          refine q145.mono ?_
          clear q145
          rintro e a143 hT
          clear k0 k1 k2 k3
          obtain ⟨Bb, db, rfl, tb, bbb⟩ := open_os hT HL2.out
          clear hT
          have r1_146 := r1_136.below bbb (.inl (Nat.le_refl _))
          have p1_147 := p1_137.below bbb
          have r2_148 := r2_138.below bbb (.inl (Nat.le_refl _))
          have p2_149 := p2_139.below bbb
          have r3_150 := r3_140.below bbb (.inl (Nat.le_refl _))
          have p3_151 := p3_141.below bbb
          have ta_152 := ta.below bbb (.inl (Nat.le_refl _))
          have B_153 := B_142.trans (bbb.mono B_142.size)
          clear r1_136 p1_137 r2_138 p2_139 r3_140 p3_141 ta B_142
          clear bbb
          have hq := p1_147; obtain ⟨k0, k1, k2, k3⟩ := hq
          go_wp2_with fail
          have q156 := spec_CountGates_any x y A gs.length ca O os.length co gs os a143 ⟨r1_146.1.reads, r1_146.2.1.reads⟩ (by omega) (by omega)
          rw [HK1.out] at q156
          refine q156.mono ?_
          clear q156
          rintro e a154 hT
          clear k0 k1 k2 k3
          obtain ⟨Bc, dc, rfl, tc, bbc⟩ := open_os hT HL1.out
          clear hT
          have r1_157 := r1_146.below bbc (.inl (Nat.le_refl _))
          have p1_158 := p1_147.below bbc
          have r2_159 := r2_148.below bbc (.inl (Nat.le_refl _))
          have p2_160 := p2_149.below bbc
          have r3_161 := r3_150.below bbc (.inl (Nat.le_refl _))
          have p3_162 := p3_151.below bbc
          have ta_163 := ta_152.below bbc (.inl (Nat.le_refl _))
          have tb_164 := tb.below bbc (.inl (Nat.le_refl _))
          have B_165 := B_153.trans (bbc.mono B_153.size)
          clear r1_146 p1_147 r2_148 p2_149 r3_150 p3_151 ta_152 tb B_153
          clear bbc
          have hq := p3_162; obtain ⟨k0, k1, k2, k3⟩ := hq
          go_wp2_with fail
          have q168 := spec_CountGates_any x y A3 g2.length ca3 O3 q2.length co3 g2 q2 a154 ⟨r3_161.1.reads, r3_161.2.1.reads⟩ (by omega) (by omega)
          rw [HK2.out] at q168
          refine q168.mono ?_
          clear q168
          rintro e a166 hT
          clear k0 k1 k2 k3
          obtain ⟨Bd, dd, rfl, td, bbd⟩ := open_os hT HL2.out
          clear hT
          have r1_169 := r1_157.below bbd (.inl (Nat.le_refl _))
          have p1_170 := p1_158.below bbd
          have r2_171 := r2_159.below bbd (.inl (Nat.le_refl _))
          have p2_172 := p2_160.below bbd
          have r3_173 := r3_161.below bbd (.inl (Nat.le_refl _))
          have p3_174 := p3_162.below bbd
          have ta_175 := ta_163.below bbd (.inl (Nat.le_refl _))
          have tb_176 := tb_164.below bbd (.inl (Nat.le_refl _))
          have tc_177 := tc.below bbd (.inl (Nat.le_refl _))
          have B_178 := B_165.trans (bbd.mono B_165.size)
          clear r1_157 p1_158 r2_159 p2_160 r3_161 p3_162 ta_163 tb_164 tc B_165
          clear bbd
          have hq := p2_172; obtain ⟨k0, k1, k2, k3⟩ := hq
          go_wp2_with fail
          have q181 := SimplifyCircuit_any x y A2 g2.length ca2 O2 q2.length co2 g2 q2 a166 ⟨r2_171.1.reads, r2_171.2.1.reads⟩ (by omega) (by omega)
          rw [HS2.out] at q181
          refine q181.mono ?_
          clear q181
          rintro e a179 hT
          clear k0 k1 k2 k3
          obtain ⟨A6, ca6, O6, co6, rfl, o6, b6⟩ := open_cs hT
          clear hT
          dsimp only at o6 ⊢
          have r1_182 := r1_169.below b6 (.inl (Nat.le_refl _))
          have p1_183 := p1_170.below b6
          have r2_184 := r2_171.below b6 (.inl (Nat.le_refl _))
          have p2_185 := p2_172.below b6
          have r3_186 := r3_173.below b6 (.inl (Nat.le_refl _))
          have p3_187 := p3_174.below b6
          have ta_188 := ta_175.below b6 (.inl (Nat.le_refl _))
          have tb_189 := tb_176.below b6 (.inl (Nat.le_refl _))
          have tc_190 := tc_177.below b6 (.inl (Nat.le_refl _))
          have td_191 := td.below b6 (.inl (Nat.le_refl _))
          have B_192 := B_178.trans (b6.mono B_178.size)
          clear r1_169 p1_170 r2_171 p2_172 r3_173 p3_174 ta_175 tb_176 tc_177 td B_178
          have al193 : Below a179.heap.size a179 (a179.alloc (.cells #[.int .i64 x, .int .i64 y, .slice A6 g3.length ca6, .slice O6 q3.length co6] 26)) := (Below.refl _ _).alloc (Nat.le_refl _) _
          have z194 : (a179.alloc (.cells #[.int .i64 x, .int .i64 y, .slice A6 g3.length ca6, .slice O6 q3.length co6] 26)).heap.size = a179.heap.size + 1 := by simp
          have p6_195 : BxC (a179.alloc (.cells #[.int .i64 x, .int .i64 y, .slice A6 g3.length ca6, .slice O6 q3.length co6] 26)) a179.heap.size x y A6 g3.length ca6 O6 q3.length co6 := BxC.new _ _
          have r1_196 := r1_182.below al193 (.inl (Nat.le_refl _))
          have p1_197 := p1_183.below al193
          have r2_198 := r2_184.below al193 (.inl (Nat.le_refl _))
          have p2_199 := p2_185.below al193
          have r3_200 := r3_186.below al193 (.inl (Nat.le_refl _))
          have p3_201 := p3_187.below al193
          have ta_202 := ta_188.below al193 (.inl (Nat.le_refl _))
          have tb_203 := tb_189.below al193 (.inl (Nat.le_refl _))
          have tc_204 := tc_190.below al193 (.inl (Nat.le_refl _))
          have td_205 := td_191.below al193 (.inl (Nat.le_refl _))
          have r6_206 := o6.below al193 (.inl (Nat.le_refl _))
          have B_207 := B_192.trans (al193.mono B_192.size)
          clear r1_182 p1_183 r2_184 p2_185 r3_186 p3_187 ta_188 tb_189 tc_190 td_191 o6 B_192
          go_wp2_with fail
          generalize (a179.alloc (.cells #[.int .i64 x, .int .i64 y, .slice A6 g3.length ca6, .slice O6 q3.length co6] 26)) = a208 at *
          clear al193
          obtain ⟨K, hK⟩ : ∃ K, gi L1 1 = K := ⟨_, rfl⟩
          obtain ⟨L, hL⟩ : ∃ L, gi L2 1 = L := ⟨_, rfl⟩
          have hLK := Hk.out
          rw [hK, hL] at hLK
          have HLK : Hid (decide (K < L) = false) := Lib.hid (decide_eq_false (by omega))
          have hIa := ta_202.reads; have hIb := tb_203.reads; have hIc := tc_204.reads; have hId := td_205.reads
          obtain ⟨kb, ob, hBc, hkb, f1⟩ := hIc.at_ (k := 1) (by omega)
          obtain ⟨kd, od, hBd, hkd, f2⟩ := hId.at_ (k := 1) (by omega)
          rw [hK] at f1
          rw [hL] at f2
          subst hBc
          subst hBd
          clear hK hL hLK Hk ta_202 tb_203 tc_204 td_205
          go_wp2_with fail
          refine wp_region_mem0 (39) [(⟨kb, ob + 1, none⟩, .int .i64 K), (⟨kd, od + 1, none⟩, .int .i64 L)] [(17, [], []), (23, [], [])] [17, 23] [(17, Res.plain (.bool true)), (23, Res.plain (.bool true))] (by kernel_rfl) (by kernel_rfl) (by kernel_rfl) (by simp only [CellsL, List.mem_cons, forall_eq_or_imp, List.not_mem_nil, false_implies, implies_true, and_true]; repeat (any_goals (apply And.intro)); all_goals (first | assumption | go_simp)) ?_
          simp only [List.take_succ_cons, List.take_zero, List.drop_succ_cons, List.drop_zero, List.take_nil, List.drop_nil, List.take, List.drop]
          have hLK2 := HLK.out
          repeat (first
            | ((with_reducible refine mem_pure0 ?_ ?_ ?_)
               · exact rfl
               · exact rfl
               intro K hK
               apply Exists.intro
               refine ⟨fun w3 hw3 => ?_, ?_⟩
               · have hcs := hw3
                 simp only [CellsL, List.mem_cons, forall_eq_or_imp, List.not_mem_nil, false_implies, implies_true, and_true] at hcs
                 clear hw3
                 go_simp
                 first | done | exact ⟨rfl, rfl⟩ | rfl
               refine hK _ ?_
               clear hK K
               try simp only [Act.put, List.setIfInBounds_toArray, List.set_cons_zero, List.set_cons_succ])
            | ((with_reducible refine mem_skip ?_ ?_ ?_)
               · exact rfl
               · exact wanted_not rfl rfl rfl rfl
               simp only [Act.put, List.setIfInBounds_toArray, List.set_cons_zero, List.set_cons_succ])
            | ((with_reducible refine mem_pure ?_ ?_ ?_)
               · exact rfl
               · exact wanted_some rfl rfl rfl rfl
               intro K hK
               apply Exists.intro
               refine ⟨fun w3 hw3 => ?_, ?_⟩
               · have hcs := hw3
                 simp only [CellsL, List.mem_cons, forall_eq_or_imp, List.not_mem_nil, false_implies, implies_true, and_true] at hcs
                 clear hw3
                 go_simp
                 first | done | exact ⟨rfl, rfl⟩ | rfl
               refine hK _ ?_
               clear hK K
               try simp only [Act.put, List.setIfInBounds_toArray, List.set_cons_zero, List.set_cons_succ]))
          focus
            (with_reducible refine mem_plain (.bool true) ?_ ?_ ?_ ?_ (hw := ?_))
            · exact rfl
            · exact rfl
            · intro w3 hw3 hc3 hp3
              have hcs := hc3
              simp only [CellsL, List.mem_cons, forall_eq_or_imp, List.not_mem_nil, false_implies, implies_true, and_true] at hcs
              go_simp; refine (qInts_true _ _ 4 da dc L1 _ (hIa.below (alt_below hw3) (Nat.le_refl _)) (hIc.below (alt_below hw3) (Nat.le_refl _)) (by omega)).mono ?_; rintro e w8 ⟨rfl, j, rfl⟩; exact retPost.mk_ ⟨rfl, below_of_drewN _⟩
            rotate_left
            · first | exact wanted_none rfl | exact wanted_some rfl rfl rfl rfl
            try simp only [Act.put, List.setIfInBounds_toArray, List.set_cons_zero, List.set_cons_succ]
          repeat (first
            | ((with_reducible refine mem_pure0 ?_ ?_ ?_)
               · exact rfl
               · exact rfl
               intro K hK
               apply Exists.intro
               refine ⟨fun w3 hw3 => ?_, ?_⟩
               · have hcs := hw3
                 simp only [CellsL, List.mem_cons, forall_eq_or_imp, List.not_mem_nil, false_implies, implies_true, and_true] at hcs
                 clear hw3
                 go_simp
                 first | done | exact ⟨rfl, rfl⟩ | rfl
               refine hK _ ?_
               clear hK K
               try simp only [Act.put, List.setIfInBounds_toArray, List.set_cons_zero, List.set_cons_succ])
            | ((with_reducible refine mem_skip ?_ ?_ ?_)
               · exact rfl
               · exact wanted_not rfl rfl rfl rfl
               simp only [Act.put, List.setIfInBounds_toArray, List.set_cons_zero, List.set_cons_succ])
            | ((with_reducible refine mem_pure ?_ ?_ ?_)
               · exact rfl
               · exact wanted_some rfl rfl rfl rfl
               intro K hK
               apply Exists.intro
               refine ⟨fun w3 hw3 => ?_, ?_⟩
               · have hcs := hw3
                 simp only [CellsL, List.mem_cons, forall_eq_or_imp, List.not_mem_nil, false_implies, implies_true, and_true] at hcs
                 clear hw3
                 go_simp
                 first | done | exact ⟨rfl, rfl⟩ | rfl
               refine hK _ ?_
               clear hK K
               try simp only [Act.put, List.setIfInBounds_toArray, List.set_cons_zero, List.set_cons_succ]))
          focus
            (with_reducible refine mem_plain (.bool true) ?_ ?_ ?_ ?_ (hw := ?_))
            · exact rfl
            · exact rfl
            · intro w3 hw3 hc3 hp3
              have hcs := hc3
              simp only [CellsL, List.mem_cons, forall_eq_or_imp, List.not_mem_nil, false_implies, implies_true, and_true] at hcs
              go_simp; refine (qInts_true _ _ 4 db dd L2 _ (hIb.below (alt_below hw3) (Nat.le_refl _)) (hId.below (alt_below hw3) (Nat.le_refl _)) (by omega)).mono ?_; rintro e w8 ⟨rfl, j, rfl⟩; exact retPost.mk_ ⟨rfl, below_of_drewN _⟩
            rotate_left
            · first | exact wanted_none rfl | exact wanted_some rfl rfl rfl rfl
            try simp only [Act.put, List.setIfInBounds_toArray, List.set_cons_zero, List.set_cons_succ]
          repeat (first
            | ((with_reducible refine mem_pure0 ?_ ?_ ?_)
               · exact rfl
               · exact rfl
               intro K hK
               apply Exists.intro
               refine ⟨fun w3 hw3 => ?_, ?_⟩
               · have hcs := hw3
                 simp only [CellsL, List.mem_cons, forall_eq_or_imp, List.not_mem_nil, false_implies, implies_true, and_true] at hcs
                 clear hw3
                 go_simp
                 first | done | exact ⟨rfl, rfl⟩ | rfl
               refine hK _ ?_
               clear hK K
               try simp only [Act.put, List.setIfInBounds_toArray, List.set_cons_zero, List.set_cons_succ])
            | ((with_reducible refine mem_skip ?_ ?_ ?_)
               · exact rfl
               · exact wanted_not rfl rfl rfl rfl
               simp only [Act.put, List.setIfInBounds_toArray, List.set_cons_zero, List.set_cons_succ])
            | ((with_reducible refine mem_pure ?_ ?_ ?_)
               · exact rfl
               · exact wanted_some rfl rfl rfl rfl
               intro K hK
               apply Exists.intro
               refine ⟨fun w3 hw3 => ?_, ?_⟩
               · have hcs := hw3
                 simp only [CellsL, List.mem_cons, forall_eq_or_imp, List.not_mem_nil, false_implies, implies_true, and_true] at hcs
                 clear hw3
                 go_simp
                 first | done | exact ⟨rfl, rfl⟩ | rfl
               refine hK _ ?_
               clear hK K
               try simp only [Act.put, List.setIfInBounds_toArray, List.set_cons_zero, List.set_cons_succ]))
          refine wpSep_end ?_
          intro wy hwy hcy hfin hap
          clear hLK2
          have by9 := alt_below hwy
          clear hfin hap hcy hwy
          have r1_209 := r1_196.below by9 (.inl (Nat.le_refl _))
          have p1_210 := p1_197.below by9
          have r2_211 := r2_198.below by9 (.inl (Nat.le_refl _))
          have p2_212 := p2_199.below by9
          have r3_213 := r3_200.below by9 (.inl (Nat.le_refl _))
          have p3_214 := p3_201.below by9
          have r6_215 := r6_206.below by9 (.inl (Nat.le_refl _))
          have p6_216 := p6_195.below by9
          have B_217 := B_207.trans (by9.mono B_207.size)
          clear r1_196 p1_197 r2_198 p2_199 r3_200 p3_201 r6_206 p6_195 B_207
          clear f1 f2 hIa hIb hIc hId
          have hq := p1_210; obtain ⟨k0, k1, k2, k3⟩ := hq
          have hw1 : IntKind.i64.wrap (x + y) = x + y := by rw [IntKind.wrap_i64] <;> omega
          by_cases h10 : 10 < x + y
          · go_wp2
            go_ret
            exact ⟨rfl, B_217⟩
          · have h11 : x + y ≤ 10 := by omega
            have hp1 := Lib.hid (Hsm.out.pair h11); have hp2 := Lib.hid (Hsm2.out.pair h11); have hv1 := Lib.hid (Hsm.out.eqv h11); have hv2 := Lib.hid (Hsm2.out.eqv h11)
            clear h11
            have hq := p2_212; obtain ⟨m0, m1, m2, m3⟩ := hq
            go_wp2_with fail
            have qa := AreEqual_any x y A gs.length ca O os.length co x y A2 g2.length ca2 O2 q2.length co2 gs os g2 q2 _ ⟨r1_209.1.reads, r1_209.2.1.reads⟩ (by omega) (by omega) ⟨r2_211.1.reads, r2_211.2.1.reads⟩ (by omega) (by omega)
            rw [hv1.out, hp1.out] at qa
            refine qa.mono ?_
            clear qa
            rintro e az ⟨rfl, bz⟩
            clear k0 k1 k2 k3 m0 m1 m2 m3 hw1 h10
            have r1_218 := r1_209.below bz (.inl (Nat.le_refl _))
            have p1_219 := p1_210.below bz
            have r2_220 := r2_211.below bz (.inl (Nat.le_refl _))
            have p2_221 := p2_212.below bz
            have r3_222 := r3_213.below bz (.inl (Nat.le_refl _))
            have p3_223 := p3_214.below bz
            have r6_224 := r6_215.below bz (.inl (Nat.le_refl _))
            have p6_225 := p6_216.below bz
            have B_226 := B_217.trans (bz.mono B_217.size)
            clear r1_209 p1_210 r2_211 p2_212 r3_213 p3_214 r6_215 p6_216 B_217
            have hq := p6_225; obtain ⟨k0, k1, k2, k3⟩ := hq
            have hq := p2_221; obtain ⟨m0, m1, m2, m3⟩ := hq
            go_wp2_with fail
            have qa := AreEqual_any x y A2 g2.length ca2 O2 q2.length co2 x y A6 g3.length ca6 O6 q3.length co6 g2 q2 g3 q3 _ ⟨r2_220.1.reads, r2_220.2.1.reads⟩ (by omega) (by omega) ⟨r6_224.1.reads, r6_224.2.1.reads⟩ (by omega) (by omega)
            rw [hv2.out, hp2.out] at qa
            refine qa.mono ?_
            clear qa
            rintro e ay ⟨rfl, by0⟩
            clear k0 k1 k2 k3 m0 m1 m2 m3
            have r1_227 := r1_218.below by0 (.inl (Nat.le_refl _))
            have p1_228 := p1_219.below by0
            have r2_229 := r2_220.below by0 (.inl (Nat.le_refl _))
            have p2_230 := p2_221.below by0
            have r3_231 := r3_222.below by0 (.inl (Nat.le_refl _))
            have p3_232 := p3_223.below by0
            have r6_233 := r6_224.below by0 (.inl (Nat.le_refl _))
            have p6_234 := p6_225.below by0
            have B_235 := B_226.trans (by0.mono B_226.size)
            clear r1_218 p1_219 r2_220 p2_221 r3_222 p3_223 r6_224 p6_225 B_226
            go_wp2
            go_ret
            exact ⟨rfl, B_235⟩
end Go.Proofs.Ytikgagjoapggnaa.lawFnSimplified
