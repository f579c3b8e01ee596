/- The walk of the law FnMerged: whatever its arguments read as, it returns true and leaves what was there. No condition. -/
import Derived.Test.YtcdhmcpocohbpaaQP14
import Derived.Test.YtcdhmcpocohbpaaQP22
import Derived.Test.YtcdhmcpocohbpaaQP23
import Derived.Test.YtcdhmcpocohbpaaQP25
import Derived.Test.YtcdhmcpocohbpaaQP30
namespace Go.Proofs.Ytcdhmcpocohbpaa.lawFnMerged
open Go.RowKit
set_option linter.unusedVariables false
set_option linter.unusedSimpArgs false
attribute [local go_sem] sepAt sepUpon pureAt pureUpon
theorem open_cs {w w' : World} {C : Ci} {e : Ending} (h : RetC w (some C) e w') : ∃ A c O d, e = .returned (.tuple #[.agg #[.int .i64 C.i0, .int .i64 C.i1, .slice A C.gs.length c, .slice O C.os.length d], .bool true]) ∧ OwnC w' w.heap.size w'.heap.size A C.gs.length c O C.os.length d C.gs C.os ∧ Below w.heap.size w w' := h
theorem open_cn {w w' : World} {e : Ending} (h : RetC w none e w') : ∃ A c O d, e = .returned (.tuple #[.agg #[.int .i64 0, .int .i64 0, .slice A 0 c, .slice O 0 d], .bool false]) ∧ OwnC w' w.heap.size w'.heap.size A 0 c O 0 d [] [] ∧ Below w.heap.size w w' := h
theorem open_os {w w' : World} {U : List Int} {n : Nat} {e : Ending} (h : RetO w (some U) e w') (hn : U.length = n) : ∃ A c, e = .returned (.tuple #[.slice A n c, .bool true]) ∧ Own w' w.heap.size w'.heap.size (.slice A n c) n U ∧ Below w.heap.size w w' := by subst hn; exact h
theorem open_on {w w' : World} {e : Ending} (h : RetO w none e w') : ∃ A c, e = .returned (.tuple #[.slice A 0 c, .bool false]) ∧ Own w' w.heap.size w'.heap.size (.slice A 0 c) 0 [] ∧ Below w.heap.size w w' := h
theorem eqo_all2 {x y : Int} {gs : List G3} {os inp : List Int} (hI : Inp (x + y).toNat inp) : ∀ i : Nat, i < ((eqoF x y gs os).getD []).length → i < os.length ∧ 0 ≤ gi ((eqoF x y gs os).getD []) i ∧ gi ((eqoF x y gs os).getD []) i ≤ i ∧ gi (vals gs inp gs.length) (gi os i).toNat = gi (vals gs inp gs.length) (gi os (gi ((eqoF x y gs os).getD []) i).toNat).toNat := by
  cases h : eqoF x y gs os with
  | none => intro i hi; exact absurd hi (by simp)
  | some E =>
    obtain ⟨h1, h2, h3⟩ := eqo_all h
    intro i hi
    have hi' : i < os.length := by simpa [h1] using hi
    exact ⟨hi', (h2 i hi').1, (h2 i hi').2, h3 inp hI i hi'⟩
theorem w64_id (n : Int) (h : -9223372036854775808 ≤ n ∧ n ≤ 9223372036854775807) : wrap64 n = n := by unfold wrap64; omega
theorem bitB (n j : Nat) : 0 ≤ ((n : Int) / 2 + j) % 2 ∧ ((n : Int) / 2 + j) % 2 ≤ 1 := by omega
theorem bitA (n j : Nat) (hn : n < 4) (hj : j ≤ 40) : 0 ≤ (wrap64 ((n : Int) + wrap64 ((j : Int) * n))).tmod 2 ∧ (wrap64 ((n : Int) + wrap64 ((j : Int) * n))).tmod 2 ≤ 1 := by
  have h : (j : Int) * n ≤ 40 * 4 := Int.mul_le_mul (by omega) (by omega) (by omega) (by omega)
  have h0 : 0 ≤ (j : Int) * n := Int.mul_nonneg (by omega) (by omega)
  generalize (j : Int) * n = P at *
  rw [w64_id P (by omega), w64_id _ (by omega), Int.tmod_eq_emod_of_nonneg (by omega)]
  omega
set_option maxRecDepth 100000 in
set_option maxHeartbeats 8000000 in
theorem walk (Y : Option Addr) (n c : Nat) (Z : Option Addr) (m d : Nat) (w : World) (hY0 : RY0 w Y n) (hn : n ≤ 140737488355328) (hZ0 : RY0 w Z m) (hm : m ≤ 140737488355328) :
    Calls Try.prog 3 #[.slice Y n c, .slice Z m d] w fun e w' => e = .returned (.bool true) ∧ Below w.heap.size w w' := by
  have hsum : IntKind.i64.wrap ((n : Int) + m) = ((n + m : Nat) : Int) := by rw [IntKind.wrap_i64] <;> omega
  by_cases hs : 1048576 < n + m
  · have hs1 : (1048576 : Int) < ((n + m : Nat) : Int) := by omega
    have hs2 : (1048576 : Int) < (n : Int) + m := by omega
    go_enter Try.func3, Try.ntmps3
    go_wp2
    go_ret
    exact ⟨rfl, Below.refl _ _⟩
  have hs1 : ¬ (1048576 : Int) < ((n + m : Nat) : Int) := by omega
  have hs2 : ¬ (1048576 : Int) < (n : Int) + m := by omega
  have hY : RY w Y n := hY0.ry (by omega)
  go_enter Try.func3, Try.ntmps3
  go_wp2_with fail
  refine (DrawMergeGates_any Y n c w hY).mono ?_
  rintro e a1 ⟨⟨x, y, gs, os⟩, A, ca, O, co, rfl, o1, hng, hno, b2⟩
  dsimp only at o1 hng hno ⊢
  clear hs1 hs2 hsum
  have B_3 := b2
  have al4 : Below a1.heap.size a1 (a1.alloc (.cells #[.int .i64 x, .int .i64 y, .slice A gs.length ca, .slice O os.length co] 26)) := (Below.refl _ _).alloc (Nat.le_refl _) _
  have z5 : (a1.alloc (.cells #[.int .i64 x, .int .i64 y, .slice A gs.length ca, .slice O os.length co] 26)).heap.size = a1.heap.size + 1 := by simp
  have p1_6 : BxC (a1.alloc (.cells #[.int .i64 x, .int .i64 y, .slice A gs.length ca, .slice O os.length co] 26)) a1.heap.size x y A gs.length ca O os.length co := BxC.new _ _
  have r1_7 := o1.below al4 (.inl (Nat.le_refl _))
  have B_8 := B_3.trans (al4.mono B_3.size)
  clear o1 B_3
  have e1 : gs.length ≤ 2097152 := by omega
  have e2 : os.length ≤ 2097152 := by omega
  cases hc : circB x y gs os with
  | false =>
      have HM : Hid (mergeF x y gs os = none) := Lib.hid (by simp [mergeF, hc])
      have HD : Hid (dropF x y gs os = none) := Lib.hid (by simp [dropF, hc])
      have HK : Hid (cstF x y gs os = none) := Lib.hid (by simp [cstF, hc])
      have HE : Hid (eqoF x y gs os = none) := Lib.hid (by simp [eqoF, smallB, hc])
      clear hc
      have hq := p1_6; obtain ⟨k0, k1, k2, k3⟩ := hq
      go_wp2_with fail
      generalize (a1.alloc (.cells #[.int .i64 x, .int .i64 y, .slice A gs.length ca, .slice O os.length co] 26)) = a9 at *
      clear al4
      have q12 := MergeGates_any x y A gs.length ca O os.length co gs os a9 ⟨r1_7.1.reads, r1_7.2.1.reads⟩ e1 e2
      rw [HM.out] at q12
      refine q12.mono ?_
      clear q12
      rintro e a10 hT
      clear k0 k1 k2 k3
      obtain ⟨A2, ca2, O2, co2, rfl, o2, b2⟩ := open_cn hT
      have r1_13 := r1_7.below b2 (.inl (Nat.le_refl _))
      have p1_14 := p1_6.below b2
      have B_15 := B_8.trans (b2.mono B_8.size)
      clear r1_7 p1_6 B_8
      have al16 : Below a10.heap.size a10 (a10.alloc (.cells #[.int .i64 0, .int .i64 0, .slice A2 0 ca2, .slice O2 0 co2] 26)) := (Below.refl _ _).alloc (Nat.le_refl _) _
      have z17 : (a10.alloc (.cells #[.int .i64 0, .int .i64 0, .slice A2 0 ca2, .slice O2 0 co2] 26)).heap.size = a10.heap.size + 1 := by simp
      have p2_18 : BxC (a10.alloc (.cells #[.int .i64 0, .int .i64 0, .slice A2 0 ca2, .slice O2 0 co2] 26)) a10.heap.size 0 0 A2 0 ca2 O2 0 co2 := BxC.new _ _
      have r1_19 := r1_13.below al16 (.inl (Nat.le_refl _))
      have p1_20 := p1_14.below al16
      have r2_21 := o2.below al16 (.inl (Nat.le_refl _))
      have B_22 := B_15.trans (al16.mono B_15.size)
      clear r1_13 p1_14 o2 B_15
      have hq := p1_20; obtain ⟨k0, k1, k2, k3⟩ := hq
      go_wp2_with fail
      generalize (a10.alloc (.cells #[.int .i64 0, .int .i64 0, .slice A2 0 ca2, .slice O2 0 co2] 26)) = a23 at *
      clear al16
      have q26 := spec_MergeGates_any x y A gs.length ca O os.length co gs os a23 ⟨r1_19.1.reads, r1_19.2.1.reads⟩ e1 e2
      rw [HM.out] at q26
      refine q26.mono ?_
      clear q26
      rintro e a24 hT
      clear k0 k1 k2 k3
      obtain ⟨A3, ca3, O3, co3, rfl, o3, b3⟩ := open_cn hT
      have r1_27 := r1_19.below b3 (.inl (Nat.le_refl _))
      have p1_28 := p1_20.below b3
      have r2_29 := r2_21.below b3 (.inl (Nat.le_refl _))
      have p2_30 := p2_18.below b3
      have B_31 := B_22.trans (b3.mono B_22.size)
      clear r1_19 p1_20 r2_21 p2_18 B_22
      have al32 : Below a24.heap.size a24 (a24.alloc (.cells #[.int .i64 0, .int .i64 0, .slice A3 0 ca3, .slice O3 0 co3] 26)) := (Below.refl _ _).alloc (Nat.le_refl _) _
      have z33 : (a24.alloc (.cells #[.int .i64 0, .int .i64 0, .slice A3 0 ca3, .slice O3 0 co3] 26)).heap.size = a24.heap.size + 1 := by simp
      have p3_34 : BxC (a24.alloc (.cells #[.int .i64 0, .int .i64 0, .slice A3 0 ca3, .slice O3 0 co3] 26)) a24.heap.size 0 0 A3 0 ca3 O3 0 co3 := BxC.new _ _
      have r1_35 := r1_27.below al32 (.inl (Nat.le_refl _))
      have p1_36 := p1_28.below al32
      have r2_37 := r2_29.below al32 (.inl (Nat.le_refl _))
      have p2_38 := p2_30.below al32
      have r3_39 := o3.below al32 (.inl (Nat.le_refl _))
      have B_40 := B_31.trans (al32.mono B_31.size)
      clear r1_27 p1_28 r2_29 p2_30 o3 B_31
      have hq := p1_36; obtain ⟨k0, k1, k2, k3⟩ := hq
      go_wp2_with fail
      generalize (a24.alloc (.cells #[.int .i64 0, .int .i64 0, .slice A3 0 ca3, .slice O3 0 co3] 26)) = a41 at *
      clear al32
      have q44 := DropDead_any x y A gs.length ca O os.length co gs os a41 ⟨r1_35.1.reads, r1_35.2.1.reads⟩ e1 e2
      rw [HD.out] at q44
      refine q44.mono ?_
      clear q44
      rintro e a42 hT
      clear k0 k1 k2 k3
      obtain ⟨A4, ca4, O4, co4, rfl, o4, b4⟩ := open_cn hT
      have r1_45 := r1_35.below b4 (.inl (Nat.le_refl _))
      have p1_46 := p1_36.below b4
      have r2_47 := r2_37.below b4 (.inl (Nat.le_refl _))
      have p2_48 := p2_38.below b4
      have r3_49 := r3_39.below b4 (.inl (Nat.le_refl _))
      have p3_50 := p3_34.below b4
      have B_51 := B_40.trans (b4.mono B_40.size)
      clear r1_35 p1_36 r2_37 p2_38 r3_39 p3_34 B_40
      have al52 : Below a42.heap.size a42 (a42.alloc (.cells #[.int .i64 0, .int .i64 0, .slice A4 0 ca4, .slice O4 0 co4] 26)) := (Below.refl _ _).alloc (Nat.le_refl _) _
      have z53 : (a42.alloc (.cells #[.int .i64 0, .int .i64 0, .slice A4 0 ca4, .slice O4 0 co4] 26)).heap.size = a42.heap.size + 1 := by simp
      have p4_54 : BxC (a42.alloc (.cells #[.int .i64 0, .int .i64 0, .slice A4 0 ca4, .slice O4 0 co4] 26)) a42.heap.size 0 0 A4 0 ca4 O4 0 co4 := BxC.new _ _
      have r1_55 := r1_45.below al52 (.inl (Nat.le_refl _))
      have p1_56 := p1_46.below al52
      have r2_57 := r2_47.below al52 (.inl (Nat.le_refl _))
      have p2_58 := p2_48.below al52
      have r3_59 := r3_49.below al52 (.inl (Nat.le_refl _))
      have p3_60 := p3_50.below al52
      have r4_61 := o4.below al52 (.inl (Nat.le_refl _))
      have B_62 := B_51.trans (al52.mono B_51.size)
      clear r1_45 p1_46 r2_47 p2_48 r3_49 p3_50 o4 B_51
      have hq := p1_56; obtain ⟨k0, k1, k2, k3⟩ := hq
      go_wp2_with fail
      generalize (a42.alloc (.cells #[.int .i64 0, .int .i64 0, .slice A4 0 ca4, .slice O4 0 co4] 26)) = a63 at *
      clear al52
      have q66 := spec_DropDead_any x y A gs.length ca O os.length co gs os a63 ⟨r1_55.1.reads, r1_55.2.1.reads⟩ e1 e2
      rw [HD.out] at q66
      refine q66.mono ?_
      clear q66
      rintro e a64 hT
      clear k0 k1 k2 k3
      obtain ⟨A5, ca5, O5, co5, rfl, o5, b5⟩ := open_cn hT
      have r1_67 := r1_55.below b5 (.inl (Nat.le_refl _))
      have p1_68 := p1_56.below b5
      have r2_69 := r2_57.below b5 (.inl (Nat.le_refl _))
      have p2_70 := p2_58.below b5
      have r3_71 := r3_59.below b5 (.inl (Nat.le_refl _))
      have p3_72 := p3_60.below b5
      have r4_73 := r4_61.below b5 (.inl (Nat.le_refl _))
      have p4_74 := p4_54.below b5
      have B_75 := B_62.trans (b5.mono B_62.size)
      clear r1_55 p1_56 r2_57 p2_58 r3_59 p3_60 r4_61 p4_54 B_62
      have al76 : Below a64.heap.size a64 (a64.alloc (.cells #[.int .i64 0, .int .i64 0, .slice A5 0 ca5, .slice O5 0 co5] 26)) := (Below.refl _ _).alloc (Nat.le_refl _) _
      have z77 : (a64.alloc (.cells #[.int .i64 0, .int .i64 0, .slice A5 0 ca5, .slice O5 0 co5] 26)).heap.size = a64.heap.size + 1 := by simp
      have p5_78 : BxC (a64.alloc (.cells #[.int .i64 0, .int .i64 0, .slice A5 0 ca5, .slice O5 0 co5] 26)) a64.heap.size 0 0 A5 0 ca5 O5 0 co5 := BxC.new _ _
      have r1_79 := r1_67.below al76 (.inl (Nat.le_refl _))
      have p1_80 := p1_68.below al76
      have r2_81 := r2_69.below al76 (.inl (Nat.le_refl _))
      have p2_82 := p2_70.below al76
      have r3_83 := r3_71.below al76 (.inl (Nat.le_refl _))
      have p3_84 := p3_72.below al76
      have r4_85 := r4_73.below al76 (.inl (Nat.le_refl _))
      have p4_86 := p4_74.below al76
      have r5_87 := o5.below al76 (.inl (Nat.le_refl _))
      have B_88 := B_75.trans (al76.mono B_75.size)
      clear r1_67 p1_68 r2_69 p2_70 r3_71 p3_72 r4_73 p4_74 o5 B_75
      have hq := p1_80; obtain ⟨k0, k1, k2, k3⟩ := hq
      go_wp2_with fail
      generalize (a64.alloc (.cells #[.int .i64 0, .int .i64 0, .slice A5 0 ca5, .slice O5 0 co5] 26)) = a89 at *
      clear al76
      have q92 := ConstantWires_any x y A gs.length ca O os.length co gs os a89 ⟨r1_79.1.reads, r1_79.2.1.reads⟩ e1 e2
      rw [HK.out] at q92
      refine q92.mono ?_
      clear q92
      rintro e a90 hT
      clear k0 k1 k2 k3
      obtain ⟨A6, ca6, rfl, o6, b6⟩ := open_on hT
      have r1_93 := r1_79.below b6 (.inl (Nat.le_refl _))
      have p1_94 := p1_80.below b6
      have r2_95 := r2_81.below b6 (.inl (Nat.le_refl _))
      have p2_96 := p2_82.below b6
      have r3_97 := r3_83.below b6 (.inl (Nat.le_refl _))
      have p3_98 := p3_84.below b6
      have r4_99 := r4_85.below b6 (.inl (Nat.le_refl _))
      have p4_100 := p4_86.below b6
      have r5_101 := r5_87.below b6 (.inl (Nat.le_refl _))
      have p5_102 := p5_78.below b6
      have B_103 := B_88.trans (b6.mono B_88.size)
      clear r1_79 p1_80 r2_81 p2_82 r3_83 p3_84 r4_85 p4_86 r5_87 p5_78 B_88
      have hq := p1_94; obtain ⟨k0, k1, k2, k3⟩ := hq
      go_wp2_with fail
      have q106 := spec_ConstantWires_any x y A gs.length ca O os.length co gs os a90 ⟨r1_93.1.reads, r1_93.2.1.reads⟩ e1 e2
      rw [HK.out] at q106
      refine q106.mono ?_
      clear q106
      rintro e a104 hT
      clear k0 k1 k2 k3
      obtain ⟨A7, ca7, rfl, o7, b7⟩ := open_on hT
      have r1_107 := r1_93.below b7 (.inl (Nat.le_refl _))
      have p1_108 := p1_94.below b7
      have r2_109 := r2_95.below b7 (.inl (Nat.le_refl _))
      have p2_110 := p2_96.below b7
      have r3_111 := r3_97.below b7 (.inl (Nat.le_refl _))
      have p3_112 := p3_98.below b7
      have r4_113 := r4_99.below b7 (.inl (Nat.le_refl _))
      have p4_114 := p4_100.below b7
      have r5_115 := r5_101.below b7 (.inl (Nat.le_refl _))
      have p5_116 := p5_102.below b7
      have r6_117 := o6.below b7 (.inl (Nat.le_refl _))
      have B_118 := B_103.trans (b7.mono B_103.size)
      clear r1_93 p1_94 r2_95 p2_96 r3_97 p3_98 r4_99 p4_100 r5_101 p5_102 o6 B_103
      have hq := p1_108; obtain ⟨k0, k1, k2, k3⟩ := hq
      go_wp2_with fail
      have q121 := EqualOuts_any x y A gs.length ca O os.length co gs os a104 ⟨r1_107.1.reads, r1_107.2.1.reads⟩ e1 e2
      rw [HE.out] at q121
      refine q121.mono ?_
      clear q121
      rintro e a119 hT
      clear k0 k1 k2 k3
      obtain ⟨A8, ca8, rfl, o8, b8⟩ := open_on hT
      have r1_122 := r1_107.below b8 (.inl (Nat.le_refl _))
      have p1_123 := p1_108.below b8
      have r2_124 := r2_109.below b8 (.inl (Nat.le_refl _))
      have p2_125 := p2_110.below b8
      have r3_126 := r3_111.below b8 (.inl (Nat.le_refl _))
      have p3_127 := p3_112.below b8
      have r4_128 := r4_113.below b8 (.inl (Nat.le_refl _))
      have p4_129 := p4_114.below b8
      have r5_130 := r5_115.below b8 (.inl (Nat.le_refl _))
      have p5_131 := p5_116.below b8
      have r6_132 := r6_117.below b8 (.inl (Nat.le_refl _))
      have r7_133 := o7.below b8 (.inl (Nat.le_refl _))
      have B_134 := B_118.trans (b8.mono B_118.size)
      clear r1_107 p1_108 r2_109 p2_110 r3_111 p3_112 r4_113 p4_114 r5_115 p5_116 r6_117 o7 B_118
      have hq := p1_123; obtain ⟨k0, k1, k2, k3⟩ := hq
      go_wp2_with fail
      have q137 := spec_EqualOuts_any x y A gs.length ca O os.length co gs os a119 ⟨r1_122.1.reads, r1_122.2.1.reads⟩ e1 e2
      rw [HE.out] at q137
      refine q137.mono ?_
      clear q137
      rintro e a135 hT
      clear k0 k1 k2 k3
      obtain ⟨A9, ca9, rfl, o9, b9⟩ := open_on hT
      have r1_138 := r1_122.below b9 (.inl (Nat.le_refl _))
      have p1_139 := p1_123.below b9
      have r2_140 := r2_124.below b9 (.inl (Nat.le_refl _))
      have p2_141 := p2_125.below b9
      have r3_142 := r3_126.below b9 (.inl (Nat.le_refl _))
      have p3_143 := p3_127.below b9
      have r4_144 := r4_128.below b9 (.inl (Nat.le_refl _))
      have p4_145 := p4_129.below b9
      have r5_146 := r5_130.below b9 (.inl (Nat.le_refl _))
      have p5_147 := p5_131.below b9
      have r6_148 := r6_132.below b9 (.inl (Nat.le_refl _))
      have r7_149 := r7_133.below b9 (.inl (Nat.le_refl _))
      have r8_150 := o8.below b9 (.inl (Nat.le_refl _))
      have B_151 := B_134.trans (b9.mono B_134.size)
      clear r1_122 p1_123 r2_124 p2_125 r3_126 p3_127 r4_128 p4_129 r5_130 p5_131 r6_132 r7_133 o8 B_134
      have hq := p2_141; obtain ⟨k0, k1, k2, k3⟩ := hq
      have hq := p3_143; obtain ⟨m0, m1, m2, m3⟩ := hq
      go_wp2_with fail
      refine (qCircuit_any 0 0 A2 A3 0 ca2 ca3 O2 O3 0 co2 co3 [] [] _ ⟨r2_140.1.reads, r2_140.2.1.reads⟩ ⟨r3_142.1.reads, r3_142.2.1.reads⟩ (by omega) (by omega)).mono ?_
      rintro e a152 ⟨rfl, b153⟩
      clear k0 k1 k2 k3 m0 m1 m2 m3
      have r1_154 := r1_138.below b153 (.inl (Nat.le_refl _))
      have p1_155 := p1_139.below b153
      have r2_156 := r2_140.below b153 (.inl (Nat.le_refl _))
      have p2_157 := p2_141.below b153
      have r3_158 := r3_142.below b153 (.inl (Nat.le_refl _))
      have p3_159 := p3_143.below b153
      have r4_160 := r4_144.below b153 (.inl (Nat.le_refl _))
      have p4_161 := p4_145.below b153
      have r5_162 := r5_146.below b153 (.inl (Nat.le_refl _))
      have p5_163 := p5_147.below b153
      have r6_164 := r6_148.below b153 (.inl (Nat.le_refl _))
      have r7_165 := r7_149.below b153 (.inl (Nat.le_refl _))
      have r8_166 := r8_150.below b153 (.inl (Nat.le_refl _))
      have r9_167 := o9.below b153 (.inl (Nat.le_refl _))
      have B_168 := B_151.trans (b153.mono B_151.size)
      clear r1_138 p1_139 r2_140 p2_141 r3_142 p3_143 r4_144 p4_145 r5_146 p5_147 r6_148 r7_149 r8_150 o9 B_151
      have hq := p4_161; obtain ⟨k0, k1, k2, k3⟩ := hq
      have hq := p5_163; obtain ⟨m0, m1, m2, m3⟩ := hq
      go_wp2_with fail
      refine (qCircuit_any 0 0 A4 A5 0 ca4 ca5 O4 O5 0 co4 co5 [] [] _ ⟨r4_160.1.reads, r4_160.2.1.reads⟩ ⟨r5_162.1.reads, r5_162.2.1.reads⟩ (by omega) (by omega)).mono ?_
      rintro e a169 ⟨rfl, b170⟩
      clear k0 k1 k2 k3 m0 m1 m2 m3
      have r1_171 := r1_154.below b170 (.inl (Nat.le_refl _))
      have p1_172 := p1_155.below b170
      have r2_173 := r2_156.below b170 (.inl (Nat.le_refl _))
      have p2_174 := p2_157.below b170
      have r3_175 := r3_158.below b170 (.inl (Nat.le_refl _))
      have p3_176 := p3_159.below b170
      have r4_177 := r4_160.below b170 (.inl (Nat.le_refl _))
      have p4_178 := p4_161.below b170
      have r5_179 := r5_162.below b170 (.inl (Nat.le_refl _))
      have p5_180 := p5_163.below b170
      have r6_181 := r6_164.below b170 (.inl (Nat.le_refl _))
      have r7_182 := r7_165.below b170 (.inl (Nat.le_refl _))
      have r8_183 := r8_166.below b170 (.inl (Nat.le_refl _))
      have r9_184 := r9_167.below b170 (.inl (Nat.le_refl _))
      have B_185 := B_168.trans (b170.mono B_168.size)
      clear r1_154 p1_155 r2_156 p2_157 r3_158 p3_159 r4_160 p4_161 r5_162 p5_163 r6_164 r7_165 r8_166 r9_167 B_168
      go_wp2_with fail
      refine (qInts_any A6 A7 0 ca6 0 ca7 [] [] _ r6_181.reads r7_182.reads (by omega) (by omega)).mono ?_
      rintro e a186 ⟨rfl, j6, rfl⟩
      rw [sameB_refl2]
      have bj6 : Below a169.heap.size a169 (a169.drewN j6) := below_of_drewN j6
      have r1_188 := r1_171.below bj6 (.inl (Nat.le_refl _))
      have p1_189 := p1_172.below bj6
      have r2_190 := r2_173.below bj6 (.inl (Nat.le_refl _))
      have p2_191 := p2_174.below bj6
      have r3_192 := r3_175.below bj6 (.inl (Nat.le_refl _))
      have p3_193 := p3_176.below bj6
      have r4_194 := r4_177.below bj6 (.inl (Nat.le_refl _))
      have p4_195 := p4_178.below bj6
      have r5_196 := r5_179.below bj6 (.inl (Nat.le_refl _))
      have p5_197 := p5_180.below bj6
      have r6_198 := r6_181.below bj6 (.inl (Nat.le_refl _))
      have r7_199 := r7_182.below bj6 (.inl (Nat.le_refl _))
      have r8_200 := r8_183.below bj6 (.inl (Nat.le_refl _))
      have r9_201 := r9_184.below bj6 (.inl (Nat.le_refl _))
      have B_202 := B_185.trans (bj6.mono B_185.size)
      clear r1_171 p1_172 r2_173 p2_174 r3_175 p3_176 r4_177 p4_178 r5_179 p5_180 r6_181 r7_182 r8_183 r9_184 B_185
      generalize (a169.drewN j6) = a203 at *
      clear bj6
      go_wp2_with fail
      refine (qInts_any A8 A9 0 ca8 0 ca9 [] [] _ r8_200.reads r9_201.reads (by omega) (by omega)).mono ?_
      rintro e a204 ⟨rfl, j8, rfl⟩
      rw [sameB_refl2]
      have bj8 : Below a203.heap.size a203 (a203.drewN j8) := below_of_drewN j8
      have r1_206 := r1_188.below bj8 (.inl (Nat.le_refl _))
      have p1_207 := p1_189.below bj8
      have r2_208 := r2_190.below bj8 (.inl (Nat.le_refl _))
      have p2_209 := p2_191.below bj8
      have r3_210 := r3_192.below bj8 (.inl (Nat.le_refl _))
      have p3_211 := p3_193.below bj8
      have r4_212 := r4_194.below bj8 (.inl (Nat.le_refl _))
      have p4_213 := p4_195.below bj8
      have r5_214 := r5_196.below bj8 (.inl (Nat.le_refl _))
      have p5_215 := p5_197.below bj8
      have r6_216 := r6_198.below bj8 (.inl (Nat.le_refl _))
      have r7_217 := r7_199.below bj8 (.inl (Nat.le_refl _))
      have r8_218 := r8_200.below bj8 (.inl (Nat.le_refl _))
      have r9_219 := r9_201.below bj8 (.inl (Nat.le_refl _))
      have B_220 := B_202.trans (bj8.mono B_202.size)
      clear r1_188 p1_189 r2_190 p2_191 r3_192 p3_193 r4_194 p4_195 r5_196 p5_197 r6_198 r7_199 r8_200 r9_201 B_202
      generalize (a203.drewN j8) = a221 at *
      clear bj8
      go_wp2
      go_ret
      exact ⟨rfl, B_220⟩
  | true =>
      obtain ⟨⟨i2, j2, g2, q2⟩, hM⟩ : ∃ M, mergeF x y gs os = some M := by simp [mergeF, hc]
      obtain ⟨h1, h2, lm, sm⟩ := merge_all hM
      dsimp only at h1 h2 lm sm
      have h1 := h1.symm
      have h2 := h2.symm
      subst h1
      subst h2
      obtain ⟨⟨i4, j4, g4, q4⟩, hD⟩ : ∃ M, dropF x y gs os = some M := by simp [dropF, hc]
      obtain ⟨h1, h2, ld, sd, ud⟩ := drop_all hD
      dsimp only at h1 h2 ld sd ud
      have h1 := h1.symm
      have h2 := h2.symm
      subst h1
      subst h2
      obtain ⟨K, hK⟩ : ∃ K, cstF x y gs os = some K := by simp [cstF, hc]
      obtain ⟨lk, sk⟩ := cst_all hK
      have n2 : q2.length = os.length := sm.no
      have n4 : q4.length = os.length := sd.no
      have HM := Lib.hid hM
      have HD := Lib.hid hD
      have HK := Lib.hid hK
      have HC := Lib.hid hc
      clear hM hD hK hc
      obtain ⟨nk, hnk⟩ : ∃ nk, K.length = nk := ⟨_, rfl⟩
      have Hnk := Lib.hid hnk
      rw [hnk] at lk
      clear hnk
      have Hsk := Lib.hid sk; have Hud := Lib.hid ud; have Hsm := Lib.hid sm; have Hsd := Lib.hid sd
      clear sk ud sm sd
      have hel := eqoF_len x y gs os
      obtain ⟨bx, by_, _, _, _, _⟩ := circB_bd HC.out
      have u2 : g2.length ≤ 310 := by omega
      have u3 : q2.length ≤ 50 := by omega
      have u4 : g4.length ≤ 310 := by omega
      have u5 : q4.length ≤ 50 := by omega
      have u6 : nk ≤ 400 := by omega
      have Hlm := Lib.hid lm; have Hn2 := Lib.hid n2; have Hn4 := Lib.hid n4; have Hlk := Lib.hid lk
      clear lm n2 n4 lk
      have hq := p1_6; obtain ⟨k0, k1, k2, k3⟩ := hq
      go_wp2_with fail
      generalize (a1.alloc (.cells #[.int .i64 x, .int .i64 y, .slice A gs.length ca, .slice O os.length co] 26)) = a9 at *
      clear al4
      have q12 := MergeGates_any x y A gs.length ca O os.length co gs os a9 ⟨r1_7.1.reads, r1_7.2.1.reads⟩ e1 e2
      rw [HM.out] at q12
      refine q12.mono ?_
      clear q12
      rintro e a10 hT
      clear k0 k1 k2 k3
      obtain ⟨A2, ca2, O2, co2, rfl, o2, b2⟩ := open_cs hT
      dsimp only at o2 ⊢
      have r1_13 := r1_7.below b2 (.inl (Nat.le_refl _))
      have p1_14 := p1_6.below b2
      have B_15 := B_8.trans (b2.mono B_8.size)
      clear r1_7 p1_6 B_8
      have al16 : Below a10.heap.size a10 (a10.alloc (.cells #[.int .i64 x, .int .i64 y, .slice A2 g2.length ca2, .slice O2 q2.length co2] 26)) := (Below.refl _ _).alloc (Nat.le_refl _) _
      have z17 : (a10.alloc (.cells #[.int .i64 x, .int .i64 y, .slice A2 g2.length ca2, .slice O2 q2.length co2] 26)).heap.size = a10.heap.size + 1 := by simp
      have p2_18 : BxC (a10.alloc (.cells #[.int .i64 x, .int .i64 y, .slice A2 g2.length ca2, .slice O2 q2.length co2] 26)) a10.heap.size x y A2 g2.length ca2 O2 q2.length co2 := BxC.new _ _
      have r1_19 := r1_13.below al16 (.inl (Nat.le_refl _))
      have p1_20 := p1_14.below al16
      have r2_21 := o2.below al16 (.inl (Nat.le_refl _))
      have B_22 := B_15.trans (al16.mono B_15.size)
      clear r1_13 p1_14 o2 B_15
      have hq := p1_20; obtain ⟨k0, k1, k2, k3⟩ := hq
      go_wp2_with fail
      generalize (a10.alloc (.cells #[.int .i64 x, .int .i64 y, .slice A2 g2.length ca2, .slice O2 q2.length co2] 26)) = a23 at *
      clear al16
      have q26 := spec_MergeGates_any x y A gs.length ca O os.length co gs os a23 ⟨r1_19.1.reads, r1_19.2.1.reads⟩ e1 e2
      rw [HM.out] at q26
      refine q26.mono ?_
      clear q26
      rintro e a24 hT
      clear k0 k1 k2 k3
      obtain ⟨A3, ca3, O3, co3, rfl, o3, b3⟩ := open_cs hT
      dsimp only at o3 ⊢
      have r1_27 := r1_19.below b3 (.inl (Nat.le_refl _))
      have p1_28 := p1_20.below b3
      have r2_29 := r2_21.below b3 (.inl (Nat.le_refl _))
      have p2_30 := p2_18.below b3
      have B_31 := B_22.trans (b3.mono B_22.size)
      clear r1_19 p1_20 r2_21 p2_18 B_22
      have al32 : Below a24.heap.size a24 (a24.alloc (.cells #[.int .i64 x, .int .i64 y, .slice A3 g2.length ca3, .slice O3 q2.length co3] 26)) := (Below.refl _ _).alloc (Nat.le_refl _) _
      have z33 : (a24.alloc (.cells #[.int .i64 x, .int .i64 y, .slice A3 g2.length ca3, .slice O3 q2.length co3] 26)).heap.size = a24.heap.size + 1 := by simp
      have p3_34 : BxC (a24.alloc (.cells #[.int .i64 x, .int .i64 y, .slice A3 g2.length ca3, .slice O3 q2.length co3] 26)) a24.heap.size x y A3 g2.length ca3 O3 q2.length co3 := BxC.new _ _
      have r1_35 := r1_27.below al32 (.inl (Nat.le_refl _))
      have p1_36 := p1_28.below al32
      have r2_37 := r2_29.below al32 (.inl (Nat.le_refl _))
      have p2_38 := p2_30.below al32
      have r3_39 := o3.below al32 (.inl (Nat.le_refl _))
      have B_40 := B_31.trans (al32.mono B_31.size)
      clear r1_27 p1_28 r2_29 p2_30 o3 B_31
      have hq := p1_36; obtain ⟨k0, k1, k2, k3⟩ := hq
      go_wp2_with fail
      generalize (a24.alloc (.cells #[.int .i64 x, .int .i64 y, .slice A3 g2.length ca3, .slice O3 q2.length co3] 26)) = a41 at *
      clear al32
      have q44 := DropDead_any x y A gs.length ca O os.length co gs os a41 ⟨r1_35.1.reads, r1_35.2.1.reads⟩ e1 e2
      rw [HD.out] at q44
      refine q44.mono ?_
      clear q44
      rintro e a42 hT
      clear k0 k1 k2 k3
      obtain ⟨A4, ca4, O4, co4, rfl, o4, b4⟩ := open_cs hT
      dsimp only at o4 ⊢
      have r1_45 := r1_35.below b4 (.inl (Nat.le_refl _))
      have p1_46 := p1_36.below b4
      have r2_47 := r2_37.below b4 (.inl (Nat.le_refl _))
      have p2_48 := p2_38.below b4
      have r3_49 := r3_39.below b4 (.inl (Nat.le_refl _))
      have p3_50 := p3_34.below b4
      have B_51 := B_40.trans (b4.mono B_40.size)
      clear r1_35 p1_36 r2_37 p2_38 r3_39 p3_34 B_40
      have al52 : Below a42.heap.size a42 (a42.alloc (.cells #[.int .i64 x, .int .i64 y, .slice A4 g4.length ca4, .slice O4 q4.length co4] 26)) := (Below.refl _ _).alloc (Nat.le_refl _) _
      have z53 : (a42.alloc (.cells #[.int .i64 x, .int .i64 y, .slice A4 g4.length ca4, .slice O4 q4.length co4] 26)).heap.size = a42.heap.size + 1 := by simp
      have p4_54 : BxC (a42.alloc (.cells #[.int .i64 x, .int .i64 y, .slice A4 g4.length ca4, .slice O4 q4.length co4] 26)) a42.heap.size x y A4 g4.length ca4 O4 q4.length co4 := BxC.new _ _
      have r1_55 := r1_45.below al52 (.inl (Nat.le_refl _))
      have p1_56 := p1_46.below al52
      have r2_57 := r2_47.below al52 (.inl (Nat.le_refl _))
      have p2_58 := p2_48.below al52
      have r3_59 := r3_49.below al52 (.inl (Nat.le_refl _))
      have p3_60 := p3_50.below al52
      have r4_61 := o4.below al52 (.inl (Nat.le_refl _))
      have B_62 := B_51.trans (al52.mono B_51.size)
      clear r1_45 p1_46 r2_47 p2_48 r3_49 p3_50 o4 B_51
      have hq := p1_56; obtain ⟨k0, k1, k2, k3⟩ := hq
      go_wp2_with fail
      generalize (a42.alloc (.cells #[.int .i64 x, .int .i64 y, .slice A4 g4.length ca4, .slice O4 q4.length co4] 26)) = a63 at *
      clear al52
      have q66 := spec_DropDead_any x y A gs.length ca O os.length co gs os a63 ⟨r1_55.1.reads, r1_55.2.1.reads⟩ e1 e2
      rw [HD.out] at q66
      refine q66.mono ?_
      clear q66
      rintro e a64 hT
      clear k0 k1 k2 k3
      obtain ⟨A5, ca5, O5, co5, rfl, o5, b5⟩ := open_cs hT
      dsimp only at o5 ⊢
      have r1_67 := r1_55.below b5 (.inl (Nat.le_refl _))
      have p1_68 := p1_56.below b5
      have r2_69 := r2_57.below b5 (.inl (Nat.le_refl _))
      have p2_70 := p2_58.below b5
      have r3_71 := r3_59.below b5 (.inl (Nat.le_refl _))
      have p3_72 := p3_60.below b5
      have r4_73 := r4_61.below b5 (.inl (Nat.le_refl _))
      have p4_74 := p4_54.below b5
      have B_75 := B_62.trans (b5.mono B_62.size)
      clear r1_55 p1_56 r2_57 p2_58 r3_59 p3_60 r4_61 p4_54 B_62
      have al76 : Below a64.heap.size a64 (a64.alloc (.cells #[.int .i64 x, .int .i64 y, .slice A5 g4.length ca5, .slice O5 q4.length co5] 26)) := (Below.refl _ _).alloc (Nat.le_refl _) _
      have z77 : (a64.alloc (.cells #[.int .i64 x, .int .i64 y, .slice A5 g4.length ca5, .slice O5 q4.length co5] 26)).heap.size = a64.heap.size + 1 := by simp
      have p5_78 : BxC (a64.alloc (.cells #[.int .i64 x, .int .i64 y, .slice A5 g4.length ca5, .slice O5 q4.length co5] 26)) a64.heap.size x y A5 g4.length ca5 O5 q4.length co5 := BxC.new _ _
      have r1_79 := r1_67.below al76 (.inl (Nat.le_refl _))
      have p1_80 := p1_68.below al76
      have r2_81 := r2_69.below al76 (.inl (Nat.le_refl _))
      have p2_82 := p2_70.below al76
      have r3_83 := r3_71.below al76 (.inl (Nat.le_refl _))
      have p3_84 := p3_72.below al76
      have r4_85 := r4_73.below al76 (.inl (Nat.le_refl _))
      have p4_86 := p4_74.below al76
      have r5_87 := o5.below al76 (.inl (Nat.le_refl _))
      have B_88 := B_75.trans (al76.mono B_75.size)
      clear r1_67 p1_68 r2_69 p2_70 r3_71 p3_72 r4_73 p4_74 o5 B_75
      have hq := p1_80; obtain ⟨k0, k1, k2, k3⟩ := hq
      go_wp2_with fail
      generalize (a64.alloc (.cells #[.int .i64 x, .int .i64 y, .slice A5 g4.length ca5, .slice O5 q4.length co5] 26)) = a89 at *
      clear al76
      have q92 := ConstantWires_any x y A gs.length ca O os.length co gs os a89 ⟨r1_79.1.reads, r1_79.2.1.reads⟩ e1 e2
      rw [HK.out] at q92
      refine q92.mono ?_
      clear q92
      rintro e a90 hT
      clear k0 k1 k2 k3
      obtain ⟨A6, ca6, rfl, o6, b6⟩ := open_os hT Hnk.out
      have r1_93 := r1_79.below b6 (.inl (Nat.le_refl _))
      have p1_94 := p1_80.below b6
      have r2_95 := r2_81.below b6 (.inl (Nat.le_refl _))
      have p2_96 := p2_82.below b6
      have r3_97 := r3_83.below b6 (.inl (Nat.le_refl _))
      have p3_98 := p3_84.below b6
      have r4_99 := r4_85.below b6 (.inl (Nat.le_refl _))
      have p4_100 := p4_86.below b6
      have r5_101 := r5_87.below b6 (.inl (Nat.le_refl _))
      have p5_102 := p5_78.below b6
      have B_103 := B_88.trans (b6.mono B_88.size)
      clear r1_79 p1_80 r2_81 p2_82 r3_83 p3_84 r4_85 p4_86 r5_87 p5_78 B_88
      have hq := p1_94; obtain ⟨k0, k1, k2, k3⟩ := hq
      go_wp2_with fail
      have q106 := spec_ConstantWires_any x y A gs.length ca O os.length co gs os a90 ⟨r1_93.1.reads, r1_93.2.1.reads⟩ e1 e2
      rw [HK.out] at q106
      refine q106.mono ?_
      clear q106
      rintro e a104 hT
      clear k0 k1 k2 k3
      obtain ⟨A7, ca7, rfl, o7, b7⟩ := open_os hT Hnk.out
      have r1_107 := r1_93.below b7 (.inl (Nat.le_refl _))
      have p1_108 := p1_94.below b7
      have r2_109 := r2_95.below b7 (.inl (Nat.le_refl _))
      have p2_110 := p2_96.below b7
      have r3_111 := r3_97.below b7 (.inl (Nat.le_refl _))
      have p3_112 := p3_98.below b7
      have r4_113 := r4_99.below b7 (.inl (Nat.le_refl _))
      have p4_114 := p4_100.below b7
      have r5_115 := r5_101.below b7 (.inl (Nat.le_refl _))
      have p5_116 := p5_102.below b7
      have r6_117 := o6.below b7 (.inl (Nat.le_refl _))
      have B_118 := B_103.trans (b7.mono B_103.size)
      clear r1_93 p1_94 r2_95 p2_96 r3_97 p3_98 r4_99 p4_100 r5_101 p5_102 o6 B_103
      have hq := p1_108; obtain ⟨k0, k1, k2, k3⟩ := hq
      go_wp2_with fail
      refine (EqualOuts_any x y A gs.length ca O os.length co gs os a104 ⟨r1_107.1.reads, r1_107.2.1.reads⟩ e1 e2).mono ?_
      rintro e a119 hT
      clear k0 k1 k2 k3
      obtain ⟨A8, ca8, rfl, o8, b8⟩ := hT
      have r1_121 := r1_107.below b8 (.inl (Nat.le_refl _))
      have p1_122 := p1_108.below b8
      have r2_123 := r2_109.below b8 (.inl (Nat.le_refl _))
      have p2_124 := p2_110.below b8
      have r3_125 := r3_111.below b8 (.inl (Nat.le_refl _))
      have p3_126 := p3_112.below b8
      have r4_127 := r4_113.below b8 (.inl (Nat.le_refl _))
      have p4_128 := p4_114.below b8
      have r5_129 := r5_115.below b8 (.inl (Nat.le_refl _))
      have p5_130 := p5_116.below b8
      have r6_131 := r6_117.below b8 (.inl (Nat.le_refl _))
      have r7_132 := o7.below b8 (.inl (Nat.le_refl _))
      have B_133 := B_118.trans (b8.mono B_118.size)
      clear r1_107 p1_108 r2_109 p2_110 r3_111 p3_112 r4_113 p4_114 r5_115 p5_116 r6_117 o7 B_118
      have hq := p1_122; obtain ⟨k0, k1, k2, k3⟩ := hq
      go_wp2_with fail
      refine (spec_EqualOuts_any x y A gs.length ca O os.length co gs os a119 ⟨r1_121.1.reads, r1_121.2.1.reads⟩ e1 e2).mono ?_
      rintro e a134 hT
      clear k0 k1 k2 k3
      obtain ⟨A9, ca9, rfl, o9, b9⟩ := hT
      have r1_136 := r1_121.below b9 (.inl (Nat.le_refl _))
      have p1_137 := p1_122.below b9
      have r2_138 := r2_123.below b9 (.inl (Nat.le_refl _))
      have p2_139 := p2_124.below b9
      have r3_140 := r3_125.below b9 (.inl (Nat.le_refl _))
      have p3_141 := p3_126.below b9
      have r4_142 := r4_127.below b9 (.inl (Nat.le_refl _))
      have p4_143 := p4_128.below b9
      have r5_144 := r5_129.below b9 (.inl (Nat.le_refl _))
      have p5_145 := p5_130.below b9
      have r6_146 := r6_131.below b9 (.inl (Nat.le_refl _))
      have r7_147 := r7_132.below b9 (.inl (Nat.le_refl _))
      have r8_148 := o8.below b9 (.inl (Nat.le_refl _))
      have B_149 := B_133.trans (b9.mono B_133.size)
      clear r1_121 p1_122 r2_123 p2_124 r3_125 p3_126 r4_127 p4_128 r5_129 p5_130 r6_131 r7_132 o8 B_133
      have hq := p2_139; obtain ⟨k0, k1, k2, k3⟩ := hq
      have hq := p3_141; obtain ⟨m0, m1, m2, m3⟩ := hq
      go_wp2_with fail
      refine (qCircuit_any x y A2 A3 g2.length ca2 ca3 O2 O3 q2.length co2 co3 g2 q2 _ ⟨r2_138.1.reads, r2_138.2.1.reads⟩ ⟨r3_140.1.reads, r3_140.2.1.reads⟩ (by omega) (by omega)).mono ?_
      rintro e a150 ⟨rfl, b151⟩
      clear k0 k1 k2 k3 m0 m1 m2 m3
      have r1_152 := r1_136.below b151 (.inl (Nat.le_refl _))
      have p1_153 := p1_137.below b151
      have r2_154 := r2_138.below b151 (.inl (Nat.le_refl _))
      have p2_155 := p2_139.below b151
      have r3_156 := r3_140.below b151 (.inl (Nat.le_refl _))
      have p3_157 := p3_141.below b151
      have r4_158 := r4_142.below b151 (.inl (Nat.le_refl _))
      have p4_159 := p4_143.below b151
      have r5_160 := r5_144.below b151 (.inl (Nat.le_refl _))
      have p5_161 := p5_145.below b151
      have r6_162 := r6_146.below b151 (.inl (Nat.le_refl _))
      have r7_163 := r7_147.below b151 (.inl (Nat.le_refl _))
      have r8_164 := r8_148.below b151 (.inl (Nat.le_refl _))
      have r9_165 := o9.below b151 (.inl (Nat.le_refl _))
      have B_166 := B_149.trans (b151.mono B_149.size)
      clear r1_136 p1_137 r2_138 p2_139 r3_140 p3_141 r4_142 p4_143 r5_144 p5_145 r6_146 r7_147 r8_148 o9 B_149
      have hq := p4_159; obtain ⟨k0, k1, k2, k3⟩ := hq
      have hq := p5_161; obtain ⟨m0, m1, m2, m3⟩ := hq
      go_wp2_with fail
      refine (qCircuit_any x y A4 A5 g4.length ca4 ca5 O4 O5 q4.length co4 co5 g4 q4 _ ⟨r4_158.1.reads, r4_158.2.1.reads⟩ ⟨r5_160.1.reads, r5_160.2.1.reads⟩ (by omega) (by omega)).mono ?_
      rintro e a167 ⟨rfl, b168⟩
      clear k0 k1 k2 k3 m0 m1 m2 m3
      have r1_169 := r1_152.below b168 (.inl (Nat.le_refl _))
      have p1_170 := p1_153.below b168
      have r2_171 := r2_154.below b168 (.inl (Nat.le_refl _))
      have p2_172 := p2_155.below b168
      have r3_173 := r3_156.below b168 (.inl (Nat.le_refl _))
      have p3_174 := p3_157.below b168
      have r4_175 := r4_158.below b168 (.inl (Nat.le_refl _))
      have p4_176 := p4_159.below b168
      have r5_177 := r5_160.below b168 (.inl (Nat.le_refl _))
      have p5_178 := p5_161.below b168
      have r6_179 := r6_162.below b168 (.inl (Nat.le_refl _))
      have r7_180 := r7_163.below b168 (.inl (Nat.le_refl _))
      have r8_181 := r8_164.below b168 (.inl (Nat.le_refl _))
      have r9_182 := r9_165.below b168 (.inl (Nat.le_refl _))
      have B_183 := B_166.trans (b168.mono B_166.size)
      clear r1_152 p1_153 r2_154 p2_155 r3_156 p3_157 r4_158 p4_159 r5_160 p5_161 r6_162 r7_163 r8_164 r9_165 B_166
      go_wp2_with fail
      refine (qInts_any A6 A7 nk ca6 nk ca7 K K _ r6_179.reads r7_180.reads (by omega) (by omega)).mono ?_
      rintro e a184 ⟨rfl, j6, rfl⟩
      rw [sameB_refl2]
      have bj6 : Below a167.heap.size a167 (a167.drewN j6) := below_of_drewN j6
      have r1_186 := r1_169.below bj6 (.inl (Nat.le_refl _))
      have p1_187 := p1_170.below bj6
      have r2_188 := r2_171.below bj6 (.inl (Nat.le_refl _))
      have p2_189 := p2_172.below bj6
      have r3_190 := r3_173.below bj6 (.inl (Nat.le_refl _))
      have p3_191 := p3_174.below bj6
      have r4_192 := r4_175.below bj6 (.inl (Nat.le_refl _))
      have p4_193 := p4_176.below bj6
      have r5_194 := r5_177.below bj6 (.inl (Nat.le_refl _))
      have p5_195 := p5_178.below bj6
      have r6_196 := r6_179.below bj6 (.inl (Nat.le_refl _))
      have r7_197 := r7_180.below bj6 (.inl (Nat.le_refl _))
      have r8_198 := r8_181.below bj6 (.inl (Nat.le_refl _))
      have r9_199 := r9_182.below bj6 (.inl (Nat.le_refl _))
      have B_200 := B_183.trans (bj6.mono B_183.size)
      clear r1_169 p1_170 r2_171 p2_172 r3_173 p3_174 r4_175 p4_176 r5_177 p5_178 r6_179 r7_180 r8_181 r9_182 B_183
      generalize (a167.drewN j6) = a201 at *
      clear bj6
      go_wp2_with fail
      refine (qInts_any A8 A9 ((eqoF x y gs os).getD []).length ca8 ((eqoF x y gs os).getD []).length ca9 ((eqoF x y gs os).getD []) ((eqoF x y gs os).getD []) _ r8_198.reads r9_199.reads (by omega) (by omega)).mono ?_
      rintro e a202 ⟨rfl, j8, rfl⟩
      rw [sameB_refl2]
      have bj8 : Below a201.heap.size a201 (a201.drewN j8) := below_of_drewN j8
      have r1_204 := r1_186.below bj8 (.inl (Nat.le_refl _))
      have p1_205 := p1_187.below bj8
      have r2_206 := r2_188.below bj8 (.inl (Nat.le_refl _))
      have p2_207 := p2_189.below bj8
      have r3_208 := r3_190.below bj8 (.inl (Nat.le_refl _))
      have p3_209 := p3_191.below bj8
      have r4_210 := r4_192.below bj8 (.inl (Nat.le_refl _))
      have p4_211 := p4_193.below bj8
      have r5_212 := r5_194.below bj8 (.inl (Nat.le_refl _))
      have p5_213 := p5_195.below bj8
      have r6_214 := r6_196.below bj8 (.inl (Nat.le_refl _))
      have r7_215 := r7_197.below bj8 (.inl (Nat.le_refl _))
      have r8_216 := r8_198.below bj8 (.inl (Nat.le_refl _))
      have r9_217 := r9_199.below bj8 (.inl (Nat.le_refl _))
      have B_218 := B_200.trans (bj8.mono B_200.size)
      clear r1_186 p1_187 r2_188 p2_189 r3_190 p3_191 r4_192 p4_193 r5_194 p5_195 r6_196 r7_197 r8_198 r9_199 B_200
      generalize (a201.drewN j8) = a219 at *
      clear bj8
      obtain ⟨U, hU⟩ : ∃ U, uwF x y g4 q4 = some U := by simp [uwF, Hsd.out.m]
      have hUu : U = usedL (x + y).toNat g4 q4 := by have h := hU; simp [uwF, Hsd.out.m] at h; exact h.symm
      have hUl := (uw_all hU).1
      have HUd : Hid (∀ i : Nat, i < g4.length → x + y + i ∈ U) := Lib.hid (by rw [hUu]; exact Hud.out)
      have HU := Lib.hid hU
      clear hU hUu
      obtain ⟨nU, hnU⟩ : ∃ nU, U.length = nU := ⟨_, rfl⟩
      rw [hnU] at hUl
      have HnU := Lib.hid hnU
      clear hnU
      have hq := p4_211; obtain ⟨k0, k1, k2, k3⟩ := hq
      go_wp2_with fail
      have q222 := UsedWires_any x y A4 g4.length ca4 O4 q4.length co4 g4 q4 a219 ⟨r4_210.1.reads, r4_210.2.1.reads⟩ (by omega) (by omega)
      rw [HU.out] at q222
      refine q222.mono ?_
      clear q222
      rintro e a220 hT
      clear k0 k1 k2 k3
      obtain ⟨AU, cU, rfl, oU, bU⟩ := open_os hT HnU.out
      have r1_223 := r1_204.below bU (.inl (Nat.le_refl _))
      have p1_224 := p1_205.below bU
      have r2_225 := r2_206.below bU (.inl (Nat.le_refl _))
      have p2_226 := p2_207.below bU
      have r3_227 := r3_208.below bU (.inl (Nat.le_refl _))
      have p3_228 := p3_209.below bU
      have r4_229 := r4_210.below bU (.inl (Nat.le_refl _))
      have p4_230 := p4_211.below bU
      have r5_231 := r5_212.below bU (.inl (Nat.le_refl _))
      have p5_232 := p5_213.below bU
      have r6_233 := r6_214.below bU (.inl (Nat.le_refl _))
      have r7_234 := r7_215.below bU (.inl (Nat.le_refl _))
      have r8_235 := r8_216.below bU (.inl (Nat.le_refl _))
      have r9_236 := r9_217.below bU (.inl (Nat.le_refl _))
      have B_237 := B_218.trans (bU.mono B_218.size)
      clear r1_204 p1_205 r2_206 p2_207 r3_208 p3_209 r4_210 p4_211 r5_212 p5_213 r6_214 r7_215 r8_216 r9_217 B_218
      have hq := p1_224; obtain ⟨k0, k1, k2, k3⟩ := hq
      have hq := p2_226; obtain ⟨m0, m1, m2, m3⟩ := hq
      have hq := p5_232; obtain ⟨z0, z1, z2, z3⟩ := hq
      have d1 : ((g2.length : Int) != gs.length) = false := by rw [Hlm.out]; simp
      have d2 : ¬ (gs.length : Int) < g4.length := by omega
      have d3 : ¬ gs.length < g4.length := by omega
      go_wp2
      clear k0 k1 k2 k3 m0 m1 m2 m3 z0 z1 z2 z3 d1 d2 d3 hT
      go_loopw [164] (fun i wr => ∃ k : Nat, k ≤ g4.length ∧ i = .int .i64 k ∧ wr = a220) (fun i _ => g4.length - (intOf i).toNat)
      case atStart => exact ⟨0, Nat.zero_le _, rfl, rfl⟩
      case round =>
        obtain ⟨k, hk, rfl, rfl⟩ := hrel
        by_cases hlt : k < g4.length
        · have hq := p5_232; obtain ⟨z0, z1, z2, z3⟩ := hq
          have hmem := HUd.out k hlt
          have hw1 : IntKind.i64.wrap (x + y) = x + y := by rw [IntKind.wrap_i64] <;> omega
          have hw2 : IntKind.i64.wrap (x + y + (k : Int)) = x + y + k := by rw [IntKind.wrap_i64] <;> omega
          go_wp2_with fail
          refine (qHas_any AU nU cU U (x + y + k) _ oU.reads (by omega) hmem).mono ?_
          rintro e w6 ⟨rfl, rfl⟩
          go_wp2
          go_roundw
          case rel => exact ⟨k + 1, by omega, by go_num, trivial⟩
          case measure => simp [intOf]; omega
        · clear r3_227
          clear p3_228
          clear r5_231
          clear p5_232
          clear r6_233
          clear r8_235
          clear oU
          have hlt2 : ¬ (k : Int) < g4.length := by omega
          generalize hwz : wr = z at *
          clear hwz
          have HKV := Hsk; have HE2 := Lib.hid (fun E h => @eqo_all x y gs os E h)
          clear bU HUd HU HnU hUl
          go_wp2
          go_loopw [25] (fun i wr => ∃ n : Nat, n ≤ 4 ∧ i = .int .i64 n ∧ Below z.heap.size z wr) (fun i _ => 4 - (intOf i).toNat)
          case atStart => exact ⟨0, by omega, rfl, Below.refl _ _⟩
          case round =>
            obtain ⟨n9, hn9, rfl, hb⟩ := hrel
            by_cases hl9 : n9 < 4
            · have r1_238 := r1_223.below hb (.inl (Nat.le_refl _))
              have p1_239 := p1_224.below hb
              have r2_240 := r2_225.below hb (.inl (Nat.le_refl _))
              have p2_241 := p2_226.below hb
              have r4_242 := r4_229.below hb (.inl (Nat.le_refl _))
              have p4_243 := p4_230.below hb
              have r7_244 := r7_234.below hb (.inl (Nat.le_refl _))
              have r9_245 := r9_236.below hb (.inl (Nat.le_refl _))
              have B_246 := B_237.trans (hb.mono B_237.size)
              clear r1_223 p1_224 r2_225 p2_226 r4_229 p4_230 r7_234 r9_236 B_237
              generalize wr = zz at *
              have hl9i : (n9 : Int) < 4 := by omega
              clear hk hlt hlt2
              have hq := p1_239; obtain ⟨k0, k1, k2, k3⟩ := hq
              go_wp2
              obtain ⟨hx0, hy0, _, _, _, _⟩ := circB_bd HC.out
              clear k0 k1 k2 k3
              go_loopw [26, 28] (fun A i wr => ∃ (j : Nat) (R : Option Addr) (rc : Nat) (us : List Int), (j : Int) ≤ x ∧ i = .int .i64 j ∧ A = .slice R j rc ∧ Own wr zz.heap.size wr.heap.size (.slice R j rc) j us ∧ allB 0 1 us = true ∧ Below zz.heap.size zz wr) (fun _ i _ => (x).toNat - (intOf i).toNat)
              case atStart => exact ⟨0, none, 0, [], by omega, rfl, rfl, Own.none_ _ _ _, rfl, Below.refl _ _⟩
              case round =>
                obtain ⟨ja, Ra, ka, ua, hj, rfl, rfl, oa, ha, ba⟩ := hrel
                by_cases hjl : (ja : Int) < x
                · have hq := p1_239.below ba; obtain ⟨k0, k1, k2, k3⟩ := hq
                  have hA := oa.alloc (.cells #[.int .i64 ((wrap64 ((n9 : Int) + wrap64 ((ja : Int) * n9))).tmod 2)] 3)
                  have hz := ba.size
                  have hex := bitA n9 ja (by omega) (by omega)
                  go_wp2_with (at_builtin; refine wpList_appI _ rfl _ _ rfl rfl hA rfl (RI_one _ _ _ _ (by simp)) (by omega) (by first | omega | (simp; done) | (simp; omega)) ?_; intro A7 c7 w7 hown7 hg7 hat7 hk7)
                  have hb7 := below_app (ba.alloc hz (.cells #[.int .i64 ((wrap64 ((n9 : Int) + wrap64 ((ja : Int) * n9))).tmod 2)] 3)) hA hg7 (by simp; omega) (Nat.le_refl _)
                  go_wp2
                  go_roundw
                  case rel => exact ⟨ja + 1, A7, c7, _, by omega, by go_num, rfl, hown7, allB_snoc ha hex, hb7⟩
                  case measure => simp [intOf]; omega
                · have HJa : Hid ((ja : Int) = x) := Lib.hid (by omega)
                  clear hj
                  have r1_247 := r1_238.below ba (.inl (Nat.le_refl _))
                  have p1_248 := p1_239.below ba
                  have r2_249 := r2_240.below ba (.inl (Nat.le_refl _))
                  have p2_250 := p2_241.below ba
                  have r4_251 := r4_242.below ba (.inl (Nat.le_refl _))
                  have p4_252 := p4_243.below ba
                  have r7_253 := r7_244.below ba (.inl (Nat.le_refl _))
                  have r9_254 := r9_245.below ba (.inl (Nat.le_refl _))
                  have bz_255 := hb.trans (ba.mono hb.size)
                  have B_256 := B_246.trans (ba.mono B_246.size)
                  clear r1_238 p1_239 r2_240 p2_241 r4_242 p4_243 r7_244 r9_245 hb B_246
                  generalize wr = za at *
                  clear ba
                  have hq := p1_248; obtain ⟨k0, k1, k2, k3⟩ := hq
                  go_wp2
                  clear k0 k1 k2 k3
                  go_loopw [27, 29] (fun A i wr => ∃ (j : Nat) (R : Option Addr) (rc : Nat) (us : List Int), (j : Int) ≤ y ∧ i = .int .i64 j ∧ A = .slice R j rc ∧ Own wr za.heap.size wr.heap.size (.slice R j rc) j us ∧ allB 0 1 us = true ∧ Below za.heap.size za wr) (fun _ i _ => (y).toNat - (intOf i).toNat)
                  case atStart => exact ⟨0, none, 0, [], by omega, rfl, rfl, Own.none_ _ _ _, rfl, Below.refl _ _⟩
                  case round =>
                    obtain ⟨jb, Rb, kb, ub, hj, rfl, rfl, ob, hb, bb⟩ := hrel
                    by_cases hjl : (jb : Int) < y
                    · have hq := p1_248.below bb; obtain ⟨k0, k1, k2, k3⟩ := hq
                      have hA := ob.alloc (.cells #[.int .i64 (((n9 : Int) / 2 + (jb : Int)) % 2)] 3)
                      have hz := bb.size
                      have hex := bitB n9 jb
                      go_wp2_with (at_builtin; refine wpList_appI _ rfl _ _ rfl rfl hA rfl (RI_one _ _ _ _ (by simp)) (by omega) (by first | omega | (simp; done) | (simp; omega)) ?_; intro A7 c7 w7 hown7 hg7 hat7 hk7)
                      have hb7 := below_app (bb.alloc hz (.cells #[.int .i64 (((n9 : Int) / 2 + (jb : Int)) % 2)] 3)) hA hg7 (by simp; omega) (Nat.le_refl _)
                      go_wp2
                      go_roundw
                      case rel => exact ⟨jb + 1, A7, c7, _, by omega, by go_num, rfl, hown7, allB_snoc hb hex, hb7⟩
                      case measure => simp [intOf]; omega
                    · have HJb : Hid ((jb : Int) = y) := Lib.hid (by omega)
                      clear hj
                      have r1_257 := r1_247.below bb (.inl (Nat.le_refl _))
                      have p1_258 := p1_248.below bb
                      have r2_259 := r2_249.below bb (.inl (Nat.le_refl _))
                      have p2_260 := p2_250.below bb
                      have r4_261 := r4_251.below bb (.inl (Nat.le_refl _))
                      have p4_262 := p4_252.below bb
                      have r7_263 := r7_253.below bb (.inl (Nat.le_refl _))
                      have r9_264 := r9_254.below bb (.inl (Nat.le_refl _))
                      have bz_265 := bz_255.trans (bb.mono bz_255.size)
                      have a_266 := oa.below bb (.inl (Nat.le_refl _))
                      have B_267 := B_256.trans (bb.mono B_256.size)
                      clear r1_247 p1_248 r2_249 p2_250 r4_251 p4_252 r7_253 r9_254 bz_255 oa B_256
                      generalize wr = zb at *
                      clear bb
                      have hInp : Inp (x + y).toNat (ua ++ ub) := ⟨by have h1 := a_266.len; have h2 := ob.len; have h3 := HJa.out; have h4 := HJb.out; rw [List.length_append]; omega, allB_iff.2 fun z9 hz9 => (List.mem_append.1 hz9).elim (allB_iff.1 ha z9) (allB_iff.1 hb z9)⟩
                      obtain ⟨V, hV⟩ : ∃ V, vals gs (ua ++ ub) gs.length = V := ⟨_, rfl⟩
                      obtain ⟨P, hP⟩ : ∃ P, pick V os = P := ⟨_, rfl⟩
                      have HV := Lib.hid hV
                      have HP1 : Hid (pick (vals gs (ua ++ ub) gs.length) os = P) := Lib.hid (by rw [hV, hP])
                      have HP2 : Hid (pick (vals g2 (ua ++ ub) g2.length) q2 = P) := Lib.hid (by rw [Hsm.out.vals _ hInp, hV, hP])
                      have HP4 : Hid (pick (vals g4 (ua ++ ub) g4.length) q4 = P) := Lib.hid (by rw [Hsd.out.vals _ hInp, hV, hP])
                      have HVl : Hid (V.length = nk) := Lib.hid (by rw [← hV, vals_len, hInp.1, Hlk.out])
                      have HPl : Hid (P.length = os.length) := Lib.hid (by rw [← hP, pick_len])
                      have HVK : Hid (∀ i : Nat, i < nk → 0 ≤ gi K i → gi V i = gi K i) := Lib.hid (by have h := Hsk.out _ hInp; rw [hV, Hnk.out] at h; exact h)
                      have HVE : Hid (∀ i : Nat, i < ((eqoF x y gs os).getD []).length → i < os.length ∧ 0 ≤ gi ((eqoF x y gs os).getD []) i ∧ gi ((eqoF x y gs os).getD []) i ≤ i ∧ gi V (gi os i).toNat = gi V (gi os (gi ((eqoF x y gs os).getD []) i).toNat).toNat) := Lib.hid (by rw [← hV]; exact eqo_all2 hInp)
                      have HOb : Hid (∀ i : Nat, i < os.length → 0 ≤ gi os i ∧ gi os i < nk) := Lib.hid (fun i hi => by have h := (circB_X HC.out).2.2 _ (gi_mem hi); have h2 := Hlk.out; omega)
                      have hc1 := HC.out; have hm1 := Hsm.out.m; have hd1 := Hsd.out.m
                      have HC2 := Lib.hid hm1; have HC4 := Lib.hid hd1
                      clear hc1 hm1 hd1 hV hP hInp
                      have hq := p1_258; obtain ⟨k0, k1, k2, k3⟩ := hq
                      go_wp2_with fail
                      have q270 := WireValues_ok x y A gs.length ca O os.length co Ra Rb ja ka jb kb gs os ua ub zb ⟨r1_257.1.reads, r1_257.2.1.reads⟩ e1 e2 HC.out a_266.reads ob.reads HJa.out HJb.out ha hb
                      rw [HV.out] at q270
                      refine q270.mono ?_
                      clear q270
                      rintro e a268 hT
                      clear k0 k1 k2 k3
                      obtain ⟨Bv1, dv1, rfl, tv1, bbv1⟩ := open_os hT HVl.out
                      clear hT
                      have r1_271 := r1_257.below bbv1 (.inl (Nat.le_refl _))
                      have p1_272 := p1_258.below bbv1
                      have r2_273 := r2_259.below bbv1 (.inl (Nat.le_refl _))
                      have p2_274 := p2_260.below bbv1
                      have r4_275 := r4_261.below bbv1 (.inl (Nat.le_refl _))
                      have p4_276 := p4_262.below bbv1
                      have r7_277 := r7_263.below bbv1 (.inl (Nat.le_refl _))
                      have r9_278 := r9_264.below bbv1 (.inl (Nat.le_refl _))
                      have bz_279 := bz_265.trans (bbv1.mono bz_265.size)
                      have a_280 := a_266.below bbv1 (.inl (Nat.le_refl _))
                      have b_281 := ob.below bbv1 (.inl (Nat.le_refl _))
                      have B_282 := B_267.trans (bbv1.mono B_267.size)
                      clear r1_257 p1_258 r2_259 p2_260 r4_261 p4_262 r7_263 r9_264 bz_265 a_266 ob B_267
                      clear bbv1
                      have hq := p1_272; obtain ⟨k0, k1, k2, k3⟩ := hq
                      go_wp2_with fail
                      have q285 := spec_WireValues_ok x y A gs.length ca O os.length co Ra Rb ja ka jb kb gs os ua ub a268 ⟨r1_271.1.reads, r1_271.2.1.reads⟩ e1 e2 HC.out a_280.reads b_281.reads HJa.out HJb.out ha hb
                      rw [HV.out] at q285
                      refine q285.mono ?_
                      clear q285
                      rintro e a283 hT
                      clear k0 k1 k2 k3
                      obtain ⟨Bv2, dv2, rfl, tv2, bbv2⟩ := open_os hT HVl.out
                      clear hT
                      have r1_286 := r1_271.below bbv2 (.inl (Nat.le_refl _))
                      have p1_287 := p1_272.below bbv2
                      have r2_288 := r2_273.below bbv2 (.inl (Nat.le_refl _))
                      have p2_289 := p2_274.below bbv2
                      have r4_290 := r4_275.below bbv2 (.inl (Nat.le_refl _))
                      have p4_291 := p4_276.below bbv2
                      have r7_292 := r7_277.below bbv2 (.inl (Nat.le_refl _))
                      have r9_293 := r9_278.below bbv2 (.inl (Nat.le_refl _))
                      have bz_294 := bz_279.trans (bbv2.mono bz_279.size)
                      have a_295 := a_280.below bbv2 (.inl (Nat.le_refl _))
                      have b_296 := b_281.below bbv2 (.inl (Nat.le_refl _))
                      have tv1_297 := tv1.below bbv2 (.inl (Nat.le_refl _))
                      have B_298 := B_282.trans (bbv2.mono B_282.size)
                      clear r1_271 p1_272 r2_273 p2_274 r4_275 p4_276 r7_277 r9_278 bz_279 a_280 b_281 tv1 B_282
                      clear bbv2
                      have hq := p1_287; obtain ⟨k0, k1, k2, k3⟩ := hq
                      go_wp2_with fail
                      have q301 := EvalCircuit_ok x y A gs.length ca O os.length co Ra Rb ja ka jb kb gs os ua ub a283 ⟨r1_286.1.reads, r1_286.2.1.reads⟩ e1 e2 HC.out a_295.reads b_296.reads HJa.out HJb.out ha hb
                      rw [HP1.out] at q301
                      refine q301.mono ?_
                      clear q301
                      rintro e a299 hT
                      clear k0 k1 k2 k3
                      obtain ⟨Bx1, dx1, rfl, tx1, bbx1⟩ := open_os hT HPl.out
                      clear hT
                      have r1_302 := r1_286.below bbx1 (.inl (Nat.le_refl _))
                      have p1_303 := p1_287.below bbx1
                      have r2_304 := r2_288.below bbx1 (.inl (Nat.le_refl _))
                      have p2_305 := p2_289.below bbx1
                      have r4_306 := r4_290.below bbx1 (.inl (Nat.le_refl _))
                      have p4_307 := p4_291.below bbx1
                      have r7_308 := r7_292.below bbx1 (.inl (Nat.le_refl _))
                      have r9_309 := r9_293.below bbx1 (.inl (Nat.le_refl _))
                      have bz_310 := bz_294.trans (bbx1.mono bz_294.size)
                      have a_311 := a_295.below bbx1 (.inl (Nat.le_refl _))
                      have b_312 := b_296.below bbx1 (.inl (Nat.le_refl _))
                      have tv1_313 := tv1_297.below bbx1 (.inl (Nat.le_refl _))
                      have tv2_314 := tv2.below bbx1 (.inl (Nat.le_refl _))
                      have B_315 := B_298.trans (bbx1.mono B_298.size)
                      clear r1_286 p1_287 r2_288 p2_289 r4_290 p4_291 r7_292 r9_293 bz_294 a_295 b_296 tv1_297 tv2 B_298
                      clear bbx1
                      have hq := p2_305; obtain ⟨k0, k1, k2, k3⟩ := hq
                      go_wp2_with fail
                      have q318 := EvalCircuit_ok x y A2 g2.length ca2 O2 q2.length co2 Ra Rb ja ka jb kb g2 q2 ua ub a299 ⟨r2_304.1.reads, r2_304.2.1.reads⟩ (by omega) (by omega) HC2.out a_311.reads b_312.reads HJa.out HJb.out ha hb
                      rw [HP2.out] at q318
                      refine q318.mono ?_
                      clear q318
                      rintro e a316 hT
                      clear k0 k1 k2 k3
                      obtain ⟨Bx2, dx2, rfl, tx2, bbx2⟩ := open_os hT HPl.out
                      clear hT
                      have r1_319 := r1_302.below bbx2 (.inl (Nat.le_refl _))
                      have p1_320 := p1_303.below bbx2
                      have r2_321 := r2_304.below bbx2 (.inl (Nat.le_refl _))
                      have p2_322 := p2_305.below bbx2
                      have r4_323 := r4_306.below bbx2 (.inl (Nat.le_refl _))
                      have p4_324 := p4_307.below bbx2
                      have r7_325 := r7_308.below bbx2 (.inl (Nat.le_refl _))
                      have r9_326 := r9_309.below bbx2 (.inl (Nat.le_refl _))
                      have bz_327 := bz_310.trans (bbx2.mono bz_310.size)
                      have a_328 := a_311.below bbx2 (.inl (Nat.le_refl _))
                      have b_329 := b_312.below bbx2 (.inl (Nat.le_refl _))
                      have tv1_330 := tv1_313.below bbx2 (.inl (Nat.le_refl _))
                      have tv2_331 := tv2_314.below bbx2 (.inl (Nat.le_refl _))
                      have tx1_332 := tx1.below bbx2 (.inl (Nat.le_refl _))
                      have B_333 := B_315.trans (bbx2.mono B_315.size)
                      clear r1_302 p1_303 r2_304 p2_305 r4_306 p4_307 r7_308 r9_309 bz_310 a_311 b_312 tv1_313 tv2_314 tx1 B_315
                      clear bbx2
                      have hq := p4_324; obtain ⟨k0, k1, k2, k3⟩ := hq
                      go_wp2_with fail
                      have q336 := EvalCircuit_ok x y A4 g4.length ca4 O4 q4.length co4 Ra Rb ja ka jb kb g4 q4 ua ub a316 ⟨r4_323.1.reads, r4_323.2.1.reads⟩ (by omega) (by omega) HC4.out a_328.reads b_329.reads HJa.out HJb.out ha hb
                      rw [HP4.out] at q336
                      refine q336.mono ?_
                      clear q336
                      rintro e a334 hT
                      clear k0 k1 k2 k3
                      obtain ⟨Bx4, dx4, rfl, tx4, bbx4⟩ := open_os hT HPl.out
                      clear hT
                      have r1_337 := r1_319.below bbx4 (.inl (Nat.le_refl _))
                      have p1_338 := p1_320.below bbx4
                      have r2_339 := r2_321.below bbx4 (.inl (Nat.le_refl _))
                      have p2_340 := p2_322.below bbx4
                      have r4_341 := r4_323.below bbx4 (.inl (Nat.le_refl _))
                      have p4_342 := p4_324.below bbx4
                      have r7_343 := r7_325.below bbx4 (.inl (Nat.le_refl _))
                      have r9_344 := r9_326.below bbx4 (.inl (Nat.le_refl _))
                      have bz_345 := bz_327.trans (bbx4.mono bz_327.size)
                      have a_346 := a_328.below bbx4 (.inl (Nat.le_refl _))
                      have b_347 := b_329.below bbx4 (.inl (Nat.le_refl _))
                      have tv1_348 := tv1_330.below bbx4 (.inl (Nat.le_refl _))
                      have tv2_349 := tv2_331.below bbx4 (.inl (Nat.le_refl _))
                      have tx1_350 := tx1_332.below bbx4 (.inl (Nat.le_refl _))
                      have tx2_351 := tx2.below bbx4 (.inl (Nat.le_refl _))
                      have B_352 := B_333.trans (bbx4.mono B_333.size)
                      clear r1_319 p1_320 r2_321 p2_322 r4_323 p4_324 r7_325 r9_326 bz_327 a_328 b_329 tv1_330 tv2_331 tx1_332 tx2 B_333
                      clear bbx4
                      go_wp2_with fail
                      refine (qInts_any Bv1 Bv2 nk dv1 nk dv2 V V _ tv1_348.reads tv2_349.reads (by omega) (by omega)).mono ?_
                      rintro e a353 ⟨rfl, jj, rfl⟩
                      rw [sameB_refl2]
                      have bj : Below a334.heap.size a334 (a334.drewN jj) := below_of_drewN jj
                      have r1_355 := r1_337.below bj (.inl (Nat.le_refl _))
                      have p1_356 := p1_338.below bj
                      have r2_357 := r2_339.below bj (.inl (Nat.le_refl _))
                      have p2_358 := p2_340.below bj
                      have r4_359 := r4_341.below bj (.inl (Nat.le_refl _))
                      have p4_360 := p4_342.below bj
                      have r7_361 := r7_343.below bj (.inl (Nat.le_refl _))
                      have r9_362 := r9_344.below bj (.inl (Nat.le_refl _))
                      have bz_363 := bz_345.trans (bj.mono bz_345.size)
                      have a_364 := a_346.below bj (.inl (Nat.le_refl _))
                      have b_365 := b_347.below bj (.inl (Nat.le_refl _))
                      have tv1_366 := tv1_348.below bj (.inl (Nat.le_refl _))
                      have tv2_367 := tv2_349.below bj (.inl (Nat.le_refl _))
                      have tx1_368 := tx1_350.below bj (.inl (Nat.le_refl _))
                      have tx2_369 := tx2_351.below bj (.inl (Nat.le_refl _))
                      have tx4_370 := tx4.below bj (.inl (Nat.le_refl _))
                      have B_371 := B_352.trans (bj.mono B_352.size)
                      clear r1_337 p1_338 r2_339 p2_340 r4_341 p4_342 r7_343 r9_344 bz_345 a_346 b_347 tv1_348 tv2_349 tx1_350 tx2_351 tx4 B_352
                      generalize (a334.drewN jj) = a372 at *
                      clear bj
                      go_wp2_with fail
                      refine (qInts_any Bx1 Bx2 os.length dx1 os.length dx2 P P _ tx1_368.reads tx2_369.reads (by omega) (by omega)).mono ?_
                      rintro e a373 ⟨rfl, jj, rfl⟩
                      rw [sameB_refl2]
                      have bj : Below a372.heap.size a372 (a372.drewN jj) := below_of_drewN jj
                      have r1_375 := r1_355.below bj (.inl (Nat.le_refl _))
                      have p1_376 := p1_356.below bj
                      have r2_377 := r2_357.below bj (.inl (Nat.le_refl _))
                      have p2_378 := p2_358.below bj
                      have r4_379 := r4_359.below bj (.inl (Nat.le_refl _))
                      have p4_380 := p4_360.below bj
                      have r7_381 := r7_361.below bj (.inl (Nat.le_refl _))
                      have r9_382 := r9_362.below bj (.inl (Nat.le_refl _))
                      have bz_383 := bz_363.trans (bj.mono bz_363.size)
                      have a_384 := a_364.below bj (.inl (Nat.le_refl _))
                      have b_385 := b_365.below bj (.inl (Nat.le_refl _))
                      have tv1_386 := tv1_366.below bj (.inl (Nat.le_refl _))
                      have tv2_387 := tv2_367.below bj (.inl (Nat.le_refl _))
                      have tx1_388 := tx1_368.below bj (.inl (Nat.le_refl _))
                      have tx2_389 := tx2_369.below bj (.inl (Nat.le_refl _))
                      have tx4_390 := tx4_370.below bj (.inl (Nat.le_refl _))
                      have B_391 := B_371.trans (bj.mono B_371.size)
                      clear r1_355 p1_356 r2_357 p2_358 r4_359 p4_360 r7_361 r9_362 bz_363 a_364 b_365 tv1_366 tv2_367 tx1_368 tx2_369 tx4_370 B_371
                      generalize (a372.drewN jj) = a392 at *
                      clear bj
                      go_wp2_with fail
                      refine (qInts_any Bx1 Bx4 os.length dx1 os.length dx4 P P _ tx1_388.reads tx4_390.reads (by omega) (by omega)).mono ?_
                      rintro e a393 ⟨rfl, jj, rfl⟩
                      rw [sameB_refl2]
                      have bj : Below a392.heap.size a392 (a392.drewN jj) := below_of_drewN jj
                      have r1_395 := r1_375.below bj (.inl (Nat.le_refl _))
                      have p1_396 := p1_376.below bj
                      have r2_397 := r2_377.below bj (.inl (Nat.le_refl _))
                      have p2_398 := p2_378.below bj
                      have r4_399 := r4_379.below bj (.inl (Nat.le_refl _))
                      have p4_400 := p4_380.below bj
                      have r7_401 := r7_381.below bj (.inl (Nat.le_refl _))
                      have r9_402 := r9_382.below bj (.inl (Nat.le_refl _))
                      have bz_403 := bz_383.trans (bj.mono bz_383.size)
                      have a_404 := a_384.below bj (.inl (Nat.le_refl _))
                      have b_405 := b_385.below bj (.inl (Nat.le_refl _))
                      have tv1_406 := tv1_386.below bj (.inl (Nat.le_refl _))
                      have tv2_407 := tv2_387.below bj (.inl (Nat.le_refl _))
                      have tx1_408 := tx1_388.below bj (.inl (Nat.le_refl _))
                      have tx2_409 := tx2_389.below bj (.inl (Nat.le_refl _))
                      have tx4_410 := tx4_390.below bj (.inl (Nat.le_refl _))
                      have B_411 := B_391.trans (bj.mono B_391.size)
                      clear r1_375 p1_376 r2_377 p2_378 r4_379 p4_380 r7_381 r9_382 bz_383 a_384 b_385 tv1_386 tv2_387 tx1_388 tx2_389 tx4_390 B_391
                      generalize (a392.drewN jj) = a412 at *
                      clear bj
                      clear tv1_406
                      clear tx1_408
                      clear tx2_409
                      clear tx4_410
                      clear p2_398
                      clear r2_397
                      clear p4_400
                      clear r4_399
                      clear a_404
                      clear b_405
                      go_wp2
                      go_loopw [284] (fun i wr => ∃ q : Nat, q ≤ nk ∧ i = .int .i64 q ∧ wr = a412) (fun i _ => nk - (intOf i).toNat)
                      case atStart => exact ⟨0, Nat.zero_le _, rfl, rfl⟩
                      case round =>
                        obtain ⟨q, hq, rfl, rfl⟩ := hrel
                        by_cases hlq : q < nk
                        · obtain ⟨kb, ob9, rfl, hkb, f1⟩ := r7_401.reads.at_ hlq
                          obtain ⟨kc, oc9, rfl, hkc, f2⟩ := tv2_407.reads.at_ hlq
                          have hvk := HVK.out q hlq
                          clear r7_401 tv2_407
                          by_cases h0 : 0 ≤ gi K q
                          · rw [hvk h0] at f2
                            clear hvk
                            generalize gi K q = KV at *
                            have hne : (KV != KV) = false := by simp
                            go_wp2
                            go_roundw
                            case rel => exact ⟨q + 1, by omega, by go_num, by first | rfl | trivial⟩
                            case measure => simp [intOf]; omega
                          · clear hvk
                            generalize gi K q = KV at *
                            go_wp2
                            go_roundw
                            case rel => exact ⟨q + 1, by omega, by go_num, by first | rfl | trivial⟩
                            case measure => simp [intOf]; omega
                        · have hge : ¬ (q : Int) < nk := by omega
                          generalize wr = zq at *
                          clear r7_401
                          go_wp2
                          clear hge hq hlq
                          go_loopw [302] (fun i wr => ∃ q j : Nat, q ≤ ((eqoF x y gs os).getD []).length ∧ i = .int .i64 q ∧ wr = zq.drewN j) (fun i _ => ((eqoF x y gs os).getD []).length - (intOf i).toNat)
                          case atStart => exact ⟨0, 0, Nat.zero_le _, rfl, rfl⟩
                          case round =>
                            obtain ⟨q, j, hq, rfl, rfl⟩ := hrel
                            by_cases hlq : q < ((eqoF x y gs os).getD []).length
                            · obtain ⟨h1, h2, h3, h4⟩ := HVE.out q hlq
                              obtain ⟨F, hF⟩ : ∃ F : Nat, gi ((eqoF x y gs os).getD []) q = F := ⟨_, (Int.toNat_of_nonneg h2).symm⟩
                              have h5 := HOb.out q h1
                              obtain ⟨S, hS⟩ : ∃ S : Nat, gi os q = S := ⟨_, (Int.toNat_of_nonneg h5.1).symm⟩
                              rw [hF] at h3 h4
                              have hFl : F < os.length := by omega
                              have h6 := HOb.out F hFl
                              obtain ⟨T, hT⟩ : ∃ T : Nat, gi os F = T := ⟨_, (Int.toNat_of_nonneg h6.1).symm⟩
                              rw [hS] at h5 h4
                              rw [Int.toNat_natCast] at h4
                              rw [hT] at h6
                              rw [Int.toNat_natCast, hT, Int.toNat_natCast] at h4
                              have hSl : S < nk := by omega
                              have hTl : T < nk := by omega
                              obtain ⟨kb, ob9, rfl, hkb, f1⟩ := r9_402.reads.at_ hlq
                              rw [hF] at f1
                              obtain ⟨kc, oc9, rfl, hkc, f2⟩ := tv2_407.reads.at_ hSl
                              obtain ⟨_, _, he3, _, f3⟩ := tv2_407.reads.at_ hTl
                              injection he3 with he3; injection he3 with he4 he5
                              subst he4 he5
                              obtain ⟨kd, od, rfl, hkd, f4⟩ := r1_395.2.1.reads.at_ h1
                              obtain ⟨_, _, he6, _, f5⟩ := r1_395.2.1.reads.at_ hFl
                              injection he6 with he6; injection he6 with he7 he8
                              subst he7 he8
                              rw [hS] at f4
                              rw [hT] at f5
                              rw [h4] at f2
                              generalize gi V T = VV at *
                              have hne : (VV != VV) = false := by simp
                              have hq := p1_396; obtain ⟨k0, k1, k2, k3⟩ := hq
                              clear r1_395 p1_396 r9_402 bz_403 tv2_407
                              clear h2 h3 h4 h5 h6 hF hS hT
                              go_wp2_with fail
                              go_quiet (fail)
                              go_wp2
                              go_roundw
                              case rel => exact ⟨q + 1, _, by omega, by go_num, by first | rfl | exact World.drewN_drewN _ _ _⟩
                              case measure => simp [intOf]; omega
                            · have hge : ¬ (q : Int) < ((eqoF x y gs os).getD []).length := by omega
                              have hbz := below_drewN bz_403 j
                              clear r1_395 p1_396 r9_402 tv2_407
                              go_wp2
                              go_roundw
                              case rel => exact ⟨n9 + 1, by omega, by go_num, hbz⟩
                              case measure => simp [intOf]; omega
            · obtain rfl : n9 = 4 := by omega
              go_wp2
              go_ret
              exact ⟨rfl, (B_237).trans (hb.mono B_237.size)⟩
end Go.Proofs.Ytcdhmcpocohbpaa.lawFnMerged
