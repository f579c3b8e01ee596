/- The walk of the law FnGadgets: whatever its arguments read as, it returns true and leaves what was there. No condition. -/
import Derived.Test.YtimmjppkaadggaaQP22
import Derived.Test.YtimmjppkaadggaaQP24
import Derived.Test.YtimmjppkaadggaaQP25
import Derived.Test.YtimmjppkaadggaaQP20
import Derived.Test.YtimmjppkaadggaaQP19
import Derived.Test.YtimmjppkaadggaaQP26
import Derived.Test.YtimmjppkaadggaaQP09
namespace Go.Proofs.Ytimmjppkaadggaa.lawFnGadgets
open Go.RowKit
set_option linter.unusedVariables false
set_option linter.unusedSimpArgs false
attribute [local go_sem] sepAt sepUpon pureAt pureUpon
theorem open_cs {w w' : World} {C : Ci} {e : Ending} (h : RetC w (some C) e w') : ∃ A c O d, e = .returned (.tuple #[.agg #[.int .i64 C.i0, .int .i64 C.i1, .slice A C.gs.length c, .slice O C.os.length d], .bool true]) ∧ (RG w' A C.gs.length C.gs ∧ RI w' O C.os.length C.os) ∧ Below w.heap.size w w' := by
  obtain ⟨A, c, O, d, h1, h2, h3⟩ := h
  exact ⟨A, c, O, d, h1, ⟨h2.1.reads, h2.2.1.reads⟩, h3⟩
theorem open_cn {w w' : World} {e : Ending} (h : RetC w none e w') : ∃ A c O d, e = .returned (.tuple #[.agg #[.int .i64 0, .int .i64 0, .slice A 0 c, .slice O 0 d], .bool false]) ∧ (RG w' A 0 [] ∧ RI w' O 0 []) ∧ Below w.heap.size w w' := by
  obtain ⟨A, c, O, d, h1, h2, h3⟩ := h
  exact ⟨A, c, O, d, h1, ⟨h2.1.reads, h2.2.1.reads⟩, h3⟩
theorem rd_drewN {w : World} {A O : Option Addr} {n m : Nat} {gs : List G3} {os : List Int} (h : RG w A n gs ∧ RI w O m os) (j : Nat) : RG (w.drewN j) A n gs ∧ RI (w.drewN j) O m os := h
theorem w64_id (n : Int) (h : -9223372036854775808 ≤ n ∧ n ≤ 9223372036854775807) : wrap64 n = n := by unfold wrap64; omega
theorem pMod_any (a : Int) (N : Nat) (w : World) (hN : 1 ≤ N ∧ N ≤ 256) (ha : -(N : Int) < a ∧ a < N) : Calls Try.prog 16 #[.int .i64 a, .int .i64 N] w fun e w' => e = .returned (.int .i64 (if a < 0 then a + N else a)) ∧ w = w' := by
  have h0 : ¬ (N : Int) = 0 := by omega
  have e1 : a.tmod N = a := by
    by_cases h : a < 0
    · have e := Int.neg_tmod (-a) (N : Int)
      rw [Int.neg_neg] at e
      rw [e, Int.tmod_eq_of_lt (by omega) (by omega), Int.neg_neg]
    · exact Int.tmod_eq_of_lt (by omega) (by omega)
  have e2 : (a + N).tmod N = if a < 0 then a + N else a := by
    split
    · exact Int.tmod_eq_of_lt (by omega) (by omega)
    · rw [Int.tmod_eq_emod_of_nonneg (by omega), Int.add_emod_right, Int.emod_eq_of_lt (by omega) (by omega)]
  have e3 : a % N = if a < 0 then a + N else a := by
    split
    · rw [← Int.add_emod_right, Int.emod_eq_of_lt (by omega) (by omega)]
    · exact Int.emod_eq_of_lt (by omega) (by omega)
  generalize (if a < 0 then a + N else a) = r at *
  go_enter Try.func16, Try.ntmps16
  go_wp2
  go_ret
  exact ⟨rfl, rfl⟩
structure GOk (x y : Int) (G : Go2) : Prop where
  c : circB x y G.g G.o = true
  o : G.o.length ≤ 16
theorem ctrF_n {a : Int} (h : inB 1 16 a = false) : ctrF a = none := by simp [ctrF, h]
theorem ctrF_s {k : Nat} (h : inB 1 16 (k : Int) = true) : ctrF (k : Int) = some ⟨k, 0, (ctrG k).g, (ctrG k).o⟩ := by simp [ctrF, h]
theorem adderG_o (k : Nat) : (adderG k).o.length = k + 1 := by simp [adderG, addS_o]
theorem subG_o (k : Nat) : (subG k).o.length = k + 1 := by simp [subG, subS_o]
theorem prodG_o16 {k : Nat} (h1 : 1 ≤ k) (h5 : k ≤ 5) : (prodG k).o.length ≤ 16 := by
  obtain ⟨i, rfl⟩ : ∃ i, k = i + 1 := ⟨k - 1, by omega⟩
  unfold prodG; rw [prodS_o _ _ _ _ _ (by omega)]; split <;> omega
theorem ctrG_o {k : Nat} (h1 : 1 ≤ k) (h : k ≤ 16) : (ctrG k).o.length ≤ 5 := by
  rw [ctrG, ctrS_o]; exact (ctrL_bd (k - 1) (by omega)).2
set_option maxRecDepth 100000 in
set_option maxHeartbeats 8000000 in
theorem walk (Y : Option Addr) (n c : Nat) (Z : Option Addr) (m d : Nat) (w : World) (hY0 : RY0 w Y n) (hn : n ≤ 140737488355328) (hZ0 : RY0 w Z m) (hm : m ≤ 140737488355328) :
    Calls Try.prog 3 #[.slice Y n c, .slice Z m d] w fun e w' => e = .returned (.bool true) ∧ Below w.heap.size w w' := by
  cases hs : bigB n m with
  | true =>
    have hs1 := Lib.hid hs; clear hs
    go_enter Try.func3, Try.ntmps3
    go_wp2_with fail
    refine (big_any Y Z n c m d _ hn hm).mono ?_
    rintro e a1 ⟨rfl, rfl⟩
    rw [hs1.out]
    go_wp2
    go_ret
    exact ⟨rfl, Below.refl _ _⟩
  | false =>
    have hnm : n + m ≤ 1048576 := by have h := of_decide_eq_false hs; omega
    have hs1 := Lib.hid hs; clear hs
    have hY : RY w Y n := hY0.ry (by omega)
    have hZ : RY w Z m := hZ0.ry (by omega)
    go_enter Try.func3, Try.ntmps3
    go_wp2_with fail
    refine (big_any Y Z n c m d _ hn hm).mono ?_
    rintro e a1 ⟨rfl, rfl⟩
    rw [hs1.out]
    clear hs1
    go_wp2_with fail
    refine (DrawRunWith_any Y n c w hY).mono ?_
    rintro e a1 ⟨⟨x0, y0, g0, o0⟩, A0, ca0, O0, co0, p0, q0, rfl, r0, hg0, ho0, b2⟩
    dsimp only at r0 hg0 ho0 ⊢
    clear hY
    have B_3 := b2
    have al4 : Below a1.heap.size a1 (a1.alloc (.cells #[.int .i64 x0, .int .i64 y0, .slice A0 g0.length ca0, .slice O0 o0.length co0] 27)) := (Below.refl _ _).alloc (Nat.le_refl _) _
    have z5 : (a1.alloc (.cells #[.int .i64 x0, .int .i64 y0, .slice A0 g0.length ca0, .slice O0 o0.length co0] 27)).heap.size = a1.heap.size + 1 := by simp
    have p0_6 : BxC (a1.alloc (.cells #[.int .i64 x0, .int .i64 y0, .slice A0 g0.length ca0, .slice O0 o0.length co0] 27)) a1.heap.size x0 y0 A0 g0.length ca0 O0 o0.length co0 := BxC.new _ _
    have r0_7 := And.intro (r0.1.below al4 (Nat.le_refl _)) (r0.2.below al4 (Nat.le_refl _))
    have B_8 := B_3.trans (al4.mono B_3.size)
    clear r0 B_3
    obtain ⟨qb, hqb⟩ : ∃ q, (runF x0 y0 g0 o0 p0 q0).isSome = q := ⟨_, rfl⟩
    obtain ⟨qi, hqi⟩ : ∃ q, (runF x0 y0 g0 o0 p0 q0).getD 0 = q := ⟨_, rfl⟩
    have HQB := Lib.hid hqb; have HQI := Lib.hid hqi
    clear hqb hqi
    have hq := p0_6; obtain ⟨k0, k1, k2, k3⟩ := hq
    go_wp2_with fail
    generalize (a1.alloc (.cells #[.int .i64 x0, .int .i64 y0, .slice A0 g0.length ca0, .slice O0 o0.length co0] 27)) = a9 at *
    clear al4
    refine (RunWith_any x0 y0 A0 g0.length ca0 O0 o0.length co0 p0 q0 g0 o0 _ r0_7 (by omega) (by omega)).mono ?_
    rintro e a10 ⟨he, b11⟩
    rw [HQB.out, HQI.out] at he
    subst he
    clear k0 k1 k2 k3
    have r0_12 := And.intro (r0_7.1.below b11 (Nat.le_refl _)) (r0_7.2.below b11 (Nat.le_refl _))
    have p0_13 := p0_6.below b11
    have B_14 := B_8.trans (b11.mono B_8.size)
    clear r0_7 p0_6 B_8
    have hq := p0_13; obtain ⟨k0, k1, k2, k3⟩ := hq
    go_wp2_with fail
    refine (spec_RunWith_any x0 y0 A0 g0.length ca0 O0 o0.length co0 p0 q0 g0 o0 _ r0_12 (by omega) (by omega)).mono ?_
    rintro e a15 ⟨he, b16⟩
    rw [HQB.out, HQI.out] at he
    subst he
    clear k0 k1 k2 k3
    have r0_17 := And.intro (r0_12.1.below b16 (Nat.le_refl _)) (r0_12.2.below b16 (Nat.le_refl _))
    have p0_18 := p0_13.below b16
    have B_19 := B_14.trans (b16.mono B_14.size)
    clear r0_12 p0_13 B_14
    clear r0_17
    clear p0_18
    have n1 : (qb != qb) = false := by simp
    have n2 : (qi != qi) = false := by simp
    go_wp2_with fail
    have hZ20 : RY a15 Z m := hZ.alt (Alt.of_new (S := fun _ => False) B_19) (fun _ _ _ _ h => h)
    refine (DrawAdderCircuit_any Z m d _ hZ20).mono ?_
    rintro e a21 ⟨a, ha1, ha2, rfl, bD⟩
    clear hZ20
    clear n1 n2 HQB HQI
    have B_22 := B_19.trans (bD.mono B_19.size)
    clear B_19
    clear bD
    cases h0 : inB 1 8 a with
    | false =>
        have h5 : inB 1 5 a = false := by cases h : inB 1 5 a with
          | false => rfl
          | true => have h1 := inB_iff.1 h; rw [inB_t (by omega)] at h0; cases h0
        have HR1 : Hid (gadF adderG 8 a = none) := Lib.hid (by simp [gadF, h0])
        have HR3 : Hid (gadF subG 8 a = none) := Lib.hid (by simp [gadF, h0])
        have HR5 : Hid (gadF prodG 5 a = none) := Lib.hid (by simp [gadF, h5])
        clear h0 h5
        go_wp2_with fail
        have q25 := AdderCircuit_any a a21
        rw [HR1.out] at q25
        refine q25.mono ?_
        clear q25
        rintro e a23 hT
        obtain ⟨A1, ca1, O1, co1, rfl, r1, b1⟩ := open_cn hT
        clear hT
        have B_26 := B_22.trans (b1.mono B_22.size)
        clear B_22
        clear b1
        have al27 : Below a23.heap.size a23 (a23.alloc (.cells #[.int .i64 0, .int .i64 0, .slice A1 0 ca1, .slice O1 0 co1] 27)) := (Below.refl _ _).alloc (Nat.le_refl _) _
        have z28 : (a23.alloc (.cells #[.int .i64 0, .int .i64 0, .slice A1 0 ca1, .slice O1 0 co1] 27)).heap.size = a23.heap.size + 1 := by simp
        have p1_29 : BxC (a23.alloc (.cells #[.int .i64 0, .int .i64 0, .slice A1 0 ca1, .slice O1 0 co1] 27)) a23.heap.size 0 0 A1 0 ca1 O1 0 co1 := BxC.new _ _
        have r1_30 := And.intro (r1.1.below al27 (Nat.le_refl _)) (r1.2.below al27 (Nat.le_refl _))
        have B_31 := B_26.trans (al27.mono B_26.size)
        clear r1 B_26
        go_wp2_with fail
        generalize (a23.alloc (.cells #[.int .i64 0, .int .i64 0, .slice A1 0 ca1, .slice O1 0 co1] 27)) = a32 at *
        clear al27
        have q35 := spec_AdderCircuit_any a a32
        rw [HR1.out] at q35
        refine q35.mono ?_
        clear q35
        rintro e a33 hT
        obtain ⟨A2, ca2, O2, co2, rfl, r2, b2⟩ := open_cn hT
        clear hT
        have r1_36 := And.intro (r1_30.1.below b2 (Nat.le_refl _)) (r1_30.2.below b2 (Nat.le_refl _))
        have p1_37 := p1_29.below b2
        have B_38 := B_31.trans (b2.mono B_31.size)
        clear r1_30 p1_29 B_31
        clear b2
        have al39 : Below a33.heap.size a33 (a33.alloc (.cells #[.int .i64 0, .int .i64 0, .slice A2 0 ca2, .slice O2 0 co2] 27)) := (Below.refl _ _).alloc (Nat.le_refl _) _
        have z40 : (a33.alloc (.cells #[.int .i64 0, .int .i64 0, .slice A2 0 ca2, .slice O2 0 co2] 27)).heap.size = a33.heap.size + 1 := by simp
        have p2_41 : BxC (a33.alloc (.cells #[.int .i64 0, .int .i64 0, .slice A2 0 ca2, .slice O2 0 co2] 27)) a33.heap.size 0 0 A2 0 ca2 O2 0 co2 := BxC.new _ _
        have r1_42 := And.intro (r1_36.1.below al39 (Nat.le_refl _)) (r1_36.2.below al39 (Nat.le_refl _))
        have p1_43 := p1_37.below al39
        have r2_44 := And.intro (r2.1.below al39 (Nat.le_refl _)) (r2.2.below al39 (Nat.le_refl _))
        have B_45 := B_38.trans (al39.mono B_38.size)
        clear r1_36 p1_37 r2 B_38
        have hq := p1_43; obtain ⟨k0, k1, k2, k3⟩ := hq
        have hq := p2_41; obtain ⟨m0, m1, m2, m3⟩ := hq
        go_wp2_with fail
        generalize (a33.alloc (.cells #[.int .i64 0, .int .i64 0, .slice A2 0 ca2, .slice O2 0 co2] 27)) = a46 at *
        clear al39
        refine (pSameCircuit_any 0 0 A1 A2 0 ca1 ca2 O1 O2 0 co1 co2 [] [] _ r1_42 r2_44 (by omega) (by omega)).mono ?_
        rintro e a47 ⟨rfl, b48⟩
        clear k0 k1 k2 k3 m0 m1 m2 m3
        have r1_49 := And.intro (r1_42.1.below b48 (Nat.le_refl _)) (r1_42.2.below b48 (Nat.le_refl _))
        have p1_50 := p1_43.below b48
        have r2_51 := And.intro (r2_44.1.below b48 (Nat.le_refl _)) (r2_44.2.below b48 (Nat.le_refl _))
        have p2_52 := p2_41.below b48
        have B_53 := B_45.trans (b48.mono B_45.size)
        clear r1_42 p1_43 r2_44 p2_41 B_45
        clear r1_49
        clear p1_50
        go_wp2_with fail
        have q56 := SubtractCircuit_any a a47
        rw [HR3.out] at q56
        refine q56.mono ?_
        clear q56
        rintro e a54 hT
        obtain ⟨A3, ca3, O3, co3, rfl, r3, b3⟩ := open_cn hT
        clear hT
        have r2_57 := And.intro (r2_51.1.below b3 (Nat.le_refl _)) (r2_51.2.below b3 (Nat.le_refl _))
        have p2_58 := p2_52.below b3
        have B_59 := B_53.trans (b3.mono B_53.size)
        clear r2_51 p2_52 B_53
        clear b3
        have al60 : Below a54.heap.size a54 (a54.alloc (.cells #[.int .i64 0, .int .i64 0, .slice A3 0 ca3, .slice O3 0 co3] 27)) := (Below.refl _ _).alloc (Nat.le_refl _) _
        have z61 : (a54.alloc (.cells #[.int .i64 0, .int .i64 0, .slice A3 0 ca3, .slice O3 0 co3] 27)).heap.size = a54.heap.size + 1 := by simp
        have p3_62 : BxC (a54.alloc (.cells #[.int .i64 0, .int .i64 0, .slice A3 0 ca3, .slice O3 0 co3] 27)) a54.heap.size 0 0 A3 0 ca3 O3 0 co3 := BxC.new _ _
        have r2_63 := And.intro (r2_57.1.below al60 (Nat.le_refl _)) (r2_57.2.below al60 (Nat.le_refl _))
        have p2_64 := p2_58.below al60
        have r3_65 := And.intro (r3.1.below al60 (Nat.le_refl _)) (r3.2.below al60 (Nat.le_refl _))
        have B_66 := B_59.trans (al60.mono B_59.size)
        clear r2_57 p2_58 r3 B_59
        go_wp2_with fail
        generalize (a54.alloc (.cells #[.int .i64 0, .int .i64 0, .slice A3 0 ca3, .slice O3 0 co3] 27)) = a67 at *
        clear al60
        have q70 := spec_SubtractCircuit_any a a67
        rw [HR3.out] at q70
        refine q70.mono ?_
        clear q70
        rintro e a68 hT
        obtain ⟨A4, ca4, O4, co4, rfl, r4, b4⟩ := open_cn hT
        clear hT
        have r2_71 := And.intro (r2_63.1.below b4 (Nat.le_refl _)) (r2_63.2.below b4 (Nat.le_refl _))
        have p2_72 := p2_64.below b4
        have r3_73 := And.intro (r3_65.1.below b4 (Nat.le_refl _)) (r3_65.2.below b4 (Nat.le_refl _))
        have p3_74 := p3_62.below b4
        have B_75 := B_66.trans (b4.mono B_66.size)
        clear r2_63 p2_64 r3_65 p3_62 B_66
        clear b4
        have al76 : Below a68.heap.size a68 (a68.alloc (.cells #[.int .i64 0, .int .i64 0, .slice A4 0 ca4, .slice O4 0 co4] 27)) := (Below.refl _ _).alloc (Nat.le_refl _) _
        have z77 : (a68.alloc (.cells #[.int .i64 0, .int .i64 0, .slice A4 0 ca4, .slice O4 0 co4] 27)).heap.size = a68.heap.size + 1 := by simp
        have p4_78 : BxC (a68.alloc (.cells #[.int .i64 0, .int .i64 0, .slice A4 0 ca4, .slice O4 0 co4] 27)) a68.heap.size 0 0 A4 0 ca4 O4 0 co4 := BxC.new _ _
        have r2_79 := And.intro (r2_71.1.below al76 (Nat.le_refl _)) (r2_71.2.below al76 (Nat.le_refl _))
        have p2_80 := p2_72.below al76
        have r3_81 := And.intro (r3_73.1.below al76 (Nat.le_refl _)) (r3_73.2.below al76 (Nat.le_refl _))
        have p3_82 := p3_74.below al76
        have r4_83 := And.intro (r4.1.below al76 (Nat.le_refl _)) (r4.2.below al76 (Nat.le_refl _))
        have B_84 := B_75.trans (al76.mono B_75.size)
        clear r2_71 p2_72 r3_73 p3_74 r4 B_75
        go_wp2_with fail
        generalize (a68.alloc (.cells #[.int .i64 0, .int .i64 0, .slice A4 0 ca4, .slice O4 0 co4] 27)) = a85 at *
        clear al76
        have q88 := ProductCircuit_any a a85
        rw [HR5.out] at q88
        refine q88.mono ?_
        clear q88
        rintro e a86 hT
        obtain ⟨A5, ca5, O5, co5, rfl, r5, b5⟩ := open_cn hT
        clear hT
        have r2_89 := And.intro (r2_79.1.below b5 (Nat.le_refl _)) (r2_79.2.below b5 (Nat.le_refl _))
        have p2_90 := p2_80.below b5
        have r3_91 := And.intro (r3_81.1.below b5 (Nat.le_refl _)) (r3_81.2.below b5 (Nat.le_refl _))
        have p3_92 := p3_82.below b5
        have r4_93 := And.intro (r4_83.1.below b5 (Nat.le_refl _)) (r4_83.2.below b5 (Nat.le_refl _))
        have p4_94 := p4_78.below b5
        have B_95 := B_84.trans (b5.mono B_84.size)
        clear r2_79 p2_80 r3_81 p3_82 r4_83 p4_78 B_84
        clear b5
        have al96 : Below a86.heap.size a86 (a86.alloc (.cells #[.int .i64 0, .int .i64 0, .slice A5 0 ca5, .slice O5 0 co5] 27)) := (Below.refl _ _).alloc (Nat.le_refl _) _
        have z97 : (a86.alloc (.cells #[.int .i64 0, .int .i64 0, .slice A5 0 ca5, .slice O5 0 co5] 27)).heap.size = a86.heap.size + 1 := by simp
        have p5_98 : BxC (a86.alloc (.cells #[.int .i64 0, .int .i64 0, .slice A5 0 ca5, .slice O5 0 co5] 27)) a86.heap.size 0 0 A5 0 ca5 O5 0 co5 := BxC.new _ _
        have r2_99 := And.intro (r2_89.1.below al96 (Nat.le_refl _)) (r2_89.2.below al96 (Nat.le_refl _))
        have p2_100 := p2_90.below al96
        have r3_101 := And.intro (r3_91.1.below al96 (Nat.le_refl _)) (r3_91.2.below al96 (Nat.le_refl _))
        have p3_102 := p3_92.below al96
        have r4_103 := And.intro (r4_93.1.below al96 (Nat.le_refl _)) (r4_93.2.below al96 (Nat.le_refl _))
        have p4_104 := p4_94.below al96
        have r5_105 := And.intro (r5.1.below al96 (Nat.le_refl _)) (r5.2.below al96 (Nat.le_refl _))
        have B_106 := B_95.trans (al96.mono B_95.size)
        clear r2_89 p2_90 r3_91 p3_92 r4_93 p4_94 r5 B_95
        go_wp2_with fail
        generalize (a86.alloc (.cells #[.int .i64 0, .int .i64 0, .slice A5 0 ca5, .slice O5 0 co5] 27)) = a107 at *
        clear al96
        have q110 := spec_ProductCircuit_any a a107
        rw [HR5.out] at q110
        refine q110.mono ?_
        clear q110
        rintro e a108 hT
        obtain ⟨A6, ca6, O6, co6, rfl, r6, b6⟩ := open_cn hT
        clear hT
        have r2_111 := And.intro (r2_99.1.below b6 (Nat.le_refl _)) (r2_99.2.below b6 (Nat.le_refl _))
        have p2_112 := p2_100.below b6
        have r3_113 := And.intro (r3_101.1.below b6 (Nat.le_refl _)) (r3_101.2.below b6 (Nat.le_refl _))
        have p3_114 := p3_102.below b6
        have r4_115 := And.intro (r4_103.1.below b6 (Nat.le_refl _)) (r4_103.2.below b6 (Nat.le_refl _))
        have p4_116 := p4_104.below b6
        have r5_117 := And.intro (r5_105.1.below b6 (Nat.le_refl _)) (r5_105.2.below b6 (Nat.le_refl _))
        have p5_118 := p5_98.below b6
        have B_119 := B_106.trans (b6.mono B_106.size)
        clear r2_99 p2_100 r3_101 p3_102 r4_103 p4_104 r5_105 p5_98 B_106
        clear b6
        have al120 : Below a108.heap.size a108 (a108.alloc (.cells #[.int .i64 0, .int .i64 0, .slice A6 0 ca6, .slice O6 0 co6] 27)) := (Below.refl _ _).alloc (Nat.le_refl _) _
        have z121 : (a108.alloc (.cells #[.int .i64 0, .int .i64 0, .slice A6 0 ca6, .slice O6 0 co6] 27)).heap.size = a108.heap.size + 1 := by simp
        have p6_122 : BxC (a108.alloc (.cells #[.int .i64 0, .int .i64 0, .slice A6 0 ca6, .slice O6 0 co6] 27)) a108.heap.size 0 0 A6 0 ca6 O6 0 co6 := BxC.new _ _
        have r2_123 := And.intro (r2_111.1.below al120 (Nat.le_refl _)) (r2_111.2.below al120 (Nat.le_refl _))
        have p2_124 := p2_112.below al120
        have r3_125 := And.intro (r3_113.1.below al120 (Nat.le_refl _)) (r3_113.2.below al120 (Nat.le_refl _))
        have p3_126 := p3_114.below al120
        have r4_127 := And.intro (r4_115.1.below al120 (Nat.le_refl _)) (r4_115.2.below al120 (Nat.le_refl _))
        have p4_128 := p4_116.below al120
        have r5_129 := And.intro (r5_117.1.below al120 (Nat.le_refl _)) (r5_117.2.below al120 (Nat.le_refl _))
        have p5_130 := p5_118.below al120
        have r6_131 := And.intro (r6.1.below al120 (Nat.le_refl _)) (r6.2.below al120 (Nat.le_refl _))
        have B_132 := B_119.trans (al120.mono B_119.size)
        clear r2_111 p2_112 r3_113 p3_114 r4_115 p4_116 r5_117 p5_118 r6 B_119
        have hq := p3_126; obtain ⟨k0, k1, k2, k3⟩ := hq
        have hq := p4_128; obtain ⟨m0, m1, m2, m3⟩ := hq
        go_wp2_with fail
        generalize (a108.alloc (.cells #[.int .i64 0, .int .i64 0, .slice A6 0 ca6, .slice O6 0 co6] 27)) = a133 at *
        clear al120
        refine (pSameCircuit_any 0 0 A3 A4 0 ca3 ca4 O3 O4 0 co3 co4 [] [] _ r3_125 r4_127 (by omega) (by omega)).mono ?_
        rintro e a134 ⟨rfl, b135⟩
        clear k0 k1 k2 k3 m0 m1 m2 m3
        have r2_136 := And.intro (r2_123.1.below b135 (Nat.le_refl _)) (r2_123.2.below b135 (Nat.le_refl _))
        have p2_137 := p2_124.below b135
        have r3_138 := And.intro (r3_125.1.below b135 (Nat.le_refl _)) (r3_125.2.below b135 (Nat.le_refl _))
        have p3_139 := p3_126.below b135
        have r4_140 := And.intro (r4_127.1.below b135 (Nat.le_refl _)) (r4_127.2.below b135 (Nat.le_refl _))
        have p4_141 := p4_128.below b135
        have r5_142 := And.intro (r5_129.1.below b135 (Nat.le_refl _)) (r5_129.2.below b135 (Nat.le_refl _))
        have p5_143 := p5_130.below b135
        have r6_144 := And.intro (r6_131.1.below b135 (Nat.le_refl _)) (r6_131.2.below b135 (Nat.le_refl _))
        have p6_145 := p6_122.below b135
        have B_146 := B_132.trans (b135.mono B_132.size)
        clear r2_123 p2_124 r3_125 p3_126 r4_127 p4_128 r5_129 p5_130 r6_131 p6_122 B_132
        clear r3_138
        clear p3_139
        have hq := p5_143; obtain ⟨k0, k1, k2, k3⟩ := hq
        have hq := p6_145; obtain ⟨m0, m1, m2, m3⟩ := hq
        go_wp2_with fail
        refine (pSameCircuit_any 0 0 A5 A6 0 ca5 ca6 O5 O6 0 co5 co6 [] [] _ r5_142 r6_144 (by omega) (by omega)).mono ?_
        rintro e a147 ⟨rfl, b148⟩
        clear k0 k1 k2 k3 m0 m1 m2 m3
        have r2_149 := And.intro (r2_136.1.below b148 (Nat.le_refl _)) (r2_136.2.below b148 (Nat.le_refl _))
        have p2_150 := p2_137.below b148
        have r4_151 := And.intro (r4_140.1.below b148 (Nat.le_refl _)) (r4_140.2.below b148 (Nat.le_refl _))
        have p4_152 := p4_141.below b148
        have r5_153 := And.intro (r5_142.1.below b148 (Nat.le_refl _)) (r5_142.2.below b148 (Nat.le_refl _))
        have p5_154 := p5_143.below b148
        have r6_155 := And.intro (r6_144.1.below b148 (Nat.le_refl _)) (r6_144.2.below b148 (Nat.le_refl _))
        have p6_156 := p6_145.below b148
        have B_157 := B_146.trans (b148.mono B_146.size)
        clear r2_136 p2_137 r4_140 p4_141 r5_142 p5_143 r6_144 p6_145 B_146
        clear r5_153
        clear p5_154
        clear r2_149
        clear p2_150
        clear r4_151
        clear p4_152
        clear r6_155
        clear p6_156
        go_wp2_with fail
        have hZ158 : RY a147 Z m := hZ.alt (Alt.of_new (S := fun _ => False) B_157) (fun _ _ _ _ h => h)
        refine (DrawCountCircuit_any Z m d _ hZ158).mono ?_
        rintro e a159 ⟨cn, hc1, hc2, rfl, bD⟩
        clear hZ158
        have B_160 := B_157.trans (bD.mono B_157.size)
        clear B_157
        clear bD
        cases h9 : inB 1 16 cn with
        | false =>
            have HR9 : Hid (ctrF cn = none) := Lib.hid (ctrF_n h9)
            clear h9
            go_wp2_with fail
            have q163 := CountCircuit_any cn a159
            rw [HR9.out] at q163
            refine q163.mono ?_
            clear q163
            rintro e a161 hT
            obtain ⟨A9, ca9, O9, co9, rfl, r9, b9⟩ := open_cn hT
            clear hT
            have B_164 := B_160.trans (b9.mono B_160.size)
            clear B_160
            clear b9
            have al165 : Below a161.heap.size a161 (a161.alloc (.cells #[.int .i64 0, .int .i64 0, .slice A9 0 ca9, .slice O9 0 co9] 27)) := (Below.refl _ _).alloc (Nat.le_refl _) _
            have z166 : (a161.alloc (.cells #[.int .i64 0, .int .i64 0, .slice A9 0 ca9, .slice O9 0 co9] 27)).heap.size = a161.heap.size + 1 := by simp
            have p9_167 : BxC (a161.alloc (.cells #[.int .i64 0, .int .i64 0, .slice A9 0 ca9, .slice O9 0 co9] 27)) a161.heap.size 0 0 A9 0 ca9 O9 0 co9 := BxC.new _ _
            have r9_168 := And.intro (r9.1.below al165 (Nat.le_refl _)) (r9.2.below al165 (Nat.le_refl _))
            have B_169 := B_164.trans (al165.mono B_164.size)
            clear r9 B_164
            go_wp2_with fail
            generalize (a161.alloc (.cells #[.int .i64 0, .int .i64 0, .slice A9 0 ca9, .slice O9 0 co9] 27)) = a170 at *
            clear al165
            have q173 := spec_CountCircuit_any cn a170
            rw [HR9.out] at q173
            refine q173.mono ?_
            clear q173
            rintro e a171 hT
            obtain ⟨A10, ca10, O10, co10, rfl, r10, b10⟩ := open_cn hT
            clear hT
            have r9_174 := And.intro (r9_168.1.below b10 (Nat.le_refl _)) (r9_168.2.below b10 (Nat.le_refl _))
            have p9_175 := p9_167.below b10
            have B_176 := B_169.trans (b10.mono B_169.size)
            clear r9_168 p9_167 B_169
            clear b10
            have al177 : Below a171.heap.size a171 (a171.alloc (.cells #[.int .i64 0, .int .i64 0, .slice A10 0 ca10, .slice O10 0 co10] 27)) := (Below.refl _ _).alloc (Nat.le_refl _) _
            have z178 : (a171.alloc (.cells #[.int .i64 0, .int .i64 0, .slice A10 0 ca10, .slice O10 0 co10] 27)).heap.size = a171.heap.size + 1 := by simp
            have p10_179 : BxC (a171.alloc (.cells #[.int .i64 0, .int .i64 0, .slice A10 0 ca10, .slice O10 0 co10] 27)) a171.heap.size 0 0 A10 0 ca10 O10 0 co10 := BxC.new _ _
            have r9_180 := And.intro (r9_174.1.below al177 (Nat.le_refl _)) (r9_174.2.below al177 (Nat.le_refl _))
            have p9_181 := p9_175.below al177
            have r10_182 := And.intro (r10.1.below al177 (Nat.le_refl _)) (r10.2.below al177 (Nat.le_refl _))
            have B_183 := B_176.trans (al177.mono B_176.size)
            clear r9_174 p9_175 r10 B_176
            have hq := p9_181; obtain ⟨k0, k1, k2, k3⟩ := hq
            have hq := p10_179; obtain ⟨m0, m1, m2, m3⟩ := hq
            go_wp2_with fail
            generalize (a171.alloc (.cells #[.int .i64 0, .int .i64 0, .slice A10 0 ca10, .slice O10 0 co10] 27)) = a184 at *
            clear al177
            refine (pSameCircuit_any 0 0 A9 A10 0 ca9 ca10 O9 O10 0 co9 co10 [] [] _ r9_180 r10_182 (by omega) (by omega)).mono ?_
            rintro e a185 ⟨rfl, b186⟩
            clear k0 k1 k2 k3 m0 m1 m2 m3
            have r9_187 := And.intro (r9_180.1.below b186 (Nat.le_refl _)) (r9_180.2.below b186 (Nat.le_refl _))
            have p9_188 := p9_181.below b186
            have r10_189 := And.intro (r10_182.1.below b186 (Nat.le_refl _)) (r10_182.2.below b186 (Nat.le_refl _))
            have p10_190 := p10_179.below b186
            have B_191 := B_183.trans (b186.mono B_183.size)
            clear r9_180 p9_181 r10_182 p10_179 B_183
            go_wp2
            go_ret
            exact ⟨rfl, B_191⟩
        | true =>
            have h99 := inB_iff.1 h9
            obtain ⟨K, rfl⟩ : ∃ K : Nat, cn = K := ⟨cn.toNat, by omega⟩
            have hK1 : 1 ≤ K := by omega
            have hK16 : K ≤ 16 := by omega
            have HR9 : Hid (ctrF (K : Int) = some ⟨K, 0, (ctrG K).g, (ctrG K).o⟩) := Lib.hid (ctrF_s h9)
            have HC9 : GOk K 0 (ctrG K) := ⟨ctrG_ok K hK1 hK16, by have := ctrG_o hK1 hK16; omega⟩
            have HA9 : Hid (ans (ctrG K) (bitsN (2 ^ K - 1) K ++ bitsN 0 0) = K) := Lib.hid (ctrG_all K hK1 hK16)
            have HB9 : Hid (ans (ctrG K) (bitsN 0 K ++ bitsN 0 0) = 0) := Lib.hid (ctrG_none K hK1 hK16)
            generalize ctrG K = G9 at *
            obtain ⟨g9, o9⟩ := G9
            dsimp only at HR9
            have hl9 : g9.length ≤ 300 := (circB_bd HC9.c).2.2.1
            have ho9 : o9.length ≤ 16 := HC9.o
            have HD9 := Lib.hid HC9.c
            clear HC9 h9 h99
            go_wp2_with fail
            have q163 := CountCircuit_any (K : Int) a159
            rw [HR9.out] at q163
            refine q163.mono ?_
            clear q163
            rintro e a161 hT
            obtain ⟨A9, ca9, O9, co9, rfl, r9, b9⟩ := open_cs hT
            clear hT
            dsimp only at r9 ⊢
            have B_164 := B_160.trans (b9.mono B_160.size)
            clear B_160
            clear b9
            have al165 : Below a161.heap.size a161 (a161.alloc (.cells #[.int .i64 (K : Int), .int .i64 0, .slice A9 g9.length ca9, .slice O9 o9.length co9] 27)) := (Below.refl _ _).alloc (Nat.le_refl _) _
            have z166 : (a161.alloc (.cells #[.int .i64 (K : Int), .int .i64 0, .slice A9 g9.length ca9, .slice O9 o9.length co9] 27)).heap.size = a161.heap.size + 1 := by simp
            have p9_167 : BxC (a161.alloc (.cells #[.int .i64 (K : Int), .int .i64 0, .slice A9 g9.length ca9, .slice O9 o9.length co9] 27)) a161.heap.size (K : Int) 0 A9 g9.length ca9 O9 o9.length co9 := BxC.new _ _
            have r9_168 := And.intro (r9.1.below al165 (Nat.le_refl _)) (r9.2.below al165 (Nat.le_refl _))
            have B_169 := B_164.trans (al165.mono B_164.size)
            clear r9 B_164
            go_wp2_with fail
            generalize (a161.alloc (.cells #[.int .i64 (K : Int), .int .i64 0, .slice A9 g9.length ca9, .slice O9 o9.length co9] 27)) = a170 at *
            clear al165
            have q173 := spec_CountCircuit_any (K : Int) a170
            rw [HR9.out] at q173
            refine q173.mono ?_
            clear q173
            rintro e a171 hT
            obtain ⟨A10, ca10, O10, co10, rfl, r10, b10⟩ := open_cs hT
            clear hT
            dsimp only at r10 ⊢
            have r9_174 := And.intro (r9_168.1.below b10 (Nat.le_refl _)) (r9_168.2.below b10 (Nat.le_refl _))
            have p9_175 := p9_167.below b10
            have B_176 := B_169.trans (b10.mono B_169.size)
            clear r9_168 p9_167 B_169
            clear b10
            have al177 : Below a171.heap.size a171 (a171.alloc (.cells #[.int .i64 (K : Int), .int .i64 0, .slice A10 g9.length ca10, .slice O10 o9.length co10] 27)) := (Below.refl _ _).alloc (Nat.le_refl _) _
            have z178 : (a171.alloc (.cells #[.int .i64 (K : Int), .int .i64 0, .slice A10 g9.length ca10, .slice O10 o9.length co10] 27)).heap.size = a171.heap.size + 1 := by simp
            have p10_179 : BxC (a171.alloc (.cells #[.int .i64 (K : Int), .int .i64 0, .slice A10 g9.length ca10, .slice O10 o9.length co10] 27)) a171.heap.size (K : Int) 0 A10 g9.length ca10 O10 o9.length co10 := BxC.new _ _
            have r9_180 := And.intro (r9_174.1.below al177 (Nat.le_refl _)) (r9_174.2.below al177 (Nat.le_refl _))
            have p9_181 := p9_175.below al177
            have r10_182 := And.intro (r10.1.below al177 (Nat.le_refl _)) (r10.2.below al177 (Nat.le_refl _))
            have B_183 := B_176.trans (al177.mono B_176.size)
            clear r9_174 p9_175 r10 B_176
            have hq := p9_181; obtain ⟨k0, k1, k2, k3⟩ := hq
            have hq := p10_179; obtain ⟨m0, m1, m2, m3⟩ := hq
            go_wp2_with fail
            generalize (a171.alloc (.cells #[.int .i64 (K : Int), .int .i64 0, .slice A10 g9.length ca10, .slice O10 o9.length co10] 27)) = a184 at *
            clear al177
            refine (pSameCircuit_any (K : Int) 0 A9 A10 g9.length ca9 ca10 O9 O10 o9.length co9 co10 g9 o9 _ r9_180 r10_182 (by omega) (by omega)).mono ?_
            rintro e a185 ⟨rfl, b186⟩
            clear k0 k1 k2 k3 m0 m1 m2 m3
            have r9_187 := And.intro (r9_180.1.below b186 (Nat.le_refl _)) (r9_180.2.below b186 (Nat.le_refl _))
            have p9_188 := p9_181.below b186
            have r10_189 := And.intro (r10_182.1.below b186 (Nat.le_refl _)) (r10_182.2.below b186 (Nat.le_refl _))
            have p10_190 := p10_179.below b186
            have B_191 := B_183.trans (b186.mono B_183.size)
            clear r9_180 p9_181 r10_182 p10_179 B_183
            clear r9_187
            clear p9_188
            obtain ⟨Q, hQ⟩ : ∃ Q : Nat, 2 ^ K = Q := ⟨_, rfl⟩
            have hQ1 : 1 ≤ Q := by rw [← hQ]; exact Nat.one_le_two_pow
            have hQ2 : Q ≤ 65536 := by rw [← hQ]; exact Nat.le_trans (Nat.pow_le_pow_right (by omega) hK16) (by decide)
            have hQi : (2 : Int) ^ K = Q := by rw [← hQ]; simp
            have htb : ((K : Nat) : Int).toNat = K := by simp
            obtain ⟨P, hP⟩ : ∃ P : Nat, Q - 1 = P := ⟨_, rfl⟩
            have hPk : Hid (P < 2 ^ K) := Lib.hid (by rw [hQ]; omega)
            rw [hQ, hP] at HA9
            have hwP : IntKind.i64.wrap ((Q : Int) - 1) = (P : Int) := by rw [IntKind.wrap_i64] <;> omega
            clear hP hQ
            have hq := p10_190; obtain ⟨k0, k1, k2, k3⟩ := hq
            go_wp2_with fail
            refine (RunWith_ok K 0 A10 g9.length ca10 O10 o9.length co10 P 0 K 0 g9 o9 a185 r10_189 (by omega) (by omega) HD9.out (by omega) (by omega) (by omega) (by omega) hPk.out (by decide)).mono ?_
            rintro e a192 ⟨he, b1930⟩
            rw [HA9.out] at he
            subst he
            have b193 := b1930
            clear b1930 k0 k1 k2 k3
            have r10_194 := And.intro (r10_189.1.below b193 (Nat.le_refl _)) (r10_189.2.below b193 (Nat.le_refl _))
            have p10_195 := p10_190.below b193
            have B_196 := B_191.trans (b193.mono B_191.size)
            clear r10_189 p10_190 B_191
            clear hQi htb hwP
            have hq := p10_195; obtain ⟨k0, k1, k2, k3⟩ := hq
            go_wp2_with fail
            refine (RunWith_ok K 0 A10 g9.length ca10 O10 o9.length co10 0 0 K 0 g9 o9 a192 r10_194 (by omega) (by omega) HD9.out (by omega) (by omega) (by omega) (by omega) (Nat.two_pow_pos K) (by decide)).mono ?_
            rintro e a197 ⟨he, b1980⟩
            rw [HB9.out] at he
            subst he
            have b198 := b1980
            clear b1980 k0 k1 k2 k3
            have r10_199 := And.intro (r10_194.1.below b198 (Nat.le_refl _)) (r10_194.2.below b198 (Nat.le_refl _))
            have p10_200 := p10_195.below b198
            have B_201 := B_196.trans (b198.mono B_196.size)
            clear r10_194 p10_195 B_196
            have n8 : ((K : Int) == K) = true := by simp
            go_wp2
            go_ret
            exact ⟨rfl, B_201⟩
    | true =>
        have hab := inB_iff.1 h0
        obtain ⟨k, rfl⟩ : ∃ k : Nat, a = k := ⟨a.toNat, by omega⟩
        have hk1 : 1 ≤ k := by omega
        have hk8 : k ≤ 8 := by omega
        have HR1 : Hid (gadF adderG 8 (k : Int) = some ⟨k, k, (adderG k).g, (adderG k).o⟩) := Lib.hid (by simp [gadF, h0])
        have HC1 : GOk k k (adderG k) := ⟨adderG_ok k hk1 hk8, by rw [adderG_o]; omega⟩
        have HA1 : Hid (∀ u v : Nat, u < 2 ^ k → v < 2 ^ k → ans (adderG k) (bitsN u k ++ bitsN v k) = (u : Int) + v) := Lib.hid (fun u v hu hv => adder_v hk1 hu hv)
        generalize adderG k = G1 at *
        obtain ⟨g1, o1⟩ := G1
        dsimp only at HR1
        have hl1 : g1.length ≤ 300 := (circB_bd HC1.c).2.2.1
        have ho1 : o1.length ≤ 16 := HC1.o
        have HD1 := Lib.hid HC1.c
        clear HC1
        have HR3 : Hid (gadF subG 8 (k : Int) = some ⟨k, k, (subG k).g, (subG k).o⟩) := Lib.hid (by simp [gadF, h0])
        have HC3 : GOk k k (subG k) := ⟨subG_ok k hk1 hk8, by rw [subG_o]; omega⟩
        have HA3 : Hid (∀ u v : Nat, u < 2 ^ k → v < 2 ^ k → ans (subG k) (bitsN u k ++ bitsN v k) = ((u : Int) - v + if u < v then 2 ^ k else 0) + (if u < v then 1 else 0) * 2 ^ k) := Lib.hid (fun u v hu hv => sub_v hk1 hu hv)
        generalize subG k = G3 at *
        obtain ⟨g3, o3⟩ := G3
        dsimp only at HR3
        have hl3 : g3.length ≤ 300 := (circB_bd HC3.c).2.2.1
        have ho3 : o3.length ≤ 16 := HC3.o
        have HD3 := Lib.hid HC3.c
        clear HC3
        clear h0 hab
        cases h5 : inB 1 5 (k : Int) with
        | false =>
            have HR5 : Hid (gadF prodG 5 (k : Int) = none) := Lib.hid (by simp [gadF, h5])
            clear h5
            go_wp2_with fail
            have q25 := AdderCircuit_any (k : Int) a21
            rw [HR1.out] at q25
            refine q25.mono ?_
            clear q25
            rintro e a23 hT
            obtain ⟨A1, ca1, O1, co1, rfl, r1, b1⟩ := open_cs hT
            clear hT
            dsimp only at r1 ⊢
            have B_26 := B_22.trans (b1.mono B_22.size)
            clear B_22
            clear b1
            have al27 : Below a23.heap.size a23 (a23.alloc (.cells #[.int .i64 k, .int .i64 k, .slice A1 g1.length ca1, .slice O1 o1.length co1] 27)) := (Below.refl _ _).alloc (Nat.le_refl _) _
            have z28 : (a23.alloc (.cells #[.int .i64 k, .int .i64 k, .slice A1 g1.length ca1, .slice O1 o1.length co1] 27)).heap.size = a23.heap.size + 1 := by simp
            have p1_29 : BxC (a23.alloc (.cells #[.int .i64 k, .int .i64 k, .slice A1 g1.length ca1, .slice O1 o1.length co1] 27)) a23.heap.size k k A1 g1.length ca1 O1 o1.length co1 := BxC.new _ _
            have r1_30 := And.intro (r1.1.below al27 (Nat.le_refl _)) (r1.2.below al27 (Nat.le_refl _))
            have B_31 := B_26.trans (al27.mono B_26.size)
            clear r1 B_26
            go_wp2_with fail
            generalize (a23.alloc (.cells #[.int .i64 k, .int .i64 k, .slice A1 g1.length ca1, .slice O1 o1.length co1] 27)) = a32 at *
            clear al27
            have q35 := spec_AdderCircuit_any (k : Int) a32
            rw [HR1.out] at q35
            refine q35.mono ?_
            clear q35
            rintro e a33 hT
            obtain ⟨A2, ca2, O2, co2, rfl, r2, b2⟩ := open_cs hT
            clear hT
            dsimp only at r2 ⊢
            have r1_36 := And.intro (r1_30.1.below b2 (Nat.le_refl _)) (r1_30.2.below b2 (Nat.le_refl _))
            have p1_37 := p1_29.below b2
            have B_38 := B_31.trans (b2.mono B_31.size)
            clear r1_30 p1_29 B_31
            clear b2
            have al39 : Below a33.heap.size a33 (a33.alloc (.cells #[.int .i64 k, .int .i64 k, .slice A2 g1.length ca2, .slice O2 o1.length co2] 27)) := (Below.refl _ _).alloc (Nat.le_refl _) _
            have z40 : (a33.alloc (.cells #[.int .i64 k, .int .i64 k, .slice A2 g1.length ca2, .slice O2 o1.length co2] 27)).heap.size = a33.heap.size + 1 := by simp
            have p2_41 : BxC (a33.alloc (.cells #[.int .i64 k, .int .i64 k, .slice A2 g1.length ca2, .slice O2 o1.length co2] 27)) a33.heap.size k k A2 g1.length ca2 O2 o1.length co2 := BxC.new _ _
            have r1_42 := And.intro (r1_36.1.below al39 (Nat.le_refl _)) (r1_36.2.below al39 (Nat.le_refl _))
            have p1_43 := p1_37.below al39
            have r2_44 := And.intro (r2.1.below al39 (Nat.le_refl _)) (r2.2.below al39 (Nat.le_refl _))
            have B_45 := B_38.trans (al39.mono B_38.size)
            clear r1_36 p1_37 r2 B_38
            have hq := p1_43; obtain ⟨k0, k1, k2, k3⟩ := hq
            have hq := p2_41; obtain ⟨m0, m1, m2, m3⟩ := hq
            go_wp2_with fail
            generalize (a33.alloc (.cells #[.int .i64 k, .int .i64 k, .slice A2 g1.length ca2, .slice O2 o1.length co2] 27)) = a46 at *
            clear al39
            refine (pSameCircuit_any k k A1 A2 g1.length ca1 ca2 O1 O2 o1.length co1 co2 g1 o1 _ r1_42 r2_44 (by omega) (by omega)).mono ?_
            rintro e a47 ⟨rfl, b48⟩
            clear k0 k1 k2 k3 m0 m1 m2 m3
            have r1_49 := And.intro (r1_42.1.below b48 (Nat.le_refl _)) (r1_42.2.below b48 (Nat.le_refl _))
            have p1_50 := p1_43.below b48
            have r2_51 := And.intro (r2_44.1.below b48 (Nat.le_refl _)) (r2_44.2.below b48 (Nat.le_refl _))
            have p2_52 := p2_41.below b48
            have B_53 := B_45.trans (b48.mono B_45.size)
            clear r1_42 p1_43 r2_44 p2_41 B_45
            clear r1_49
            clear p1_50
            go_wp2_with fail
            have q56 := SubtractCircuit_any (k : Int) a47
            rw [HR3.out] at q56
            refine q56.mono ?_
            clear q56
            rintro e a54 hT
            obtain ⟨A3, ca3, O3, co3, rfl, r3, b3⟩ := open_cs hT
            clear hT
            dsimp only at r3 ⊢
            have r2_57 := And.intro (r2_51.1.below b3 (Nat.le_refl _)) (r2_51.2.below b3 (Nat.le_refl _))
            have p2_58 := p2_52.below b3
            have B_59 := B_53.trans (b3.mono B_53.size)
            clear r2_51 p2_52 B_53
            clear b3
            have al60 : Below a54.heap.size a54 (a54.alloc (.cells #[.int .i64 k, .int .i64 k, .slice A3 g3.length ca3, .slice O3 o3.length co3] 27)) := (Below.refl _ _).alloc (Nat.le_refl _) _
            have z61 : (a54.alloc (.cells #[.int .i64 k, .int .i64 k, .slice A3 g3.length ca3, .slice O3 o3.length co3] 27)).heap.size = a54.heap.size + 1 := by simp
            have p3_62 : BxC (a54.alloc (.cells #[.int .i64 k, .int .i64 k, .slice A3 g3.length ca3, .slice O3 o3.length co3] 27)) a54.heap.size k k A3 g3.length ca3 O3 o3.length co3 := BxC.new _ _
            have r2_63 := And.intro (r2_57.1.below al60 (Nat.le_refl _)) (r2_57.2.below al60 (Nat.le_refl _))
            have p2_64 := p2_58.below al60
            have r3_65 := And.intro (r3.1.below al60 (Nat.le_refl _)) (r3.2.below al60 (Nat.le_refl _))
            have B_66 := B_59.trans (al60.mono B_59.size)
            clear r2_57 p2_58 r3 B_59
            go_wp2_with fail
            generalize (a54.alloc (.cells #[.int .i64 k, .int .i64 k, .slice A3 g3.length ca3, .slice O3 o3.length co3] 27)) = a67 at *
            clear al60
            have q70 := spec_SubtractCircuit_any (k : Int) a67
            rw [HR3.out] at q70
            refine q70.mono ?_
            clear q70
            rintro e a68 hT
            obtain ⟨A4, ca4, O4, co4, rfl, r4, b4⟩ := open_cs hT
            clear hT
            dsimp only at r4 ⊢
            have r2_71 := And.intro (r2_63.1.below b4 (Nat.le_refl _)) (r2_63.2.below b4 (Nat.le_refl _))
            have p2_72 := p2_64.below b4
            have r3_73 := And.intro (r3_65.1.below b4 (Nat.le_refl _)) (r3_65.2.below b4 (Nat.le_refl _))
            have p3_74 := p3_62.below b4
            have B_75 := B_66.trans (b4.mono B_66.size)
            clear r2_63 p2_64 r3_65 p3_62 B_66
            clear b4
            have al76 : Below a68.heap.size a68 (a68.alloc (.cells #[.int .i64 k, .int .i64 k, .slice A4 g3.length ca4, .slice O4 o3.length co4] 27)) := (Below.refl _ _).alloc (Nat.le_refl _) _
            have z77 : (a68.alloc (.cells #[.int .i64 k, .int .i64 k, .slice A4 g3.length ca4, .slice O4 o3.length co4] 27)).heap.size = a68.heap.size + 1 := by simp
            have p4_78 : BxC (a68.alloc (.cells #[.int .i64 k, .int .i64 k, .slice A4 g3.length ca4, .slice O4 o3.length co4] 27)) a68.heap.size k k A4 g3.length ca4 O4 o3.length co4 := BxC.new _ _
            have r2_79 := And.intro (r2_71.1.below al76 (Nat.le_refl _)) (r2_71.2.below al76 (Nat.le_refl _))
            have p2_80 := p2_72.below al76
            have r3_81 := And.intro (r3_73.1.below al76 (Nat.le_refl _)) (r3_73.2.below al76 (Nat.le_refl _))
            have p3_82 := p3_74.below al76
            have r4_83 := And.intro (r4.1.below al76 (Nat.le_refl _)) (r4.2.below al76 (Nat.le_refl _))
            have B_84 := B_75.trans (al76.mono B_75.size)
            clear r2_71 p2_72 r3_73 p3_74 r4 B_75
            go_wp2_with fail
            generalize (a68.alloc (.cells #[.int .i64 k, .int .i64 k, .slice A4 g3.length ca4, .slice O4 o3.length co4] 27)) = a85 at *
            clear al76
            have q88 := ProductCircuit_any (k : Int) a85
            rw [HR5.out] at q88
            refine q88.mono ?_
            clear q88
            rintro e a86 hT
            obtain ⟨A5, ca5, O5, co5, rfl, r5, b5⟩ := open_cn hT
            clear hT
            have r2_89 := And.intro (r2_79.1.below b5 (Nat.le_refl _)) (r2_79.2.below b5 (Nat.le_refl _))
            have p2_90 := p2_80.below b5
            have r3_91 := And.intro (r3_81.1.below b5 (Nat.le_refl _)) (r3_81.2.below b5 (Nat.le_refl _))
            have p3_92 := p3_82.below b5
            have r4_93 := And.intro (r4_83.1.below b5 (Nat.le_refl _)) (r4_83.2.below b5 (Nat.le_refl _))
            have p4_94 := p4_78.below b5
            have B_95 := B_84.trans (b5.mono B_84.size)
            clear r2_79 p2_80 r3_81 p3_82 r4_83 p4_78 B_84
            clear b5
            have al96 : Below a86.heap.size a86 (a86.alloc (.cells #[.int .i64 0, .int .i64 0, .slice A5 0 ca5, .slice O5 0 co5] 27)) := (Below.refl _ _).alloc (Nat.le_refl _) _
            have z97 : (a86.alloc (.cells #[.int .i64 0, .int .i64 0, .slice A5 0 ca5, .slice O5 0 co5] 27)).heap.size = a86.heap.size + 1 := by simp
            have p5_98 : BxC (a86.alloc (.cells #[.int .i64 0, .int .i64 0, .slice A5 0 ca5, .slice O5 0 co5] 27)) a86.heap.size 0 0 A5 0 ca5 O5 0 co5 := BxC.new _ _
            have r2_99 := And.intro (r2_89.1.below al96 (Nat.le_refl _)) (r2_89.2.below al96 (Nat.le_refl _))
            have p2_100 := p2_90.below al96
            have r3_101 := And.intro (r3_91.1.below al96 (Nat.le_refl _)) (r3_91.2.below al96 (Nat.le_refl _))
            have p3_102 := p3_92.below al96
            have r4_103 := And.intro (r4_93.1.below al96 (Nat.le_refl _)) (r4_93.2.below al96 (Nat.le_refl _))
            have p4_104 := p4_94.below al96
            have r5_105 := And.intro (r5.1.below al96 (Nat.le_refl _)) (r5.2.below al96 (Nat.le_refl _))
            have B_106 := B_95.trans (al96.mono B_95.size)
            clear r2_89 p2_90 r3_91 p3_92 r4_93 p4_94 r5 B_95
            go_wp2_with fail
            generalize (a86.alloc (.cells #[.int .i64 0, .int .i64 0, .slice A5 0 ca5, .slice O5 0 co5] 27)) = a107 at *
            clear al96
            have q110 := spec_ProductCircuit_any (k : Int) a107
            rw [HR5.out] at q110
            refine q110.mono ?_
            clear q110
            rintro e a108 hT
            obtain ⟨A6, ca6, O6, co6, rfl, r6, b6⟩ := open_cn hT
            clear hT
            have r2_111 := And.intro (r2_99.1.below b6 (Nat.le_refl _)) (r2_99.2.below b6 (Nat.le_refl _))
            have p2_112 := p2_100.below b6
            have r3_113 := And.intro (r3_101.1.below b6 (Nat.le_refl _)) (r3_101.2.below b6 (Nat.le_refl _))
            have p3_114 := p3_102.below b6
            have r4_115 := And.intro (r4_103.1.below b6 (Nat.le_refl _)) (r4_103.2.below b6 (Nat.le_refl _))
            have p4_116 := p4_104.below b6
            have r5_117 := And.intro (r5_105.1.below b6 (Nat.le_refl _)) (r5_105.2.below b6 (Nat.le_refl _))
            have p5_118 := p5_98.below b6
            have B_119 := B_106.trans (b6.mono B_106.size)
            clear r2_99 p2_100 r3_101 p3_102 r4_103 p4_104 r5_105 p5_98 B_106
            clear b6
            have al120 : Below a108.heap.size a108 (a108.alloc (.cells #[.int .i64 0, .int .i64 0, .slice A6 0 ca6, .slice O6 0 co6] 27)) := (Below.refl _ _).alloc (Nat.le_refl _) _
            have z121 : (a108.alloc (.cells #[.int .i64 0, .int .i64 0, .slice A6 0 ca6, .slice O6 0 co6] 27)).heap.size = a108.heap.size + 1 := by simp
            have p6_122 : BxC (a108.alloc (.cells #[.int .i64 0, .int .i64 0, .slice A6 0 ca6, .slice O6 0 co6] 27)) a108.heap.size 0 0 A6 0 ca6 O6 0 co6 := BxC.new _ _
            have r2_123 := And.intro (r2_111.1.below al120 (Nat.le_refl _)) (r2_111.2.below al120 (Nat.le_refl _))
            have p2_124 := p2_112.below al120
            have r3_125 := And.intro (r3_113.1.below al120 (Nat.le_refl _)) (r3_113.2.below al120 (Nat.le_refl _))
            have p3_126 := p3_114.below al120
            have r4_127 := And.intro (r4_115.1.below al120 (Nat.le_refl _)) (r4_115.2.below al120 (Nat.le_refl _))
            have p4_128 := p4_116.below al120
            have r5_129 := And.intro (r5_117.1.below al120 (Nat.le_refl _)) (r5_117.2.below al120 (Nat.le_refl _))
            have p5_130 := p5_118.below al120
            have r6_131 := And.intro (r6.1.below al120 (Nat.le_refl _)) (r6.2.below al120 (Nat.le_refl _))
            have B_132 := B_119.trans (al120.mono B_119.size)
            clear r2_111 p2_112 r3_113 p3_114 r4_115 p4_116 r5_117 p5_118 r6 B_119
            have hq := p3_126; obtain ⟨k0, k1, k2, k3⟩ := hq
            have hq := p4_128; obtain ⟨m0, m1, m2, m3⟩ := hq
            go_wp2_with fail
            generalize (a108.alloc (.cells #[.int .i64 0, .int .i64 0, .slice A6 0 ca6, .slice O6 0 co6] 27)) = a133 at *
            clear al120
            refine (pSameCircuit_any k k A3 A4 g3.length ca3 ca4 O3 O4 o3.length co3 co4 g3 o3 _ r3_125 r4_127 (by omega) (by omega)).mono ?_
            rintro e a134 ⟨rfl, b135⟩
            clear k0 k1 k2 k3 m0 m1 m2 m3
            have r2_136 := And.intro (r2_123.1.below b135 (Nat.le_refl _)) (r2_123.2.below b135 (Nat.le_refl _))
            have p2_137 := p2_124.below b135
            have r3_138 := And.intro (r3_125.1.below b135 (Nat.le_refl _)) (r3_125.2.below b135 (Nat.le_refl _))
            have p3_139 := p3_126.below b135
            have r4_140 := And.intro (r4_127.1.below b135 (Nat.le_refl _)) (r4_127.2.below b135 (Nat.le_refl _))
            have p4_141 := p4_128.below b135
            have r5_142 := And.intro (r5_129.1.below b135 (Nat.le_refl _)) (r5_129.2.below b135 (Nat.le_refl _))
            have p5_143 := p5_130.below b135
            have r6_144 := And.intro (r6_131.1.below b135 (Nat.le_refl _)) (r6_131.2.below b135 (Nat.le_refl _))
            have p6_145 := p6_122.below b135
            have B_146 := B_132.trans (b135.mono B_132.size)
            clear r2_123 p2_124 r3_125 p3_126 r4_127 p4_128 r5_129 p5_130 r6_131 p6_122 B_132
            clear r3_138
            clear p3_139
            have hq := p5_143; obtain ⟨k0, k1, k2, k3⟩ := hq
            have hq := p6_145; obtain ⟨m0, m1, m2, m3⟩ := hq
            go_wp2_with fail
            refine (pSameCircuit_any 0 0 A5 A6 0 ca5 ca6 O5 O6 0 co5 co6 [] [] _ r5_142 r6_144 (by omega) (by omega)).mono ?_
            rintro e a147 ⟨rfl, b148⟩
            clear k0 k1 k2 k3 m0 m1 m2 m3
            have r2_149 := And.intro (r2_136.1.below b148 (Nat.le_refl _)) (r2_136.2.below b148 (Nat.le_refl _))
            have p2_150 := p2_137.below b148
            have r4_151 := And.intro (r4_140.1.below b148 (Nat.le_refl _)) (r4_140.2.below b148 (Nat.le_refl _))
            have p4_152 := p4_141.below b148
            have r5_153 := And.intro (r5_142.1.below b148 (Nat.le_refl _)) (r5_142.2.below b148 (Nat.le_refl _))
            have p5_154 := p5_143.below b148
            have r6_155 := And.intro (r6_144.1.below b148 (Nat.le_refl _)) (r6_144.2.below b148 (Nat.le_refl _))
            have p6_156 := p6_145.below b148
            have B_157 := B_146.trans (b148.mono B_146.size)
            clear r2_136 p2_137 r4_140 p4_141 r5_142 p5_143 r6_144 p6_145 B_146
            clear r5_153
            clear p5_154
            obtain ⟨N, hN⟩ : ∃ N : Nat, 2 ^ k = N := ⟨_, rfl⟩
            have hN1 : 1 ≤ N := by rw [← hN]; exact Nat.one_le_two_pow
            have hN2 : N ≤ 256 := by rw [← hN]; exact Nat.le_trans (Nat.pow_le_pow_right (by omega) hk8) (by decide)
            have hNi : (2 : Int) ^ k = N := by rw [← hN]; simp
            have hta : ((k : Nat) : Int).toNat = k := by simp
            have hN0 : ¬ (N : Int) = 0 := by omega
            go_wp2_with fail
            go_quiet (fail)
            obtain ⟨U, hU⟩ : ∃ U : Nat, (7 * (n : Int) + 3) % (N : Int) = U := ⟨_, (Int.toNat_of_nonneg (Int.emod_nonneg _ hN0)).symm⟩
            obtain ⟨V, hV⟩ : ∃ V : Nat, (5 * (m : Int) + 1) % (N : Int) = V := ⟨_, (Int.toNat_of_nonneg (Int.emod_nonneg _ hN0)).symm⟩
            have hUb : U < N := by have := Int.emod_lt_of_pos (7 * (n : Int) + 3) (show (0 : Int) < N by omega); omega
            have hVb : V < N := by have := Int.emod_lt_of_pos (5 * (m : Int) + 1) (show (0 : Int) < N by omega); omega
            rw [hU, hV]
            have hUk : U < 2 ^ k := by rw [hN]; exact hUb
            have hVk : V < 2 ^ k := by rw [hN]; exact hVb
            have HN := Lib.hid hN
            have HNi := Lib.hid hNi
            have HU := Lib.hid (And.intro hUk hVk)
            clear hU hV hN hNi hta hN0 hUk hVk
            by_cases hlt : U < V
            · have hltI : (U : Int) < V := by omega
              have HS : Hid (ans ⟨g3, o3⟩ (bitsN U k ++ bitsN V k) = (U : Int) - V + N + N) := Lib.hid (by rw [HA3.out U V HU.out.1 HU.out.2, if_pos hlt, if_pos hlt, HNi.out]; omega)
              have hq := p2_150; obtain ⟨k0, k1, k2, k3⟩ := hq
              go_wp2_with fail
              refine (RunWith_ok k k A2 g1.length ca2 O2 o1.length co2 U V k k g1 o1 _ (rd_drewN r2_149 _) (by omega) (by omega) HD1.out (by omega) (by omega) (by omega) (by omega) HU.out.1 HU.out.2).mono ?_
              rintro e a158 ⟨he, b1590⟩
              rw [HA1.out U V HU.out.1 HU.out.2] at he
              subst he
              have b159 := (below_of_drewN _).trans b1590
              clear b1590 k0 k1 k2 k3
              have r2_160 := And.intro (r2_149.1.below b159 (Nat.le_refl _)) (r2_149.2.below b159 (Nat.le_refl _))
              have p2_161 := p2_150.below b159
              have r4_162 := And.intro (r4_151.1.below b159 (Nat.le_refl _)) (r4_151.2.below b159 (Nat.le_refl _))
              have p4_163 := p4_152.below b159
              have r6_164 := And.intro (r6_155.1.below b159 (Nat.le_refl _)) (r6_155.2.below b159 (Nat.le_refl _))
              have p6_165 := p6_156.below b159
              have B_166 := B_157.trans (b159.mono B_157.size)
              clear r2_149 p2_150 r4_151 p4_152 r6_155 p6_156 B_157
              clear r2_160
              clear p2_161
              have hq := p4_163; obtain ⟨k0, k1, k2, k3⟩ := hq
              go_wp2_with fail
              refine (RunWith_ok k k A4 g3.length ca4 O4 o3.length co4 U V k k g3 o3 a158 r4_162 (by omega) (by omega) HD3.out (by omega) (by omega) (by omega) (by omega) HU.out.1 HU.out.2).mono ?_
              rintro e a167 ⟨he, b1680⟩
              rw [HS.out] at he
              subst he
              have b168 := b1680
              clear b1680 k0 k1 k2 k3
              have r4_169 := And.intro (r4_162.1.below b168 (Nat.le_refl _)) (r4_162.2.below b168 (Nat.le_refl _))
              have p4_170 := p4_163.below b168
              have r6_171 := And.intro (r6_164.1.below b168 (Nat.le_refl _)) (r6_164.2.below b168 (Nat.le_refl _))
              have p6_172 := p6_165.below b168
              have B_173 := B_166.trans (b168.mono B_166.size)
              clear r4_162 p4_163 r6_164 p6_165 B_166
              clear r4_169
              clear p4_170
              have hNi := HNi.out
              have hta : ((k : Nat) : Int).toNat = k := by simp
              have n1 : (((U : Int) + V) != ((U : Int) + V)) = false := by simp
              have hp : (if (U : Int) - V < 0 then (U : Int) - V + N else (U : Int) - V) = (U : Int) - V + N := by rw [if_pos]; omega
              have n2 : ((((U : Int) - V + N + N) : Int) != ((U : Int) - V + N + N)) = false := by simp
              go_wp2_with fail
              refine (pMod_any ((U : Int) - V) N _ ⟨hN1, hN2⟩ (by omega)).mono ?_
              rintro e a174 ⟨rfl, rfl⟩
              rw [hp]
              clear hp
              clear r6_171
              clear p6_172
              go_wp2_with fail
              have hZ175 : RY a167 Z m := hZ.alt (Alt.of_new (S := fun _ => False) B_173) (fun _ _ _ _ h => h)
              refine (DrawCountCircuit_any Z m d _ hZ175).mono ?_
              rintro e a176 ⟨cn, hc1, hc2, rfl, bD⟩
              clear hZ175
              have B_177 := B_173.trans (bD.mono B_173.size)
              clear B_173
              clear bD
              cases h9 : inB 1 16 cn with
              | false =>
                  have HR9 : Hid (ctrF cn = none) := Lib.hid (ctrF_n h9)
                  clear h9
                  go_wp2_with fail
                  have q180 := CountCircuit_any cn a176
                  rw [HR9.out] at q180
                  refine q180.mono ?_
                  clear q180
                  rintro e a178 hT
                  obtain ⟨A9, ca9, O9, co9, rfl, r9, b9⟩ := open_cn hT
                  clear hT
                  have B_181 := B_177.trans (b9.mono B_177.size)
                  clear B_177
                  clear b9
                  have al182 : Below a178.heap.size a178 (a178.alloc (.cells #[.int .i64 0, .int .i64 0, .slice A9 0 ca9, .slice O9 0 co9] 27)) := (Below.refl _ _).alloc (Nat.le_refl _) _
                  have z183 : (a178.alloc (.cells #[.int .i64 0, .int .i64 0, .slice A9 0 ca9, .slice O9 0 co9] 27)).heap.size = a178.heap.size + 1 := by simp
                  have p9_184 : BxC (a178.alloc (.cells #[.int .i64 0, .int .i64 0, .slice A9 0 ca9, .slice O9 0 co9] 27)) a178.heap.size 0 0 A9 0 ca9 O9 0 co9 := BxC.new _ _
                  have r9_185 := And.intro (r9.1.below al182 (Nat.le_refl _)) (r9.2.below al182 (Nat.le_refl _))
                  have B_186 := B_181.trans (al182.mono B_181.size)
                  clear r9 B_181
                  go_wp2_with fail
                  generalize (a178.alloc (.cells #[.int .i64 0, .int .i64 0, .slice A9 0 ca9, .slice O9 0 co9] 27)) = a187 at *
                  clear al182
                  have q190 := spec_CountCircuit_any cn a187
                  rw [HR9.out] at q190
                  refine q190.mono ?_
                  clear q190
                  rintro e a188 hT
                  obtain ⟨A10, ca10, O10, co10, rfl, r10, b10⟩ := open_cn hT
                  clear hT
                  have r9_191 := And.intro (r9_185.1.below b10 (Nat.le_refl _)) (r9_185.2.below b10 (Nat.le_refl _))
                  have p9_192 := p9_184.below b10
                  have B_193 := B_186.trans (b10.mono B_186.size)
                  clear r9_185 p9_184 B_186
                  clear b10
                  have al194 : Below a188.heap.size a188 (a188.alloc (.cells #[.int .i64 0, .int .i64 0, .slice A10 0 ca10, .slice O10 0 co10] 27)) := (Below.refl _ _).alloc (Nat.le_refl _) _
                  have z195 : (a188.alloc (.cells #[.int .i64 0, .int .i64 0, .slice A10 0 ca10, .slice O10 0 co10] 27)).heap.size = a188.heap.size + 1 := by simp
                  have p10_196 : BxC (a188.alloc (.cells #[.int .i64 0, .int .i64 0, .slice A10 0 ca10, .slice O10 0 co10] 27)) a188.heap.size 0 0 A10 0 ca10 O10 0 co10 := BxC.new _ _
                  have r9_197 := And.intro (r9_191.1.below al194 (Nat.le_refl _)) (r9_191.2.below al194 (Nat.le_refl _))
                  have p9_198 := p9_192.below al194
                  have r10_199 := And.intro (r10.1.below al194 (Nat.le_refl _)) (r10.2.below al194 (Nat.le_refl _))
                  have B_200 := B_193.trans (al194.mono B_193.size)
                  clear r9_191 p9_192 r10 B_193
                  have hq := p9_198; obtain ⟨k0, k1, k2, k3⟩ := hq
                  have hq := p10_196; obtain ⟨m0, m1, m2, m3⟩ := hq
                  go_wp2_with fail
                  generalize (a188.alloc (.cells #[.int .i64 0, .int .i64 0, .slice A10 0 ca10, .slice O10 0 co10] 27)) = a201 at *
                  clear al194
                  refine (pSameCircuit_any 0 0 A9 A10 0 ca9 ca10 O9 O10 0 co9 co10 [] [] _ r9_197 r10_199 (by omega) (by omega)).mono ?_
                  rintro e a202 ⟨rfl, b203⟩
                  clear k0 k1 k2 k3 m0 m1 m2 m3
                  have r9_204 := And.intro (r9_197.1.below b203 (Nat.le_refl _)) (r9_197.2.below b203 (Nat.le_refl _))
                  have p9_205 := p9_198.below b203
                  have r10_206 := And.intro (r10_199.1.below b203 (Nat.le_refl _)) (r10_199.2.below b203 (Nat.le_refl _))
                  have p10_207 := p10_196.below b203
                  have B_208 := B_200.trans (b203.mono B_200.size)
                  clear r9_197 p9_198 r10_199 p10_196 B_200
                  go_wp2
                  go_ret
                  exact ⟨rfl, B_208⟩
              | true =>
                  have h99 := inB_iff.1 h9
                  obtain ⟨K, rfl⟩ : ∃ K : Nat, cn = K := ⟨cn.toNat, by omega⟩
                  have hK1 : 1 ≤ K := by omega
                  have hK16 : K ≤ 16 := by omega
                  have HR9 : Hid (ctrF (K : Int) = some ⟨K, 0, (ctrG K).g, (ctrG K).o⟩) := Lib.hid (ctrF_s h9)
                  have HC9 : GOk K 0 (ctrG K) := ⟨ctrG_ok K hK1 hK16, by have := ctrG_o hK1 hK16; omega⟩
                  have HA9 : Hid (ans (ctrG K) (bitsN (2 ^ K - 1) K ++ bitsN 0 0) = K) := Lib.hid (ctrG_all K hK1 hK16)
                  have HB9 : Hid (ans (ctrG K) (bitsN 0 K ++ bitsN 0 0) = 0) := Lib.hid (ctrG_none K hK1 hK16)
                  generalize ctrG K = G9 at *
                  obtain ⟨g9, o9⟩ := G9
                  dsimp only at HR9
                  have hl9 : g9.length ≤ 300 := (circB_bd HC9.c).2.2.1
                  have ho9 : o9.length ≤ 16 := HC9.o
                  have HD9 := Lib.hid HC9.c
                  clear HC9 h9 h99
                  go_wp2_with fail
                  have q180 := CountCircuit_any (K : Int) a176
                  rw [HR9.out] at q180
                  refine q180.mono ?_
                  clear q180
                  rintro e a178 hT
                  obtain ⟨A9, ca9, O9, co9, rfl, r9, b9⟩ := open_cs hT
                  clear hT
                  dsimp only at r9 ⊢
                  have B_181 := B_177.trans (b9.mono B_177.size)
                  clear B_177
                  clear b9
                  have al182 : Below a178.heap.size a178 (a178.alloc (.cells #[.int .i64 (K : Int), .int .i64 0, .slice A9 g9.length ca9, .slice O9 o9.length co9] 27)) := (Below.refl _ _).alloc (Nat.le_refl _) _
                  have z183 : (a178.alloc (.cells #[.int .i64 (K : Int), .int .i64 0, .slice A9 g9.length ca9, .slice O9 o9.length co9] 27)).heap.size = a178.heap.size + 1 := by simp
                  have p9_184 : BxC (a178.alloc (.cells #[.int .i64 (K : Int), .int .i64 0, .slice A9 g9.length ca9, .slice O9 o9.length co9] 27)) a178.heap.size (K : Int) 0 A9 g9.length ca9 O9 o9.length co9 := BxC.new _ _
                  have r9_185 := And.intro (r9.1.below al182 (Nat.le_refl _)) (r9.2.below al182 (Nat.le_refl _))
                  have B_186 := B_181.trans (al182.mono B_181.size)
                  clear r9 B_181
                  go_wp2_with fail
                  generalize (a178.alloc (.cells #[.int .i64 (K : Int), .int .i64 0, .slice A9 g9.length ca9, .slice O9 o9.length co9] 27)) = a187 at *
                  clear al182
                  have q190 := spec_CountCircuit_any (K : Int) a187
                  rw [HR9.out] at q190
                  refine q190.mono ?_
                  clear q190
                  rintro e a188 hT
                  obtain ⟨A10, ca10, O10, co10, rfl, r10, b10⟩ := open_cs hT
                  clear hT
                  dsimp only at r10 ⊢
                  have r9_191 := And.intro (r9_185.1.below b10 (Nat.le_refl _)) (r9_185.2.below b10 (Nat.le_refl _))
                  have p9_192 := p9_184.below b10
                  have B_193 := B_186.trans (b10.mono B_186.size)
                  clear r9_185 p9_184 B_186
                  clear b10
                  have al194 : Below a188.heap.size a188 (a188.alloc (.cells #[.int .i64 (K : Int), .int .i64 0, .slice A10 g9.length ca10, .slice O10 o9.length co10] 27)) := (Below.refl _ _).alloc (Nat.le_refl _) _
                  have z195 : (a188.alloc (.cells #[.int .i64 (K : Int), .int .i64 0, .slice A10 g9.length ca10, .slice O10 o9.length co10] 27)).heap.size = a188.heap.size + 1 := by simp
                  have p10_196 : BxC (a188.alloc (.cells #[.int .i64 (K : Int), .int .i64 0, .slice A10 g9.length ca10, .slice O10 o9.length co10] 27)) a188.heap.size (K : Int) 0 A10 g9.length ca10 O10 o9.length co10 := BxC.new _ _
                  have r9_197 := And.intro (r9_191.1.below al194 (Nat.le_refl _)) (r9_191.2.below al194 (Nat.le_refl _))
                  have p9_198 := p9_192.below al194
                  have r10_199 := And.intro (r10.1.below al194 (Nat.le_refl _)) (r10.2.below al194 (Nat.le_refl _))
                  have B_200 := B_193.trans (al194.mono B_193.size)
                  clear r9_191 p9_192 r10 B_193
                  have hq := p9_198; obtain ⟨k0, k1, k2, k3⟩ := hq
                  have hq := p10_196; obtain ⟨m0, m1, m2, m3⟩ := hq
                  go_wp2_with fail
                  generalize (a188.alloc (.cells #[.int .i64 (K : Int), .int .i64 0, .slice A10 g9.length ca10, .slice O10 o9.length co10] 27)) = a201 at *
                  clear al194
                  refine (pSameCircuit_any (K : Int) 0 A9 A10 g9.length ca9 ca10 O9 O10 o9.length co9 co10 g9 o9 _ r9_197 r10_199 (by omega) (by omega)).mono ?_
                  rintro e a202 ⟨rfl, b203⟩
                  clear k0 k1 k2 k3 m0 m1 m2 m3
                  have r9_204 := And.intro (r9_197.1.below b203 (Nat.le_refl _)) (r9_197.2.below b203 (Nat.le_refl _))
                  have p9_205 := p9_198.below b203
                  have r10_206 := And.intro (r10_199.1.below b203 (Nat.le_refl _)) (r10_199.2.below b203 (Nat.le_refl _))
                  have p10_207 := p10_196.below b203
                  have B_208 := B_200.trans (b203.mono B_200.size)
                  clear r9_197 p9_198 r10_199 p10_196 B_200
                  clear r9_204
                  clear p9_205
                  obtain ⟨Q, hQ⟩ : ∃ Q : Nat, 2 ^ K = Q := ⟨_, rfl⟩
                  have hQ1 : 1 ≤ Q := by rw [← hQ]; exact Nat.one_le_two_pow
                  have hQ2 : Q ≤ 65536 := by rw [← hQ]; exact Nat.le_trans (Nat.pow_le_pow_right (by omega) hK16) (by decide)
                  have hQi : (2 : Int) ^ K = Q := by rw [← hQ]; simp
                  have htb : ((K : Nat) : Int).toNat = K := by simp
                  obtain ⟨P, hP⟩ : ∃ P : Nat, Q - 1 = P := ⟨_, rfl⟩
                  have hPk : Hid (P < 2 ^ K) := Lib.hid (by rw [hQ]; omega)
                  rw [hQ, hP] at HA9
                  have hwP : IntKind.i64.wrap ((Q : Int) - 1) = (P : Int) := by rw [IntKind.wrap_i64] <;> omega
                  clear hP hQ
                  have hq := p10_207; obtain ⟨k0, k1, k2, k3⟩ := hq
                  go_wp2_with fail
                  refine (RunWith_ok K 0 A10 g9.length ca10 O10 o9.length co10 P 0 K 0 g9 o9 a202 r10_206 (by omega) (by omega) HD9.out (by omega) (by omega) (by omega) (by omega) hPk.out (by decide)).mono ?_
                  rintro e a209 ⟨he, b2100⟩
                  rw [HA9.out] at he
                  subst he
                  have b210 := b2100
                  clear b2100 k0 k1 k2 k3
                  have r10_211 := And.intro (r10_206.1.below b210 (Nat.le_refl _)) (r10_206.2.below b210 (Nat.le_refl _))
                  have p10_212 := p10_207.below b210
                  have B_213 := B_208.trans (b210.mono B_208.size)
                  clear r10_206 p10_207 B_208
                  clear hQi htb hwP
                  have hq := p10_212; obtain ⟨k0, k1, k2, k3⟩ := hq
                  go_wp2_with fail
                  refine (RunWith_ok K 0 A10 g9.length ca10 O10 o9.length co10 0 0 K 0 g9 o9 a209 r10_211 (by omega) (by omega) HD9.out (by omega) (by omega) (by omega) (by omega) (Nat.two_pow_pos K) (by decide)).mono ?_
                  rintro e a214 ⟨he, b2150⟩
                  rw [HB9.out] at he
                  subst he
                  have b215 := b2150
                  clear b2150 k0 k1 k2 k3
                  have r10_216 := And.intro (r10_211.1.below b215 (Nat.le_refl _)) (r10_211.2.below b215 (Nat.le_refl _))
                  have p10_217 := p10_212.below b215
                  have B_218 := B_213.trans (b215.mono B_213.size)
                  clear r10_211 p10_212 B_213
                  have n8 : ((K : Int) == K) = true := by simp
                  go_wp2
                  go_ret
                  exact ⟨rfl, B_218⟩
            · have hltI : ¬ (U : Int) < V := by omega
              have HS : Hid (ans ⟨g3, o3⟩ (bitsN U k ++ bitsN V k) = (U : Int) - V) := Lib.hid (by rw [HA3.out U V HU.out.1 HU.out.2, if_neg hlt, if_neg hlt, HNi.out]; omega)
              have hq := p2_150; obtain ⟨k0, k1, k2, k3⟩ := hq
              go_wp2_with fail
              refine (RunWith_ok k k A2 g1.length ca2 O2 o1.length co2 U V k k g1 o1 _ (rd_drewN r2_149 _) (by omega) (by omega) HD1.out (by omega) (by omega) (by omega) (by omega) HU.out.1 HU.out.2).mono ?_
              rintro e a158 ⟨he, b1590⟩
              rw [HA1.out U V HU.out.1 HU.out.2] at he
              subst he
              have b159 := (below_of_drewN _).trans b1590
              clear b1590 k0 k1 k2 k3
              have r2_160 := And.intro (r2_149.1.below b159 (Nat.le_refl _)) (r2_149.2.below b159 (Nat.le_refl _))
              have p2_161 := p2_150.below b159
              have r4_162 := And.intro (r4_151.1.below b159 (Nat.le_refl _)) (r4_151.2.below b159 (Nat.le_refl _))
              have p4_163 := p4_152.below b159
              have r6_164 := And.intro (r6_155.1.below b159 (Nat.le_refl _)) (r6_155.2.below b159 (Nat.le_refl _))
              have p6_165 := p6_156.below b159
              have B_166 := B_157.trans (b159.mono B_157.size)
              clear r2_149 p2_150 r4_151 p4_152 r6_155 p6_156 B_157
              clear r2_160
              clear p2_161
              have hq := p4_163; obtain ⟨k0, k1, k2, k3⟩ := hq
              go_wp2_with fail
              refine (RunWith_ok k k A4 g3.length ca4 O4 o3.length co4 U V k k g3 o3 a158 r4_162 (by omega) (by omega) HD3.out (by omega) (by omega) (by omega) (by omega) HU.out.1 HU.out.2).mono ?_
              rintro e a167 ⟨he, b1680⟩
              rw [HS.out] at he
              subst he
              have b168 := b1680
              clear b1680 k0 k1 k2 k3
              have r4_169 := And.intro (r4_162.1.below b168 (Nat.le_refl _)) (r4_162.2.below b168 (Nat.le_refl _))
              have p4_170 := p4_163.below b168
              have r6_171 := And.intro (r6_164.1.below b168 (Nat.le_refl _)) (r6_164.2.below b168 (Nat.le_refl _))
              have p6_172 := p6_165.below b168
              have B_173 := B_166.trans (b168.mono B_166.size)
              clear r4_162 p4_163 r6_164 p6_165 B_166
              clear r4_169
              clear p4_170
              have hNi := HNi.out
              have hta : ((k : Nat) : Int).toNat = k := by simp
              have n1 : (((U : Int) + V) != ((U : Int) + V)) = false := by simp
              have hp : (if (U : Int) - V < 0 then (U : Int) - V + N else (U : Int) - V) = (U : Int) - V := by rw [if_neg]; omega
              have n2 : ((((U : Int) - V) : Int) != ((U : Int) - V)) = false := by simp
              go_wp2_with fail
              refine (pMod_any ((U : Int) - V) N _ ⟨hN1, hN2⟩ (by omega)).mono ?_
              rintro e a174 ⟨rfl, rfl⟩
              rw [hp]
              clear hp
              clear r6_171
              clear p6_172
              go_wp2_with fail
              have hZ175 : RY a167 Z m := hZ.alt (Alt.of_new (S := fun _ => False) B_173) (fun _ _ _ _ h => h)
              refine (DrawCountCircuit_any Z m d _ hZ175).mono ?_
              rintro e a176 ⟨cn, hc1, hc2, rfl, bD⟩
              clear hZ175
              have B_177 := B_173.trans (bD.mono B_173.size)
              clear B_173
              clear bD
              cases h9 : inB 1 16 cn with
              | false =>
                  have HR9 : Hid (ctrF cn = none) := Lib.hid (ctrF_n h9)
                  clear h9
                  go_wp2_with fail
                  have q180 := CountCircuit_any cn a176
                  rw [HR9.out] at q180
                  refine q180.mono ?_
                  clear q180
                  rintro e a178 hT
                  obtain ⟨A9, ca9, O9, co9, rfl, r9, b9⟩ := open_cn hT
                  clear hT
                  have B_181 := B_177.trans (b9.mono B_177.size)
                  clear B_177
                  clear b9
                  have al182 : Below a178.heap.size a178 (a178.alloc (.cells #[.int .i64 0, .int .i64 0, .slice A9 0 ca9, .slice O9 0 co9] 27)) := (Below.refl _ _).alloc (Nat.le_refl _) _
                  have z183 : (a178.alloc (.cells #[.int .i64 0, .int .i64 0, .slice A9 0 ca9, .slice O9 0 co9] 27)).heap.size = a178.heap.size + 1 := by simp
                  have p9_184 : BxC (a178.alloc (.cells #[.int .i64 0, .int .i64 0, .slice A9 0 ca9, .slice O9 0 co9] 27)) a178.heap.size 0 0 A9 0 ca9 O9 0 co9 := BxC.new _ _
                  have r9_185 := And.intro (r9.1.below al182 (Nat.le_refl _)) (r9.2.below al182 (Nat.le_refl _))
                  have B_186 := B_181.trans (al182.mono B_181.size)
                  clear r9 B_181
                  go_wp2_with fail
                  generalize (a178.alloc (.cells #[.int .i64 0, .int .i64 0, .slice A9 0 ca9, .slice O9 0 co9] 27)) = a187 at *
                  clear al182
                  have q190 := spec_CountCircuit_any cn a187
                  rw [HR9.out] at q190
                  refine q190.mono ?_
                  clear q190
                  rintro e a188 hT
                  obtain ⟨A10, ca10, O10, co10, rfl, r10, b10⟩ := open_cn hT
                  clear hT
                  have r9_191 := And.intro (r9_185.1.below b10 (Nat.le_refl _)) (r9_185.2.below b10 (Nat.le_refl _))
                  have p9_192 := p9_184.below b10
                  have B_193 := B_186.trans (b10.mono B_186.size)
                  clear r9_185 p9_184 B_186
                  clear b10
                  have al194 : Below a188.heap.size a188 (a188.alloc (.cells #[.int .i64 0, .int .i64 0, .slice A10 0 ca10, .slice O10 0 co10] 27)) := (Below.refl _ _).alloc (Nat.le_refl _) _
                  have z195 : (a188.alloc (.cells #[.int .i64 0, .int .i64 0, .slice A10 0 ca10, .slice O10 0 co10] 27)).heap.size = a188.heap.size + 1 := by simp
                  have p10_196 : BxC (a188.alloc (.cells #[.int .i64 0, .int .i64 0, .slice A10 0 ca10, .slice O10 0 co10] 27)) a188.heap.size 0 0 A10 0 ca10 O10 0 co10 := BxC.new _ _
                  have r9_197 := And.intro (r9_191.1.below al194 (Nat.le_refl _)) (r9_191.2.below al194 (Nat.le_refl _))
                  have p9_198 := p9_192.below al194
                  have r10_199 := And.intro (r10.1.below al194 (Nat.le_refl _)) (r10.2.below al194 (Nat.le_refl _))
                  have B_200 := B_193.trans (al194.mono B_193.size)
                  clear r9_191 p9_192 r10 B_193
                  have hq := p9_198; obtain ⟨k0, k1, k2, k3⟩ := hq
                  have hq := p10_196; obtain ⟨m0, m1, m2, m3⟩ := hq
                  go_wp2_with fail
                  generalize (a188.alloc (.cells #[.int .i64 0, .int .i64 0, .slice A10 0 ca10, .slice O10 0 co10] 27)) = a201 at *
                  clear al194
                  refine (pSameCircuit_any 0 0 A9 A10 0 ca9 ca10 O9 O10 0 co9 co10 [] [] _ r9_197 r10_199 (by omega) (by omega)).mono ?_
                  rintro e a202 ⟨rfl, b203⟩
                  clear k0 k1 k2 k3 m0 m1 m2 m3
                  have r9_204 := And.intro (r9_197.1.below b203 (Nat.le_refl _)) (r9_197.2.below b203 (Nat.le_refl _))
                  have p9_205 := p9_198.below b203
                  have r10_206 := And.intro (r10_199.1.below b203 (Nat.le_refl _)) (r10_199.2.below b203 (Nat.le_refl _))
                  have p10_207 := p10_196.below b203
                  have B_208 := B_200.trans (b203.mono B_200.size)
                  clear r9_197 p9_198 r10_199 p10_196 B_200
                  go_wp2
                  go_ret
                  exact ⟨rfl, B_208⟩
              | true =>
                  have h99 := inB_iff.1 h9
                  obtain ⟨K, rfl⟩ : ∃ K : Nat, cn = K := ⟨cn.toNat, by omega⟩
                  have hK1 : 1 ≤ K := by omega
                  have hK16 : K ≤ 16 := by omega
                  have HR9 : Hid (ctrF (K : Int) = some ⟨K, 0, (ctrG K).g, (ctrG K).o⟩) := Lib.hid (ctrF_s h9)
                  have HC9 : GOk K 0 (ctrG K) := ⟨ctrG_ok K hK1 hK16, by have := ctrG_o hK1 hK16; omega⟩
                  have HA9 : Hid (ans (ctrG K) (bitsN (2 ^ K - 1) K ++ bitsN 0 0) = K) := Lib.hid (ctrG_all K hK1 hK16)
                  have HB9 : Hid (ans (ctrG K) (bitsN 0 K ++ bitsN 0 0) = 0) := Lib.hid (ctrG_none K hK1 hK16)
                  generalize ctrG K = G9 at *
                  obtain ⟨g9, o9⟩ := G9
                  dsimp only at HR9
                  have hl9 : g9.length ≤ 300 := (circB_bd HC9.c).2.2.1
                  have ho9 : o9.length ≤ 16 := HC9.o
                  have HD9 := Lib.hid HC9.c
                  clear HC9 h9 h99
                  go_wp2_with fail
                  have q180 := CountCircuit_any (K : Int) a176
                  rw [HR9.out] at q180
                  refine q180.mono ?_
                  clear q180
                  rintro e a178 hT
                  obtain ⟨A9, ca9, O9, co9, rfl, r9, b9⟩ := open_cs hT
                  clear hT
                  dsimp only at r9 ⊢
                  have B_181 := B_177.trans (b9.mono B_177.size)
                  clear B_177
                  clear b9
                  have al182 : Below a178.heap.size a178 (a178.alloc (.cells #[.int .i64 (K : Int), .int .i64 0, .slice A9 g9.length ca9, .slice O9 o9.length co9] 27)) := (Below.refl _ _).alloc (Nat.le_refl _) _
                  have z183 : (a178.alloc (.cells #[.int .i64 (K : Int), .int .i64 0, .slice A9 g9.length ca9, .slice O9 o9.length co9] 27)).heap.size = a178.heap.size + 1 := by simp
                  have p9_184 : BxC (a178.alloc (.cells #[.int .i64 (K : Int), .int .i64 0, .slice A9 g9.length ca9, .slice O9 o9.length co9] 27)) a178.heap.size (K : Int) 0 A9 g9.length ca9 O9 o9.length co9 := BxC.new _ _
                  have r9_185 := And.intro (r9.1.below al182 (Nat.le_refl _)) (r9.2.below al182 (Nat.le_refl _))
                  have B_186 := B_181.trans (al182.mono B_181.size)
                  clear r9 B_181
                  go_wp2_with fail
                  generalize (a178.alloc (.cells #[.int .i64 (K : Int), .int .i64 0, .slice A9 g9.length ca9, .slice O9 o9.length co9] 27)) = a187 at *
                  clear al182
                  have q190 := spec_CountCircuit_any (K : Int) a187
                  rw [HR9.out] at q190
                  refine q190.mono ?_
                  clear q190
                  rintro e a188 hT
                  obtain ⟨A10, ca10, O10, co10, rfl, r10, b10⟩ := open_cs hT
                  clear hT
                  dsimp only at r10 ⊢
                  have r9_191 := And.intro (r9_185.1.below b10 (Nat.le_refl _)) (r9_185.2.below b10 (Nat.le_refl _))
                  have p9_192 := p9_184.below b10
                  have B_193 := B_186.trans (b10.mono B_186.size)
                  clear r9_185 p9_184 B_186
                  clear b10
                  have al194 : Below a188.heap.size a188 (a188.alloc (.cells #[.int .i64 (K : Int), .int .i64 0, .slice A10 g9.length ca10, .slice O10 o9.length co10] 27)) := (Below.refl _ _).alloc (Nat.le_refl _) _
                  have z195 : (a188.alloc (.cells #[.int .i64 (K : Int), .int .i64 0, .slice A10 g9.length ca10, .slice O10 o9.length co10] 27)).heap.size = a188.heap.size + 1 := by simp
                  have p10_196 : BxC (a188.alloc (.cells #[.int .i64 (K : Int), .int .i64 0, .slice A10 g9.length ca10, .slice O10 o9.length co10] 27)) a188.heap.size (K : Int) 0 A10 g9.length ca10 O10 o9.length co10 := BxC.new _ _
                  have r9_197 := And.intro (r9_191.1.below al194 (Nat.le_refl _)) (r9_191.2.below al194 (Nat.le_refl _))
                  have p9_198 := p9_192.below al194
                  have r10_199 := And.intro (r10.1.below al194 (Nat.le_refl _)) (r10.2.below al194 (Nat.le_refl _))
                  have B_200 := B_193.trans (al194.mono B_193.size)
                  clear r9_191 p9_192 r10 B_193
                  have hq := p9_198; obtain ⟨k0, k1, k2, k3⟩ := hq
                  have hq := p10_196; obtain ⟨m0, m1, m2, m3⟩ := hq
                  go_wp2_with fail
                  generalize (a188.alloc (.cells #[.int .i64 (K : Int), .int .i64 0, .slice A10 g9.length ca10, .slice O10 o9.length co10] 27)) = a201 at *
                  clear al194
                  refine (pSameCircuit_any (K : Int) 0 A9 A10 g9.length ca9 ca10 O9 O10 o9.length co9 co10 g9 o9 _ r9_197 r10_199 (by omega) (by omega)).mono ?_
                  rintro e a202 ⟨rfl, b203⟩
                  clear k0 k1 k2 k3 m0 m1 m2 m3
                  have r9_204 := And.intro (r9_197.1.below b203 (Nat.le_refl _)) (r9_197.2.below b203 (Nat.le_refl _))
                  have p9_205 := p9_198.below b203
                  have r10_206 := And.intro (r10_199.1.below b203 (Nat.le_refl _)) (r10_199.2.below b203 (Nat.le_refl _))
                  have p10_207 := p10_196.below b203
                  have B_208 := B_200.trans (b203.mono B_200.size)
                  clear r9_197 p9_198 r10_199 p10_196 B_200
                  clear r9_204
                  clear p9_205
                  obtain ⟨Q, hQ⟩ : ∃ Q : Nat, 2 ^ K = Q := ⟨_, rfl⟩
                  have hQ1 : 1 ≤ Q := by rw [← hQ]; exact Nat.one_le_two_pow
                  have hQ2 : Q ≤ 65536 := by rw [← hQ]; exact Nat.le_trans (Nat.pow_le_pow_right (by omega) hK16) (by decide)
                  have hQi : (2 : Int) ^ K = Q := by rw [← hQ]; simp
                  have htb : ((K : Nat) : Int).toNat = K := by simp
                  obtain ⟨P, hP⟩ : ∃ P : Nat, Q - 1 = P := ⟨_, rfl⟩
                  have hPk : Hid (P < 2 ^ K) := Lib.hid (by rw [hQ]; omega)
                  rw [hQ, hP] at HA9
                  have hwP : IntKind.i64.wrap ((Q : Int) - 1) = (P : Int) := by rw [IntKind.wrap_i64] <;> omega
                  clear hP hQ
                  have hq := p10_207; obtain ⟨k0, k1, k2, k3⟩ := hq
                  go_wp2_with fail
                  refine (RunWith_ok K 0 A10 g9.length ca10 O10 o9.length co10 P 0 K 0 g9 o9 a202 r10_206 (by omega) (by omega) HD9.out (by omega) (by omega) (by omega) (by omega) hPk.out (by decide)).mono ?_
                  rintro e a209 ⟨he, b2100⟩
                  rw [HA9.out] at he
                  subst he
                  have b210 := b2100
                  clear b2100 k0 k1 k2 k3
                  have r10_211 := And.intro (r10_206.1.below b210 (Nat.le_refl _)) (r10_206.2.below b210 (Nat.le_refl _))
                  have p10_212 := p10_207.below b210
                  have B_213 := B_208.trans (b210.mono B_208.size)
                  clear r10_206 p10_207 B_208
                  clear hQi htb hwP
                  have hq := p10_212; obtain ⟨k0, k1, k2, k3⟩ := hq
                  go_wp2_with fail
                  refine (RunWith_ok K 0 A10 g9.length ca10 O10 o9.length co10 0 0 K 0 g9 o9 a209 r10_211 (by omega) (by omega) HD9.out (by omega) (by omega) (by omega) (by omega) (Nat.two_pow_pos K) (by decide)).mono ?_
                  rintro e a214 ⟨he, b2150⟩
                  rw [HB9.out] at he
                  subst he
                  have b215 := b2150
                  clear b2150 k0 k1 k2 k3
                  have r10_216 := And.intro (r10_211.1.below b215 (Nat.le_refl _)) (r10_211.2.below b215 (Nat.le_refl _))
                  have p10_217 := p10_212.below b215
                  have B_218 := B_213.trans (b215.mono B_213.size)
                  clear r10_211 p10_212 B_213
                  have n8 : ((K : Int) == K) = true := by simp
                  go_wp2
                  go_ret
                  exact ⟨rfl, B_218⟩
        | true =>
            have hab := inB_iff.1 h5
            have hk5 : k ≤ 5 := by omega
            have HR5 : Hid (gadF prodG 5 (k : Int) = some ⟨k, k, (prodG k).g, (prodG k).o⟩) := Lib.hid (by simp [gadF, h5])
            have HC5 : GOk k k (prodG k) := ⟨prodG_ok k hk1 hk5, prodG_o16 hk1 hk5⟩
            have HA5 : Hid (∀ u v : Nat, u < 2 ^ k → v < 2 ^ k → ans (prodG k) (bitsN u k ++ bitsN v k) = (u : Int) * v) := Lib.hid (fun u v hu hv => product_v hk1 hu hv)
            generalize prodG k = G5 at *
            obtain ⟨g5, o5⟩ := G5
            dsimp only at HR5
            have hl5 : g5.length ≤ 300 := (circB_bd HC5.c).2.2.1
            have ho5 : o5.length ≤ 16 := HC5.o
            have HD5 := Lib.hid HC5.c
            clear HC5
            clear h5 hab
            go_wp2_with fail
            have q25 := AdderCircuit_any (k : Int) a21
            rw [HR1.out] at q25
            refine q25.mono ?_
            clear q25
            rintro e a23 hT
            obtain ⟨A1, ca1, O1, co1, rfl, r1, b1⟩ := open_cs hT
            clear hT
            dsimp only at r1 ⊢
            have B_26 := B_22.trans (b1.mono B_22.size)
            clear B_22
            clear b1
            have al27 : Below a23.heap.size a23 (a23.alloc (.cells #[.int .i64 k, .int .i64 k, .slice A1 g1.length ca1, .slice O1 o1.length co1] 27)) := (Below.refl _ _).alloc (Nat.le_refl _) _
            have z28 : (a23.alloc (.cells #[.int .i64 k, .int .i64 k, .slice A1 g1.length ca1, .slice O1 o1.length co1] 27)).heap.size = a23.heap.size + 1 := by simp
            have p1_29 : BxC (a23.alloc (.cells #[.int .i64 k, .int .i64 k, .slice A1 g1.length ca1, .slice O1 o1.length co1] 27)) a23.heap.size k k A1 g1.length ca1 O1 o1.length co1 := BxC.new _ _
            have r1_30 := And.intro (r1.1.below al27 (Nat.le_refl _)) (r1.2.below al27 (Nat.le_refl _))
            have B_31 := B_26.trans (al27.mono B_26.size)
            clear r1 B_26
            go_wp2_with fail
            generalize (a23.alloc (.cells #[.int .i64 k, .int .i64 k, .slice A1 g1.length ca1, .slice O1 o1.length co1] 27)) = a32 at *
            clear al27
            have q35 := spec_AdderCircuit_any (k : Int) a32
            rw [HR1.out] at q35
            refine q35.mono ?_
            clear q35
            rintro e a33 hT
            obtain ⟨A2, ca2, O2, co2, rfl, r2, b2⟩ := open_cs hT
            clear hT
            dsimp only at r2 ⊢
            have r1_36 := And.intro (r1_30.1.below b2 (Nat.le_refl _)) (r1_30.2.below b2 (Nat.le_refl _))
            have p1_37 := p1_29.below b2
            have B_38 := B_31.trans (b2.mono B_31.size)
            clear r1_30 p1_29 B_31
            clear b2
            have al39 : Below a33.heap.size a33 (a33.alloc (.cells #[.int .i64 k, .int .i64 k, .slice A2 g1.length ca2, .slice O2 o1.length co2] 27)) := (Below.refl _ _).alloc (Nat.le_refl _) _
            have z40 : (a33.alloc (.cells #[.int .i64 k, .int .i64 k, .slice A2 g1.length ca2, .slice O2 o1.length co2] 27)).heap.size = a33.heap.size + 1 := by simp
            have p2_41 : BxC (a33.alloc (.cells #[.int .i64 k, .int .i64 k, .slice A2 g1.length ca2, .slice O2 o1.length co2] 27)) a33.heap.size k k A2 g1.length ca2 O2 o1.length co2 := BxC.new _ _
            have r1_42 := And.intro (r1_36.1.below al39 (Nat.le_refl _)) (r1_36.2.below al39 (Nat.le_refl _))
            have p1_43 := p1_37.below al39
            have r2_44 := And.intro (r2.1.below al39 (Nat.le_refl _)) (r2.2.below al39 (Nat.le_refl _))
            have B_45 := B_38.trans (al39.mono B_38.size)
            clear r1_36 p1_37 r2 B_38
            have hq := p1_43; obtain ⟨k0, k1, k2, k3⟩ := hq
            have hq := p2_41; obtain ⟨m0, m1, m2, m3⟩ := hq
            go_wp2_with fail
            generalize (a33.alloc (.cells #[.int .i64 k, .int .i64 k, .slice A2 g1.length ca2, .slice O2 o1.length co2] 27)) = a46 at *
            clear al39
            refine (pSameCircuit_any k k A1 A2 g1.length ca1 ca2 O1 O2 o1.length co1 co2 g1 o1 _ r1_42 r2_44 (by omega) (by omega)).mono ?_
            rintro e a47 ⟨rfl, b48⟩
            clear k0 k1 k2 k3 m0 m1 m2 m3
            have r1_49 := And.intro (r1_42.1.below b48 (Nat.le_refl _)) (r1_42.2.below b48 (Nat.le_refl _))
            have p1_50 := p1_43.below b48
            have r2_51 := And.intro (r2_44.1.below b48 (Nat.le_refl _)) (r2_44.2.below b48 (Nat.le_refl _))
            have p2_52 := p2_41.below b48
            have B_53 := B_45.trans (b48.mono B_45.size)
            clear r1_42 p1_43 r2_44 p2_41 B_45
            clear r1_49
            clear p1_50
            go_wp2_with fail
            have q56 := SubtractCircuit_any (k : Int) a47
            rw [HR3.out] at q56
            refine q56.mono ?_
            clear q56
            rintro e a54 hT
            obtain ⟨A3, ca3, O3, co3, rfl, r3, b3⟩ := open_cs hT
            clear hT
            dsimp only at r3 ⊢
            have r2_57 := And.intro (r2_51.1.below b3 (Nat.le_refl _)) (r2_51.2.below b3 (Nat.le_refl _))
            have p2_58 := p2_52.below b3
            have B_59 := B_53.trans (b3.mono B_53.size)
            clear r2_51 p2_52 B_53
            clear b3
            have al60 : Below a54.heap.size a54 (a54.alloc (.cells #[.int .i64 k, .int .i64 k, .slice A3 g3.length ca3, .slice O3 o3.length co3] 27)) := (Below.refl _ _).alloc (Nat.le_refl _) _
            have z61 : (a54.alloc (.cells #[.int .i64 k, .int .i64 k, .slice A3 g3.length ca3, .slice O3 o3.length co3] 27)).heap.size = a54.heap.size + 1 := by simp
            have p3_62 : BxC (a54.alloc (.cells #[.int .i64 k, .int .i64 k, .slice A3 g3.length ca3, .slice O3 o3.length co3] 27)) a54.heap.size k k A3 g3.length ca3 O3 o3.length co3 := BxC.new _ _
            have r2_63 := And.intro (r2_57.1.below al60 (Nat.le_refl _)) (r2_57.2.below al60 (Nat.le_refl _))
            have p2_64 := p2_58.below al60
            have r3_65 := And.intro (r3.1.below al60 (Nat.le_refl _)) (r3.2.below al60 (Nat.le_refl _))
            have B_66 := B_59.trans (al60.mono B_59.size)
            clear r2_57 p2_58 r3 B_59
            go_wp2_with fail
            generalize (a54.alloc (.cells #[.int .i64 k, .int .i64 k, .slice A3 g3.length ca3, .slice O3 o3.length co3] 27)) = a67 at *
            clear al60
            have q70 := spec_SubtractCircuit_any (k : Int) a67
            rw [HR3.out] at q70
            refine q70.mono ?_
            clear q70
            rintro e a68 hT
            obtain ⟨A4, ca4, O4, co4, rfl, r4, b4⟩ := open_cs hT
            clear hT
            dsimp only at r4 ⊢
            have r2_71 := And.intro (r2_63.1.below b4 (Nat.le_refl _)) (r2_63.2.below b4 (Nat.le_refl _))
            have p2_72 := p2_64.below b4
            have r3_73 := And.intro (r3_65.1.below b4 (Nat.le_refl _)) (r3_65.2.below b4 (Nat.le_refl _))
            have p3_74 := p3_62.below b4
            have B_75 := B_66.trans (b4.mono B_66.size)
            clear r2_63 p2_64 r3_65 p3_62 B_66
            clear b4
            have al76 : Below a68.heap.size a68 (a68.alloc (.cells #[.int .i64 k, .int .i64 k, .slice A4 g3.length ca4, .slice O4 o3.length co4] 27)) := (Below.refl _ _).alloc (Nat.le_refl _) _
            have z77 : (a68.alloc (.cells #[.int .i64 k, .int .i64 k, .slice A4 g3.length ca4, .slice O4 o3.length co4] 27)).heap.size = a68.heap.size + 1 := by simp
            have p4_78 : BxC (a68.alloc (.cells #[.int .i64 k, .int .i64 k, .slice A4 g3.length ca4, .slice O4 o3.length co4] 27)) a68.heap.size k k A4 g3.length ca4 O4 o3.length co4 := BxC.new _ _
            have r2_79 := And.intro (r2_71.1.below al76 (Nat.le_refl _)) (r2_71.2.below al76 (Nat.le_refl _))
            have p2_80 := p2_72.below al76
            have r3_81 := And.intro (r3_73.1.below al76 (Nat.le_refl _)) (r3_73.2.below al76 (Nat.le_refl _))
            have p3_82 := p3_74.below al76
            have r4_83 := And.intro (r4.1.below al76 (Nat.le_refl _)) (r4.2.below al76 (Nat.le_refl _))
            have B_84 := B_75.trans (al76.mono B_75.size)
            clear r2_71 p2_72 r3_73 p3_74 r4 B_75
            go_wp2_with fail
            generalize (a68.alloc (.cells #[.int .i64 k, .int .i64 k, .slice A4 g3.length ca4, .slice O4 o3.length co4] 27)) = a85 at *
            clear al76
            have q88 := ProductCircuit_any (k : Int) a85
            rw [HR5.out] at q88
            refine q88.mono ?_
            clear q88
            rintro e a86 hT
            obtain ⟨A5, ca5, O5, co5, rfl, r5, b5⟩ := open_cs hT
            clear hT
            dsimp only at r5 ⊢
            have r2_89 := And.intro (r2_79.1.below b5 (Nat.le_refl _)) (r2_79.2.below b5 (Nat.le_refl _))
            have p2_90 := p2_80.below b5
            have r3_91 := And.intro (r3_81.1.below b5 (Nat.le_refl _)) (r3_81.2.below b5 (Nat.le_refl _))
            have p3_92 := p3_82.below b5
            have r4_93 := And.intro (r4_83.1.below b5 (Nat.le_refl _)) (r4_83.2.below b5 (Nat.le_refl _))
            have p4_94 := p4_78.below b5
            have B_95 := B_84.trans (b5.mono B_84.size)
            clear r2_79 p2_80 r3_81 p3_82 r4_83 p4_78 B_84
            clear b5
            have al96 : Below a86.heap.size a86 (a86.alloc (.cells #[.int .i64 k, .int .i64 k, .slice A5 g5.length ca5, .slice O5 o5.length co5] 27)) := (Below.refl _ _).alloc (Nat.le_refl _) _
            have z97 : (a86.alloc (.cells #[.int .i64 k, .int .i64 k, .slice A5 g5.length ca5, .slice O5 o5.length co5] 27)).heap.size = a86.heap.size + 1 := by simp
            have p5_98 : BxC (a86.alloc (.cells #[.int .i64 k, .int .i64 k, .slice A5 g5.length ca5, .slice O5 o5.length co5] 27)) a86.heap.size k k A5 g5.length ca5 O5 o5.length co5 := BxC.new _ _
            have r2_99 := And.intro (r2_89.1.below al96 (Nat.le_refl _)) (r2_89.2.below al96 (Nat.le_refl _))
            have p2_100 := p2_90.below al96
            have r3_101 := And.intro (r3_91.1.below al96 (Nat.le_refl _)) (r3_91.2.below al96 (Nat.le_refl _))
            have p3_102 := p3_92.below al96
            have r4_103 := And.intro (r4_93.1.below al96 (Nat.le_refl _)) (r4_93.2.below al96 (Nat.le_refl _))
            have p4_104 := p4_94.below al96
            have r5_105 := And.intro (r5.1.below al96 (Nat.le_refl _)) (r5.2.below al96 (Nat.le_refl _))
            have B_106 := B_95.trans (al96.mono B_95.size)
            clear r2_89 p2_90 r3_91 p3_92 r4_93 p4_94 r5 B_95
            go_wp2_with fail
            generalize (a86.alloc (.cells #[.int .i64 k, .int .i64 k, .slice A5 g5.length ca5, .slice O5 o5.length co5] 27)) = a107 at *
            clear al96
            have q110 := spec_ProductCircuit_any (k : Int) a107
            rw [HR5.out] at q110
            refine q110.mono ?_
            clear q110
            rintro e a108 hT
            obtain ⟨A6, ca6, O6, co6, rfl, r6, b6⟩ := open_cs hT
            clear hT
            dsimp only at r6 ⊢
            have r2_111 := And.intro (r2_99.1.below b6 (Nat.le_refl _)) (r2_99.2.below b6 (Nat.le_refl _))
            have p2_112 := p2_100.below b6
            have r3_113 := And.intro (r3_101.1.below b6 (Nat.le_refl _)) (r3_101.2.below b6 (Nat.le_refl _))
            have p3_114 := p3_102.below b6
            have r4_115 := And.intro (r4_103.1.below b6 (Nat.le_refl _)) (r4_103.2.below b6 (Nat.le_refl _))
            have p4_116 := p4_104.below b6
            have r5_117 := And.intro (r5_105.1.below b6 (Nat.le_refl _)) (r5_105.2.below b6 (Nat.le_refl _))
            have p5_118 := p5_98.below b6
            have B_119 := B_106.trans (b6.mono B_106.size)
            clear r2_99 p2_100 r3_101 p3_102 r4_103 p4_104 r5_105 p5_98 B_106
            clear b6
            have al120 : Below a108.heap.size a108 (a108.alloc (.cells #[.int .i64 k, .int .i64 k, .slice A6 g5.length ca6, .slice O6 o5.length co6] 27)) := (Below.refl _ _).alloc (Nat.le_refl _) _
            have z121 : (a108.alloc (.cells #[.int .i64 k, .int .i64 k, .slice A6 g5.length ca6, .slice O6 o5.length co6] 27)).heap.size = a108.heap.size + 1 := by simp
            have p6_122 : BxC (a108.alloc (.cells #[.int .i64 k, .int .i64 k, .slice A6 g5.length ca6, .slice O6 o5.length co6] 27)) a108.heap.size k k A6 g5.length ca6 O6 o5.length co6 := BxC.new _ _
            have r2_123 := And.intro (r2_111.1.below al120 (Nat.le_refl _)) (r2_111.2.below al120 (Nat.le_refl _))
            have p2_124 := p2_112.below al120
            have r3_125 := And.intro (r3_113.1.below al120 (Nat.le_refl _)) (r3_113.2.below al120 (Nat.le_refl _))
            have p3_126 := p3_114.below al120
            have r4_127 := And.intro (r4_115.1.below al120 (Nat.le_refl _)) (r4_115.2.below al120 (Nat.le_refl _))
            have p4_128 := p4_116.below al120
            have r5_129 := And.intro (r5_117.1.below al120 (Nat.le_refl _)) (r5_117.2.below al120 (Nat.le_refl _))
            have p5_130 := p5_118.below al120
            have r6_131 := And.intro (r6.1.below al120 (Nat.le_refl _)) (r6.2.below al120 (Nat.le_refl _))
            have B_132 := B_119.trans (al120.mono B_119.size)
            clear r2_111 p2_112 r3_113 p3_114 r4_115 p4_116 r5_117 p5_118 r6 B_119
            have hq := p3_126; obtain ⟨k0, k1, k2, k3⟩ := hq
            have hq := p4_128; obtain ⟨m0, m1, m2, m3⟩ := hq
            go_wp2_with fail
            generalize (a108.alloc (.cells #[.int .i64 k, .int .i64 k, .slice A6 g5.length ca6, .slice O6 o5.length co6] 27)) = a133 at *
            clear al120
            refine (pSameCircuit_any k k A3 A4 g3.length ca3 ca4 O3 O4 o3.length co3 co4 g3 o3 _ r3_125 r4_127 (by omega) (by omega)).mono ?_
            rintro e a134 ⟨rfl, b135⟩
            clear k0 k1 k2 k3 m0 m1 m2 m3
            have r2_136 := And.intro (r2_123.1.below b135 (Nat.le_refl _)) (r2_123.2.below b135 (Nat.le_refl _))
            have p2_137 := p2_124.below b135
            have r3_138 := And.intro (r3_125.1.below b135 (Nat.le_refl _)) (r3_125.2.below b135 (Nat.le_refl _))
            have p3_139 := p3_126.below b135
            have r4_140 := And.intro (r4_127.1.below b135 (Nat.le_refl _)) (r4_127.2.below b135 (Nat.le_refl _))
            have p4_141 := p4_128.below b135
            have r5_142 := And.intro (r5_129.1.below b135 (Nat.le_refl _)) (r5_129.2.below b135 (Nat.le_refl _))
            have p5_143 := p5_130.below b135
            have r6_144 := And.intro (r6_131.1.below b135 (Nat.le_refl _)) (r6_131.2.below b135 (Nat.le_refl _))
            have p6_145 := p6_122.below b135
            have B_146 := B_132.trans (b135.mono B_132.size)
            clear r2_123 p2_124 r3_125 p3_126 r4_127 p4_128 r5_129 p5_130 r6_131 p6_122 B_132
            clear r3_138
            clear p3_139
            have hq := p5_143; obtain ⟨k0, k1, k2, k3⟩ := hq
            have hq := p6_145; obtain ⟨m0, m1, m2, m3⟩ := hq
            go_wp2_with fail
            refine (pSameCircuit_any k k A5 A6 g5.length ca5 ca6 O5 O6 o5.length co5 co6 g5 o5 _ r5_142 r6_144 (by omega) (by omega)).mono ?_
            rintro e a147 ⟨rfl, b148⟩
            clear k0 k1 k2 k3 m0 m1 m2 m3
            have r2_149 := And.intro (r2_136.1.below b148 (Nat.le_refl _)) (r2_136.2.below b148 (Nat.le_refl _))
            have p2_150 := p2_137.below b148
            have r4_151 := And.intro (r4_140.1.below b148 (Nat.le_refl _)) (r4_140.2.below b148 (Nat.le_refl _))
            have p4_152 := p4_141.below b148
            have r5_153 := And.intro (r5_142.1.below b148 (Nat.le_refl _)) (r5_142.2.below b148 (Nat.le_refl _))
            have p5_154 := p5_143.below b148
            have r6_155 := And.intro (r6_144.1.below b148 (Nat.le_refl _)) (r6_144.2.below b148 (Nat.le_refl _))
            have p6_156 := p6_145.below b148
            have B_157 := B_146.trans (b148.mono B_146.size)
            clear r2_136 p2_137 r4_140 p4_141 r5_142 p5_143 r6_144 p6_145 B_146
            clear r5_153
            clear p5_154
            obtain ⟨N, hN⟩ : ∃ N : Nat, 2 ^ k = N := ⟨_, rfl⟩
            have hN1 : 1 ≤ N := by rw [← hN]; exact Nat.one_le_two_pow
            have hN2 : N ≤ 256 := by rw [← hN]; exact Nat.le_trans (Nat.pow_le_pow_right (by omega) hk8) (by decide)
            have hNi : (2 : Int) ^ k = N := by rw [← hN]; simp
            have hta : ((k : Nat) : Int).toNat = k := by simp
            have hN0 : ¬ (N : Int) = 0 := by omega
            have hN5 : N ≤ 32 := by rw [← hN]; exact Nat.le_trans (Nat.pow_le_pow_right (by omega) hk5) (by decide)
            go_wp2_with fail
            go_quiet (fail)
            obtain ⟨U, hU⟩ : ∃ U : Nat, (7 * (n : Int) + 3) % (N : Int) = U := ⟨_, (Int.toNat_of_nonneg (Int.emod_nonneg _ hN0)).symm⟩
            obtain ⟨V, hV⟩ : ∃ V : Nat, (5 * (m : Int) + 1) % (N : Int) = V := ⟨_, (Int.toNat_of_nonneg (Int.emod_nonneg _ hN0)).symm⟩
            have hUb : U < N := by have := Int.emod_lt_of_pos (7 * (n : Int) + 3) (show (0 : Int) < N by omega); omega
            have hVb : V < N := by have := Int.emod_lt_of_pos (5 * (m : Int) + 1) (show (0 : Int) < N by omega); omega
            rw [hU, hV]
            have hUk : U < 2 ^ k := by rw [hN]; exact hUb
            have hVk : V < 2 ^ k := by rw [hN]; exact hVb
            have HN := Lib.hid hN
            have HNi := Lib.hid hNi
            have HU := Lib.hid (And.intro hUk hVk)
            clear hU hV hN hNi hta hN0 hUk hVk
            by_cases hlt : U < V
            · have hltI : (U : Int) < V := by omega
              have HS : Hid (ans ⟨g3, o3⟩ (bitsN U k ++ bitsN V k) = (U : Int) - V + N + N) := Lib.hid (by rw [HA3.out U V HU.out.1 HU.out.2, if_pos hlt, if_pos hlt, HNi.out]; omega)
              have hq := p2_150; obtain ⟨k0, k1, k2, k3⟩ := hq
              go_wp2_with fail
              refine (RunWith_ok k k A2 g1.length ca2 O2 o1.length co2 U V k k g1 o1 _ (rd_drewN r2_149 _) (by omega) (by omega) HD1.out (by omega) (by omega) (by omega) (by omega) HU.out.1 HU.out.2).mono ?_
              rintro e a158 ⟨he, b1590⟩
              rw [HA1.out U V HU.out.1 HU.out.2] at he
              subst he
              have b159 := (below_of_drewN _).trans b1590
              clear b1590 k0 k1 k2 k3
              have r2_160 := And.intro (r2_149.1.below b159 (Nat.le_refl _)) (r2_149.2.below b159 (Nat.le_refl _))
              have p2_161 := p2_150.below b159
              have r4_162 := And.intro (r4_151.1.below b159 (Nat.le_refl _)) (r4_151.2.below b159 (Nat.le_refl _))
              have p4_163 := p4_152.below b159
              have r6_164 := And.intro (r6_155.1.below b159 (Nat.le_refl _)) (r6_155.2.below b159 (Nat.le_refl _))
              have p6_165 := p6_156.below b159
              have B_166 := B_157.trans (b159.mono B_157.size)
              clear r2_149 p2_150 r4_151 p4_152 r6_155 p6_156 B_157
              clear r2_160
              clear p2_161
              have hq := p4_163; obtain ⟨k0, k1, k2, k3⟩ := hq
              go_wp2_with fail
              refine (RunWith_ok k k A4 g3.length ca4 O4 o3.length co4 U V k k g3 o3 a158 r4_162 (by omega) (by omega) HD3.out (by omega) (by omega) (by omega) (by omega) HU.out.1 HU.out.2).mono ?_
              rintro e a167 ⟨he, b1680⟩
              rw [HS.out] at he
              subst he
              have b168 := b1680
              clear b1680 k0 k1 k2 k3
              have r4_169 := And.intro (r4_162.1.below b168 (Nat.le_refl _)) (r4_162.2.below b168 (Nat.le_refl _))
              have p4_170 := p4_163.below b168
              have r6_171 := And.intro (r6_164.1.below b168 (Nat.le_refl _)) (r6_164.2.below b168 (Nat.le_refl _))
              have p6_172 := p6_165.below b168
              have B_173 := B_166.trans (b168.mono B_166.size)
              clear r4_162 p4_163 r6_164 p6_165 B_166
              clear r4_169
              clear p4_170
              have hNi := HNi.out
              have hta : ((k : Nat) : Int).toNat = k := by simp
              have n1 : (((U : Int) + V) != ((U : Int) + V)) = false := by simp
              have hp : (if (U : Int) - V < 0 then (U : Int) - V + N else (U : Int) - V) = (U : Int) - V + N := by rw [if_pos]; omega
              have n2 : ((((U : Int) - V + N + N) : Int) != ((U : Int) - V + N + N)) = false := by simp
              go_wp2_with fail
              refine (pMod_any ((U : Int) - V) N _ ⟨hN1, hN2⟩ (by omega)).mono ?_
              rintro e a174 ⟨rfl, rfl⟩
              rw [hp]
              clear hp
              obtain ⟨M, hM⟩ : ∃ M : Nat, U * V = M := ⟨_, rfl⟩
              have hMi : (U : Int) * V = M := by rw [← hM]; simp
              have hMb : M ≤ 1024 := by rw [← hM]; exact Nat.le_trans (Nat.mul_le_mul (show U ≤ 32 by omega) (show V ≤ 32 by omega)) (by decide)
              have HP : Hid (ans ⟨g5, o5⟩ (bitsN U k ++ bitsN V k) = (M : Int)) := Lib.hid (by rw [HA5.out U V HU.out.1 HU.out.2, hMi])
              clear hM
              have hq := p6_172; obtain ⟨k0, k1, k2, k3⟩ := hq
              go_wp2_with fail
              refine (RunWith_ok k k A6 g5.length ca6 O6 o5.length co6 U V k k g5 o5 a167 r6_171 (by omega) (by omega) HD5.out (by omega) (by omega) (by omega) (by omega) HU.out.1 HU.out.2).mono ?_
              rintro e a175 ⟨he, b1760⟩
              rw [HP.out] at he
              subst he
              have b176 := b1760
              clear b1760 k0 k1 k2 k3
              have r6_177 := And.intro (r6_171.1.below b176 (Nat.le_refl _)) (r6_171.2.below b176 (Nat.le_refl _))
              have p6_178 := p6_172.below b176
              have B_179 := B_173.trans (b176.mono B_173.size)
              clear r6_171 p6_172 B_173
              have n3 : ((M : Int) != M) = false := by simp
              clear r6_177
              clear p6_178
              go_wp2_with fail
              have hZ180 : RY a175 Z m := hZ.alt (Alt.of_new (S := fun _ => False) B_179) (fun _ _ _ _ h => h)
              refine (DrawCountCircuit_any Z m d _ hZ180).mono ?_
              rintro e a181 ⟨cn, hc1, hc2, rfl, bD⟩
              clear hZ180
              have B_182 := B_179.trans (bD.mono B_179.size)
              clear B_179
              clear bD
              cases h9 : inB 1 16 cn with
              | false =>
                  have HR9 : Hid (ctrF cn = none) := Lib.hid (ctrF_n h9)
                  clear h9
                  go_wp2_with fail
                  have q185 := CountCircuit_any cn a181
                  rw [HR9.out] at q185
                  refine q185.mono ?_
                  clear q185
                  rintro e a183 hT
                  obtain ⟨A9, ca9, O9, co9, rfl, r9, b9⟩ := open_cn hT
                  clear hT
                  have B_186 := B_182.trans (b9.mono B_182.size)
                  clear B_182
                  clear b9
                  have al187 : Below a183.heap.size a183 (a183.alloc (.cells #[.int .i64 0, .int .i64 0, .slice A9 0 ca9, .slice O9 0 co9] 27)) := (Below.refl _ _).alloc (Nat.le_refl _) _
                  have z188 : (a183.alloc (.cells #[.int .i64 0, .int .i64 0, .slice A9 0 ca9, .slice O9 0 co9] 27)).heap.size = a183.heap.size + 1 := by simp
                  have p9_189 : BxC (a183.alloc (.cells #[.int .i64 0, .int .i64 0, .slice A9 0 ca9, .slice O9 0 co9] 27)) a183.heap.size 0 0 A9 0 ca9 O9 0 co9 := BxC.new _ _
                  have r9_190 := And.intro (r9.1.below al187 (Nat.le_refl _)) (r9.2.below al187 (Nat.le_refl _))
                  have B_191 := B_186.trans (al187.mono B_186.size)
                  clear r9 B_186
                  go_wp2_with fail
                  generalize (a183.alloc (.cells #[.int .i64 0, .int .i64 0, .slice A9 0 ca9, .slice O9 0 co9] 27)) = a192 at *
                  clear al187
                  have q195 := spec_CountCircuit_any cn a192
                  rw [HR9.out] at q195
                  refine q195.mono ?_
                  clear q195
                  rintro e a193 hT
                  obtain ⟨A10, ca10, O10, co10, rfl, r10, b10⟩ := open_cn hT
                  clear hT
                  have r9_196 := And.intro (r9_190.1.below b10 (Nat.le_refl _)) (r9_190.2.below b10 (Nat.le_refl _))
                  have p9_197 := p9_189.below b10
                  have B_198 := B_191.trans (b10.mono B_191.size)
                  clear r9_190 p9_189 B_191
                  clear b10
                  have al199 : Below a193.heap.size a193 (a193.alloc (.cells #[.int .i64 0, .int .i64 0, .slice A10 0 ca10, .slice O10 0 co10] 27)) := (Below.refl _ _).alloc (Nat.le_refl _) _
                  have z200 : (a193.alloc (.cells #[.int .i64 0, .int .i64 0, .slice A10 0 ca10, .slice O10 0 co10] 27)).heap.size = a193.heap.size + 1 := by simp
                  have p10_201 : BxC (a193.alloc (.cells #[.int .i64 0, .int .i64 0, .slice A10 0 ca10, .slice O10 0 co10] 27)) a193.heap.size 0 0 A10 0 ca10 O10 0 co10 := BxC.new _ _
                  have r9_202 := And.intro (r9_196.1.below al199 (Nat.le_refl _)) (r9_196.2.below al199 (Nat.le_refl _))
                  have p9_203 := p9_197.below al199
                  have r10_204 := And.intro (r10.1.below al199 (Nat.le_refl _)) (r10.2.below al199 (Nat.le_refl _))
                  have B_205 := B_198.trans (al199.mono B_198.size)
                  clear r9_196 p9_197 r10 B_198
                  have hq := p9_203; obtain ⟨k0, k1, k2, k3⟩ := hq
                  have hq := p10_201; obtain ⟨m0, m1, m2, m3⟩ := hq
                  go_wp2_with fail
                  generalize (a193.alloc (.cells #[.int .i64 0, .int .i64 0, .slice A10 0 ca10, .slice O10 0 co10] 27)) = a206 at *
                  clear al199
                  refine (pSameCircuit_any 0 0 A9 A10 0 ca9 ca10 O9 O10 0 co9 co10 [] [] _ r9_202 r10_204 (by omega) (by omega)).mono ?_
                  rintro e a207 ⟨rfl, b208⟩
                  clear k0 k1 k2 k3 m0 m1 m2 m3
                  have r9_209 := And.intro (r9_202.1.below b208 (Nat.le_refl _)) (r9_202.2.below b208 (Nat.le_refl _))
                  have p9_210 := p9_203.below b208
                  have r10_211 := And.intro (r10_204.1.below b208 (Nat.le_refl _)) (r10_204.2.below b208 (Nat.le_refl _))
                  have p10_212 := p10_201.below b208
                  have B_213 := B_205.trans (b208.mono B_205.size)
                  clear r9_202 p9_203 r10_204 p10_201 B_205
                  go_wp2
                  go_ret
                  exact ⟨rfl, B_213⟩
              | true =>
                  have h99 := inB_iff.1 h9
                  obtain ⟨K, rfl⟩ : ∃ K : Nat, cn = K := ⟨cn.toNat, by omega⟩
                  have hK1 : 1 ≤ K := by omega
                  have hK16 : K ≤ 16 := by omega
                  have HR9 : Hid (ctrF (K : Int) = some ⟨K, 0, (ctrG K).g, (ctrG K).o⟩) := Lib.hid (ctrF_s h9)
                  have HC9 : GOk K 0 (ctrG K) := ⟨ctrG_ok K hK1 hK16, by have := ctrG_o hK1 hK16; omega⟩
                  have HA9 : Hid (ans (ctrG K) (bitsN (2 ^ K - 1) K ++ bitsN 0 0) = K) := Lib.hid (ctrG_all K hK1 hK16)
                  have HB9 : Hid (ans (ctrG K) (bitsN 0 K ++ bitsN 0 0) = 0) := Lib.hid (ctrG_none K hK1 hK16)
                  generalize ctrG K = G9 at *
                  obtain ⟨g9, o9⟩ := G9
                  dsimp only at HR9
                  have hl9 : g9.length ≤ 300 := (circB_bd HC9.c).2.2.1
                  have ho9 : o9.length ≤ 16 := HC9.o
                  have HD9 := Lib.hid HC9.c
                  clear HC9 h9 h99
                  go_wp2_with fail
                  have q185 := CountCircuit_any (K : Int) a181
                  rw [HR9.out] at q185
                  refine q185.mono ?_
                  clear q185
                  rintro e a183 hT
                  obtain ⟨A9, ca9, O9, co9, rfl, r9, b9⟩ := open_cs hT
                  clear hT
                  dsimp only at r9 ⊢
                  have B_186 := B_182.trans (b9.mono B_182.size)
                  clear B_182
                  clear b9
                  have al187 : Below a183.heap.size a183 (a183.alloc (.cells #[.int .i64 (K : Int), .int .i64 0, .slice A9 g9.length ca9, .slice O9 o9.length co9] 27)) := (Below.refl _ _).alloc (Nat.le_refl _) _
                  have z188 : (a183.alloc (.cells #[.int .i64 (K : Int), .int .i64 0, .slice A9 g9.length ca9, .slice O9 o9.length co9] 27)).heap.size = a183.heap.size + 1 := by simp
                  have p9_189 : BxC (a183.alloc (.cells #[.int .i64 (K : Int), .int .i64 0, .slice A9 g9.length ca9, .slice O9 o9.length co9] 27)) a183.heap.size (K : Int) 0 A9 g9.length ca9 O9 o9.length co9 := BxC.new _ _
                  have r9_190 := And.intro (r9.1.below al187 (Nat.le_refl _)) (r9.2.below al187 (Nat.le_refl _))
                  have B_191 := B_186.trans (al187.mono B_186.size)
                  clear r9 B_186
                  go_wp2_with fail
                  generalize (a183.alloc (.cells #[.int .i64 (K : Int), .int .i64 0, .slice A9 g9.length ca9, .slice O9 o9.length co9] 27)) = a192 at *
                  clear al187
                  have q195 := spec_CountCircuit_any (K : Int) a192
                  rw [HR9.out] at q195
                  refine q195.mono ?_
                  clear q195
                  rintro e a193 hT
                  obtain ⟨A10, ca10, O10, co10, rfl, r10, b10⟩ := open_cs hT
                  clear hT
                  dsimp only at r10 ⊢
                  have r9_196 := And.intro (r9_190.1.below b10 (Nat.le_refl _)) (r9_190.2.below b10 (Nat.le_refl _))
                  have p9_197 := p9_189.below b10
                  have B_198 := B_191.trans (b10.mono B_191.size)
                  clear r9_190 p9_189 B_191
                  clear b10
                  have al199 : Below a193.heap.size a193 (a193.alloc (.cells #[.int .i64 (K : Int), .int .i64 0, .slice A10 g9.length ca10, .slice O10 o9.length co10] 27)) := (Below.refl _ _).alloc (Nat.le_refl _) _
                  have z200 : (a193.alloc (.cells #[.int .i64 (K : Int), .int .i64 0, .slice A10 g9.length ca10, .slice O10 o9.length co10] 27)).heap.size = a193.heap.size + 1 := by simp
                  have p10_201 : BxC (a193.alloc (.cells #[.int .i64 (K : Int), .int .i64 0, .slice A10 g9.length ca10, .slice O10 o9.length co10] 27)) a193.heap.size (K : Int) 0 A10 g9.length ca10 O10 o9.length co10 := BxC.new _ _
                  have r9_202 := And.intro (r9_196.1.below al199 (Nat.le_refl _)) (r9_196.2.below al199 (Nat.le_refl _))
                  have p9_203 := p9_197.below al199
                  have r10_204 := And.intro (r10.1.below al199 (Nat.le_refl _)) (r10.2.below al199 (Nat.le_refl _))
                  have B_205 := B_198.trans (al199.mono B_198.size)
                  clear r9_196 p9_197 r10 B_198
                  have hq := p9_203; obtain ⟨k0, k1, k2, k3⟩ := hq
                  have hq := p10_201; obtain ⟨m0, m1, m2, m3⟩ := hq
                  go_wp2_with fail
                  generalize (a193.alloc (.cells #[.int .i64 (K : Int), .int .i64 0, .slice A10 g9.length ca10, .slice O10 o9.length co10] 27)) = a206 at *
                  clear al199
                  refine (pSameCircuit_any (K : Int) 0 A9 A10 g9.length ca9 ca10 O9 O10 o9.length co9 co10 g9 o9 _ r9_202 r10_204 (by omega) (by omega)).mono ?_
                  rintro e a207 ⟨rfl, b208⟩
                  clear k0 k1 k2 k3 m0 m1 m2 m3
                  have r9_209 := And.intro (r9_202.1.below b208 (Nat.le_refl _)) (r9_202.2.below b208 (Nat.le_refl _))
                  have p9_210 := p9_203.below b208
                  have r10_211 := And.intro (r10_204.1.below b208 (Nat.le_refl _)) (r10_204.2.below b208 (Nat.le_refl _))
                  have p10_212 := p10_201.below b208
                  have B_213 := B_205.trans (b208.mono B_205.size)
                  clear r9_202 p9_203 r10_204 p10_201 B_205
                  clear r9_209
                  clear p9_210
                  obtain ⟨Q, hQ⟩ : ∃ Q : Nat, 2 ^ K = Q := ⟨_, rfl⟩
                  have hQ1 : 1 ≤ Q := by rw [← hQ]; exact Nat.one_le_two_pow
                  have hQ2 : Q ≤ 65536 := by rw [← hQ]; exact Nat.le_trans (Nat.pow_le_pow_right (by omega) hK16) (by decide)
                  have hQi : (2 : Int) ^ K = Q := by rw [← hQ]; simp
                  have htb : ((K : Nat) : Int).toNat = K := by simp
                  obtain ⟨P, hP⟩ : ∃ P : Nat, Q - 1 = P := ⟨_, rfl⟩
                  have hPk : Hid (P < 2 ^ K) := Lib.hid (by rw [hQ]; omega)
                  rw [hQ, hP] at HA9
                  have hwP : IntKind.i64.wrap ((Q : Int) - 1) = (P : Int) := by rw [IntKind.wrap_i64] <;> omega
                  clear hP hQ
                  have hq := p10_212; obtain ⟨k0, k1, k2, k3⟩ := hq
                  go_wp2_with fail
                  refine (RunWith_ok K 0 A10 g9.length ca10 O10 o9.length co10 P 0 K 0 g9 o9 a207 r10_211 (by omega) (by omega) HD9.out (by omega) (by omega) (by omega) (by omega) hPk.out (by decide)).mono ?_
                  rintro e a214 ⟨he, b2150⟩
                  rw [HA9.out] at he
                  subst he
                  have b215 := b2150
                  clear b2150 k0 k1 k2 k3
                  have r10_216 := And.intro (r10_211.1.below b215 (Nat.le_refl _)) (r10_211.2.below b215 (Nat.le_refl _))
                  have p10_217 := p10_212.below b215
                  have B_218 := B_213.trans (b215.mono B_213.size)
                  clear r10_211 p10_212 B_213
                  clear hQi htb hwP
                  have hq := p10_217; obtain ⟨k0, k1, k2, k3⟩ := hq
                  go_wp2_with fail
                  refine (RunWith_ok K 0 A10 g9.length ca10 O10 o9.length co10 0 0 K 0 g9 o9 a214 r10_216 (by omega) (by omega) HD9.out (by omega) (by omega) (by omega) (by omega) (Nat.two_pow_pos K) (by decide)).mono ?_
                  rintro e a219 ⟨he, b2200⟩
                  rw [HB9.out] at he
                  subst he
                  have b220 := b2200
                  clear b2200 k0 k1 k2 k3
                  have r10_221 := And.intro (r10_216.1.below b220 (Nat.le_refl _)) (r10_216.2.below b220 (Nat.le_refl _))
                  have p10_222 := p10_217.below b220
                  have B_223 := B_218.trans (b220.mono B_218.size)
                  clear r10_216 p10_217 B_218
                  have n8 : ((K : Int) == K) = true := by simp
                  go_wp2
                  go_ret
                  exact ⟨rfl, B_223⟩
            · have hltI : ¬ (U : Int) < V := by omega
              have HS : Hid (ans ⟨g3, o3⟩ (bitsN U k ++ bitsN V k) = (U : Int) - V) := Lib.hid (by rw [HA3.out U V HU.out.1 HU.out.2, if_neg hlt, if_neg hlt, HNi.out]; omega)
              have hq := p2_150; obtain ⟨k0, k1, k2, k3⟩ := hq
              go_wp2_with fail
              refine (RunWith_ok k k A2 g1.length ca2 O2 o1.length co2 U V k k g1 o1 _ (rd_drewN r2_149 _) (by omega) (by omega) HD1.out (by omega) (by omega) (by omega) (by omega) HU.out.1 HU.out.2).mono ?_
              rintro e a158 ⟨he, b1590⟩
              rw [HA1.out U V HU.out.1 HU.out.2] at he
              subst he
              have b159 := (below_of_drewN _).trans b1590
              clear b1590 k0 k1 k2 k3
              have r2_160 := And.intro (r2_149.1.below b159 (Nat.le_refl _)) (r2_149.2.below b159 (Nat.le_refl _))
              have p2_161 := p2_150.below b159
              have r4_162 := And.intro (r4_151.1.below b159 (Nat.le_refl _)) (r4_151.2.below b159 (Nat.le_refl _))
              have p4_163 := p4_152.below b159
              have r6_164 := And.intro (r6_155.1.below b159 (Nat.le_refl _)) (r6_155.2.below b159 (Nat.le_refl _))
              have p6_165 := p6_156.below b159
              have B_166 := B_157.trans (b159.mono B_157.size)
              clear r2_149 p2_150 r4_151 p4_152 r6_155 p6_156 B_157
              clear r2_160
              clear p2_161
              have hq := p4_163; obtain ⟨k0, k1, k2, k3⟩ := hq
              go_wp2_with fail
              refine (RunWith_ok k k A4 g3.length ca4 O4 o3.length co4 U V k k g3 o3 a158 r4_162 (by omega) (by omega) HD3.out (by omega) (by omega) (by omega) (by omega) HU.out.1 HU.out.2).mono ?_
              rintro e a167 ⟨he, b1680⟩
              rw [HS.out] at he
              subst he
              have b168 := b1680
              clear b1680 k0 k1 k2 k3
              have r4_169 := And.intro (r4_162.1.below b168 (Nat.le_refl _)) (r4_162.2.below b168 (Nat.le_refl _))
              have p4_170 := p4_163.below b168
              have r6_171 := And.intro (r6_164.1.below b168 (Nat.le_refl _)) (r6_164.2.below b168 (Nat.le_refl _))
              have p6_172 := p6_165.below b168
              have B_173 := B_166.trans (b168.mono B_166.size)
              clear r4_162 p4_163 r6_164 p6_165 B_166
              clear r4_169
              clear p4_170
              have hNi := HNi.out
              have hta : ((k : Nat) : Int).toNat = k := by simp
              have n1 : (((U : Int) + V) != ((U : Int) + V)) = false := by simp
              have hp : (if (U : Int) - V < 0 then (U : Int) - V + N else (U : Int) - V) = (U : Int) - V := by rw [if_neg]; omega
              have n2 : ((((U : Int) - V) : Int) != ((U : Int) - V)) = false := by simp
              go_wp2_with fail
              refine (pMod_any ((U : Int) - V) N _ ⟨hN1, hN2⟩ (by omega)).mono ?_
              rintro e a174 ⟨rfl, rfl⟩
              rw [hp]
              clear hp
              obtain ⟨M, hM⟩ : ∃ M : Nat, U * V = M := ⟨_, rfl⟩
              have hMi : (U : Int) * V = M := by rw [← hM]; simp
              have hMb : M ≤ 1024 := by rw [← hM]; exact Nat.le_trans (Nat.mul_le_mul (show U ≤ 32 by omega) (show V ≤ 32 by omega)) (by decide)
              have HP : Hid (ans ⟨g5, o5⟩ (bitsN U k ++ bitsN V k) = (M : Int)) := Lib.hid (by rw [HA5.out U V HU.out.1 HU.out.2, hMi])
              clear hM
              have hq := p6_172; obtain ⟨k0, k1, k2, k3⟩ := hq
              go_wp2_with fail
              refine (RunWith_ok k k A6 g5.length ca6 O6 o5.length co6 U V k k g5 o5 a167 r6_171 (by omega) (by omega) HD5.out (by omega) (by omega) (by omega) (by omega) HU.out.1 HU.out.2).mono ?_
              rintro e a175 ⟨he, b1760⟩
              rw [HP.out] at he
              subst he
              have b176 := b1760
              clear b1760 k0 k1 k2 k3
              have r6_177 := And.intro (r6_171.1.below b176 (Nat.le_refl _)) (r6_171.2.below b176 (Nat.le_refl _))
              have p6_178 := p6_172.below b176
              have B_179 := B_173.trans (b176.mono B_173.size)
              clear r6_171 p6_172 B_173
              have n3 : ((M : Int) != M) = false := by simp
              clear r6_177
              clear p6_178
              go_wp2_with fail
              have hZ180 : RY a175 Z m := hZ.alt (Alt.of_new (S := fun _ => False) B_179) (fun _ _ _ _ h => h)
              refine (DrawCountCircuit_any Z m d _ hZ180).mono ?_
              rintro e a181 ⟨cn, hc1, hc2, rfl, bD⟩
              clear hZ180
              have B_182 := B_179.trans (bD.mono B_179.size)
              clear B_179
              clear bD
              cases h9 : inB 1 16 cn with
              | false =>
                  have HR9 : Hid (ctrF cn = none) := Lib.hid (ctrF_n h9)
                  clear h9
                  go_wp2_with fail
                  have q185 := CountCircuit_any cn a181
                  rw [HR9.out] at q185
                  refine q185.mono ?_
                  clear q185
                  rintro e a183 hT
                  obtain ⟨A9, ca9, O9, co9, rfl, r9, b9⟩ := open_cn hT
                  clear hT
                  have B_186 := B_182.trans (b9.mono B_182.size)
                  clear B_182
                  clear b9
                  have al187 : Below a183.heap.size a183 (a183.alloc (.cells #[.int .i64 0, .int .i64 0, .slice A9 0 ca9, .slice O9 0 co9] 27)) := (Below.refl _ _).alloc (Nat.le_refl _) _
                  have z188 : (a183.alloc (.cells #[.int .i64 0, .int .i64 0, .slice A9 0 ca9, .slice O9 0 co9] 27)).heap.size = a183.heap.size + 1 := by simp
                  have p9_189 : BxC (a183.alloc (.cells #[.int .i64 0, .int .i64 0, .slice A9 0 ca9, .slice O9 0 co9] 27)) a183.heap.size 0 0 A9 0 ca9 O9 0 co9 := BxC.new _ _
                  have r9_190 := And.intro (r9.1.below al187 (Nat.le_refl _)) (r9.2.below al187 (Nat.le_refl _))
                  have B_191 := B_186.trans (al187.mono B_186.size)
                  clear r9 B_186
                  go_wp2_with fail
                  generalize (a183.alloc (.cells #[.int .i64 0, .int .i64 0, .slice A9 0 ca9, .slice O9 0 co9] 27)) = a192 at *
                  clear al187
                  have q195 := spec_CountCircuit_any cn a192
                  rw [HR9.out] at q195
                  refine q195.mono ?_
                  clear q195
                  rintro e a193 hT
                  obtain ⟨A10, ca10, O10, co10, rfl, r10, b10⟩ := open_cn hT
                  clear hT
                  have r9_196 := And.intro (r9_190.1.below b10 (Nat.le_refl _)) (r9_190.2.below b10 (Nat.le_refl _))
                  have p9_197 := p9_189.below b10
                  have B_198 := B_191.trans (b10.mono B_191.size)
                  clear r9_190 p9_189 B_191
                  clear b10
                  have al199 : Below a193.heap.size a193 (a193.alloc (.cells #[.int .i64 0, .int .i64 0, .slice A10 0 ca10, .slice O10 0 co10] 27)) := (Below.refl _ _).alloc (Nat.le_refl _) _
                  have z200 : (a193.alloc (.cells #[.int .i64 0, .int .i64 0, .slice A10 0 ca10, .slice O10 0 co10] 27)).heap.size = a193.heap.size + 1 := by simp
                  have p10_201 : BxC (a193.alloc (.cells #[.int .i64 0, .int .i64 0, .slice A10 0 ca10, .slice O10 0 co10] 27)) a193.heap.size 0 0 A10 0 ca10 O10 0 co10 := BxC.new _ _
                  have r9_202 := And.intro (r9_196.1.below al199 (Nat.le_refl _)) (r9_196.2.below al199 (Nat.le_refl _))
                  have p9_203 := p9_197.below al199
                  have r10_204 := And.intro (r10.1.below al199 (Nat.le_refl _)) (r10.2.below al199 (Nat.le_refl _))
                  have B_205 := B_198.trans (al199.mono B_198.size)
                  clear r9_196 p9_197 r10 B_198
                  have hq := p9_203; obtain ⟨k0, k1, k2, k3⟩ := hq
                  have hq := p10_201; obtain ⟨m0, m1, m2, m3⟩ := hq
                  go_wp2_with fail
                  generalize (a193.alloc (.cells #[.int .i64 0, .int .i64 0, .slice A10 0 ca10, .slice O10 0 co10] 27)) = a206 at *
                  clear al199
                  refine (pSameCircuit_any 0 0 A9 A10 0 ca9 ca10 O9 O10 0 co9 co10 [] [] _ r9_202 r10_204 (by omega) (by omega)).mono ?_
                  rintro e a207 ⟨rfl, b208⟩
                  clear k0 k1 k2 k3 m0 m1 m2 m3
                  have r9_209 := And.intro (r9_202.1.below b208 (Nat.le_refl _)) (r9_202.2.below b208 (Nat.le_refl _))
                  have p9_210 := p9_203.below b208
                  have r10_211 := And.intro (r10_204.1.below b208 (Nat.le_refl _)) (r10_204.2.below b208 (Nat.le_refl _))
                  have p10_212 := p10_201.below b208
                  have B_213 := B_205.trans (b208.mono B_205.size)
                  clear r9_202 p9_203 r10_204 p10_201 B_205
                  go_wp2
                  go_ret
                  exact ⟨rfl, B_213⟩
              | true =>
                  have h99 := inB_iff.1 h9
                  obtain ⟨K, rfl⟩ : ∃ K : Nat, cn = K := ⟨cn.toNat, by omega⟩
                  have hK1 : 1 ≤ K := by omega
                  have hK16 : K ≤ 16 := by omega
                  have HR9 : Hid (ctrF (K : Int) = some ⟨K, 0, (ctrG K).g, (ctrG K).o⟩) := Lib.hid (ctrF_s h9)
                  have HC9 : GOk K 0 (ctrG K) := ⟨ctrG_ok K hK1 hK16, by have := ctrG_o hK1 hK16; omega⟩
                  have HA9 : Hid (ans (ctrG K) (bitsN (2 ^ K - 1) K ++ bitsN 0 0) = K) := Lib.hid (ctrG_all K hK1 hK16)
                  have HB9 : Hid (ans (ctrG K) (bitsN 0 K ++ bitsN 0 0) = 0) := Lib.hid (ctrG_none K hK1 hK16)
                  generalize ctrG K = G9 at *
                  obtain ⟨g9, o9⟩ := G9
                  dsimp only at HR9
                  have hl9 : g9.length ≤ 300 := (circB_bd HC9.c).2.2.1
                  have ho9 : o9.length ≤ 16 := HC9.o
                  have HD9 := Lib.hid HC9.c
                  clear HC9 h9 h99
                  go_wp2_with fail
                  have q185 := CountCircuit_any (K : Int) a181
                  rw [HR9.out] at q185
                  refine q185.mono ?_
                  clear q185
                  rintro e a183 hT
                  obtain ⟨A9, ca9, O9, co9, rfl, r9, b9⟩ := open_cs hT
                  clear hT
                  dsimp only at r9 ⊢
                  have B_186 := B_182.trans (b9.mono B_182.size)
                  clear B_182
                  clear b9
                  have al187 : Below a183.heap.size a183 (a183.alloc (.cells #[.int .i64 (K : Int), .int .i64 0, .slice A9 g9.length ca9, .slice O9 o9.length co9] 27)) := (Below.refl _ _).alloc (Nat.le_refl _) _
                  have z188 : (a183.alloc (.cells #[.int .i64 (K : Int), .int .i64 0, .slice A9 g9.length ca9, .slice O9 o9.length co9] 27)).heap.size = a183.heap.size + 1 := by simp
                  have p9_189 : BxC (a183.alloc (.cells #[.int .i64 (K : Int), .int .i64 0, .slice A9 g9.length ca9, .slice O9 o9.length co9] 27)) a183.heap.size (K : Int) 0 A9 g9.length ca9 O9 o9.length co9 := BxC.new _ _
                  have r9_190 := And.intro (r9.1.below al187 (Nat.le_refl _)) (r9.2.below al187 (Nat.le_refl _))
                  have B_191 := B_186.trans (al187.mono B_186.size)
                  clear r9 B_186
                  go_wp2_with fail
                  generalize (a183.alloc (.cells #[.int .i64 (K : Int), .int .i64 0, .slice A9 g9.length ca9, .slice O9 o9.length co9] 27)) = a192 at *
                  clear al187
                  have q195 := spec_CountCircuit_any (K : Int) a192
                  rw [HR9.out] at q195
                  refine q195.mono ?_
                  clear q195
                  rintro e a193 hT
                  obtain ⟨A10, ca10, O10, co10, rfl, r10, b10⟩ := open_cs hT
                  clear hT
                  dsimp only at r10 ⊢
                  have r9_196 := And.intro (r9_190.1.below b10 (Nat.le_refl _)) (r9_190.2.below b10 (Nat.le_refl _))
                  have p9_197 := p9_189.below b10
                  have B_198 := B_191.trans (b10.mono B_191.size)
                  clear r9_190 p9_189 B_191
                  clear b10
                  have al199 : Below a193.heap.size a193 (a193.alloc (.cells #[.int .i64 (K : Int), .int .i64 0, .slice A10 g9.length ca10, .slice O10 o9.length co10] 27)) := (Below.refl _ _).alloc (Nat.le_refl _) _
                  have z200 : (a193.alloc (.cells #[.int .i64 (K : Int), .int .i64 0, .slice A10 g9.length ca10, .slice O10 o9.length co10] 27)).heap.size = a193.heap.size + 1 := by simp
                  have p10_201 : BxC (a193.alloc (.cells #[.int .i64 (K : Int), .int .i64 0, .slice A10 g9.length ca10, .slice O10 o9.length co10] 27)) a193.heap.size (K : Int) 0 A10 g9.length ca10 O10 o9.length co10 := BxC.new _ _
                  have r9_202 := And.intro (r9_196.1.below al199 (Nat.le_refl _)) (r9_196.2.below al199 (Nat.le_refl _))
                  have p9_203 := p9_197.below al199
                  have r10_204 := And.intro (r10.1.below al199 (Nat.le_refl _)) (r10.2.below al199 (Nat.le_refl _))
                  have B_205 := B_198.trans (al199.mono B_198.size)
                  clear r9_196 p9_197 r10 B_198
                  have hq := p9_203; obtain ⟨k0, k1, k2, k3⟩ := hq
                  have hq := p10_201; obtain ⟨m0, m1, m2, m3⟩ := hq
                  go_wp2_with fail
                  generalize (a193.alloc (.cells #[.int .i64 (K : Int), .int .i64 0, .slice A10 g9.length ca10, .slice O10 o9.length co10] 27)) = a206 at *
                  clear al199
                  refine (pSameCircuit_any (K : Int) 0 A9 A10 g9.length ca9 ca10 O9 O10 o9.length co9 co10 g9 o9 _ r9_202 r10_204 (by omega) (by omega)).mono ?_
                  rintro e a207 ⟨rfl, b208⟩
                  clear k0 k1 k2 k3 m0 m1 m2 m3
                  have r9_209 := And.intro (r9_202.1.below b208 (Nat.le_refl _)) (r9_202.2.below b208 (Nat.le_refl _))
                  have p9_210 := p9_203.below b208
                  have r10_211 := And.intro (r10_204.1.below b208 (Nat.le_refl _)) (r10_204.2.below b208 (Nat.le_refl _))
                  have p10_212 := p10_201.below b208
                  have B_213 := B_205.trans (b208.mono B_205.size)
                  clear r9_202 p9_203 r10_204 p10_201 B_205
                  clear r9_209
                  clear p9_210
                  obtain ⟨Q, hQ⟩ : ∃ Q : Nat, 2 ^ K = Q := ⟨_, rfl⟩
                  have hQ1 : 1 ≤ Q := by rw [← hQ]; exact Nat.one_le_two_pow
                  have hQ2 : Q ≤ 65536 := by rw [← hQ]; exact Nat.le_trans (Nat.pow_le_pow_right (by omega) hK16) (by decide)
                  have hQi : (2 : Int) ^ K = Q := by rw [← hQ]; simp
                  have htb : ((K : Nat) : Int).toNat = K := by simp
                  obtain ⟨P, hP⟩ : ∃ P : Nat, Q - 1 = P := ⟨_, rfl⟩
                  have hPk : Hid (P < 2 ^ K) := Lib.hid (by rw [hQ]; omega)
                  rw [hQ, hP] at HA9
                  have hwP : IntKind.i64.wrap ((Q : Int) - 1) = (P : Int) := by rw [IntKind.wrap_i64] <;> omega
                  clear hP hQ
                  have hq := p10_212; obtain ⟨k0, k1, k2, k3⟩ := hq
                  go_wp2_with fail
                  refine (RunWith_ok K 0 A10 g9.length ca10 O10 o9.length co10 P 0 K 0 g9 o9 a207 r10_211 (by omega) (by omega) HD9.out (by omega) (by omega) (by omega) (by omega) hPk.out (by decide)).mono ?_
                  rintro e a214 ⟨he, b2150⟩
                  rw [HA9.out] at he
                  subst he
                  have b215 := b2150
                  clear b2150 k0 k1 k2 k3
                  have r10_216 := And.intro (r10_211.1.below b215 (Nat.le_refl _)) (r10_211.2.below b215 (Nat.le_refl _))
                  have p10_217 := p10_212.below b215
                  have B_218 := B_213.trans (b215.mono B_213.size)
                  clear r10_211 p10_212 B_213
                  clear hQi htb hwP
                  have hq := p10_217; obtain ⟨k0, k1, k2, k3⟩ := hq
                  go_wp2_with fail
                  refine (RunWith_ok K 0 A10 g9.length ca10 O10 o9.length co10 0 0 K 0 g9 o9 a214 r10_216 (by omega) (by omega) HD9.out (by omega) (by omega) (by omega) (by omega) (Nat.two_pow_pos K) (by decide)).mono ?_
                  rintro e a219 ⟨he, b2200⟩
                  rw [HB9.out] at he
                  subst he
                  have b220 := b2200
                  clear b2200 k0 k1 k2 k3
                  have r10_221 := And.intro (r10_216.1.below b220 (Nat.le_refl _)) (r10_216.2.below b220 (Nat.le_refl _))
                  have p10_222 := p10_217.below b220
                  have B_223 := B_218.trans (b220.mono B_218.size)
                  clear r10_216 p10_217 B_218
                  have n8 : ((K : Int) == K) = true := by simp
                  go_wp2
                  go_ret
                  exact ⟨rfl, B_223⟩
end Go.Proofs.Ytimmjppkaadggaa.lawFnGadgets
