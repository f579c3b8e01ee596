/- The walk of the law FnDepends: whatever its arguments read as, it returns true and leaves what was there. No condition. -/
import Derived.Test.YtjjphaiomaiilaaQDr4
import Derived.Test.YtjjphaiomaiilaaQDpl
import Derived.Test.YtjjphaiomaiilaaQQi
import Derived.Test.YtjjphaiomaiilaaQRowY
namespace Go.Proofs.Ytjjphaiomaiilaa.lawFnDepends
open Go.RowKit
set_option linter.unusedVariables false
set_option linter.unusedSimpArgs false

theorem sameB_refl (xs : List Int) : sameB xs xs = true := sameB_all rfl fun _ _ => rfl
theorem dlen {x y : Int} {gs : List G3} {os : List Int} {k : Int} : ((depF x y gs os k).getD []).length ≤ 2097152 := by have := depF_len x y gs os k; omega

set_option maxRecDepth 100000 in
set_option maxHeartbeats 4000000 in
theorem walk (Y : Option Addr) (n c : Nat) (Z : Option Addr) (m d : Nat) (w : World) (hY0 : RY0 w Y n) (hn : n ≤ 140737488355328) (hZ0 : RY0 w Z m) (hm : m ≤ 140737488355328) :
    Calls Try.prog 3 #[.slice Y n c, .slice Z m d] w fun e w' => e = .returned (.bool true) ∧ Below w.heap.size w w' := by
  have hsum : IntKind.i64.wrap ((n : Int) + m) = ((n + m : Nat) : Int) := by rw [IntKind.wrap_i64] <;> omega
  by_cases hs : 1048576 < n + m
  · have hs1 : (1048576 : Int) < ((n + m : Nat) : Int) := by omega
    have hs2 : (1048576 : Int) < (n : Int) + m := by omega
    go_enter Try.func3, Try.ntmps3
    go_wp2
    go_ret
    exact ⟨rfl, Below.refl _ _⟩
  have hs1 : ¬ (1048576 : Int) < ((n + m : Nat) : Int) := by omega
  have hs2 : ¬ (1048576 : Int) < (n : Int) + m := by omega
  have hY : RY w Y n := hY0.ry (by omega)
  have hZ : RY w Z m := hZ0.ry (by omega)
  go_enter Try.func3, Try.ntmps3
  go_wp2_with fail
  refine (DrawDependsOn_any Y n c w hY).mono ?_
  rintro e a1 ⟨⟨x, y, gs, os⟩, A, ca, O, co, k, rfl, o1, hng, hno, b1⟩
  dsimp only at o1 hng hno ⊢
  have hz1 := b1.size
  have al1 : Below a1.heap.size a1 (a1.alloc (.cells #[.int .i64 x, .int .i64 y, .slice A gs.length ca, .slice O os.length co] 26)) := (Below.refl _ _).alloc (Nat.le_refl _) _
  have p1 : BxC (a1.alloc (.cells #[.int .i64 x, .int .i64 y, .slice A gs.length ca, .slice O os.length co] 26)) a1.heap.size x y A gs.length ca O os.length co := BxC.new _ _
  have q1 := o1.below al1 (.inl (Nat.le_refl _))
  have B1 := b1.trans (al1.mono b1.size)
  have hz1' : (a1.alloc (.cells #[.int .i64 x, .int .i64 y, .slice A gs.length ca, .slice O os.length co] 26)).heap.size = a1.heap.size + 1 := by simp
  have g1 : gs.length ≤ 2097152 := by omega
  have g2 : os.length ≤ 2097152 := by omega
  clear o1 al1 b1
  have hq := p1; obtain ⟨m0, m1, m2, m3⟩ := hq
  go_wp2_with fail
  refine (DependsOn_any x y A gs.length ca O os.length co k gs os _ ⟨q1.1.reads, q1.2.1.reads⟩ g1 g2).mono ?_
  rintro e a2 ⟨Ad, cd, rfl, fd, b2⟩
  have hz2 := b2.size
  rw [hz1'] at hz2
  have p2 := p1.below b2
  have q2 := q1.below b2 (.inl (Nat.le_refl _))
  have B2 := B1.trans (b2.mono B1.size)
  clear p1 q1 b2 B1 m0 m1 m2 m3
  have hq := p2; obtain ⟨m0, m1, m2, m3⟩ := hq
  go_wp2_with fail
  refine (spec_DependsOn_any x y A gs.length ca O os.length co k gs os _ ⟨q2.1.reads, q2.2.1.reads⟩ g1 g2).mono ?_
  rintro e a3 ⟨Aw, cw, rfl, fw, b3⟩
  have hz3 := b3.size
  have p3 := p2.below b3
  have q3 := q2.below b3 (.inl (Nat.le_refl _))
  have fd3 := fd.below b3 (.inl (Nat.le_refl _))
  have B3 := B2.trans (b3.mono B2.size)
  clear p2 q2 b3 B2 fd m0 m1 m2 m3
  have hZ3 : RY a3 Z m := hZ.alt (Alt.of_new (S := fun _ => False) B3) (fun _ _ _ _ h => h)
  go_wp2_with fail
  refine (DrawOnesOf_any Z m d _ hZ3).mono ?_
  rintro e a4 ⟨⟨x2, y2, gs2, os2⟩, A2, ca2, O2, co2, k2, rfl, o4, hng2, hno2, b4⟩
  dsimp only at o4 hng2 hno2 ⊢
  have hz4 := b4.size
  have b4' := b4.trans ((Below.refl a4.heap.size a4).alloc (Nat.le_refl _) (.cells #[.int .i64 x2, .int .i64 y2, .slice A2 gs2.length ca2, .slice O2 os2.length co2] 26) |>.mono b4.size)
  have p4 := p3.below b4'
  have q4 := q3.below b4' (.inl (Nat.le_refl _))
  have fd4 := fd3.below b4' (.inl (Nat.le_refl _))
  have fw4 := fw.below b4' (.inl (Nat.le_refl _))
  have r4 : BxC (a4.alloc (.cells #[.int .i64 x2, .int .i64 y2, .slice A2 gs2.length ca2, .slice O2 os2.length co2] 26)) a4.heap.size x2 y2 A2 gs2.length ca2 O2 os2.length co2 := BxC.new _ _
  have s4 := o4.below ((Below.refl a4.heap.size a4).alloc (Nat.le_refl _) (.cells #[.int .i64 x2, .int .i64 y2, .slice A2 gs2.length ca2, .slice O2 os2.length co2] 26)) (.inl (Nat.le_refl _))
  have B4 := B3.trans (b4'.mono B3.size)
  have g3 : gs2.length ≤ 2097152 := by omega
  have g4 : os2.length ≤ 2097152 := by omega
  have hz4' : (a4.alloc (.cells #[.int .i64 x2, .int .i64 y2, .slice A2 gs2.length ca2, .slice O2 os2.length co2] 26)).heap.size = a4.heap.size + 1 := by simp
  clear p3 q3 fd3 fw B3 b4' b4 o4 hZ3
  have hq := r4; obtain ⟨n0, n1, n2, n3⟩ := hq
  go_wp2_with fail
  refine (OnesOf_any x2 y2 A2 gs2.length ca2 O2 os2.length co2 k2 gs2 os2 _ ⟨s4.1.reads, s4.2.1.reads⟩ g3 g4).mono ?_
  rintro e a5 ⟨rfl, b5⟩
  have hz5 := b5.size
  rw [hz4'] at hz5
  have p5 := p4.below b5
  have q5 := q4.below b5 (.inl (Nat.le_refl _))
  have fd5 := fd4.below b5 (.inl (Nat.le_refl _))
  have fw5 := fw4.below b5 (.inl (Nat.le_refl _))
  have r5 := r4.below b5
  have s5 := s4.below b5 (.inl (Nat.le_refl _))
  have B5 := B4.trans (b5.mono B4.size)
  clear p4 q4 fd4 fw4 r4 s4 B4 b5 n0 n1 n2 n3
  have hq := r5; obtain ⟨n0, n1, n2, n3⟩ := hq
  go_wp2_with fail
  refine (spec_OnesOf_any x2 y2 A2 gs2.length ca2 O2 os2.length co2 k2 gs2 os2 _ ⟨s5.1.reads, s5.2.1.reads⟩ g3 g4).mono ?_
  rintro e a6 ⟨rfl, b6⟩
  have hz6 := b6.size
  have p6 := p5.below b6
  have q6 := q5.below b6 (.inl (Nat.le_refl _))
  have fd6 := fd5.below b6 (.inl (Nat.le_refl _))
  have fw6 := fw5.below b6 (.inl (Nat.le_refl _))
  have r6 := r5.below b6
  have B6 := B5.trans (b6.mono B5.size)
  clear p5 q5 fd5 fw5 r5 s5 B5 b6 n0 n1 n2 n3
  have hdl := dlen (x := x) (y := y) (gs := gs) (os := os) (k := k)
  go_wp2_with fail
  refine (qInts_any Ad Aw _ cd _ cw ((depF x y gs os k).getD []) ((depF x y gs os k).getD []) _ fd6.reads fw6.reads hdl hdl).mono ?_
  rintro e a7 ⟨rfl, j, rfl⟩
  rw [sameB_refl]
  have p7 : BxC (a6.drewN j) a1.heap.size x y A gs.length ca O os.length co := p6
  have r7 : BxC (a6.drewN j) a4.heap.size x2 y2 A2 gs2.length ca2 O2 os2.length co2 := r6
  have q7 : OwnC (a6.drewN j) w.heap.size a1.heap.size A gs.length ca O os.length co gs os := q6.below (below_of_drewN j) (.inl (Nat.le_refl _))
  have B7 := below_drewN B6 j
  clear p6 r6 q6 fd6 fw6 B6 hdl
  have hq := p7; obtain ⟨m0, m1, m2, m3⟩ := hq
  have hq := r7; obtain ⟨n0, n1, n2, n3⟩ := hq
  cases hE : (onesF x2 y2 gs2 os2 k2) with
  | none =>
    cases hD : (depF x y gs os k) with
    | none =>
      go_wp2
      go_ret
      exact ⟨rfl, B7⟩
    | some l =>
      obtain ⟨K1, N1, e1, hN1, hiff⟩ := deps_ones hD
      obtain ⟨_, _, hx1, hy1, hxy1⟩ := ones_bd e1
      obtain ⟨X1, hX1⟩ : ∃ X1 : Nat, x + y = X1 := ⟨(x + y).toNat, by omega⟩
      have hXt1 : (x + y).toNat = X1 := by omega
      have hX10' : X1 ≤ 10 := by omega
      have hxw1 : IntKind.i64.wrap (x + y) = (X1 : Int) := by rw [IntKind.wrap_i64] <;> omega
      have hX1b : X1 < 64 := by omega
      have h3 : (l.length = 0 ∧ K1 = 0) ∨ (l.length = 0 ∧ K1 ≠ 0 ∧ K1 = N1) ∨ (l.length ≠ 0 ∧ K1 ≠ 0 ∧ K1 ≠ N1) := by
        clear hN1
        rw [← List.length_eq_zero_iff] at hiff; omega
      rw [hXt1] at hN1
      have c1 := OnesOf_any x y A gs.length ca O os.length co k gs os (a6.drewN j) ⟨q7.1.reads, q7.2.1.reads⟩ g1 g2
      rw [e1] at c1
      have hsh1 := (pow_wrap hN1 hX10').2
      have E1 := Lib.hid e1
      clear hN1 hiff hXt1 hD e1 hX10'
      go_wp2_with fail
      refine c1.mono ?_
      clear c1
      rintro e a8 ⟨rfl, b8⟩
      have p8 := p7.below b8
      have q8 := q7.below b8 (.inl (Nat.le_refl _))
      have B8 := B7.trans (b8.mono B7.size)
      clear p7 q7 b8 B7 m0 m1 m2 m3 n0 n1 n2 n3
      have hq := p8; obtain ⟨m0, m1, m2, m3⟩ := hq
      have c2 := spec_OnesOf_any x y A gs.length ca O os.length co k gs os a8 ⟨q8.1.reads, q8.2.1.reads⟩ g1 g2
      rw [E1.out] at c2
      go_wp2_with fail
      refine c2.mono ?_
      clear c2
      rintro e a9 ⟨rfl, b9⟩
      have B9 := B8.trans (b9.mono B8.size)
      clear p8 q8 b9 B8 m0 m1 m2 m3
      rcases h3 with ⟨hl, rfl⟩ | ⟨hl, hk0, rfl⟩ | ⟨hl, hk0, hkN⟩
      · have t1 : ((l.length : Int) == 0) = true := by simp [hl]
        rw [show l = [] from List.length_eq_zero_iff.1 hl]
        go_wp2
        go_ret
        exact ⟨rfl, B9⟩
      · have t2 : ((K1 : Int) == 0) = false := by simp [hk0]
        rw [show l = [] from List.length_eq_zero_iff.1 hl]
        go_wp2
        go_ret
        exact ⟨by simp, B9⟩
      · have t2 : ((K1 : Int) == 0) = false := by simp [hk0]
        have t3 : ((K1 : Int) == (N1 : Int)) = false := beq_eq_false_iff_ne.2 (fun e => hkN (Int.ofNat_inj.1 e))
        have t1 : ((l.length : Int) == 0) = false := by simp [hl]
        go_wp2
        go_ret
        exact ⟨by simp [hl, hk0, hkN], B9⟩
  | some z =>
    obtain ⟨hz0, hzN, hx2, hy2, hxy2⟩ := ones_bd hE
    obtain ⟨X2, hX2⟩ : ∃ X2 : Nat, x2 + y2 = X2 := ⟨(x2 + y2).toNat, by omega⟩
    have hXt2 : (x2 + y2).toNat = X2 := by omega
    have hX10 : X2 ≤ 10 := by omega
    have hz0' : ¬ z < 0 := by omega
    have hxw2 : IntKind.i64.wrap (x2 + y2) = (X2 : Int) := by rw [IntKind.wrap_i64] <;> omega
    have hX2b : X2 < 64 := by omega
    rw [hXt2] at hzN
    obtain ⟨N2, hN2⟩ : ∃ N2, N2 = 2 ^ X2 := ⟨_, rfl⟩
    rw [← hN2] at hzN
    have hzN' : ¬ (N2 : Int) < z := Int.not_lt.2 hzN
    have hsh2 := (pow_wrap hN2 hX10).2
    clear hE hN2 hXt2 hz0 hzN hX10
    cases hD : (depF x y gs os k) with
    | none =>
      go_wp2
      go_ret
      exact ⟨rfl, B7⟩
    | some l =>
      obtain ⟨K1, N1, e1, hN1, hiff⟩ := deps_ones hD
      obtain ⟨_, _, hx1, hy1, hxy1⟩ := ones_bd e1
      obtain ⟨X1, hX1⟩ : ∃ X1 : Nat, x + y = X1 := ⟨(x + y).toNat, by omega⟩
      have hXt1 : (x + y).toNat = X1 := by omega
      have hX10' : X1 ≤ 10 := by omega
      have hxw1 : IntKind.i64.wrap (x + y) = (X1 : Int) := by rw [IntKind.wrap_i64] <;> omega
      have hX1b : X1 < 64 := by omega
      have h3 : (l.length = 0 ∧ K1 = 0) ∨ (l.length = 0 ∧ K1 ≠ 0 ∧ K1 = N1) ∨ (l.length ≠ 0 ∧ K1 ≠ 0 ∧ K1 ≠ N1) := by
        clear hN1
        rw [← List.length_eq_zero_iff] at hiff; omega
      rw [hXt1] at hN1
      have c1 := OnesOf_any x y A gs.length ca O os.length co k gs os (a6.drewN j) ⟨q7.1.reads, q7.2.1.reads⟩ g1 g2
      rw [e1] at c1
      have hsh1 := (pow_wrap hN1 hX10').2
      have E1 := Lib.hid e1
      clear hN1 hiff hXt1 hD e1 hX10'
      go_wp2_with fail
      refine c1.mono ?_
      clear c1
      rintro e a8 ⟨rfl, b8⟩
      have p8 := p7.below b8
      have q8 := q7.below b8 (.inl (Nat.le_refl _))
      have B8 := B7.trans (b8.mono B7.size)
      clear p7 q7 b8 B7 m0 m1 m2 m3 n0 n1 n2 n3
      have hq := p8; obtain ⟨m0, m1, m2, m3⟩ := hq
      have c2 := spec_OnesOf_any x y A gs.length ca O os.length co k gs os a8 ⟨q8.1.reads, q8.2.1.reads⟩ g1 g2
      rw [E1.out] at c2
      go_wp2_with fail
      refine c2.mono ?_
      clear c2
      rintro e a9 ⟨rfl, b9⟩
      have B9 := B8.trans (b9.mono B8.size)
      clear p8 q8 b9 B8 m0 m1 m2 m3
      rcases h3 with ⟨hl, rfl⟩ | ⟨hl, hk0, rfl⟩ | ⟨hl, hk0, hkN⟩
      · have t1 : ((l.length : Int) == 0) = true := by simp [hl]
        rw [show l = [] from List.length_eq_zero_iff.1 hl]
        go_wp2
        go_ret
        exact ⟨rfl, B9⟩
      · have t2 : ((K1 : Int) == 0) = false := by simp [hk0]
        rw [show l = [] from List.length_eq_zero_iff.1 hl]
        go_wp2
        go_ret
        exact ⟨by simp, B9⟩
      · have t2 : ((K1 : Int) == 0) = false := by simp [hk0]
        have t3 : ((K1 : Int) == (N1 : Int)) = false := beq_eq_false_iff_ne.2 (fun e => hkN (Int.ofNat_inj.1 e))
        have t1 : ((l.length : Int) == 0) = false := by simp [hl]
        go_wp2
        go_ret
        exact ⟨by simp [hl, hk0, hkN], B9⟩

end Go.Proofs.Ytjjphaiomaiilaa.lawFnDepends
