/- Contracts of the degrees of arithmetic circuits. -/
import Derived.Test.YtadgmbkpbgcdjaaRepeat
import Derived.Test.YtadgmbkpbgcdjaaCount
namespace Go.Proofs.Ytadgmbkpbgcdjaa
open Go.RowKit
set_option linter.unusedVariables false
set_option linter.unusedSimpArgs false

theorem l1Most_any (a b : Int) (w : World) : Calls Try.prog 100 #[.int .i64 a, .int .i64 b] w fun e w' => e = .returned (.int .i64 (max a b)) ∧ w = w' := by
  by_cases h : b < a
  · have hm : Hid (max a b = a) := Lib.hid (by omega)
    go_enter Try.func100, Try.ntmps100
    go_wp2
    go_ret
    exact ⟨by rw [hm.out]; rfl, rfl⟩
  · have hm : Hid (max a b = b) := Lib.hid (by omega)
    go_enter Try.func100, Try.ntmps100
    go_wp2
    go_ret
    exact ⟨by rw [hm.out]; rfl, rfl⟩

theorem l1Least_any (a b : Int) (w : World) : Calls Try.prog 101 #[.int .i64 a, .int .i64 b] w fun e w' => e = .returned (.int .i64 (min a b)) ∧ w = w' := by
  by_cases h : a < b
  · have hm : Hid (min a b = a) := Lib.hid (by omega)
    go_enter Try.func101, Try.ntmps101
    go_wp2
    go_ret
    exact ⟨by rw [hm.out]; rfl, rfl⟩
  · have hm : Hid (min a b = b) := Lib.hid (by omega)
    go_enter Try.func101, Try.ntmps101
    go_wp2
    go_ret
    exact ⟨by rw [hm.out]; rfl, rfl⟩

set_option maxRecDepth 100000 in
set_option maxHeartbeats 4000000 in
theorem arDegrees_any (p x y : Int) (Ag : Option Addr) (ng cg : Nat) (Ao : Option Addr) (no co : Nat) (X : Nat) (gs : List G3) (w : World) (hg : RG w Ag ng gs) (hx : 0 ≤ x ∧ x ≤ 8) (hy : 0 ≤ y ∧ y ≤ 8) (hX : x + y = X) (hgat : agatesB p X gs ng = true) (hng : ng ≤ 100) :
    Calls Try.prog 76 #[.agg #[.int .i64 p, .int .i64 x, .int .i64 y, .slice Ag ng cg, .slice Ao no co]] w (RetI w (degs 2000000 gs X ng)) := by
  have hB : Below w.heap.size w (w.alloc (.cells #[.int .i64 p, .int .i64 x, .int .i64 y, .slice Ag ng cg, .slice Ao no co] 29)) := (Below.refl _ _).alloc (Nat.le_refl _) _
  have hvb : ∀ k, allB 0 2000000 (degs 2000000 gs X k) = true := fun k => degs_bd (by omega) gs X k
  have hvl : ∀ k, (degs 2000000 gs X k).length = X + k := fun k => degs_len _ gs X k
  have HV := Lib.hid hvb; have HL := Lib.hid hvl; clear hvb hvl
  have hX16 : X ≤ 16 := by omega
  have hbx := Below.refl (w.heap.size + 1) (w.alloc (.cells #[.int .i64 p, .int .i64 x, .int .i64 y, .slice Ag ng cg, .slice Ao no co] 29))
  go_enter Try.func76, Try.ntmps76
  go_wp2_with fail
  go_loopw [3, 4] (fun v i wr => ∃ (k : Nat) (A' : Option Addr) (c' : Nat), k ≤ X ∧ i = .int .i64 k ∧ v = .slice A' k c' ∧ Own wr (w.heap.size + 1) wr.heap.size (.slice A' k c') k (List.replicate k 1) ∧ Below (w.heap.size + 1) (w.alloc (.cells #[.int .i64 p, .int .i64 x, .int .i64 y, .slice Ag ng cg, .slice Ao no co] 29)) wr) (fun _ i _ => X - (intOf i).toNat)
  case atStart => exact ⟨0, _, _, Nat.zero_le _, rfl, rfl, Own.none_ _ _ _, hbx⟩
  case round =>
    clear hbx
    obtain ⟨k, A', c', hk, rfl, rfl, hown, hb⟩ := hrel
    have hz := hb.size
    simp only [World.size_alloc] at hz
    obtain ⟨k0, k1, k2, k3, k4⟩ := boxA_at hb
    go_wp2_with fail
    refine (arInputs_any p x y Ag ng cg Ao no co _ hx hy).mono ?_
    rintro e w0 ⟨rfl, hb0⟩
    rw [hX]
    have hb' := hb.trans (hb0.mono hz)
    have hz0 := hb0.size
    have hown0 := (hown.below hb0 (.inl (Nat.le_refl _))).now
    clear k0 k1 k2 k3 k4 hb hb0 hown
    obtain ⟨k0, k1, k2, k3, k4⟩ := boxA_at hb'
    by_cases hlt : k < X
    · have hsn : Hid (List.replicate (k + 1) (1 : Int) = List.replicate k 1 ++ [1]) := Lib.hid List.replicate_succ'
      have hownA := hown0.alloc (.cells #[.int .i64 1] 3)
      have hbA := hb'.alloc (by omega) (.cells #[.int .i64 1] 3)
      go_wp2_with (at_builtin; refine wpList_app _ rfl _ _ rfl rfl hownA rfl (RI_one _ _ _ _ (by simp)) (by omega) (by first | omega | (simp; done) | (simp; omega)) ?_; intro A5 c5 w5 hown5 hg5 hat5)
      have hb5 := below_app hbA hownA hg5 (by simp; omega) (Nat.le_refl _)
      rw [← hsn.out] at hown5
      clear hownA hbA hg5 hat5 hown0 hb'
      go_wp2
      go_roundw
      case rel => exact ⟨k + 1, _, _, by omega, by go_num, rfl, hown5, hb5⟩
      case measure => simp [intOf]; omega
    · obtain rfl : X = k := Nat.le_antisymm (Nat.le_of_not_lt hlt) hk
      have hst := And.intro (show Own w0 w.heap.size w0.heap.size (.slice A' (X + 0) c') (X + 0) (degs 2000000 gs X 0) from hown0.lo_ (by omega)) (hB.trans (hb'.mono (by omega)))
      clear hown0
      go_wp2_with fail
      go_loopw [3, 20] (fun v i wr => ∃ (k : Nat) (A' : Option Addr) (c' : Nat), k ≤ ng ∧ i = .int .i64 k ∧ v = .slice A' (X + k : Nat) c' ∧ Own wr w.heap.size wr.heap.size (.slice A' (X + k) c') (X + k) (degs 2000000 gs X k) ∧ Below w.heap.size w wr) (fun _ i _ => ng - (intOf i).toNat)
      case atStart => exact ⟨0, _, _, Nat.zero_le _, rfl, rfl, hst.1, hst.2⟩
      case round =>
        clear hst
        obtain ⟨k, A', c', hk, rfl, rfl, hown, hb⟩ := hrel
        by_cases hlt : k < ng
        · obtain ⟨b, o, rfl, hbB, c1, c2, c3⟩ := (hg.below hb (Nat.le_refl _)).at_ hlt
          have hgt := agatesB_at hgat hlt
          have hsn := Lib.hid (degs_succ 2000000 gs X k)
          have hvk := HV.out k
          have hlk := HL.out k
          have hz := hb.size
          generalize degs 2000000 gs X k = vs at *
          generalize gg gs k = G at *
          obtain ⟨gk, ga, gb⟩ := G
          dsimp only at c1 c2 c3
          cases hgt with
          | add_ hk0 a0 a1 b0 b1 =>
            dsimp only at hk0 a0 a1 b0 b1
            obtain ⟨a, rfl⟩ := Int.eq_ofNat_of_zero_le a0
            obtain ⟨b', rfl⟩ := Int.eq_ofNat_of_zero_le b0
            subst hk0
            obtain ⟨g, rfl, hg1, hg2, hg3⟩ := hown.some_ (by omega)
            obtain ⟨d1, _⟩ := hown.cellAt (k := a) (by omega)
            obtain ⟨u0, u1⟩ := allB_gi hvk (j := a) (by omega)
            obtain ⟨d2, _⟩ := hown.cellAt (k := b') (by omega)
            obtain ⟨v0, v1⟩ := allB_gi hvk (j := b') (by omega)
            have hsn' : Hid (degs 2000000 gs X (k + 1) = vs ++ [max (gi vs a) (gi vs b')]) := Lib.hid (by rw [hsn.out, dgv, if_pos rfl]; rfl)
            have hbx : Below wr.heap.size wr (wr.alloc (.cells #[.int .i64 0, .int .i64 a, .int .i64 b'] 60)) := (Below.refl _ _).alloc (Nat.le_refl _) _
            have e1 := cell_below d1 hbx
            have e2 := cell_below d2 hbx
            have hownA := fun q : Nat => ((hown.below hbx (.inl (Nat.le_refl _))).drewN q).alloc (.cells #[.int .i64 (max (gi vs a) (gi vs b'))] 3)
            have hbA := fun q : Nat => (below_drewN (hb.alloc hz (.cells #[.int .i64 0, .int .i64 a, .int .i64 b'] 60)) q).alloc (by simp; omega) (.cells #[.int .i64 (max (gi vs a) (gi vs b'))] 3)
            clear d1 d2
            go_wp2_with fail
            go_quiet ((go_at_call 100; exact quiet_left (l1Most_any _ _ _)))
            go_wp2_with (at_builtin; refine wpList_app _ rfl _ _ rfl rfl (hownA _) rfl (RI_one _ _ _ _ (by simp)) (by omega) (by first | omega | (simp; done) | (simp; omega)) ?_; intro A5 c5 w5 hown5 hg5 hat5)
            have hb5 := below_app (hbA _) (hownA _) hg5 (by simp; omega) (Nat.le_refl _)
            rw [← hsn'.out] at hown5
            clear hownA hbA hg5 hat5 hown hb
            go_wp2
            go_roundw
            case rel => exact ⟨k + 1, _, _, by omega, by go_num, rfl, hown5, hb5⟩
            case measure => simp [intOf]; omega
          | mul_ hk0 a0 a1 b0 b1 =>
            dsimp only at hk0 a0 a1 b0 b1
            obtain ⟨a, rfl⟩ := Int.eq_ofNat_of_zero_le a0
            obtain ⟨b', rfl⟩ := Int.eq_ofNat_of_zero_le b0
            subst hk0
            obtain ⟨g, rfl, hg1, hg2, hg3⟩ := hown.some_ (by omega)
            obtain ⟨d1, _⟩ := hown.cellAt (k := a) (by omega)
            obtain ⟨u0, u1⟩ := allB_gi hvk (j := a) (by omega)
            obtain ⟨d2, _⟩ := hown.cellAt (k := b') (by omega)
            obtain ⟨v0, v1⟩ := allB_gi hvk (j := b') (by omega)
            have hsn' : Hid (degs 2000000 gs X (k + 1) = vs ++ [min (gi vs a + gi vs b') 2000000]) := Lib.hid (by rw [hsn.out, dgv, if_neg (by show ¬ ((1 : Int) = 0); decide), if_pos rfl]; rfl)
            have hbx : Below wr.heap.size wr (wr.alloc (.cells #[.int .i64 1, .int .i64 a, .int .i64 b'] 60)) := (Below.refl _ _).alloc (Nat.le_refl _) _
            have e1 := cell_below d1 hbx
            have e2 := cell_below d2 hbx
            have hownA := fun q : Nat => ((hown.below hbx (.inl (Nat.le_refl _))).drewN q).alloc (.cells #[.int .i64 (min (gi vs a + gi vs b') 2000000)] 3)
            have hbA := fun q : Nat => (below_drewN (hb.alloc hz (.cells #[.int .i64 1, .int .i64 a, .int .i64 b'] 60)) q).alloc (by simp; omega) (.cells #[.int .i64 (min (gi vs a + gi vs b') 2000000)] 3)
            clear d1 d2
            go_wp2_with fail
            go_quiet ((go_at_call 101; exact quiet_left (l1Least_any _ _ _)))
            go_wp2_with (at_builtin; refine wpList_app _ rfl _ _ rfl rfl (hownA _) rfl (RI_one _ _ _ _ (by simp)) (by omega) (by first | omega | (simp; done) | (simp; omega)) ?_; intro A5 c5 w5 hown5 hg5 hat5)
            have hb5 := below_app (hbA _) (hownA _) hg5 (by simp; omega) (Nat.le_refl _)
            rw [← hsn'.out] at hown5
            clear hownA hbA hg5 hat5 hown hb
            go_wp2
            go_roundw
            case rel => exact ⟨k + 1, _, _, by omega, by go_num, rfl, hown5, hb5⟩
            case measure => simp [intOf]; omega
          | scale_ hk0 a0 a1 b0 b1 =>
            dsimp only at hk0 a0 a1 b0 b1
            obtain ⟨a, rfl⟩ := Int.eq_ofNat_of_zero_le a0
            obtain ⟨b', rfl⟩ := Int.eq_ofNat_of_zero_le b0
            subst hk0
            obtain ⟨g, rfl, hg1, hg2, hg3⟩ := hown.some_ (by omega)
            obtain ⟨d1, _⟩ := hown.cellAt (k := a) (by omega)
            obtain ⟨u0, u1⟩ := allB_gi hvk (j := a) (by omega)
            have hsn' : Hid (degs 2000000 gs X (k + 1) = vs ++ [gi vs a]) := Lib.hid (by rw [hsn.out, dgv, if_neg (by show ¬ ((2 : Int) = 0); decide), if_neg (by show ¬ ((2 : Int) = 1); decide), if_pos rfl]; rfl)
            have hbx : Below wr.heap.size wr (wr.alloc (.cells #[.int .i64 2, .int .i64 a, .int .i64 b'] 60)) := (Below.refl _ _).alloc (Nat.le_refl _) _
            have e1 := cell_below d1 hbx
            have hownA := fun q : Nat => ((hown.below hbx (.inl (Nat.le_refl _))).drewN q).alloc (.cells #[.int .i64 (gi vs a)] 3)
            have hbA := fun q : Nat => (below_drewN (hb.alloc hz (.cells #[.int .i64 2, .int .i64 a, .int .i64 b'] 60)) q).alloc (by simp; omega) (.cells #[.int .i64 (gi vs a)] 3)
            clear d1
            go_wp2_with (at_builtin; refine wpList_app _ rfl _ _ rfl rfl (hownA 0) rfl (RI_one _ _ _ _ (by simp)) (by omega) (by first | omega | (simp; done) | (simp; omega)) ?_; intro A5 c5 w5 hown5 hg5 hat5)
            have hb5 := below_app (hbA 0) (hownA 0) hg5 (by simp; omega) (Nat.le_refl _)
            rw [← hsn'.out] at hown5
            clear hownA hbA hg5 hat5 hown hb
            go_wp2
            go_roundw
            case rel => exact ⟨k + 1, _, _, by omega, by go_num, rfl, hown5, hb5⟩
            case measure => simp [intOf]; omega
          | const_ hk0 a0 a1 b0 =>
            dsimp only at hk0 a0 a1 b0
            obtain ⟨a, rfl⟩ := Int.eq_ofNat_of_zero_le a0
            subst b0
            subst hk0
            have hsn' : Hid (degs 2000000 gs X (k + 1) = vs ++ [0]) := Lib.hid (by rw [hsn.out, dgv, if_neg (by show ¬ ((3 : Int) = 0); decide), if_neg (by show ¬ ((3 : Int) = 1); decide), if_neg (by show ¬ ((3 : Int) = 2); decide)])
            have hbx : Below wr.heap.size wr (wr.alloc (.cells #[.int .i64 3, .int .i64 a, .int .i64 0] 60)) := (Below.refl _ _).alloc (Nat.le_refl _) _
            have hownA := fun q : Nat => ((hown.below hbx (.inl (Nat.le_refl _))).drewN q).alloc (.cells #[.int .i64 (0)] 3)
            have hbA := fun q : Nat => (below_drewN (hb.alloc hz (.cells #[.int .i64 3, .int .i64 a, .int .i64 0] 60)) q).alloc (by simp; omega) (.cells #[.int .i64 (0)] 3)
            go_wp2_with (at_builtin; refine wpList_app _ rfl _ _ rfl rfl (hownA 0) rfl (RI_one _ _ _ _ (by simp)) (by omega) (by first | omega | (simp; done) | (simp; omega)) ?_; intro A5 c5 w5 hown5 hg5 hat5)
            have hb5 := below_app (hbA 0) (hownA 0) hg5 (by simp; omega) (Nat.le_refl _)
            rw [← hsn'.out] at hown5
            clear hownA hbA hg5 hat5 hown hb
            go_wp2
            go_roundw
            case rel => exact ⟨k + 1, _, _, by omega, by go_num, rfl, hown5, hb5⟩
            case measure => simp [intOf]; omega
        · obtain rfl : ng = k := Nat.le_antisymm (Nat.le_of_not_lt hlt) hk
          go_wp2
          go_ret
          exact RetI.mk_ (HL.out ng) rfl hown hb

set_option maxRecDepth 100000 in
set_option maxHeartbeats 4000000 in
theorem Arith_degrees_any (p x y : Int) (Ag : Option Addr) (ng cg : Nat) (Ao : Option Addr) (no co : Nat) (X : Nat) (gs : List G3) (w : World) (hg : RG w Ag ng gs) (hx : 0 ≤ x ∧ x ≤ 8) (hy : 0 ≤ y ∧ y ≤ 8) (hX : x + y = X) (hgat : agatesB p X gs ng = true) (hng : ng ≤ 100) :
    Calls Try.prog 80 #[.agg #[.int .i64 p, .int .i64 x, .int .i64 y, .slice Ag ng cg, .slice Ao no co]] w (RetI w (degs 1000001 gs X ng)) := by
  have hB : Below w.heap.size w (w.alloc (.cells #[.int .i64 p, .int .i64 x, .int .i64 y, .slice Ag ng cg, .slice Ao no co] 29)) := (Below.refl _ _).alloc (Nat.le_refl _) _
  have hvb : ∀ k, allB 0 1000001 (degs 1000001 gs X k) = true := fun k => degs_bd (by omega) gs X k
  have hvl : ∀ k, (degs 1000001 gs X k).length = X + k := fun k => degs_len _ gs X k
  have HV := Lib.hid hvb; have HL := Lib.hid hvl; clear hvb hvl
  have hX16 : X ≤ 16 := by omega
  have hbA := hB.alloc (by simp) (.cells #[.int .i64 1] 3)
  have hbx := (Below.refl (w.heap.size + 1) (w.alloc (.cells #[.int .i64 p, .int .i64 x, .int .i64 y, .slice Ag ng cg, .slice Ao no co] 29))).alloc (by simp) (.cells #[.int .i64 1] 3)
  obtain ⟨k0, k1, k2, k3, k4⟩ := boxA_at hbx
  go_enter Try.func80, Try.ntmps80
  go_wp2_with fail
  refine (Arith_inputs_any p x y Ag ng cg Ao no co _ hx hy).mono ?_
  rintro e v1 ⟨rfl, hb1⟩
  rw [hX]
  have hB1 := hbA.trans (hb1.mono (by simp; omega))
  have hbx1 := hbx.trans (hb1.mono (by simp))
  have hz1 := hb1.size
  simp only [World.size_alloc] at hz1
  have hr1 : RI v1 (some ⟨w.heap.size + 1, 0, none⟩) 1 [1] := (RI_one (w.alloc (.cells #[.int .i64 p, .int .i64 x, .int .i64 y, .slice Ag ng cg, .slice Ao no co] 29)) 1 3 (w.heap.size + 1) (by simp)).below hb1 (Nat.le_refl _)
  clear k0 k1 k2 k3 k4
  have hq0 := boxA_at hbx1
  obtain ⟨k0, k1, k2, k3, k4⟩ := hq0
  go_wp2_with fail
  refine (Repeat_any (some ⟨w.heap.size + 1, 0, none⟩) 1 X 1 _ hr1 (by omega)).mono ?_
  rintro e v2 hT
  obtain ⟨A2, c2, rfl, hown2, hb2⟩ := hT.open_ (n := X) (by simp)
  have hB2 := hB1.trans (hb2.mono hB1.size)
  have hbx2 := hbx1.trans (hb2.mono (by omega))
  have hst := And.intro (show Own v2 w.heap.size v2.heap.size (.slice A2 (X + 0) c2) (X + 0) (degs 1000001 gs X 0) from hown2.lo_ hB1.size) hB2
  clear hown2 k0 k1 k2 k3 k4
  have hq0 := boxA_at hbx2
  obtain ⟨k0, k1, k2, k3, k4⟩ := hq0
  go_wp2_with fail
  go_loopw [3, 14] (fun v i wr => ∃ (k : Nat) (A' : Option Addr) (c' : Nat), k ≤ ng ∧ i = .int .i64 k ∧ v = .slice A' (X + k : Nat) c' ∧ Own wr w.heap.size wr.heap.size (.slice A' (X + k) c') (X + k) (degs 1000001 gs X k) ∧ Below w.heap.size w wr) (fun _ i _ => ng - (intOf i).toNat)
  case atStart => exact ⟨0, _, _, Nat.zero_le _, rfl, rfl, hst.1, hst.2⟩
  case round =>
    clear hst
    obtain ⟨k, A', c', hk, rfl, rfl, hown, hb⟩ := hrel
    by_cases hlt : k < ng
    · obtain ⟨b, o, rfl, hbB, c1, c2, c3⟩ := (hg.below hb (Nat.le_refl _)).at_ hlt
      have hgt := agatesB_at hgat hlt
      have hsn := Lib.hid (degs_succ 1000001 gs X k)
      have hvk := HV.out k
      have hlk := HL.out k
      have hz := hb.size
      generalize degs 1000001 gs X k = vs at *
      generalize gg gs k = G at *
      obtain ⟨gk, ga, gb⟩ := G
      dsimp only at c1 c2 c3
      cases hgt with
      | add_ hk0 a0 a1 b0 b1 =>
        dsimp only at hk0 a0 a1 b0 b1
        obtain ⟨a, rfl⟩ := Int.eq_ofNat_of_zero_le a0
        obtain ⟨b', rfl⟩ := Int.eq_ofNat_of_zero_le b0
        subst hk0
        obtain ⟨g, rfl, hg1, hg2, hg3⟩ := hown.some_ (by omega)
        obtain ⟨d1, _⟩ := hown.cellAt (k := a) (by omega)
        obtain ⟨u0, u1⟩ := allB_gi hvk (j := a) (by omega)
        obtain ⟨d2, _⟩ := hown.cellAt (k := b') (by omega)
        obtain ⟨v0, v1⟩ := allB_gi hvk (j := b') (by omega)
        rcases Int.lt_trichotomy (gi vs a) (gi vs b') with hc | hc | hc
        · skip
          have hmx : max (gi vs a) (gi vs b') = gi vs b' := by omega
          have hsn' : Hid (degs 1000001 gs X (k + 1) = vs ++ [gi vs b']) := Lib.hid (by rw [hsn.out, dgv, if_pos rfl]; exact congrArg (fun z => vs ++ [z]) hmx)
          have hbx : Below wr.heap.size wr (wr.alloc (.cells #[.int .i64 0, .int .i64 a, .int .i64 b'] 60)) := (Below.refl _ _).alloc (Nat.le_refl _) _
          have e1 := cell_below d1 hbx
          have e2 := cell_below d2 hbx
          have hownA := fun q : Nat => ((hown.below hbx (.inl (Nat.le_refl _))).drewN q).alloc (.cells #[.int .i64 (gi vs b')] 3)
          have hbA := fun q : Nat => (below_drewN (hb.alloc hz (.cells #[.int .i64 0, .int .i64 a, .int .i64 b'] 60)) q).alloc (by simp; omega) (.cells #[.int .i64 (gi vs b')] 3)
          clear hmx
          clear d1 d2
          go_wp2_with fail
          go_quiet (fail)
          go_wp2_with (at_builtin; refine wpList_app _ rfl _ _ rfl rfl (hownA _) rfl (RI_one _ _ _ _ (by simp)) (by omega) (by first | omega | (simp; done) | (simp; omega)) ?_; intro A5 c5 w5 hown5 hg5 hat5)
          have hb5 := below_app (hbA _) (hownA _) hg5 (by simp; omega) (Nat.le_refl _)
          rw [← hsn'.out] at hown5
          clear hownA hbA hg5 hat5 hown hb
          go_wp2
          go_roundw
          case rel => exact ⟨k + 1, _, _, by omega, by go_num, rfl, hown5, hb5⟩
          case measure => simp [intOf]; omega
        · rw [← hc] at d2
          have hmx : max (gi vs a) (gi vs b') = gi vs a := by omega
          have hsn' : Hid (degs 1000001 gs X (k + 1) = vs ++ [gi vs a]) := Lib.hid (by rw [hsn.out, dgv, if_pos rfl]; exact congrArg (fun z => vs ++ [z]) hmx)
          have hbx : Below wr.heap.size wr (wr.alloc (.cells #[.int .i64 0, .int .i64 a, .int .i64 b'] 60)) := (Below.refl _ _).alloc (Nat.le_refl _) _
          have e1 := cell_below d1 hbx
          have e2 := cell_below d2 hbx
          have hownA := fun q : Nat => ((hown.below hbx (.inl (Nat.le_refl _))).drewN q).alloc (.cells #[.int .i64 (gi vs a)] 3)
          have hbA := fun q : Nat => (below_drewN (hb.alloc hz (.cells #[.int .i64 0, .int .i64 a, .int .i64 b'] 60)) q).alloc (by simp; omega) (.cells #[.int .i64 (gi vs a)] 3)
          clear hmx hc
          clear d1 d2
          go_wp2_with fail
          go_quiet (fail)
          go_wp2_with (at_builtin; refine wpList_app _ rfl _ _ rfl rfl (hownA _) rfl (RI_one _ _ _ _ (by simp)) (by omega) (by first | omega | (simp; done) | (simp; omega)) ?_; intro A5 c5 w5 hown5 hg5 hat5)
          have hb5 := below_app (hbA _) (hownA _) hg5 (by simp; omega) (Nat.le_refl _)
          rw [← hsn'.out] at hown5
          clear hownA hbA hg5 hat5 hown hb
          go_wp2
          go_roundw
          case rel => exact ⟨k + 1, _, _, by omega, by go_num, rfl, hown5, hb5⟩
          case measure => simp [intOf]; omega
        · skip
          have hmx : max (gi vs a) (gi vs b') = gi vs a := by omega
          have hsn' : Hid (degs 1000001 gs X (k + 1) = vs ++ [gi vs a]) := Lib.hid (by rw [hsn.out, dgv, if_pos rfl]; exact congrArg (fun z => vs ++ [z]) hmx)
          have hbx : Below wr.heap.size wr (wr.alloc (.cells #[.int .i64 0, .int .i64 a, .int .i64 b'] 60)) := (Below.refl _ _).alloc (Nat.le_refl _) _
          have e1 := cell_below d1 hbx
          have e2 := cell_below d2 hbx
          have hownA := fun q : Nat => ((hown.below hbx (.inl (Nat.le_refl _))).drewN q).alloc (.cells #[.int .i64 (gi vs a)] 3)
          have hbA := fun q : Nat => (below_drewN (hb.alloc hz (.cells #[.int .i64 0, .int .i64 a, .int .i64 b'] 60)) q).alloc (by simp; omega) (.cells #[.int .i64 (gi vs a)] 3)
          clear hmx
          clear d1 d2
          go_wp2_with fail
          go_quiet (fail)
          go_wp2_with (at_builtin; refine wpList_app _ rfl _ _ rfl rfl (hownA _) rfl (RI_one _ _ _ _ (by simp)) (by omega) (by first | omega | (simp; done) | (simp; omega)) ?_; intro A5 c5 w5 hown5 hg5 hat5)
          have hb5 := below_app (hbA _) (hownA _) hg5 (by simp; omega) (Nat.le_refl _)
          rw [← hsn'.out] at hown5
          clear hownA hbA hg5 hat5 hown hb
          go_wp2
          go_roundw
          case rel => exact ⟨k + 1, _, _, by omega, by go_num, rfl, hown5, hb5⟩
          case measure => simp [intOf]; omega
      | mul_ hk0 a0 a1 b0 b1 =>
        dsimp only at hk0 a0 a1 b0 b1
        obtain ⟨a, rfl⟩ := Int.eq_ofNat_of_zero_le a0
        obtain ⟨b', rfl⟩ := Int.eq_ofNat_of_zero_le b0
        subst hk0
        obtain ⟨g, rfl, hg1, hg2, hg3⟩ := hown.some_ (by omega)
        obtain ⟨d1, _⟩ := hown.cellAt (k := a) (by omega)
        obtain ⟨u0, u1⟩ := allB_gi hvk (j := a) (by omega)
        obtain ⟨d2, _⟩ := hown.cellAt (k := b') (by omega)
        obtain ⟨v0, v1⟩ := allB_gi hvk (j := b') (by omega)
        rcases Int.lt_trichotomy (gi vs a + gi vs b') 1000001 with hc | hc | hc
        · skip
          have hmx : min (gi vs a + gi vs b') 1000001 = gi vs a + gi vs b' := by omega
          have hsn' : Hid (degs 1000001 gs X (k + 1) = vs ++ [gi vs a + gi vs b']) := Lib.hid (by rw [hsn.out, dgv, if_neg (by show ¬ ((1 : Int) = 0); decide), if_pos rfl]; exact congrArg (fun z => vs ++ [z]) hmx)
          have hbx : Below wr.heap.size wr (wr.alloc (.cells #[.int .i64 1, .int .i64 a, .int .i64 b'] 60)) := (Below.refl _ _).alloc (Nat.le_refl _) _
          have e1 := cell_below d1 hbx
          have e2 := cell_below d2 hbx
          have hownA := fun q : Nat => ((hown.below hbx (.inl (Nat.le_refl _))).drewN q).alloc (.cells #[.int .i64 (gi vs a + gi vs b')] 3)
          have hbA := fun q : Nat => (below_drewN (hb.alloc hz (.cells #[.int .i64 1, .int .i64 a, .int .i64 b'] 60)) q).alloc (by simp; omega) (.cells #[.int .i64 (gi vs a + gi vs b')] 3)
          clear hmx
          clear d1 d2
          go_wp2_with fail
          go_quiet (fail)
          go_wp2_with (at_builtin; refine wpList_app _ rfl _ _ rfl rfl (hownA _) rfl (RI_one _ _ _ _ (by simp)) (by omega) (by first | omega | (simp; done) | (simp; omega)) ?_; intro A5 c5 w5 hown5 hg5 hat5)
          have hb5 := below_app (hbA _) (hownA _) hg5 (by simp; omega) (Nat.le_refl _)
          rw [← hsn'.out] at hown5
          clear hownA hbA hg5 hat5 hown hb
          go_wp2
          go_roundw
          case rel => exact ⟨k + 1, _, _, by omega, by go_num, rfl, hown5, hb5⟩
          case measure => simp [intOf]; omega
        · skip
          have hmx : min (gi vs a + gi vs b') 1000001 = 1000001 := by omega
          have hsn' : Hid (degs 1000001 gs X (k + 1) = vs ++ [1000001]) := Lib.hid (by rw [hsn.out, dgv, if_neg (by show ¬ ((1 : Int) = 0); decide), if_pos rfl]; exact congrArg (fun z => vs ++ [z]) hmx)
          have hbx : Below wr.heap.size wr (wr.alloc (.cells #[.int .i64 1, .int .i64 a, .int .i64 b'] 60)) := (Below.refl _ _).alloc (Nat.le_refl _) _
          have e1 := cell_below d1 hbx
          have e2 := cell_below d2 hbx
          have hownA := fun q : Nat => ((hown.below hbx (.inl (Nat.le_refl _))).drewN q).alloc (.cells #[.int .i64 (1000001)] 3)
          have hbA := fun q : Nat => (below_drewN (hb.alloc hz (.cells #[.int .i64 1, .int .i64 a, .int .i64 b'] 60)) q).alloc (by simp; omega) (.cells #[.int .i64 (1000001)] 3)
          clear hmx
          clear d1 d2
          go_wp2_with fail
          go_quiet (fail)
          go_wp2_with (at_builtin; refine wpList_app _ rfl _ _ rfl rfl (hownA _) rfl (RI_one _ _ _ _ (by simp)) (by omega) (by first | omega | (simp; done) | (simp; omega)) ?_; intro A5 c5 w5 hown5 hg5 hat5)
          have hb5 := below_app (hbA _) (hownA _) hg5 (by simp; omega) (Nat.le_refl _)
          rw [← hsn'.out] at hown5
          clear hownA hbA hg5 hat5 hown hb
          go_wp2
          go_roundw
          case rel => exact ⟨k + 1, _, _, by omega, by go_num, rfl, hown5, hb5⟩
          case measure => simp [intOf]; omega
        · skip
          have hmx : min (gi vs a + gi vs b') 1000001 = 1000001 := by omega
          have hsn' : Hid (degs 1000001 gs X (k + 1) = vs ++ [1000001]) := Lib.hid (by rw [hsn.out, dgv, if_neg (by show ¬ ((1 : Int) = 0); decide), if_pos rfl]; exact congrArg (fun z => vs ++ [z]) hmx)
          have hbx : Below wr.heap.size wr (wr.alloc (.cells #[.int .i64 1, .int .i64 a, .int .i64 b'] 60)) := (Below.refl _ _).alloc (Nat.le_refl _) _
          have e1 := cell_below d1 hbx
          have e2 := cell_below d2 hbx
          have hownA := fun q : Nat => ((hown.below hbx (.inl (Nat.le_refl _))).drewN q).alloc (.cells #[.int .i64 (1000001)] 3)
          have hbA := fun q : Nat => (below_drewN (hb.alloc hz (.cells #[.int .i64 1, .int .i64 a, .int .i64 b'] 60)) q).alloc (by simp; omega) (.cells #[.int .i64 (1000001)] 3)
          clear hmx
          clear d1 d2
          go_wp2_with fail
          go_quiet (fail)
          go_wp2_with (at_builtin; refine wpList_app _ rfl _ _ rfl rfl (hownA _) rfl (RI_one _ _ _ _ (by simp)) (by omega) (by first | omega | (simp; done) | (simp; omega)) ?_; intro A5 c5 w5 hown5 hg5 hat5)
          have hb5 := below_app (hbA _) (hownA _) hg5 (by simp; omega) (Nat.le_refl _)
          rw [← hsn'.out] at hown5
          clear hownA hbA hg5 hat5 hown hb
          go_wp2
          go_roundw
          case rel => exact ⟨k + 1, _, _, by omega, by go_num, rfl, hown5, hb5⟩
          case measure => simp [intOf]; omega
      | scale_ hk0 a0 a1 b0 b1 =>
        dsimp only at hk0 a0 a1 b0 b1
        obtain ⟨a, rfl⟩ := Int.eq_ofNat_of_zero_le a0
        obtain ⟨b', rfl⟩ := Int.eq_ofNat_of_zero_le b0
        subst hk0
        obtain ⟨g, rfl, hg1, hg2, hg3⟩ := hown.some_ (by omega)
        obtain ⟨d1, _⟩ := hown.cellAt (k := a) (by omega)
        obtain ⟨u0, u1⟩ := allB_gi hvk (j := a) (by omega)
        have hsn' : Hid (degs 1000001 gs X (k + 1) = vs ++ [gi vs a]) := Lib.hid (by rw [hsn.out, dgv, if_neg (by show ¬ ((2 : Int) = 0); decide), if_neg (by show ¬ ((2 : Int) = 1); decide), if_pos rfl]; rfl)
        have hbx : Below wr.heap.size wr (wr.alloc (.cells #[.int .i64 2, .int .i64 a, .int .i64 b'] 60)) := (Below.refl _ _).alloc (Nat.le_refl _) _
        have e1 := cell_below d1 hbx
        have hownA := fun q : Nat => ((hown.below hbx (.inl (Nat.le_refl _))).drewN q).alloc (.cells #[.int .i64 (gi vs a)] 3)
        have hbA := fun q : Nat => (below_drewN (hb.alloc hz (.cells #[.int .i64 2, .int .i64 a, .int .i64 b'] 60)) q).alloc (by simp; omega) (.cells #[.int .i64 (gi vs a)] 3)
        clear d1
        go_wp2_with (at_builtin; refine wpList_app _ rfl _ _ rfl rfl (hownA 0) rfl (RI_one _ _ _ _ (by simp)) (by omega) (by first | omega | (simp; done) | (simp; omega)) ?_; intro A5 c5 w5 hown5 hg5 hat5)
        have hb5 := below_app (hbA 0) (hownA 0) hg5 (by simp; omega) (Nat.le_refl _)
        rw [← hsn'.out] at hown5
        clear hownA hbA hg5 hat5 hown hb
        go_wp2
        go_roundw
        case rel => exact ⟨k + 1, _, _, by omega, by go_num, rfl, hown5, hb5⟩
        case measure => simp [intOf]; omega
      | const_ hk0 a0 a1 b0 =>
        dsimp only at hk0 a0 a1 b0
        obtain ⟨a, rfl⟩ := Int.eq_ofNat_of_zero_le a0
        subst b0
        subst hk0
        have hsn' : Hid (degs 1000001 gs X (k + 1) = vs ++ [0]) := Lib.hid (by rw [hsn.out, dgv, if_neg (by show ¬ ((3 : Int) = 0); decide), if_neg (by show ¬ ((3 : Int) = 1); decide), if_neg (by show ¬ ((3 : Int) = 2); decide)])
        have hbx : Below wr.heap.size wr (wr.alloc (.cells #[.int .i64 3, .int .i64 a, .int .i64 0] 60)) := (Below.refl _ _).alloc (Nat.le_refl _) _
        have hownA := fun q : Nat => ((hown.below hbx (.inl (Nat.le_refl _))).drewN q).alloc (.cells #[.int .i64 (0)] 3)
        have hbA := fun q : Nat => (below_drewN (hb.alloc hz (.cells #[.int .i64 3, .int .i64 a, .int .i64 0] 60)) q).alloc (by simp; omega) (.cells #[.int .i64 (0)] 3)
        go_wp2_with (at_builtin; refine wpList_app _ rfl _ _ rfl rfl (hownA 0) rfl (RI_one _ _ _ _ (by simp)) (by omega) (by first | omega | (simp; done) | (simp; omega)) ?_; intro A5 c5 w5 hown5 hg5 hat5)
        have hb5 := below_app (hbA 0) (hownA 0) hg5 (by simp; omega) (Nat.le_refl _)
        rw [← hsn'.out] at hown5
        clear hownA hbA hg5 hat5 hown hb
        go_wp2
        go_roundw
        case rel => exact ⟨k + 1, _, _, by omega, by go_num, rfl, hown5, hb5⟩
        case measure => simp [intOf]; omega
    · obtain rfl : ng = k := Nat.le_antisymm (Nat.le_of_not_lt hlt) hk
      go_wp2
      go_ret
      exact RetI.mk_ (HL.out ng) rfl hown hb

end Go.Proofs.Ytadgmbkpbgcdjaa
