/- Contracts of the values of an arithmetic circuit's wires, and of the elements of a list at places. -/
import Derived.Test.YtadgmbkpbgcdjaaEval
namespace Go.Proofs.Ytadgmbkpbgcdjaa
open Go.RowKit
set_option linter.unusedVariables false
set_option linter.unusedSimpArgs false

set_option maxRecDepth 100000 in
set_option maxHeartbeats 800000 in
theorem ciPick_any (A B : Option Addr) (n c m d : Nat) (l os : List Int) (w : World) (ha : RI w A n l) (hb : RI w B m os) (hn : n ≤ 2097152) (hm : m ≤ 2097152) (hos : allB 0 ((n : Int) - 1) os = true) :
    Calls Try.prog 55 #[.slice A n c, .slice B m d] w (RetI w (pick l os)) := by
  have hl := ha.len
  have hlo := hb.len
  have HP := Lib.hid (pick_tab (l := l) hlo)
  go_enter Try.func55, Try.ntmps55
  go_wp2
  go_loopw [5, 10] (fun v i wr => ∃ (k : Nat) (A' : Option Addr) (c' : Nat), k ≤ m ∧ i = .int .i64 k ∧ v = .slice A' k c' ∧ Own wr w.heap.size wr.heap.size (.slice A' k c') k (tab k fun i => gi l (gi os i).toNat) ∧ Below w.heap.size w wr) (fun _ i _ => m - (intOf i).toNat)
  case atStart => first | exact ⟨0, _, _, Nat.zero_le _, rfl, rfl, Own.none_ _ _ _, Below.refl _ _⟩ | exact ⟨0, _, _, Nat.zero_le _, rfl, rfl, by simpa [tab_zero] using Own_new0 w w.heap.size (Nat.le_refl _), (Below.refl _ _).alloc (Nat.le_refl _) _⟩
  case round =>
    obtain ⟨k, A', c', hk, rfl, rfl, hown, hbw⟩ := hrel
    by_cases hlt : k < m
    · have hsn : Hid (tab (k + 1) (fun i => gi l (gi os i).toNat) = tab k (fun i => gi l (gi os i).toNat) ++ [gi l (gi os k).toNat]) := Lib.hid (tab_snoc k _)
      obtain ⟨h0, h1⟩ := allB_gi hos (j := k) (by omega)
      obtain ⟨b, o, rfl, hbB, c1⟩ := hb.at_ hlt
      have e1 := (hbw.cell (p := ⟨b, o + k, none⟩) hbB).trans c1
      have hz := hbw.size
      generalize gi os k = X at *
      obtain ⟨a, rfl⟩ := Int.eq_ofNat_of_zero_le h0
      obtain ⟨b', o', rfl, hbB', c2⟩ := ha.at_ (k := a) (by omega)
      have e2 := (hbw.cell (p := ⟨b', o' + a, none⟩) hbB').trans c2
      have hlt2 : (a : Int) < n := by omega
      have hst : ((a : Int).toNat) = a := rfl
      rw [hst] at hsn
      clear ha hb c1 c2 hst
      generalize gi l a = Y at *
      have hownA := hown.alloc (.cells #[.int .i64 Y] 3)
      have hbA := hbw.alloc hz (.cells #[.int .i64 Y] 3)
      clear hown hbw
      go_wp2_with (at_builtin; refine wpList_app _ rfl _ _ rfl rfl hownA rfl (RI_one _ _ _ _ (by simp)) (by omega) (by first | omega | (simp; done) | (simp; omega)) ?_; intro A5 c5 w5 hown5 hg5 hat5)
      have hb5 := below_app hbA hownA hg5 (by simp; omega) (Nat.le_refl _)
      rw [← hsn.out] at hown5
      clear hbA hownA hg5 hat5
      go_wp2
      go_roundw
      case rel => exact ⟨k + 1, _, _, by omega, by go_num, rfl, hown5, hb5⟩
      case measure => simp [intOf]; omega
    · obtain rfl : k = m := by omega
      rw [← HP.out] at hown
      go_wp2
      go_ret
      exact RetI.mk_ (by rw [pick_len]; exact hlo) rfl hown hbw

set_option maxRecDepth 100000 in
set_option maxHeartbeats 800000 in
theorem at_any (A B : Option Addr) (n c m d : Nat) (l os : List Int) (w : World) (ha : RI w A n l) (hb : RI w B m os) (hn : n ≤ 2097152) (hm : m ≤ 2097152) (hos : allB 0 ((n : Int) - 1) os = true) :
    Calls Try.prog 65 #[.slice A n c, .slice B m d] w (RetI w (pick l os)) := by
  have hl := ha.len
  have hlo := hb.len
  have HP := Lib.hid (pick_tab (l := l) hlo)
  go_enter Try.func65, Try.ntmps65
  go_wp2
  go_loopw [5, 11] (fun v i wr => ∃ (k : Nat) (A' : Option Addr) (c' : Nat), k ≤ m ∧ i = .int .i64 k ∧ v = .slice A' k c' ∧ Own wr w.heap.size wr.heap.size (.slice A' k c') k (tab k fun i => gi l (gi os i).toNat) ∧ Below w.heap.size w wr) (fun _ i _ => m - (intOf i).toNat)
  case atStart => first | exact ⟨0, _, _, Nat.zero_le _, rfl, rfl, Own.none_ _ _ _, Below.refl _ _⟩ | exact ⟨0, _, _, Nat.zero_le _, rfl, rfl, by simpa [tab_zero] using Own_new0 w w.heap.size (Nat.le_refl _), (Below.refl _ _).alloc (Nat.le_refl _) _⟩
  case round =>
    obtain ⟨k, A', c', hk, rfl, rfl, hown, hbw⟩ := hrel
    by_cases hlt : k < m
    · have hsn : Hid (tab (k + 1) (fun i => gi l (gi os i).toNat) = tab k (fun i => gi l (gi os i).toNat) ++ [gi l (gi os k).toNat]) := Lib.hid (tab_snoc k _)
      obtain ⟨h0, h1⟩ := allB_gi hos (j := k) (by omega)
      obtain ⟨b, o, rfl, hbB, c1⟩ := hb.at_ hlt
      have e1 := (hbw.cell (p := ⟨b, o + k, none⟩) hbB).trans c1
      have hz := hbw.size
      generalize gi os k = X at *
      obtain ⟨a, rfl⟩ := Int.eq_ofNat_of_zero_le h0
      obtain ⟨b', o', rfl, hbB', c2⟩ := ha.at_ (k := a) (by omega)
      have e2 := (hbw.cell (p := ⟨b', o' + a, none⟩) hbB').trans c2
      have hlt2 : (a : Int) < n := by omega
      have hst : ((a : Int).toNat) = a := rfl
      rw [hst] at hsn
      clear ha hb c1 c2 hst
      generalize gi l a = Y at *
      have hownA := hown.alloc (.cells #[.int .i64 Y] 3)
      have hbA := hbw.alloc hz (.cells #[.int .i64 Y] 3)
      clear hown hbw
      go_wp2_with (at_builtin; refine wpList_app _ rfl _ _ rfl rfl hownA rfl (RI_one _ _ _ _ (by simp)) (by omega) (by first | omega | (simp; done) | (simp; omega)) ?_; intro A5 c5 w5 hown5 hg5 hat5)
      have hb5 := below_app hbA hownA hg5 (by simp; omega) (Nat.le_refl _)
      rw [← hsn.out] at hown5
      clear hbA hownA hg5 hat5
      go_wp2
      go_roundw
      case rel => exact ⟨k + 1, _, _, by omega, by go_num, rfl, hown5, hb5⟩
      case measure => simp [intOf]; omega
    · obtain rfl : k = m := by omega
      rw [← HP.out] at hown
      go_wp2
      go_ret
      exact RetI.mk_ (by rw [pick_len]; exact hlo) rfl hown hbw

set_option maxRecDepth 100000 in
set_option maxHeartbeats 4000000 in
theorem arValues_any (p x y : Int) (Ag : Option Addr) (ng cg : Nat) (Ao : Option Addr) (no co : Nat) (A : Option Addr) (n c : Nat) (gs : List G3) (inp : List Int) (w : World) (hg : RG w Ag ng gs) (ha : RI w A n inp) (hp : 2 ≤ p ∧ p ≤ 251) (hi : allB 0 (p - 1) inp = true) (hgat : agatesB p n gs ng = true) (hng : ng ≤ 100) (hn : n ≤ 16) :
    Calls Try.prog 78 #[.agg #[.int .i64 p, .int .i64 x, .int .i64 y, .slice Ag ng cg, .slice Ao no co], .slice A n c] w (RetI w (avals p gs inp ng)) := by
  have hB : Below w.heap.size w (w.alloc (.cells #[.int .i64 p, .int .i64 x, .int .i64 y, .slice Ag ng cg, .slice Ao no co] 29)) := (Below.refl _ _).alloc (Nat.le_refl _) _
  have hla := ha.len
  have hvb : ∀ k, allB 0 (p - 1) (avals p gs inp k) = true := avals_bd hp.1 hi
  have hvl : ∀ k, (avals p gs inp k).length = n + k := fun k => by rw [avals_len]; omega
  have HV := Lib.hid hvb; have HL := Lib.hid hvl; clear hvb hvl
  obtain ⟨p2, p251⟩ := hp
  have hp0 : ¬ p = 0 := by omega
  go_enter Try.func78, Try.ntmps78
  go_wp2_with fail
  refine (l1Own_any A n c inp _ (ha.below hB (Nat.le_refl _)) (by omega)).mono ?_
  rintro e w1 ⟨A1, c1, rfl, hown1, hb1⟩
  have hz1 := hb1.size
  simp only [World.size_alloc] at hz1 hown1
  have hz1' : w.heap.size < w1.heap.size := by omega
  obtain ⟨hc1, hf1⟩ := bcell hb1
  have hb1' := hb1
  simp only [World.size_alloc] at hb1'
  go_wp2_with fail
  go_loopw [5, 14] (fun v i wr => ∃ (k : Nat) (A' : Option Addr) (c' : Nat), k ≤ ng ∧ i = .int .i64 k ∧ v = .slice A' (n + k : Nat) c' ∧ Own wr (w.heap.size + 1) wr.heap.size (.slice A' (n + k) c') (n + k) (avals p gs inp k) ∧ Below (w.heap.size + 1) (w.alloc (.cells #[.int .i64 p, .int .i64 x, .int .i64 y, .slice Ag ng cg, .slice Ao no co] 29)) wr) (fun _ i _ => ng - (intOf i).toNat)
  case atStart => exact ⟨0, _, _, Nat.zero_le _, rfl, rfl, hown1, hb1'⟩
  case round =>
    obtain ⟨k, A', c', hk, rfl, rfl, hown, hb⟩ := hrel
    clear hown1 hc1 hf1 hb1 hb1' hz1 hz1'
    have hbw : Below w.heap.size w wr := hB.trans (hb.mono (by omega))
    by_cases hlt : k < ng
    · obtain ⟨b, o, rfl, hbB, c1, c2, c3⟩ := (hg.below hbw (Nat.le_refl _)).at_ hlt
      have hgt := agatesB_at hgat hlt
      have hsn := Lib.hid (avals_succ p gs inp k)
      have hvk := HV.out k
      have hlk := HL.out k
      have hz := hb.size
      simp only [World.size_alloc] at hz
      have k0 := (hb.cell (p := ⟨w.heap.size, 0, none⟩) (by simp)).trans (box_cell w _ 0 (.int .i64 p) rfl)
      generalize avals p gs inp k = vs at *
      generalize gg gs k = G at *
      obtain ⟨gk, ga, gb⟩ := G
      dsimp only at c1 c2 c3
      cases hgt with
      | add_ hk0 a0 a1 b0 b1 =>
        dsimp only at hk0 a0 a1 b0 b1
        obtain ⟨a, rfl⟩ := Int.eq_ofNat_of_zero_le a0
        obtain ⟨b', rfl⟩ := Int.eq_ofNat_of_zero_le b0
        subst hk0
        obtain ⟨g, rfl, hg1, hg2, hg3⟩ := hown.some_ (by omega)
        obtain ⟨d1, _⟩ := hown.cellAt (k := a) (by omega)
        obtain ⟨u0, u1⟩ := allB_gi hvk (j := a) (by omega)
        obtain ⟨d2, _⟩ := hown.cellAt (k := b') (by omega)
        obtain ⟨v0, v1⟩ := allB_gi hvk (j := b') (by omega)
        have m0 : 0 ≤ gi vs a + gi vs b' := by omega
        have m1 : gi vs a + gi vs b' ≤ 62500 := by omega
        have q1 : IntKind.i64.wrap (gi vs a + gi vs b') = gi vs a + gi vs b' := IntWalk.i64_in _ (by omega)
        have hsn' : Hid (avals p gs inp (k + 1) = vs ++ [(gi vs a + gi vs b') % p]) := Lib.hid (by rw [hsn.out, aval, if_pos rfl]; rfl)
        have hbx : Below wr.heap.size wr (wr.alloc (.cells #[.int .i64 0, .int .i64 a, .int .i64 b'] 60)) := (Below.refl _ _).alloc (Nat.le_refl _) _
        have e0 := cell_below k0 hbx
        have e1 := cell_below d1 hbx
        have e2 := cell_below d2 hbx
        have hownA := fun q => ((hown.below hbx (.inl (Nat.le_refl _))).drewN q).alloc (.cells #[.int .i64 ((gi vs a + gi vs b') % p)] 3)
        have hbA := fun q => (below_drewN (hb.alloc hz (.cells #[.int .i64 0, .int .i64 a, .int .i64 b'] 60)) q).alloc (by simp; omega) (.cells #[.int .i64 ((gi vs a + gi vs b') % p)] 3)
        clear d1 d2
        go_wp2_with fail
        go_quiet (fail)
        go_wp2_with (at_builtin; refine wpList_app _ rfl _ _ rfl rfl (hownA _) rfl (RI_one _ _ _ _ (by simp)) (by omega) (by first | omega | (simp; done) | (simp; omega)) ?_; intro A5 c5 w5 hown5 hg5 hat5)
        have hb5 := below_app (hbA _) (hownA _) hg5 (by simp; omega) (Nat.le_refl _)
        rw [← hsn'.out] at hown5
        clear hownA hbA hg5 hat5 hown hb e0 e1
        go_wp2
        go_roundw
        case rel => exact ⟨k + 1, _, _, by omega, by go_num, rfl, hown5, hb5⟩
        case measure => simp [intOf]; omega
      | mul_ hk0 a0 a1 b0 b1 =>
        dsimp only at hk0 a0 a1 b0 b1
        obtain ⟨a, rfl⟩ := Int.eq_ofNat_of_zero_le a0
        obtain ⟨b', rfl⟩ := Int.eq_ofNat_of_zero_le b0
        subst hk0
        obtain ⟨g, rfl, hg1, hg2, hg3⟩ := hown.some_ (by omega)
        obtain ⟨d1, _⟩ := hown.cellAt (k := a) (by omega)
        obtain ⟨u0, u1⟩ := allB_gi hvk (j := a) (by omega)
        obtain ⟨d2, _⟩ := hown.cellAt (k := b') (by omega)
        obtain ⟨v0, v1⟩ := allB_gi hvk (j := b') (by omega)
        have m0 : 0 ≤ gi vs a * gi vs b' := Int.mul_nonneg u0 v0
        have m1 : gi vs a * gi vs b' ≤ 62500 := by
          have := Int.mul_le_mul (show gi vs a ≤ 250 by omega) (show gi vs b' ≤ 250 by omega) v0 (by omega)
          omega
        have q1 : IntKind.i64.wrap (gi vs a * gi vs b') = gi vs a * gi vs b' := IntWalk.i64_in _ (by omega)
        have hsn' : Hid (avals p gs inp (k + 1) = vs ++ [(gi vs a * gi vs b') % p]) := Lib.hid (by rw [hsn.out, aval, if_neg (by show ¬ ((1 : Int) = 0); decide), if_pos rfl]; rfl)
        have hbx : Below wr.heap.size wr (wr.alloc (.cells #[.int .i64 1, .int .i64 a, .int .i64 b'] 60)) := (Below.refl _ _).alloc (Nat.le_refl _) _
        have e0 := cell_below k0 hbx
        have e1 := cell_below d1 hbx
        have e2 := cell_below d2 hbx
        have hownA := fun q => ((hown.below hbx (.inl (Nat.le_refl _))).drewN q).alloc (.cells #[.int .i64 ((gi vs a * gi vs b') % p)] 3)
        have hbA := fun q => (below_drewN (hb.alloc hz (.cells #[.int .i64 1, .int .i64 a, .int .i64 b'] 60)) q).alloc (by simp; omega) (.cells #[.int .i64 ((gi vs a * gi vs b') % p)] 3)
        clear d1 d2
        go_wp2_with fail
        go_quiet (fail)
        go_wp2_with (at_builtin; refine wpList_app _ rfl _ _ rfl rfl (hownA _) rfl (RI_one _ _ _ _ (by simp)) (by omega) (by first | omega | (simp; done) | (simp; omega)) ?_; intro A5 c5 w5 hown5 hg5 hat5)
        have hb5 := below_app (hbA _) (hownA _) hg5 (by simp; omega) (Nat.le_refl _)
        rw [← hsn'.out] at hown5
        clear hownA hbA hg5 hat5 hown hb e0 e1
        go_wp2
        go_roundw
        case rel => exact ⟨k + 1, _, _, by omega, by go_num, rfl, hown5, hb5⟩
        case measure => simp [intOf]; omega
      | scale_ hk0 a0 a1 b0 b1 =>
        dsimp only at hk0 a0 a1 b0 b1
        obtain ⟨a, rfl⟩ := Int.eq_ofNat_of_zero_le a0
        obtain ⟨b', rfl⟩ := Int.eq_ofNat_of_zero_le b0
        subst hk0
        obtain ⟨g, rfl, hg1, hg2, hg3⟩ := hown.some_ (by omega)
        obtain ⟨d1, _⟩ := hown.cellAt (k := a) (by omega)
        obtain ⟨u0, u1⟩ := allB_gi hvk (j := a) (by omega)
        have m0 : 0 ≤ gi vs a * (b' : Int) := Int.mul_nonneg u0 b0
        have m1 : gi vs a * (b' : Int) ≤ 62500 := by
          have := Int.mul_le_mul (show gi vs a ≤ 250 by omega) (show (b' : Int) ≤ 250 by omega) b0 (by omega)
          omega
        have q1 : IntKind.i64.wrap (gi vs a * (b' : Int)) = gi vs a * (b' : Int) := IntWalk.i64_in _ (by omega)
        have hsn' : Hid (avals p gs inp (k + 1) = vs ++ [(gi vs a * (b' : Int)) % p]) := Lib.hid (by rw [hsn.out, aval, if_neg (by show ¬ ((2 : Int) = 0); decide), if_neg (by show ¬ ((2 : Int) = 1); decide), if_pos rfl]; rfl)
        have hbx : Below wr.heap.size wr (wr.alloc (.cells #[.int .i64 2, .int .i64 a, .int .i64 b'] 60)) := (Below.refl _ _).alloc (Nat.le_refl _) _
        have e0 := cell_below k0 hbx
        have e1 := cell_below d1 hbx
        have hownA := fun q => ((hown.below hbx (.inl (Nat.le_refl _))).drewN q).alloc (.cells #[.int .i64 ((gi vs a * (b' : Int)) % p)] 3)
        have hbA := fun q => (below_drewN (hb.alloc hz (.cells #[.int .i64 2, .int .i64 a, .int .i64 b'] 60)) q).alloc (by simp; omega) (.cells #[.int .i64 ((gi vs a * (b' : Int)) % p)] 3)
        clear d1
        go_wp2_with fail
        go_quiet (fail)
        go_wp2_with (at_builtin; refine wpList_app _ rfl _ _ rfl rfl (hownA _) rfl (RI_one _ _ _ _ (by simp)) (by omega) (by first | omega | (simp; done) | (simp; omega)) ?_; intro A5 c5 w5 hown5 hg5 hat5)
        have hb5 := below_app (hbA _) (hownA _) hg5 (by simp; omega) (Nat.le_refl _)
        rw [← hsn'.out] at hown5
        clear hownA hbA hg5 hat5 hown hb e0 e1
        go_wp2
        go_roundw
        case rel => exact ⟨k + 1, _, _, by omega, by go_num, rfl, hown5, hb5⟩
        case measure => simp [intOf]; omega
      | const_ hk0 a0 a1 b0 =>
        dsimp only at hk0 a0 a1 b0
        subst hk0
        subst b0
        have hsn' : Hid (avals p gs inp (k + 1) = vs ++ [ga % p]) := Lib.hid (by rw [hsn.out, aval, if_neg (by show ¬ ((3 : Int) = 0); decide), if_neg (by show ¬ ((3 : Int) = 1); decide), if_neg (by show ¬ ((3 : Int) = 2); decide)])
        have hbx : Below wr.heap.size wr (wr.alloc (.cells #[.int .i64 3, .int .i64 ga, .int .i64 0] 60)) := (Below.refl _ _).alloc (Nat.le_refl _) _
        have e0 := cell_below k0 hbx
        have hownA := (hown.below hbx (.inl (Nat.le_refl _))).alloc (.cells #[.int .i64 (ga % p)] 3)
        have hbA := (hb.alloc hz (.cells #[.int .i64 3, .int .i64 ga, .int .i64 0] 60)).alloc (by simp; omega) (.cells #[.int .i64 (ga % p)] 3)
        go_wp2_with (at_builtin; refine wpList_app _ rfl _ _ rfl rfl hownA rfl (RI_one _ _ _ _ (by simp)) (by omega) (by first | omega | (simp; done) | (simp; omega)) ?_; intro A5 c5 w5 hown5 hg5 hat5)
        have hb5 := below_app hbA hownA hg5 (by simp; omega) (Nat.le_refl _)
        rw [← hsn'.out] at hown5
        clear hownA hbA hg5 hat5 hown hb
        go_wp2
        go_roundw
        case rel => exact ⟨k + 1, _, _, by omega, by go_num, rfl, hown5, hb5⟩
        case measure => simp [intOf]; omega
    · obtain rfl : ng = k := by omega
      go_wp2
      go_ret
      exact RetI.mk_ (HL.out ng) rfl (hown.lo_ (by omega)) hbw

set_option maxRecDepth 100000 in
set_option maxHeartbeats 4000000 in
theorem Arith_values_any (p x y : Int) (Ag : Option Addr) (ng cg : Nat) (Ao : Option Addr) (no co : Nat) (A : Option Addr) (n c : Nat) (gs : List G3) (inp : List Int) (w : World) (hg : RG w Ag ng gs) (ha : RI w A n inp) (hp : 2 ≤ p ∧ p ≤ 251) (hi : allB 0 (p - 1) inp = true) (hgat : agatesB p n gs ng = true) (hng : ng ≤ 100) (hn : n ≤ 16) :
    Calls Try.prog 81 #[.agg #[.int .i64 p, .int .i64 x, .int .i64 y, .slice Ag ng cg, .slice Ao no co], .slice A n c] w (RetI w (avals p gs inp ng)) := by
  have hB : Below w.heap.size w (w.alloc (.cells #[.int .i64 p, .int .i64 x, .int .i64 y, .slice Ag ng cg, .slice Ao no co] 29)) := (Below.refl _ _).alloc (Nat.le_refl _) _
  have hla := ha.len
  have hvb : ∀ k, allB 0 (p - 1) (avals p gs inp k) = true := avals_bd hp.1 hi
  have hvl : ∀ k, (avals p gs inp k).length = n + k := fun k => by rw [avals_len]; omega
  have HV := Lib.hid hvb; have HL := Lib.hid hvl; clear hvb hvl
  obtain ⟨p2, p251⟩ := hp
  have hp0 : ¬ p = 0 := by omega
  go_enter Try.func81, Try.ntmps81
  go_wp2_with fail
  refine (Clone_any A n c inp _ (ha.below hB (Nat.le_refl _)) (by omega)).mono ?_
  rintro e w1 ⟨A1, c1, rfl, hown1, hb1⟩
  have hz1 := hb1.size
  simp only [World.size_alloc] at hz1 hown1
  have hz1' : w.heap.size < w1.heap.size := by omega
  obtain ⟨hc1, hf1⟩ := bcell hb1
  have hb1' := hb1
  simp only [World.size_alloc] at hb1'
  go_wp2_with fail
  go_loopw [5, 14] (fun v i wr => ∃ (k : Nat) (A' : Option Addr) (c' : Nat), k ≤ ng ∧ i = .int .i64 k ∧ v = .slice A' (n + k : Nat) c' ∧ Own wr (w.heap.size + 1) wr.heap.size (.slice A' (n + k) c') (n + k) (avals p gs inp k) ∧ Below (w.heap.size + 1) (w.alloc (.cells #[.int .i64 p, .int .i64 x, .int .i64 y, .slice Ag ng cg, .slice Ao no co] 29)) wr) (fun _ i _ => ng - (intOf i).toNat)
  case atStart => exact ⟨0, _, _, Nat.zero_le _, rfl, rfl, hown1, hb1'⟩
  case round =>
    obtain ⟨k, A', c', hk, rfl, rfl, hown, hb⟩ := hrel
    clear hown1 hc1 hf1 hb1 hb1' hz1 hz1'
    have hbw : Below w.heap.size w wr := hB.trans (hb.mono (by omega))
    by_cases hlt : k < ng
    · obtain ⟨b, o, rfl, hbB, c1, c2, c3⟩ := (hg.below hbw (Nat.le_refl _)).at_ hlt
      have hgt := agatesB_at hgat hlt
      have hsn := Lib.hid (avals_succ p gs inp k)
      have hvk := HV.out k
      have hlk := HL.out k
      have hz := hb.size
      simp only [World.size_alloc] at hz
      have k0 := (hb.cell (p := ⟨w.heap.size, 0, none⟩) (by simp)).trans (box_cell w _ 0 (.int .i64 p) rfl)
      generalize avals p gs inp k = vs at *
      generalize gg gs k = G at *
      obtain ⟨gk, ga, gb⟩ := G
      dsimp only at c1 c2 c3
      cases hgt with
      | add_ hk0 a0 a1 b0 b1 =>
        dsimp only at hk0 a0 a1 b0 b1
        obtain ⟨a, rfl⟩ := Int.eq_ofNat_of_zero_le a0
        obtain ⟨b', rfl⟩ := Int.eq_ofNat_of_zero_le b0
        subst hk0
        obtain ⟨g, rfl, hg1, hg2, hg3⟩ := hown.some_ (by omega)
        obtain ⟨d1, _⟩ := hown.cellAt (k := a) (by omega)
        obtain ⟨u0, u1⟩ := allB_gi hvk (j := a) (by omega)
        obtain ⟨d2, _⟩ := hown.cellAt (k := b') (by omega)
        obtain ⟨v0, v1⟩ := allB_gi hvk (j := b') (by omega)
        have m0 : 0 ≤ gi vs a + gi vs b' := by omega
        have m1 : gi vs a + gi vs b' ≤ 62500 := by omega
        have q1 : IntKind.i64.wrap (gi vs a + gi vs b') = gi vs a + gi vs b' := IntWalk.i64_in _ (by omega)
        have hsn' : Hid (avals p gs inp (k + 1) = vs ++ [(gi vs a + gi vs b') % p]) := Lib.hid (by rw [hsn.out, aval, if_pos rfl]; rfl)
        have hbx : Below wr.heap.size wr (wr.alloc (.cells #[.int .i64 0, .int .i64 a, .int .i64 b'] 60)) := (Below.refl _ _).alloc (Nat.le_refl _) _
        have e0 := cell_below k0 hbx
        have e1 := cell_below d1 hbx
        have e2 := cell_below d2 hbx
        have hownA := fun q => ((hown.below hbx (.inl (Nat.le_refl _))).drewN q).alloc (.cells #[.int .i64 ((gi vs a + gi vs b') % p)] 3)
        have hbA := fun q => (below_drewN (hb.alloc hz (.cells #[.int .i64 0, .int .i64 a, .int .i64 b'] 60)) q).alloc (by simp; omega) (.cells #[.int .i64 ((gi vs a + gi vs b') % p)] 3)
        clear d1 d2
        go_wp2_with fail
        go_quiet (fail)
        go_wp2_with (at_builtin; refine wpList_app _ rfl _ _ rfl rfl (hownA _) rfl (RI_one _ _ _ _ (by simp)) (by omega) (by first | omega | (simp; done) | (simp; omega)) ?_; intro A5 c5 w5 hown5 hg5 hat5)
        have hb5 := below_app (hbA _) (hownA _) hg5 (by simp; omega) (Nat.le_refl _)
        rw [← hsn'.out] at hown5
        clear hownA hbA hg5 hat5 hown hb e0 e1
        go_wp2
        go_roundw
        case rel => exact ⟨k + 1, _, _, by omega, by go_num, rfl, hown5, hb5⟩
        case measure => simp [intOf]; omega
      | mul_ hk0 a0 a1 b0 b1 =>
        dsimp only at hk0 a0 a1 b0 b1
        obtain ⟨a, rfl⟩ := Int.eq_ofNat_of_zero_le a0
        obtain ⟨b', rfl⟩ := Int.eq_ofNat_of_zero_le b0
        subst hk0
        obtain ⟨g, rfl, hg1, hg2, hg3⟩ := hown.some_ (by omega)
        obtain ⟨d1, _⟩ := hown.cellAt (k := a) (by omega)
        obtain ⟨u0, u1⟩ := allB_gi hvk (j := a) (by omega)
        obtain ⟨d2, _⟩ := hown.cellAt (k := b') (by omega)
        obtain ⟨v0, v1⟩ := allB_gi hvk (j := b') (by omega)
        have m0 : 0 ≤ gi vs a * gi vs b' := Int.mul_nonneg u0 v0
        have m1 : gi vs a * gi vs b' ≤ 62500 := by
          have := Int.mul_le_mul (show gi vs a ≤ 250 by omega) (show gi vs b' ≤ 250 by omega) v0 (by omega)
          omega
        have q1 : IntKind.i64.wrap (gi vs a * gi vs b') = gi vs a * gi vs b' := IntWalk.i64_in _ (by omega)
        have hsn' : Hid (avals p gs inp (k + 1) = vs ++ [(gi vs a * gi vs b') % p]) := Lib.hid (by rw [hsn.out, aval, if_neg (by show ¬ ((1 : Int) = 0); decide), if_pos rfl]; rfl)
        have hbx : Below wr.heap.size wr (wr.alloc (.cells #[.int .i64 1, .int .i64 a, .int .i64 b'] 60)) := (Below.refl _ _).alloc (Nat.le_refl _) _
        have e0 := cell_below k0 hbx
        have e1 := cell_below d1 hbx
        have e2 := cell_below d2 hbx
        have hownA := fun q => ((hown.below hbx (.inl (Nat.le_refl _))).drewN q).alloc (.cells #[.int .i64 ((gi vs a * gi vs b') % p)] 3)
        have hbA := fun q => (below_drewN (hb.alloc hz (.cells #[.int .i64 1, .int .i64 a, .int .i64 b'] 60)) q).alloc (by simp; omega) (.cells #[.int .i64 ((gi vs a * gi vs b') % p)] 3)
        clear d1 d2
        go_wp2_with fail
        go_quiet (fail)
        go_wp2_with (at_builtin; refine wpList_app _ rfl _ _ rfl rfl (hownA _) rfl (RI_one _ _ _ _ (by simp)) (by omega) (by first | omega | (simp; done) | (simp; omega)) ?_; intro A5 c5 w5 hown5 hg5 hat5)
        have hb5 := below_app (hbA _) (hownA _) hg5 (by simp; omega) (Nat.le_refl _)
        rw [← hsn'.out] at hown5
        clear hownA hbA hg5 hat5 hown hb e0 e1
        go_wp2
        go_roundw
        case rel => exact ⟨k + 1, _, _, by omega, by go_num, rfl, hown5, hb5⟩
        case measure => simp [intOf]; omega
      | scale_ hk0 a0 a1 b0 b1 =>
        dsimp only at hk0 a0 a1 b0 b1
        obtain ⟨a, rfl⟩ := Int.eq_ofNat_of_zero_le a0
        obtain ⟨b', rfl⟩ := Int.eq_ofNat_of_zero_le b0
        subst hk0
        obtain ⟨g, rfl, hg1, hg2, hg3⟩ := hown.some_ (by omega)
        obtain ⟨d1, _⟩ := hown.cellAt (k := a) (by omega)
        obtain ⟨u0, u1⟩ := allB_gi hvk (j := a) (by omega)
        have m0 : 0 ≤ gi vs a * (b' : Int) := Int.mul_nonneg u0 b0
        have m1 : gi vs a * (b' : Int) ≤ 62500 := by
          have := Int.mul_le_mul (show gi vs a ≤ 250 by omega) (show (b' : Int) ≤ 250 by omega) b0 (by omega)
          omega
        have q1 : IntKind.i64.wrap (gi vs a * (b' : Int)) = gi vs a * (b' : Int) := IntWalk.i64_in _ (by omega)
        have hsn' : Hid (avals p gs inp (k + 1) = vs ++ [(gi vs a * (b' : Int)) % p]) := Lib.hid (by rw [hsn.out, aval, if_neg (by show ¬ ((2 : Int) = 0); decide), if_neg (by show ¬ ((2 : Int) = 1); decide), if_pos rfl]; rfl)
        have hbx : Below wr.heap.size wr (wr.alloc (.cells #[.int .i64 2, .int .i64 a, .int .i64 b'] 60)) := (Below.refl _ _).alloc (Nat.le_refl _) _
        have e0 := cell_below k0 hbx
        have e1 := cell_below d1 hbx
        have hownA := fun q => ((hown.below hbx (.inl (Nat.le_refl _))).drewN q).alloc (.cells #[.int .i64 ((gi vs a * (b' : Int)) % p)] 3)
        have hbA := fun q => (below_drewN (hb.alloc hz (.cells #[.int .i64 2, .int .i64 a, .int .i64 b'] 60)) q).alloc (by simp; omega) (.cells #[.int .i64 ((gi vs a * (b' : Int)) % p)] 3)
        clear d1
        go_wp2_with fail
        go_quiet (fail)
        go_wp2_with (at_builtin; refine wpList_app _ rfl _ _ rfl rfl (hownA _) rfl (RI_one _ _ _ _ (by simp)) (by omega) (by first | omega | (simp; done) | (simp; omega)) ?_; intro A5 c5 w5 hown5 hg5 hat5)
        have hb5 := below_app (hbA _) (hownA _) hg5 (by simp; omega) (Nat.le_refl _)
        rw [← hsn'.out] at hown5
        clear hownA hbA hg5 hat5 hown hb e0 e1
        go_wp2
        go_roundw
        case rel => exact ⟨k + 1, _, _, by omega, by go_num, rfl, hown5, hb5⟩
        case measure => simp [intOf]; omega
      | const_ hk0 a0 a1 b0 =>
        dsimp only at hk0 a0 a1 b0
        subst hk0
        subst b0
        have hsn' : Hid (avals p gs inp (k + 1) = vs ++ [ga % p]) := Lib.hid (by rw [hsn.out, aval, if_neg (by show ¬ ((3 : Int) = 0); decide), if_neg (by show ¬ ((3 : Int) = 1); decide), if_neg (by show ¬ ((3 : Int) = 2); decide)])
        have hbx : Below wr.heap.size wr (wr.alloc (.cells #[.int .i64 3, .int .i64 ga, .int .i64 0] 60)) := (Below.refl _ _).alloc (Nat.le_refl _) _
        have e0 := cell_below k0 hbx
        have hownA := (hown.below hbx (.inl (Nat.le_refl _))).alloc (.cells #[.int .i64 (ga % p)] 3)
        have hbA := (hb.alloc hz (.cells #[.int .i64 3, .int .i64 ga, .int .i64 0] 60)).alloc (by simp; omega) (.cells #[.int .i64 (ga % p)] 3)
        go_wp2_with (at_builtin; refine wpList_app _ rfl _ _ rfl rfl hownA rfl (RI_one _ _ _ _ (by simp)) (by omega) (by first | omega | (simp; done) | (simp; omega)) ?_; intro A5 c5 w5 hown5 hg5 hat5)
        have hb5 := below_app hbA hownA hg5 (by simp; omega) (Nat.le_refl _)
        rw [← hsn'.out] at hown5
        clear hownA hbA hg5 hat5 hown hb
        go_wp2
        go_roundw
        case rel => exact ⟨k + 1, _, _, by omega, by go_num, rfl, hown5, hb5⟩
        case measure => simp [intOf]; omega
    · obtain rfl : ng = k := by omega
      go_wp2
      go_ret
      exact RetI.mk_ (HL.out ng) rfl (hown.lo_ (by omega)) hbw

end Go.Proofs.Ytadgmbkpbgcdjaa
