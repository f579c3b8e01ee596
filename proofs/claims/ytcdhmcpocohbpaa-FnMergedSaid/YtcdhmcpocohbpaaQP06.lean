/- Contracts of the values of a circuit's wires, of an arithmetic circuit's wires, and of the elements of a list at places. Contracts of makers' adders. Contracts: spans, a circuit that is valid, a gadget. Contracts of gadgets. -/
import Derived.StillTailTactics
import Derived.Test.YtcdhmcpocohbpaaQP05
namespace Go.Proofs.Ytcdhmcpocohbpaa
open Go.RowKit
set_option linter.unusedVariables false
set_option linter.unusedSimpArgs false
set_option maxRecDepth 100000 in
set_option maxHeartbeats 4000000 in
theorem ciValues_any (x y : Int) (Ag : Option Addr) (ng cg : Nat) (Ao : Option Addr) (no co : Nat) (A : Option Addr) (n c : Nat) (gs : List G3) (inp : List Int) (w : World) (hg : RG w Ag ng gs) (ha : RI w A n inp) (hi : allB 0 1 inp = true) (hgat : gatesB n gs ng = true) (hng : ng ≤ 300) (hn : n ≤ 40) :
    Calls Try.prog 55 #[.agg #[.int .i64 x, .int .i64 y, .slice Ag ng cg, .slice Ao no co], .slice A n c] w (RetI w (vals gs inp ng)) := by
  have hB : Below w.heap.size w (w.alloc (.cells #[.int .i64 x, .int .i64 y, .slice Ag ng cg, .slice Ao no co] 26)) := (Below.refl _ _).alloc (Nat.le_refl _) _
  have hla := ha.len
  have hvb : ∀ k, k ≤ ng → allB 0 1 (vals gs inp k) = true := fun k hk => vals_bd (n := n) (by omega) hi k ng hk hgat
  have hvl : ∀ k, (vals gs inp k).length = n + k := fun k => by rw [vals_len]; omega
  have HV := Lib.hid hvb; have HL := Lib.hid hvl; clear hvb hvl
  go_enter Try.func55, Try.ntmps55
  go_wp2_with fail
  refine (l1Own_any A n c inp _ (ha.below hB (Nat.le_refl _)) (by omega)).mono ?_
  rintro e w1 ⟨A1, c1, rfl, hown1, hb1⟩
  have hz1 := hb1.size
  simp only [World.size_alloc] at hz1 hown1
  have hz1' : w.heap.size < w1.heap.size := by omega
  obtain ⟨hc1, hf1⟩ := bcell hb1
  have hb1' := hb1
  simp only [World.size_alloc] at hb1'
  go_wp2_with fail
  go_loopw [5, 13] (fun v i wr => ∃ (k : Nat) (A' : Option Addr) (c' : Nat), k ≤ ng ∧ i = .int .i64 k ∧ v = .slice A' (n + k : Nat) c' ∧ Own wr (w.heap.size + 1) wr.heap.size (.slice A' (n + k) c') (n + k) (vals gs inp k) ∧ Below (w.heap.size + 1) (w.alloc (.cells #[.int .i64 x, .int .i64 y, .slice Ag ng cg, .slice Ao no co] 26)) wr) (fun _ i _ => ng - (intOf i).toNat)
  case atStart => exact ⟨0, _, _, Nat.zero_le _, rfl, rfl, hown1, hb1'⟩
  case round =>
    obtain ⟨k, A', c', hk, rfl, rfl, hown, hb⟩ := hrel
    clear hown1 hc1 hf1 hb1 hb1' hz1 hz1'
    have hbw : Below w.heap.size w wr := hB.trans (hb.mono (by omega))
    by_cases hlt : k < ng
    · obtain ⟨b, o, rfl, hbB, c1, c2, c3⟩ := (hg.below hbw (Nat.le_refl _)).at_ hlt
      have hgt := gatesB_at hgat hlt
      have hsn := Lib.hid (vals_succ gs inp k)
      have hvk := HV.out k (by omega)
      have hlk := HL.out k
      have hz := hb.size
      simp only [World.size_alloc] at hz
      generalize vals gs inp k = vs at *
      generalize gg gs k = G at *
      obtain ⟨gk, ga, gb⟩ := G
      dsimp only at c1 c2 c3
      cases hgt with
      | xor_ hk0 a0 a1 b0 b1 =>
        dsimp only at hk0 a0 a1 b0 b1
        obtain ⟨a, rfl⟩ := Int.eq_ofNat_of_zero_le a0
        obtain ⟨b', rfl⟩ := Int.eq_ofNat_of_zero_le b0
        subst hk0
        obtain ⟨g, rfl, hg1, hg2, hg3⟩ := hown.some_ (by omega)
        obtain ⟨d1, _⟩ := hown.cellAt (k := a) (by omega)
        obtain ⟨d2, _⟩ := hown.cellAt (k := b') (by omega)
        have hsn' : Hid (vals gs inp (k + 1) = vs ++ [bits .xor .i64 (gi vs a) (gi vs b')]) := Lib.hid (by rw [hsn.out, gval, if_pos rfl]; rfl)
        have hbx : Below wr.heap.size wr (wr.alloc (.cells #[.int .i64 0, .int .i64 a, .int .i64 b'] 41)) := (Below.refl _ _).alloc (Nat.le_refl _) _
        have e1 := cell_below d1 hbx
        have e2 := cell_below d2 hbx
        have hownA := fun q => ((hown.below hbx (.inl (Nat.le_refl _))).drewN q).alloc (.cells #[.int .i64 (bits .xor .i64 (gi vs a) (gi vs b'))] 3)
        have hbA := fun q => (below_drewN (hb.alloc hz (.cells #[.int .i64 0, .int .i64 a, .int .i64 b'] 41)) q).alloc (by simp; omega) (.cells #[.int .i64 (bits .xor .i64 (gi vs a) (gi vs b'))] 3)
        clear d1 d2
        go_wp2_with fail
        go_region_held3 (fun w' => w'.cell? ⟨wr.heap.size, 1, none⟩ = some (.int .i64 a) ∧ w'.cell? ⟨wr.heap.size, 2, none⟩ = some (.int .i64 b') ∧ w'.cell? ⟨g, a, none⟩ = some (.int .i64 (gi vs a)) ∧ w'.cell? ⟨g, b', none⟩ = some (.int .i64 (gi vs b')))
          (first | go_keep | (go_split_ands; exact ⟨hk5 _ _ _ (by assumption) (fun g9 hg9 he9 => by first | omega | (simp only [Option.some.injEq, Addr.mk.injEq, and_true] at hg9; omega)), hk5 _ _ _ (by assumption) (fun g9 hg9 he9 => by first | omega | (simp only [Option.some.injEq, Addr.mk.injEq, and_true] at hg9; omega)), hk5 _ _ _ (by assumption) (fun g9 hg9 he9 => by first | omega | (simp only [Option.some.injEq, Addr.mk.injEq, and_true] at hg9; omega)), hk5 _ _ _ (by assumption) (fun g9 hg9 he9 => by first | omega | (simp only [Option.some.injEq, Addr.mk.injEq, and_true] at hg9; omega))⟩))
          (first | (refine step_appI _ (by rfl) _ _ (by rfl) (by rfl) (hownA 1) (by rfl) (RI_one _ _ _ _ (by simp)) (by omega) (by first | omega | (simp; done) | (simp; omega)) ?_; intro A5 c5 w5 hown5 hg5 hat5 hk5))
        have hb5 := below_app (hbA 1) (hownA 1) hg5 (by simp; omega) (Nat.le_refl _)
        rw [← hsn'.out] at hown5
        clear hownA hbA hg5 hat5 hk5 e1 e2 hown hb
        go_wp2
        go_roundw
        case rel => exact ⟨k + 1, _, _, by omega, by go_num, rfl, hown5, hb5⟩
        case measure => simp [intOf]; omega
      | and_ hk0 a0 a1 b0 b1 =>
        dsimp only at hk0 a0 a1 b0 b1
        obtain ⟨a, rfl⟩ := Int.eq_ofNat_of_zero_le a0
        obtain ⟨b', rfl⟩ := Int.eq_ofNat_of_zero_le b0
        subst hk0
        obtain ⟨g, rfl, hg1, hg2, hg3⟩ := hown.some_ (by omega)
        obtain ⟨d1, _⟩ := hown.cellAt (k := a) (by omega)
        obtain ⟨d2, _⟩ := hown.cellAt (k := b') (by omega)
        have hsn' : Hid (vals gs inp (k + 1) = vs ++ [bits .and .i64 (gi vs a) (gi vs b')]) := Lib.hid (by rw [hsn.out, gval, if_neg (by show ¬ ((1 : Int) = 0); decide), if_pos rfl]; rfl)
        have hbx : Below wr.heap.size wr (wr.alloc (.cells #[.int .i64 1, .int .i64 a, .int .i64 b'] 41)) := (Below.refl _ _).alloc (Nat.le_refl _) _
        have e1 := cell_below d1 hbx
        have e2 := cell_below d2 hbx
        have hownA := fun q => ((hown.below hbx (.inl (Nat.le_refl _))).drewN q).alloc (.cells #[.int .i64 (bits .and .i64 (gi vs a) (gi vs b'))] 3)
        have hbA := fun q => (below_drewN (hb.alloc hz (.cells #[.int .i64 1, .int .i64 a, .int .i64 b'] 41)) q).alloc (by simp; omega) (.cells #[.int .i64 (bits .and .i64 (gi vs a) (gi vs b'))] 3)
        clear d1 d2
        go_wp2_with fail
        go_region_held3 (fun w' => w'.cell? ⟨wr.heap.size, 1, none⟩ = some (.int .i64 a) ∧ w'.cell? ⟨wr.heap.size, 2, none⟩ = some (.int .i64 b') ∧ w'.cell? ⟨g, a, none⟩ = some (.int .i64 (gi vs a)) ∧ w'.cell? ⟨g, b', none⟩ = some (.int .i64 (gi vs b')))
          (first | go_keep | (go_split_ands; exact ⟨hk5 _ _ _ (by assumption) (fun g9 hg9 he9 => by first | omega | (simp only [Option.some.injEq, Addr.mk.injEq, and_true] at hg9; omega)), hk5 _ _ _ (by assumption) (fun g9 hg9 he9 => by first | omega | (simp only [Option.some.injEq, Addr.mk.injEq, and_true] at hg9; omega)), hk5 _ _ _ (by assumption) (fun g9 hg9 he9 => by first | omega | (simp only [Option.some.injEq, Addr.mk.injEq, and_true] at hg9; omega)), hk5 _ _ _ (by assumption) (fun g9 hg9 he9 => by first | omega | (simp only [Option.some.injEq, Addr.mk.injEq, and_true] at hg9; omega))⟩))
          (first | (refine step_appI _ (by rfl) _ _ (by rfl) (by rfl) (hownA 1) (by rfl) (RI_one _ _ _ _ (by simp)) (by omega) (by first | omega | (simp; done) | (simp; omega)) ?_; intro A5 c5 w5 hown5 hg5 hat5 hk5))
        have hb5 := below_app (hbA 1) (hownA 1) hg5 (by simp; omega) (Nat.le_refl _)
        rw [← hsn'.out] at hown5
        clear hownA hbA hg5 hat5 hk5 e1 e2 hown hb
        go_wp2
        go_roundw
        case rel => exact ⟨k + 1, _, _, by omega, by go_num, rfl, hown5, hb5⟩
        case measure => simp [intOf]; omega
      | not_ hk0 a0 a1 b0 =>
        dsimp only at hk0 a0 a1 b0
        obtain ⟨a, rfl⟩ := Int.eq_ofNat_of_zero_le a0
        subst hk0
        subst b0
        obtain ⟨g, rfl, hg1, hg2, hg3⟩ := hown.some_ (by omega)
        obtain ⟨d1, _⟩ := hown.cellAt (k := a) (by omega)
        have hvx := allB_gi hvk (j := a) (by omega)
        obtain ⟨hv0, hv1⟩ := hvx
        have hsn' : Hid (vals gs inp (k + 1) = vs ++ [1 - gi vs a]) := Lib.hid (by rw [hsn.out, gval, if_neg (by show ¬ ((2 : Int) = 0); decide), if_neg (by show ¬ ((2 : Int) = 1); decide), if_pos rfl]; rfl)
        have hbx : Below wr.heap.size wr (wr.alloc (.cells #[.int .i64 2, .int .i64 a, .int .i64 0] 41)) := (Below.refl _ _).alloc (Nat.le_refl _) _
        have e1 := cell_below d1 hbx
        have hownA := (hown.below hbx (.inl (Nat.le_refl _))).alloc (.cells #[.int .i64 (1 - gi vs a)] 3)
        have hbA := (hb.alloc hz (.cells #[.int .i64 2, .int .i64 a, .int .i64 0] 41)).alloc (by simp; omega) (.cells #[.int .i64 (1 - gi vs a)] 3)
        clear d1
        go_wp2_with (at_builtin; refine wpList_app _ rfl _ _ rfl rfl hownA rfl (RI_one _ _ _ _ (by simp)) (by omega) (by first | omega | (simp; done) | (simp; omega)) ?_; intro A5 c5 w5 hown5 hg5 hat5)
        have hb5 := below_app hbA hownA hg5 (by simp; omega) (Nat.le_refl _)
        rw [← hsn'.out] at hown5
        clear hownA hbA hg5 hat5 e1 hown hb
        go_wp2
        go_roundw
        case rel => exact ⟨k + 1, _, _, by omega, by go_num, rfl, hown5, hb5⟩
        case measure => simp [intOf]; omega
      | one_ hk0 a0 b0 =>
        dsimp only at hk0 a0 b0
        subst hk0
        subst a0
        subst b0
        have hsn' : Hid (vals gs inp (k + 1) = vs ++ [1]) := Lib.hid (by rw [hsn.out, gval, if_neg (by show ¬ ((3 : Int) = 0); decide), if_neg (by show ¬ ((3 : Int) = 1); decide), if_neg (by show ¬ ((3 : Int) = 2); decide)])
        have hbx : Below wr.heap.size wr (wr.alloc (.cells #[.int .i64 3, .int .i64 0, .int .i64 0] 41)) := (Below.refl _ _).alloc (Nat.le_refl _) _
        have hownA := (hown.below hbx (.inl (Nat.le_refl _))).alloc (.cells #[.int .i64 1] 3)
        have hbA := (hb.alloc hz (.cells #[.int .i64 3, .int .i64 0, .int .i64 0] 41)).alloc (by simp; omega) (.cells #[.int .i64 1] 3)
        go_wp2_with (at_builtin; refine wpList_app _ rfl _ _ rfl rfl hownA rfl (RI_one _ _ _ _ (by simp)) (by omega) (by first | omega | (simp; done) | (simp; omega)) ?_; intro A5 c5 w5 hown5 hg5 hat5)
        have hb5 := below_app hbA hownA hg5 (by simp; omega) (Nat.le_refl _)
        rw [← hsn'.out] at hown5
        clear hownA hbA hg5 hat5 hown hb
        go_wp2
        go_roundw
        case rel => exact ⟨k + 1, _, _, by omega, by go_num, rfl, hown5, hb5⟩
        case measure => simp [intOf]; omega
    · obtain rfl : ng = k := by omega
      go_wp2
      go_ret
      exact RetI.mk_ (HL.out ng) rfl (hown.lo_ (by omega)) hbw
set_option maxRecDepth 100000 in
set_option maxHeartbeats 4000000 in
theorem Circuit_values_any (x y : Int) (Ag : Option Addr) (ng cg : Nat) (Ao : Option Addr) (no co : Nat) (A : Option Addr) (n c : Nat) (gs : List G3) (inp : List Int) (w : World) (hg : RG w Ag ng gs) (ha : RI w A n inp) (hi : allB 0 1 inp = true) (hgat : gatesB n gs ng = true) (hng : ng ≤ 300) (hn : n ≤ 40) :
    Calls Try.prog 52 #[.agg #[.int .i64 x, .int .i64 y, .slice Ag ng cg, .slice Ao no co], .slice A n c] w (RetI w (vals gs inp ng)) := by
  have hB : Below w.heap.size w (w.alloc (.cells #[.int .i64 x, .int .i64 y, .slice Ag ng cg, .slice Ao no co] 26)) := (Below.refl _ _).alloc (Nat.le_refl _) _
  have hla := ha.len
  have hvb : ∀ k, k ≤ ng → allB 0 1 (vals gs inp k) = true := fun k hk => vals_bd (n := n) (by omega) hi k ng hk hgat
  have hvl : ∀ k, (vals gs inp k).length = n + k := fun k => by rw [vals_len]; omega
  have HV := Lib.hid hvb; have HL := Lib.hid hvl; clear hvb hvl
  go_enter Try.func52, Try.ntmps52
  go_wp2_with fail
  refine (Clone_any A n c inp _ (ha.below hB (Nat.le_refl _)) (by omega)).mono ?_
  rintro e w1 ⟨A1, c1, rfl, hown1, hb1⟩
  have hz1 := hb1.size
  simp only [World.size_alloc] at hz1 hown1
  have hz1' : w.heap.size < w1.heap.size := by omega
  obtain ⟨hc1, hf1⟩ := bcell hb1
  have hb1' := hb1
  simp only [World.size_alloc] at hb1'
  go_wp2_with fail
  go_loopw [5, 14] (fun v i wr => ∃ (k : Nat) (A' : Option Addr) (c' : Nat), k ≤ ng ∧ i = .int .i64 k ∧ v = .slice A' (n + k : Nat) c' ∧ Own wr (w.heap.size + 1) wr.heap.size (.slice A' (n + k) c') (n + k) (vals gs inp k) ∧ Below (w.heap.size + 1) (w.alloc (.cells #[.int .i64 x, .int .i64 y, .slice Ag ng cg, .slice Ao no co] 26)) wr) (fun _ i _ => ng - (intOf i).toNat)
  case atStart => exact ⟨0, _, _, Nat.zero_le _, rfl, rfl, hown1, hb1'⟩
  case round =>
    obtain ⟨k, A', c', hk, rfl, rfl, hown, hb⟩ := hrel
    clear hown1 hc1 hf1 hb1 hb1' hz1 hz1'
    have hbw : Below w.heap.size w wr := hB.trans (hb.mono (by omega))
    by_cases hlt : k < ng
    · obtain ⟨b, o, rfl, hbB, c1, c2, c3⟩ := (hg.below hbw (Nat.le_refl _)).at_ hlt
      have hgt := gatesB_at hgat hlt
      have hsn := Lib.hid (vals_succ gs inp k)
      have hvk := HV.out k (by omega)
      have hlk := HL.out k
      have hz := hb.size
      simp only [World.size_alloc] at hz
      generalize vals gs inp k = vs at *
      generalize gg gs k = G at *
      obtain ⟨gk, ga, gb⟩ := G
      dsimp only at c1 c2 c3
      cases hgt with
      | xor_ hk0 a0 a1 b0 b1 =>
        dsimp only at hk0 a0 a1 b0 b1
        obtain ⟨a, rfl⟩ := Int.eq_ofNat_of_zero_le a0
        obtain ⟨b', rfl⟩ := Int.eq_ofNat_of_zero_le b0
        subst hk0
        obtain ⟨g, rfl, hg1, hg2, hg3⟩ := hown.some_ (by omega)
        obtain ⟨d1, _⟩ := hown.cellAt (k := a) (by omega)
        obtain ⟨d2, _⟩ := hown.cellAt (k := b') (by omega)
        have hsn' : Hid (vals gs inp (k + 1) = vs ++ [bits .xor .i64 (gi vs a) (gi vs b')]) := Lib.hid (by rw [hsn.out, gval, if_pos rfl]; rfl)
        have hbx : Below wr.heap.size wr (wr.alloc (.cells #[.int .i64 0, .int .i64 a, .int .i64 b'] 41)) := (Below.refl _ _).alloc (Nat.le_refl _) _
        have e1 := cell_below d1 hbx
        have e2 := cell_below d2 hbx
        have hownA := fun q => ((hown.below hbx (.inl (Nat.le_refl _))).drewN q).alloc (.cells #[.int .i64 (bits .xor .i64 (gi vs a) (gi vs b'))] 3)
        have hbA := fun q => (below_drewN (hb.alloc hz (.cells #[.int .i64 0, .int .i64 a, .int .i64 b'] 41)) q).alloc (by simp; omega) (.cells #[.int .i64 (bits .xor .i64 (gi vs a) (gi vs b'))] 3)
        clear d1 d2
        go_wp2_with fail
        go_quiet (fail)
        go_wp2_with (at_builtin; refine wpList_appI _ rfl _ _ rfl rfl (hownA _) rfl (RI_one _ _ _ _ (by simp)) (by omega) (by first | omega | (simp; done) | (simp; omega)) ?_; intro A5 c5 w5 hown5 hg5 hat5 hk5)
        have hb5 := below_app (hbA _) (hownA _) hg5 (by simp; omega) (Nat.le_refl _)
        rw [← hsn'.out] at hown5
        clear hownA hbA hg5 hat5 hk5 e1 e2 hown hb
        go_wp2
        go_roundw
        case rel => exact ⟨k + 1, _, _, by omega, by go_num, rfl, hown5, hb5⟩
        case measure => simp [intOf]; omega
      | and_ hk0 a0 a1 b0 b1 =>
        dsimp only at hk0 a0 a1 b0 b1
        obtain ⟨a, rfl⟩ := Int.eq_ofNat_of_zero_le a0
        obtain ⟨b', rfl⟩ := Int.eq_ofNat_of_zero_le b0
        subst hk0
        obtain ⟨g, rfl, hg1, hg2, hg3⟩ := hown.some_ (by omega)
        obtain ⟨d1, _⟩ := hown.cellAt (k := a) (by omega)
        obtain ⟨d2, _⟩ := hown.cellAt (k := b') (by omega)
        have hsn' : Hid (vals gs inp (k + 1) = vs ++ [bits .and .i64 (gi vs a) (gi vs b')]) := Lib.hid (by rw [hsn.out, gval, if_neg (by show ¬ ((1 : Int) = 0); decide), if_pos rfl]; rfl)
        have hbx : Below wr.heap.size wr (wr.alloc (.cells #[.int .i64 1, .int .i64 a, .int .i64 b'] 41)) := (Below.refl _ _).alloc (Nat.le_refl _) _
        have e1 := cell_below d1 hbx
        have e2 := cell_below d2 hbx
        have hownA := fun q => ((hown.below hbx (.inl (Nat.le_refl _))).drewN q).alloc (.cells #[.int .i64 (bits .and .i64 (gi vs a) (gi vs b'))] 3)
        have hbA := fun q => (below_drewN (hb.alloc hz (.cells #[.int .i64 1, .int .i64 a, .int .i64 b'] 41)) q).alloc (by simp; omega) (.cells #[.int .i64 (bits .and .i64 (gi vs a) (gi vs b'))] 3)
        clear d1 d2
        go_wp2_with fail
        go_quiet (fail)
        go_wp2_with (at_builtin; refine wpList_appI _ rfl _ _ rfl rfl (hownA _) rfl (RI_one _ _ _ _ (by simp)) (by omega) (by first | omega | (simp; done) | (simp; omega)) ?_; intro A5 c5 w5 hown5 hg5 hat5 hk5)
        have hb5 := below_app (hbA _) (hownA _) hg5 (by simp; omega) (Nat.le_refl _)
        rw [← hsn'.out] at hown5
        clear hownA hbA hg5 hat5 hk5 e1 e2 hown hb
        go_wp2
        go_roundw
        case rel => exact ⟨k + 1, _, _, by omega, by go_num, rfl, hown5, hb5⟩
        case measure => simp [intOf]; omega
      | not_ hk0 a0 a1 b0 =>
        dsimp only at hk0 a0 a1 b0
        obtain ⟨a, rfl⟩ := Int.eq_ofNat_of_zero_le a0
        subst hk0
        subst b0
        obtain ⟨g, rfl, hg1, hg2, hg3⟩ := hown.some_ (by omega)
        obtain ⟨d1, _⟩ := hown.cellAt (k := a) (by omega)
        have hvx := allB_gi hvk (j := a) (by omega)
        obtain ⟨hv0, hv1⟩ := hvx
        have hsn' : Hid (vals gs inp (k + 1) = vs ++ [1 - gi vs a]) := Lib.hid (by rw [hsn.out, gval, if_neg (by show ¬ ((2 : Int) = 0); decide), if_neg (by show ¬ ((2 : Int) = 1); decide), if_pos rfl]; rfl)
        have hbx : Below wr.heap.size wr (wr.alloc (.cells #[.int .i64 2, .int .i64 a, .int .i64 0] 41)) := (Below.refl _ _).alloc (Nat.le_refl _) _
        have e1 := cell_below d1 hbx
        have hownA := (hown.below hbx (.inl (Nat.le_refl _))).alloc (.cells #[.int .i64 (1 - gi vs a)] 3)
        have hbA := (hb.alloc hz (.cells #[.int .i64 2, .int .i64 a, .int .i64 0] 41)).alloc (by simp; omega) (.cells #[.int .i64 (1 - gi vs a)] 3)
        clear d1
        go_wp2_with (at_builtin; refine wpList_app _ rfl _ _ rfl rfl hownA rfl (RI_one _ _ _ _ (by simp)) (by omega) (by first | omega | (simp; done) | (simp; omega)) ?_; intro A5 c5 w5 hown5 hg5 hat5)
        have hb5 := below_app hbA hownA hg5 (by simp; omega) (Nat.le_refl _)
        rw [← hsn'.out] at hown5
        clear hownA hbA hg5 hat5 e1 hown hb
        go_wp2
        go_roundw
        case rel => exact ⟨k + 1, _, _, by omega, by go_num, rfl, hown5, hb5⟩
        case measure => simp [intOf]; omega
      | one_ hk0 a0 b0 =>
        dsimp only at hk0 a0 b0
        subst hk0
        subst a0
        subst b0
        have hsn' : Hid (vals gs inp (k + 1) = vs ++ [1]) := Lib.hid (by rw [hsn.out, gval, if_neg (by show ¬ ((3 : Int) = 0); decide), if_neg (by show ¬ ((3 : Int) = 1); decide), if_neg (by show ¬ ((3 : Int) = 2); decide)])
        have hbx : Below wr.heap.size wr (wr.alloc (.cells #[.int .i64 3, .int .i64 0, .int .i64 0] 41)) := (Below.refl _ _).alloc (Nat.le_refl _) _
        have hownA := (hown.below hbx (.inl (Nat.le_refl _))).alloc (.cells #[.int .i64 1] 3)
        have hbA := (hb.alloc hz (.cells #[.int .i64 3, .int .i64 0, .int .i64 0] 41)).alloc (by simp; omega) (.cells #[.int .i64 1] 3)
        go_wp2_with (at_builtin; refine wpList_app _ rfl _ _ rfl rfl hownA rfl (RI_one _ _ _ _ (by simp)) (by omega) (by first | omega | (simp; done) | (simp; omega)) ?_; intro A5 c5 w5 hown5 hg5 hat5)
        have hb5 := below_app hbA hownA hg5 (by simp; omega) (Nat.le_refl _)
        rw [← hsn'.out] at hown5
        clear hownA hbA hg5 hat5 hown hb
        go_wp2
        go_roundw
        case rel => exact ⟨k + 1, _, _, by omega, by go_num, rfl, hown5, hb5⟩
        case measure => simp [intOf]; omega
    · obtain rfl : ng = k := by omega
      go_wp2
      go_ret
      exact RetI.mk_ (HL.out ng) rfl (hown.lo_ (by omega)) hbw
def RetRow (lo b : Nat) (x y : Int) (gs : List G3) (os : List Int) (G : Option Nat) (w : World) (e : Ending) (w' : World) : Prop :=
  ∃ G' O oc, e = .returned (.slice O os.length oc) ∧ Mk w' lo b x y gs G' ∧ Mv b G G' w w' ∧ OM w' b G' w.heap.size (.slice O os.length oc) os.length os
theorem RetRow.mk_ {lo b n : Nat} {x y : Int} {gs : List G3} {os : List Int} {G G' : Option Nat} {w w' : World} {e : Ending} {O : Option Addr} {oc : Nat} (hn : os.length = n) (he : e = .returned (.slice O n oc)) (hm : Mk w' lo b x y gs G') (hv : Mv b G G' w w') (ho : OM w' b G' w.heap.size (.slice O n oc) n os) : RetRow lo b x y gs os G w e w' := by
  subst hn; exact ⟨G', O, oc, he, hm, hv, ho⟩
theorem RetRow.open_ {lo b n : Nat} {x y : Int} {gs : List G3} {os : List Int} {G : Option Nat} {w w' : World} {e : Ending} (h : RetRow lo b x y gs os G w e w') (hn : os.length = n) :
    ∃ G' O oc, e = .returned (.slice O n oc) ∧ Mk w' lo b x y gs G' ∧ Mv b G G' w w' ∧ OM w' b G' w.heap.size (.slice O n oc) n os := by
  subst hn; exact h
theorem gdRange_any (a : Int) (n : Nat) (w : World) (ha : 0 ≤ a ∧ a ≤ 1000000) (hn : n ≤ 1000000) :
    Calls Try.prog 32 #[.int .i64 a, .int .i64 n] w (RetI w (spn a n)) := by
  have HS := Lib.hid (spn_snoc a)
  have hs0 : spn a 0 = [] := rfl
  have HL := Lib.hid (spn_len a)
  obtain ⟨ha0, ha1⟩ := ha
  have hnone : Own w w.heap.size w.heap.size (.slice none 0 0) 0 (spn a 0) ∧ Below w.heap.size w w := ⟨by rw [hs0]; exact Own.none_ _ _ _, Below.refl _ _⟩
  have hsome : Own (w.alloc (.cells #[] 3)) w.heap.size (w.alloc (.cells #[] 3)).heap.size (.slice (some ⟨w.heap.size, 0, none⟩) 0 0) 0 (spn a 0) ∧ Below w.heap.size w (w.alloc (.cells #[] 3)) := ⟨by rw [hs0]; exact (Own_new0 w _ (Nat.le_refl _)).now, (Below.refl _ _).alloc (Nat.le_refl _) _⟩
  go_enter Try.func32, Try.ntmps32
  go_wp2
  go_loopw [5, 6] (fun o i wr => ∃ (k : Nat) (O : Option Addr) (oc : Nat), k ≤ n ∧ i = .int .i64 k ∧ o = .slice O k oc ∧ Own wr w.heap.size wr.heap.size (.slice O k oc) k (spn a k) ∧ Below w.heap.size w wr) (fun _ i _ => n - (intOf i).toNat)
  case atStart => exact ⟨0, _, _, Nat.zero_le _, rfl, rfl, hnone.1, hnone.2⟩
  case round =>
    obtain ⟨k, O, oc, hk, rfl, rfl, hown, hb⟩ := hrel
    clear hnone hsome
    have hz := hb.size
    by_cases hlt : k < n
    · have hsn := Lib.hid (HS.out k)
      have hoA := hown.alloc (.cells #[.int .i64 (a + k)] 3)
      have hbA := hb.alloc hz (.cells #[.int .i64 (a + k)] 3)
      go_wp2_with (at_builtin; refine wpList_appI _ rfl _ _ rfl rfl hoA rfl (RI_one _ _ _ _ (by simp)) (by omega) (by first | omega | (simp; done) | (simp; omega)) ?_; intro A5 c5 w5 hown5 hg5 hat5 hk5)
      have hb5 := below_app hbA hoA hg5 (by simp; omega) (Nat.le_refl _)
      rw [← hsn.out] at hown5
      clear hoA hbA hg5 hat5 hk5 hown hb hsn
      go_wp2
      go_roundw
      case rel => exact ⟨k + 1, _, _, by omega, by go_num, rfl, hown5, hb5⟩
      case measure => simp [intOf]; omega
    · obtain rfl : n = k := Nat.le_antisymm (Nat.le_of_not_lt hlt) hk
      go_wp2
      go_ret
      exact RetI.mk_ (HL.out n) rfl hown hb
theorem span_any (a : Int) (n : Nat) (w : World) (ha : 0 ≤ a ∧ a ≤ 1000000) (hn : n ≤ 1000000) :
    Calls Try.prog 22 #[.int .i64 a, .int .i64 n] w (RetI w (spn a n)) := by
  have HS := Lib.hid (spn_snoc a)
  have hs0 : spn a 0 = [] := rfl
  have HL := Lib.hid (spn_len a)
  obtain ⟨ha0, ha1⟩ := ha
  have hnone : Own w w.heap.size w.heap.size (.slice none 0 0) 0 (spn a 0) ∧ Below w.heap.size w w := ⟨by rw [hs0]; exact Own.none_ _ _ _, Below.refl _ _⟩
  have hsome : Own (w.alloc (.cells #[] 3)) w.heap.size (w.alloc (.cells #[] 3)).heap.size (.slice (some ⟨w.heap.size, 0, none⟩) 0 0) 0 (spn a 0) ∧ Below w.heap.size w (w.alloc (.cells #[] 3)) := ⟨by rw [hs0]; exact (Own_new0 w _ (Nat.le_refl _)).now, (Below.refl _ _).alloc (Nat.le_refl _) _⟩
  go_enter Try.func22, Try.ntmps22
  go_wp2
  go_loopw [5, 9] (fun o i wr => ∃ (k : Nat) (O : Option Addr) (oc : Nat), k ≤ n ∧ i = .int .i64 k ∧ o = .slice O k oc ∧ Own wr w.heap.size wr.heap.size (.slice O k oc) k (spn a k) ∧ Below w.heap.size w wr) (fun _ i _ => n - (intOf i).toNat)
  case atStart => exact ⟨0, _, _, Nat.zero_le _, rfl, rfl, hsome.1, hsome.2⟩
  case round =>
    obtain ⟨k, O, oc, hk, rfl, rfl, hown, hb⟩ := hrel
    clear hnone hsome
    have hz := hb.size
    by_cases hlt : k < n
    · have hsn := Lib.hid (HS.out k)
      have hoA := hown.alloc (.cells #[.int .i64 (a + k)] 3)
      have hbA := hb.alloc hz (.cells #[.int .i64 (a + k)] 3)
      go_wp2_with (at_builtin; refine wpList_appI _ rfl _ _ rfl rfl hoA rfl (RI_one _ _ _ _ (by simp)) (by omega) (by first | omega | (simp; done) | (simp; omega)) ?_; intro A5 c5 w5 hown5 hg5 hat5 hk5)
      have hb5 := below_app hbA hoA hg5 (by simp; omega) (Nat.le_refl _)
      rw [← hsn.out] at hown5
      clear hoA hbA hg5 hat5 hk5 hown hb hsn
      go_wp2
      go_roundw
      case rel => exact ⟨k + 1, _, _, by omega, by go_num, rfl, hown5, hb5⟩
      case measure => simp [intOf]; omega
    · obtain rfl : n = k := Nat.le_antisymm (Nat.le_of_not_lt hlt) hk
      go_wp2
      go_ret
      exact RetI.mk_ (HL.out n) rfl hown hb
theorem Own.far1 {w : World} {lo hi n : Nat} {v : Value} {xs : List Int} (h : Own w lo hi v n xs) (p : Addr) (u : Value) (hp : v.ownBlock ≠ some p.block) : Own (w.setCell p u) lo hi v n xs := by
  refine ⟨⟨h.1.1, ?_⟩, h.2⟩
  rcases h.1.2 with h1 | ⟨g, cap, cur, rfl, hlo, hg, r⟩
  · exact .inl h1
  · refine .inr ⟨g, cap, cur, rfl, hlo, ?_, r⟩
    have hne : g ≠ p.block := fun hc => hp (by simp [Value.ownBlock, hc])
    rw [Below.heap_setCell w p u g hne]; exact hg
def Fz (w : World) (b : Nat) : Prop := ∀ q, w.frozen? ⟨b, q, none⟩ = false
theorem Fz.new (w : World) (c : Array Value) (t : TypeId) : Fz (w.alloc (.cells c t)) w.heap.size := fun q => World.frozen?_alloc_at _ _ _ _ rfl
theorem Fz.below {w w' : World} {b B : Nat} (h : Fz w b) (k : Below B w w') (hb : b < B) : Fz w' b := fun q => (k.frozen (p := ⟨b, q, none⟩) hb).trans (h q)
theorem Fz.set {w : World} {b : Nat} (h : Fz w b) (p : Addr) (v : Value) : Fz (w.setCell p v) b := fun q => (World.frozen?_setCell _ _ _ _).trans (h q)
theorem Mk.circuit {w : World} {lo lo2 b m oc : Nat} {x y : Int} {gs : List G3} {os : List Int} {G : Option Nat} {O : Option Addr} (hm : Mk w lo b x y gs G) (ho : OM w b G lo2 (.slice O m oc) m os) (hl : lo ≤ lo2) :
    ∃ Ag cg, BxC w b x y Ag gs.length cg none 0 0 ∧ BxC (w.setCell ⟨b, 3, none⟩ (.slice O m oc)) b x y Ag gs.length cg O m oc ∧ OwnC (w.setCell ⟨b, 3, none⟩ (.slice O m oc)) lo w.heap.size Ag gs.length cg O m oc gs os ∧ w.frozen? ⟨b, 3, none⟩ = false := by
  obtain ⟨h1, h2, hf, Ag, cg, hx, hg, rfl⟩ := hm
  have hne : (Value.slice O m oc).ownBlock ≠ some b := fun hc => (ho.2 b hc).1 rfl
  exact ⟨Ag, cg, hx, hx.setO O m oc, ⟨hg.far1 _ _ h2, (ho.1.lo_ hl).far1 _ _ hne, fun g hg ho' => (ho.2 g ho').2 hg⟩, hf 3⟩
theorem Mk.size {w : World} {lo b : Nat} {x y : Int} {gs : List G3} {G : Option Nat} (hm : Mk w lo b x y gs G) : b < w.heap.size := hm.1
def RetCi (w : World) (x y : Int) (gs : List G3) (os : List Int) (e : Ending) (w' : World) : Prop :=
  ∃ Ag cg Ao co, e = .returned (.agg #[.int .i64 x, .int .i64 y, .slice Ag gs.length cg, .slice Ao os.length co]) ∧ OwnC w' w.heap.size w'.heap.size Ag gs.length cg Ao os.length co gs os ∧ Below w.heap.size w w'
theorem RetCi.mk_ {w : World} {x y : Int} {gs : List G3} {os : List Int} {e : Ending} {w' : World} {Ag Ao : Option Addr} {cg m co : Nat} (hm : os.length = m) (he : e = .returned (.agg #[.int .i64 x, .int .i64 y, .slice Ag gs.length cg, .slice Ao m co])) (hw : OwnC w' w.heap.size w'.heap.size Ag gs.length cg Ao m co gs os) (hb : Below w.heap.size w w') : RetCi w x y gs os e w' := by
  subst hm; exact ⟨Ag, cg, Ao, co, he, hw, hb⟩
def RIn (w : World) (lo hi : Nat) (A : Option Addr) (n : Nat) (xs : List Int) : Prop := RI w A n xs ∧ (0 < n → ∀ k o, A = some ⟨k, o, none⟩ → lo ≤ k ∧ k < hi)
def OwnCr (w : World) (lo hi : Nat) (Ag : Option Addr) (ng cg : Nat) (Ao : Option Addr) (no co : Nat) (gs : List G3) (os : List Int) : Prop :=
  OwnG w lo hi (.slice Ag ng cg) ng gs ∧ RIn w lo hi Ao no os
section
variable {w w' : World} {lo hi : Nat} {Ag : Option Addr} {ng cg : Nat} {Ao : Option Addr} {no co : Nat} {gs : List G3} {os : List Int}
theorem RIn.below {B : Nat} (h : RIn w lo hi Ao no os) (hb : Below B w w') (hB : w.heap.size ≤ B ∨ hi ≤ B) : RIn w' lo hi Ao no os := by
  refine ⟨⟨h.1.1, fun hn => ?_⟩, h.2⟩
  obtain ⟨b, o, hA, hlt, hc⟩ := h.1.2 hn
  have hk := h.2 hn b o hA
  exact ⟨b, o, hA, Nat.lt_of_lt_of_le hlt hb.size, fun j hj => (hb.cell (p := ⟨b, o + j, none⟩) (by show b < B; omega)).trans (hc j hj)⟩
theorem RIn.chg {lo' hi' : Nat} (h : RIn w lo hi Ao no os) (k : Chg lo' hi' w w') (hd : hi ≤ lo' ∨ hi' ≤ lo) : RIn w' lo hi Ao no os := by
  refine ⟨⟨h.1.1, fun hn => ?_⟩, h.2⟩
  obtain ⟨b, o, hA, hlt, hc⟩ := h.1.2 hn
  have hk := h.2 hn b o hA
  exact ⟨b, o, hA, Nat.lt_of_lt_of_le hlt k.size, fun j hj => cell_chg (hc j hj) k (by show b < lo' ∨ hi' ≤ b; omega)⟩
theorem OwnCr.below {B : Nat} (h : OwnCr w lo hi Ag ng cg Ao no co gs os) (hb : Below B w w') (hB : w.heap.size ≤ B ∨ hi ≤ B) : OwnCr w' lo hi Ag ng cg Ao no co gs os := ⟨h.1.below hb hB, h.2.below hb hB⟩
theorem OwnCr.chg {lo' hi' : Nat} (h : OwnCr w lo hi Ag ng cg Ao no co gs os) (k : Chg lo' hi' w w') (hd : hi ≤ lo' ∨ hi' ≤ lo) : OwnCr w' lo hi Ag ng cg Ao no co gs os := ⟨h.1.chg k hd, h.2.chg k hd⟩
theorem OwnCr.reads (h : OwnCr w lo hi Ag ng cg Ao no co gs os) : RG w Ag ng gs ∧ RI w Ao no os := ⟨h.1.reads, h.2.1⟩
theorem OwnCr.lo_ {lo' : Nat} (h : OwnCr w lo hi Ag ng cg Ao no co gs os) (hl : lo' ≤ lo) : OwnCr w lo' hi Ag ng cg Ao no co gs os := ⟨h.1.lo_ hl, h.2.1, fun hn k o hA => ⟨Nat.le_trans hl (h.2.2 hn k o hA).1, (h.2.2 hn k o hA).2⟩⟩
theorem OwnC.toR (h : OwnC w lo hi Ag ng cg Ao no co gs os) : OwnCr w lo hi Ag ng cg Ao no co gs os := by
  refine ⟨h.1, h.2.1.reads, fun hn k o hA => ?_⟩
  obtain ⟨g, hg, h1, h2, _⟩ := h.2.1.some_ hn
  rw [hA] at hg
  simp only [Option.some.injEq, Addr.mk.injEq, and_true] at hg
  omega
end
theorem ciNew_any (x y : Int) (w : World) : Calls Try.prog 93 #[.int .i64 x, .int .i64 y] w fun e w' => e = .returned (.pointer (some ⟨w.heap.size, 0, none⟩)) ∧ w.alloc (.cells #[.int .i64 x, .int .i64 y, .slice none 0 0, .slice none 0 0] 80) = w' := by
  go_enter Try.func93, Try.ntmps93
  go_wp2
  go_ret
  exact ⟨rfl, rfl⟩
theorem RIn.far {w : World} {lo hi no : Nat} {Ao : Option Addr} {os : List Int} (h : RIn w lo hi Ao no os) (p : Addr) (u : Value) (hp : p.block < lo ∨ hi ≤ p.block) : RIn (w.setCell p u) lo hi Ao no os := by
  refine ⟨⟨h.1.1, fun hn => ?_⟩, h.2⟩
  obtain ⟨b, o, hA, hlt, hc⟩ := h.1.2 hn
  have hk := h.2 hn b o hA
  exact ⟨b, o, hA, by simpa using hlt, fun j hj => (World.cell?_setCell_other _ _ _ _ (fun he => by have := congrArg Addr.block he; simp at this; omega)).trans (hc j hj)⟩
theorem OwnCr.far {w : World} {lo hi : Nat} {Ag : Option Addr} {ng cg : Nat} {Ao : Option Addr} {no co : Nat} {gs : List G3} {os : List Int} (h : OwnCr w lo hi Ag ng cg Ao no co gs os) (p : Addr) (u : Value) (hp : p.block < lo ∨ hi ≤ p.block) : OwnCr (w.setCell p u) lo hi Ag ng cg Ao no co gs os := ⟨h.1.far p u hp, h.2.far p u hp⟩
theorem OwnCr.hi_ {w : World} {lo hi hi' : Nat} {Ag : Option Addr} {ng cg : Nat} {Ao : Option Addr} {no co : Nat} {gs : List G3} {os : List Int} (h : OwnCr w lo hi Ag ng cg Ao no co gs os) (hl : hi ≤ hi') : OwnCr w lo hi' Ag ng cg Ao no co gs os := ⟨h.1.hi_ hl, h.2.1, fun hn k o hA => ⟨(h.2.2 hn k o hA).1, Nat.lt_of_lt_of_le (h.2.2 hn k o hA).2 hl⟩⟩
theorem OwnCr.set4 {w : World} {b lo hi : Nat} {A1 : Option Addr} {n1 c1 : Nat} {A2 : Option Addr} {n2 c2 : Nat} {gs : List G3} {os : List Int} (h : OwnCr w lo hi A1 n1 c1 A2 n2 c2 gs os) (hb : b < lo ∨ hi ≤ b) (x y : Int) (Ag : Option Addr) (ng cg : Nat) (Ao : Option Addr) (no co : Nat) :
    OwnCr ((((w.setCell ⟨b, 0, none⟩ (.int .i64 x)).setCell ⟨b, 1, none⟩ (.int .i64 y)).setCell ⟨b, 2, none⟩ (.slice Ag ng cg)).setCell ⟨b, 3, none⟩ (.slice Ao no co)) lo hi A1 n1 c1 A2 n2 c2 gs os :=
  (((h.far ⟨b, 0, none⟩ _ hb).far ⟨b, 1, none⟩ _ hb).far ⟨b, 2, none⟩ _ hb).far ⟨b, 3, none⟩ _ hb
def RetCir (w : World) (x y : Int) (gs : List G3) (os : List Int) (e : Ending) (w' : World) : Prop :=
  ∃ Ag cg Ao co, e = .returned (.agg #[.int .i64 x, .int .i64 y, .slice Ag gs.length cg, .slice Ao os.length co]) ∧ OwnCr w' w.heap.size w'.heap.size Ag gs.length cg Ao os.length co gs os ∧ Below w.heap.size w w'
theorem RetCir.mk_ {w : World} {x y : Int} {gs : List G3} {os : List Int} {e : Ending} {w' : World} {Ag Ao : Option Addr} {cg m co : Nat} (hm : os.length = m) (he : e = .returned (.agg #[.int .i64 x, .int .i64 y, .slice Ag gs.length cg, .slice Ao m co])) (hw : OwnCr w' w.heap.size w'.heap.size Ag gs.length cg Ao m co gs os) (hb : Below w.heap.size w w') : RetCir w x y gs os e w' := by
  subst hm; exact ⟨Ag, cg, Ao, co, he, hw, hb⟩
def RetCr (w : World) (o : Option Ci) (e : Ending) (w' : World) : Prop :=
  ∃ Ag cg Ao co, e = .returned (.tuple #[.agg #[.int .i64 (o.getD ⟨0, 0, [], []⟩).i0, .int .i64 (o.getD ⟨0, 0, [], []⟩).i1, .slice Ag (o.getD ⟨0, 0, [], []⟩).gs.length cg, .slice Ao (o.getD ⟨0, 0, [], []⟩).os.length co], .bool o.isSome]) ∧
    OwnCr w' w.heap.size w'.heap.size Ag (o.getD ⟨0, 0, [], []⟩).gs.length cg Ao (o.getD ⟨0, 0, [], []⟩).os.length co (o.getD ⟨0, 0, [], []⟩).gs (o.getD ⟨0, 0, [], []⟩).os ∧ Below w.heap.size w w'
theorem RetCr.none_ {w : World} {o : Option Ci} {e : Ending} {w' : World} (hb : Below w.heap.size w w') (ho : o = none) (he : e = .returned (.tuple #[.agg #[.int .i64 0, .int .i64 0, .slice none 0 0, .slice none 0 0], .bool false])) : RetCr w o e w' := by
  subst ho; exact ⟨none, 0, none, 0, he, (OwnC.none_ _ _ _).toR, hb⟩
theorem RetCr.some_ {w : World} {o : Option Ci} {x y : Int} {gs : List G3} {os : List Int} {ng cg no co : Nat} {Ag Ao : Option Addr} {e : Ending} {w' : World} (hb : Below w.heap.size w w') (ho : o = some ⟨x, y, gs, os⟩) (hng : gs.length = ng) (hno : os.length = no)
    (he : e = .returned (.tuple #[.agg #[.int .i64 x, .int .i64 y, .slice Ag ng cg, .slice Ao no co], .bool true])) (hw : OwnCr w' w.heap.size w'.heap.size Ag ng cg Ao no co gs os) : RetCr w o e w' := by
  subst ho; subst hng; subst hno; exact ⟨Ag, cg, Ao, co, he, hw, hb⟩
theorem RetC.of {w : World} {o : Option Ci} {x y : Int} {gs : List G3} {os : List Int} {t : Bool} {cg co : Nat} {Ag Ao : Option Addr} {e : Ending} {w' : World} (hQ : o.getD ⟨0, 0, [], []⟩ = ⟨x, y, gs, os⟩) (ht : o.isSome = t) (he : e = .returned (.tuple #[.agg #[.int .i64 x, .int .i64 y, .slice Ag gs.length cg, .slice Ao os.length co], .bool t])) (hw : OwnC w' w.heap.size w'.heap.size Ag gs.length cg Ao os.length co gs os) (hb : Below w.heap.size w w') : RetC w o e w' := by
  refine ⟨Ag, cg, Ao, co, ?_⟩; rw [hQ, ht]; exact ⟨he, hw, hb⟩
theorem RetCr.of {w : World} {o : Option Ci} {x y : Int} {gs : List G3} {os : List Int} {t : Bool} {cg co : Nat} {Ag Ao : Option Addr} {e : Ending} {w' : World} (hQ : o.getD ⟨0, 0, [], []⟩ = ⟨x, y, gs, os⟩) (ht : o.isSome = t) (he : e = .returned (.tuple #[.agg #[.int .i64 x, .int .i64 y, .slice Ag gs.length cg, .slice Ao os.length co], .bool t])) (hw : OwnCr w' w.heap.size w'.heap.size Ag gs.length cg Ao os.length co gs os) (hb : Below w.heap.size w w') : RetCr w o e w' := by
  refine ⟨Ag, cg, Ao, co, ?_⟩; rw [hQ, ht]; exact ⟨he, hw, hb⟩
theorem RetC.to {w : World} {o : Option Ci} {x y : Int} {gs : List G3} {os : List Int} {t : Bool} {e : Ending} {w' : World} (h : RetC w o e w') (hQ : o.getD ⟨0, 0, [], []⟩ = ⟨x, y, gs, os⟩) (ht : o.isSome = t) :
    ∃ Ag cg Ao co, e = .returned (.tuple #[.agg #[.int .i64 x, .int .i64 y, .slice Ag gs.length cg, .slice Ao os.length co], .bool t]) ∧ OwnC w' w.heap.size w'.heap.size Ag gs.length cg Ao os.length co gs os ∧ Below w.heap.size w w' := by
  obtain ⟨Ag, cg, Ao, co, h⟩ := h; rw [hQ, ht] at h; exact ⟨Ag, cg, Ao, co, h⟩
theorem RetCr.to {w : World} {o : Option Ci} {x y : Int} {gs : List G3} {os : List Int} {t : Bool} {e : Ending} {w' : World} (h : RetCr w o e w') (hQ : o.getD ⟨0, 0, [], []⟩ = ⟨x, y, gs, os⟩) (ht : o.isSome = t) :
    ∃ Ag cg Ao co, e = .returned (.tuple #[.agg #[.int .i64 x, .int .i64 y, .slice Ag gs.length cg, .slice Ao os.length co], .bool t]) ∧ OwnCr w' w.heap.size w'.heap.size Ag gs.length cg Ao os.length co gs os ∧ Below w.heap.size w w' := by
  obtain ⟨Ag, cg, Ao, co, h⟩ := h; rw [hQ, ht] at h; exact ⟨Ag, cg, Ao, co, h⟩
end Go.Proofs.Ytcdhmcpocohbpaa
