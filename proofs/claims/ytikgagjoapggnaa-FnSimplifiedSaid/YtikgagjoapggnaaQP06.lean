/- Contracts of the values of a circuit's wires, of an arithmetic circuit's wires, and of the elements of a list at places. Contracts of makers' adders. Contracts: spans, a circuit that is valid, a gadget. -/
import Derived.StillTailTactics
import Derived.Test.YtikgagjoapggnaaQP05
namespace Go.Proofs.Ytikgagjoapggnaa
open Go.RowKit
set_option linter.unusedVariables false
set_option linter.unusedSimpArgs false
set_option maxRecDepth 100000 in
set_option maxHeartbeats 4000000 in
theorem ciValues_any (x y : Int) (Ag : Option Addr) (ng cg : Nat) (Ao : Option Addr) (no co : Nat) (A : Option Addr) (n c : Nat) (gs : List G3) (inp : List Int) (w : World) (hg : RG w Ag ng gs) (ha : RI w A n inp) (hi : allB 0 1 inp = true) (hgat : gatesB n gs ng = true) (hng : ng ≤ 300) (hn : n ≤ 40) :
    Calls Try.prog 84 #[.agg #[.int .i64 x, .int .i64 y, .slice Ag ng cg, .slice Ao no co], .slice A n c] w (RetI w (vals gs inp ng)) := by
  have hB : Below w.heap.size w (w.alloc (.cells #[.int .i64 x, .int .i64 y, .slice Ag ng cg, .slice Ao no co] 26)) := (Below.refl _ _).alloc (Nat.le_refl _) _
  have hla := ha.len
  have hvb : ∀ k, k ≤ ng → allB 0 1 (vals gs inp k) = true := fun k hk => vals_bd (n := n) (by omega) hi k ng hk hgat
  have hvl : ∀ k, (vals gs inp k).length = n + k := fun k => by rw [vals_len]; omega
  have HV := Lib.hid hvb; have HL := Lib.hid hvl; clear hvb hvl
  go_enter Try.func84, Try.ntmps84
  go_wp2_with fail
  refine (l1Own_any A n c inp _ (ha.below hB (Nat.le_refl _)) (by omega)).mono ?_
  rintro e w1 ⟨A1, c1, rfl, hown1, hb1⟩
  have hz1 := hb1.size
  simp only [World.size_alloc] at hz1 hown1
  have hz1' : w.heap.size < w1.heap.size := by omega
  obtain ⟨hc1, hf1⟩ := bcell hb1
  have hb1' := hb1
  simp only [World.size_alloc] at hb1'
  go_wp2_with fail
  go_loopw [5, 13] (fun v i wr => ∃ (k : Nat) (A' : Option Addr) (c' : Nat), k ≤ ng ∧ i = .int .i64 k ∧ v = .slice A' (n + k : Nat) c' ∧ Own wr (w.heap.size + 1) wr.heap.size (.slice A' (n + k) c') (n + k) (vals gs inp k) ∧ Below (w.heap.size + 1) (w.alloc (.cells #[.int .i64 x, .int .i64 y, .slice Ag ng cg, .slice Ao no co] 26)) wr) (fun _ i _ => ng - (intOf i).toNat)
  case atStart => exact ⟨0, _, _, Nat.zero_le _, rfl, rfl, hown1, hb1'⟩
  case round =>
    obtain ⟨k, A', c', hk, rfl, rfl, hown, hb⟩ := hrel
    clear hown1 hc1 hf1 hb1 hb1' hz1 hz1'
    have hbw : Below w.heap.size w wr := hB.trans (hb.mono (by omega))
    by_cases hlt : k < ng
    · obtain ⟨b, o, rfl, hbB, c1, c2, c3⟩ := (hg.below hbw (Nat.le_refl _)).at_ hlt
      have hgt := gatesB_at hgat hlt
      have hsn := Lib.hid (vals_succ gs inp k)
      have hvk := HV.out k (by omega)
      have hlk := HL.out k
      have hz := hb.size
      simp only [World.size_alloc] at hz
      generalize vals gs inp k = vs at *
      generalize gg gs k = G at *
      obtain ⟨gk, ga, gb⟩ := G
      dsimp only at c1 c2 c3
      cases hgt with
      | xor_ hk0 a0 a1 b0 b1 =>
        dsimp only at hk0 a0 a1 b0 b1
        obtain ⟨a, rfl⟩ := Int.eq_ofNat_of_zero_le a0
        obtain ⟨b', rfl⟩ := Int.eq_ofNat_of_zero_le b0
        subst hk0
        obtain ⟨g, rfl, hg1, hg2, hg3⟩ := hown.some_ (by omega)
        obtain ⟨d1, _⟩ := hown.cellAt (k := a) (by omega)
        obtain ⟨d2, _⟩ := hown.cellAt (k := b') (by omega)
        have hsn' : Hid (vals gs inp (k + 1) = vs ++ [bits .xor .i64 (gi vs a) (gi vs b')]) := Lib.hid (by rw [hsn.out, gval, if_pos rfl]; rfl)
        have hbx : Below wr.heap.size wr (wr.alloc (.cells #[.int .i64 0, .int .i64 a, .int .i64 b'] 50)) := (Below.refl _ _).alloc (Nat.le_refl _) _
        have e1 := cell_below d1 hbx
        have e2 := cell_below d2 hbx
        have hownA := fun q => ((hown.below hbx (.inl (Nat.le_refl _))).drewN q).alloc (.cells #[.int .i64 (bits .xor .i64 (gi vs a) (gi vs b'))] 3)
        have hbA := fun q => (below_drewN (hb.alloc hz (.cells #[.int .i64 0, .int .i64 a, .int .i64 b'] 50)) q).alloc (by simp; omega) (.cells #[.int .i64 (bits .xor .i64 (gi vs a) (gi vs b'))] 3)
        clear d1 d2
        go_wp2_with fail
        go_region_held3 (fun w' => w'.cell? ⟨wr.heap.size, 1, none⟩ = some (.int .i64 a) ∧ w'.cell? ⟨wr.heap.size, 2, none⟩ = some (.int .i64 b') ∧ w'.cell? ⟨g, a, none⟩ = some (.int .i64 (gi vs a)) ∧ w'.cell? ⟨g, b', none⟩ = some (.int .i64 (gi vs b')))
          (first | go_keep | (go_split_ands; exact ⟨hk5 _ _ _ (by assumption) (fun g9 hg9 he9 => by first | omega | (simp only [Option.some.injEq, Addr.mk.injEq, and_true] at hg9; omega)), hk5 _ _ _ (by assumption) (fun g9 hg9 he9 => by first | omega | (simp only [Option.some.injEq, Addr.mk.injEq, and_true] at hg9; omega)), hk5 _ _ _ (by assumption) (fun g9 hg9 he9 => by first | omega | (simp only [Option.some.injEq, Addr.mk.injEq, and_true] at hg9; omega)), hk5 _ _ _ (by assumption) (fun g9 hg9 he9 => by first | omega | (simp only [Option.some.injEq, Addr.mk.injEq, and_true] at hg9; omega))⟩))
          (first | (refine step_appI _ (by rfl) _ _ (by rfl) (by rfl) (hownA 1) (by rfl) (RI_one _ _ _ _ (by simp)) (by omega) (by first | omega | (simp; done) | (simp; omega)) ?_; intro A5 c5 w5 hown5 hg5 hat5 hk5))
        have hb5 := below_app (hbA 1) (hownA 1) hg5 (by simp; omega) (Nat.le_refl _)
        rw [← hsn'.out] at hown5
        clear hownA hbA hg5 hat5 hk5 e1 e2 hown hb
        go_wp2
        go_roundw
        case rel => exact ⟨k + 1, _, _, by omega, by go_num, rfl, hown5, hb5⟩
        case measure => simp [intOf]; omega
      | and_ hk0 a0 a1 b0 b1 =>
        dsimp only at hk0 a0 a1 b0 b1
        obtain ⟨a, rfl⟩ := Int.eq_ofNat_of_zero_le a0
        obtain ⟨b', rfl⟩ := Int.eq_ofNat_of_zero_le b0
        subst hk0
        obtain ⟨g, rfl, hg1, hg2, hg3⟩ := hown.some_ (by omega)
        obtain ⟨d1, _⟩ := hown.cellAt (k := a) (by omega)
        obtain ⟨d2, _⟩ := hown.cellAt (k := b') (by omega)
        have hsn' : Hid (vals gs inp (k + 1) = vs ++ [bits .and .i64 (gi vs a) (gi vs b')]) := Lib.hid (by rw [hsn.out, gval, if_neg (by show ¬ ((1 : Int) = 0); decide), if_pos rfl]; rfl)
        have hbx : Below wr.heap.size wr (wr.alloc (.cells #[.int .i64 1, .int .i64 a, .int .i64 b'] 50)) := (Below.refl _ _).alloc (Nat.le_refl _) _
        have e1 := cell_below d1 hbx
        have e2 := cell_below d2 hbx
        have hownA := fun q => ((hown.below hbx (.inl (Nat.le_refl _))).drewN q).alloc (.cells #[.int .i64 (bits .and .i64 (gi vs a) (gi vs b'))] 3)
        have hbA := fun q => (below_drewN (hb.alloc hz (.cells #[.int .i64 1, .int .i64 a, .int .i64 b'] 50)) q).alloc (by simp; omega) (.cells #[.int .i64 (bits .and .i64 (gi vs a) (gi vs b'))] 3)
        clear d1 d2
        go_wp2_with fail
        go_region_held3 (fun w' => w'.cell? ⟨wr.heap.size, 1, none⟩ = some (.int .i64 a) ∧ w'.cell? ⟨wr.heap.size, 2, none⟩ = some (.int .i64 b') ∧ w'.cell? ⟨g, a, none⟩ = some (.int .i64 (gi vs a)) ∧ w'.cell? ⟨g, b', none⟩ = some (.int .i64 (gi vs b')))
          (first | go_keep | (go_split_ands; exact ⟨hk5 _ _ _ (by assumption) (fun g9 hg9 he9 => by first | omega | (simp only [Option.some.injEq, Addr.mk.injEq, and_true] at hg9; omega)), hk5 _ _ _ (by assumption) (fun g9 hg9 he9 => by first | omega | (simp only [Option.some.injEq, Addr.mk.injEq, and_true] at hg9; omega)), hk5 _ _ _ (by assumption) (fun g9 hg9 he9 => by first | omega | (simp only [Option.some.injEq, Addr.mk.injEq, and_true] at hg9; omega)), hk5 _ _ _ (by assumption) (fun g9 hg9 he9 => by first | omega | (simp only [Option.some.injEq, Addr.mk.injEq, and_true] at hg9; omega))⟩))
          (first | (refine step_appI _ (by rfl) _ _ (by rfl) (by rfl) (hownA 1) (by rfl) (RI_one _ _ _ _ (by simp)) (by omega) (by first | omega | (simp; done) | (simp; omega)) ?_; intro A5 c5 w5 hown5 hg5 hat5 hk5))
        have hb5 := below_app (hbA 1) (hownA 1) hg5 (by simp; omega) (Nat.le_refl _)
        rw [← hsn'.out] at hown5
        clear hownA hbA hg5 hat5 hk5 e1 e2 hown hb
        go_wp2
        go_roundw
        case rel => exact ⟨k + 1, _, _, by omega, by go_num, rfl, hown5, hb5⟩
        case measure => simp [intOf]; omega
      | not_ hk0 a0 a1 b0 =>
        dsimp only at hk0 a0 a1 b0
        obtain ⟨a, rfl⟩ := Int.eq_ofNat_of_zero_le a0
        subst hk0
        subst b0
        obtain ⟨g, rfl, hg1, hg2, hg3⟩ := hown.some_ (by omega)
        obtain ⟨d1, _⟩ := hown.cellAt (k := a) (by omega)
        have hvx := allB_gi hvk (j := a) (by omega)
        obtain ⟨hv0, hv1⟩ := hvx
        have hsn' : Hid (vals gs inp (k + 1) = vs ++ [1 - gi vs a]) := Lib.hid (by rw [hsn.out, gval, if_neg (by show ¬ ((2 : Int) = 0); decide), if_neg (by show ¬ ((2 : Int) = 1); decide), if_pos rfl]; rfl)
        have hbx : Below wr.heap.size wr (wr.alloc (.cells #[.int .i64 2, .int .i64 a, .int .i64 0] 50)) := (Below.refl _ _).alloc (Nat.le_refl _) _
        have e1 := cell_below d1 hbx
        have hownA := (hown.below hbx (.inl (Nat.le_refl _))).alloc (.cells #[.int .i64 (1 - gi vs a)] 3)
        have hbA := (hb.alloc hz (.cells #[.int .i64 2, .int .i64 a, .int .i64 0] 50)).alloc (by simp; omega) (.cells #[.int .i64 (1 - gi vs a)] 3)
        clear d1
        go_wp2_with (at_builtin; refine wpList_app _ rfl _ _ rfl rfl hownA rfl (RI_one _ _ _ _ (by simp)) (by omega) (by first | omega | (simp; done) | (simp; omega)) ?_; intro A5 c5 w5 hown5 hg5 hat5)
        have hb5 := below_app hbA hownA hg5 (by simp; omega) (Nat.le_refl _)
        rw [← hsn'.out] at hown5
        clear hownA hbA hg5 hat5 e1 hown hb
        go_wp2
        go_roundw
        case rel => exact ⟨k + 1, _, _, by omega, by go_num, rfl, hown5, hb5⟩
        case measure => simp [intOf]; omega
      | one_ hk0 a0 b0 =>
        dsimp only at hk0 a0 b0
        subst hk0
        subst a0
        subst b0
        have hsn' : Hid (vals gs inp (k + 1) = vs ++ [1]) := Lib.hid (by rw [hsn.out, gval, if_neg (by show ¬ ((3 : Int) = 0); decide), if_neg (by show ¬ ((3 : Int) = 1); decide), if_neg (by show ¬ ((3 : Int) = 2); decide)])
        have hbx : Below wr.heap.size wr (wr.alloc (.cells #[.int .i64 3, .int .i64 0, .int .i64 0] 50)) := (Below.refl _ _).alloc (Nat.le_refl _) _
        have hownA := (hown.below hbx (.inl (Nat.le_refl _))).alloc (.cells #[.int .i64 1] 3)
        have hbA := (hb.alloc hz (.cells #[.int .i64 3, .int .i64 0, .int .i64 0] 50)).alloc (by simp; omega) (.cells #[.int .i64 1] 3)
        go_wp2_with (at_builtin; refine wpList_app _ rfl _ _ rfl rfl hownA rfl (RI_one _ _ _ _ (by simp)) (by omega) (by first | omega | (simp; done) | (simp; omega)) ?_; intro A5 c5 w5 hown5 hg5 hat5)
        have hb5 := below_app hbA hownA hg5 (by simp; omega) (Nat.le_refl _)
        rw [← hsn'.out] at hown5
        clear hownA hbA hg5 hat5 hown hb
        go_wp2
        go_roundw
        case rel => exact ⟨k + 1, _, _, by omega, by go_num, rfl, hown5, hb5⟩
        case measure => simp [intOf]; omega
    · obtain rfl : ng = k := by omega
      go_wp2
      go_ret
      exact RetI.mk_ (HL.out ng) rfl (hown.lo_ (by omega)) hbw
set_option maxRecDepth 100000 in
set_option maxHeartbeats 4000000 in
theorem Circuit_values_any (x y : Int) (Ag : Option Addr) (ng cg : Nat) (Ao : Option Addr) (no co : Nat) (A : Option Addr) (n c : Nat) (gs : List G3) (inp : List Int) (w : World) (hg : RG w Ag ng gs) (ha : RI w A n inp) (hi : allB 0 1 inp = true) (hgat : gatesB n gs ng = true) (hng : ng ≤ 300) (hn : n ≤ 40) :
    Calls Try.prog 82 #[.agg #[.int .i64 x, .int .i64 y, .slice Ag ng cg, .slice Ao no co], .slice A n c] w (RetI w (vals gs inp ng)) := by
  have hB : Below w.heap.size w (w.alloc (.cells #[.int .i64 x, .int .i64 y, .slice Ag ng cg, .slice Ao no co] 26)) := (Below.refl _ _).alloc (Nat.le_refl _) _
  have hla := ha.len
  have hvb : ∀ k, k ≤ ng → allB 0 1 (vals gs inp k) = true := fun k hk => vals_bd (n := n) (by omega) hi k ng hk hgat
  have hvl : ∀ k, (vals gs inp k).length = n + k := fun k => by rw [vals_len]; omega
  have HV := Lib.hid hvb; have HL := Lib.hid hvl; clear hvb hvl
  go_enter Try.func82, Try.ntmps82
  go_wp2_with fail
  refine (Clone_any A n c inp _ (ha.below hB (Nat.le_refl _)) (by omega)).mono ?_
  rintro e w1 ⟨A1, c1, rfl, hown1, hb1⟩
  have hz1 := hb1.size
  simp only [World.size_alloc] at hz1 hown1
  have hz1' : w.heap.size < w1.heap.size := by omega
  obtain ⟨hc1, hf1⟩ := bcell hb1
  have hb1' := hb1
  simp only [World.size_alloc] at hb1'
  go_wp2_with fail
  go_loopw [5, 14] (fun v i wr => ∃ (k : Nat) (A' : Option Addr) (c' : Nat), k ≤ ng ∧ i = .int .i64 k ∧ v = .slice A' (n + k : Nat) c' ∧ Own wr (w.heap.size + 1) wr.heap.size (.slice A' (n + k) c') (n + k) (vals gs inp k) ∧ Below (w.heap.size + 1) (w.alloc (.cells #[.int .i64 x, .int .i64 y, .slice Ag ng cg, .slice Ao no co] 26)) wr) (fun _ i _ => ng - (intOf i).toNat)
  case atStart => exact ⟨0, _, _, Nat.zero_le _, rfl, rfl, hown1, hb1'⟩
  case round =>
    obtain ⟨k, A', c', hk, rfl, rfl, hown, hb⟩ := hrel
    clear hown1 hc1 hf1 hb1 hb1' hz1 hz1'
    have hbw : Below w.heap.size w wr := hB.trans (hb.mono (by omega))
    by_cases hlt : k < ng
    · obtain ⟨b, o, rfl, hbB, c1, c2, c3⟩ := (hg.below hbw (Nat.le_refl _)).at_ hlt
      have hgt := gatesB_at hgat hlt
      have hsn := Lib.hid (vals_succ gs inp k)
      have hvk := HV.out k (by omega)
      have hlk := HL.out k
      have hz := hb.size
      simp only [World.size_alloc] at hz
      generalize vals gs inp k = vs at *
      generalize gg gs k = G at *
      obtain ⟨gk, ga, gb⟩ := G
      dsimp only at c1 c2 c3
      cases hgt with
      | xor_ hk0 a0 a1 b0 b1 =>
        dsimp only at hk0 a0 a1 b0 b1
        obtain ⟨a, rfl⟩ := Int.eq_ofNat_of_zero_le a0
        obtain ⟨b', rfl⟩ := Int.eq_ofNat_of_zero_le b0
        subst hk0
        obtain ⟨g, rfl, hg1, hg2, hg3⟩ := hown.some_ (by omega)
        obtain ⟨d1, _⟩ := hown.cellAt (k := a) (by omega)
        obtain ⟨d2, _⟩ := hown.cellAt (k := b') (by omega)
        have hsn' : Hid (vals gs inp (k + 1) = vs ++ [bits .xor .i64 (gi vs a) (gi vs b')]) := Lib.hid (by rw [hsn.out, gval, if_pos rfl]; rfl)
        have hbx : Below wr.heap.size wr (wr.alloc (.cells #[.int .i64 0, .int .i64 a, .int .i64 b'] 50)) := (Below.refl _ _).alloc (Nat.le_refl _) _
        have e1 := cell_below d1 hbx
        have e2 := cell_below d2 hbx
        have hownA := fun q => ((hown.below hbx (.inl (Nat.le_refl _))).drewN q).alloc (.cells #[.int .i64 (bits .xor .i64 (gi vs a) (gi vs b'))] 3)
        have hbA := fun q => (below_drewN (hb.alloc hz (.cells #[.int .i64 0, .int .i64 a, .int .i64 b'] 50)) q).alloc (by simp; omega) (.cells #[.int .i64 (bits .xor .i64 (gi vs a) (gi vs b'))] 3)
        clear d1 d2
        go_wp2_with fail
        go_quiet (fail)
        go_wp2_with (at_builtin; refine wpList_appI _ rfl _ _ rfl rfl (hownA _) rfl (RI_one _ _ _ _ (by simp)) (by omega) (by first | omega | (simp; done) | (simp; omega)) ?_; intro A5 c5 w5 hown5 hg5 hat5 hk5)
        have hb5 := below_app (hbA _) (hownA _) hg5 (by simp; omega) (Nat.le_refl _)
        rw [← hsn'.out] at hown5
        clear hownA hbA hg5 hat5 hk5 e1 e2 hown hb
        go_wp2
        go_roundw
        case rel => exact ⟨k + 1, _, _, by omega, by go_num, rfl, hown5, hb5⟩
        case measure => simp [intOf]; omega
      | and_ hk0 a0 a1 b0 b1 =>
        dsimp only at hk0 a0 a1 b0 b1
        obtain ⟨a, rfl⟩ := Int.eq_ofNat_of_zero_le a0
        obtain ⟨b', rfl⟩ := Int.eq_ofNat_of_zero_le b0
        subst hk0
        obtain ⟨g, rfl, hg1, hg2, hg3⟩ := hown.some_ (by omega)
        obtain ⟨d1, _⟩ := hown.cellAt (k := a) (by omega)
        obtain ⟨d2, _⟩ := hown.cellAt (k := b') (by omega)
        have hsn' : Hid (vals gs inp (k + 1) = vs ++ [bits .and .i64 (gi vs a) (gi vs b')]) := Lib.hid (by rw [hsn.out, gval, if_neg (by show ¬ ((1 : Int) = 0); decide), if_pos rfl]; rfl)
        have hbx : Below wr.heap.size wr (wr.alloc (.cells #[.int .i64 1, .int .i64 a, .int .i64 b'] 50)) := (Below.refl _ _).alloc (Nat.le_refl _) _
        have e1 := cell_below d1 hbx
        have e2 := cell_below d2 hbx
        have hownA := fun q => ((hown.below hbx (.inl (Nat.le_refl _))).drewN q).alloc (.cells #[.int .i64 (bits .and .i64 (gi vs a) (gi vs b'))] 3)
        have hbA := fun q => (below_drewN (hb.alloc hz (.cells #[.int .i64 1, .int .i64 a, .int .i64 b'] 50)) q).alloc (by simp; omega) (.cells #[.int .i64 (bits .and .i64 (gi vs a) (gi vs b'))] 3)
        clear d1 d2
        go_wp2_with fail
        go_quiet (fail)
        go_wp2_with (at_builtin; refine wpList_appI _ rfl _ _ rfl rfl (hownA _) rfl (RI_one _ _ _ _ (by simp)) (by omega) (by first | omega | (simp; done) | (simp; omega)) ?_; intro A5 c5 w5 hown5 hg5 hat5 hk5)
        have hb5 := below_app (hbA _) (hownA _) hg5 (by simp; omega) (Nat.le_refl _)
        rw [← hsn'.out] at hown5
        clear hownA hbA hg5 hat5 hk5 e1 e2 hown hb
        go_wp2
        go_roundw
        case rel => exact ⟨k + 1, _, _, by omega, by go_num, rfl, hown5, hb5⟩
        case measure => simp [intOf]; omega
      | not_ hk0 a0 a1 b0 =>
        dsimp only at hk0 a0 a1 b0
        obtain ⟨a, rfl⟩ := Int.eq_ofNat_of_zero_le a0
        subst hk0
        subst b0
        obtain ⟨g, rfl, hg1, hg2, hg3⟩ := hown.some_ (by omega)
        obtain ⟨d1, _⟩ := hown.cellAt (k := a) (by omega)
        have hvx := allB_gi hvk (j := a) (by omega)
        obtain ⟨hv0, hv1⟩ := hvx
        have hsn' : Hid (vals gs inp (k + 1) = vs ++ [1 - gi vs a]) := Lib.hid (by rw [hsn.out, gval, if_neg (by show ¬ ((2 : Int) = 0); decide), if_neg (by show ¬ ((2 : Int) = 1); decide), if_pos rfl]; rfl)
        have hbx : Below wr.heap.size wr (wr.alloc (.cells #[.int .i64 2, .int .i64 a, .int .i64 0] 50)) := (Below.refl _ _).alloc (Nat.le_refl _) _
        have e1 := cell_below d1 hbx
        have hownA := (hown.below hbx (.inl (Nat.le_refl _))).alloc (.cells #[.int .i64 (1 - gi vs a)] 3)
        have hbA := (hb.alloc hz (.cells #[.int .i64 2, .int .i64 a, .int .i64 0] 50)).alloc (by simp; omega) (.cells #[.int .i64 (1 - gi vs a)] 3)
        clear d1
        go_wp2_with (at_builtin; refine wpList_app _ rfl _ _ rfl rfl hownA rfl (RI_one _ _ _ _ (by simp)) (by omega) (by first | omega | (simp; done) | (simp; omega)) ?_; intro A5 c5 w5 hown5 hg5 hat5)
        have hb5 := below_app hbA hownA hg5 (by simp; omega) (Nat.le_refl _)
        rw [← hsn'.out] at hown5
        clear hownA hbA hg5 hat5 e1 hown hb
        go_wp2
        go_roundw
        case rel => exact ⟨k + 1, _, _, by omega, by go_num, rfl, hown5, hb5⟩
        case measure => simp [intOf]; omega
      | one_ hk0 a0 b0 =>
        dsimp only at hk0 a0 b0
        subst hk0
        subst a0
        subst b0
        have hsn' : Hid (vals gs inp (k + 1) = vs ++ [1]) := Lib.hid (by rw [hsn.out, gval, if_neg (by show ¬ ((3 : Int) = 0); decide), if_neg (by show ¬ ((3 : Int) = 1); decide), if_neg (by show ¬ ((3 : Int) = 2); decide)])
        have hbx : Below wr.heap.size wr (wr.alloc (.cells #[.int .i64 3, .int .i64 0, .int .i64 0] 50)) := (Below.refl _ _).alloc (Nat.le_refl _) _
        have hownA := (hown.below hbx (.inl (Nat.le_refl _))).alloc (.cells #[.int .i64 1] 3)
        have hbA := (hb.alloc hz (.cells #[.int .i64 3, .int .i64 0, .int .i64 0] 50)).alloc (by simp; omega) (.cells #[.int .i64 1] 3)
        go_wp2_with (at_builtin; refine wpList_app _ rfl _ _ rfl rfl hownA rfl (RI_one _ _ _ _ (by simp)) (by omega) (by first | omega | (simp; done) | (simp; omega)) ?_; intro A5 c5 w5 hown5 hg5 hat5)
        have hb5 := below_app hbA hownA hg5 (by simp; omega) (Nat.le_refl _)
        rw [← hsn'.out] at hown5
        clear hownA hbA hg5 hat5 hown hb
        go_wp2
        go_roundw
        case rel => exact ⟨k + 1, _, _, by omega, by go_num, rfl, hown5, hb5⟩
        case measure => simp [intOf]; omega
    · obtain rfl : ng = k := by omega
      go_wp2
      go_ret
      exact RetI.mk_ (HL.out ng) rfl (hown.lo_ (by omega)) hbw
def RetRow (lo b : Nat) (x y : Int) (gs : List G3) (os : List Int) (G : Option Nat) (w : World) (e : Ending) (w' : World) : Prop :=
  ∃ G' O oc, e = .returned (.slice O os.length oc) ∧ Mk w' lo b x y gs G' ∧ Mv b G G' w w' ∧ OM w' b G' w.heap.size (.slice O os.length oc) os.length os
theorem RetRow.mk_ {lo b n : Nat} {x y : Int} {gs : List G3} {os : List Int} {G G' : Option Nat} {w w' : World} {e : Ending} {O : Option Addr} {oc : Nat} (hn : os.length = n) (he : e = .returned (.slice O n oc)) (hm : Mk w' lo b x y gs G') (hv : Mv b G G' w w') (ho : OM w' b G' w.heap.size (.slice O n oc) n os) : RetRow lo b x y gs os G w e w' := by
  subst hn; exact ⟨G', O, oc, he, hm, hv, ho⟩
theorem RetRow.open_ {lo b n : Nat} {x y : Int} {gs : List G3} {os : List Int} {G : Option Nat} {w w' : World} {e : Ending} (h : RetRow lo b x y gs os G w e w') (hn : os.length = n) :
    ∃ G' O oc, e = .returned (.slice O n oc) ∧ Mk w' lo b x y gs G' ∧ Mv b G G' w w' ∧ OM w' b G' w.heap.size (.slice O n oc) n os := by
  subst hn; exact h
theorem gdRange_any (a : Int) (n : Nat) (w : World) (ha : 0 ≤ a ∧ a ≤ 1000000) (hn : n ≤ 1000000) :
    Calls Try.prog 77 #[.int .i64 a, .int .i64 n] w (RetI w (spn a n)) := by
  have HS := Lib.hid (spn_snoc a)
  have hs0 : spn a 0 = [] := rfl
  have HL := Lib.hid (spn_len a)
  obtain ⟨ha0, ha1⟩ := ha
  have hnone : Own w w.heap.size w.heap.size (.slice none 0 0) 0 (spn a 0) ∧ Below w.heap.size w w := ⟨by rw [hs0]; exact Own.none_ _ _ _, Below.refl _ _⟩
  have hsome : Own (w.alloc (.cells #[] 3)) w.heap.size (w.alloc (.cells #[] 3)).heap.size (.slice (some ⟨w.heap.size, 0, none⟩) 0 0) 0 (spn a 0) ∧ Below w.heap.size w (w.alloc (.cells #[] 3)) := ⟨by rw [hs0]; exact (Own_new0 w _ (Nat.le_refl _)).now, (Below.refl _ _).alloc (Nat.le_refl _) _⟩
  go_enter Try.func77, Try.ntmps77
  go_wp2
  go_loopw [5, 6] (fun o i wr => ∃ (k : Nat) (O : Option Addr) (oc : Nat), k ≤ n ∧ i = .int .i64 k ∧ o = .slice O k oc ∧ Own wr w.heap.size wr.heap.size (.slice O k oc) k (spn a k) ∧ Below w.heap.size w wr) (fun _ i _ => n - (intOf i).toNat)
  case atStart => exact ⟨0, _, _, Nat.zero_le _, rfl, rfl, hnone.1, hnone.2⟩
  case round =>
    obtain ⟨k, O, oc, hk, rfl, rfl, hown, hb⟩ := hrel
    clear hnone hsome
    have hz := hb.size
    by_cases hlt : k < n
    · have hsn := Lib.hid (HS.out k)
      have hoA := hown.alloc (.cells #[.int .i64 (a + k)] 3)
      have hbA := hb.alloc hz (.cells #[.int .i64 (a + k)] 3)
      go_wp2_with (at_builtin; refine wpList_appI _ rfl _ _ rfl rfl hoA rfl (RI_one _ _ _ _ (by simp)) (by omega) (by first | omega | (simp; done) | (simp; omega)) ?_; intro A5 c5 w5 hown5 hg5 hat5 hk5)
      have hb5 := below_app hbA hoA hg5 (by simp; omega) (Nat.le_refl _)
      rw [← hsn.out] at hown5
      clear hoA hbA hg5 hat5 hk5 hown hb hsn
      go_wp2
      go_roundw
      case rel => exact ⟨k + 1, _, _, by omega, by go_num, rfl, hown5, hb5⟩
      case measure => simp [intOf]; omega
    · obtain rfl : n = k := Nat.le_antisymm (Nat.le_of_not_lt hlt) hk
      go_wp2
      go_ret
      exact RetI.mk_ (HL.out n) rfl hown hb
theorem span_any (a : Int) (n : Nat) (w : World) (ha : 0 ≤ a ∧ a ≤ 1000000) (hn : n ≤ 1000000) :
    Calls Try.prog 44 #[.int .i64 a, .int .i64 n] w (RetI w (spn a n)) := by
  have HS := Lib.hid (spn_snoc a)
  have hs0 : spn a 0 = [] := rfl
  have HL := Lib.hid (spn_len a)
  obtain ⟨ha0, ha1⟩ := ha
  have hnone : Own w w.heap.size w.heap.size (.slice none 0 0) 0 (spn a 0) ∧ Below w.heap.size w w := ⟨by rw [hs0]; exact Own.none_ _ _ _, Below.refl _ _⟩
  have hsome : Own (w.alloc (.cells #[] 3)) w.heap.size (w.alloc (.cells #[] 3)).heap.size (.slice (some ⟨w.heap.size, 0, none⟩) 0 0) 0 (spn a 0) ∧ Below w.heap.size w (w.alloc (.cells #[] 3)) := ⟨by rw [hs0]; exact (Own_new0 w _ (Nat.le_refl _)).now, (Below.refl _ _).alloc (Nat.le_refl _) _⟩
  go_enter Try.func44, Try.ntmps44
  go_wp2
  go_loopw [5, 9] (fun o i wr => ∃ (k : Nat) (O : Option Addr) (oc : Nat), k ≤ n ∧ i = .int .i64 k ∧ o = .slice O k oc ∧ Own wr w.heap.size wr.heap.size (.slice O k oc) k (spn a k) ∧ Below w.heap.size w wr) (fun _ i _ => n - (intOf i).toNat)
  case atStart => exact ⟨0, _, _, Nat.zero_le _, rfl, rfl, hsome.1, hsome.2⟩
  case round =>
    obtain ⟨k, O, oc, hk, rfl, rfl, hown, hb⟩ := hrel
    clear hnone hsome
    have hz := hb.size
    by_cases hlt : k < n
    · have hsn := Lib.hid (HS.out k)
      have hoA := hown.alloc (.cells #[.int .i64 (a + k)] 3)
      have hbA := hb.alloc hz (.cells #[.int .i64 (a + k)] 3)
      go_wp2_with (at_builtin; refine wpList_appI _ rfl _ _ rfl rfl hoA rfl (RI_one _ _ _ _ (by simp)) (by omega) (by first | omega | (simp; done) | (simp; omega)) ?_; intro A5 c5 w5 hown5 hg5 hat5 hk5)
      have hb5 := below_app hbA hoA hg5 (by simp; omega) (Nat.le_refl _)
      rw [← hsn.out] at hown5
      clear hoA hbA hg5 hat5 hk5 hown hb hsn
      go_wp2
      go_roundw
      case rel => exact ⟨k + 1, _, _, by omega, by go_num, rfl, hown5, hb5⟩
      case measure => simp [intOf]; omega
    · obtain rfl : n = k := Nat.le_antisymm (Nat.le_of_not_lt hlt) hk
      go_wp2
      go_ret
      exact RetI.mk_ (HL.out n) rfl hown hb
theorem valid_t (x y : Int) (Ag : Option Addr) (ng cg : Nat) (Ao : Option Addr) (no co : Nat) (gs : List G3) (os : List Int) (w : World) (hg : RG w Ag ng gs) (ho : RI w Ao no os) (hng : ng ≤ 2097152) (hno : no ≤ 2097152) (hv : circB x y gs os = true) :
    Calls Try.prog 24 #[.agg #[.int .i64 x, .int .i64 y, .slice Ag ng cg, .slice Ao no co]] w fun e w' => e = .returned (.tuple #[.agg #[.int .i64 x, .int .i64 y, .slice Ag ng cg, .slice Ao no co], .bool true]) ∧ Below w.heap.size w w' := by
  have H0 := Lib.hid hv; clear hv
  have hB1 : Below w.heap.size w (w.alloc (.cells #[.int .i64 x, .int .i64 y, .slice Ag ng cg, .slice Ao no co] 26)) := (Below.refl _ _).alloc (Nat.le_refl _) _
  have hB : Below w.heap.size w ((w.alloc (.cells #[.int .i64 x, .int .i64 y, .slice Ag ng cg, .slice Ao no co] 26)).alloc (.cells #[.int .i64 0, .int .i64 0, .slice none 0 0, .slice none 0 0] 26)) := hB1.alloc (by simp) _
  have hx0 : BxC ((w.alloc (.cells #[.int .i64 x, .int .i64 y, .slice Ag ng cg, .slice Ao no co] 26)).alloc (.cells #[.int .i64 0, .int .i64 0, .slice none 0 0, .slice none 0 0] 26)) w.heap.size x y Ag ng cg Ao no co := (BxC.new w _).below ((Below.refl _ _).alloc (Nat.le_refl _) _)
  go_enter Try.func24, Try.ntmps24
  have hq := hx0; obtain ⟨k0, k1, k2, k3⟩ := hq
  go_wp2_with fail
  refine (IsCircuit_any x y Ag ng cg Ao no co gs os _ (hg.below hB (Nat.le_refl _)) (ho.below hB (Nat.le_refl _)) hng hno).mono ?_
  rintro e v1 ⟨rfl, hb1⟩
  rw [H0.out]
  have hx1 := hx0.below hb1
  clear k0 k1 k2 k3
  obtain ⟨k0, k1, k2, k3⟩ := hx1
  have hz1 := hb1.size
  simp only [World.size_alloc] at hz1
  have hz1' : w.heap.size + 1 < v1.heap.size := by omega
  obtain ⟨hc1, hf1⟩ := bcell hb1
  have hB2 := hB.trans (hb1.mono hB.size)
  have hr0 : BxC ((w.alloc (.cells #[.int .i64 x, .int .i64 y, .slice Ag ng cg, .slice Ao no co] 26)).alloc (.cells #[.int .i64 0, .int .i64 0, .slice none 0 0, .slice none 0 0] 26)) (w.heap.size + 1) 0 0 none 0 0 none 0 0 := by simpa using BxC.new (x := 0) (y := 0) (Ag := none) (ng := 0) (cg := 0) (Ao := none) (no := 0) (co := 0) (w.alloc (.cells #[.int .i64 x, .int .i64 y, .slice Ag ng cg, .slice Ao no co] 26)) 26
  go_wp2
  have hq9 := BxC.set4 (hr0.below hb1) x y Ag ng cg Ao no co
  obtain ⟨q0, q1, q2, q3⟩ := hq9
  refine bodyPost_ret (v := .tuple #[.agg #[.int .i64 x, .int .i64 y, .slice Ag ng cg, .slice Ao no co], .bool true]) (by simp [results, Try.results24, go_sem, q0, q1, q2, q3]) rfl ?_
  exact ⟨rfl, below_set4 hB2 (by omega) _ _ _ _ _ _ _ _⟩
end Go.Proofs.Ytikgagjoapggnaa
