/- Contracts of the library at this dump, laid by the kit's tool: the numbers of its functions and types; no condition. -/
import Derived.StillTailTactics
import Derived.Test.YtnhmfedegfcflaaGreatDoorQR03
import Derived.Shelf.Strconv.Itoa3
namespace Go.Proofs.YtnhmfedegfcflaaGreatDoor
open Go.RowKit
set_option linter.unusedVariables false
set_option linter.unusedSimpArgs false
set_option maxRecDepth 100000 in
set_option maxHeartbeats 4000000 in
theorem ciValues_any (x y : Int) (Ag : Option Addr) (ng cg : Nat) (Ao : Option Addr) (no co : Nat) (A : Option Addr) (n c : Nat) (gs : List G3) (inp : List Int) (w : World) (hg : RG w Ag ng gs) (ha : RI w A n inp) (hi : allB 0 1 inp = true) (hgat : gatesB n gs ng = true) (hng : ng ≤ 300) (hn : n ≤ 40) :
 Calls Tryz.prog 38 #[.agg #[.int .i64 x, .int .i64 y, .slice Ag ng cg, .slice Ao no co], .slice A n c] w (RetI w (vals gs inp ng)) := by
 have hB : Below w.heap.size w (w.alloc (.cells #[.int .i64 x, .int .i64 y, .slice Ag ng cg, .slice Ao no co] 27)) := bA
 have hla := ha.len
 have hvb : ∀ k, k ≤ ng → allB 0 1 (vals gs inp k) = true := fun k hk => vals_bd (n := n) (by omega) hi k ng hk hgat
 have hvl : ∀ k, (vals gs inp k).length = n + k := fun k => by rw [Zbm]; omega
 have HV := zH hvb; have HL := zH hvl; clear hvb hvl
 go_enter Tryz.func38, Tryz.ntmps38
 go_wp2_with fail
 refine (l1Own_any A n c inp _ (ha.below hB lR) (by omega)).mono ?_
 rintro e w1 ⟨A1, c1, rfl, hown1, hb1⟩
 have hz1 := hb1.size
 simp only [World.size_alloc] at hz1 hown1
 have hz1' : w.heap.size < w1.heap.size := by omega
 obtain ⟨hc1, hf1⟩ := bcell hb1
 have hb1' := hb1
 simp only [World.size_alloc] at hb1'
 go_wp2_with fail
 go_loopw [5, 13] (fun v i wr => ∃ (k : Nat) (A' : Option Addr) (c' : Nat), k ≤ ng ∧ i = .int .i64 k ∧ v = .slice A' (n + k : Nat) c' ∧ Own wr (w.heap.size + 1) wr.heap.size (.slice A' (n + k) c') (n + k) (vals gs inp k) ∧ Below (w.heap.size + 1) (w.alloc (.cells #[.int .i64 x, .int .i64 y, .slice Ag ng cg, .slice Ao no co] 27)) wr) (fun _ i _ => ng - (intOf i).toNat)
 case atStart => exact ⟨0, _, _, Nat.zero_le _, rfl, rfl, hown1, hb1'⟩
 case round =>
  obtain ⟨k, A', c', hk, rfl, rfl, hown, hb⟩ := hrel
  clear hown1 hc1 hf1 hb1 hb1' hz1 hz1'
  have hbw : Below w.heap.size w wr := hB.trans (hb.mono (by omega))
  by_cases hlt : k < ng
  ·obtain ⟨b, o, rfl, hbB, c1, c2, c3⟩ := (hg.below hbw lR).at_ hlt
   have hgt := Zbx hgat hlt
   have hsn := zH (Zcc gs inp k)
   have hvk := HV.out k (by omega)
   have hlk := HL.out k
   have hz := hb.size
   simp only [World.size_alloc] at hz
   generalize vals gs inp k = vs at *
   generalize gg gs k = G at *
   obtain ⟨gk, ga, gb⟩ := G
   dsimp only at c1 c2 c3
   cases hgt with
   | xor_ hk0 a0 a1 b0 b1 =>
    dsimp only at hk0 a0 a1 b0 b1
    obtain ⟨a, rfl⟩ := Int.eq_ofNat_of_zero_le a0
    obtain ⟨b', rfl⟩ := Int.eq_ofNat_of_zero_le b0
    subst hk0
    obtain ⟨g, rfl, hg1, hg2, hg3⟩ := hown.some_ (by omega)
    obtain ⟨d1, _⟩ := hown.cellAt (k := a) (by omega)
    obtain ⟨d2, _⟩ := hown.cellAt (k := b') (by omega)
    have hsn' : Hid (vals gs inp (k + 1) = vs ++ [bits .xor .i64 (gi vs a) (gi vs b')]) := zH (by rw [hsn.out, gval, if_pos rfl]; rfl)
    have hbx : Below wr.heap.size wr (wr.alloc (.cells #[.int .i64 0, .int .i64 a, .int .i64 b'] 49)) := bA
    have e1 := Zae d1 hbx
    have e2 := Zae d2 hbx
    have hownA := fun q => ((hown.below hbx (.inl lR)).drewN q).alloc (.cells #[.int .i64 (bits .xor .i64 (gi vs a) (gi vs b'))] 3)
    have hbA := fun q => (Zas (hb.alloc hz (.cells #[.int .i64 0, .int .i64 a, .int .i64 b'] 49)) q).alloc (by simp; omega) (.cells #[.int .i64 (bits .xor .i64 (gi vs a) (gi vs b'))] 3)
    clear d1 d2
    go_wp2_with fail
    go_region_held3 (fun w' => w'.cell? ⟨wr.heap.size, 1, none⟩ = some (.int .i64 a) ∧ w'.cell? ⟨wr.heap.size, 2, none⟩ = some (.int .i64 b') ∧ w'.cell? ⟨g, a, none⟩ = some (.int .i64 (gi vs a)) ∧ w'.cell? ⟨g, b', none⟩ = some (.int .i64 (gi vs b')))
     (first | go_keep | (go_split_ands; exact ⟨hk5 _ _ _ (by assumption) (fun g9 hg9 he9 => by first | omega | (simp only [Option.some.injEq, Addr.mk.injEq, and_true] at hg9; omega)), hk5 _ _ _ (by assumption) (fun g9 hg9 he9 => by first | omega | (simp only [Option.some.injEq, Addr.mk.injEq, and_true] at hg9; omega)), hk5 _ _ _ (by assumption) (fun g9 hg9 he9 => by first | omega | (simp only [Option.some.injEq, Addr.mk.injEq, and_true] at hg9; omega)), hk5 _ _ _ (by assumption) (fun g9 hg9 he9 => by first | omega | (simp only [Option.some.injEq, Addr.mk.injEq, and_true] at hg9; omega))⟩))
     (first | (refine step_appI _ (by rfl) _ _ (by rfl) (by rfl) (hownA 1) (by rfl) (Zbj _ _ _ _ (by simp)) (by omega) oM ?_; intro A5 c5 w5 hown5 hg5 hat5 hk5))
    have hb5 := Zar (hbA 1) (hownA 1) hg5 (by simp; omega) lR
    rw [← hsn'.out] at hown5
    clear hownA hbA hg5 hat5 hk5 e1 e2 hown hb
    go_wp2
    go_roundw
    case rel => exact ⟨k + 1, _, _, by omega, by go_num, rfl, hown5, hb5⟩
    case measure => simp [intOf]; omega
   | and_ hk0 a0 a1 b0 b1 =>
    dsimp only at hk0 a0 a1 b0 b1
    obtain ⟨a, rfl⟩ := Int.eq_ofNat_of_zero_le a0
    obtain ⟨b', rfl⟩ := Int.eq_ofNat_of_zero_le b0
    subst hk0
    obtain ⟨g, rfl, hg1, hg2, hg3⟩ := hown.some_ (by omega)
    obtain ⟨d1, _⟩ := hown.cellAt (k := a) (by omega)
    obtain ⟨d2, _⟩ := hown.cellAt (k := b') (by omega)
    have hsn' : Hid (vals gs inp (k + 1) = vs ++ [bits .and .i64 (gi vs a) (gi vs b')]) := zH (by rw [hsn.out, gval, if_neg (by show ¬ ((1 : Int) = 0); decide), if_pos rfl]; rfl)
    have hbx : Below wr.heap.size wr (wr.alloc (.cells #[.int .i64 1, .int .i64 a, .int .i64 b'] 49)) := bA
    have e1 := Zae d1 hbx
    have e2 := Zae d2 hbx
    have hownA := fun q => ((hown.below hbx (.inl lR)).drewN q).alloc (.cells #[.int .i64 (bits .and .i64 (gi vs a) (gi vs b'))] 3)
    have hbA := fun q => (Zas (hb.alloc hz (.cells #[.int .i64 1, .int .i64 a, .int .i64 b'] 49)) q).alloc (by simp; omega) (.cells #[.int .i64 (bits .and .i64 (gi vs a) (gi vs b'))] 3)
    clear d1 d2
    go_wp2_with fail
    go_region_held3 (fun w' => w'.cell? ⟨wr.heap.size, 1, none⟩ = some (.int .i64 a) ∧ w'.cell? ⟨wr.heap.size, 2, none⟩ = some (.int .i64 b') ∧ w'.cell? ⟨g, a, none⟩ = some (.int .i64 (gi vs a)) ∧ w'.cell? ⟨g, b', none⟩ = some (.int .i64 (gi vs b')))
     (first | go_keep | (go_split_ands; exact ⟨hk5 _ _ _ (by assumption) (fun g9 hg9 he9 => by first | omega | (simp only [Option.some.injEq, Addr.mk.injEq, and_true] at hg9; omega)), hk5 _ _ _ (by assumption) (fun g9 hg9 he9 => by first | omega | (simp only [Option.some.injEq, Addr.mk.injEq, and_true] at hg9; omega)), hk5 _ _ _ (by assumption) (fun g9 hg9 he9 => by first | omega | (simp only [Option.some.injEq, Addr.mk.injEq, and_true] at hg9; omega)), hk5 _ _ _ (by assumption) (fun g9 hg9 he9 => by first | omega | (simp only [Option.some.injEq, Addr.mk.injEq, and_true] at hg9; omega))⟩))
     (first | (refine step_appI _ (by rfl) _ _ (by rfl) (by rfl) (hownA 1) (by rfl) (Zbj _ _ _ _ (by simp)) (by omega) oM ?_; intro A5 c5 w5 hown5 hg5 hat5 hk5))
    have hb5 := Zar (hbA 1) (hownA 1) hg5 (by simp; omega) lR
    rw [← hsn'.out] at hown5
    clear hownA hbA hg5 hat5 hk5 e1 e2 hown hb
    go_wp2
    go_roundw
    case rel => exact ⟨k + 1, _, _, by omega, by go_num, rfl, hown5, hb5⟩
    case measure => simp [intOf]; omega
   | not_ hk0 a0 a1 b0 =>
    dsimp only at hk0 a0 a1 b0
    obtain ⟨a, rfl⟩ := Int.eq_ofNat_of_zero_le a0
    subst hk0
    subst b0
    obtain ⟨g, rfl, hg1, hg2, hg3⟩ := hown.some_ (by omega)
    obtain ⟨d1, _⟩ := hown.cellAt (k := a) (by omega)
    have hvx := Zbv hvk (j := a) (by omega)
    obtain ⟨hv0, hv1⟩ := hvx
    have hsn' : Hid (vals gs inp (k + 1) = vs ++ [1 - gi vs a]) := zH (by rw [hsn.out, gval, if_neg (by show ¬ ((2 : Int) = 0); decide), if_neg (by show ¬ ((2 : Int) = 1); decide), if_pos rfl]; rfl)
    have hbx : Below wr.heap.size wr (wr.alloc (.cells #[.int .i64 2, .int .i64 a, .int .i64 0] 49)) := bA
    have e1 := Zae d1 hbx
    have hownA := (hown.below hbx (.inl lR)).alloc (.cells #[.int .i64 (1 - gi vs a)] 3)
    have hbA := (hb.alloc hz (.cells #[.int .i64 2, .int .i64 a, .int .i64 0] 49)).alloc (by simp; omega) (.cells #[.int .i64 (1 - gi vs a)] 3)
    clear d1
    go_wp2_with (at_builtin; refine Zaw _ rfl _ _ rfl rfl hownA rfl (Zbj _ _ _ _ (by simp)) (by omega) oM ?_; intro A5 c5 w5 hown5 hg5 hat5)
    have hb5 := Zar hbA hownA hg5 (by simp; omega) lR
    rw [← hsn'.out] at hown5
    clear hownA hbA hg5 hat5 e1 hown hb
    go_wp2
    go_roundw
    case rel => exact ⟨k + 1, _, _, by omega, by go_num, rfl, hown5, hb5⟩
    case measure => simp [intOf]; omega
   | one_ hk0 a0 b0 =>
    dsimp only at hk0 a0 b0
    subst hk0
    subst a0
    subst b0
    have hsn' : Hid (vals gs inp (k + 1) = vs ++ [1]) := zH (by rw [hsn.out, gval, if_neg (by show ¬ ((3 : Int) = 0); decide), if_neg (by show ¬ ((3 : Int) = 1); decide), if_neg (by show ¬ ((3 : Int) = 2); decide)])
    have hbx : Below wr.heap.size wr (wr.alloc (.cells #[.int .i64 3, .int .i64 0, .int .i64 0] 49)) := bA
    have hownA := (hown.below hbx (.inl lR)).alloc (.cells #[.int .i64 1] 3)
    have hbA := (hb.alloc hz (.cells #[.int .i64 3, .int .i64 0, .int .i64 0] 49)).alloc (by simp; omega) (.cells #[.int .i64 1] 3)
    go_wp2_with (at_builtin; refine Zaw _ rfl _ _ rfl rfl hownA rfl (Zbj _ _ _ _ (by simp)) (by omega) oM ?_; intro A5 c5 w5 hown5 hg5 hat5)
    have hb5 := Zar hbA hownA hg5 (by simp; omega) lR
    rw [← hsn'.out] at hown5
    clear hownA hbA hg5 hat5 hown hb
    go_wp2
    go_roundw
    case rel => exact ⟨k + 1, _, _, by omega, by go_num, rfl, hown5, hb5⟩
    case measure => simp [intOf]; omega
  ·obtain rfl : ng = k := by omega
   go_wp2
   go_ret
   exact RetI.mk_ (HL.out ng) rfl (hown.lo_ (by omega)) hbw
set_option maxRecDepth 100000 in
set_option maxHeartbeats 4000000 in
theorem Zch (x y : Int) (Ag : Option Addr) (ng cg : Nat) (Ao : Option Addr) (no co : Nat) (A : Option Addr) (n c : Nat) (gs : List G3) (inp : List Int) (w : World) (hg : RG w Ag ng gs) (ha : RI w A n inp) (hi : allB 0 1 inp = true) (hgat : gatesB n gs ng = true) (hng : ng ≤ 300) (hn : n ≤ 40) :
 Calls Tryz.prog 36 #[.agg #[.int .i64 x, .int .i64 y, .slice Ag ng cg, .slice Ao no co], .slice A n c] w (RetI w (vals gs inp ng)) := by
 have hB : Below w.heap.size w (w.alloc (.cells #[.int .i64 x, .int .i64 y, .slice Ag ng cg, .slice Ao no co] 27)) := bA
 have hla := ha.len
 have hvb : ∀ k, k ≤ ng → allB 0 1 (vals gs inp k) = true := fun k hk => vals_bd (n := n) (by omega) hi k ng hk hgat
 have hvl : ∀ k, (vals gs inp k).length = n + k := fun k => by rw [Zbm]; omega
 have HV := zH hvb; have HL := zH hvl; clear hvb hvl
 go_enter Tryz.func36, Tryz.ntmps36
 go_wp2_with fail
 refine (Clone_any A n c inp _ (ha.below hB lR) (by omega)).mono ?_
 rintro e w1 ⟨A1, c1, rfl, hown1, hb1⟩
 have hz1 := hb1.size
 simp only [World.size_alloc] at hz1 hown1
 have hz1' : w.heap.size < w1.heap.size := by omega
 obtain ⟨hc1, hf1⟩ := bcell hb1
 have hb1' := hb1
 simp only [World.size_alloc] at hb1'
 go_wp2_with fail
 go_loopw [5, 14] (fun v i wr => ∃ (k : Nat) (A' : Option Addr) (c' : Nat), k ≤ ng ∧ i = .int .i64 k ∧ v = .slice A' (n + k : Nat) c' ∧ Own wr (w.heap.size + 1) wr.heap.size (.slice A' (n + k) c') (n + k) (vals gs inp k) ∧ Below (w.heap.size + 1) (w.alloc (.cells #[.int .i64 x, .int .i64 y, .slice Ag ng cg, .slice Ao no co] 27)) wr) (fun _ i _ => ng - (intOf i).toNat)
 case atStart => exact ⟨0, _, _, Nat.zero_le _, rfl, rfl, hown1, hb1'⟩
 case round =>
  obtain ⟨k, A', c', hk, rfl, rfl, hown, hb⟩ := hrel
  clear hown1 hc1 hf1 hb1 hb1' hz1 hz1'
  have hbw : Below w.heap.size w wr := hB.trans (hb.mono (by omega))
  by_cases hlt : k < ng
  ·obtain ⟨b, o, rfl, hbB, c1, c2, c3⟩ := (hg.below hbw lR).at_ hlt
   have hgt := Zbx hgat hlt
   have hsn := zH (Zcc gs inp k)
   have hvk := HV.out k (by omega)
   have hlk := HL.out k
   have hz := hb.size
   simp only [World.size_alloc] at hz
   generalize vals gs inp k = vs at *
   generalize gg gs k = G at *
   obtain ⟨gk, ga, gb⟩ := G
   dsimp only at c1 c2 c3
   cases hgt with
   | xor_ hk0 a0 a1 b0 b1 =>
    dsimp only at hk0 a0 a1 b0 b1
    obtain ⟨a, rfl⟩ := Int.eq_ofNat_of_zero_le a0
    obtain ⟨b', rfl⟩ := Int.eq_ofNat_of_zero_le b0
    subst hk0
    obtain ⟨g, rfl, hg1, hg2, hg3⟩ := hown.some_ (by omega)
    obtain ⟨d1, _⟩ := hown.cellAt (k := a) (by omega)
    obtain ⟨d2, _⟩ := hown.cellAt (k := b') (by omega)
    have hsn' : Hid (vals gs inp (k + 1) = vs ++ [bits .xor .i64 (gi vs a) (gi vs b')]) := zH (by rw [hsn.out, gval, if_pos rfl]; rfl)
    have hbx : Below wr.heap.size wr (wr.alloc (.cells #[.int .i64 0, .int .i64 a, .int .i64 b'] 49)) := bA
    have e1 := Zae d1 hbx
    have e2 := Zae d2 hbx
    have hownA := fun q => ((hown.below hbx (.inl lR)).drewN q).alloc (.cells #[.int .i64 (bits .xor .i64 (gi vs a) (gi vs b'))] 3)
    have hbA := fun q => (Zas (hb.alloc hz (.cells #[.int .i64 0, .int .i64 a, .int .i64 b'] 49)) q).alloc (by simp; omega) (.cells #[.int .i64 (bits .xor .i64 (gi vs a) (gi vs b'))] 3)
    clear d1 d2
    go_wp2_with fail
    go_quiet (fail)
    go_wp2_with (at_builtin; refine Zbn _ rfl _ _ rfl rfl (hownA _) rfl (Zbj _ _ _ _ (by simp)) (by omega) oM ?_; intro A5 c5 w5 hown5 hg5 hat5 hk5)
    have hb5 := Zar (hbA _) (hownA _) hg5 (by simp; omega) lR
    rw [← hsn'.out] at hown5
    clear hownA hbA hg5 hat5 hk5 e1 e2 hown hb
    go_wp2
    go_roundw
    case rel => exact ⟨k + 1, _, _, by omega, by go_num, rfl, hown5, hb5⟩
    case measure => simp [intOf]; omega
   | and_ hk0 a0 a1 b0 b1 =>
    dsimp only at hk0 a0 a1 b0 b1
    obtain ⟨a, rfl⟩ := Int.eq_ofNat_of_zero_le a0
    obtain ⟨b', rfl⟩ := Int.eq_ofNat_of_zero_le b0
    subst hk0
    obtain ⟨g, rfl, hg1, hg2, hg3⟩ := hown.some_ (by omega)
    obtain ⟨d1, _⟩ := hown.cellAt (k := a) (by omega)
    obtain ⟨d2, _⟩ := hown.cellAt (k := b') (by omega)
    have hsn' : Hid (vals gs inp (k + 1) = vs ++ [bits .and .i64 (gi vs a) (gi vs b')]) := zH (by rw [hsn.out, gval, if_neg (by show ¬ ((1 : Int) = 0); decide), if_pos rfl]; rfl)
    have hbx : Below wr.heap.size wr (wr.alloc (.cells #[.int .i64 1, .int .i64 a, .int .i64 b'] 49)) := bA
    have e1 := Zae d1 hbx
    have e2 := Zae d2 hbx
    have hownA := fun q => ((hown.below hbx (.inl lR)).drewN q).alloc (.cells #[.int .i64 (bits .and .i64 (gi vs a) (gi vs b'))] 3)
    have hbA := fun q => (Zas (hb.alloc hz (.cells #[.int .i64 1, .int .i64 a, .int .i64 b'] 49)) q).alloc (by simp; omega) (.cells #[.int .i64 (bits .and .i64 (gi vs a) (gi vs b'))] 3)
    clear d1 d2
    go_wp2_with fail
    go_quiet (fail)
    go_wp2_with (at_builtin; refine Zbn _ rfl _ _ rfl rfl (hownA _) rfl (Zbj _ _ _ _ (by simp)) (by omega) oM ?_; intro A5 c5 w5 hown5 hg5 hat5 hk5)
    have hb5 := Zar (hbA _) (hownA _) hg5 (by simp; omega) lR
    rw [← hsn'.out] at hown5
    clear hownA hbA hg5 hat5 hk5 e1 e2 hown hb
    go_wp2
    go_roundw
    case rel => exact ⟨k + 1, _, _, by omega, by go_num, rfl, hown5, hb5⟩
    case measure => simp [intOf]; omega
   | not_ hk0 a0 a1 b0 =>
    dsimp only at hk0 a0 a1 b0
    obtain ⟨a, rfl⟩ := Int.eq_ofNat_of_zero_le a0
    subst hk0
    subst b0
    obtain ⟨g, rfl, hg1, hg2, hg3⟩ := hown.some_ (by omega)
    obtain ⟨d1, _⟩ := hown.cellAt (k := a) (by omega)
    have hvx := Zbv hvk (j := a) (by omega)
    obtain ⟨hv0, hv1⟩ := hvx
    have hsn' : Hid (vals gs inp (k + 1) = vs ++ [1 - gi vs a]) := zH (by rw [hsn.out, gval, if_neg (by show ¬ ((2 : Int) = 0); decide), if_neg (by show ¬ ((2 : Int) = 1); decide), if_pos rfl]; rfl)
    have hbx : Below wr.heap.size wr (wr.alloc (.cells #[.int .i64 2, .int .i64 a, .int .i64 0] 49)) := bA
    have e1 := Zae d1 hbx
    have hownA := (hown.below hbx (.inl lR)).alloc (.cells #[.int .i64 (1 - gi vs a)] 3)
    have hbA := (hb.alloc hz (.cells #[.int .i64 2, .int .i64 a, .int .i64 0] 49)).alloc (by simp; omega) (.cells #[.int .i64 (1 - gi vs a)] 3)
    clear d1
    go_wp2_with (at_builtin; refine Zaw _ rfl _ _ rfl rfl hownA rfl (Zbj _ _ _ _ (by simp)) (by omega) oM ?_; intro A5 c5 w5 hown5 hg5 hat5)
    have hb5 := Zar hbA hownA hg5 (by simp; omega) lR
    rw [← hsn'.out] at hown5
    clear hownA hbA hg5 hat5 e1 hown hb
    go_wp2
    go_roundw
    case rel => exact ⟨k + 1, _, _, by omega, by go_num, rfl, hown5, hb5⟩
    case measure => simp [intOf]; omega
   | one_ hk0 a0 b0 =>
    dsimp only at hk0 a0 b0
    subst hk0
    subst a0
    subst b0
    have hsn' : Hid (vals gs inp (k + 1) = vs ++ [1]) := zH (by rw [hsn.out, gval, if_neg (by show ¬ ((3 : Int) = 0); decide), if_neg (by show ¬ ((3 : Int) = 1); decide), if_neg (by show ¬ ((3 : Int) = 2); decide)])
    have hbx : Below wr.heap.size wr (wr.alloc (.cells #[.int .i64 3, .int .i64 0, .int .i64 0] 49)) := bA
    have hownA := (hown.below hbx (.inl lR)).alloc (.cells #[.int .i64 1] 3)
    have hbA := (hb.alloc hz (.cells #[.int .i64 3, .int .i64 0, .int .i64 0] 49)).alloc (by simp; omega) (.cells #[.int .i64 1] 3)
    go_wp2_with (at_builtin; refine Zaw _ rfl _ _ rfl rfl hownA rfl (Zbj _ _ _ _ (by simp)) (by omega) oM ?_; intro A5 c5 w5 hown5 hg5 hat5)
    have hb5 := Zar hbA hownA hg5 (by simp; omega) lR
    rw [← hsn'.out] at hown5
    clear hownA hbA hg5 hat5 hown hb
    go_wp2
    go_roundw
    case rel => exact ⟨k + 1, _, _, by omega, by go_num, rfl, hown5, hb5⟩
    case measure => simp [intOf]; omega
  ·obtain rfl : ng = k := by omega
   go_wp2
   go_ret
   exact RetI.mk_ (HL.out ng) rfl (hown.lo_ (by omega)) hbw
theorem valid_t (x y : Int) (Ag : Option Addr) (ng cg : Nat) (Ao : Option Addr) (no co : Nat) (gs : List G3) (os : List Int) (w : World) (hg : RG w Ag ng gs) (ho : RI w Ao no os) (hng : ng ≤ 2097152) (hno : no ≤ 2097152) (hv : circB x y gs os = true) :
 Calls Tryz.prog 49 #[.agg #[.int .i64 x, .int .i64 y, .slice Ag ng cg, .slice Ao no co]] w fun e w' => e = .returned (.tuple #[.agg #[.int .i64 x, .int .i64 y, .slice Ag ng cg, .slice Ao no co], .bool true]) ∧ Below w.heap.size w w' := by
 have H0 := zH hv; clear hv
 have hB1 : Below w.heap.size w (w.alloc (.cells #[.int .i64 x, .int .i64 y, .slice Ag ng cg, .slice Ao no co] 27)) := bA
 have hB : Below w.heap.size w ((w.alloc (.cells #[.int .i64 x, .int .i64 y, .slice Ag ng cg, .slice Ao no co] 27)).alloc (.cells #[.int .i64 0, .int .i64 0, .slice none 0 0, .slice none 0 0] 27)) := hB1.alloc (by simp) _
 have hx0 : BxC ((w.alloc (.cells #[.int .i64 x, .int .i64 y, .slice Ag ng cg, .slice Ao no co] 27)).alloc (.cells #[.int .i64 0, .int .i64 0, .slice none 0 0, .slice none 0 0] 27)) w.heap.size x y Ag ng cg Ao no co := (BxC.new w _).below (bA)
 go_enter Tryz.func49, Tryz.ntmps49
 have hq := hx0; obtain ⟨k0, k1, k2, k3⟩ := hq
 go_wp2_with fail
 refine (Zah x y Ag ng cg Ao no co gs os _ (hg.below hB lR) (ho.below hB lR) hng hno).mono ?_
 rintro e v1 ⟨rfl, hb1⟩
 rw [H0.out]
 have hx1 := hx0.below hb1
 clear k0 k1 k2 k3
 obtain ⟨k0, k1, k2, k3⟩ := hx1
 have hz1 := hb1.size
 simp only [World.size_alloc] at hz1
 have hz1' : w.heap.size + 1 < v1.heap.size := by omega
 obtain ⟨hc1, hf1⟩ := bcell hb1
 have hB2 := hB.trans (hb1.mono hB.size)
 have hr0 : BxC ((w.alloc (.cells #[.int .i64 x, .int .i64 y, .slice Ag ng cg, .slice Ao no co] 27)).alloc (.cells #[.int .i64 0, .int .i64 0, .slice none 0 0, .slice none 0 0] 27)) (w.heap.size + 1) 0 0 none 0 0 none 0 0 := by simpa using BxC.new (x := 0) (y := 0) (Ag := none) (ng := 0) (cg := 0) (Ao := none) (no := 0) (co := 0) (w.alloc (.cells #[.int .i64 x, .int .i64 y, .slice Ag ng cg, .slice Ao no co] 27)) 27
 go_wp2
 have hq9 := BxC.set4 (hr0.below hb1) x y Ag ng cg Ao no co
 obtain ⟨q0, q1, q2, q3⟩ := hq9
 refine bodyPost_ret (v := .tuple #[.agg #[.int .i64 x, .int .i64 y, .slice Ag ng cg, .slice Ao no co], .bool true]) (by simp [results, Tryz.results49, go_sem, q0, q1, q2, q3]) rfl ?_
 exact ⟨rfl, Zan hB2 (by omega) _ _ _ _ _ _ _ _⟩
theorem Own.far1 {w : World} {lo hi n : Nat} {v : Value} {xs : List Int} (h : Own w lo hi v n xs) (p : Addr) (u : Value) (hp : v.ownBlock ≠ some p.block) : Own (w.setCell p u) lo hi v n xs := by
 refine ⟨⟨h.1.1, ?_⟩, h.2⟩
 rcases h.1.2 with h1 | ⟨g, cap, cur, rfl, hlo, hg, r⟩
 ·exact .inl h1
 ·refine .inr ⟨g, cap, cur, rfl, hlo, ?_, r⟩
  have hne : g ≠ p.block := fun hc => hp (by simp [Value.ownBlock, hc])
  rw [Below.heap_setCell w p u g hne]; exact hg
def Fz (w : World) (b : Nat) : Prop := ∀ q, w.frozen? ⟨b, q, none⟩ = false
theorem Fz.new (w : World) (c : Array Value) (t : TypeId) : Fz (w.alloc (.cells c t)) w.heap.size := fun q => World.frozen?_alloc_at _ _ _ _ rfl
theorem Fz.below {w w' : World} {b B : Nat} (h : Fz w b) (k : Below B w w') (hb : b < B) : Fz w' b := fun q => (k.frozen (p := ⟨b, q, none⟩) hb).trans (h q)
theorem Fz.set {w : World} {b : Nat} (h : Fz w b) (p : Addr) (v : Value) : Fz (w.setCell p v) b := fun q => (World.frozen?_setCell _ _ _ _).trans (h q)
section
variable {w w' : World} {lo hi : Nat} {Ag : Option Addr} {ng cg : Nat} {Ao : Option Addr} {no co : Nat} {gs : List G3} {os : List Int}
end
theorem ciNew_any (x y : Int) (w : World) : Calls Tryz.prog 83 #[.int .i64 x, .int .i64 y] w fun e w' => e = .returned (.pointer (some ⟨w.heap.size, 0, none⟩)) ∧ w.alloc (.cells #[.int .i64 x, .int .i64 y, .slice none 0 0, .slice none 0 0] 95) = w' := by
 go_enter Tryz.func83, Tryz.ntmps83
 go_wp2
 go_ret
 exact ⟨rfl, rfl⟩
set_option maxRecDepth 100000 in
set_option maxHeartbeats 800000 in
theorem ciPick_any (A B : Option Addr) (n c m d : Nat) (l os : List Int) (w : World) (ha : RI w A n l) (hb : RI w B m os) (hn : n ≤ 2097152) (hm : m ≤ 2097152) (hos : allB 0 ((n : Int) - 1) os = true) :
 Calls Tryz.prog 52 #[.slice A n c, .slice B m d] w (RetI w (pick l os)) := by
 have hl := ha.len
 have hlo := hb.len
 have HP := zH (pick_tab (l := l) hlo)
 go_enter Tryz.func52, Tryz.ntmps52
 go_wp2
 go_loopw [5, 10] (fun v i wr => ∃ (k : Nat) (A' : Option Addr) (c' : Nat), k ≤ m ∧ i = .int .i64 k ∧ v = .slice A' k c' ∧ Own wr w.heap.size wr.heap.size (.slice A' k c') k (tab k fun i => gi l (gi os i).toNat) ∧ Below w.heap.size w wr) (fun _ i _ => m - (intOf i).toNat)
 case atStart => first | exact ⟨0, _, _, Nat.zero_le _, rfl, rfl, Own.none_ _ _ _, Below.refl _ _⟩ | exact ⟨0, _, _, Nat.zero_le _, rfl, rfl, by simpa [tab_zero] using Zcu w w.heap.size lR, bA⟩
 case round =>
  obtain ⟨k, A', c', hk, rfl, rfl, hown, hbw⟩ := hrel
  by_cases hlt : k < m
  ·have hsn : Hid (tab (k + 1) (fun i => gi l (gi os i).toNat) = tab k (fun i => gi l (gi os i).toNat) ++ [gi l (gi os k).toNat]) := zH (tab_snoc k _)
   obtain ⟨h0, h1⟩ := Zbv hos (j := k) (by omega)
   obtain ⟨b, o, rfl, hbB, c1⟩ := hb.at_ hlt
   have e1 := (hbw.cell (p := ⟨b, o + k, none⟩) hbB).trans c1
   have hz := hbw.size
   generalize gi os k = X at *
   obtain ⟨a, rfl⟩ := Int.eq_ofNat_of_zero_le h0
   obtain ⟨b', o', rfl, hbB', c2⟩ := ha.at_ (k := a) (by omega)
   have e2 := (hbw.cell (p := ⟨b', o' + a, none⟩) hbB').trans c2
   have hlt2 : (a : Int) < n := by omega
   have hst : ((a : Int).toNat) = a := rfl
   rw [hst] at hsn
   clear ha hb c1 c2 hst
   generalize gi l a = Y at *
   have hownA := hown.alloc (.cells #[.int .i64 Y] 3)
   have hbA := hbw.alloc hz (.cells #[.int .i64 Y] 3)
   clear hown hbw
   go_wp2_with (at_builtin; refine Zaw _ rfl _ _ rfl rfl hownA rfl (Zbj _ _ _ _ (by simp)) (by omega) oM ?_; intro A5 c5 w5 hown5 hg5 hat5)
   have hb5 := Zar hbA hownA hg5 (by simp; omega) lR
   rw [← hsn.out] at hown5
   clear hbA hownA hg5 hat5
   go_wp2
   go_roundw
   case rel => exact ⟨k + 1, _, _, by omega, by go_num, rfl, hown5, hb5⟩
   case measure => simp [intOf]; omega
  ·obtain rfl : k = m := by omega
   rw [← HP.out] at hown
   go_wp2
   go_ret
   exact RetI.mk_ (by rw [Zbs]; exact hlo) rfl hown hbw
set_option maxRecDepth 100000 in
set_option maxHeartbeats 800000 in
theorem at_any (A B : Option Addr) (n c m d : Nat) (l os : List Int) (w : World) (ha : RI w A n l) (hb : RI w B m os) (hn : n ≤ 2097152) (hm : m ≤ 2097152) (hos : allB 0 ((n : Int) - 1) os = true) :
 Calls Tryz.prog 24 #[.slice A n c, .slice B m d] w (RetI w (pick l os)) := by
 have hl := ha.len
 have hlo := hb.len
 have HP := zH (pick_tab (l := l) hlo)
 go_enter Tryz.func24, Tryz.ntmps24
 go_wp2
 go_loopw [5, 11] (fun v i wr => ∃ (k : Nat) (A' : Option Addr) (c' : Nat), k ≤ m ∧ i = .int .i64 k ∧ v = .slice A' k c' ∧ Own wr w.heap.size wr.heap.size (.slice A' k c') k (tab k fun i => gi l (gi os i).toNat) ∧ Below w.heap.size w wr) (fun _ i _ => m - (intOf i).toNat)
 case atStart => first | exact ⟨0, _, _, Nat.zero_le _, rfl, rfl, Own.none_ _ _ _, Below.refl _ _⟩ | exact ⟨0, _, _, Nat.zero_le _, rfl, rfl, by simpa [tab_zero] using Zcu w w.heap.size lR, bA⟩
 case round =>
  obtain ⟨k, A', c', hk, rfl, rfl, hown, hbw⟩ := hrel
  by_cases hlt : k < m
  ·have hsn : Hid (tab (k + 1) (fun i => gi l (gi os i).toNat) = tab k (fun i => gi l (gi os i).toNat) ++ [gi l (gi os k).toNat]) := zH (tab_snoc k _)
   obtain ⟨h0, h1⟩ := Zbv hos (j := k) (by omega)
   obtain ⟨b, o, rfl, hbB, c1⟩ := hb.at_ hlt
   have e1 := (hbw.cell (p := ⟨b, o + k, none⟩) hbB).trans c1
   have hz := hbw.size
   generalize gi os k = X at *
   obtain ⟨a, rfl⟩ := Int.eq_ofNat_of_zero_le h0
   obtain ⟨b', o', rfl, hbB', c2⟩ := ha.at_ (k := a) (by omega)
   have e2 := (hbw.cell (p := ⟨b', o' + a, none⟩) hbB').trans c2
   have hlt2 : (a : Int) < n := by omega
   have hst : ((a : Int).toNat) = a := rfl
   rw [hst] at hsn
   clear ha hb c1 c2 hst
   generalize gi l a = Y at *
   have hownA := hown.alloc (.cells #[.int .i64 Y] 3)
   have hbA := hbw.alloc hz (.cells #[.int .i64 Y] 3)
   clear hown hbw
   go_wp2_with (at_builtin; refine Zaw _ rfl _ _ rfl rfl hownA rfl (Zbj _ _ _ _ (by simp)) (by omega) oM ?_; intro A5 c5 w5 hown5 hg5 hat5)
   have hb5 := Zar hbA hownA hg5 (by simp; omega) lR
   rw [← hsn.out] at hown5
   clear hbA hownA hg5 hat5
   go_wp2
   go_roundw
   case rel => exact ⟨k + 1, _, _, by omega, by go_num, rfl, hown5, hb5⟩
   case measure => simp [intOf]; omega
  ·obtain rfl : k = m := by omega
   rw [← HP.out] at hown
   go_wp2
   go_ret
   exact RetI.mk_ (by rw [Zbs]; exact hlo) rfl hown hbw
theorem ciJoin_any (A B : Option Addr) (n c m d : Nat) (xs ys : List Int) (w : World) (ha : RI w A n xs) (hb : RI w B m ys) (hn : n ≤ 2097152) (hm : m ≤ 2097152) :
 Calls Tryz.prog 27 #[.slice A n c, .slice B m d] w fun e w' => ∃ A' c', e = .returned (.slice A' (n + m) c') ∧ Own w' w.heap.size w'.heap.size (.slice A' (n + m) c') (n + m) (xs ++ ys) ∧ Below w.heap.size w w' := by
 have hl := ha.len
 go_enter Tryz.func27, Tryz.ntmps27
 go_wp2_with fail
 refine (l1Own_any A n c xs _ ha hn).mono ?_
 rintro e w1 ⟨A1, c1, rfl, hown1, hb1⟩
 have hr := hb.below hb1 lR
 have hz := hb1.size
 go_wp2_with (at_builtin; refine Zaw _ rfl _ _ rfl rfl hown1 rfl hr (by omega) oM ?_; intro A5 c5 w5 hown5 hg5 hat5)
 have hb5 := Zar hb1 hown1 hg5 hz lR
 clear hown1 hb1 hr hg5 hat5
 go_wp2
 go_ret
 exact ⟨_, _, rfl, hown5, hb5⟩
section
variable {w w' : World} {b : Nat} {p x y : Int} {Ag A' : Option Addr} {ng cg n' c' : Nat} {Ao : Option Addr} {no co : Nat}
end
theorem OwnG_new0 (w : World) (lo : Nat) (hl : lo ≤ w.heap.size) : OwnG (w.alloc (.cells #[] 49)) lo (w.heap.size + 1) (.slice (some ⟨w.heap.size, 0, none⟩) 0 0) 0 [] := by
 refine ⟨?_, fun g hg => by simp [Value.ownBlock] at hg; omega⟩
 have h := World.ownsRow_lit (base := lo) (e := 49) (size := 3) w #[] 0 hl (by unfold maxLen; omega) (by simp)
 simpa [gcells] using h
theorem step_appG (w : World) {ops : Array Oper} {o : Oper} {a : Act} {K : Act → World → Prop} {Q : Exit → Act → World → Prop} {E : Prop} (hgd : o.guard = none) (s x : Operand)
 (ho : o.op = .call { callee := .builtin .append, args := #[s, x], argTypes := #[24, 24] })
 {lo hi n c0 m c : Nat} {A0 A : Option Addr} {xs ys : List G3} (hs : a.eval s = .slice A0 n c0) (hown : OwnG w lo hi (.slice A0 n c0) n xs) (hx : a.eval x = .slice A m c) (hr : RG w A m ys)
 (hlen : n + m ≤ 8388608) (hlo : lo ≤ w.heap.size)
 (h : ∀ A' c' w', OwnG w' lo w'.heap.size (.slice A' (n + m) c') (n + m) (xs ++ ys) → w.grownBy w' (Value.slice A0 n c0).ownBlock → ((Value.slice A' (n + m) c').ownBlock = (Value.slice A0 n c0).ownBlock ∨ (Value.slice A' (n + m) c').ownBlock = some w.heap.size) → StayA A0 (n * 3) w w' → K (a.put o.dst (.slice A' (n + m) c')) w') :
 if Region.wanted o (yielded ops a.tmps) = true then Oper.wp Tryz.prog o a w K Q else E := by
 have hw : Region.wanted o (yielded ops a.tmps) = true := by simp [Region.wanted, hgd]
 rw [if_pos hw]
 exact wp_appG w s x ho hs hown hx hr hlen hlo h
def OwnX (w : World) (lo b : Nat) (Ag : Option Addr) (ng cg : Nat) (Ao : Option Addr) (no co : Nat) (gs : List G3) (os : List Int) : Prop :=
 OwnC w lo w.heap.size Ag ng cg Ao no co gs os ∧ (Value.slice Ag ng cg).ownBlock ≠ some b ∧ (Value.slice Ao no co).ownBlock ≠ some b
section
variable {w w' : World} {lo b : Nat} {Ag Ag' : Option Addr} {ng cg ng' cg' : Nat} {Ao Ao' : Option Addr} {no co no' co' : Nat} {gs gs' : List G3} {os os' : List Int}
theorem OwnX.below_ {B : Nat} (h : OwnX w lo b Ag ng cg Ao no co gs os) (k : Below B w w') (hB : w.heap.size ≤ B) : OwnX w' lo b Ag ng cg Ao no co gs os :=
 ⟨(h.1.below k (.inl hB)).now, h.2⟩
theorem OwnX.store (h : OwnX w lo b Ag ng cg Ao no co gs os) (q : Nat) (u : Value) : OwnX (w.setCell ⟨b, q, none⟩ u) lo b Ag ng cg Ao no co gs os :=
 ⟨⟨by simpa using (h.1.1.far1 ⟨b, q, none⟩ u h.2.1), by simpa using (h.1.2.1.far1 ⟨b, q, none⟩ u h.2.2), h.1.2.2⟩, h.2⟩
end
structure Alt (S : Nat → Prop) (w w' : World) : Prop where
 os : w'.os = w.os
 tape : w'.tape = w.tape
 output : w'.output = w.output
 size : w.heap.size ≤ w'.heap.size
 block : ∀ k, k < w.heap.size → ¬ S k → w'.heap[k]? = w.heap[k]?
section
variable {S T : Nat → Prop} {a b c w w' : World}
theorem Alt.refl_ (S : Nat → Prop) (w : World) : Alt S w w := ⟨rfl, rfl, rfl, Nat.le_refl _, fun _ _ _ => rfl⟩
theorem Alt.trans_ (h : Alt S a b) (k : Alt T b c) (hs : ∀ i, i < a.heap.size → T i → S i) : Alt S a c :=
 ⟨k.os.trans h.os, k.tape.trans h.tape, k.output.trans h.output, Nat.le_trans h.size k.size, fun i hi hn => (k.block i (Nat.lt_of_lt_of_le hi h.size) (fun ht => hn (hs i hi ht))).trans (h.block i hi hn)⟩
theorem Alt.mono_ (h : Alt S a b) (hs : ∀ i, i < a.heap.size → S i → T i) : Alt T a b := (Alt.refl_ T a).trans_ h hs
theorem Alt.of_below {B : Nat} (h : Below B a b) (hs : ∀ i, i < a.heap.size → B ≤ i → S i) : Alt S a b :=
 ⟨h.os, h.tape, h.output, h.size, fun i hi hn => h.block i (Nat.lt_of_not_le fun hc => hn (hs i hi hc))⟩
theorem Alt.of_new (h : Below a.heap.size a b) : Alt S a b := Alt.of_below h fun i hi hB => by omega
theorem Alt.of_grown {r : Option Nat} (h : a.grownBy b r) (hs : ∀ i, r = some i → S i) : Alt S a b :=
 ⟨h.os, h.tape, h.output, h.size, fun i hi hn => h.block i hi fun he => hn (hs i he.symm)⟩
theorem Alt.new_ (h : Alt S a b) (k : Below b.heap.size b c) : Alt S a c := h.trans_ (T := S) (Alt.of_new k) fun _ _ h => h
theorem Alt.grow_ {r : Option Nat} (h : Alt S a b) (k : b.grownBy c r) (hs : ∀ i, i < a.heap.size → r = some i → S i) : Alt S a c :=
 h.trans_ (T := fun i => r = some i) (Alt.of_grown k fun _ h => h) hs
theorem Alt.set_ (h : Alt S a b) (p : Addr) (v : Value) (hp : p.block < a.heap.size → S p.block) : Alt S a (b.setCell p v) := by
 have k := (Below.refl p.block b).setCell (p := p) lR v
 exact ⟨k.os.trans h.os, k.tape.trans h.tape, k.output.trans h.output, Nat.le_trans h.size k.size, fun i hi hn => (Below.heap_setCell b p v i (fun he => hn (by subst he; exact hp hi))).trans (h.block i hi hn)⟩
theorem Alt.alloc_ (h : Alt S a b) (o : Obj) : Alt S a (b.alloc o) := h.new_ ((Below.refl _ _).alloc lR o)
theorem Alt.drewN_ (h : Alt S a b) (n : Nat) : Alt S a (b.drewN n) := ⟨h.os, h.tape, h.output, h.size, h.block⟩
theorem Alt.grownBy_ {r : Option Nat} (h : Alt S a b) (hs : ∀ i, i < a.heap.size → S i → r = some i) : a.grownBy b r :=
 ⟨h.os, h.tape, h.output, h.size, fun i hi hn => h.block i hi fun hc => hn (hs i hi hc).symm⟩
theorem Alt.below_ {B : Nat} (h : Alt S a b) (hB : B ≤ a.heap.size) (hs : ∀ i, i < B → ¬ S i) : Below B a b :=
 ⟨h.os, h.tape, h.output, h.size, fun i hi => h.block i (by omega) (hs i hi)⟩
theorem Alt.cell_ {p : Addr} {v : Value} (k : Alt S w w') (h : w.cell? p = some v) (hp : ¬ S p.block) : w'.cell? p = some v :=
 (World.cell?_of_block (w := w) (k.block p.block (World.block_lt_of_cell? w _ h) hp)).trans h
end
section
variable {S : Nat → Prop} {w w' : World} {lo hi n b : Nat} {v : Value} {A : Option Addr}
theorem RI.alt {xs : List Int} (h : RI w A n xs) (k : Alt S w w') (hs : 0 < n → ∀ b o, A = some ⟨b, o, none⟩ → ¬ S b) : RI w' A n xs :=
 ⟨h.1, fun hn => by
  obtain ⟨b, o, hA, hlt, hc⟩ := h.2 hn
  exact ⟨b, o, hA, Nat.lt_of_lt_of_le hlt k.size, fun j hj => k.cell_ (hc j hj) (hs hn b o hA)⟩⟩
theorem RG.alt {xs : List G3} (h : RG w A n xs) (k : Alt S w w') (hs : 0 < n → ∀ b o, A = some ⟨b, o, none⟩ → ¬ S b) : RG w' A n xs :=
 ⟨h.1, fun hn => by
  obtain ⟨b, o, hA, hlt, hc⟩ := h.2 hn
  exact ⟨b, o, hA, Nat.lt_of_lt_of_le hlt k.size, fun j hj => ⟨k.cell_ (hc j hj).1 (hs hn b o hA), k.cell_ (hc j hj).2.1 (hs hn b o hA), k.cell_ (hc j hj).2.2 (hs hn b o hA)⟩⟩⟩
theorem Own.alt {xs : List Int} (h : Own w lo hi v n xs) (k : Alt S w w') (hs : ∀ g, v.ownBlock = some g → ¬ S g) : Own w' lo hi v n xs := by
 refine ⟨⟨h.1.1, ?_⟩, h.2⟩
 rcases h.1.2 with h1 | ⟨g, cap, cur, rfl, hlo, hg, r⟩
 ·exact .inl h1
 ·have hl := h.lt g (by simp [Value.ownBlock])
  exact .inr ⟨g, cap, cur, rfl, hlo, by rw [k.block g hl.2.2 (hs g (by simp [Value.ownBlock]))]; exact hg, r⟩
theorem OwnG.alt {xs : List G3} (h : OwnG w lo hi v n xs) (k : Alt S w w') (hs : ∀ g, v.ownBlock = some g → ¬ S g) : OwnG w' lo hi v n xs := by
 refine ⟨⟨h.1.1, ?_⟩, h.2⟩
 rcases h.1.2 with h1 | ⟨g, cap, cur, rfl, hlo, hg, r⟩
 ·exact .inl h1
 ·have hl := h.lt g (by simp [Value.ownBlock])
  exact .inr ⟨g, cap, cur, rfl, hlo, by rw [k.block g hl.2.2 (hs g (by simp [Value.ownBlock]))]; exact hg, r⟩
theorem Fz.alt (h : Fz w b) (k : Alt S w w') (hb : b < w.heap.size) (hs : ¬ S b) : Fz w' b := fun q => (World.frozen?_of_block (w := w) (a := ⟨b, q, none⟩) (k.block b hb hs)).trans (h q)
theorem BxC.alt {x y : Int} {Ag : Option Addr} {ng cg : Nat} {Ao : Option Addr} {no co : Nat} (h : BxC w b x y Ag ng cg Ao no co) (k : Alt S w w') (hs : ¬ S b) : BxC w' b x y Ag ng cg Ao no co :=
 ⟨k.cell_ h.1 hs, k.cell_ h.2.1 hs, k.cell_ h.2.2.1 hs, k.cell_ h.2.2.2 hs⟩
theorem RI.lt {xs : List Int} (h : RI w A n xs) {B : Nat} (hB : w.heap.size ≤ B) (hn : 0 < n) : ∀ b o, A = some ⟨b, o, none⟩ → b < B := fun b o hA => by
 obtain ⟨b', o', hA', hlt, _⟩ := h.2 hn
 rw [hA] at hA'; injection hA' with hA'; injection hA' with h1 h2; omega
theorem RG.lt {xs : List G3} (h : RG w A n xs) {B : Nat} (hB : w.heap.size ≤ B) (hn : 0 < n) : ∀ b o, A = some ⟨b, o, none⟩ → b < B := fun b o hA => by
 obtain ⟨b', o', hA', hlt, _⟩ := h.2 hn
 rw [hA] at hA'; injection hA' with hA'; injection hA' with h1 h2; omega
theorem BxC.bel {x y : Int} {Ag : Option Addr} {ng cg : Nat} {Ao : Option Addr} {no co : Nat} (h : BxC w b x y Ag ng cg Ao no co) {B : Nat} (k : Below B w w') (hb : b < B) : BxC w' b x y Ag ng cg Ao no co :=
 have hc : ∀ {q : Nat} {v : Value}, w.cell? ⟨b, q, none⟩ = some v → w'.cell? ⟨b, q, none⟩ = some v := fun {q v} hv => (k.cell (p := ⟨b, q, none⟩) hb).trans hv
 ⟨hc h.1, hc h.2.1, hc h.2.2.1, hc h.2.2.2⟩
theorem BxC.lt {x y : Int} {Ag : Option Addr} {ng cg : Nat} {Ao : Option Addr} {no co : Nat} (h : BxC w b x y Ag ng cg Ao no co) : b < w.heap.size := World.block_lt_of_cell? w _ h.1
end
theorem Zbh {S : Nat → Prop} {a w : World} {b : Nat} (h : Alt S a w) (hb : b < a.heap.size → S b) (x y : Int) (Ag : Option Addr) (ng cg : Nat) (Ao : Option Addr) (no co : Nat) :
 Alt S a ((((w.setCell ⟨b, 0, none⟩ (.int .i64 x)).setCell ⟨b, 1, none⟩ (.int .i64 y)).setCell ⟨b, 2, none⟩ (.slice Ag ng cg)).setCell ⟨b, 3, none⟩ (.slice Ao no co)) :=
 (((h.set_ ⟨b, 0, none⟩ _ hb).set_ ⟨b, 1, none⟩ _ hb).set_ ⟨b, 2, none⟩ _ hb).set_ ⟨b, 3, none⟩ _ hb
def bs (l : List UInt8) : ByteArray := ⟨l.toArray⟩
theorem Zbd (l : List UInt8) : (bs l).size = l.length := by simp [bs, ByteArray.size]
theorem Zbb (a b : List UInt8) : bs a ++ bs b = bs (a ++ b) := ByteArray.mk_append_mk a b
theorem bs_data (s : ByteArray) : bs s.data.toList = s := by cases s; simp [bs]
theorem Zbu (x : List UInt8) : (bs x).toList = x := by rw [ByteArray.toList_eq]; simp [bs]
theorem bs_is {x y : List UInt8} (h : x = y) : ((bs x).toList == y) = true := by rw [Zbu, h]; simp
theorem bs_not {x y : List UInt8} (h : ¬ x = y) : ((bs x).toList == y) = false := by rw [Zbu]; simp [h]
def sx (l : List (List UInt8)) (j : Nat) : List UInt8 := l.getD j []
def RX (w : World) (A : Option Addr) (n : Nat) (l : List (List UInt8)) : Prop :=
 l.length = n ∧ (0 < n → ∃ b o, A = some ⟨b, o, none⟩ ∧ b < w.heap.size ∧ ∀ j, j < n → w.cell? ⟨b, o + j, none⟩ = some (.string (bs (sx l j))))
theorem RX.len {w : World} {A : Option Addr} {n : Nat} {l : List (List UInt8)} (h : RX w A n l) : l.length = n := h.1
theorem RX.at_ {w : World} {A : Option Addr} {n k : Nat} {l : List (List UInt8)} (h : RX w A n l) (hk : k < n) : ∃ b o, A = some ⟨b, o, none⟩ ∧ b < w.heap.size ∧ w.cell? ⟨b, o + k, none⟩ = some (.string (bs (sx l k))) := by
 obtain ⟨b, o, h1, h2, h3⟩ := h.2 (by omega)
 exact ⟨b, o, h1, h2, h3 k hk⟩
theorem RX.below {w w' : World} {A : Option Addr} {n B : Nat} {l : List (List UInt8)} (h : RX w A n l) (hb : Below B w w') (hB : w.heap.size ≤ B) : RX w' A n l :=
 ⟨h.1, fun hn => by
  obtain ⟨b, o, h1, h2, h3⟩ := h.2 hn
  exact ⟨b, o, h1, Nat.lt_of_lt_of_le h2 hb.size, fun j hj => cell_on hb (h3 j hj) hB⟩⟩
theorem RX.alt {S : Nat → Prop} {w w' : World} {A : Option Addr} {n : Nat} {l : List (List UInt8)} (h : RX w A n l) (k : Alt S w w') (hS : ∀ b o, A = some ⟨b, o, none⟩ → ¬ S b) : RX w' A n l :=
 ⟨h.1, fun hn => by
  obtain ⟨b, o, h1, h2, h3⟩ := h.2 hn
  exact ⟨b, o, h1, Nat.lt_of_lt_of_le h2 k.size, fun j hj => k.cell_ (h3 j hj) (hS b o h1)⟩⟩
theorem RX.tail_ {w : World} {b o n : Nat} {l : List (List UInt8)} (h : RX w (some ⟨b, o, none⟩) (n + 1) l) : RX w (some ⟨b, o + 1, none⟩) n l.tail := by
 refine ⟨by have := h.1; simp; omega, fun hn => ?_⟩
 obtain ⟨b', o', h1, h2, h3⟩ := h.2 (by omega)
 simp only [Option.some.injEq, Addr.mk.injEq, and_true] at h1
 obtain ⟨rfl, rfl⟩ := h1
 refine ⟨_, _, rfl, h2, fun j hj => ?_⟩
 have := h3 (j + 1) (by omega)
 rw [Nat.add_assoc, Nat.add_comm 1 j, this]
 simp [sx, List.getD, List.getElem?_tail]
end Go.Proofs.YtnhmfedegfcflaaGreatDoor
namespace Go.Proofs
open Go.Shelf
def Tryz.laysM171_ren : Go.Shelf.Ren := ⟨fun | 171 => 92 | 243 => 103 | 246 => 113 | 283 => 122 | 284 => 123 | 285 => 124 | 286 => 125 | 129 => 131 | 317 => 130 | 318 => 132 | 319 => 133 | 320 => 134 | 337 => 135 | 338 => 136 | n => n, fun | 3 => 3 | 9 => 9 | 2 => 2 | 4 => 4 | 171 => 127 | 0 => 0 | 53 => 57 | 37 => 22 | 5 => 5 | 173 => 130 | 212 => 146 | 51 => 136 | 20 => 20 | 213 => 147 | 46 => 71 | 232 => 150 | 233 => 151 | n => n, fun | 17 => 6 | 18 => 7 | 19 => 8 | n => n⟩
theorem Tryz.laysM171 : Go.Proofs.LaysM.n171 Tryz.prog Tryz.laysM171_ren := {
 mixed := by kernel_rfl
 f129 := Tryz.func131.trans (congrArg some (by kernel_rfl))
 f171 := Tryz.func92.trans (congrArg some (by kernel_rfl))
 f243 := Tryz.func103.trans (congrArg some (by kernel_rfl))
 f246 := Tryz.func113.trans (congrArg some (by kernel_rfl))
 f283 := Tryz.func122.trans (congrArg some (by kernel_rfl))
 f284 := Tryz.func123.trans (congrArg some (by kernel_rfl))
 f285 := Tryz.func124.trans (congrArg some (by kernel_rfl))
 f286 := Tryz.func125.trans (congrArg some (by kernel_rfl))
 f317 := Tryz.func130.trans (congrArg some (by kernel_rfl))
 f318 := Tryz.func132.trans (congrArg some (by kernel_rfl))
 f319 := Tryz.func133.trans (congrArg some (by kernel_rfl))
 f320 := Tryz.func134.trans (congrArg some (by kernel_rfl))
 f337 := Tryz.func135.trans (congrArg some (by kernel_rfl))
 f338 := Tryz.func136.trans (congrArg some (by kernel_rfl))
 t0 := Tryz.underlying0
 a0 := Tryz.isAgg0
 z0 := Tryz.sizeOf0
 v0 := Tryz.zeroValue0
 t2 := Tryz.underlying2
 a2 := Tryz.isAgg2
 z2 := Tryz.sizeOf2
 v2 := Tryz.zeroValue2
 t3 := Tryz.underlying3
 a3 := Tryz.isAgg3
 z3 := Tryz.sizeOf3
 v3 := Tryz.zeroValue3
 t4 := Tryz.underlying4
 a4 := Tryz.isAgg4
 z4 := Tryz.sizeOf4
 v4 := Tryz.zeroValue4
 t5 := Tryz.underlying5
 a5 := Tryz.isAgg5
 z5 := Tryz.sizeOf5
 v5 := Tryz.zeroValue5
 t9 := Tryz.underlying9
 a9 := Tryz.isAgg9
 z9 := Tryz.sizeOf9
 v9 := Tryz.zeroValue9
 t20 := Tryz.underlying20
 a20 := Tryz.isAgg20
 z20 := Tryz.sizeOf20
 v20 := Tryz.zeroValue20
 t37 := Tryz.underlying22
 a37 := Tryz.isAgg22
 z37 := Tryz.sizeOf22
 v37 := Tryz.zeroValue22
 t46 := Tryz.underlying71
 a46 := Tryz.isAgg71
 z46 := Tryz.sizeOf71
 v46 := Tryz.zeroValue71
 t51 := Tryz.underlying136
 a51 := Tryz.isAgg136
 z51 := Tryz.sizeOf136
 v51 := Tryz.zeroValue136
 t53 := Tryz.underlying57
 a53 := Tryz.isAgg57
 z53 := Tryz.sizeOf57
 v53 := Tryz.zeroValue57
 t171 := Tryz.underlying127
 a171 := Tryz.isAgg127
 z171 := Tryz.sizeOf127
 v171 := Tryz.zeroValue127
 t173 := Tryz.underlying130
 a173 := Tryz.isAgg130
 z173 := Tryz.sizeOf130
 v173 := Tryz.zeroValue130
 t212 := Tryz.underlying146
 a212 := Tryz.isAgg146
 z212 := Tryz.sizeOf146
 v212 := Tryz.zeroValue146
 t213 := Tryz.underlying147
 a213 := Tryz.isAgg147
 z213 := Tryz.sizeOf147
 t232 := Tryz.underlying150
 a232 := Tryz.isAgg150
 z232 := Tryz.sizeOf150
 v232 := Tryz.zeroValue150
 t233 := Tryz.underlying151
 a233 := Tryz.isAgg151
 z233 := Tryz.sizeOf151
 v233 := Tryz.zeroValue151
 g17 := by kernel_rfl
 g18 := by kernel_rfl
 g19 := by kernel_rfl
 i0 := by kernel_rfl
 i2 := by kernel_rfl
 i3 := by kernel_rfl
 i4 := by kernel_rfl
 i5 := by kernel_rfl
 i9 := by kernel_rfl
 i20 := by kernel_rfl
 i37 := by kernel_rfl
 i46 := by kernel_rfl
 i51 := by kernel_rfl
 i53 := by kernel_rfl
 i171 := by kernel_rfl
 i173 := by kernel_rfl
 i212 := by kernel_rfl
 i232 := by kernel_rfl
 i233 := by kernel_rfl
 m17 := by kernel_rfl
 m18 := by kernel_rfl
 m19 := by kernel_rfl }
end Go.Proofs
