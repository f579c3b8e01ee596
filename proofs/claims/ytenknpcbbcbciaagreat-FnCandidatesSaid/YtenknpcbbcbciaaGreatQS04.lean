/- Slices of bytes that came in: what the walks ask of them. No condition. -/
import Derived.StillTailTactics
import Derived.Test.YtenknpcbbcbciaaGreatQS03
namespace Go.Proofs.YtenknpcbbcbciaaGreat
open Go.RowKit
set_option linter.unusedVariables false
set_option linter.unusedSimpArgs false
theorem wp_region_tail {P : Program} {id : Nat} {Q : Exit → Act → World → Prop} {a : Act} {w : World} {l : List Oper} (n : Nat) (hm : P.follows .mixedOrders = true) (hB : Region.lexTailB .any l.toArray n = true)
 (h : wpStill P l.toArray (w.drewN 1) (fun a' => wpList P l.toArray Q (l.drop n) a' (w.drewN 1)) (l.take n) a) : (Code.region id l.toArray true).wp P Q a w :=
 wp_region_still_tail n hm hB h
set_option maxRecDepth 100000 in
set_option maxHeartbeats 4000000 in
theorem ciValues_any (x y : Int) (Ag : Option Addr) (ng cg : Nat) (Ao : Option Addr) (no co : Nat) (A : Option Addr) (n c : Nat) (gs : List G3) (inp : List Int) (w : World) (hg : RG w Ag ng gs) (ha : RI w A n inp) (hi : allB 0 1 inp = true) (hgat : gatesB n gs ng = true) (hng : ng ≤ 300) (hn : n ≤ 40) :
 Calls Tryz.prog 105 #[.agg #[.int .i64 x, .int .i64 y, .slice Ag ng cg, .slice Ao no co], .slice A n c] w (RetI w (vals gs inp ng)) := by
 have hB : Below w.heap.size w (w.alloc (.cells #[.int .i64 x, .int .i64 y, .slice Ag ng cg, .slice Ao no co] 38)) := bA
 have hla := ha.len
 have hvb : ∀ k, k ≤ ng → allB 0 1 (vals gs inp k) = true := fun k hk => vals_bd (n := n) (by omega) hi k ng hk hgat
 have hvl : ∀ k, (vals gs inp k).length = n + k := fun k => by rw [Zdd]; omega
 have HV := zH hvb; have HL := zH hvl; clear hvb hvl
 go_enter Tryz.func105, Tryz.ntmps105
 go_wp2_with fail
 refine (Zeo A n c inp _ (ha.below hB lR) (by omega)).mono ?_
 rintro e w1 ⟨A1, c1, rfl, hown1, hb1⟩
 have hz1 := hb1.size
 simp only [World.size_alloc] at hz1 hown1
 have hz1' : w.heap.size < w1.heap.size := by omega
 obtain ⟨hc1, hf1⟩ := bcell hb1
 have hb1' := hb1
 simp only [World.size_alloc] at hb1'
 go_wp2_with fail
 go_loopw [5, 13] (fun v i wr => ∃ (k : Nat) (A' : Option Addr) (c' : Nat), k ≤ ng ∧ i = .int .i64 k ∧ v = .slice A' (n + k : Nat) c' ∧ Own wr (w.heap.size + 1) wr.heap.size (.slice A' (n + k) c') (n + k) (vals gs inp k) ∧ Below (w.heap.size + 1) (w.alloc (.cells #[.int .i64 x, .int .i64 y, .slice Ag ng cg, .slice Ao no co] 38)) wr) (fun _ i _ => ng - (intOf i).toNat)
 case atStart => exact ⟨0, _, _, Nat.zero_le _, rfl, rfl, hown1, hb1'⟩
 case round =>
  obtain ⟨k, A', c', hk, rfl, rfl, hown, hb⟩ := hrel
  clear hown1 hc1 hf1 hb1 hb1' hz1 hz1'
  have hbw : Below w.heap.size w wr := hB.trans (hb.mono (by omega))
  by_cases hlt : k < ng
  ·obtain ⟨b, o, rfl, hbB, c1, c2, c3⟩ := (hg.below hbw lR).at_ hlt
   have hgt := gatesB_at hgat hlt
   have hsn := zH (Zei gs inp k)
   have hvk := HV.out k (by omega)
   have hlk := HL.out k
   have hz := hb.size
   simp only [World.size_alloc] at hz
   generalize vals gs inp k = vs at *
   generalize gg gs k = G at *
   obtain ⟨gk, ga, gb⟩ := G
   dsimp only at c1 c2 c3
   cases hgt with
   | xor_ hk0 a0 a1 b0 b1 =>
    dsimp only at hk0 a0 a1 b0 b1
    obtain ⟨a, rfl⟩ := Int.eq_ofNat_of_zero_le a0
    obtain ⟨b', rfl⟩ := Int.eq_ofNat_of_zero_le b0
    subst hk0
    obtain ⟨g, rfl, hg1, hg2, hg3⟩ := hown.some_ (by omega)
    obtain ⟨d1, _⟩ := hown.cellAt (k := a) (by omega)
    obtain ⟨d2, _⟩ := hown.cellAt (k := b') (by omega)
    have hsn' : Hid (vals gs inp (k + 1) = vs ++ [bits .xor .i64 (gi vs a) (gi vs b')]) := zH (by rw [hsn.out, gval, if_pos rfl]; rfl)
    have hbx : Below wr.heap.size wr (wr.alloc (.cells #[.int .i64 0, .int .i64 a, .int .i64 b'] 104)) := bA
    have e1 := Zab d1 hbx
    have e2 := Zab d2 hbx
    have hownA := fun q => ((hown.below hbx (.inl lR)).drewN q).alloc (.cells #[.int .i64 (bits .xor .i64 (gi vs a) (gi vs b'))] 3)
    have hbA := fun q => (Zaa (hb.alloc hz (.cells #[.int .i64 0, .int .i64 a, .int .i64 b'] 104)) q).alloc (by simp; omega) (.cells #[.int .i64 (bits .xor .i64 (gi vs a) (gi vs b'))] 3)
    clear d1 d2
    go_wp2_with fail
    go_region_held3 (fun w' => w'.cell? ⟨wr.heap.size, 1, none⟩ = some (.int .i64 a) ∧ w'.cell? ⟨wr.heap.size, 2, none⟩ = some (.int .i64 b') ∧ w'.cell? ⟨g, a, none⟩ = some (.int .i64 (gi vs a)) ∧ w'.cell? ⟨g, b', none⟩ = some (.int .i64 (gi vs b')))
     (first | go_keep | (go_split_ands; exact ⟨hk5 _ _ _ (by assumption) (fun g9 hg9 he9 => by first | omega | (simp only [Option.some.injEq, Addr.mk.injEq, and_true] at hg9; omega)), hk5 _ _ _ (by assumption) (fun g9 hg9 he9 => by first | omega | (simp only [Option.some.injEq, Addr.mk.injEq, and_true] at hg9; omega)), hk5 _ _ _ (by assumption) (fun g9 hg9 he9 => by first | omega | (simp only [Option.some.injEq, Addr.mk.injEq, and_true] at hg9; omega)), hk5 _ _ _ (by assumption) (fun g9 hg9 he9 => by first | omega | (simp only [Option.some.injEq, Addr.mk.injEq, and_true] at hg9; omega))⟩))
     (first | (refine Zcd _ (by rfl) _ _ (by rfl) (by rfl) (hownA 1) (by rfl) (Zaj _ _ _ _ (by simp)) (by omega) oM ?_; intro A5 c5 w5 hown5 hg5 hat5 hk5))
    have hb5 := Zah (hbA 1) (hownA 1) hg5 (by simp; omega) lR
    rw [← hsn'.out] at hown5
    clear hownA hbA hg5 hat5 hk5 e1 e2 hown hb
    go_wp2
    go_roundw
    case rel => exact ⟨k + 1, _, _, by omega, by go_num, rfl, hown5, hb5⟩
    case measure => simp [intOf]; omega
   | and_ hk0 a0 a1 b0 b1 =>
    dsimp only at hk0 a0 a1 b0 b1
    obtain ⟨a, rfl⟩ := Int.eq_ofNat_of_zero_le a0
    obtain ⟨b', rfl⟩ := Int.eq_ofNat_of_zero_le b0
    subst hk0
    obtain ⟨g, rfl, hg1, hg2, hg3⟩ := hown.some_ (by omega)
    obtain ⟨d1, _⟩ := hown.cellAt (k := a) (by omega)
    obtain ⟨d2, _⟩ := hown.cellAt (k := b') (by omega)
    have hsn' : Hid (vals gs inp (k + 1) = vs ++ [bits .and .i64 (gi vs a) (gi vs b')]) := zH (by rw [hsn.out, gval, if_neg (by show ¬ ((1 : Int) = 0); decide), if_pos rfl]; rfl)
    have hbx : Below wr.heap.size wr (wr.alloc (.cells #[.int .i64 1, .int .i64 a, .int .i64 b'] 104)) := bA
    have e1 := Zab d1 hbx
    have e2 := Zab d2 hbx
    have hownA := fun q => ((hown.below hbx (.inl lR)).drewN q).alloc (.cells #[.int .i64 (bits .and .i64 (gi vs a) (gi vs b'))] 3)
    have hbA := fun q => (Zaa (hb.alloc hz (.cells #[.int .i64 1, .int .i64 a, .int .i64 b'] 104)) q).alloc (by simp; omega) (.cells #[.int .i64 (bits .and .i64 (gi vs a) (gi vs b'))] 3)
    clear d1 d2
    go_wp2_with fail
    go_region_held3 (fun w' => w'.cell? ⟨wr.heap.size, 1, none⟩ = some (.int .i64 a) ∧ w'.cell? ⟨wr.heap.size, 2, none⟩ = some (.int .i64 b') ∧ w'.cell? ⟨g, a, none⟩ = some (.int .i64 (gi vs a)) ∧ w'.cell? ⟨g, b', none⟩ = some (.int .i64 (gi vs b')))
     (first | go_keep | (go_split_ands; exact ⟨hk5 _ _ _ (by assumption) (fun g9 hg9 he9 => by first | omega | (simp only [Option.some.injEq, Addr.mk.injEq, and_true] at hg9; omega)), hk5 _ _ _ (by assumption) (fun g9 hg9 he9 => by first | omega | (simp only [Option.some.injEq, Addr.mk.injEq, and_true] at hg9; omega)), hk5 _ _ _ (by assumption) (fun g9 hg9 he9 => by first | omega | (simp only [Option.some.injEq, Addr.mk.injEq, and_true] at hg9; omega)), hk5 _ _ _ (by assumption) (fun g9 hg9 he9 => by first | omega | (simp only [Option.some.injEq, Addr.mk.injEq, and_true] at hg9; omega))⟩))
     (first | (refine Zcd _ (by rfl) _ _ (by rfl) (by rfl) (hownA 1) (by rfl) (Zaj _ _ _ _ (by simp)) (by omega) oM ?_; intro A5 c5 w5 hown5 hg5 hat5 hk5))
    have hb5 := Zah (hbA 1) (hownA 1) hg5 (by simp; omega) lR
    rw [← hsn'.out] at hown5
    clear hownA hbA hg5 hat5 hk5 e1 e2 hown hb
    go_wp2
    go_roundw
    case rel => exact ⟨k + 1, _, _, by omega, by go_num, rfl, hown5, hb5⟩
    case measure => simp [intOf]; omega
   | not_ hk0 a0 a1 b0 =>
    dsimp only at hk0 a0 a1 b0
    obtain ⟨a, rfl⟩ := Int.eq_ofNat_of_zero_le a0
    subst hk0
    subst b0
    obtain ⟨g, rfl, hg1, hg2, hg3⟩ := hown.some_ (by omega)
    obtain ⟨d1, _⟩ := hown.cellAt (k := a) (by omega)
    have hvx := Zdc hvk (j := a) (by omega)
    obtain ⟨hv0, hv1⟩ := hvx
    have hsn' : Hid (vals gs inp (k + 1) = vs ++ [1 - gi vs a]) := zH (by rw [hsn.out, gval, if_neg (by show ¬ ((2 : Int) = 0); decide), if_neg (by show ¬ ((2 : Int) = 1); decide), if_pos rfl]; rfl)
    have hbx : Below wr.heap.size wr (wr.alloc (.cells #[.int .i64 2, .int .i64 a, .int .i64 0] 104)) := bA
    have e1 := Zab d1 hbx
    have hownA := (hown.below hbx (.inl lR)).alloc (.cells #[.int .i64 (1 - gi vs a)] 3)
    have hbA := (hb.alloc hz (.cells #[.int .i64 2, .int .i64 a, .int .i64 0] 104)).alloc (by simp; omega) (.cells #[.int .i64 (1 - gi vs a)] 3)
    clear d1
    go_wp2_with (at_builtin; refine Zal _ rfl _ _ rfl rfl hownA rfl (Zaj _ _ _ _ (by simp)) (by omega) oM ?_; intro A5 c5 w5 hown5 hg5 hat5)
    have hb5 := Zah hbA hownA hg5 (by simp; omega) lR
    rw [← hsn'.out] at hown5
    clear hownA hbA hg5 hat5 e1 hown hb
    go_wp2
    go_roundw
    case rel => exact ⟨k + 1, _, _, by omega, by go_num, rfl, hown5, hb5⟩
    case measure => simp [intOf]; omega
   | one_ hk0 a0 b0 =>
    dsimp only at hk0 a0 b0
    subst hk0
    subst a0
    subst b0
    have hsn' : Hid (vals gs inp (k + 1) = vs ++ [1]) := zH (by rw [hsn.out, gval, if_neg (by show ¬ ((3 : Int) = 0); decide), if_neg (by show ¬ ((3 : Int) = 1); decide), if_neg (by show ¬ ((3 : Int) = 2); decide)])
    have hbx : Below wr.heap.size wr (wr.alloc (.cells #[.int .i64 3, .int .i64 0, .int .i64 0] 104)) := bA
    have hownA := (hown.below hbx (.inl lR)).alloc (.cells #[.int .i64 1] 3)
    have hbA := (hb.alloc hz (.cells #[.int .i64 3, .int .i64 0, .int .i64 0] 104)).alloc (by simp; omega) (.cells #[.int .i64 1] 3)
    go_wp2_with (at_builtin; refine Zal _ rfl _ _ rfl rfl hownA rfl (Zaj _ _ _ _ (by simp)) (by omega) oM ?_; intro A5 c5 w5 hown5 hg5 hat5)
    have hb5 := Zah hbA hownA hg5 (by simp; omega) lR
    rw [← hsn'.out] at hown5
    clear hownA hbA hg5 hat5 hown hb
    go_wp2
    go_roundw
    case rel => exact ⟨k + 1, _, _, by omega, by go_num, rfl, hown5, hb5⟩
    case measure => simp [intOf]; omega
  ·obtain rfl : ng = k := by omega
   go_wp2
   go_ret
   exact RetI.mk_ (HL.out ng) rfl (hown.lo_ (by omega)) hbw
set_option maxRecDepth 100000 in
set_option maxHeartbeats 4000000 in
theorem Zcx (x y : Int) (Ag : Option Addr) (ng cg : Nat) (Ao : Option Addr) (no co : Nat) (A : Option Addr) (n c : Nat) (gs : List G3) (inp : List Int) (w : World) (hg : RG w Ag ng gs) (ha : RI w A n inp) (hi : allB 0 1 inp = true) (hgat : gatesB n gs ng = true) (hng : ng ≤ 300) (hn : n ≤ 40) :
 Calls Tryz.prog 45 #[.agg #[.int .i64 x, .int .i64 y, .slice Ag ng cg, .slice Ao no co], .slice A n c] w (RetI w (vals gs inp ng)) := by
 have hB : Below w.heap.size w (w.alloc (.cells #[.int .i64 x, .int .i64 y, .slice Ag ng cg, .slice Ao no co] 38)) := bA
 have hla := ha.len
 have hvb : ∀ k, k ≤ ng → allB 0 1 (vals gs inp k) = true := fun k hk => vals_bd (n := n) (by omega) hi k ng hk hgat
 have hvl : ∀ k, (vals gs inp k).length = n + k := fun k => by rw [Zdd]; omega
 have HV := zH hvb; have HL := zH hvl; clear hvb hvl
 go_enter Tryz.func45, Tryz.ntmps45
 go_wp2_with fail
 refine (Clone_any A n c inp _ (ha.below hB lR) (by omega)).mono ?_
 rintro e w1 ⟨A1, c1, rfl, hown1, hb1⟩
 have hz1 := hb1.size
 simp only [World.size_alloc] at hz1 hown1
 have hz1' : w.heap.size < w1.heap.size := by omega
 obtain ⟨hc1, hf1⟩ := bcell hb1
 have hb1' := hb1
 simp only [World.size_alloc] at hb1'
 go_wp2_with fail
 go_loopw [5, 14] (fun v i wr => ∃ (k : Nat) (A' : Option Addr) (c' : Nat), k ≤ ng ∧ i = .int .i64 k ∧ v = .slice A' (n + k : Nat) c' ∧ Own wr (w.heap.size + 1) wr.heap.size (.slice A' (n + k) c') (n + k) (vals gs inp k) ∧ Below (w.heap.size + 1) (w.alloc (.cells #[.int .i64 x, .int .i64 y, .slice Ag ng cg, .slice Ao no co] 38)) wr) (fun _ i _ => ng - (intOf i).toNat)
 case atStart => exact ⟨0, _, _, Nat.zero_le _, rfl, rfl, hown1, hb1'⟩
 case round =>
  obtain ⟨k, A', c', hk, rfl, rfl, hown, hb⟩ := hrel
  clear hown1 hc1 hf1 hb1 hb1' hz1 hz1'
  have hbw : Below w.heap.size w wr := hB.trans (hb.mono (by omega))
  by_cases hlt : k < ng
  ·obtain ⟨b, o, rfl, hbB, c1, c2, c3⟩ := (hg.below hbw lR).at_ hlt
   have hgt := gatesB_at hgat hlt
   have hsn := zH (Zei gs inp k)
   have hvk := HV.out k (by omega)
   have hlk := HL.out k
   have hz := hb.size
   simp only [World.size_alloc] at hz
   generalize vals gs inp k = vs at *
   generalize gg gs k = G at *
   obtain ⟨gk, ga, gb⟩ := G
   dsimp only at c1 c2 c3
   cases hgt with
   | xor_ hk0 a0 a1 b0 b1 =>
    dsimp only at hk0 a0 a1 b0 b1
    obtain ⟨a, rfl⟩ := Int.eq_ofNat_of_zero_le a0
    obtain ⟨b', rfl⟩ := Int.eq_ofNat_of_zero_le b0
    subst hk0
    obtain ⟨g, rfl, hg1, hg2, hg3⟩ := hown.some_ (by omega)
    obtain ⟨d1, _⟩ := hown.cellAt (k := a) (by omega)
    obtain ⟨d2, _⟩ := hown.cellAt (k := b') (by omega)
    have hsn' : Hid (vals gs inp (k + 1) = vs ++ [bits .xor .i64 (gi vs a) (gi vs b')]) := zH (by rw [hsn.out, gval, if_pos rfl]; rfl)
    have hbx : Below wr.heap.size wr (wr.alloc (.cells #[.int .i64 0, .int .i64 a, .int .i64 b'] 104)) := bA
    have e1 := Zab d1 hbx
    have e2 := Zab d2 hbx
    have hownA := fun q => ((hown.below hbx (.inl lR)).drewN q).alloc (.cells #[.int .i64 (bits .xor .i64 (gi vs a) (gi vs b'))] 3)
    have hbA := fun q => (Zaa (hb.alloc hz (.cells #[.int .i64 0, .int .i64 a, .int .i64 b'] 104)) q).alloc (by simp; omega) (.cells #[.int .i64 (bits .xor .i64 (gi vs a) (gi vs b'))] 3)
    clear d1 d2
    go_wp2_with fail
    go_quiet (fail)
    go_wp2_with (at_builtin; refine Zae _ rfl _ _ rfl rfl (hownA _) rfl (Zaj _ _ _ _ (by simp)) (by omega) oM ?_; intro A5 c5 w5 hown5 hg5 hat5 hk5)
    have hb5 := Zah (hbA _) (hownA _) hg5 (by simp; omega) lR
    rw [← hsn'.out] at hown5
    clear hownA hbA hg5 hat5 hk5 e1 e2 hown hb
    go_wp2
    go_roundw
    case rel => exact ⟨k + 1, _, _, by omega, by go_num, rfl, hown5, hb5⟩
    case measure => simp [intOf]; omega
   | and_ hk0 a0 a1 b0 b1 =>
    dsimp only at hk0 a0 a1 b0 b1
    obtain ⟨a, rfl⟩ := Int.eq_ofNat_of_zero_le a0
    obtain ⟨b', rfl⟩ := Int.eq_ofNat_of_zero_le b0
    subst hk0
    obtain ⟨g, rfl, hg1, hg2, hg3⟩ := hown.some_ (by omega)
    obtain ⟨d1, _⟩ := hown.cellAt (k := a) (by omega)
    obtain ⟨d2, _⟩ := hown.cellAt (k := b') (by omega)
    have hsn' : Hid (vals gs inp (k + 1) = vs ++ [bits .and .i64 (gi vs a) (gi vs b')]) := zH (by rw [hsn.out, gval, if_neg (by show ¬ ((1 : Int) = 0); decide), if_pos rfl]; rfl)
    have hbx : Below wr.heap.size wr (wr.alloc (.cells #[.int .i64 1, .int .i64 a, .int .i64 b'] 104)) := bA
    have e1 := Zab d1 hbx
    have e2 := Zab d2 hbx
    have hownA := fun q => ((hown.below hbx (.inl lR)).drewN q).alloc (.cells #[.int .i64 (bits .and .i64 (gi vs a) (gi vs b'))] 3)
    have hbA := fun q => (Zaa (hb.alloc hz (.cells #[.int .i64 1, .int .i64 a, .int .i64 b'] 104)) q).alloc (by simp; omega) (.cells #[.int .i64 (bits .and .i64 (gi vs a) (gi vs b'))] 3)
    clear d1 d2
    go_wp2_with fail
    go_quiet (fail)
    go_wp2_with (at_builtin; refine Zae _ rfl _ _ rfl rfl (hownA _) rfl (Zaj _ _ _ _ (by simp)) (by omega) oM ?_; intro A5 c5 w5 hown5 hg5 hat5 hk5)
    have hb5 := Zah (hbA _) (hownA _) hg5 (by simp; omega) lR
    rw [← hsn'.out] at hown5
    clear hownA hbA hg5 hat5 hk5 e1 e2 hown hb
    go_wp2
    go_roundw
    case rel => exact ⟨k + 1, _, _, by omega, by go_num, rfl, hown5, hb5⟩
    case measure => simp [intOf]; omega
   | not_ hk0 a0 a1 b0 =>
    dsimp only at hk0 a0 a1 b0
    obtain ⟨a, rfl⟩ := Int.eq_ofNat_of_zero_le a0
    subst hk0
    subst b0
    obtain ⟨g, rfl, hg1, hg2, hg3⟩ := hown.some_ (by omega)
    obtain ⟨d1, _⟩ := hown.cellAt (k := a) (by omega)
    have hvx := Zdc hvk (j := a) (by omega)
    obtain ⟨hv0, hv1⟩ := hvx
    have hsn' : Hid (vals gs inp (k + 1) = vs ++ [1 - gi vs a]) := zH (by rw [hsn.out, gval, if_neg (by show ¬ ((2 : Int) = 0); decide), if_neg (by show ¬ ((2 : Int) = 1); decide), if_pos rfl]; rfl)
    have hbx : Below wr.heap.size wr (wr.alloc (.cells #[.int .i64 2, .int .i64 a, .int .i64 0] 104)) := bA
    have e1 := Zab d1 hbx
    have hownA := (hown.below hbx (.inl lR)).alloc (.cells #[.int .i64 (1 - gi vs a)] 3)
    have hbA := (hb.alloc hz (.cells #[.int .i64 2, .int .i64 a, .int .i64 0] 104)).alloc (by simp; omega) (.cells #[.int .i64 (1 - gi vs a)] 3)
    clear d1
    go_wp2_with (at_builtin; refine Zal _ rfl _ _ rfl rfl hownA rfl (Zaj _ _ _ _ (by simp)) (by omega) oM ?_; intro A5 c5 w5 hown5 hg5 hat5)
    have hb5 := Zah hbA hownA hg5 (by simp; omega) lR
    rw [← hsn'.out] at hown5
    clear hownA hbA hg5 hat5 e1 hown hb
    go_wp2
    go_roundw
    case rel => exact ⟨k + 1, _, _, by omega, by go_num, rfl, hown5, hb5⟩
    case measure => simp [intOf]; omega
   | one_ hk0 a0 b0 =>
    dsimp only at hk0 a0 b0
    subst hk0
    subst a0
    subst b0
    have hsn' : Hid (vals gs inp (k + 1) = vs ++ [1]) := zH (by rw [hsn.out, gval, if_neg (by show ¬ ((3 : Int) = 0); decide), if_neg (by show ¬ ((3 : Int) = 1); decide), if_neg (by show ¬ ((3 : Int) = 2); decide)])
    have hbx : Below wr.heap.size wr (wr.alloc (.cells #[.int .i64 3, .int .i64 0, .int .i64 0] 104)) := bA
    have hownA := (hown.below hbx (.inl lR)).alloc (.cells #[.int .i64 1] 3)
    have hbA := (hb.alloc hz (.cells #[.int .i64 3, .int .i64 0, .int .i64 0] 104)).alloc (by simp; omega) (.cells #[.int .i64 1] 3)
    go_wp2_with (at_builtin; refine Zal _ rfl _ _ rfl rfl hownA rfl (Zaj _ _ _ _ (by simp)) (by omega) oM ?_; intro A5 c5 w5 hown5 hg5 hat5)
    have hb5 := Zah hbA hownA hg5 (by simp; omega) lR
    rw [← hsn'.out] at hown5
    clear hownA hbA hg5 hat5 hown hb
    go_wp2
    go_roundw
    case rel => exact ⟨k + 1, _, _, by omega, by go_num, rfl, hown5, hb5⟩
    case measure => simp [intOf]; omega
  ·obtain rfl : ng = k := by omega
   go_wp2
   go_ret
   exact RetI.mk_ (HL.out ng) rfl (hown.lo_ (by omega)) hbw
theorem gdRange_any (a : Int) (n : Nat) (w : World) (ha : 0 ≤ a ∧ a ≤ 1000000) (hn : n ≤ 1000000) :
 Calls Tryz.prog 122 #[.int .i64 a, .int .i64 n] w (RetI w (spn a n)) := by
 have HS := zH (spn_snoc a)
 have hs0 : spn a 0 = [] := rfl
 have HL := zH (Zck a)
 obtain ⟨ha0, ha1⟩ := ha
 have hnone : Own w w.heap.size w.heap.size (.slice none 0 0) 0 (spn a 0) ∧ Below w.heap.size w w := ⟨by rw [hs0]; exact Own.none_ _ _ _, Below.refl _ _⟩
 have hsome : Own (w.alloc (.cells #[] 3)) w.heap.size (w.alloc (.cells #[] 3)).heap.size (.slice (some ⟨w.heap.size, 0, none⟩) 0 0) 0 (spn a 0) ∧ Below w.heap.size w (w.alloc (.cells #[] 3)) := ⟨by rw [hs0]; exact (Zcc w _ lR).now, bA⟩
 go_enter Tryz.func122, Tryz.ntmps122
 go_wp2
 go_loopw [5, 6] (fun o i wr => ∃ (k : Nat) (O : Option Addr) (oc : Nat), k ≤ n ∧ i = .int .i64 k ∧ o = .slice O k oc ∧ Own wr w.heap.size wr.heap.size (.slice O k oc) k (spn a k) ∧ Below w.heap.size w wr) (fun _ i _ => n - (intOf i).toNat)
 case atStart => exact ⟨0, _, _, Nat.zero_le _, rfl, rfl, hnone.1, hnone.2⟩
 case round =>
  obtain ⟨k, O, oc, hk, rfl, rfl, hown, hb⟩ := hrel
  clear hnone hsome
  have hz := hb.size
  by_cases hlt : k < n
  ·have hsn := zH (HS.out k)
   have hoA := hown.alloc (.cells #[.int .i64 (a + k)] 3)
   have hbA := hb.alloc hz (.cells #[.int .i64 (a + k)] 3)
   go_wp2_with (at_builtin; refine Zae _ rfl _ _ rfl rfl hoA rfl (Zaj _ _ _ _ (by simp)) (by omega) oM ?_; intro A5 c5 w5 hown5 hg5 hat5 hk5)
   have hb5 := Zah hbA hoA hg5 (by simp; omega) lR
   rw [← hsn.out] at hown5
   clear hoA hbA hg5 hat5 hk5 hown hb hsn
   go_wp2
   go_roundw
   case rel => exact ⟨k + 1, _, _, by omega, by go_num, rfl, hown5, hb5⟩
   case measure => simp [intOf]; omega
  ·obtain rfl : n = k := Nat.le_antisymm (Nat.le_of_not_lt hlt) hk
   go_wp2
   go_ret
   exact RetI.mk_ (HL.out n) rfl hown hb
def Fz (w : World) (b : Nat) : Prop := ∀ q, w.frozen? ⟨b, q, none⟩ = false
theorem Fz.new (w : World) (c : Array Value) (t : TypeId) : Fz (w.alloc (.cells c t)) w.heap.size := fun q => World.frozen?_alloc_at _ _ _ _ rfl
theorem Fz.below {w w' : World} {b B : Nat} (h : Fz w b) (k : Below B w w') (hb : b < B) : Fz w' b := fun q => (k.frozen (p := ⟨b, q, none⟩) hb).trans (h q)
theorem Fz.set {w : World} {b : Nat} (h : Fz w b) (p : Addr) (v : Value) : Fz (w.setCell p v) b := fun q => (World.frozen?_setCell _ _ _ _).trans (h q)
section
variable {w w' : World} {lo hi : Nat} {Ag : Option Addr} {ng cg : Nat} {Ao : Option Addr} {no co : Nat} {gs : List G3} {os : List Int}
end
theorem ciNew_any (x y : Int) (w : World) : Calls Tryz.prog 121 #[.int .i64 x, .int .i64 y] w fun e w' => e = .returned (.pointer (some ⟨w.heap.size, 0, none⟩)) ∧ w.alloc (.cells #[.int .i64 x, .int .i64 y, .slice none 0 0, .slice none 0 0] 106) = w' := by
 go_enter Tryz.func121, Tryz.ntmps121
 go_wp2
 go_ret
 exact ⟨rfl, rfl⟩
set_option maxRecDepth 100000 in
set_option maxHeartbeats 800000 in
theorem ciPick_any (A B : Option Addr) (n c m d : Nat) (l os : List Int) (w : World) (ha : RI w A n l) (hb : RI w B m os) (hn : n ≤ 2097152) (hm : m ≤ 2097152) (hos : allB 0 ((n : Int) - 1) os = true) :
 Calls Tryz.prog 104 #[.slice A n c, .slice B m d] w (RetI w (pick l os)) := by
 have hl := ha.len
 have hlo := hb.len
 have HP := zH (pick_tab (l := l) hlo)
 go_enter Tryz.func104, Tryz.ntmps104
 go_wp2
 go_loopw [5, 10] (fun v i wr => ∃ (k : Nat) (A' : Option Addr) (c' : Nat), k ≤ m ∧ i = .int .i64 k ∧ v = .slice A' k c' ∧ Own wr w.heap.size wr.heap.size (.slice A' k c') k (tab k fun i => gi l (gi os i).toNat) ∧ Below w.heap.size w wr) (fun _ i _ => m - (intOf i).toNat)
 case atStart => first | exact ⟨0, _, _, Nat.zero_le _, rfl, rfl, Own.none_ _ _ _, Below.refl _ _⟩ | exact ⟨0, _, _, Nat.zero_le _, rfl, rfl, by simpa [tab_zero] using Zcc w w.heap.size lR, bA⟩
 case round =>
  obtain ⟨k, A', c', hk, rfl, rfl, hown, hbw⟩ := hrel
  by_cases hlt : k < m
  ·have hsn : Hid (tab (k + 1) (fun i => gi l (gi os i).toNat) = tab k (fun i => gi l (gi os i).toNat) ++ [gi l (gi os k).toNat]) := zH (tab_snoc k _)
   obtain ⟨h0, h1⟩ := Zdc hos (j := k) (by omega)
   obtain ⟨b, o, rfl, hbB, c1⟩ := hb.at_ hlt
   have e1 := (hbw.cell (p := ⟨b, o + k, none⟩) hbB).trans c1
   have hz := hbw.size
   generalize gi os k = X at *
   obtain ⟨a, rfl⟩ := Int.eq_ofNat_of_zero_le h0
   obtain ⟨b', o', rfl, hbB', c2⟩ := ha.at_ (k := a) (by omega)
   have e2 := (hbw.cell (p := ⟨b', o' + a, none⟩) hbB').trans c2
   have hlt2 : (a : Int) < n := by omega
   have hst : ((a : Int).toNat) = a := rfl
   rw [hst] at hsn
   clear ha hb c1 c2 hst
   generalize gi l a = Y at *
   have hownA := hown.alloc (.cells #[.int .i64 Y] 3)
   have hbA := hbw.alloc hz (.cells #[.int .i64 Y] 3)
   clear hown hbw
   go_wp2_with (at_builtin; refine Zal _ rfl _ _ rfl rfl hownA rfl (Zaj _ _ _ _ (by simp)) (by omega) oM ?_; intro A5 c5 w5 hown5 hg5 hat5)
   have hb5 := Zah hbA hownA hg5 (by simp; omega) lR
   rw [← hsn.out] at hown5
   clear hbA hownA hg5 hat5
   go_wp2
   go_roundw
   case rel => exact ⟨k + 1, _, _, by omega, by go_num, rfl, hown5, hb5⟩
   case measure => simp [intOf]; omega
  ·obtain rfl : k = m := by omega
   rw [← HP.out] at hown
   go_wp2
   go_ret
   exact RetI.mk_ (by rw [pick_len]; exact hlo) rfl hown hbw
set_option maxRecDepth 100000 in
set_option maxHeartbeats 800000 in
theorem at_any (A B : Option Addr) (n c m d : Nat) (l os : List Int) (w : World) (ha : RI w A n l) (hb : RI w B m os) (hn : n ≤ 2097152) (hm : m ≤ 2097152) (hos : allB 0 ((n : Int) - 1) os = true) :
 Calls Tryz.prog 49 #[.slice A n c, .slice B m d] w (RetI w (pick l os)) := by
 have hl := ha.len
 have hlo := hb.len
 have HP := zH (pick_tab (l := l) hlo)
 go_enter Tryz.func49, Tryz.ntmps49
 go_wp2
 go_loopw [5, 11] (fun v i wr => ∃ (k : Nat) (A' : Option Addr) (c' : Nat), k ≤ m ∧ i = .int .i64 k ∧ v = .slice A' k c' ∧ Own wr w.heap.size wr.heap.size (.slice A' k c') k (tab k fun i => gi l (gi os i).toNat) ∧ Below w.heap.size w wr) (fun _ i _ => m - (intOf i).toNat)
 case atStart => first | exact ⟨0, _, _, Nat.zero_le _, rfl, rfl, Own.none_ _ _ _, Below.refl _ _⟩ | exact ⟨0, _, _, Nat.zero_le _, rfl, rfl, by simpa [tab_zero] using Zcc w w.heap.size lR, bA⟩
 case round =>
  obtain ⟨k, A', c', hk, rfl, rfl, hown, hbw⟩ := hrel
  by_cases hlt : k < m
  ·have hsn : Hid (tab (k + 1) (fun i => gi l (gi os i).toNat) = tab k (fun i => gi l (gi os i).toNat) ++ [gi l (gi os k).toNat]) := zH (tab_snoc k _)
   obtain ⟨h0, h1⟩ := Zdc hos (j := k) (by omega)
   obtain ⟨b, o, rfl, hbB, c1⟩ := hb.at_ hlt
   have e1 := (hbw.cell (p := ⟨b, o + k, none⟩) hbB).trans c1
   have hz := hbw.size
   generalize gi os k = X at *
   obtain ⟨a, rfl⟩ := Int.eq_ofNat_of_zero_le h0
   obtain ⟨b', o', rfl, hbB', c2⟩ := ha.at_ (k := a) (by omega)
   have e2 := (hbw.cell (p := ⟨b', o' + a, none⟩) hbB').trans c2
   have hlt2 : (a : Int) < n := by omega
   have hst : ((a : Int).toNat) = a := rfl
   rw [hst] at hsn
   clear ha hb c1 c2 hst
   generalize gi l a = Y at *
   have hownA := hown.alloc (.cells #[.int .i64 Y] 3)
   have hbA := hbw.alloc hz (.cells #[.int .i64 Y] 3)
   clear hown hbw
   go_wp2_with (at_builtin; refine Zal _ rfl _ _ rfl rfl hownA rfl (Zaj _ _ _ _ (by simp)) (by omega) oM ?_; intro A5 c5 w5 hown5 hg5 hat5)
   have hb5 := Zah hbA hownA hg5 (by simp; omega) lR
   rw [← hsn.out] at hown5
   clear hbA hownA hg5 hat5
   go_wp2
   go_roundw
   case rel => exact ⟨k + 1, _, _, by omega, by go_num, rfl, hown5, hb5⟩
   case measure => simp [intOf]; omega
  ·obtain rfl : k = m := by omega
   rw [← HP.out] at hown
   go_wp2
   go_ret
   exact RetI.mk_ (by rw [pick_len]; exact hlo) rfl hown hbw
theorem Zdw (A B : Option Addr) (n c m d : Nat) (xs ys : List Int) (w : World) (ha : RI w A n xs) (hb : RI w B m ys) (hn : n ≤ 2097152) (hm : m ≤ 2097152) :
 Calls Tryz.prog 52 #[.slice A n c, .slice B m d] w fun e w' => ∃ A' c', e = .returned (.slice A' (n + m) c') ∧ Own w' w.heap.size w'.heap.size (.slice A' (n + m) c') (n + m) (xs ++ ys) ∧ Below w.heap.size w w' := by
 have hl := ha.len
 go_enter Tryz.func52, Tryz.ntmps52
 go_wp2_with fail
 refine (Zeo A n c xs _ ha hn).mono ?_
 rintro e w1 ⟨A1, c1, rfl, hown1, hb1⟩
 have hr := hb.below hb1 lR
 have hz := hb1.size
 go_wp2_with (at_builtin; refine Zal _ rfl _ _ rfl rfl hown1 rfl hr (by omega) oM ?_; intro A5 c5 w5 hown5 hg5 hat5)
 have hb5 := Zah hb1 hown1 hg5 hz lR
 clear hown1 hb1 hr hg5 hat5
 go_wp2
 go_ret
 exact ⟨_, _, rfl, hown5, hb5⟩
structure Alt (S : Nat → Prop) (w w' : World) : Prop where
 os : w'.os = w.os
 tape : w'.tape = w.tape
 output : w'.output = w.output
 size : w.heap.size ≤ w'.heap.size
 block : ∀ k, k < w.heap.size → ¬ S k → w'.heap[k]? = w.heap[k]?
section
variable {S T : Nat → Prop} {a b c w w' : World}
theorem Alt.refl_ (S : Nat → Prop) (w : World) : Alt S w w := ⟨rfl, rfl, rfl, Nat.le_refl _, fun _ _ _ => rfl⟩
theorem Alt.trans_ (h : Alt S a b) (k : Alt T b c) (hs : ∀ i, i < a.heap.size → T i → S i) : Alt S a c :=
 ⟨k.os.trans h.os, k.tape.trans h.tape, k.output.trans h.output, Nat.le_trans h.size k.size, fun i hi hn => (k.block i (Nat.lt_of_lt_of_le hi h.size) (fun ht => hn (hs i hi ht))).trans (h.block i hi hn)⟩
theorem Alt.mono_ (h : Alt S a b) (hs : ∀ i, i < a.heap.size → S i → T i) : Alt T a b := (Alt.refl_ T a).trans_ h hs
theorem Alt.of_below {B : Nat} (h : Below B a b) (hs : ∀ i, i < a.heap.size → B ≤ i → S i) : Alt S a b :=
 ⟨h.os, h.tape, h.output, h.size, fun i hi hn => h.block i (Nat.lt_of_not_le fun hc => hn (hs i hi hc))⟩
theorem Alt.of_new (h : Below a.heap.size a b) : Alt S a b := Alt.of_below h fun i hi hB => by omega
theorem Alt.of_grown {r : Option Nat} (h : a.grownBy b r) (hs : ∀ i, r = some i → S i) : Alt S a b :=
 ⟨h.os, h.tape, h.output, h.size, fun i hi hn => h.block i hi fun he => hn (hs i he.symm)⟩
theorem Alt.new_ (h : Alt S a b) (k : Below b.heap.size b c) : Alt S a c := h.trans_ (T := S) (Alt.of_new k) fun _ _ h => h
theorem Alt.grow_ {r : Option Nat} (h : Alt S a b) (k : b.grownBy c r) (hs : ∀ i, i < a.heap.size → r = some i → S i) : Alt S a c :=
 h.trans_ (T := fun i => r = some i) (Alt.of_grown k fun _ h => h) hs
theorem Alt.set_ (h : Alt S a b) (p : Addr) (v : Value) (hp : p.block < a.heap.size → S p.block) : Alt S a (b.setCell p v) := by
 have k := (Below.refl p.block b).setCell (p := p) lR v
 exact ⟨k.os.trans h.os, k.tape.trans h.tape, k.output.trans h.output, Nat.le_trans h.size k.size, fun i hi hn => (Below.heap_setCell b p v i (fun he => hn (by subst he; exact hp hi))).trans (h.block i hi hn)⟩
theorem Alt.alloc_ (h : Alt S a b) (o : Obj) : Alt S a (b.alloc o) := h.new_ ((Below.refl _ _).alloc lR o)
theorem Alt.drewN_ (h : Alt S a b) (n : Nat) : Alt S a (b.drewN n) := ⟨h.os, h.tape, h.output, h.size, h.block⟩
theorem Alt.below_ {B : Nat} (h : Alt S a b) (hB : B ≤ a.heap.size) (hs : ∀ i, i < B → ¬ S i) : Below B a b :=
 ⟨h.os, h.tape, h.output, h.size, fun i hi => h.block i (by omega) (hs i hi)⟩
theorem Alt.cell_ {p : Addr} {v : Value} (k : Alt S w w') (h : w.cell? p = some v) (hp : ¬ S p.block) : w'.cell? p = some v :=
 (World.cell?_of_block (w := w) (k.block p.block (World.block_lt_of_cell? w _ h) hp)).trans h
end
section
variable {S : Nat → Prop} {w w' : World} {lo hi n b : Nat} {v : Value} {A : Option Addr}
theorem RI.alt {xs : List Int} (h : RI w A n xs) (k : Alt S w w') (hs : 0 < n → ∀ b o, A = some ⟨b, o, none⟩ → ¬ S b) : RI w' A n xs :=
 ⟨h.1, fun hn => by
  obtain ⟨b, o, hA, hlt, hc⟩ := h.2 hn
  exact ⟨b, o, hA, Nat.lt_of_lt_of_le hlt k.size, fun j hj => k.cell_ (hc j hj) (hs hn b o hA)⟩⟩
theorem Own.alt {xs : List Int} (h : Own w lo hi v n xs) (k : Alt S w w') (hs : ∀ g, v.ownBlock = some g → ¬ S g) : Own w' lo hi v n xs := by
 refine ⟨⟨h.1.1, ?_⟩, h.2⟩
 rcases h.1.2 with h1 | ⟨g, cap, cur, rfl, hlo, hg, r⟩
 ·exact .inl h1
 ·have hl := h.lt g (by simp [Value.ownBlock])
  exact .inr ⟨g, cap, cur, rfl, hlo, by rw [k.block g hl.2.2 (hs g (by simp [Value.ownBlock]))]; exact hg, r⟩
theorem OwnG.alt {xs : List G3} (h : OwnG w lo hi v n xs) (k : Alt S w w') (hs : ∀ g, v.ownBlock = some g → ¬ S g) : OwnG w' lo hi v n xs := by
 refine ⟨⟨h.1.1, ?_⟩, h.2⟩
 rcases h.1.2 with h1 | ⟨g, cap, cur, rfl, hlo, hg, r⟩
 ·exact .inl h1
 ·have hl := h.lt g (by simp [Value.ownBlock])
  exact .inr ⟨g, cap, cur, rfl, hlo, by rw [k.block g hl.2.2 (hs g (by simp [Value.ownBlock]))]; exact hg, r⟩
theorem Fz.alt (h : Fz w b) (k : Alt S w w') (hb : b < w.heap.size) (hs : ¬ S b) : Fz w' b := fun q => (World.frozen?_of_block (w := w) (a := ⟨b, q, none⟩) (k.block b hb hs)).trans (h q)
theorem BxC.alt {x y : Int} {Ag : Option Addr} {ng cg : Nat} {Ao : Option Addr} {no co : Nat} (h : BxC w b x y Ag ng cg Ao no co) (k : Alt S w w') (hs : ¬ S b) : BxC w' b x y Ag ng cg Ao no co :=
 ⟨k.cell_ h.1 hs, k.cell_ h.2.1 hs, k.cell_ h.2.2.1 hs, k.cell_ h.2.2.2 hs⟩
end
def RY (w : World) (A : Option Addr) (n : Nat) : Prop := n ≤ 2097152 ∧ (0 < n → ∃ b o, A = some ⟨b, o, none⟩ ∧ b < w.heap.size ∧ ∀ i, i < n → ∃ x : Nat, x < 256 ∧ w.cell? ⟨b, o + i, none⟩ = some (.int .u8 x))
theorem RY.alt {S : Nat → Prop} {w w' : World} {A : Option Addr} {n : Nat} (h : RY w A n) (k : Alt S w w') (hs : 0 < n → ∀ b o, A = some ⟨b, o, none⟩ → ¬ S b) : RY w' A n :=
 ⟨h.1, fun hn => by
  obtain ⟨b, o, hA, hlt, hc⟩ := h.2 hn
  exact ⟨b, o, hA, Nat.lt_of_lt_of_le hlt k.size, fun j hj => by
   obtain ⟨x, hx, h1⟩ := hc j hj
   exact ⟨x, hx, k.cell_ h1 (hs hn b o hA)⟩⟩⟩
structure Cur (w : World) (b : Nat) (R : Nat → Prop) (T : Nat) : Prop where
 fz : Fz w b
 lt : b < w.heap.size
 got : ∃ (A : Option Addr) (n c p : Nat) (z : Int), w.cell? ⟨b, 0, none⟩ = some (.slice A n c) ∧ w.cell? ⟨b, 1, none⟩ = some (.int .i64 p) ∧ w.cell? ⟨b, 2, none⟩ = some (.int .u64 z) ∧ p ≤ T ∧ RY w A n ∧ (0 < n → ∀ q o, A = some ⟨q, o, none⟩ → R q ∧ q ≠ b)
theorem Cur.alt {S R : Nat → Prop} {w w' : World} {b T : Nat} (h : Cur w b R T) (k : Alt S w w') (hb : ¬ S b) (hs : ∀ i, R i → ¬ S i) : Cur w' b R T := by
 obtain ⟨A, n, c, p, z, c0, c1, c2, hp, hr, hq⟩ := h.got
 exact ⟨h.fz.alt k h.lt hb, Nat.lt_of_lt_of_le h.lt k.size, A, n, c, p, z, k.cell_ c0 hb, k.cell_ c1 hb, k.cell_ c2 hb, hp, hr.alt k (fun hn q o hA => hs q (hq hn q o hA).1), hq⟩
theorem Cur.mono {R : Nat → Prop} {w : World} {b T U : Nat} (h : Cur w b R T) (hT : T ≤ U) : Cur w b R U := by
 obtain ⟨A, n, c, p, z, c0, c1, c2, hp, hr⟩ := h.got
 exact ⟨h.fz, h.lt, A, n, c, p, z, c0, c1, c2, by omega, hr⟩
def RetCur (w : World) (b : Nat) (R : Nat → Prop) (T m : Nat) (e : Ending) (w' : World) : Prop :=
 ∃ v : Nat, v < m ∧ e = .returned (.int .i64 v) ∧ Cur w' b R T ∧ Alt (fun i => i = b) w w' ∧ w'.heap.size = w.heap.size
theorem and255 (x : Int) : ∃ v : Nat, v < 256 ∧ bits .and .u64 x 255 = (v : Int) := by
 refine ⟨(BitVec.ofInt 64 x &&& BitVec.ofInt 64 255).toNat, ?_, ?_⟩
 ·have h : (BitVec.ofInt 64 x &&& BitVec.ofInt 64 255).toNat ≤ (BitVec.ofInt 64 255).toNat := by
   rw [BitVec.toNat_and]; exact Nat.and_le_right
  have h2 : (BitVec.ofInt 64 255).toNat = 255 := by decide
  omega
 ·show IntKind.u64.wrap ((BitVec.ofInt 64 x &&& BitVec.ofInt 64 255).toNat : Int) = _
  have h : (BitVec.ofInt 64 x &&& BitVec.ofInt 64 255).toNat < 2 ^ 64 := BitVec.isLt _
  rw [IntKind.wrap_u64]; omega
theorem and255w (x : Int) : ∃ v : Nat, v < 256 ∧ wrap64 (bits .and .u64 x 255) = (v : Int) := by
 obtain ⟨v, hv, e⟩ := and255 x
 refine ⟨v, hv, ?_⟩
 rw [e]; unfold wrap64; omega
theorem cur_step {w : World} {b : Nat} {R : Nat → Prop} {T n c p : Nat} {A : Option Addr} {z : Int} (hf : Fz w b) (hb : b < w.heap.size) (c0 : w.cell? ⟨b, 0, none⟩ = some (.slice A n c)) (c1 : w.cell? ⟨b, 1, none⟩ = some (.int .i64 p)) (c2 : w.cell? ⟨b, 2, none⟩ = some (.int .u64 z)) (hp : p ≤ T) (hr : RY w A n) (hq : 0 < n → ∀ q o, A = some ⟨q, o, none⟩ → R q ∧ q ≠ b) (y : Int) (k m : Nat) :
 Cur ((((w.drewN k).setCell ⟨b, 1, none⟩ (.int .i64 ((p : Int) + 1))).setCell ⟨b, 2, none⟩ (.int .u64 y)).drewN m) b R (T + 1)
 ∧ Alt (fun i => i = b) w ((((w.drewN k).setCell ⟨b, 1, none⟩ (.int .i64 ((p : Int) + 1))).setCell ⟨b, 2, none⟩ (.int .u64 y)).drewN m)
 ∧ ((((w.drewN k).setCell ⟨b, 1, none⟩ (.int .i64 ((p : Int) + 1))).setCell ⟨b, 2, none⟩ (.int .u64 y)).drewN m).heap.size = w.heap.size := by
 have hA : Alt (fun i => i = b) w ((((w.drewN k).setCell ⟨b, 1, none⟩ (.int .i64 ((p : Int) + 1))).setCell ⟨b, 2, none⟩ (.int .u64 y)).drewN m) :=
  ((((Alt.refl_ (fun i => i = b) w).drewN_ k).set_ ⟨b, 1, none⟩ _ (fun _ => rfl)).set_ ⟨b, 2, none⟩ _ (fun _ => rfl)).drewN_ m
 refine ⟨⟨fun q => ?_, Nat.lt_of_lt_of_le hb hA.size, A, n, c, p + 1, y, ?_, ?_, ?_, by omega, hr.alt hA (fun hn q o h => (hq hn q o h).2), hq⟩, hA, by simp⟩
 ·rw [World.frozen?_drewN, World.frozen?_setCell, World.frozen?_setCell]; exact hf q
 ·rw [World.cell?_drewN, World.cell?_setCell_other _ _ _ _ (by simp), World.cell?_setCell_other _ _ _ _ (by simp)]; exact c0
 ·rw [World.cell?_drewN, World.cell?_setCell_other _ _ _ _ (by simp), World.cell?_setCell_same (w.drewN k) ⟨b, 1, none⟩ _ c1]; rfl
 ·exact World.cell?_setCell_same _ _ _ ((World.cell?_setCell_other _ _ _ _ (by simp)).trans c2)
theorem next_any (b : Nat) (R : Nat → Prop) (T : Nat) (w : World) (h : Cur w b R T) (hT : T < 1000000000) :
 Calls Tryz.prog 111 #[.pointer (some ⟨b, 0, none⟩)] w (RetCur w b R (T + 1) 256) := by
 obtain ⟨A, n, c, p, z, c0, c1, c2, hp, hr, hq⟩ := h.got
 have hb := h.lt
 have f1 := h.fz 1; have f2 := h.fz 2
 have hn := hr.1
 go_enter Tryz.func111, Tryz.ntmps111
 by_cases hlt : p < n
 ·obtain ⟨q, o, rfl, hqb, hc⟩ := hr.2 (by omega)
  obtain ⟨x, hx, d⟩ := hc p hlt
  have hqn := (hq (by omega) q o rfl).2
  go_wp2
  go_quiet (fail)
  go_wp2
  go_quiet (fail)
  go_wp2
  go_quiet (fail)
  go_wp2
  go_ret
  exact ⟨x, hx, rfl, cur_step (c := c) h.fz hb c0 c1 c2 hp hr hq _ _ _⟩
 ·go_wp2
  go_quiet (fail)
  go_wp2
  go_quiet (fail)
  go_wp2
  obtain ⟨v, hv, e⟩ := and255w (IntKind.u64.wrap (IntKind.u64.wrap (IntKind.u64.wrap (z * 6364136223846793005)) + 1442695040888963407) / 1099511627776)
  rw [e]
  go_ret
  exact ⟨v, hv, rfl, cur_step (c := c) h.fz hb c0 c1 c2 hp hr hq _ _ _⟩
def RetPick (w : World) (b : Nat) (R : Nat → Prop) (T : Nat) (n : Int) (e : Ending) (w' : World) : Prop :=
 ∃ v : Nat, ((v : Int) < n ∨ v = 0) ∧ v ≤ 65535 ∧ e = .returned (.int .i64 v) ∧ Cur w' b R T ∧ Alt (fun i => i = b) w w' ∧ w'.heap.size = w.heap.size
theorem emod_nat {x n : Int} (hx : 0 ≤ x) (h : 1 < n) : ∃ v : Nat, ((v : Int) < n ∨ v = 0) ∧ (v : Int) ≤ x ∧ x % n = (v : Int) := by
 have h1 := Int.emod_lt_of_pos x (show 0 < n by omega)
 have h2 := Int.emod_nonneg x (show n ≠ 0 by omega)
 have h3 : x % n ≤ x := by
  have h4 := Int.mul_ediv_add_emod x n
  have h5 : 0 ≤ n * (x / n) := Int.mul_nonneg (by omega) (Int.ediv_nonneg hx (by omega))
  omega
 exact ⟨(x % n).toNat, by omega, by omega, by omega⟩
theorem Zbm (n : Int) (b : Nat) (R : Nat → Prop) (T : Nat) (w : World) (h : Cur w b R T) (hT : T < 900000000) (hn : n ≤ 2147483648) :
 Calls Tryz.prog 62 #[.pointer (some ⟨b, 0, none⟩), .int .i64 n] w (RetPick w b R (T + 2) n) := by
 go_enter Tryz.func62, Tryz.ntmps62
 by_cases h1 : n ≤ 1
 ·go_wp2
  go_ret
  exact ⟨0, .inr rfl, by omega, rfl, h.mono (by omega), Alt.refl_ _ _, rfl⟩
 ·have h0 : ¬ n = 0 := by omega
  go_wp2_with fail
  refine (next_any b R T _ h (by omega)).mono ?_
  rintro e w1 ⟨v, hv, rfl, c1, k1, z1⟩
  by_cases h2 : 200 < n
  ·go_wp2_with fail
   refine (next_any b R (T + 1) _ c1 (by omega)).mono ?_
   rintro e w2 ⟨u, hu, rfl, c2, k2, z2⟩
   go_wp2
   obtain ⟨r, hr, hr2, hr3⟩ := emod_nat (x := (v : Int) * 256 + u) (n := n) (by omega) (by omega)
   rw [hr3]
   go_ret
   exact ⟨r, hr, by omega, rfl, c2, k1.trans_ k2 (fun _ _ h => h), by omega⟩
  ·go_wp2
   obtain ⟨r, hr, hr2, hr3⟩ := emod_nat (x := (v : Int)) (n := n) (by omega) (by omega)
   rw [hr3]
   go_ret
   exact ⟨r, hr, by omega, rfl, c1.mono (by omega), k1, z1⟩
def RetOne (w : World) (b : Nat) (R : Nat → Prop) (T : Nat) (e : Ending) (w' : World) : Prop :=
 ∃ t : Bool, e = .returned (.bool t) ∧ Cur w' b R T ∧ Alt (fun i => i = b) w w' ∧ w'.heap.size = w.heap.size
theorem one_any (n : Int) (b : Nat) (R : Nat → Prop) (T : Nat) (w : World) (h : Cur w b R T) (hT : T < 900000000) (hn : n ≤ 2147483648) :
 Calls Tryz.prog 106 #[.pointer (some ⟨b, 0, none⟩), .int .i64 n] w (RetOne w b R (T + 2)) := by
 go_enter Tryz.func106, Tryz.ntmps106
 go_wp2_with fail
 refine (Zbm n b R T _ h hT hn).mono ?_
 rintro e w1 ⟨v, hv, hv2, rfl, c1, k1, z1⟩
 go_wp2
 go_ret
 exact ⟨_, rfl, c1, k1, z1⟩
def RetAmong (w : World) (b : Nat) (R : Nat → Prop) (T : Nat) (xs : List Int) (e : Ending) (w' : World) : Prop :=
 ∃ x : Int, x ∈ xs ∧ e = .returned (.int .i64 x) ∧ Cur w' b R T ∧ Alt (fun i => i = b) w w' ∧ w'.heap.size = w.heap.size
theorem among_any (A : Option Addr) (n c : Nat) (xs : List Int) (b : Nat) (R : Nat → Prop) (T : Nat) (w : World) (h : Cur w b R T) (hT : T < 900000000) (hr : RI w A n xs) (hn : 0 < n) (hn2 : n ≤ 2147483648) (hq : ∀ q o, A = some ⟨q, o, none⟩ → q ≠ b) :
 Calls Tryz.prog 87 #[.pointer (some ⟨b, 0, none⟩), .slice A n c] w (RetAmong w b R (T + 2) xs) := by
 have hl := hr.1
 obtain ⟨q, o, rfl, hqb, hc⟩ := hr.2 hn
 have hq2 := hq q o rfl
 clear hq
 go_enter Tryz.func87, Tryz.ntmps87
 go_wp2_with fail
 refine (Zbm n b R T _ h hT (by omega)).mono ?_
 rintro e w1 ⟨v, hv, hv2, rfl, c1, k1, z1⟩
 have hvn : v < n := by omega
 have d := k1.cell_ (hc v hvn) hq2
 go_wp2
 go_ret
 exact ⟨_, Zbo (by omega), rfl, c1, k1, z1⟩
end Go.Proofs.YtenknpcbbcbciaaGreat
namespace Go.Proofs.YtenknpcbbcbciaaGreat
open Go.ChangeShapes Go.WideShapes Go.ChangeAt Go.RowKit
set_option linter.unusedVariables false
set_option linter.unusedSimpArgs false
def RY0 (w : World) (A : Option Addr) (n : Nat) : Prop := 0 < n → ∃ b o, A = some ⟨b, o, none⟩ ∧ b < w.heap.size ∧ ∀ i, i < n → ∃ x : Nat, x < 256 ∧ w.cell? ⟨b, o + i, none⟩ = some (.int .u8 x)
theorem RY0.ry {w : World} {A : Option Addr} {n : Nat} (h : RY0 w A n) (hn : n ≤ 2097152) : RY w A n := ⟨hn, h⟩
set_option maxRecDepth 100000 in
theorem RY_of_trod {H : Type} {enc : TypeId × Value → H} {W : World} {base : Nat} {v : Value} {d : DataW H} {p : List MemPlace} (hval : Value.okWide Tryz.prog W .any base 22 v)
 (h : DataW.Trod enc Tryz.prog W 0 (fun _ => true) true 22 v d p) : ∃ a n c, v = .slice a n c ∧ RY0 W a n ∧ (n = 0 ∨ ∃ es sp, d = .slice es sp ∧ n ≤ es.length) := by
 obtain ⟨a, n, c, rfl⟩ := okWide_slice Tryz.underlying22 hval
 obtain ⟨fuel, hf⟩ := h
 refine ⟨a, n, c, rfl, ?_⟩
 rcases open_ints Tryz.underlying22 Tryz.underlying5 (by kernel_rfl) hf with ⟨hcs, _⟩ | ⟨x, l, c', zs, hcs, _, hl, hm, hz, hx, hcell, hwz⟩
 ·simp [Value.cells] at hcs
  obtain ⟨rfl, rfl, rfl⟩ := hcs
  exact ⟨fun h => absurd h (by omega), .inl rfl⟩
 ·simp [Value.cells] at hcs
  obtain ⟨rfl, rfl, rfl⟩ := hcs
  simp only [if_true] at hz
  simp only [Prod.mk.injEq] at hx
  refine ⟨fun hn => ?_, .inr ⟨_, _, hx.1, by simp [lits]; omega⟩⟩
  obtain ⟨b, o, spot⟩ := x
  have hc := hcell 0 (by omega)
  have hspot : spot = none := by simpa [Addr.add] using World.cell?_spot hc
  subst hspot
  refine ⟨b, o, rfl, World.block_lt_of_cell? W _ (by simpa [Addr.add] using hc), fun j hj => ?_⟩
  have h1 := hcell j (by omega)
  have h2 : (⟨b, o, none⟩ : Addr).add j = ⟨b, o + j, none⟩ := by
   unfold Addr.add; split
   ·rename_i h; subst h; rfl
   ·rfl
  rw [h2] at h1
  have hr := range_u8 hwz j
  refine ⟨(zs.getD j 0).toNat, ?_, ?_⟩
  ·rw [List.getD_eq_getElem?_getD]; omega
  ·rw [h1, List.getD_eq_getElem?_getD, Int.toNat_of_nonneg hr.1]
end Go.Proofs.YtenknpcbbcbciaaGreat
