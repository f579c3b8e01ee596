/- Contracts of ConstantWires. -/
import Derived.Test.YtcdhmcpocohbpaaQP19
import Derived.Test.YtcdhmcpocohbpaaQP18
namespace Go.Proofs.Ytcdhmcpocohbpaa
open Go.RowKit
set_option linter.unusedVariables false
set_option linter.unusedSimpArgs false
def cstF (x y : Int) (gs : List G3) (os : List Int) : Option (List Int) := if circB x y gs os then some (csts gs (x + y).toNat gs.length) else none
set_option maxRecDepth 100000 in
set_option maxHeartbeats 8000000 in
theorem siConstants_any (x y : Int) (Ag : Option Addr) (ng cg : Nat) (Ao : Option Addr) (no co : Nat) (X : Nat) (gs : List G3) (w : World) (hg : RG w Ag ng gs) (hx : 0 ≤ x ∧ x ≤ 20) (hy : 0 ≤ y ∧ y ≤ 20) (hX : x + y = X) (hgat : gatesB X gs ng = true) (hng : ng ≤ 300) :
    Calls Try.prog 40 #[.agg #[.int .i64 x, .int .i64 y, .slice Ag ng cg, .slice Ao no co]] w (RetI w (csts gs X ng)) := by
  have hB : Below w.heap.size w (w.alloc (.cells #[.int .i64 x, .int .i64 y, .slice Ag ng cg, .slice Ao no co] 26)) := (Below.refl _ _).alloc (Nat.le_refl _) _
  have hvb : ∀ k, allB (-1) 1 (csts gs X k) = true := fun k => csts_bd gs X k
  have hvl : ∀ k, (csts gs X k).length = X + k := fun k => csts_len gs X k
  have HV := Lib.hid hvb; have HL := Lib.hid hvl; clear hvb hvl
  have hX16 : X ≤ 40 := by omega
  have hbx := Below.refl (w.heap.size + 1) (w.alloc (.cells #[.int .i64 x, .int .i64 y, .slice Ag ng cg, .slice Ao no co] 26))
  go_enter Try.func40, Try.ntmps40
  go_wp2_with fail
  go_loopw [3, 4] (fun v i wr => ∃ (k : Nat) (A' : Option Addr) (c' : Nat), k ≤ X ∧ i = .int .i64 k ∧ v = .slice A' k c' ∧ Own wr (w.heap.size + 1) wr.heap.size (.slice A' k c') k (List.replicate k (-1)) ∧ Below (w.heap.size + 1) (w.alloc (.cells #[.int .i64 x, .int .i64 y, .slice Ag ng cg, .slice Ao no co] 26)) wr) (fun _ i _ => X - (intOf i).toNat)
  case atStart => exact ⟨0, _, _, Nat.zero_le _, rfl, rfl, Own.none_ _ _ _, hbx⟩
  case round =>
    clear hbx
    obtain ⟨k, A', c', hk, rfl, rfl, hown, hb⟩ := hrel
    have hz := hb.size
    simp only [World.size_alloc] at hz
    obtain ⟨k0, k1, k2, k3⟩ := box_at hb
    go_wp2_with fail
    refine (ciInputs_any x y Ag ng cg Ao no co _ hx hy).mono ?_
    rintro e w0 ⟨rfl, hb0⟩
    rw [hX]
    have hb' := hb.trans (hb0.mono hz)
    have hz0 := hb0.size
    have hown0 := (hown.below hb0 (.inl (Nat.le_refl _))).now
    clear k0 k1 k2 k3 hb hb0 hown
    obtain ⟨k0, k1, k2, k3⟩ := box_at hb'
    by_cases hlt : k < X
    · have hsn : Hid (List.replicate (k + 1) (-1 : Int) = List.replicate k (-1) ++ [-1]) := Lib.hid List.replicate_succ'
      have hownA := hown0.alloc (.cells #[.int .i64 (-1)] 3)
      have hbA := hb'.alloc (by omega) (.cells #[.int .i64 (-1)] 3)
      go_wp2_with (at_builtin; refine wpList_app _ rfl _ _ rfl rfl hownA rfl (RI_one _ _ _ _ (by simp)) (by omega) (by first | omega | (simp; done) | (simp; omega)) ?_; intro A5 c5 w5 hown5 hg5 hat5)
      have hb5 := below_app hbA hownA hg5 (by simp; omega) (Nat.le_refl _)
      rw [← hsn.out] at hown5
      clear hownA hbA hg5 hat5 hown0 hb'
      go_wp2
      go_roundw
      case rel => exact ⟨k + 1, _, _, by omega, by go_num, rfl, hown5, hb5⟩
      case measure => simp [intOf]; omega
    · obtain rfl : X = k := Nat.le_antisymm (Nat.le_of_not_lt hlt) hk
      have hst := And.intro (show Own w0 w.heap.size w0.heap.size (.slice A' (X + 0) c') (X + 0) (csts gs X 0) from hown0.lo_ (by omega)) (hB.trans (hb'.mono (by omega)))
      clear hown0
      go_wp2_with fail
      go_loopw [3, 22] (fun v i wr => ∃ (k : Nat) (A' : Option Addr) (c' : Nat), k ≤ ng ∧ i = .int .i64 k ∧ v = .slice A' (X + k : Nat) c' ∧ Own wr w.heap.size wr.heap.size (.slice A' (X + k) c') (X + k) (csts gs X k) ∧ Below w.heap.size w wr) (fun _ i _ => ng - (intOf i).toNat)
      case atStart => exact ⟨0, _, _, Nat.zero_le _, rfl, rfl, hst.1, hst.2⟩
      case round =>
        clear hst
        obtain ⟨k, A', c', hk, rfl, rfl, hown, hb⟩ := hrel
        by_cases hlt : k < ng
        · obtain ⟨b, o, rfl, hbB, c1, c2, c3⟩ := (hg.below hb (Nat.le_refl _)).at_ hlt
          have hgt := gatesB_at hgat hlt
          have hsn := Lib.hid (csts_succ gs X k)
          have hvk := HV.out k
          have hlk := HL.out k
          have hz := hb.size
          generalize csts gs X k = vs at *
          generalize gg gs k = G at *
          obtain ⟨gk, ga, gb⟩ := G
          dsimp only at c1 c2 c3
          cases hgt with
          | xor_ hk0 a0 a1 b0 b1 =>
            dsimp only at hk0 a0 a1 b0 b1
            obtain ⟨a, rfl⟩ := Int.eq_ofNat_of_zero_le a0
            obtain ⟨b', rfl⟩ := Int.eq_ofNat_of_zero_le b0
            subst hk0
            obtain ⟨g, rfl, hg1, hg2, hg3⟩ := hown.some_ (by omega)
            obtain ⟨d1, _⟩ := hown.cellAt (k := a) (by omega)
            obtain ⟨u0, u1⟩ := allB_gi hvk (j := a) (by omega)
            obtain ⟨d2, _⟩ := hown.cellAt (k := b') (by omega)
            obtain ⟨v0, v1⟩ := allB_gi hvk (j := b') (by omega)
            have hE : Hid (csts gs X (k + 1) = vs ++ [if (a : Int) = b' then 0 else if 0 ≤ gi vs a ∧ 0 ≤ gi vs b' then bits .xor .i64 (gi vs a) (gi vs b') else -1]) := Lib.hid (by rw [hsn.out]; simp [cst, bxor])
            by_cases hab : a = b'
            · obtain rfl := hab
              generalize gi vs a = va at *
              by_cases h1 : 0 ≤ va
              · have hsn' : Hid (csts gs X (k + 1) = vs ++ [0]) := Lib.hid (by rw [hE.out]; simp)
                have hbx : Below wr.heap.size wr (wr.alloc (.cells #[.int .i64 0, .int .i64 a, .int .i64 a] 41)) := (Below.refl _ _).alloc (Nat.le_refl _) _
                have e1 := cell_below d1 hbx
                have e2 := cell_below d2 hbx
                have hownA := fun q : Nat => ((hown.below hbx (.inl (Nat.le_refl _))).drewN q).alloc (.cells #[.int .i64 (0)] 3)
                have hbA := fun q : Nat => (below_drewN (hb.alloc hz (.cells #[.int .i64 0, .int .i64 a, .int .i64 a] 41)) q).alloc (by simp; omega) (.cells #[.int .i64 (0)] 3)
                go_wp2_with (at_builtin; refine wpList_app _ rfl _ _ rfl rfl (hownA 0) rfl (RI_one _ _ _ _ (by simp)) (by omega) (by first | omega | (simp; done) | (simp; omega)) ?_; intro A5 c5 w5 hown5 hg5 hat5)
                have hb5 := below_app (hbA 0) (hownA 0) hg5 (by simp; omega) (Nat.le_refl _)
                rw [← hsn'.out] at hown5
                clear hownA hbA hg5 hat5 hown hb
                go_wp2
                go_roundw
                case rel => exact ⟨k + 1, _, _, by omega, by go_num, rfl, hown5, hb5⟩
                case measure => simp [intOf]; omega
              · have hsn' : Hid (csts gs X (k + 1) = vs ++ [0]) := Lib.hid (by rw [hE.out]; simp)
                have hbx : Below wr.heap.size wr (wr.alloc (.cells #[.int .i64 0, .int .i64 a, .int .i64 a] 41)) := (Below.refl _ _).alloc (Nat.le_refl _) _
                have e1 := cell_below d1 hbx
                have e2 := cell_below d2 hbx
                have hownA := fun q : Nat => ((hown.below hbx (.inl (Nat.le_refl _))).drewN q).alloc (.cells #[.int .i64 (0)] 3)
                have hbA := fun q : Nat => (below_drewN (hb.alloc hz (.cells #[.int .i64 0, .int .i64 a, .int .i64 a] 41)) q).alloc (by simp; omega) (.cells #[.int .i64 (0)] 3)
                go_wp2_with (at_builtin; refine wpList_app _ rfl _ _ rfl rfl (hownA 0) rfl (RI_one _ _ _ _ (by simp)) (by omega) (by first | omega | (simp; done) | (simp; omega)) ?_; intro A5 c5 w5 hown5 hg5 hat5)
                have hb5 := below_app (hbA 0) (hownA 0) hg5 (by simp; omega) (Nat.le_refl _)
                rw [← hsn'.out] at hown5
                clear hownA hbA hg5 hat5 hown hb
                go_wp2
                go_roundw
                case rel => exact ⟨k + 1, _, _, by omega, by go_num, rfl, hown5, hb5⟩
                case measure => simp [intOf]; omega
            · have hab' : ¬ ((a : Int) = b') := by omega
              have hne : ((a : Int) == b') = false := by simpa using hab'
              generalize gi vs a = va at *
              generalize gi vs b' = vb at *
              by_cases h1 : 0 ≤ va
              · by_cases h2 : 0 ≤ vb
                · have hsn' : Hid (csts gs X (k + 1) = vs ++ [bits .xor .i64 va vb]) := Lib.hid (by rw [hE.out]; rw [if_neg hab', if_pos ⟨h1, h2⟩])
                  have hbx : Below wr.heap.size wr (wr.alloc (.cells #[.int .i64 0, .int .i64 a, .int .i64 b'] 41)) := (Below.refl _ _).alloc (Nat.le_refl _) _
                  have e1 := cell_below d1 hbx
                  have e2 := cell_below d2 hbx
                  have hownA := fun q : Nat => ((hown.below hbx (.inl (Nat.le_refl _))).drewN q).alloc (.cells #[.int .i64 (bits .xor .i64 va vb)] 3)
                  have hbA := fun q : Nat => (below_drewN (hb.alloc hz (.cells #[.int .i64 0, .int .i64 a, .int .i64 b'] 41)) q).alloc (by simp; omega) (.cells #[.int .i64 (bits .xor .i64 va vb)] 3)
                  go_wp2_with (at_builtin; refine wpList_app _ rfl _ _ rfl rfl (hownA 0) rfl (RI_one _ _ _ _ (by simp)) (by omega) (by first | omega | (simp; done) | (simp; omega)) ?_; intro A5 c5 w5 hown5 hg5 hat5)
                  have hb5 := below_app (hbA 0) (hownA 0) hg5 (by simp; omega) (Nat.le_refl _)
                  rw [← hsn'.out] at hown5
                  clear hownA hbA hg5 hat5 hown hb
                  go_wp2
                  go_roundw
                  case rel => exact ⟨k + 1, _, _, by omega, by go_num, rfl, hown5, hb5⟩
                  case measure => simp [intOf]; omega
                · have hsn' : Hid (csts gs X (k + 1) = vs ++ [-1]) := Lib.hid (by rw [hE.out]; rw [if_neg hab', if_neg (fun hc => h2 hc.2)])
                  have hbx : Below wr.heap.size wr (wr.alloc (.cells #[.int .i64 0, .int .i64 a, .int .i64 b'] 41)) := (Below.refl _ _).alloc (Nat.le_refl _) _
                  have e1 := cell_below d1 hbx
                  have e2 := cell_below d2 hbx
                  have hownA := fun q : Nat => ((hown.below hbx (.inl (Nat.le_refl _))).drewN q).alloc (.cells #[.int .i64 (-1)] 3)
                  have hbA := fun q : Nat => (below_drewN (hb.alloc hz (.cells #[.int .i64 0, .int .i64 a, .int .i64 b'] 41)) q).alloc (by simp; omega) (.cells #[.int .i64 (-1)] 3)
                  go_wp2_with (at_builtin; refine wpList_app _ rfl _ _ rfl rfl (hownA 0) rfl (RI_one _ _ _ _ (by simp)) (by omega) (by first | omega | (simp; done) | (simp; omega)) ?_; intro A5 c5 w5 hown5 hg5 hat5)
                  have hb5 := below_app (hbA 0) (hownA 0) hg5 (by simp; omega) (Nat.le_refl _)
                  rw [← hsn'.out] at hown5
                  clear hownA hbA hg5 hat5 hown hb
                  go_wp2
                  go_roundw
                  case rel => exact ⟨k + 1, _, _, by omega, by go_num, rfl, hown5, hb5⟩
                  case measure => simp [intOf]; omega
              · have hsn' : Hid (csts gs X (k + 1) = vs ++ [-1]) := Lib.hid (by rw [hE.out]; rw [if_neg hab', if_neg (fun hc => h1 hc.1)])
                have hbx : Below wr.heap.size wr (wr.alloc (.cells #[.int .i64 0, .int .i64 a, .int .i64 b'] 41)) := (Below.refl _ _).alloc (Nat.le_refl _) _
                have e1 := cell_below d1 hbx
                have e2 := cell_below d2 hbx
                have hownA := fun q : Nat => ((hown.below hbx (.inl (Nat.le_refl _))).drewN q).alloc (.cells #[.int .i64 (-1)] 3)
                have hbA := fun q : Nat => (below_drewN (hb.alloc hz (.cells #[.int .i64 0, .int .i64 a, .int .i64 b'] 41)) q).alloc (by simp; omega) (.cells #[.int .i64 (-1)] 3)
                go_wp2_with (at_builtin; refine wpList_app _ rfl _ _ rfl rfl (hownA 0) rfl (RI_one _ _ _ _ (by simp)) (by omega) (by first | omega | (simp; done) | (simp; omega)) ?_; intro A5 c5 w5 hown5 hg5 hat5)
                have hb5 := below_app (hbA 0) (hownA 0) hg5 (by simp; omega) (Nat.le_refl _)
                rw [← hsn'.out] at hown5
                clear hownA hbA hg5 hat5 hown hb
                go_wp2
                go_roundw
                case rel => exact ⟨k + 1, _, _, by omega, by go_num, rfl, hown5, hb5⟩
                case measure => simp [intOf]; omega
          | and_ hk0 a0 a1 b0 b1 =>
            dsimp only at hk0 a0 a1 b0 b1
            obtain ⟨a, rfl⟩ := Int.eq_ofNat_of_zero_le a0
            obtain ⟨b', rfl⟩ := Int.eq_ofNat_of_zero_le b0
            subst hk0
            obtain ⟨g, rfl, hg1, hg2, hg3⟩ := hown.some_ (by omega)
            obtain ⟨d1, _⟩ := hown.cellAt (k := a) (by omega)
            obtain ⟨u0, u1⟩ := allB_gi hvk (j := a) (by omega)
            obtain ⟨d2, _⟩ := hown.cellAt (k := b') (by omega)
            obtain ⟨v0, v1⟩ := allB_gi hvk (j := b') (by omega)
            have hE : Hid (csts gs X (k + 1) = vs ++ [if gi vs a = 0 ∨ gi vs b' = 0 then 0 else if gi vs a = 1 ∧ gi vs b' = 1 then 1 else -1]) := Lib.hid (by rw [hsn.out]; simp [cst])
            generalize gi vs a = va at *
            generalize gi vs b' = vb at *
            rcases (show va = 0 ∨ va = 1 ∨ va = -1 by omega) with rfl | rfl | rfl
            · have hsn' : Hid (csts gs X (k + 1) = vs ++ [0]) := Lib.hid (by rw [hE.out]; simp)
              have hbx : Below wr.heap.size wr (wr.alloc (.cells #[.int .i64 1, .int .i64 a, .int .i64 b'] 41)) := (Below.refl _ _).alloc (Nat.le_refl _) _
              have e1 := cell_below d1 hbx
              have e2 := cell_below d2 hbx
              have hownA := fun q : Nat => ((hown.below hbx (.inl (Nat.le_refl _))).drewN q).alloc (.cells #[.int .i64 (0)] 3)
              have hbA := fun q : Nat => (below_drewN (hb.alloc hz (.cells #[.int .i64 1, .int .i64 a, .int .i64 b'] 41)) q).alloc (by simp; omega) (.cells #[.int .i64 (0)] 3)
              go_wp2_with (at_builtin; refine wpList_app _ rfl _ _ rfl rfl (hownA 0) rfl (RI_one _ _ _ _ (by simp)) (by omega) (by first | omega | (simp; done) | (simp; omega)) ?_; intro A5 c5 w5 hown5 hg5 hat5)
              have hb5 := below_app (hbA 0) (hownA 0) hg5 (by simp; omega) (Nat.le_refl _)
              rw [← hsn'.out] at hown5
              clear hownA hbA hg5 hat5 hown hb
              go_wp2
              go_roundw
              case rel => exact ⟨k + 1, _, _, by omega, by go_num, rfl, hown5, hb5⟩
              case measure => simp [intOf]; omega
            · rcases (show vb = 0 ∨ vb = 1 ∨ vb = -1 by omega) with rfl | rfl | rfl
              · have hsn' : Hid (csts gs X (k + 1) = vs ++ [0]) := Lib.hid (by rw [hE.out]; simp)
                have hbx : Below wr.heap.size wr (wr.alloc (.cells #[.int .i64 1, .int .i64 a, .int .i64 b'] 41)) := (Below.refl _ _).alloc (Nat.le_refl _) _
                have e1 := cell_below d1 hbx
                have e2 := cell_below d2 hbx
                have hownA := fun q : Nat => ((hown.below hbx (.inl (Nat.le_refl _))).drewN q).alloc (.cells #[.int .i64 (0)] 3)
                have hbA := fun q : Nat => (below_drewN (hb.alloc hz (.cells #[.int .i64 1, .int .i64 a, .int .i64 b'] 41)) q).alloc (by simp; omega) (.cells #[.int .i64 (0)] 3)
                go_wp2_with (at_builtin; refine wpList_app _ rfl _ _ rfl rfl (hownA 0) rfl (RI_one _ _ _ _ (by simp)) (by omega) (by first | omega | (simp; done) | (simp; omega)) ?_; intro A5 c5 w5 hown5 hg5 hat5)
                have hb5 := below_app (hbA 0) (hownA 0) hg5 (by simp; omega) (Nat.le_refl _)
                rw [← hsn'.out] at hown5
                clear hownA hbA hg5 hat5 hown hb
                go_wp2
                go_roundw
                case rel => exact ⟨k + 1, _, _, by omega, by go_num, rfl, hown5, hb5⟩
                case measure => simp [intOf]; omega
              · have hsn' : Hid (csts gs X (k + 1) = vs ++ [1]) := Lib.hid (by rw [hE.out]; simp)
                have hbx : Below wr.heap.size wr (wr.alloc (.cells #[.int .i64 1, .int .i64 a, .int .i64 b'] 41)) := (Below.refl _ _).alloc (Nat.le_refl _) _
                have e1 := cell_below d1 hbx
                have e2 := cell_below d2 hbx
                have hownA := fun q : Nat => ((hown.below hbx (.inl (Nat.le_refl _))).drewN q).alloc (.cells #[.int .i64 (1)] 3)
                have hbA := fun q : Nat => (below_drewN (hb.alloc hz (.cells #[.int .i64 1, .int .i64 a, .int .i64 b'] 41)) q).alloc (by simp; omega) (.cells #[.int .i64 (1)] 3)
                go_wp2_with (at_builtin; refine wpList_app _ rfl _ _ rfl rfl (hownA 0) rfl (RI_one _ _ _ _ (by simp)) (by omega) (by first | omega | (simp; done) | (simp; omega)) ?_; intro A5 c5 w5 hown5 hg5 hat5)
                have hb5 := below_app (hbA 0) (hownA 0) hg5 (by simp; omega) (Nat.le_refl _)
                rw [← hsn'.out] at hown5
                clear hownA hbA hg5 hat5 hown hb
                go_wp2
                go_roundw
                case rel => exact ⟨k + 1, _, _, by omega, by go_num, rfl, hown5, hb5⟩
                case measure => simp [intOf]; omega
              · have hsn' : Hid (csts gs X (k + 1) = vs ++ [-1]) := Lib.hid (by rw [hE.out]; simp)
                have hbx : Below wr.heap.size wr (wr.alloc (.cells #[.int .i64 1, .int .i64 a, .int .i64 b'] 41)) := (Below.refl _ _).alloc (Nat.le_refl _) _
                have e1 := cell_below d1 hbx
                have e2 := cell_below d2 hbx
                have hownA := fun q : Nat => ((hown.below hbx (.inl (Nat.le_refl _))).drewN q).alloc (.cells #[.int .i64 (-1)] 3)
                have hbA := fun q : Nat => (below_drewN (hb.alloc hz (.cells #[.int .i64 1, .int .i64 a, .int .i64 b'] 41)) q).alloc (by simp; omega) (.cells #[.int .i64 (-1)] 3)
                go_wp2_with (at_builtin; refine wpList_app _ rfl _ _ rfl rfl (hownA 0) rfl (RI_one _ _ _ _ (by simp)) (by omega) (by first | omega | (simp; done) | (simp; omega)) ?_; intro A5 c5 w5 hown5 hg5 hat5)
                have hb5 := below_app (hbA 0) (hownA 0) hg5 (by simp; omega) (Nat.le_refl _)
                rw [← hsn'.out] at hown5
                clear hownA hbA hg5 hat5 hown hb
                go_wp2
                go_roundw
                case rel => exact ⟨k + 1, _, _, by omega, by go_num, rfl, hown5, hb5⟩
                case measure => simp [intOf]; omega
            · rcases (show vb = 0 ∨ vb = 1 ∨ vb = -1 by omega) with rfl | rfl | rfl
              · have hsn' : Hid (csts gs X (k + 1) = vs ++ [0]) := Lib.hid (by rw [hE.out]; simp)
                have hbx : Below wr.heap.size wr (wr.alloc (.cells #[.int .i64 1, .int .i64 a, .int .i64 b'] 41)) := (Below.refl _ _).alloc (Nat.le_refl _) _
                have e1 := cell_below d1 hbx
                have e2 := cell_below d2 hbx
                have hownA := fun q : Nat => ((hown.below hbx (.inl (Nat.le_refl _))).drewN q).alloc (.cells #[.int .i64 (0)] 3)
                have hbA := fun q : Nat => (below_drewN (hb.alloc hz (.cells #[.int .i64 1, .int .i64 a, .int .i64 b'] 41)) q).alloc (by simp; omega) (.cells #[.int .i64 (0)] 3)
                go_wp2_with (at_builtin; refine wpList_app _ rfl _ _ rfl rfl (hownA 0) rfl (RI_one _ _ _ _ (by simp)) (by omega) (by first | omega | (simp; done) | (simp; omega)) ?_; intro A5 c5 w5 hown5 hg5 hat5)
                have hb5 := below_app (hbA 0) (hownA 0) hg5 (by simp; omega) (Nat.le_refl _)
                rw [← hsn'.out] at hown5
                clear hownA hbA hg5 hat5 hown hb
                go_wp2
                go_roundw
                case rel => exact ⟨k + 1, _, _, by omega, by go_num, rfl, hown5, hb5⟩
                case measure => simp [intOf]; omega
              · have hsn' : Hid (csts gs X (k + 1) = vs ++ [-1]) := Lib.hid (by rw [hE.out]; simp)
                have hbx : Below wr.heap.size wr (wr.alloc (.cells #[.int .i64 1, .int .i64 a, .int .i64 b'] 41)) := (Below.refl _ _).alloc (Nat.le_refl _) _
                have e1 := cell_below d1 hbx
                have e2 := cell_below d2 hbx
                have hownA := fun q : Nat => ((hown.below hbx (.inl (Nat.le_refl _))).drewN q).alloc (.cells #[.int .i64 (-1)] 3)
                have hbA := fun q : Nat => (below_drewN (hb.alloc hz (.cells #[.int .i64 1, .int .i64 a, .int .i64 b'] 41)) q).alloc (by simp; omega) (.cells #[.int .i64 (-1)] 3)
                go_wp2_with (at_builtin; refine wpList_app _ rfl _ _ rfl rfl (hownA 0) rfl (RI_one _ _ _ _ (by simp)) (by omega) (by first | omega | (simp; done) | (simp; omega)) ?_; intro A5 c5 w5 hown5 hg5 hat5)
                have hb5 := below_app (hbA 0) (hownA 0) hg5 (by simp; omega) (Nat.le_refl _)
                rw [← hsn'.out] at hown5
                clear hownA hbA hg5 hat5 hown hb
                go_wp2
                go_roundw
                case rel => exact ⟨k + 1, _, _, by omega, by go_num, rfl, hown5, hb5⟩
                case measure => simp [intOf]; omega
              · have hsn' : Hid (csts gs X (k + 1) = vs ++ [-1]) := Lib.hid (by rw [hE.out]; simp)
                have hbx : Below wr.heap.size wr (wr.alloc (.cells #[.int .i64 1, .int .i64 a, .int .i64 b'] 41)) := (Below.refl _ _).alloc (Nat.le_refl _) _
                have e1 := cell_below d1 hbx
                have e2 := cell_below d2 hbx
                have hownA := fun q : Nat => ((hown.below hbx (.inl (Nat.le_refl _))).drewN q).alloc (.cells #[.int .i64 (-1)] 3)
                have hbA := fun q : Nat => (below_drewN (hb.alloc hz (.cells #[.int .i64 1, .int .i64 a, .int .i64 b'] 41)) q).alloc (by simp; omega) (.cells #[.int .i64 (-1)] 3)
                go_wp2_with (at_builtin; refine wpList_app _ rfl _ _ rfl rfl (hownA 0) rfl (RI_one _ _ _ _ (by simp)) (by omega) (by first | omega | (simp; done) | (simp; omega)) ?_; intro A5 c5 w5 hown5 hg5 hat5)
                have hb5 := below_app (hbA 0) (hownA 0) hg5 (by simp; omega) (Nat.le_refl _)
                rw [← hsn'.out] at hown5
                clear hownA hbA hg5 hat5 hown hb
                go_wp2
                go_roundw
                case rel => exact ⟨k + 1, _, _, by omega, by go_num, rfl, hown5, hb5⟩
                case measure => simp [intOf]; omega
          | not_ hk0 a0 a1 b0 =>
            dsimp only at hk0 a0 a1 b0
            obtain ⟨a, rfl⟩ := Int.eq_ofNat_of_zero_le a0
            subst hk0
            subst b0
            obtain ⟨g, rfl, hg1, hg2, hg3⟩ := hown.some_ (by omega)
            obtain ⟨d1, _⟩ := hown.cellAt (k := a) (by omega)
            obtain ⟨u0, u1⟩ := allB_gi hvk (j := a) (by omega)
            obtain ⟨d2, _⟩ := hown.cellAt (k := 0) (by omega)
            have hpos : (0 : Int) < ((X + k : Nat) : Int) := by omega
            have hE : Hid (csts gs X (k + 1) = vs ++ [if 0 ≤ gi vs a then 1 - gi vs a else -1]) := Lib.hid (by rw [hsn.out]; simp [cst])
            by_cases h1 : 0 ≤ gi vs a
            · have hsn' : Hid (csts gs X (k + 1) = vs ++ [1 - gi vs a]) := Lib.hid (by rw [hE.out]; rw [if_pos h1])
              have hbx : Below wr.heap.size wr (wr.alloc (.cells #[.int .i64 2, .int .i64 a, .int .i64 0] 41)) := (Below.refl _ _).alloc (Nat.le_refl _) _
              have e1 := cell_below d1 hbx
              have e2 := cell_below d2 hbx
              have hownA := fun q : Nat => ((hown.below hbx (.inl (Nat.le_refl _))).drewN q).alloc (.cells #[.int .i64 (1 - gi vs a)] 3)
              have hbA := fun q : Nat => (below_drewN (hb.alloc hz (.cells #[.int .i64 2, .int .i64 a, .int .i64 0] 41)) q).alloc (by simp; omega) (.cells #[.int .i64 (1 - gi vs a)] 3)
              go_wp2_with (at_builtin; refine wpList_app _ rfl _ _ rfl rfl (hownA 0) rfl (RI_one _ _ _ _ (by simp)) (by omega) (by first | omega | (simp; done) | (simp; omega)) ?_; intro A5 c5 w5 hown5 hg5 hat5)
              have hb5 := below_app (hbA 0) (hownA 0) hg5 (by simp; omega) (Nat.le_refl _)
              rw [← hsn'.out] at hown5
              clear hownA hbA hg5 hat5 hown hb
              go_wp2
              go_roundw
              case rel => exact ⟨k + 1, _, _, by omega, by go_num, rfl, hown5, hb5⟩
              case measure => simp [intOf]; omega
            · have hsn' : Hid (csts gs X (k + 1) = vs ++ [-1]) := Lib.hid (by rw [hE.out]; rw [if_neg h1])
              have hbx : Below wr.heap.size wr (wr.alloc (.cells #[.int .i64 2, .int .i64 a, .int .i64 0] 41)) := (Below.refl _ _).alloc (Nat.le_refl _) _
              have e1 := cell_below d1 hbx
              have e2 := cell_below d2 hbx
              have hownA := fun q : Nat => ((hown.below hbx (.inl (Nat.le_refl _))).drewN q).alloc (.cells #[.int .i64 (-1)] 3)
              have hbA := fun q : Nat => (below_drewN (hb.alloc hz (.cells #[.int .i64 2, .int .i64 a, .int .i64 0] 41)) q).alloc (by simp; omega) (.cells #[.int .i64 (-1)] 3)
              go_wp2_with (at_builtin; refine wpList_app _ rfl _ _ rfl rfl (hownA 0) rfl (RI_one _ _ _ _ (by simp)) (by omega) (by first | omega | (simp; done) | (simp; omega)) ?_; intro A5 c5 w5 hown5 hg5 hat5)
              have hb5 := below_app (hbA 0) (hownA 0) hg5 (by simp; omega) (Nat.le_refl _)
              rw [← hsn'.out] at hown5
              clear hownA hbA hg5 hat5 hown hb
              go_wp2
              go_roundw
              case rel => exact ⟨k + 1, _, _, by omega, by go_num, rfl, hown5, hb5⟩
              case measure => simp [intOf]; omega
          | one_ hk0 a0 b0 =>
            dsimp only at hk0 a0 b0
            subst hk0
            subst a0
            subst b0
            have hE : Hid (csts gs X (k + 1) = vs ++ [1]) := Lib.hid (by rw [hsn.out]; simp [cst])
            have hsn' : Hid (csts gs X (k + 1) = vs ++ [1]) := Lib.hid (by rw [hE.out])
            have hbx : Below wr.heap.size wr (wr.alloc (.cells #[.int .i64 3, .int .i64 0, .int .i64 0] 41)) := (Below.refl _ _).alloc (Nat.le_refl _) _
            have hownA := fun q : Nat => ((hown.below hbx (.inl (Nat.le_refl _))).drewN q).alloc (.cells #[.int .i64 (1)] 3)
            have hbA := fun q : Nat => (below_drewN (hb.alloc hz (.cells #[.int .i64 3, .int .i64 0, .int .i64 0] 41)) q).alloc (by simp; omega) (.cells #[.int .i64 (1)] 3)
            go_wp2_with (at_builtin; refine wpList_app _ rfl _ _ rfl rfl (hownA 0) rfl (RI_one _ _ _ _ (by simp)) (by omega) (by first | omega | (simp; done) | (simp; omega)) ?_; intro A5 c5 w5 hown5 hg5 hat5)
            have hb5 := below_app (hbA 0) (hownA 0) hg5 (by simp; omega) (Nat.le_refl _)
            rw [← hsn'.out] at hown5
            clear hownA hbA hg5 hat5 hown hb
            go_wp2
            go_roundw
            case rel => exact ⟨k + 1, _, _, by omega, by go_num, rfl, hown5, hb5⟩
            case measure => simp [intOf]; omega
        · obtain rfl : ng = k := Nat.le_antisymm (Nat.le_of_not_lt hlt) hk
          go_wp2
          go_ret
          exact RetI.mk_ (HL.out ng) rfl hown hb
set_option maxRecDepth 100000 in
set_option maxHeartbeats 8000000 in
theorem spec_ConstantWires_any (x y : Int) (Ag : Option Addr) (ng cg : Nat) (Ao : Option Addr) (no co : Nat) (gs : List G3) (os : List Int) (w : World) (hr : RG w Ag ng gs ∧ RI w Ao no os) (hng : ng ≤ 2097152) (hno : no ≤ 2097152) :
    Calls Try.prog 10 #[.agg #[.int .i64 x, .int .i64 y, .slice Ag ng cg, .slice Ao no co]] w (RetO w (cstF x y gs os)) := by
  have hB : Below w.heap.size w (w.alloc (.cells #[.int .i64 x, .int .i64 y, .slice Ag ng cg, .slice Ao no co] 26)) := (Below.refl _ _).alloc (Nat.le_refl _) _
  have hlg := hr.1.len
  have hlo := hr.2.len
  cases h0 : circB x y gs os with
  | false =>
    have HR : Hid (cstF x y gs os = none) := Lib.hid (by simp [cstF, h0])
    have H0 := Lib.hid h0; clear h0
    go_enter Try.func10, Try.ntmps10
    go_wp2_with fail
    refine (ciGood_any x y Ag ng cg Ao no co gs os _ (hr.1.below hB (Nat.le_refl _)) (hr.2.below hB (Nat.le_refl _)) hng hno).mono ?_
    rintro e v1 ⟨rfl, hb1⟩
    rw [H0.out]
    go_wp2
    go_ret2
    exact RetO.none_ (hB.trans (hb1.mono hB.size)) HR.out rfl
  | true =>
    obtain ⟨b2, b3, b4, b5, b6, b7⟩ := circB_bd h0
    have hx : 0 ≤ x ∧ x ≤ 20 := b2
    have hy : 0 ≤ y ∧ y ≤ 20 := b3
    obtain ⟨X, hX⟩ : ∃ X : Nat, x + y = X := ⟨(x + y).toNat, by omega⟩
    have hXt : (x + y).toNat = X := by omega
    rw [hX, hlg] at b6
    have hgat := b6
    have hX16 : X ≤ 40 := by omega
    have HR : Hid (cstF x y gs os = some (csts gs X ng)) := Lib.hid (by simp [cstF, h0, hXt, hlg])
    have H0 := Lib.hid h0; clear h0 b6 b7
    go_enter Try.func10, Try.ntmps10
    go_wp2_with fail
    refine (ciGood_any x y Ag ng cg Ao no co gs os _ (hr.1.below hB (Nat.le_refl _)) (hr.2.below hB (Nat.le_refl _)) hng hno).mono ?_
    rintro e v1 ⟨rfl, hb1⟩
    rw [H0.out]
    have hz1 := hb1.size
    simp only [World.size_alloc] at hz1 hb1
    have hB1 := hB.trans (hb1.mono (by omega))
    have hq0 := box_at hb1
    obtain ⟨k0, k1, k2, k3⟩ := hq0
    go_wp2_with fail
    refine (siConstants_any x y Ag ng cg Ao no co X gs _ (hr.1.below hB1 (Nat.le_refl _)) hx hy hX hgat (by omega)).mono ?_
    rintro e v2 hT
    obtain ⟨A2, c2, rfl, hown2, hb2⟩ := hT.open_ (csts_len gs X ng)
    go_wp2
    go_ret2
    exact RetO.some_ (hB1.trans (hb2.mono hB1.size)) HR.out (csts_len gs X ng) rfl (hown2.lo_ hB1.size)
set_option maxRecDepth 100000 in
set_option maxHeartbeats 8000000 in
theorem ConstantWires_any (x y : Int) (Ag : Option Addr) (ng cg : Nat) (Ao : Option Addr) (no co : Nat) (gs : List G3) (os : List Int) (w : World) (hr : RG w Ag ng gs ∧ RI w Ao no os) (hng : ng ≤ 2097152) (hno : no ≤ 2097152) :
    Calls Try.prog 9 #[.agg #[.int .i64 x, .int .i64 y, .slice Ag ng cg, .slice Ao no co]] w (RetO w (cstF x y gs os)) := by
  have hB : Below w.heap.size w (w.alloc (.cells #[.int .i64 x, .int .i64 y, .slice Ag ng cg, .slice Ao no co] 26)) := (Below.refl _ _).alloc (Nat.le_refl _) _
  have hlg := hr.1.len
  have hlo := hr.2.len
  cases h0 : circB x y gs os with
  | false =>
    have HR : Hid (cstF x y gs os = none) := Lib.hid (by simp [cstF, h0])
    have H0 := Lib.hid h0; clear h0
    go_enter Try.func9, Try.ntmps9
    go_wp2_with fail
    refine (IsCircuit_any x y Ag ng cg Ao no co gs os _ (hr.1.below hB (Nat.le_refl _)) (hr.2.below hB (Nat.le_refl _)) hng hno).mono ?_
    rintro e v1 ⟨rfl, hb1⟩
    rw [H0.out]
    go_wp2
    go_ret2
    exact RetO.none_ (hB.trans (hb1.mono hB.size)) HR.out rfl
  | true =>
    obtain ⟨b2, b3, b4, b5, b6, b7⟩ := circB_bd h0
    have hx : 0 ≤ x ∧ x ≤ 20 := b2
    have hy : 0 ≤ y ∧ y ≤ 20 := b3
    obtain ⟨X, hX⟩ : ∃ X : Nat, x + y = X := ⟨(x + y).toNat, by omega⟩
    have hXt : (x + y).toNat = X := by omega
    rw [hX, hlg] at b6
    have hgat := b6
    have hX16 : X ≤ 40 := by omega
    have HR : Hid (cstF x y gs os = some (csts gs X ng)) := Lib.hid (by simp [cstF, h0, hXt, hlg])
    have H0 := Lib.hid h0; clear h0 b6 b7
    go_enter Try.func9, Try.ntmps9
    go_wp2_with fail
    refine (IsCircuit_any x y Ag ng cg Ao no co gs os _ (hr.1.below hB (Nat.le_refl _)) (hr.2.below hB (Nat.le_refl _)) hng hno).mono ?_
    rintro e v1 ⟨rfl, hb1⟩
    rw [H0.out]
    have hz1 := hb1.size
    simp only [World.size_alloc] at hz1 hb1
    have hB1 := hB.trans (hb1.mono (by omega))
    have hq0 := box_at hb1
    obtain ⟨k0, k1, k2, k3⟩ := hq0
    have hvb : ∀ k, allB (-1) 1 (csts gs X k) = true := fun k => csts_bd gs X k
    have hvl : ∀ k, (csts gs X k).length = X + k := fun k => csts_len gs X k
    have HV := Lib.hid hvb; have HL := Lib.hid hvl; clear hvb hvl
    have hbA := hB1.alloc (by omega) (.cells #[.int .i64 (-1)] 3)
    have hbx := hb1.alloc (by omega) (.cells #[.int .i64 (-1)] 3)
    clear k0 k1 k2 k3
    have hq0 := box_at hbx
    obtain ⟨k0, k1, k2, k3⟩ := hq0
    go_wp2_with fail
    refine (Circuit_inputs_any x y Ag ng cg Ao no co _ hx hy).mono ?_
    rintro e v2 ⟨rfl, hb2⟩
    rw [hX]
    have hB2 := hbA.trans (hb2.mono hbA.size)
    have hbx2 := hbx.trans (hb2.mono (by simp; omega))
    have hz2 := hb2.size
    simp only [World.size_alloc] at hz2
    have hr1 : RI v2 (some ⟨v1.heap.size, 0, none⟩) 1 [-1] := (RI_one v1 (-1) 3 v1.heap.size rfl).below hb2 (Nat.le_refl _)
    clear k0 k1 k2 k3
    have hq0 := box_at hbx2
    obtain ⟨k0, k1, k2, k3⟩ := hq0
    go_wp2_with fail
    refine (Repeat_any (some ⟨v1.heap.size, 0, none⟩) 1 X (-1) _ hr1 (by omega)).mono ?_
    rintro e v3 hT
    obtain ⟨A2, c2_, rfl, hown2, hb3⟩ := hT.open_ (n := X) (by simp)
    have hB3 := hB2.trans (hb3.mono hB2.size)
    have hbx3 := hbx2.trans (hb3.mono (by omega))
    have hst := And.intro (show Own v3 w.heap.size v3.heap.size (.slice A2 (X + 0) c2_) (X + 0) (csts gs X 0) from hown2.lo_ hB2.size) hB3
    clear hown2 k0 k1 k2 k3
    have hq0 := box_at hbx3
    obtain ⟨k0, k1, k2, k3⟩ := hq0
    have hg := hr.1
    go_wp2_with fail
    go_loopw [4, 20] (fun v i wr => ∃ (k : Nat) (A' : Option Addr) (c' : Nat), k ≤ ng ∧ i = .int .i64 k ∧ v = .slice A' (X + k : Nat) c' ∧ Own wr w.heap.size wr.heap.size (.slice A' (X + k) c') (X + k) (csts gs X k) ∧ Below w.heap.size w wr) (fun _ i _ => ng - (intOf i).toNat)
    case atStart => exact ⟨0, _, _, Nat.zero_le _, rfl, rfl, hst.1, hst.2⟩
    case round =>
      clear hst
      obtain ⟨k, A', c', hk, rfl, rfl, hown, hb⟩ := hrel
      by_cases hlt : k < ng
      · obtain ⟨b, o, rfl, hbB, c1, c2, c3⟩ := (hg.below hb (Nat.le_refl _)).at_ hlt
        have hgt := gatesB_at hgat hlt
        have hsn := Lib.hid (csts_succ gs X k)
        have hvk := HV.out k
        have hlk := HL.out k
        have hz := hb.size
        generalize csts gs X k = vs at *
        generalize gg gs k = G at *
        obtain ⟨gk, ga, gb⟩ := G
        dsimp only at c1 c2 c3
        cases hgt with
        | xor_ hk0 a0 a1 b0 b1 =>
          dsimp only at hk0 a0 a1 b0 b1
          obtain ⟨a, rfl⟩ := Int.eq_ofNat_of_zero_le a0
          obtain ⟨b', rfl⟩ := Int.eq_ofNat_of_zero_le b0
          subst hk0
          obtain ⟨g, rfl, hg1, hg2, hg3⟩ := hown.some_ (by omega)
          obtain ⟨d1, _⟩ := hown.cellAt (k := a) (by omega)
          obtain ⟨u0, u1⟩ := allB_gi hvk (j := a) (by omega)
          obtain ⟨d2, _⟩ := hown.cellAt (k := b') (by omega)
          obtain ⟨v0, v1⟩ := allB_gi hvk (j := b') (by omega)
          have hE : Hid (csts gs X (k + 1) = vs ++ [if (a : Int) = b' then 0 else if 0 ≤ gi vs a ∧ 0 ≤ gi vs b' then bits .xor .i64 (gi vs a) (gi vs b') else -1]) := Lib.hid (by rw [hsn.out]; simp [cst, bxor])
          by_cases hab : a = b'
          · obtain rfl := hab
            generalize gi vs a = va at *
            by_cases h1 : 0 ≤ va
            · have hsn' : Hid (csts gs X (k + 1) = vs ++ [0]) := Lib.hid (by rw [hE.out]; simp)
              have hbx : Below wr.heap.size wr (wr.alloc (.cells #[.int .i64 0, .int .i64 a, .int .i64 a] 41)) := (Below.refl _ _).alloc (Nat.le_refl _) _
              have e1 := cell_below d1 hbx
              have e2 := cell_below d2 hbx
              have hownA := fun q : Nat => ((hown.below hbx (.inl (Nat.le_refl _))).drewN q).alloc (.cells #[.int .i64 (0)] 3)
              have hbA := fun q : Nat => (below_drewN (hb.alloc hz (.cells #[.int .i64 0, .int .i64 a, .int .i64 a] 41)) q).alloc (by simp; omega) (.cells #[.int .i64 (0)] 3)
              go_wp2_with fail
              go_quiet (fail)
              go_wp2_with (at_builtin; refine wpList_app _ rfl _ _ rfl rfl (hownA _) rfl (RI_one _ _ _ _ (by simp)) (by omega) (by first | omega | (simp; done) | (simp; omega)) ?_; intro A5 c5 w5 hown5 hg5 hat5)
              have hb5 := below_app (hbA _) (hownA _) hg5 (by simp; omega) (Nat.le_refl _)
              rw [← hsn'.out] at hown5
              clear hownA hbA hg5 hat5 hown hb
              go_wp2
              go_roundw
              case rel => exact ⟨k + 1, _, _, by omega, by go_num, rfl, hown5, hb5⟩
              case measure => simp [intOf]; omega
            · have hsn' : Hid (csts gs X (k + 1) = vs ++ [0]) := Lib.hid (by rw [hE.out]; simp)
              have hbx : Below wr.heap.size wr (wr.alloc (.cells #[.int .i64 0, .int .i64 a, .int .i64 a] 41)) := (Below.refl _ _).alloc (Nat.le_refl _) _
              have e1 := cell_below d1 hbx
              have e2 := cell_below d2 hbx
              have hownA := fun q : Nat => ((hown.below hbx (.inl (Nat.le_refl _))).drewN q).alloc (.cells #[.int .i64 (0)] 3)
              have hbA := fun q : Nat => (below_drewN (hb.alloc hz (.cells #[.int .i64 0, .int .i64 a, .int .i64 a] 41)) q).alloc (by simp; omega) (.cells #[.int .i64 (0)] 3)
              go_wp2_with fail
              go_quiet (fail)
              go_wp2_with (at_builtin; refine wpList_app _ rfl _ _ rfl rfl (hownA _) rfl (RI_one _ _ _ _ (by simp)) (by omega) (by first | omega | (simp; done) | (simp; omega)) ?_; intro A5 c5 w5 hown5 hg5 hat5)
              have hb5 := below_app (hbA _) (hownA _) hg5 (by simp; omega) (Nat.le_refl _)
              rw [← hsn'.out] at hown5
              clear hownA hbA hg5 hat5 hown hb
              go_wp2
              go_roundw
              case rel => exact ⟨k + 1, _, _, by omega, by go_num, rfl, hown5, hb5⟩
              case measure => simp [intOf]; omega
          · have hab' : ¬ ((a : Int) = b') := by omega
            have hne : ((a : Int) == b') = false := by simpa using hab'
            generalize gi vs a = va at *
            generalize gi vs b' = vb at *
            by_cases h1 : 0 ≤ va
            · by_cases h2 : 0 ≤ vb
              · have hsn' : Hid (csts gs X (k + 1) = vs ++ [bits .xor .i64 va vb]) := Lib.hid (by rw [hE.out]; rw [if_neg hab', if_pos ⟨h1, h2⟩])
                have hbx : Below wr.heap.size wr (wr.alloc (.cells #[.int .i64 0, .int .i64 a, .int .i64 b'] 41)) := (Below.refl _ _).alloc (Nat.le_refl _) _
                have e1 := cell_below d1 hbx
                have e2 := cell_below d2 hbx
                have hownA := fun q : Nat => ((hown.below hbx (.inl (Nat.le_refl _))).drewN q).alloc (.cells #[.int .i64 (bits .xor .i64 va vb)] 3)
                have hbA := fun q : Nat => (below_drewN (hb.alloc hz (.cells #[.int .i64 0, .int .i64 a, .int .i64 b'] 41)) q).alloc (by simp; omega) (.cells #[.int .i64 (bits .xor .i64 va vb)] 3)
                go_wp2_with fail
                go_quiet (fail)
                go_wp2_with (at_builtin; refine wpList_app _ rfl _ _ rfl rfl (hownA _) rfl (RI_one _ _ _ _ (by simp)) (by omega) (by first | omega | (simp; done) | (simp; omega)) ?_; intro A5 c5 w5 hown5 hg5 hat5)
                have hb5 := below_app (hbA _) (hownA _) hg5 (by simp; omega) (Nat.le_refl _)
                rw [← hsn'.out] at hown5
                clear hownA hbA hg5 hat5 hown hb
                go_wp2
                go_roundw
                case rel => exact ⟨k + 1, _, _, by omega, by go_num, rfl, hown5, hb5⟩
                case measure => simp [intOf]; omega
              · have hsn' : Hid (csts gs X (k + 1) = vs ++ [-1]) := Lib.hid (by rw [hE.out]; rw [if_neg hab', if_neg (fun hc => h2 hc.2)])
                have hbx : Below wr.heap.size wr (wr.alloc (.cells #[.int .i64 0, .int .i64 a, .int .i64 b'] 41)) := (Below.refl _ _).alloc (Nat.le_refl _) _
                have e1 := cell_below d1 hbx
                have e2 := cell_below d2 hbx
                have hownA := fun q : Nat => ((hown.below hbx (.inl (Nat.le_refl _))).drewN q).alloc (.cells #[.int .i64 (-1)] 3)
                have hbA := fun q : Nat => (below_drewN (hb.alloc hz (.cells #[.int .i64 0, .int .i64 a, .int .i64 b'] 41)) q).alloc (by simp; omega) (.cells #[.int .i64 (-1)] 3)
                go_wp2_with fail
                go_quiet (fail)
                go_wp2_with (at_builtin; refine wpList_app _ rfl _ _ rfl rfl (hownA _) rfl (RI_one _ _ _ _ (by simp)) (by omega) (by first | omega | (simp; done) | (simp; omega)) ?_; intro A5 c5 w5 hown5 hg5 hat5)
                have hb5 := below_app (hbA _) (hownA _) hg5 (by simp; omega) (Nat.le_refl _)
                rw [← hsn'.out] at hown5
                clear hownA hbA hg5 hat5 hown hb
                go_wp2
                go_roundw
                case rel => exact ⟨k + 1, _, _, by omega, by go_num, rfl, hown5, hb5⟩
                case measure => simp [intOf]; omega
            · have hsn' : Hid (csts gs X (k + 1) = vs ++ [-1]) := Lib.hid (by rw [hE.out]; rw [if_neg hab', if_neg (fun hc => h1 hc.1)])
              have hbx : Below wr.heap.size wr (wr.alloc (.cells #[.int .i64 0, .int .i64 a, .int .i64 b'] 41)) := (Below.refl _ _).alloc (Nat.le_refl _) _
              have e1 := cell_below d1 hbx
              have e2 := cell_below d2 hbx
              have hownA := fun q : Nat => ((hown.below hbx (.inl (Nat.le_refl _))).drewN q).alloc (.cells #[.int .i64 (-1)] 3)
              have hbA := fun q : Nat => (below_drewN (hb.alloc hz (.cells #[.int .i64 0, .int .i64 a, .int .i64 b'] 41)) q).alloc (by simp; omega) (.cells #[.int .i64 (-1)] 3)
              go_wp2_with fail
              go_quiet (fail)
              go_wp2_with (at_builtin; refine wpList_app _ rfl _ _ rfl rfl (hownA _) rfl (RI_one _ _ _ _ (by simp)) (by omega) (by first | omega | (simp; done) | (simp; omega)) ?_; intro A5 c5 w5 hown5 hg5 hat5)
              have hb5 := below_app (hbA _) (hownA _) hg5 (by simp; omega) (Nat.le_refl _)
              rw [← hsn'.out] at hown5
              clear hownA hbA hg5 hat5 hown hb
              go_wp2
              go_roundw
              case rel => exact ⟨k + 1, _, _, by omega, by go_num, rfl, hown5, hb5⟩
              case measure => simp [intOf]; omega
        | and_ hk0 a0 a1 b0 b1 =>
          dsimp only at hk0 a0 a1 b0 b1
          obtain ⟨a, rfl⟩ := Int.eq_ofNat_of_zero_le a0
          obtain ⟨b', rfl⟩ := Int.eq_ofNat_of_zero_le b0
          subst hk0
          obtain ⟨g, rfl, hg1, hg2, hg3⟩ := hown.some_ (by omega)
          obtain ⟨d1, _⟩ := hown.cellAt (k := a) (by omega)
          obtain ⟨u0, u1⟩ := allB_gi hvk (j := a) (by omega)
          obtain ⟨d2, _⟩ := hown.cellAt (k := b') (by omega)
          obtain ⟨v0, v1⟩ := allB_gi hvk (j := b') (by omega)
          have hE : Hid (csts gs X (k + 1) = vs ++ [if gi vs a = 0 ∨ gi vs b' = 0 then 0 else if gi vs a = 1 ∧ gi vs b' = 1 then 1 else -1]) := Lib.hid (by rw [hsn.out]; simp [cst])
          generalize gi vs a = va at *
          generalize gi vs b' = vb at *
          rcases (show va = 0 ∨ va = 1 ∨ va = -1 by omega) with rfl | rfl | rfl
          · have hsn' : Hid (csts gs X (k + 1) = vs ++ [0]) := Lib.hid (by rw [hE.out]; simp)
            have hbx : Below wr.heap.size wr (wr.alloc (.cells #[.int .i64 1, .int .i64 a, .int .i64 b'] 41)) := (Below.refl _ _).alloc (Nat.le_refl _) _
            have e1 := cell_below d1 hbx
            have e2 := cell_below d2 hbx
            have hownA := fun q : Nat => ((hown.below hbx (.inl (Nat.le_refl _))).drewN q).alloc (.cells #[.int .i64 (0)] 3)
            have hbA := fun q : Nat => (below_drewN (hb.alloc hz (.cells #[.int .i64 1, .int .i64 a, .int .i64 b'] 41)) q).alloc (by simp; omega) (.cells #[.int .i64 (0)] 3)
            go_wp2_with fail
            go_quiet (fail)
            go_wp2_with (at_builtin; refine wpList_app _ rfl _ _ rfl rfl (hownA _) rfl (RI_one _ _ _ _ (by simp)) (by omega) (by first | omega | (simp; done) | (simp; omega)) ?_; intro A5 c5 w5 hown5 hg5 hat5)
            have hb5 := below_app (hbA _) (hownA _) hg5 (by simp; omega) (Nat.le_refl _)
            rw [← hsn'.out] at hown5
            clear hownA hbA hg5 hat5 hown hb
            go_wp2
            go_roundw
            case rel => exact ⟨k + 1, _, _, by omega, by go_num, rfl, hown5, hb5⟩
            case measure => simp [intOf]; omega
          · rcases (show vb = 0 ∨ vb = 1 ∨ vb = -1 by omega) with rfl | rfl | rfl
            · have hsn' : Hid (csts gs X (k + 1) = vs ++ [0]) := Lib.hid (by rw [hE.out]; simp)
              have hbx : Below wr.heap.size wr (wr.alloc (.cells #[.int .i64 1, .int .i64 a, .int .i64 b'] 41)) := (Below.refl _ _).alloc (Nat.le_refl _) _
              have e1 := cell_below d1 hbx
              have e2 := cell_below d2 hbx
              have hownA := fun q : Nat => ((hown.below hbx (.inl (Nat.le_refl _))).drewN q).alloc (.cells #[.int .i64 (0)] 3)
              have hbA := fun q : Nat => (below_drewN (hb.alloc hz (.cells #[.int .i64 1, .int .i64 a, .int .i64 b'] 41)) q).alloc (by simp; omega) (.cells #[.int .i64 (0)] 3)
              go_wp2_with fail
              go_quiet (fail)
              go_wp2_with (at_builtin; refine wpList_app _ rfl _ _ rfl rfl (hownA _) rfl (RI_one _ _ _ _ (by simp)) (by omega) (by first | omega | (simp; done) | (simp; omega)) ?_; intro A5 c5 w5 hown5 hg5 hat5)
              have hb5 := below_app (hbA _) (hownA _) hg5 (by simp; omega) (Nat.le_refl _)
              rw [← hsn'.out] at hown5
              clear hownA hbA hg5 hat5 hown hb
              go_wp2
              go_roundw
              case rel => exact ⟨k + 1, _, _, by omega, by go_num, rfl, hown5, hb5⟩
              case measure => simp [intOf]; omega
            · have hsn' : Hid (csts gs X (k + 1) = vs ++ [1]) := Lib.hid (by rw [hE.out]; simp)
              have hbx : Below wr.heap.size wr (wr.alloc (.cells #[.int .i64 1, .int .i64 a, .int .i64 b'] 41)) := (Below.refl _ _).alloc (Nat.le_refl _) _
              have e1 := cell_below d1 hbx
              have e2 := cell_below d2 hbx
              have hownA := fun q : Nat => ((hown.below hbx (.inl (Nat.le_refl _))).drewN q).alloc (.cells #[.int .i64 (1)] 3)
              have hbA := fun q : Nat => (below_drewN (hb.alloc hz (.cells #[.int .i64 1, .int .i64 a, .int .i64 b'] 41)) q).alloc (by simp; omega) (.cells #[.int .i64 (1)] 3)
              go_wp2_with fail
              go_quiet (fail)
              go_wp2_with (at_builtin; refine wpList_app _ rfl _ _ rfl rfl (hownA _) rfl (RI_one _ _ _ _ (by simp)) (by omega) (by first | omega | (simp; done) | (simp; omega)) ?_; intro A5 c5 w5 hown5 hg5 hat5)
              have hb5 := below_app (hbA _) (hownA _) hg5 (by simp; omega) (Nat.le_refl _)
              rw [← hsn'.out] at hown5
              clear hownA hbA hg5 hat5 hown hb
              go_wp2
              go_roundw
              case rel => exact ⟨k + 1, _, _, by omega, by go_num, rfl, hown5, hb5⟩
              case measure => simp [intOf]; omega
            · have hsn' : Hid (csts gs X (k + 1) = vs ++ [-1]) := Lib.hid (by rw [hE.out]; simp)
              have hbx : Below wr.heap.size wr (wr.alloc (.cells #[.int .i64 1, .int .i64 a, .int .i64 b'] 41)) := (Below.refl _ _).alloc (Nat.le_refl _) _
              have e1 := cell_below d1 hbx
              have e2 := cell_below d2 hbx
              have hownA := fun q : Nat => ((hown.below hbx (.inl (Nat.le_refl _))).drewN q).alloc (.cells #[.int .i64 (-1)] 3)
              have hbA := fun q : Nat => (below_drewN (hb.alloc hz (.cells #[.int .i64 1, .int .i64 a, .int .i64 b'] 41)) q).alloc (by simp; omega) (.cells #[.int .i64 (-1)] 3)
              go_wp2_with fail
              go_quiet (fail)
              go_wp2_with (at_builtin; refine wpList_app _ rfl _ _ rfl rfl (hownA _) rfl (RI_one _ _ _ _ (by simp)) (by omega) (by first | omega | (simp; done) | (simp; omega)) ?_; intro A5 c5 w5 hown5 hg5 hat5)
              have hb5 := below_app (hbA _) (hownA _) hg5 (by simp; omega) (Nat.le_refl _)
              rw [← hsn'.out] at hown5
              clear hownA hbA hg5 hat5 hown hb
              go_wp2
              go_roundw
              case rel => exact ⟨k + 1, _, _, by omega, by go_num, rfl, hown5, hb5⟩
              case measure => simp [intOf]; omega
          · rcases (show vb = 0 ∨ vb = 1 ∨ vb = -1 by omega) with rfl | rfl | rfl
            · have hsn' : Hid (csts gs X (k + 1) = vs ++ [0]) := Lib.hid (by rw [hE.out]; simp)
              have hbx : Below wr.heap.size wr (wr.alloc (.cells #[.int .i64 1, .int .i64 a, .int .i64 b'] 41)) := (Below.refl _ _).alloc (Nat.le_refl _) _
              have e1 := cell_below d1 hbx
              have e2 := cell_below d2 hbx
              have hownA := fun q : Nat => ((hown.below hbx (.inl (Nat.le_refl _))).drewN q).alloc (.cells #[.int .i64 (0)] 3)
              have hbA := fun q : Nat => (below_drewN (hb.alloc hz (.cells #[.int .i64 1, .int .i64 a, .int .i64 b'] 41)) q).alloc (by simp; omega) (.cells #[.int .i64 (0)] 3)
              go_wp2_with fail
              go_quiet (fail)
              go_wp2_with (at_builtin; refine wpList_app _ rfl _ _ rfl rfl (hownA _) rfl (RI_one _ _ _ _ (by simp)) (by omega) (by first | omega | (simp; done) | (simp; omega)) ?_; intro A5 c5 w5 hown5 hg5 hat5)
              have hb5 := below_app (hbA _) (hownA _) hg5 (by simp; omega) (Nat.le_refl _)
              rw [← hsn'.out] at hown5
              clear hownA hbA hg5 hat5 hown hb
              go_wp2
              go_roundw
              case rel => exact ⟨k + 1, _, _, by omega, by go_num, rfl, hown5, hb5⟩
              case measure => simp [intOf]; omega
            · have hsn' : Hid (csts gs X (k + 1) = vs ++ [-1]) := Lib.hid (by rw [hE.out]; simp)
              have hbx : Below wr.heap.size wr (wr.alloc (.cells #[.int .i64 1, .int .i64 a, .int .i64 b'] 41)) := (Below.refl _ _).alloc (Nat.le_refl _) _
              have e1 := cell_below d1 hbx
              have e2 := cell_below d2 hbx
              have hownA := fun q : Nat => ((hown.below hbx (.inl (Nat.le_refl _))).drewN q).alloc (.cells #[.int .i64 (-1)] 3)
              have hbA := fun q : Nat => (below_drewN (hb.alloc hz (.cells #[.int .i64 1, .int .i64 a, .int .i64 b'] 41)) q).alloc (by simp; omega) (.cells #[.int .i64 (-1)] 3)
              go_wp2_with fail
              go_quiet (fail)
              go_wp2_with (at_builtin; refine wpList_app _ rfl _ _ rfl rfl (hownA _) rfl (RI_one _ _ _ _ (by simp)) (by omega) (by first | omega | (simp; done) | (simp; omega)) ?_; intro A5 c5 w5 hown5 hg5 hat5)
              have hb5 := below_app (hbA _) (hownA _) hg5 (by simp; omega) (Nat.le_refl _)
              rw [← hsn'.out] at hown5
              clear hownA hbA hg5 hat5 hown hb
              go_wp2
              go_roundw
              case rel => exact ⟨k + 1, _, _, by omega, by go_num, rfl, hown5, hb5⟩
              case measure => simp [intOf]; omega
            · have hsn' : Hid (csts gs X (k + 1) = vs ++ [-1]) := Lib.hid (by rw [hE.out]; simp)
              have hbx : Below wr.heap.size wr (wr.alloc (.cells #[.int .i64 1, .int .i64 a, .int .i64 b'] 41)) := (Below.refl _ _).alloc (Nat.le_refl _) _
              have e1 := cell_below d1 hbx
              have e2 := cell_below d2 hbx
              have hownA := fun q : Nat => ((hown.below hbx (.inl (Nat.le_refl _))).drewN q).alloc (.cells #[.int .i64 (-1)] 3)
              have hbA := fun q : Nat => (below_drewN (hb.alloc hz (.cells #[.int .i64 1, .int .i64 a, .int .i64 b'] 41)) q).alloc (by simp; omega) (.cells #[.int .i64 (-1)] 3)
              go_wp2_with fail
              go_quiet (fail)
              go_wp2_with (at_builtin; refine wpList_app _ rfl _ _ rfl rfl (hownA _) rfl (RI_one _ _ _ _ (by simp)) (by omega) (by first | omega | (simp; done) | (simp; omega)) ?_; intro A5 c5 w5 hown5 hg5 hat5)
              have hb5 := below_app (hbA _) (hownA _) hg5 (by simp; omega) (Nat.le_refl _)
              rw [← hsn'.out] at hown5
              clear hownA hbA hg5 hat5 hown hb
              go_wp2
              go_roundw
              case rel => exact ⟨k + 1, _, _, by omega, by go_num, rfl, hown5, hb5⟩
              case measure => simp [intOf]; omega
        | not_ hk0 a0 a1 b0 =>
          dsimp only at hk0 a0 a1 b0
          obtain ⟨a, rfl⟩ := Int.eq_ofNat_of_zero_le a0
          subst hk0
          subst b0
          obtain ⟨g, rfl, hg1, hg2, hg3⟩ := hown.some_ (by omega)
          obtain ⟨d1, _⟩ := hown.cellAt (k := a) (by omega)
          obtain ⟨u0, u1⟩ := allB_gi hvk (j := a) (by omega)
          have hE : Hid (csts gs X (k + 1) = vs ++ [if 0 ≤ gi vs a then 1 - gi vs a else -1]) := Lib.hid (by rw [hsn.out]; simp [cst])
          by_cases h1 : 0 ≤ gi vs a
          · have hsn' : Hid (csts gs X (k + 1) = vs ++ [1 - gi vs a]) := Lib.hid (by rw [hE.out]; rw [if_pos h1])
            have hbx : Below wr.heap.size wr (wr.alloc (.cells #[.int .i64 2, .int .i64 a, .int .i64 0] 41)) := (Below.refl _ _).alloc (Nat.le_refl _) _
            have e1 := cell_below d1 hbx
            have hownA := fun q : Nat => ((hown.below hbx (.inl (Nat.le_refl _))).drewN q).alloc (.cells #[.int .i64 (1 - gi vs a)] 3)
            have hbA := fun q : Nat => (below_drewN (hb.alloc hz (.cells #[.int .i64 2, .int .i64 a, .int .i64 0] 41)) q).alloc (by simp; omega) (.cells #[.int .i64 (1 - gi vs a)] 3)
            go_wp2_with (at_builtin; refine wpList_app _ rfl _ _ rfl rfl (hownA 0) rfl (RI_one _ _ _ _ (by simp)) (by omega) (by first | omega | (simp; done) | (simp; omega)) ?_; intro A5 c5 w5 hown5 hg5 hat5)
            have hb5 := below_app (hbA 0) (hownA 0) hg5 (by simp; omega) (Nat.le_refl _)
            rw [← hsn'.out] at hown5
            clear hownA hbA hg5 hat5 hown hb
            go_wp2
            go_roundw
            case rel => exact ⟨k + 1, _, _, by omega, by go_num, rfl, hown5, hb5⟩
            case measure => simp [intOf]; omega
          · have hsn' : Hid (csts gs X (k + 1) = vs ++ [-1]) := Lib.hid (by rw [hE.out]; rw [if_neg h1])
            have hbx : Below wr.heap.size wr (wr.alloc (.cells #[.int .i64 2, .int .i64 a, .int .i64 0] 41)) := (Below.refl _ _).alloc (Nat.le_refl _) _
            have e1 := cell_below d1 hbx
            have hownA := fun q : Nat => ((hown.below hbx (.inl (Nat.le_refl _))).drewN q).alloc (.cells #[.int .i64 (-1)] 3)
            have hbA := fun q : Nat => (below_drewN (hb.alloc hz (.cells #[.int .i64 2, .int .i64 a, .int .i64 0] 41)) q).alloc (by simp; omega) (.cells #[.int .i64 (-1)] 3)
            go_wp2_with (at_builtin; refine wpList_app _ rfl _ _ rfl rfl (hownA 0) rfl (RI_one _ _ _ _ (by simp)) (by omega) (by first | omega | (simp; done) | (simp; omega)) ?_; intro A5 c5 w5 hown5 hg5 hat5)
            have hb5 := below_app (hbA 0) (hownA 0) hg5 (by simp; omega) (Nat.le_refl _)
            rw [← hsn'.out] at hown5
            clear hownA hbA hg5 hat5 hown hb
            go_wp2
            go_roundw
            case rel => exact ⟨k + 1, _, _, by omega, by go_num, rfl, hown5, hb5⟩
            case measure => simp [intOf]; omega
        | one_ hk0 a0 b0 =>
          dsimp only at hk0 a0 b0
          subst hk0
          subst a0
          subst b0
          have hE : Hid (csts gs X (k + 1) = vs ++ [1]) := Lib.hid (by rw [hsn.out]; simp [cst])
          have hsn' : Hid (csts gs X (k + 1) = vs ++ [1]) := Lib.hid (by rw [hE.out])
          have hbx : Below wr.heap.size wr (wr.alloc (.cells #[.int .i64 3, .int .i64 0, .int .i64 0] 41)) := (Below.refl _ _).alloc (Nat.le_refl _) _
          have hownA := fun q : Nat => ((hown.below hbx (.inl (Nat.le_refl _))).drewN q).alloc (.cells #[.int .i64 (1)] 3)
          have hbA := fun q : Nat => (below_drewN (hb.alloc hz (.cells #[.int .i64 3, .int .i64 0, .int .i64 0] 41)) q).alloc (by simp; omega) (.cells #[.int .i64 (1)] 3)
          go_wp2_with (at_builtin; refine wpList_app _ rfl _ _ rfl rfl (hownA 0) rfl (RI_one _ _ _ _ (by simp)) (by omega) (by first | omega | (simp; done) | (simp; omega)) ?_; intro A5 c5 w5 hown5 hg5 hat5)
          have hb5 := below_app (hbA 0) (hownA 0) hg5 (by simp; omega) (Nat.le_refl _)
          rw [← hsn'.out] at hown5
          clear hownA hbA hg5 hat5 hown hb
          go_wp2
          go_roundw
          case rel => exact ⟨k + 1, _, _, by omega, by go_num, rfl, hown5, hb5⟩
          case measure => simp [intOf]; omega
      · obtain rfl : ng = k := Nat.le_antisymm (Nat.le_of_not_lt hlt) hk
        go_wp2
        go_ret2
        exact RetO.some_ hb HR.out (HL.out ng) rfl hown
end Go.Proofs.Ytcdhmcpocohbpaa
