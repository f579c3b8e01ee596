/- The program's row of the wires that are used. Lengths below 2^21. -/
import Derived.Test.YtikgagjoapggnaaQP20
namespace Go.Proofs.Ytikgagjoapggnaa
open Go.RowKit
set_option linter.unusedVariables false
set_option linter.unusedSimpArgs false
structure BRow (w : World) (g n : Nat) (L : List Int) : Prop where
  lt : g < w.heap.size
  at_ : ∀ j, j < n → w.cell? ⟨g, j, none⟩ = some (.bool (inL L j))
  fz : Fz w g
theorem BRow.alt {S : Nat → Prop} {w w' : World} {g n : Nat} {L : List Int} (h : BRow w g n L) (k : Alt S w w') (hs : ¬ S g) : BRow w' g n L :=
  ⟨Nat.lt_of_lt_of_le h.lt k.size, fun j hj => k.cell_ (h.at_ j hj) hs, h.fz.alt k h.lt hs⟩
theorem BRow.below {w w' : World} {g n : Nat} {L : List Int} (h : BRow w g n L) (hb : Below w.heap.size w w') : BRow w' g n L :=
  ⟨Nat.lt_of_lt_of_le h.lt hb.size, fun j hj => cell_bel (h.at_ j hj) hb, h.fz.below hb h.lt⟩
theorem BRow.put {w : World} {g n : Nat} {L : List Int} {v : Nat} (h : BRow w g n L) (hv : v < n) : BRow (w.setCell ⟨g, v, none⟩ (.bool true)) g n (putL L v) := by
  refine ⟨by simpa using h.lt, fun j hj => ?_, h.fz.set _ _⟩
  by_cases he : j = v
  · subst he
    rw [World.cell?_setCell_same _ _ _ (h.at_ j hj)]
    simp [inL, putL_mem]
  · rw [World.cell?_setCell_other _ _ _ _ (by first | (simp; done) | (simp; omega)), h.at_ j hj]
    have : ((j : Int) ∈ L) = ((j : Int) ∈ putL L v) := by
      apply propext; rw [putL_mem]
      constructor
      · exact .inr
      · rintro (h | h)
        · omega
        · exact h
    unfold inL
    simp only [this]
def RetB (w : World) (n : Nat) (U : List Int) (e : Ending) (w' : World) : Prop :=
  ∃ g, e = .returned (.slice (some ⟨g, 0, none⟩) n n) ∧ w.heap.size ≤ g ∧ BRow w' g n U ∧ Below w.heap.size w w'
theorem info_bool : (Try.prog.info? 4).map (fun i => (i.zero, i.size, i.bytes)) = some (some (.bool false), 1, 1) := by kernel_rfl
theorem BRow.made {w : World} {lo g n : Nat} (h : w.ownsRow lo 4 1 (.slice (some ⟨g, 0, none⟩) n n) n (madeCells (Value.bool false).cells (n * 1)).toList) (hg : g < w.heap.size) : BRow w g n [] := by
  refine ⟨hg, fun j hj => ?_, fun q => h.frozenAt q⟩
  rw [h.cellAt j (by omega)]
  simp [madeCells, Value.cells, inL, hj, Nat.mod_one]
set_option maxRecDepth 100000 in
set_option maxHeartbeats 1500000 in
theorem used_any (x y : Int) (Ag : Option Addr) (ng cg : Nat) (Ao : Option Addr) (no co : Nat) (gs : List G3) (os : List Int) (X : Nat) (w : World) (hr : RG w Ag ng gs ∧ RI w Ao no os) (hng : ng ≤ 3000) (hno : no ≤ 40) (hx : 0 ≤ x ∧ x ≤ 20) (hy : 0 ≤ y ∧ y ≤ 20) (hX : Hid (x + y = (X : Int))) (hgt : ∀ k : Nat, k < ng → GateIs (gg gs k) ((X : Int) + k)) (hao : allB 0 (((X + ng : Nat) : Int) - 1) os = true) :
    Calls Try.prog 43 #[.agg #[.int .i64 x, .int .i64 y, .slice Ag ng cg, .slice Ao no co]] w (RetB w (X + ng) (usedL X gs os)) := by
  obtain ⟨i0, hi, hz0, hz1, hz2⟩ := info_parts info_bool
  have hB : Below w.heap.size w (w.alloc (.cells #[.int .i64 x, .int .i64 y, .slice Ag ng cg, .slice Ao no co] 26)) := (Below.refl _ _).alloc (Nat.le_refl _) _
  have hlg := hr.1.len
  have hlo := hr.2.len
  have hs0 : (w.alloc (.cells #[.int .i64 x, .int .i64 y, .slice Ag ng cg, .slice Ao no co] 26)).heap.size = w.heap.size + 1 := by simp
  have HX0 : (X : Int) ≤ 40 := by have := hX.out; omega
  have HU : Hid (usd X gs ng (puts [] os) = usedL X gs os) := Lib.hid (by unfold usedL; rw [hlg])
  obtain ⟨U, hU⟩ : ∃ U, Hid (usedL X gs os = U) := ⟨_, Lib.hid rfl⟩
  rw [hU.out] at HU ⊢
  have HN : Hid (x + y + (ng : Int) = ((X + ng : Nat) : Int)) := Lib.hid (by have := hX.out; omega)
  have HO : ∀ k, k < no → 0 ≤ gi os k ∧ gi os k < ((X + ng : Nat) : Int) := fun k hk => by have := allB_gi hao (j := k) (by omega); omega
  clear hao
  have hb0 : BxC (w.alloc (.cells #[.int .i64 x, .int .i64 y, .slice Ag ng cg, .slice Ao no co] 26)) w.heap.size x y Ag ng cg Ao no co := BxC.new w _
  have hq := hb0; obtain ⟨k0, k1, k2, k3⟩ := hq
  go_enter Try.func43, Try.ntmps43
  go_wp2_with fail
  refine (Circuit_wires_any x y Ag ng cg Ao no co _ hx hy (by omega)).mono ?_
  rintro e v1 ⟨rfl, hb1⟩
  rw [HN.out]
  obtain ⟨N, hNe⟩ : ∃ N, N = X + ng := ⟨_, rfl⟩
  rw [← hNe] at HO ⊢
  have HNe := Lib.hid hNe
  have hN : N ≤ 3040 := by omega
  clear hNe
  have hxv := hb0.below hb1
  have hzv := hb1.size
  rw [hs0] at hzv
  have hBv := hB.trans (hb1.mono hB.size)
  clear k0 k1 k2 k3 hb0 hb1 hB hs0
  have hq := hxv; obtain ⟨k0, k1, k2, k3⟩ := hq
  go_wp2_with (at_make; refine wpList_make_full _ rfl _ _ 71 rfl v1.heap.size 4 i0 (.bool false) 1 Try.underlying71 hi hz0 hz1 _ _ _ _ N rfl rfl rfl rfl (by rw [hz2]; omega) (by unfold maxLen; omega) (Nat.le_refl _) ?_; intro w1 hown hgrow; have hb1 := below_of_grownBy hgrow; have hq := hxv.below hb1; obtain ⟨q0, q1, q2, q3⟩ := hq)
  have hR0 := BRow.made hown (hown.lt v1.heap.size (by simp [Value.ownBlock])).2
  clear hown hgrow
  clear k0 k1 k2 k3 q0 q1 q2 q3
  go_loopw [14] (fun i wr => ∃ k : Nat, k ≤ no ∧ i = .int .i64 k ∧ BRow wr v1.heap.size N (puts [] (os.take k)) ∧ Below v1.heap.size v1 wr) (fun i _ => no - (intOf i).toNat)
  case atStart => exact ⟨0, Nat.zero_le _, rfl, hR0, hb1⟩
  case round =>
    clear hR0 hb1
    obtain ⟨k, hk, rfl, hR, hb⟩ := hrel
    have hz := hb.size
    have hBr := hBv.trans (hb.mono hBv.size)
    by_cases hlt : k < no
    · obtain ⟨b, o, rfl, hbB, c1⟩ := (hr.2.below hBr (Nat.le_refl _)).at_ hlt
      have hsn : Hid (puts [] (os.take (k + 1)) = putL (puts [] (os.take k)) (gi os k)) := Lib.hid (puts_take (by omega))
      obtain ⟨o1, o2⟩ := HO k hlt
      generalize gi os k = Y at *
      obtain ⟨Z, rfl⟩ : ∃ Z : Nat, Y = Z := ⟨Y.toNat, by omega⟩
      have hZ : Z < N := by omega
      have hcZ := hR.at_ Z hZ
      have hfZ := hR.fz Z
      have hR2 := hR.put hZ
      have hb2 := hb.setCell (p := ⟨v1.heap.size, Z, none⟩) (Nat.le_refl _) (.bool true)
      rw [← hsn.out] at hR2
      clear hR hb hBr
      go_wp2
      go_roundw
      case rel => exact ⟨k + 1, by omega, by go_num, hR2, hb2⟩
      case measure => simp [intOf]; omega
    · obtain rfl : no = k := Nat.le_antisymm (Nat.le_of_not_lt hlt) hk
      have hT : Hid (puts [] (os.take no) = puts [] os) := Lib.hid (by rw [List.take_of_length_le (by omega)])
      rw [hT.out] at hR
      generalize puts [] os = L0 at *
      have hq := hxv.below hb; obtain ⟨k0, k1, k2, k3⟩ := hq
      go_wp2
      clear k0 k1 k2 k3
      go_loopw [6] (fun i wr => ∃ (k : Nat) (L : List Int), k ≤ ng ∧ i = .int .i64 ((k : Int) - 1) ∧ Hid (usd X gs k L = U) ∧ BRow wr v1.heap.size N L ∧ Below v1.heap.size v1 wr) (fun i _ => (intOf i + 1).toNat)
      case atStart => exact ⟨ng, L0, Nat.le_refl _, rfl, HU, hR, hb⟩
      case round =>
        clear hR hb hBr hz
        obtain ⟨k, L, hk, rfl, HL, hR, hb⟩ := hrel
        have hz := hb.size
        have hBr := hBv.trans (hb.mono hBv.size)
        by_cases hk0 : k = 0
        · subst hk0
          have hLU : Hid (L = U) := Lib.hid HL.out
          have h0n : ((0 : Nat) : Int) - 1 = -1 := by omega
          rw [h0n]
          clear h0n
          rw [hLU.out] at hR
          go_wp2
          go_ret
          exact ⟨v1.heap.size, by rw [← HNe.out]; rfl, by omega, by rw [← HNe.out]; exact hR, hBr⟩
        · obtain ⟨J, rfl⟩ : ∃ J, k = J + 1 := ⟨k - 1, by omega⟩
          have hiJ : ((J + 1 : Nat) : Int) - 1 = J := by omega
          rw [hiJ]
          clear hiJ hk0
          have hJ0 : (0 : Int) ≤ J := by omega
          have hJg : J < ng := by omega
          obtain ⟨bg, og, rfl, hgbl, d0, d1, d2⟩ := (hr.1.below hBr (Nat.le_refl _)).at_ (k := J) hJg
          have hgJ := hgt J hJg
          have hJn : (J : Int) < ng := by omega
          have hxr := hxv.below hb
          have hbA : Below wr.heap.size wr (wr.alloc (.cells #[.int .i64 (gg gs J).k, .int .i64 (gg gs J).a, .int .i64 (gg gs J).b] 50)) := (Below.refl _ _).alloc (Nat.le_refl _) _
          have hxA := hxr.below hbA
          have hRA := hR.below hbA
          have hgA := BxG.new (k := (gg gs J).k) (a := (gg gs J).a) (c := (gg gs J).b) wr 50
          have hsA : (wr.alloc (.cells #[.int .i64 (gg gs J).k, .int .i64 (gg gs J).a, .int .i64 (gg gs J).b] 50)).heap.size = wr.heap.size + 1 := by simp
          have hwA : IntKind.i64.wrap ((X : Int) + (J : Int)) = (X : Int) + J := IntWalk.i64_in _ (by omega)
          have hJN : X + J < N := by have := HNe.out; omega
          have hi0 : (0 : Int) ≤ (X : Int) + J := by omega
          have hi1 : (X : Int) + (J : Int) < (N : Int) := by have := HNe.out; omega
          have hti : ((X : Int) + (J : Int)).toNat = X + J := by omega
          have hq := hxr; obtain ⟨k0, k1, k2, k3⟩ := hq
          have hq := hxA; obtain ⟨t0, t1, t2, t3⟩ := hq
          have hq := hgA; obtain ⟨q0, q1, q2⟩ := hq
          obtain ⟨g, hg⟩ : ∃ g, g = gg gs J := ⟨_, rfl⟩
          have hSt : stp X gs J L = if inL L ((X : Int) + J) then puts L (prt g) else L := by rw [hg]; rfl
          rw [← hg] at hgJ hbA hxA hRA hgA hsA t0 t1 t2 t3 q0 q1 q2 d0 d1 d2
          clear hg
          obtain ⟨gk, ga, gb⟩ := g
          dsimp only at hbA hxA hRA hgA hsA t0 t1 t2 t3 q0 q1 q2 d0 d1 d2
          cases hu : inL L ((X : Int) + J) with
          | false =>
            have HS : Hid (usd X gs J L = U) := Lib.hid (by have h := HL.out; simp only [usd] at h; rwa [hSt, hu, if_neg (by simp)] at h)
            have hcu := hRA.at_ (X + J) hJN
            rw [show ((X + J : Nat) : Int) = (X : Int) + J by omega, hu] at hcu
            clear hu hSt
            have hvw := hR.lt
            go_wp2_with fail
            refine (Circuit_inputs_any x y (some ⟨bg, og, none⟩) ng cg Ao no co _ hx hy).mono ?_
            rintro e w4 ⟨rfl, hb4⟩
            rw [hX.out]
            have hR4 := hRA.below hb4
            have hg4 := hgA.below hb4
            have hz4 := hb4.size
            rw [hsA] at hz4
            have hb4v := hb.trans ((hbA.trans (hb4.mono (by omega))).mono hz)
            have hcu4 := cell_bel hcu hb4
            clear t0 t1 t2 t3 q0 q1 q2 d0 d1 d2 k0 k1 k2 k3 hbA hxA hRA hgA hsA hcu hb4 hR hb hxr
            have hq := hg4; obtain ⟨q0, q1, q2⟩ := hq
            go_wp2
            go_roundw
            case rel => exact ⟨J, L, by omega, rfl, HS, hR4, hb4v⟩
            case measure => first | (simp [intOf]; done) | (simp [intOf]; omega)
          | true =>
            have HS0 : Hid (usd X gs J (puts L (prt ⟨gk, ga, gb⟩)) = U) := Lib.hid (by have h := HL.out; simp only [usd] at h; rwa [hSt, hu, if_pos rfl] at h)
            have hcu := hRA.at_ (X + J) hJN
            rw [show ((X + J : Nat) : Int) = (X : Int) + J by omega, hu] at hcu
            clear hu hSt
            cases hgJ with
            | one_ hk' a0 b0 =>
              dsimp only at hk' a0 b0
              subst hk'
              subst a0
              subst b0
              have HS : Hid (usd X gs J L = U) := Lib.hid (by have h := HS0.out; simpa [prt, puts] using h)
              have hvw := hR.lt
              go_wp2_with fail
              refine (Circuit_inputs_any x y (some ⟨bg, og, none⟩) ng cg Ao no co _ hx hy).mono ?_
              rintro e w4 ⟨rfl, hb4⟩
              rw [hX.out]
              have hR4 := hRA.below hb4
              have hg4 := hgA.below hb4
              have hz4 := hb4.size
              rw [hsA] at hz4
              have hb4v := hb.trans ((hbA.trans (hb4.mono (by omega))).mono hz)
              have hcu4 := cell_bel hcu hb4
              clear t0 t1 t2 t3 q0 q1 q2 d0 d1 d2 k0 k1 k2 k3 hbA hxA hRA hgA hsA hcu hb4 hR hb hxr
              have hq := hg4; obtain ⟨q0, q1, q2⟩ := hq
              go_wp2
              go_roundw
              case rel => exact ⟨J, L, by omega, rfl, HS, hR4, hb4v⟩
              case measure => first | (simp [intOf]; done) | (simp [intOf]; omega)
            | not_ hk' a0 a1 b0 =>
              dsimp only at hk' a0 a1 b0
              subst hk'
              subst b0
              obtain ⟨A, rfl⟩ : ∃ A : Nat, ga = A := ⟨ga.toNat, by omega⟩
              have hAN : A < N := by have := HNe.out; omega
              have hA1 : (A : Int) < (N : Int) := by omega
              have HS : Hid (usd X gs J (putL L A) = U) := Lib.hid (by have h := HS0.out; simpa [prt, puts] using h)
              have hvw := hR.lt
              go_wp2_with fail
              refine (Circuit_inputs_any x y (some ⟨bg, og, none⟩) ng cg Ao no co _ hx hy).mono ?_
              rintro e w4 ⟨rfl, hb4⟩
              rw [hX.out]
              have hR4 := hRA.below hb4
              have hg4 := hgA.below hb4
              have hz4 := hb4.size
              rw [hsA] at hz4
              have hb4v := hb.trans ((hbA.trans (hb4.mono (by omega))).mono hz)
              have hcu4 := cell_bel hcu hb4
              clear t0 t1 t2 t3 q0 q1 q2 d0 d1 d2 k0 k1 k2 k3 hbA hxA hRA hgA hsA hcu hb4 hR hb hxr
              have hq := hg4; obtain ⟨q0, q1, q2⟩ := hq
              have cA := hR4.at_ A hAN
              have fA := hR4.fz A
              have hRp := hR4.put hAN
              have hgp := hg4.alt_ ((Alt.refl_ (fun i => i = v1.heap.size) w4).set_ ⟨v1.heap.size, A, none⟩ (.bool true) (fun _ => rfl)) (by show ¬ wr.heap.size = v1.heap.size; omega)
              have hq := hgp; obtain ⟨p0, p1, p2⟩ := hq
              have hb5 := hb4v.setCell (p := ⟨v1.heap.size, A, none⟩) (Nat.le_refl _) (.bool true)
              go_wp2
              go_roundw
              case rel => exact ⟨J, putL L A, by omega, rfl, HS, hRp, hb5⟩
              case measure => first | (simp [intOf]; done) | (simp [intOf]; omega)
            | xor_ hk' a0 a1 b0 b1 =>
              dsimp only at hk' a0 a1 b0 b1
              subst hk'
              obtain ⟨A, rfl⟩ : ∃ A : Nat, ga = A := ⟨ga.toNat, by omega⟩
              obtain ⟨B, rfl⟩ : ∃ B : Nat, gb = B := ⟨gb.toNat, by omega⟩
              have hAN : A < N := by have := HNe.out; omega
              have hBN : B < N := by have := HNe.out; omega
              have hA1 : (A : Int) < (N : Int) := by omega
              have hB1 : (B : Int) < (N : Int) := by omega
              have HS : Hid (usd X gs J (putL (putL L A) B) = U) := Lib.hid (by have h := HS0.out; simpa [prt, puts] using h)
              have hvw := hR.lt
              go_wp2_with fail
              refine (Circuit_inputs_any x y (some ⟨bg, og, none⟩) ng cg Ao no co _ hx hy).mono ?_
              rintro e w4 ⟨rfl, hb4⟩
              rw [hX.out]
              have hR4 := hRA.below hb4
              have hg4 := hgA.below hb4
              have hz4 := hb4.size
              rw [hsA] at hz4
              have hb4v := hb.trans ((hbA.trans (hb4.mono (by omega))).mono hz)
              have hcu4 := cell_bel hcu hb4
              clear t0 t1 t2 t3 q0 q1 q2 d0 d1 d2 k0 k1 k2 k3 hbA hxA hRA hgA hsA hcu hb4 hR hb hxr
              have hq := hg4; obtain ⟨q0, q1, q2⟩ := hq
              have cA := hR4.at_ A hAN
              have fA := hR4.fz A
              have hRp := hR4.put hAN
              have cB := hRp.at_ B hBN
              have fB := hRp.fz B
              have hRq := hRp.put hBN
              have hgp := hg4.alt_ ((Alt.refl_ (fun i => i = v1.heap.size) w4).set_ ⟨v1.heap.size, A, none⟩ (.bool true) (fun _ => rfl)) (by show ¬ wr.heap.size = v1.heap.size; omega)
              have hq := hgp; obtain ⟨p0, p1, p2⟩ := hq
              have hb5 := (hb4v.setCell (p := ⟨v1.heap.size, A, none⟩) (Nat.le_refl _) (.bool true)).setCell (p := ⟨v1.heap.size, B, none⟩) (Nat.le_refl _) (.bool true)
              go_wp2
              go_roundw
              case rel => exact ⟨J, putL (putL L A) B, by omega, rfl, HS, hRq, hb5⟩
              case measure => first | (simp [intOf]; done) | (simp [intOf]; omega)
            | and_ hk' a0 a1 b0 b1 =>
              dsimp only at hk' a0 a1 b0 b1
              subst hk'
              obtain ⟨A, rfl⟩ : ∃ A : Nat, ga = A := ⟨ga.toNat, by omega⟩
              obtain ⟨B, rfl⟩ : ∃ B : Nat, gb = B := ⟨gb.toNat, by omega⟩
              have hAN : A < N := by have := HNe.out; omega
              have hBN : B < N := by have := HNe.out; omega
              have hA1 : (A : Int) < (N : Int) := by omega
              have hB1 : (B : Int) < (N : Int) := by omega
              have HS : Hid (usd X gs J (putL (putL L A) B) = U) := Lib.hid (by have h := HS0.out; simpa [prt, puts] using h)
              have hvw := hR.lt
              go_wp2_with fail
              refine (Circuit_inputs_any x y (some ⟨bg, og, none⟩) ng cg Ao no co _ hx hy).mono ?_
              rintro e w4 ⟨rfl, hb4⟩
              rw [hX.out]
              have hR4 := hRA.below hb4
              have hg4 := hgA.below hb4
              have hz4 := hb4.size
              rw [hsA] at hz4
              have hb4v := hb.trans ((hbA.trans (hb4.mono (by omega))).mono hz)
              have hcu4 := cell_bel hcu hb4
              clear t0 t1 t2 t3 q0 q1 q2 d0 d1 d2 k0 k1 k2 k3 hbA hxA hRA hgA hsA hcu hb4 hR hb hxr
              have hq := hg4; obtain ⟨q0, q1, q2⟩ := hq
              have cA := hR4.at_ A hAN
              have fA := hR4.fz A
              have hRp := hR4.put hAN
              have cB := hRp.at_ B hBN
              have fB := hRp.fz B
              have hRq := hRp.put hBN
              have hgp := hg4.alt_ ((Alt.refl_ (fun i => i = v1.heap.size) w4).set_ ⟨v1.heap.size, A, none⟩ (.bool true) (fun _ => rfl)) (by show ¬ wr.heap.size = v1.heap.size; omega)
              have hq := hgp; obtain ⟨p0, p1, p2⟩ := hq
              have hb5 := (hb4v.setCell (p := ⟨v1.heap.size, A, none⟩) (Nat.le_refl _) (.bool true)).setCell (p := ⟨v1.heap.size, B, none⟩) (Nat.le_refl _) (.bool true)
              go_wp2
              go_roundw
              case rel => exact ⟨J, putL (putL L A) B, by omega, rfl, HS, hRq, hb5⟩
              case measure => first | (simp [intOf]; done) | (simp [intOf]; omega)
end Go.Proofs.Ytikgagjoapggnaa
