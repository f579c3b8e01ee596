/- The reference's list of the wires that are used. Lengths below 2^21. -/
import Derived.Test.YtikgagjoapggnaaQP16
namespace Go.Proofs.Ytikgagjoapggnaa
open Go.RowKit
set_option linter.unusedVariables false
set_option linter.unusedSimpArgs false
theorem BxG.alt_ {S : Nat → Prop} {w w' : World} {b : Nat} {k a c : Int} (h : BxG w b k a c) (ka : Alt S w w') (hs : ¬ S b) : BxG w' b k a c := ⟨ka.cell_ h.1 hs, ka.cell_ h.2.1 hs, ka.cell_ h.2.2 hs⟩
theorem inL_no {l : List Int} {v : Int} {n : Nat} (hn : l.length ≤ n) (h : ∀ j, j < n → gi l j ≠ v) : inL l v = false := by
  unfold inL
  simp only [decide_eq_false_iff_not]
  intro hc
  obtain ⟨j, hj, he⟩ := List.getElem_of_mem hc
  refine h j (by omega) ?_
  unfold gi
  rw [List.getD_eq_getElem?_getD, List.getElem?_eq_getElem hj, he]; rfl
theorem inL_yes {l : List Int} {v : Int} {j : Nat} (hj : j < l.length) (h : gi l j = v) : inL l v = true := by
  unfold inL
  simp only [decide_eq_true_eq]
  have := gi_mem hj
  rwa [h] at this
theorem l1Has_any (A : Option Addr) (n c : Nat) (xs : List Int) (v : Int) (w : World) (ha : RI w A n xs) (hn : n ≤ 2097152) :
    Calls Try.prog 78 #[.slice A n c, .int .i64 v] w fun e w' => e = .returned (.bool (inL xs v)) ∧ w = w' := by
  have hl := ha.len
  go_enter Try.func78, Try.ntmps78
  go_wp2
  go_loop [9] (fun i => ∃ k : Nat, k ≤ n ∧ i = .int .i64 k ∧ Hid (∀ j, j < k → gi xs j ≠ v)) (fun i => n - (intOf i).toNat)
  case atStart => exact ⟨0, Nat.zero_le _, rfl, Lib.hid (fun j hj => by omega)⟩
  case round =>
    obtain ⟨k, hk, rfl, hq⟩ := hrel
    by_cases hlt : k < n
    · obtain ⟨b, o, rfl, hbB, c1⟩ := ha.at_ hlt
      clear ha
      by_cases he : gi xs k = v
      · have HR : Hid (inL xs v = true) := Lib.hid (inL_yes (by omega) he)
        rw [he] at c1
        clear he
        have hee : (v == v) = true := by simp
        go_wp2
        go_ret
        exact ⟨by rw [HR.out]; rfl, rfl⟩
      · have hq' : Hid (∀ j, j < k + 1 → gi xs j ≠ v) := Lib.hid fun j hj => by
          rcases Nat.lt_or_ge j k with h | h
          · exact hq.out j h
          · obtain rfl : j = k := by omega
            exact he
        have hee : (gi xs k == v) = false := by simpa using he
        clear he
        generalize gi xs k = Y at *
        go_wp2
        go_round
        case rel => exact ⟨k + 1, by omega, by go_num, hq'⟩
        case measure => simp [intOf]; omega
    · obtain rfl : k = n := Nat.le_antisymm hk (Nat.le_of_not_lt hlt)
      have HR : Hid (inL xs v = false) := Lib.hid (inL_no (by omega) hq.out)
      go_wp2
      go_ret
      exact ⟨by rw [HR.out]; rfl, rfl⟩
theorem ciParts_any (g : G3) (n : Int) (hg : GateIs g n) (w : World) :
    Calls Try.prog 88 #[.agg #[.int .i64 g.k, .int .i64 g.a, .int .i64 g.b]] w fun e w' => ∃ A c, e = .returned (.slice A (prt g).length c) ∧ RI w' A (prt g).length (prt g) ∧ Below w.heap.size w w' := by
  have hB : Below w.heap.size w (w.alloc (.cells #[.int .i64 g.k, .int .i64 g.a, .int .i64 g.b] 50)) := (Below.refl _ _).alloc (Nat.le_refl _) _
  have hq := BxG.new (k := g.k) (a := g.a) (c := g.b) w 50
  obtain ⟨gk, ga, gb⟩ := g
  dsimp only at hq hB
  obtain ⟨q0, q1, q2⟩ := hq
  cases hg with
  | xor_ hk a0 a1 b0 b1 =>
    dsimp only at hk; subst hk
    have HP : Hid (prt ⟨0, ga, gb⟩ = [ga, gb]) := Lib.hid (by simp [prt])
    rw [HP.out]
    clear a0 a1 b0 b1
    go_enter Try.func88, Try.ntmps88
    go_wp2
    go_ret
    exact ⟨_, _, rfl, by simpa using RI_new2 (w.alloc (.cells #[.int .i64 0, .int .i64 ga, .int .i64 gb] 50)) ga gb _, hB.alloc (by simp) _⟩
  | and_ hk a0 a1 b0 b1 =>
    dsimp only at hk; subst hk
    have HP : Hid (prt ⟨1, ga, gb⟩ = [ga, gb]) := Lib.hid (by simp [prt])
    rw [HP.out]
    clear a0 a1 b0 b1
    go_enter Try.func88, Try.ntmps88
    go_wp2
    go_ret
    exact ⟨_, _, rfl, by simpa using RI_new2 (w.alloc (.cells #[.int .i64 1, .int .i64 ga, .int .i64 gb] 50)) ga gb _, hB.alloc (by simp) _⟩
  | not_ hk a0 a1 b0 =>
    dsimp only at hk b0; subst hk; subst b0
    have HP : Hid (prt ⟨2, ga, 0⟩ = [ga]) := Lib.hid (by simp [prt])
    rw [HP.out]
    clear a0 a1
    go_enter Try.func88, Try.ntmps88
    go_wp2
    go_ret
    exact ⟨_, _, rfl, by simpa using RI_new1 (w.alloc (.cells #[.int .i64 2, .int .i64 ga, .int .i64 0] 50)) ga _, hB.alloc (by simp) _⟩
  | one_ hk a0 b0 =>
    dsimp only at hk a0 b0; subst hk; subst a0; subst b0
    have HP : Hid (prt ⟨3, 0, 0⟩ = []) := Lib.hid (by simp [prt])
    rw [HP.out]
    go_enter Try.func88, Try.ntmps88
    go_wp2
    go_ret
    exact ⟨_, _, rfl, RI_nil _ _, hB⟩
theorem puts_take {l xs : List Int} {k : Nat} (h : k < xs.length) : puts l (xs.take (k + 1)) = putL (puts l (xs.take k)) (gi xs k) := by
  have e : xs.take (k + 1) = xs.take k ++ [gi xs k] := by
    rw [List.take_succ_eq_append_getElem h]
    congr 2
    unfold gi; rw [List.getD_eq_getElem?_getD, List.getElem?_eq_getElem h]; rfl
  rw [e, puts_snoc]
theorem stp_yes {X : Nat} {gs : List G3} {k : Nat} {L : List Int} (h : inL L ((X : Int) + k) = true) : stp X gs k L = puts L (prt (gg gs k)) := by unfold stp; rw [if_pos h]
theorem stp_no {X : Nat} {gs : List G3} {k : Nat} {L : List Int} (h : inL L ((X : Int) + k) = false) : stp X gs k L = L := by unfold stp; rw [if_neg (by simp [h])]
set_option maxRecDepth 100000 in
set_option maxHeartbeats 1500000 in
theorem ciUsed_any (x y : Int) (Ag : Option Addr) (ng cg : Nat) (Ao : Option Addr) (no co : Nat) (gs : List G3) (os : List Int) (X : Nat) (w : World) (hr : RG w Ag ng gs ∧ RI w Ao no os) (hng : ng ≤ 3000) (hno : no ≤ 40) (hx : 0 ≤ x ∧ x ≤ 20) (hy : 0 ≤ y ∧ y ≤ 20) (hX : Hid (x + y = (X : Int))) (hgt : ∀ k : Nat, k < ng → GateIs (gg gs k) ((X : Int) + k)) :
    Calls Try.prog 76 #[.agg #[.int .i64 x, .int .i64 y, .slice Ag ng cg, .slice Ao no co]] w (RetI w (usedL X gs os)) := by
  have hB : Below w.heap.size w (w.alloc (.cells #[.int .i64 x, .int .i64 y, .slice Ag ng cg, .slice Ao no co] 26)) := (Below.refl _ _).alloc (Nat.le_refl _) _
  have hlg := hr.1.len
  have hlo := hr.2.len
  have hs0 : (w.alloc (.cells #[.int .i64 x, .int .i64 y, .slice Ag ng cg, .slice Ao no co] 26)).heap.size = w.heap.size + 1 := by simp
  have HX0 : (X : Int) ≤ 40 := by have := hX.out; omega
  have HU : Hid (usd X gs ng (puts [] os) = usedL X gs os) := Lib.hid (by unfold usedL; rw [hlg])
  obtain ⟨U, hU⟩ : ∃ U, Hid (usedL X gs os = U) := ⟨_, Lib.hid rfl⟩
  rw [hU.out] at HU ⊢
  have hb0 : BxC (w.alloc (.cells #[.int .i64 x, .int .i64 y, .slice Ag ng cg, .slice Ao no co] 26)) w.heap.size x y Ag ng cg Ao no co := BxC.new w _
  have hq := hb0; obtain ⟨k0, k1, k2, k3⟩ := hq
  go_enter Try.func76, Try.ntmps76
  go_wp2
  clear k0 k1 k2 k3 hb0
  go_loopw [3, 12] (fun v i wr => ∃ (k : Nat) (A' : Option Addr) (c' : Nat), k ≤ no ∧ i = .int .i64 k ∧ v = .slice A' (puts [] (os.take k)).length c' ∧ Own wr (w.heap.size + 1) wr.heap.size (.slice A' (puts [] (os.take k)).length c') (puts [] (os.take k)).length (puts [] (os.take k)) ∧ Below (w.heap.size + 1) (w.alloc (.cells #[.int .i64 x, .int .i64 y, .slice Ag ng cg, .slice Ao no co] 26)) wr) (fun _ i _ => no - (intOf i).toNat)
  case atStart => exact ⟨0, _, _, Nat.zero_le _, rfl, rfl, Own.none_ _ _ _, Below.refl _ _⟩
  case round =>
    obtain ⟨k, A', c', hk, rfl, rfl, hown, hb⟩ := hrel
    have hz := hb.size
    rw [hs0] at hz
    have hBr := hB.trans (hb.mono (by omega))
    by_cases hlt : k < no
    · obtain ⟨b, o, rfl, hbB, c1⟩ := (hr.2.below hBr (Nat.le_refl _)).at_ hlt
      have hsn : Hid (puts [] (os.take (k + 1)) = putL (puts [] (os.take k)) (gi os k)) := Lib.hid (puts_take (by omega))
      have hLl := puts_le [] (os.take k)
      simp only [List.length_take, List.length_nil] at hLl
      generalize gi os k = Y at *
      generalize puts [] (os.take k) = L at *
      go_wp2_with fail
      refine (l1Put_any A' L.length c' _ _ L Y _ hown hz (by omega)).mono ?_
      rintro e w5 ⟨A5, c5, rfl, hown5, hb5⟩
      rw [← hsn.out] at hown5 ⊢
      have hb6 := hb.trans (hb5.mono hz)
      clear hown hb hb5 c1
      go_wp2
      go_roundw
      case rel => exact ⟨k + 1, A5, c5, by omega, by go_num, rfl, hown5, hb6⟩
      case measure => simp [intOf]; omega
    · obtain rfl : no = k := Nat.le_antisymm (Nat.le_of_not_lt hlt) hk
      have hT : Hid (puts [] (os.take no) = puts [] os) := Lib.hid (by rw [List.take_of_length_le (by omega)])
      have hLl := puts_le [] os
      simp only [List.length_nil] at hLl
      rw [hT.out] at hown ⊢
      generalize puts [] os = L0 at *
      have hq := (BxC.new w _).bel hb (Nat.lt_succ_self _); obtain ⟨k0, k1, k2, k3⟩ := hq
      go_wp2_with fail
      clear k0 k1 k2 k3
      go_loopw [3, 6] (fun v i wr => ∃ (k : Nat) (L : List Int) (A' : Option Addr) (c' : Nat), k ≤ ng ∧ i = .int .i64 ((k : Int) - 1) ∧ v = .slice A' L.length c' ∧ Hid (usd X gs k L = U) ∧ L.length ≤ 40 + 2 * (ng - k) ∧ Own wr (w.heap.size + 1) wr.heap.size (.slice A' L.length c') L.length L ∧ Below (w.heap.size + 1) (w.alloc (.cells #[.int .i64 x, .int .i64 y, .slice Ag ng cg, .slice Ao no co] 26)) wr) (fun _ i _ => (intOf i + 1).toNat)
      case atStart => exact ⟨ng, L0, _, _, Nat.le_refl _, rfl, rfl, HU, by omega, hown, hb⟩
      case round =>
        clear hown hb hBr hz
        obtain ⟨k, L, A', c', hk, rfl, rfl, HL, hLn, hown, hb⟩ := hrel
        have hz := hb.size
        rw [hs0] at hz
        have hBr := hB.trans (hb.mono (by omega))
        by_cases hk0 : k = 0
        · subst hk0
          have hLU : Hid (L = U) := Lib.hid HL.out
          have h0n : ((0 : Nat) : Int) - 1 = -1 := by omega
          rw [h0n]
          clear h0n
          rw [hLU.out] at hown ⊢
          go_wp2
          go_ret
          exact RetI.mk_ rfl rfl (hown.lo_ (by omega)) hBr
        · obtain ⟨J, rfl⟩ : ∃ J, k = J + 1 := ⟨k - 1, by omega⟩
          have hiJ : ((J + 1 : Nat) : Int) - 1 = J := by omega
          rw [hiJ]
          clear hiJ hk0
          have hJ0 : (0 : Int) ≤ J := by omega
          obtain ⟨bg, og, rfl, hgbl, d0, d1, d2⟩ := (hr.1.below hBr (Nat.le_refl _)).at_ (k := J) (by omega)
          have hgJ := hgt J (by omega)
          have hJn : (J : Int) < ng := by omega
          have hq := (BxC.new w _).bel hb (Nat.lt_succ_self _); obtain ⟨k0, k1, k2, k3⟩ := hq
          cases hu : inL L ((X : Int) + J) with
          | false =>
            have HS : Hid (usd X gs J L = U) := Lib.hid (by have h := HL.out; simp only [usd] at h; rwa [stp_no hu] at h)
            have HI := Lib.hid hu; clear hu
            go_wp2_with fail
            refine (ciInputs_any x y (some ⟨bg, og, none⟩) ng cg Ao no co _ hx hy).mono ?_
            rintro e w4 ⟨rfl, hb4⟩
            rw [hX.out]
            have hown4 := (hown.below hb4 (.inl (Nat.le_refl _))).now
            have hbb4 := hb.trans (hb4.mono hz)
            clear hown hb hb4 k0 k1 k2 k3 d0 d1 d2
            go_wp2_with fail
            refine (l1Has_any A' L.length c' L ((X : Int) + J) _ hown4.reads (by omega)).mono ?_
            rintro e w5 ⟨rfl, rfl⟩
            rw [HI.out]
            go_wp2
            go_roundw
            case rel => exact ⟨J, L, A', c', by omega, rfl, rfl, HS, by omega, hown4, hbb4⟩
            case measure => first | (simp [intOf]; done) | (simp [intOf]; omega)
          | true =>
            have HS : Hid (usd X gs J (puts L (prt (gg gs J))) = U) := Lib.hid (by have h := HL.out; simp only [usd] at h; rwa [stp_yes hu] at h)
            have HI := Lib.hid hu; clear hu
            have hpl := prt_le (gg gs J)
            go_wp2_with fail
            refine (ciInputs_any x y (some ⟨bg, og, none⟩) ng cg Ao no co _ hx hy).mono ?_
            rintro e w4 ⟨rfl, hb4⟩
            rw [hX.out]
            have hown4 := (hown.below hb4 (.inl (Nat.le_refl _))).now
            have hbb4 := hb.trans (hb4.mono hz)
            have hz4 := hb4.size
            have hBr4 := hBr.trans (hb4.mono hBr.size)
            clear hown hb k0 k1 k2 k3 d0 d1 d2
            have hq := (BxC.new w _).bel hbb4 (Nat.lt_succ_self _); obtain ⟨k0, k1, k2, k3⟩ := hq
            obtain ⟨bg', og', hAe, hgbl', d0, d1, d2⟩ := (hr.1.below hBr4 (Nat.le_refl _)).at_ (k := J) (by omega)
            injection hAe with hAe
            injection hAe with g1 g2
            subst g1; subst g2
            go_wp2_with fail
            refine (l1Has_any A' L.length c' L ((X : Int) + J) _ hown4.reads (by omega)).mono ?_
            rintro e w5 ⟨rfl, rfl⟩
            rw [HI.out]
            go_wp2_with fail
            refine (ciParts_any (gg gs J) _ hgJ _).mono ?_
            rintro e w6 ⟨Ap, cp, rfl, hp6, hb6⟩
            have hown6 := (hown4.below hb6 (.inl (Nat.le_refl _))).now
            have hz6 := hb6.size
            have hbb6 := hbb4.trans (hb6.mono (by omega))
            clear k0 k1 k2 k3 d0 d1 d2 hown4 hbb4 hb6 hb4
            generalize prt (gg gs J) = P at *
            go_wp2_with fail
            go_loopw [3, 41] (fun v i wr => ∃ (m : Nat) (A' : Option Addr) (c' : Nat), m ≤ P.length ∧ i = .int .i64 m ∧ v = .slice A' (puts L (P.take m)).length c' ∧ Own wr (w.heap.size + 1) wr.heap.size (.slice A' (puts L (P.take m)).length c') (puts L (P.take m)).length (puts L (P.take m)) ∧ Below w6.heap.size w6 wr) (fun _ i _ => P.length - (intOf i).toNat)
            case atStart => exact ⟨0, _, _, Nat.zero_le _, rfl, rfl, hown6, Below.refl _ _⟩
            case round =>
              obtain ⟨m, A2, c2, hm, rfl, rfl, hown, hb⟩ := hrel
              clear hown6
              have hzm := hb.size
              have hLl := puts_le L (P.take m)
              simp only [List.length_take] at hLl
              by_cases hltm : m < P.length
              · obtain ⟨b', o', rfl, hbB', e1⟩ := (hp6.below hb (Nat.le_refl _)).at_ hltm
                have hsn : Hid (puts L (P.take (m + 1)) = putL (puts L (P.take m)) (gi P m)) := Lib.hid (puts_take hltm)
                generalize gi P m = Y at *
                generalize puts L (P.take m) = L2 at *
                go_wp2_with fail
                refine (l1Put_any A2 L2.length c2 _ _ L2 Y _ hown (by omega) (by omega)).mono ?_
                rintro e w7 ⟨A5, c5, rfl, hown5, hb5⟩
                rw [← hsn.out] at hown5 ⊢
                have hb7 := hb.trans (hb5.mono hzm)
                clear hown hb hb5 e1
                go_wp2
                go_roundw
                case rel => exact ⟨m + 1, A5, c5, by omega, by go_num, rfl, hown5, hb7⟩
                case measure => simp [intOf]; omega
              · obtain rfl : m = P.length := Nat.le_antisymm hm (Nat.le_of_not_lt hltm)
                have hT2 : Hid (puts L (P.take P.length) = puts L P) := Lib.hid (by rw [List.take_length])
                rw [hT2.out] at hown hLl ⊢
                have hbz := hbb6.trans (hb.mono (by omega))
                clear hbb6 hb
                go_wp2
                go_roundw
                case rel => exact ⟨J, puts L P, A2, c2, by omega, rfl, rfl, HS, by omega, hown, hbz⟩
                case measure => first | (simp [intOf]; done) | (simp [intOf]; omega)
end Go.Proofs.Ytikgagjoapggnaa
