/- The contract of the reference's AndsByLine. Texts below 2^21 bytes. -/
import Derived.Test.YtjjphaiomaiilaaGreatQXFs1
namespace Go.Proofs.YtjjphaiomaiilaaGreat
open Go.RowKit
set_option linter.unusedVariables false
set_option linter.unusedSimpArgs false
theorem cnt_one {gs : List G3} {k : Nat} (h : 0 ≤ (gg gs k).k ∧ (gg gs k).k ≤ 3) : gi (cntK gs (k + 1)) 1 = gi (cntK gs k) 1 + if (gg gs k).k = 1 then 1 else 0 := by
  rw [cntK]
  have hl := cntK_len gs k
  unfold gi
  simp only [List.getD_eq_getElem?_getD]
  by_cases h1 : (gg gs k).k = 1
  · rw [if_pos h1, h1]
    simp [List.getElem?_set, hl]
  · rw [if_neg h1, List.getElem?_set_ne (by omega)]
    simp
set_option maxRecDepth 100000 in
set_option maxHeartbeats 3200000 in
theorem spec_AndsByLine_any (A : Option Addr) (n c : Nat) (l : List Ln) (w : World) (ha : RLn w A n l) (hn : n ≤ 2097152) (hcap : n ≤ c) (hsh : ∀ x ∈ l, shortL x) :
    Calls Tryz.prog 23 #[.slice A n c] w (RetO w (anF l)) := by
  cases hg : coB l with
  | false =>
    have HR : Hid (anF l = none) := Lib.hid (if_neg (fun h => by rw [hg] at h; cases h))
    have H0 := Lib.hid hg
    clear hg
    go_enter Tryz.func23, Tryz.ntmps23
    go_wp2_with fail
    refine (coGood_any A n c l _ ha hn hcap hsh).mono ?_
    rintro e w1 ⟨rfl, hb1⟩
    rw [H0.out]
    go_wp2
    go_ret2
    exact RetO.none_ hb1 HR.out rfl
  | true =>
    have HR : Hid (anF l = some (andsK (cc l) l.length)) := Lib.hid (if_pos hg)
    have H0 := Lib.hid hg
    obtain ⟨hgd, hcb⟩ := coB_good hg
    obtain ⟨_, _, hng, _, hgat, _⟩ := circB_parts hcb
    have hkd := Lib.hid (kinds_of hgat)
    have hl := ha.len
    subst hl
    have hn30 := hgd.1
    have hei : Hid (EInv l.length (cc l)) := Lib.hid (cS_es l _ _ l.length)
    go_enter Tryz.func23, Tryz.ntmps23
    go_wp2_with fail
    refine (coGood_any A l.length c l _ ha hn hcap hsh).mono ?_
    rintro e w1 ⟨rfl, hb1⟩
    rw [H0.out]
    go_wp2_with fail
    refine (coMake_any A l.length c l _ (ha.below hb1 (Nat.le_refl _)) hcap hsh hgd).mono ?_
    rintro e w2 hT
    obtain ⟨B, Ag, cg, Oa, oc, Ea, ec, Wa, wc, bl, rfl, hBx, hBlt, hBlo, hC, hE, hW, hb2⟩ := RetCs.cc_ hT
    have hB2 := hb1.trans (hb2.mono hb1.size)
    have al1 : Below w2.heap.size w2 (w2.alloc (.cells #[.pointer (some ⟨B, 0, none⟩), .slice Wa l.length wc, .slice Ea l.length ec] 66)) := (Below.refl _ _).alloc (Nat.le_refl _) _
    have hB1 := hB2.trans (al1.mono hB2.size)
    have hE1 := hE.reads.below al1 (Nat.le_refl _)
    have hG1 := hC.1.reads.below al1 (Nat.le_refl _)
    have hX1 := hBx.below al1
    have m0 : (w2.alloc (.cells #[.pointer (some ⟨B, 0, none⟩), .slice Wa l.length wc, .slice Ea l.length ec] 66)).cell? ⟨w2.heap.size, 0, none⟩ = some (.pointer (some ⟨B, 0, none⟩)) := box_cell _ _ 0 _ rfl
    have hs1 : (w2.alloc (.cells #[.pointer (some ⟨B, 0, none⟩), .slice Wa l.length wc, .slice Ea l.length ec] 66)).heap.size = w2.heap.size + 1 := by simp
    have hz2 := hB2.size
    clear hT hE hW hC hBx hcb hgat hb1 hb2 hB2 al1 ha hsh hgd
    obtain ⟨ng, hgl⟩ : ∃ ng, Hid ((cc l).g.length = ng) := ⟨_, Lib.hid rfl⟩
    obtain ⟨s, hs⟩ : ∃ s, Hid (cc l = s) := ⟨_, Lib.hid rfl⟩
    rw [hs.out] at hE1 hG1 hei hkd hng hgl HR hX1
    rw [hgl.out] at hG1 hkd hng hX1
    obtain ⟨_, _, k2, _⟩ := hX1
    go_wp2_with fail
    generalize hWW : w2.alloc (.cells #[.pointer (some ⟨B, 0, none⟩), .slice Wa l.length wc, .slice Ea l.length ec] 66) = W1 at *
    clear hWW hg
    have hb0 : Below (w2.heap.size + 1) W1 W1 := Below.refl _ _
    go_loopw [5, 6, 18] (fun v f i wr => ∃ (k : Nat) (A' : Option Addr) (c' : Nat), k ≤ l.length ∧ i = .int .i64 k ∧ f = .int .i64 (endN s.es k : Nat) ∧ v = .slice A' k c' ∧ Own wr (w2.heap.size + 1) wr.heap.size (.slice A' k c') k (andsK s k) ∧ Below (w2.heap.size + 1) W1 wr) (fun _ _ i _ => l.length - (intOf i).toNat)
    case atStart => exact ⟨0, none, 0, Nat.zero_le _, rfl, rfl, rfl, Own.none_ _ _ _, hb0⟩
    case round =>
      clear hb0
      obtain ⟨k, A', c', hk, rfl, rfl, rfl, hown, hbw⟩ := hrel
      by_cases hlt : k < l.length
      · obtain ⟨b, o, rfl, hbB, c1⟩ := (hE1.below hbw (by omega)).at_ hlt
        obtain ⟨n1, n2, n3⟩ := endN_le hei.out hlt
        have hsn : Hid (andsK s (k + 1) = andsK s k ++ [andN s k]) := Lib.hid (andsK_snoc s k)
        have han : Hid (andN s k = gi (cntK (cutG s.g (endN s.es k) (endN s.es (k + 1))) (endN s.es (k + 1) - endN s.es k)) 1) := Lib.hid rfl
        rw [hgl.out] at n2
        rw [n3] at c1
        obtain ⟨a, ha⟩ : ∃ a, Hid (endN s.es k = a) := ⟨_, Lib.hid rfl⟩
        obtain ⟨d, hd⟩ : ∃ d, Hid (endN s.es (k + 1) = d) := ⟨_, Lib.hid rfl⟩
        rw [ha.out] at n1 han ⊢
        rw [hd.out] at n1 n2 han c1
        clear n3
        have hGw := hG1.below hbw (by omega)
        have hc0 : Hid (gi (cntK (cutG s.g a d) 0) 1 = 0) := Lib.hid rfl
        have hstep : Hid (∀ j, a ≤ j → j < d → gi (cntK (cutG s.g a d) (j + 1 - a)) 1 = gi (cntK (cutG s.g a d) (j - a)) 1 + if (gg s.g j).k = 1 then 1 else 0) := Lib.hid (fun j h1 h2 => by
          have he := cutG_at (gs := s.g) (a := a) (b := d) (j := j - a) (by rw [hgl.out]; exact n2) (by omega)
          rw [show a + (j - a) = j by omega] at he
          rw [show j + 1 - a = (j - a) + 1 by omega, cnt_one (by rw [he]; exact hkd.out j (by omega)), he])
        have hbd : Hid (∀ j, 0 ≤ gi (cntK (cutG s.g a d) j) 1 ∧ gi (cntK (cutG s.g a d) j) 1 ≤ j) := Lib.hid (fun j => cntK_bd _ j 1)
        have q2 := (hbw.cell (p := ⟨B, 2, none⟩) (by show B < w2.heap.size + 1; omega)).trans k2
        have q0 := (hbw.cell (p := ⟨w2.heap.size, 0, none⟩) (by show w2.heap.size < w2.heap.size + 1; omega)).trans m0
        have hz := hbw.size
        generalize hcnt : (fun j => gi (cntK (cutG s.g a d) j) 1) = C at *
        have hC : ∀ j, gi (cntK (cutG s.g a d) j) 1 = C j := fun j => by rw [← hcnt]
        simp only [hC] at hc0 hstep hbd han
        clear hcnt hC hk
        go_wp2
        go_loop [6, 9] (fun f z => ∃ j : Nat, a ≤ j ∧ j ≤ d ∧ f = .int .i64 j ∧ z = .int .i64 (C (j - a))) (fun f _ => d - (intOf f).toNat)
        case atStart => exact ⟨a, Nat.le_refl _, n1, rfl, by rw [Nat.sub_self, hc0.out]⟩
        case round =>
          obtain ⟨j, hj1, hj2, rfl, rfl⟩ := hrel
          by_cases hjd : j < d
          · have hst := hstep.out j hj1 hjd
            have hbj := hbd.out (j - a)
            obtain ⟨b2, o2, hA2, hb2, g0, _, _⟩ := hGw.at_ (k := j) (by omega)
            subst hA2
            obtain ⟨z, hz1⟩ : ∃ z, Hid (C (j - a) = z) := ⟨_, Lib.hid rfl⟩
            rw [hz1.out] at hst hbj ⊢
            by_cases hk1 : (gg s.g j).k = 1
            · rw [if_pos hk1] at hst
              rw [hk1] at g0
              have hst := Lib.hid hst
              clear hk1
              go_wp2
              go_roundw
              case rel => exact ⟨j + 1, by omega, by omega, by go_num, by rw [hst.out]⟩
              case measure => simp [intOf]; omega
            · rw [if_neg hk1, Int.add_zero] at hst
              have hst := Lib.hid hst
              go_wp2
              go_roundw
              case rel => exact ⟨j + 1, by omega, by omega, by go_num, by rw [hst.out]⟩
              case measure => simp [intOf]; omega
          · obtain rfl : j = d := by omega
            rw [← han.out]
            obtain ⟨z, hzz⟩ : ∃ z, Hid (andN s k = z) := ⟨_, Lib.hid rfl⟩
            rw [hzz.out] at hsn ⊢
            have hownA := hown.alloc (.cells #[.int .i64 z] 3)
            have hbA := hbw.alloc (by omega) (.cells #[.int .i64 z] 3)
            go_wp2_with (at_builtin; refine wpList_app _ rfl _ _ rfl rfl hownA rfl (RI_one _ _ _ _ (by simp)) (by omega) (by first | omega | (simp; done) | (simp; omega)) ?_; intro A5 c5 w5 hown5 hg5 hat5)
            have hb5 := below_app hbA hownA hg5 (by simp; omega) (by omega)
            rw [← hsn.out] at hown5
            clear hownA hbA hg5 hat5 hown hbw
            go_wp2
            go_roundw
            case rel => exact ⟨k + 1, _, _, by omega, by go_num, by rw [hd.out], rfl, hown5, hb5⟩
            case measure => simp [intOf]; omega
      · obtain hkl : l.length = k := by omega
        have hBf := hB1.trans (hbw.mono (by omega))
        rw [hkl] at HR
        go_wp2
        go_ret2
        exact RetO.some_ hBf HR.out (andsK_len _ _) rfl (hown.lo_ (by omega))
end Go.Proofs.YtjjphaiomaiilaaGreat
