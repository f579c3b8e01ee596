/- Contracts of makers' comparisons and choices. Contracts: spans, a circuit that is valid, a gadget. -/
import Derived.Test.YtimmjppkaadggaaQP06
namespace Go.Proofs.Ytimmjppkaadggaa
open Go.RowKit
set_option linter.unusedVariables false
set_option linter.unusedSimpArgs false
set_option maxRecDepth 100000 in
set_option maxHeartbeats 8000000 in
theorem gdPick_any (lo b : Nat) (x y : Int) (g0 : List G3) (G : Option Nat) (A B : Option Addr) (n c d : Nat) (s : Int) (us vs : List Int) (w : World) (hm : Mk w lo b x y g0 G) (ha : RM w b G A n us) (hb : RM w b G B n vs) (hx : 0 ≤ x ∧ x ≤ 20) (hy : 0 ≤ y ∧ y ≤ 20) (hg : g0.length ≤ 50000) (hn : n ≤ 100) (hlo : lo ≤ w.heap.size) :
    Calls Try.prog 85 #[.pointer (some ⟨b, 0, none⟩), .int .i64 s, .slice A n c, .slice B n d] w (RetRow lo b x y (chs (x + y) g0 s us vs n).g (chs (x + y) g0 s us vs n).o G w) := by
  have HG : Hid (∀ i, (chs (x + y) g0 s us vs i).g.length ≤ g0.length + 3 * i) := Lib.hid fun i => by have := chs_g (x + y) g0 s us vs i; omega
  have HO : Hid (∀ i, (chs (x + y) g0 s us vs i).o.length = i) := Lib.hid (chs_o (x + y) g0 s us vs)
  have H0 : Hid (chs (x + y) g0 s us vs 0 = ⟨g0, []⟩) := Lib.hid rfl
  have HS : Hid (∀ i, chs (x + y) g0 s us vs (i + 1) = ⟨(chs (x + y) g0 s us vs i).g ++ [⟨0, gi us i, gi vs i⟩] ++ [⟨1, s, x + y + (chs (x + y) g0 s us vs i).g.length⟩] ++ [⟨0, x + y + (chs (x + y) g0 s us vs i).g.length + 1, gi vs i⟩], (chs (x + y) g0 s us vs i).o ++ [x + y + (chs (x + y) g0 s us vs i).g.length + 2]⟩) := Lib.hid fun i => rfl
  generalize chs (x + y) g0 s us vs = S at *
  have hst : Mk w lo b x y (S 0).g G ∧ OM w b G w.heap.size (.slice none 0 0) 0 (S 0).o ∧ Mv b G G w w := by
    rw [H0.out]; exact ⟨hm, OM.none_ _ _ _ _, Mv.refl_ b G w⟩
  obtain ⟨hm0, ho0, hv0⟩ := hst
  go_enter Try.func85, Try.ntmps85
  go_wp2
  go_loopw [9, 16] (fun o i wr => ∃ (k : Nat) (O : Option Addr) (oc : Nat) (G1 : Option Nat), k ≤ n ∧ i = .int .i64 k ∧ o = .slice O k oc ∧ Mk wr lo b x y (S k).g G1 ∧ OM wr b G1 w.heap.size (.slice O k oc) k (S k).o ∧ Mv b G G1 w wr) (fun _ i _ => n - (intOf i).toNat)
  case atStart => exact ⟨0, _, _, _, Nat.zero_le _, rfl, rfl, hm0, ho0, hv0⟩
  case round =>
    obtain ⟨k, O, oc, G1, hk, rfl, rfl, hm1, ho1, hv1⟩ := hrel
    clear hm0 ho0 hv0
    have hz1 := hv1.size
    by_cases hlt : k < n
    · obtain ⟨ka, oa, rfl, hka, ca⟩ := ha.1.at_ hlt
      obtain ⟨kb, ob, rfl, hkb, cb⟩ := hb.1.at_ hlt
      obtain ⟨va, hva⟩ : ∃ va, Hid (gi us k = va) := ⟨_, Lib.hid rfl⟩
      obtain ⟨vb, hvb⟩ : ∃ vb, Hid (gi vs k = vb) := ⟨_, Lib.hid rfl⟩
      have hgl := HG.out k
      obtain ⟨SG, SO, hSk⟩ : ∃ SG SO, Hid (S k = ⟨SG, SO⟩) := ⟨_, _, Lib.hid rfl⟩
      have hS := Lib.hid (HS.out k)
      rw [hSk.out] at hm1 ho1 hgl
      rw [hva.out, hvb.out, hSk.out] at hS
      dsimp only at hm1 ho1 hgl hS
      obtain ⟨N, hN⟩ : ∃ N : Int, Hid (x + y + (SG.length : Int) = N) := ⟨_, Lib.hid rfl⟩
      rw [hN.out] at hS
      clear ca cb hka hkb
      obtain ⟨ca, na, hka0⟩ := ha.cellV hv1 hlt hva
      obtain ⟨cb, nb, hkb0⟩ := hb.cellV hv1 hlt hvb
      go_wp2_with fail
      refine (ciMaker_xor_v lo b x y SG G1 va vb N _ hm1 hx hy (by first | omega | (simp; omega)) (by have := hv1.size; omega) (by have := hN.out; first | omega | (simp; omega))).mono ?_
      rintro e w2 ⟨G2, rfl, hm2, hv2_⟩
      have hv2 := hv1.trans_ hv2_; have ho2 := ho1.mv hv2_; have hz2 := hv2.size; clear hv1 ho1 hm1 hv2_
      go_wp2_with fail
      refine (ciMaker_and_v lo b x y (SG ++ [⟨0, va, vb⟩]) G2 s N (N + 1) _ hm2 hx hy (by first | omega | (simp; omega)) (by have := hv2.size; omega) (by have := hN.out; first | omega | (simp; omega))).mono ?_
      rintro e w3 ⟨G3, rfl, hm3, hv3_⟩
      have hv3 := hv2.trans_ hv3_; have ho3 := ho2.mv hv3_; have hz3 := hv3.size; clear hv2 ho2 hm2 hv3_
      clear ca na hka0 cb nb hkb0
      obtain ⟨cb, nb, hkb0⟩ := hb.cellV hv3 hlt hvb
      go_wp2_with fail
      refine (ciMaker_xor_v lo b x y (SG ++ [⟨0, va, vb⟩] ++ [⟨1, s, N⟩]) G3 (N + 1) vb (N + 2) _ hm3 hx hy (by first | omega | (simp; omega)) (by have := hv3.size; omega) (by have := hN.out; first | omega | (simp; omega))).mono ?_
      rintro e w4 ⟨G4, rfl, hm4, hv4_⟩
      have hv4 := hv3.trans_ hv4_; have ho4 := ho3.mv hv4_; have hz4 := hv4.size; clear hv3 ho3 hm3 hv4_
      clear cb nb hkb0
      have hoA := ho4.alloc_ (.cells #[.int .i64 (N + 2)] 3); have hmA := hm4.alloc_ (.cells #[.int .i64 (N + 2)] 3); have hvA := hv4.alloc_ (.cells #[.int .i64 (N + 2)] 3)
      go_wp2_with (at_builtin; refine wpList_appI _ rfl _ _ rfl rfl hoA.1 rfl (RI_one _ _ _ _ (by simp)) (by omega) (by first | omega | (simp; done) | (simp; omega)) ?_; intro A5 c5 w5 hown5 hg5 hat5 hk5)
      have ho5 := hoA.app hmA hown5 hat5; have hm5 := hmA.app hoA hg5; have hv5 := hvA.app hoA hg5; have hz5 := hv5.size; clear hoA hmA hvA hown5 hg5 hat5 hk5 hv4 ho4 hm4
      have hS1 : Hid (S (k + 1) = ⟨SG ++ [⟨0, va, vb⟩] ++ [⟨1, s, N⟩] ++ [⟨0, N + 1, vb⟩], SO ++ [N + 2]⟩) := Lib.hid (by rw [hS.out])
      have hrel1 : Mk w5 lo b x y (S (k + 1)).g G4 ∧ OM w5 b G4 w.heap.size (.slice A5 (k + 1) c5) (k + 1) (S (k + 1)).o := by rw [hS1.out]; exact ⟨hm5, ho5⟩
      clear hm5 ho5 hS hS1 hSk hgl hN hva hvb
      go_wp2
      go_roundw
      case rel => exact ⟨k + 1, _, _, _, by omega, by go_num, rfl, hrel1.1, hrel1.2, hv5⟩
      case measure => simp [intOf]; omega
    · obtain rfl : n = k := Nat.le_antisymm (Nat.le_of_not_lt hlt) hk
      go_wp2
      go_ret
      exact RetRow.mk_ (HO.out n) rfl hm1 hv1 ho1
set_option maxRecDepth 100000 in
set_option maxHeartbeats 8000000 in
theorem gdEqual_any (lo b : Nat) (x y : Int) (g0 : List G3) (G : Option Nat) (A B : Option Addr) (n c d : Nat) (us vs : List Int) (w : World) (hm : Mk w lo b x y g0 G) (ha : RM w b G A n us) (hb : RM w b G B n vs) (hx : 0 ≤ x ∧ x ≤ 20) (hy : 0 ≤ y ∧ y ≤ 20) (hg : g0.length ≤ 50000) (hn : n ≤ 100) (hlo : lo ≤ w.heap.size) (hn1 : 1 ≤ n) :
    Calls Try.prog 84 #[.pointer (some ⟨b, 0, none⟩), .slice A n c, .slice B n d] w (RetW lo b x y (ands (x + y) (eqs (x + y) g0 us vs n).o (eqs (x + y) g0 us vs n).g (n - 1)).1 G (ands (x + y) (eqs (x + y) g0 us vs n).o (eqs (x + y) g0 us vs n).g (n - 1)).2 w) := by
  have HG : Hid (∀ i, (eqs (x + y) g0 us vs i).g.length ≤ g0.length + 3 * i) := Lib.hid fun i => by have := eqs_g (x + y) g0 us vs i; omega
  have HO : Hid (∀ i, (eqs (x + y) g0 us vs i).o.length = i) := Lib.hid (eqs_o (x + y) g0 us vs)
  have H0 : Hid (eqs (x + y) g0 us vs 0 = ⟨g0, []⟩) := Lib.hid rfl
  have HS : Hid (∀ i, eqs (x + y) g0 us vs (i + 1) = ⟨(eqs (x + y) g0 us vs i).g ++ [⟨0, gi us i, gi vs i⟩] ++ [⟨2, x + y + (eqs (x + y) g0 us vs i).g.length, 0⟩], (eqs (x + y) g0 us vs i).o ++ [x + y + (eqs (x + y) g0 us vs i).g.length + 1]⟩) := Lib.hid fun i => rfl
  generalize eqs (x + y) g0 us vs = S at *
  have hst : Mk w lo b x y (S 0).g G ∧ OM w b G w.heap.size (.slice none 0 0) 0 (S 0).o ∧ Mv b G G w w := by
    rw [H0.out]; exact ⟨hm, OM.none_ _ _ _ _, Mv.refl_ b G w⟩
  obtain ⟨hm0, ho0, hv0⟩ := hst
  go_enter Try.func84, Try.ntmps84
  go_wp2
  go_loopw [7, 16] (fun o i wr => ∃ (k : Nat) (O : Option Addr) (oc : Nat) (G1 : Option Nat), k ≤ n ∧ i = .int .i64 k ∧ o = .slice O k oc ∧ Mk wr lo b x y (S k).g G1 ∧ OM wr b G1 w.heap.size (.slice O k oc) k (S k).o ∧ Mv b G G1 w wr) (fun _ i _ => n - (intOf i).toNat)
  case atStart => exact ⟨0, _, _, _, Nat.zero_le _, rfl, rfl, hm0, ho0, hv0⟩
  case round =>
    obtain ⟨k, O, oc, G1, hk, rfl, rfl, hm1, ho1, hv1⟩ := hrel
    clear hm0 ho0 hv0
    have hz1 := hv1.size
    by_cases hlt : k < n
    · obtain ⟨ka, oa, rfl, hka, ca⟩ := ha.1.at_ hlt
      obtain ⟨kb, ob, rfl, hkb, cb⟩ := hb.1.at_ hlt
      obtain ⟨va, hva⟩ : ∃ va, Hid (gi us k = va) := ⟨_, Lib.hid rfl⟩
      obtain ⟨vb, hvb⟩ : ∃ vb, Hid (gi vs k = vb) := ⟨_, Lib.hid rfl⟩
      have hgl := HG.out k
      obtain ⟨SG, SO, hSk⟩ : ∃ SG SO, Hid (S k = ⟨SG, SO⟩) := ⟨_, _, Lib.hid rfl⟩
      have hS := Lib.hid (HS.out k)
      rw [hSk.out] at hm1 ho1 hgl
      rw [hva.out, hvb.out, hSk.out] at hS
      dsimp only at hm1 ho1 hgl hS
      obtain ⟨N, hN⟩ : ∃ N : Int, Hid (x + y + (SG.length : Int) = N) := ⟨_, Lib.hid rfl⟩
      rw [hN.out] at hS
      clear ca cb hka hkb
      obtain ⟨ca, na, hka0⟩ := ha.cellV hv1 hlt hva
      obtain ⟨cb, nb, hkb0⟩ := hb.cellV hv1 hlt hvb
      go_wp2_with fail
      refine (ciMaker_xor_v lo b x y SG G1 va vb N _ hm1 hx hy (by first | omega | (simp; omega)) (by have := hv1.size; omega) (by have := hN.out; first | omega | (simp; omega))).mono ?_
      rintro e w2 ⟨G2, rfl, hm2, hv2_⟩
      have hv2 := hv1.trans_ hv2_; have ho2 := ho1.mv hv2_; have hz2 := hv2.size; clear hv1 ho1 hm1 hv2_
      clear ca na hka0 cb nb hkb0
      go_wp2_with fail
      refine (ciMaker_not_v lo b x y (SG ++ [⟨0, va, vb⟩]) G2 N (N + 1) _ hm2 hx hy (by first | omega | (simp; omega)) (by have := hv2.size; omega) (by have := hN.out; first | omega | (simp; omega))).mono ?_
      rintro e w3 ⟨G3, rfl, hm3, hv3_⟩
      have hv3 := hv2.trans_ hv3_; have ho3 := ho2.mv hv3_; have hz3 := hv3.size; clear hv2 ho2 hm2 hv3_
      have hoA := ho3.alloc_ (.cells #[.int .i64 (N + 1)] 3); have hmA := hm3.alloc_ (.cells #[.int .i64 (N + 1)] 3); have hvA := hv3.alloc_ (.cells #[.int .i64 (N + 1)] 3)
      go_wp2_with (at_builtin; refine wpList_appI _ rfl _ _ rfl rfl hoA.1 rfl (RI_one _ _ _ _ (by simp)) (by omega) (by first | omega | (simp; done) | (simp; omega)) ?_; intro A5 c5 w5 hown5 hg5 hat5 hk5)
      have ho4 := hoA.app hmA hown5 hat5; have hm4 := hmA.app hoA hg5; have hv4 := hvA.app hoA hg5; have hz4 := hv4.size; clear hoA hmA hvA hown5 hg5 hat5 hk5 hv3 ho3 hm3
      have hS1 : Hid (S (k + 1) = ⟨SG ++ [⟨0, va, vb⟩] ++ [⟨2, N, 0⟩], SO ++ [N + 1]⟩) := Lib.hid (by rw [hS.out])
      have hrel1 : Mk w5 lo b x y (S (k + 1)).g G3 ∧ OM w5 b G3 w.heap.size (.slice A5 (k + 1) c5) (k + 1) (S (k + 1)).o := by rw [hS1.out]; exact ⟨hm4, ho4⟩
      clear hm4 ho4 hS hS1 hSk hgl hN hva hvb
      go_wp2
      go_roundw
      case rel => exact ⟨k + 1, _, _, _, by omega, by go_num, rfl, hrel1.1, hrel1.2, hv4⟩
      case measure => simp [intOf]; omega
    · obtain rfl : n = k := Nat.le_antisymm (Nat.le_of_not_lt hlt) hk
      have hgl := HG.out n
      have hol := HO.out n
      clear HS HG HO H0
      generalize S n = T at *
      obtain ⟨g1, es⟩ := T
      dsimp only at hm1 ho1 hgl hol
      obtain ⟨gb, rfl, hgb⟩ := ho1.1.some_ hn1
      obtain ⟨e0, he0⟩ : ∃ e0, Hid (gi es 0 = e0) := ⟨_, Lib.hid rfl⟩
      obtain ⟨c0, _⟩ := ho1.reads.cellV (Mv.refl_ b G1 wr) (i := 0) (by omega) he0
      have HT : Hid (∀ i, (ands (x + y) es g1 i).1.length = g1.length + i) := Lib.hid (ands_g (x + y) es g1)
      have HA : Hid (∀ i, ands (x + y) es g1 (i + 1) = ((ands (x + y) es g1 i).1 ++ [⟨1, (ands (x + y) es g1 i).2, gi es (i + 1)⟩], x + y + (ands (x + y) es g1 i).1.length)) := Lib.hid fun i => rfl
      have HA0 : Hid (ands (x + y) es g1 0 = (g1, e0)) := Lib.hid (by rw [← he0.out]; rfl)
      generalize ands (x + y) es g1 = F at *
      have hst : Mk wr lo b x y (F 0).1 G1 := by rw [HA0.out]; exact hm1
      have hsv : (F 0).2 = e0 := by rw [HA0.out]
      have hnn : ((n : Int) - 1).toNat = n - 1 := by omega
      have hn1' : ((n - 1 : Nat) : Int) = (n : Int) - 1 := by omega
      simp only [Nat.zero_add] at c0
      have hnc : n ≤ oc := by
        obtain ⟨A9, c9, h9, _, h8⟩ := ho1.1.form
        simp only [Value.slice.injEq, true_and] at h9
        omega
      go_wp2
      · go_loopw [11, 41] (fun v i w1 => ∃ (j : Nat) (G2 : Option Nat), j ≤ n - 1 ∧ i = .int .i64 j ∧ v = .int .i64 (F j).2 ∧ Mk w1 lo b x y (F j).1 G2 ∧ OM w1 b G2 w.heap.size (.slice (some ⟨gb, 0, none⟩) n oc) n es ∧ Mv b G G2 w w1) (fun _ i _ => n - 1 - (intOf i).toNat)
        case atStart => exact ⟨0, _, Nat.zero_le _, rfl, by rw [hsv], hst, ho1, hv1⟩
        case round =>
          obtain ⟨j, G2, hj, rfl, rfl, hm2, ho2, hv2⟩ := hrel
          clear hm1 ho1 hst hsv c0 he0 hv1
          have hz2 := hv2.size
          by_cases hjt : j < n - 1
          · exfalso; omega
          · obtain rfl : n - 1 = j := Nat.le_antisymm (Nat.le_of_not_lt hjt) hj
            go_wp2
            go_ret
            exact ⟨_, rfl, hm2, hv2⟩
      · go_loopw [11, 41] (fun v i w1 => ∃ (j : Nat) (G2 : Option Nat), j ≤ n - 1 ∧ i = .int .i64 j ∧ v = .int .i64 (F j).2 ∧ Mk w1 lo b x y (F j).1 G2 ∧ OM w1 b G2 w.heap.size (.slice (some ⟨gb, 0, none⟩) n oc) n es ∧ Mv b G G2 w w1) (fun _ i _ => n - 1 - (intOf i).toNat)
        case atStart => exact ⟨0, _, Nat.zero_le _, rfl, by rw [hsv], hst, ho1, hv1⟩
        case round =>
          obtain ⟨j, G2, hj, rfl, rfl, hm2, ho2, hv2⟩ := hrel
          clear hm1 ho1 hst hsv c0 he0 hv1
          have hz2 := hv2.size
          by_cases hjt : j < n - 1
          · obtain ⟨ej, hej⟩ : ∃ ej, Hid (gi es (j + 1) = ej) := ⟨_, Lib.hid rfl⟩
            obtain ⟨cj, _⟩ := ho2.reads.cellV (Mv.refl_ b G2 _) (i := j + 1) (by omega) hej
            have hfl := HT.out j
            obtain ⟨FG, fv, hFj⟩ : ∃ FG fv, Hid (F j = (FG, fv)) := ⟨_, _, Lib.hid rfl⟩
            have hF := Lib.hid (HA.out j)
            rw [hFj.out] at hm2 hfl ⊢
            rw [hej.out, hFj.out] at hF
            dsimp only at hm2 hfl hF ⊢
            rw [show 0 + (j + 1) = 1 + j by omega] at cj
            go_wp2_with fail
            refine (ciMaker_and_v lo b x y FG G2 fv ej (x + y + FG.length) _ hm2 hx hy (by omega) (by omega) rfl).mono ?_
            rintro e w3 ⟨G3, rfl, hm3, hv3_⟩
            have hv3 := hv2.trans_ hv3_
            have ho3 := ho2.mv hv3_
            have hz3 := hv3.size
            have hck : Hid ((F (j + 1)).2 = x + y + FG.length) := Lib.hid (by rw [hF.out])
            have hrel1 : Mk w3 lo b x y (F (j + 1)).1 G3 := by rw [hF.out]; exact hm3
            clear hm3 hm2 ho2 hv2 hv3_ hF hFj hej hfl cj
            go_wp2
            go_roundw
            case rel => exact ⟨j + 1, _, by omega, by go_num, by rw [hck.out], hrel1, ho3, hv3⟩
            case measure => simp [intOf]; omega
          · obtain rfl : n - 1 = j := Nat.le_antisymm (Nat.le_of_not_lt hjt) hj
            go_wp2
            go_ret
            exact ⟨_, rfl, hm2, hv2⟩
theorem gdRange_any (a : Int) (n : Nat) (w : World) (ha : 0 ≤ a ∧ a ≤ 1000000) (hn : n ≤ 1000000) :
    Calls Try.prog 53 #[.int .i64 a, .int .i64 n] w (RetI w (spn a n)) := by
  have HS := Lib.hid (spn_snoc a)
  have hs0 : spn a 0 = [] := rfl
  have HL := Lib.hid (spn_len a)
  obtain ⟨ha0, ha1⟩ := ha
  have hnone : Own w w.heap.size w.heap.size (.slice none 0 0) 0 (spn a 0) ∧ Below w.heap.size w w := ⟨by rw [hs0]; exact Own.none_ _ _ _, Below.refl _ _⟩
  have hsome : Own (w.alloc (.cells #[] 3)) w.heap.size (w.alloc (.cells #[] 3)).heap.size (.slice (some ⟨w.heap.size, 0, none⟩) 0 0) 0 (spn a 0) ∧ Below w.heap.size w (w.alloc (.cells #[] 3)) := ⟨by rw [hs0]; exact (Own_new0 w _ (Nat.le_refl _)).now, (Below.refl _ _).alloc (Nat.le_refl _) _⟩
  go_enter Try.func53, Try.ntmps53
  go_wp2
  go_loopw [5, 6] (fun o i wr => ∃ (k : Nat) (O : Option Addr) (oc : Nat), k ≤ n ∧ i = .int .i64 k ∧ o = .slice O k oc ∧ Own wr w.heap.size wr.heap.size (.slice O k oc) k (spn a k) ∧ Below w.heap.size w wr) (fun _ i _ => n - (intOf i).toNat)
  case atStart => exact ⟨0, _, _, Nat.zero_le _, rfl, rfl, hnone.1, hnone.2⟩
  case round =>
    obtain ⟨k, O, oc, hk, rfl, rfl, hown, hb⟩ := hrel
    clear hnone hsome
    have hz := hb.size
    by_cases hlt : k < n
    · have hsn := Lib.hid (HS.out k)
      have hoA := hown.alloc (.cells #[.int .i64 (a + k)] 3)
      have hbA := hb.alloc hz (.cells #[.int .i64 (a + k)] 3)
      go_wp2_with (at_builtin; refine wpList_appI _ rfl _ _ rfl rfl hoA rfl (RI_one _ _ _ _ (by simp)) (by omega) (by first | omega | (simp; done) | (simp; omega)) ?_; intro A5 c5 w5 hown5 hg5 hat5 hk5)
      have hb5 := below_app hbA hoA hg5 (by simp; omega) (Nat.le_refl _)
      rw [← hsn.out] at hown5
      clear hoA hbA hg5 hat5 hk5 hown hb hsn
      go_wp2
      go_roundw
      case rel => exact ⟨k + 1, _, _, by omega, by go_num, rfl, hown5, hb5⟩
      case measure => simp [intOf]; omega
    · obtain rfl : n = k := Nat.le_antisymm (Nat.le_of_not_lt hlt) hk
      go_wp2
      go_ret
      exact RetI.mk_ (HL.out n) rfl hown hb
theorem span_any (a : Int) (n : Nat) (w : World) (ha : 0 ≤ a ∧ a ≤ 1000000) (hn : n ≤ 1000000) :
    Calls Try.prog 73 #[.int .i64 a, .int .i64 n] w (RetI w (spn a n)) := by
  have HS := Lib.hid (spn_snoc a)
  have hs0 : spn a 0 = [] := rfl
  have HL := Lib.hid (spn_len a)
  obtain ⟨ha0, ha1⟩ := ha
  have hnone : Own w w.heap.size w.heap.size (.slice none 0 0) 0 (spn a 0) ∧ Below w.heap.size w w := ⟨by rw [hs0]; exact Own.none_ _ _ _, Below.refl _ _⟩
  have hsome : Own (w.alloc (.cells #[] 3)) w.heap.size (w.alloc (.cells #[] 3)).heap.size (.slice (some ⟨w.heap.size, 0, none⟩) 0 0) 0 (spn a 0) ∧ Below w.heap.size w (w.alloc (.cells #[] 3)) := ⟨by rw [hs0]; exact (Own_new0 w _ (Nat.le_refl _)).now, (Below.refl _ _).alloc (Nat.le_refl _) _⟩
  go_enter Try.func73, Try.ntmps73
  go_wp2
  go_loopw [5, 9] (fun o i wr => ∃ (k : Nat) (O : Option Addr) (oc : Nat), k ≤ n ∧ i = .int .i64 k ∧ o = .slice O k oc ∧ Own wr w.heap.size wr.heap.size (.slice O k oc) k (spn a k) ∧ Below w.heap.size w wr) (fun _ i _ => n - (intOf i).toNat)
  case atStart => exact ⟨0, _, _, Nat.zero_le _, rfl, rfl, hsome.1, hsome.2⟩
  case round =>
    obtain ⟨k, O, oc, hk, rfl, rfl, hown, hb⟩ := hrel
    clear hnone hsome
    have hz := hb.size
    by_cases hlt : k < n
    · have hsn := Lib.hid (HS.out k)
      have hoA := hown.alloc (.cells #[.int .i64 (a + k)] 3)
      have hbA := hb.alloc hz (.cells #[.int .i64 (a + k)] 3)
      go_wp2_with (at_builtin; refine wpList_appI _ rfl _ _ rfl rfl hoA rfl (RI_one _ _ _ _ (by simp)) (by omega) (by first | omega | (simp; done) | (simp; omega)) ?_; intro A5 c5 w5 hown5 hg5 hat5 hk5)
      have hb5 := below_app hbA hoA hg5 (by simp; omega) (Nat.le_refl _)
      rw [← hsn.out] at hown5
      clear hoA hbA hg5 hat5 hk5 hown hb hsn
      go_wp2
      go_roundw
      case rel => exact ⟨k + 1, _, _, by omega, by go_num, rfl, hown5, hb5⟩
      case measure => simp [intOf]; omega
    · obtain rfl : n = k := Nat.le_antisymm (Nat.le_of_not_lt hlt) hk
      go_wp2
      go_ret
      exact RetI.mk_ (HL.out n) rfl hown hb
theorem valid_t (x y : Int) (Ag : Option Addr) (ng cg : Nat) (Ao : Option Addr) (no co : Nat) (gs : List G3) (os : List Int) (w : World) (hg : RG w Ag ng gs) (ho : RI w Ao no os) (hng : ng ≤ 2097152) (hno : no ≤ 2097152) (hv : circB x y gs os = true) :
    Calls Try.prog 49 #[.agg #[.int .i64 x, .int .i64 y, .slice Ag ng cg, .slice Ao no co]] w fun e w' => e = .returned (.tuple #[.agg #[.int .i64 x, .int .i64 y, .slice Ag ng cg, .slice Ao no co], .bool true]) ∧ Below w.heap.size w w' := by
  have H0 := Lib.hid hv; clear hv
  have hB1 : Below w.heap.size w (w.alloc (.cells #[.int .i64 x, .int .i64 y, .slice Ag ng cg, .slice Ao no co] 27)) := (Below.refl _ _).alloc (Nat.le_refl _) _
  have hB : Below w.heap.size w ((w.alloc (.cells #[.int .i64 x, .int .i64 y, .slice Ag ng cg, .slice Ao no co] 27)).alloc (.cells #[.int .i64 0, .int .i64 0, .slice none 0 0, .slice none 0 0] 27)) := hB1.alloc (by simp) _
  have hx0 : BxC ((w.alloc (.cells #[.int .i64 x, .int .i64 y, .slice Ag ng cg, .slice Ao no co] 27)).alloc (.cells #[.int .i64 0, .int .i64 0, .slice none 0 0, .slice none 0 0] 27)) w.heap.size x y Ag ng cg Ao no co := (BxC.new w _).below ((Below.refl _ _).alloc (Nat.le_refl _) _)
  go_enter Try.func49, Try.ntmps49
  have hq := hx0; obtain ⟨k0, k1, k2, k3⟩ := hq
  go_wp2_with fail
  refine (IsCircuit_any x y Ag ng cg Ao no co gs os _ (hg.below hB (Nat.le_refl _)) (ho.below hB (Nat.le_refl _)) hng hno).mono ?_
  rintro e v1 ⟨rfl, hb1⟩
  rw [H0.out]
  have hx1 := hx0.below hb1
  clear k0 k1 k2 k3
  obtain ⟨k0, k1, k2, k3⟩ := hx1
  have hz1 := hb1.size
  simp only [World.size_alloc] at hz1
  have hz1' : w.heap.size + 1 < v1.heap.size := by omega
  obtain ⟨hc1, hf1⟩ := bcell hb1
  have hB2 := hB.trans (hb1.mono hB.size)
  have hr0 : BxC ((w.alloc (.cells #[.int .i64 x, .int .i64 y, .slice Ag ng cg, .slice Ao no co] 27)).alloc (.cells #[.int .i64 0, .int .i64 0, .slice none 0 0, .slice none 0 0] 27)) (w.heap.size + 1) 0 0 none 0 0 none 0 0 := by simpa using BxC.new (x := 0) (y := 0) (Ag := none) (ng := 0) (cg := 0) (Ao := none) (no := 0) (co := 0) (w.alloc (.cells #[.int .i64 x, .int .i64 y, .slice Ag ng cg, .slice Ao no co] 27)) 27
  go_wp2
  have hq9 := BxC.set4 (hr0.below hb1) x y Ag ng cg Ao no co
  obtain ⟨q0, q1, q2, q3⟩ := hq9
  refine bodyPost_ret (v := .tuple #[.agg #[.int .i64 x, .int .i64 y, .slice Ag ng cg, .slice Ao no co], .bool true]) (by simp [results, Try.results49, go_sem, q0, q1, q2, q3]) rfl ?_
  exact ⟨rfl, below_set4 hB2 (by omega) _ _ _ _ _ _ _ _⟩
end Go.Proofs.Ytimmjppkaadggaa
