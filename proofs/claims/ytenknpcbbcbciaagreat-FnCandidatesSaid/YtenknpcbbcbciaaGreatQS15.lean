/- Operations of two numbers, the reference's coTwo, part a. -/
import Derived.Test.YtenknpcbbcbciaaGreatQS13
namespace Go.Proofs.YtenknpcbbcbciaaGreat
open Go.RowKit
set_option linter.unusedVariables false
set_option linter.unusedSimpArgs false
variable {Qo : OQ}
set_option maxRecDepth 100000 in
set_option maxHeartbeats 4000000 in
theorem gdTimesQ_any (lo b : Nat) (x y : Int) (g0 : List G3) (G : Option Nat) (A B : Option Addr) (n c d : Nat) (us vs : List Int) (w : World) (hm : MkQ Qo w lo b x y g0 G) (ha : RM w b G A n us) (hb : RM w b G B n vs) (hx : 0 ≤ x ∧ x ≤ 20) (hy : 0 ≤ y ∧ y ≤ 20) (hg : g0.length ≤ 40000) (hn : n ≤ 8) (hn1 : 1 ≤ n) (hlo : lo ≤ w.heap.size) :
 Calls Tryz.prog 144 #[.pointer (some ⟨b, 0, none⟩), .slice A n c, .slice B n d] w (RetRowQ Qo lo b x y (prodS (x + y) g0 us vs n n).g (prodS (x + y) g0 us vs n n).o G w) := by
 have HG : Hid (∀ i, (prodS (x + y) g0 us vs n i).g.length ≤ g0.length + 50 * i) := zH (prodS_g (x + y) g0 us vs n hn)
 have HO : Hid (∀ i, (prodS (x + y) g0 us vs n (i + 1)).o.length = if i = 0 then n else i + n + 1) := zH (prodS_o (x + y) g0 us vs n hn1)
 have H0 : Hid (prodS (x + y) g0 us vs n 0 = ⟨g0, []⟩) := zH rfl
 have HS : Hid (∀ i, prodS (x + y) g0 us vs n (i + 1) = prodStep (x + y) us vs n i (prodS (x + y) g0 us vs n i)) := zH fun i => rfl
 generalize prodS (x + y) g0 us vs n = P at *
 have hst : MkQ Qo w lo b x y (P 0).g G ∧ TSt w b G w.heap.size n 0 (.slice none 0 0) (.slice none 0 0) (P 0).o ∧ Mv b G G w w := by
  rw [H0.out]; exact ⟨hm, .inl ⟨rfl, rfl, rfl⟩, Mv.refl_ b G w⟩
 obtain ⟨hm0, ho0, hv0⟩ := hst
 go_enter Tryz.func144, Tryz.ntmps144
 go_wp2
 go_loopw [7, 8, 17] (fun vo vs i wr => ∃ (k : Nat) (G1 : Option Nat), k ≤ n ∧ i = .int .i64 k ∧ MkQ Qo wr lo b x y (P k).g G1 ∧ TSt wr b G1 w.heap.size n k vo vs (P k).o ∧ Mv b G G1 w wr) (fun _ _ i _ => n - (intOf i).toNat)
 case atStart => exact ⟨0, _, Nat.zero_le _, rfl, hm0, ho0, hv0⟩
 case round =>
  obtain ⟨k, G1, hk, rfl, hm1, hT1, hv1⟩ := hrel
  clear hm0 ho0 hv0
  have hz1 := hv1.size
  by_cases hlt : k < n
  ·obtain ⟨ka, oa, rfl, hka, ca⟩ := ha.1.at_ (k := 0) (by omega)
   obtain ⟨kb, ob, rfl, hkb, cb⟩ := hb.1.at_ hlt
   clear hka ca hkb cb
   obtain ⟨vk, hvk⟩ := lT (gi vs k)
   obtain ⟨cb, nb, hkb0⟩ := hb.cellV hv1 hlt hvk
   have hgl := HG.out k
   have hS := zH (HS.out k)
   obtain ⟨SG, SO, hSk⟩ : ∃ SG SO, Hid (P k = ⟨SG, SO⟩) := ⟨_, _, zH rfl⟩
   rw [hSk.out] at hm1 hT1 hgl
   rw [hSk.out] at hS
   dsimp only at hm1 hT1 hgl
   rcases hT1 with ⟨h0, rfl, rfl⟩ | ⟨h0, g, oc, rfl, rfl, hro⟩ | ⟨h0, OA, oc, SA, sc, rfl, rfl, hro, hrs⟩
   ·have hz0 : ((k : Int) == 0) = true := by simp [h0]
    have hz1' : ((k : Int) == 1) = false := by simp; omega
    obtain ⟨Rn, hRn⟩ := lT (rowG (x + y) vk us SG n)
    have hS1 : Hid (P (k + 1) = Rn) := zH (by rw [hS.out]; unfold prodStep; rw [if_pos h0, hvk.out, hRn.out])
    have hkk := zH h0
    clear h0 hS
    obtain ⟨LO, hLO⟩ : ∃ LO, Hid (LO = wr.heap.size) := ⟨_, zH rfl⟩
    have hoo := OM.none_ wr b G1 LO
    have hLw : w.heap.size ≤ LO := by have := hLO.out; omega
    have hLe : LO ≤ wr.heap.size := by have := hLO.out; omega
    have HR : Hid (∀ j, (rowG (x + y) vk us SG j).g.length = (SG).length + j) := zH (row_g (x + y) vk us SG)
    have HQ : Hid (∀ j, rowG (x + y) vk us SG (j + 1) = ⟨(rowG (x + y) vk us SG j).g ++ [⟨1, gi us j, vk⟩], (rowG (x + y) vk us SG j).o ++ [x + y + (rowG (x + y) vk us SG j).g.length]⟩) := zH fun j => rfl
    have HP : Hid (rowG (x + y) vk us SG 0 = ⟨SG, []⟩) := zH rfl
    have HN : Hid (rowG (x + y) vk us SG n = Rn) := hRn
    obtain ⟨F, hF⟩ := lT (rowG (x + y) vk us SG)
    rw [hF.out] at HR HQ HP HN
    have hs0 : MkQ Qo wr lo b x y (F 0).g G1 ∧ OM wr b G1 (LO) (.slice none 0 0) 0 (F 0).o := by rw [HP.out]; exact ⟨hm1, hoo⟩
    clear HP hF
    go_wp2
    go_loopw [12, 34] (fun r i w3 => ∃ (j : Nat) (R : Option Addr) (rc : Nat) (G3_ : Option Nat), j ≤ n ∧ i = .int .i64 j ∧ r = .slice R j rc ∧ MkQ Qo w3 lo b x y (F j).g G3_ ∧ OM w3 b G3_ (LO) (.slice R j rc) j (F j).o ∧ Mv b G G3_ w w3 ∧ LO ≤ w3.heap.size) (fun _ i _ => n - (intOf i).toNat)
    case atStart => exact ⟨0, _, _, _, Nat.zero_le _, rfl, rfl, hs0.1, hs0.2, hv1, hLe⟩
    case round =>
     obtain ⟨j, R, rc, G3_, hj, rfl, rfl, hm3, ho3, hv3, hl3⟩ := hrel
     clear hs0
     have hz3 := hv3.size
     by_cases hjn : j < n
     ·obtain ⟨uj, huj⟩ := lT (gi us j)
      obtain ⟨ca, na, hka0⟩ := ha.cellV hv3 hjn huj
      have hgl := HR.out j
      obtain ⟨FG, FO, hFj⟩ : ∃ FG FO, Hid (F j = ⟨FG, FO⟩) := ⟨_, _, zH rfl⟩
      have hS := zH (HQ.out j)
      rw [hFj.out] at hm3 ho3 hgl
      rw [huj.out, hFj.out] at hS
      dsimp only at hm3 ho3 hgl hS
      obtain ⟨N, hN⟩ := lT (x + y + (FG.length : Int))
      rw [hN.out] at hS
      go_wp2_with fail
      refine (Zba lo b x y FG G3_ uj vk N _ hm3 hx hy (by omega) (by omega) hN.out).mono ?_
      rintro e w4 ⟨G4, rfl, hm4, hv4_⟩
      have hv4 := hv3.trans_ hv4_; have ho4 := ho3.mv hv4_; have hz4 := hv4.size; have hl4 := Nat.le_trans hl3 hv4_.size
      clear hm3 ho3 hv3 hv4_ ca na hka0
      have hoA := ho4.alloc_ (.cells #[.int .i64 N] 3); have hmA := hm4.alloc_ (.cells #[.int .i64 N] 3); have hvA := hv4.alloc_ (.cells #[.int .i64 N] 3)
      go_wp2_with (at_builtin; refine Zae _ rfl _ _ rfl rfl hoA.1 rfl (Zaj _ _ _ _ (by simp)) (by omega) oM ?_; intro A5 c5 w5 hown5 hg5 hat5 hk5)
      have ho5 := hoA.appQ hmA hown5 hat5; have hm5 := hmA.app hoA hg5
      have hv5 := hvA.grown_ hg5 (fun g hc => by have := (hoA.1.lt g hc).1; omega)
      have hl5 : LO ≤ w5.heap.size := by have := hg5.size; simp at this; omega
      have hrel1 : MkQ Qo w5 lo b x y (F (j + 1)).g G4 ∧ OM w5 b G4 (LO) (.slice A5 (j + 1) c5) (j + 1) (F (j + 1)).o := by rw [hS.out]; exact ⟨hm5, ho5⟩
      clear hm5 ho5 hS hFj hgl hN huj hoA hmA hvA hown5 hg5 hat5 hk5 hm4 ho4 hv4
      go_wp2
      go_roundw
      case rel => exact ⟨j + 1, _, _, _, by omega, by go_num, rfl, hrel1.1, hrel1.2, hv5, hl5⟩
      case measure => simp [intOf]; omega
     ·obtain rfl : n = j := Nat.le_antisymm (Nat.le_of_not_lt hjn) hj
      rw [HN.out] at hm3 ho3
      have hgR := HR.out n
      rw [HN.out] at hgR
      obtain ⟨g, rfl, hg1, hg2, hg3⟩ := ho3.1.some_ hn1
      have hmc : n ≤ rc := by
       obtain ⟨A9, c9, h9, _, h8⟩ := ho3.1.form
       simp only [Value.slice.injEq, true_and] at h9
       omega
      have hmc1 : 1 ≤ rc := by omega
      rw [← hS1.out] at hm3 ho3
      by_cases hrc : rc - 1 = 0
      ·go_wp2
       go_roundw
       case rel => exact ⟨k + 1, _, by omega, by go_num, hm3, .inr (.inl ⟨by rw [hkk.out], g, rc, rfl, by simp [hrc], ho3.lo_ hLw⟩), hv3⟩
       case measure => simp [intOf]; omega
      ·go_wp2
       go_roundw
       case rel => exact ⟨k + 1, _, by omega, by go_num, hm3, .inr (.inl ⟨by rw [hkk.out], g, rc, rfl, by simp [hrc], ho3.lo_ hLw⟩), hv3⟩
       case measure => simp [intOf]; omega
   ·have hz0 : ((k : Int) == 0) = false := by simp; omega
    have hz1' : ((k : Int) == 1) = true := by simp [h0]
    have hmc : n ≤ oc := by
     obtain ⟨A9, c9, h9, _, h8⟩ := hro.1.form
     simp only [Value.slice.injEq, true_and] at h9
     omega
    have hoc : ¬ oc - 1 = 0 := by omega
    rw [if_neg hoc]
    obtain ⟨N0, hN0⟩ := lT (x + y + (SG.length : Int))
    have hSl := hro.len
    obtain ⟨S3, hS3⟩ := lT ((SG ++ [(⟨3, 0, 0⟩ : G3)] ++ [(⟨2, N0, 0⟩ : G3)]))
    have hl3 : S3.length = SG.length + 2 := by rw [← hS3.out]; simp
    obtain ⟨Rn, hRn⟩ := lT (rowG (x + y) vk us S3 n)
    obtain ⟨T, hT⟩ := lT (addS (x + y) Rn.g (SO.drop 1 ++ [N0 + 1]) Rn.o n)
    have hS1 : Hid (P (k + 1) = ⟨T.g, SO.take k ++ T.o ++ [T.c]⟩) := zH (by
     rw [hS.out]; unfold prodStep prodRest prodG1; rw [if_neg (by omega), if_pos h0, if_pos h0]; dsimp only; rw [hvk.out, hN0.out, hS3.out, hRn.out, hT.out])
    have hn2 : 2 ≤ n := by omega
    have hkl : k ≤ SO.length := by omega
    have htk : Hid (SO.take 1 = SO.take k) := zH (by rw [h0])
    have hone : Hid (1 = k) := zH h0.symm
    clear h0 hS
    go_wp2_with fail
    refine (Zdi lo b x y SG G1 _ hm1 hx hy (by omega) (by omega)).mono ?_
    rintro e w2 ⟨G2, rfl, hm2, hv2_⟩
    rw [hN0.out]
    have hv2 := hv1.trans_ hv2_; have ho2 := hro.mv hv2_; have hz2 := hv2.size
    go_wp2_with fail
    refine (Zbw lo b x y (SG ++ [⟨3, 0, 0⟩]) G2 N0 (N0 + 1) _ hm2 hx hy (by simp; omega) (by omega) (by have := hN0.out; simp; omega)).mono ?_
    rintro e w3 ⟨G3, rfl, hm3, hv3_⟩
    rw [hS3.out] at hm3
    have hv3 := hv2.trans_ hv3_; have ho3 := ho2.mv hv3_; have hz3 := hv3.size
    have hoA := ho3.alloc_ (.cells #[.int .i64 (N0 + 1)] 3); have hmA := hm3.alloc_ (.cells #[.int .i64 (N0 + 1)] 3); have hvA := hv3.alloc_ (.cells #[.int .i64 (N0 + 1)] 3)
    clear hm1 hro hv1 hm2 hv2 ho2 hv2_ hv3_ hm3 hv3 ho3 cb nb hkb0
    go_wp2_with (at_builtin; refine wpList_app_off _ rfl _ _ rfl rfl hoA.1 rfl (Zaj _ _ _ _ (by simp)) hn2 (by omega) oM ?_; intro gA oA c5 w5 hrA hrB hg5 hgA)
    have hgo := hoA.2 g (by simp [Value.ownBlock])
    have hgl5 := hoA.1.lt g (by simp [Value.ownBlock])
    have hmx := hmA.grown_ hg5 (fun hc => by injection hc with hc; exact hgo.1 hc) (fun j hj => by injection hj with hj; subst hj; exact hgo.2)
    have hvx := hvA.grown_ hg5 (fun j hj => by injection hj with hj; omega)
    have hrx : RM w5 b G3 (some ⟨g, 0, none⟩) k (SO.take k) := by
     rw [← htk.out, ← hone.out]; exact ⟨hrB, fun _ j o hA => by simp only [Option.some.injEq, Addr.mk.injEq, and_true] at hA; rw [← hA.1]; exact hgo⟩
    have hsx : RM w5 b G3 (some ⟨gA, oA, none⟩) n (SO.drop 1 ++ [N0 + 1]) := ⟨hrA, fun _ j o hA => by
     simp only [Option.some.injEq, Addr.mk.injEq, and_true] at hA
     rw [← hA.1]
     rcases hgA with h9 | h9
     ·rw [h9]; exact hgo
     ·rw [h9]; exact ⟨by have := hmA.1; omega, fun hc => by have := hmA.lt _ hc; omega⟩⟩
    rw [show (Value.slice (some ⟨g, 0, none⟩) 1 oc) = Value.slice (some ⟨g, 0, none⟩) k oc from by rw [← hone.out]]
    clear hoA hmA hvA hrA hrB hg5 hgA hgo hgl5
    obtain ⟨LO, hLO⟩ : ∃ LO, Hid (LO = w5.heap.size) := ⟨_, zH rfl⟩
    have hrX := hrx.toRH; have hsX := hsx.toRH
    rw [← hLO.out] at hrX hsX
    have hoo := OM.none_ w5 b G3 LO
    have hzx := hvx.size
    have hLw : w.heap.size ≤ LO := by have := hLO.out; omega
    have hLe : LO ≤ w5.heap.size := by have := hLO.out; omega
    clear hrx hsx
    have HR : Hid (∀ j, (rowG (x + y) vk us S3 j).g.length = (S3).length + j) := zH (row_g (x + y) vk us S3)
    have HQ : Hid (∀ j, rowG (x + y) vk us S3 (j + 1) = ⟨(rowG (x + y) vk us S3 j).g ++ [⟨1, gi us j, vk⟩], (rowG (x + y) vk us S3 j).o ++ [x + y + (rowG (x + y) vk us S3 j).g.length]⟩) := zH fun j => rfl
    have HP : Hid (rowG (x + y) vk us S3 0 = ⟨S3, []⟩) := zH rfl
    have HN : Hid (rowG (x + y) vk us S3 n = Rn) := hRn
    obtain ⟨F, hF⟩ := lT (rowG (x + y) vk us S3)
    rw [hF.out] at HR HQ HP HN
    have hs0 : MkQ Qo w5 lo b x y (F 0).g G3 ∧ OM w5 b G3 (LO) (.slice none 0 0) 0 (F 0).o := by rw [HP.out]; exact ⟨hmx, hoo⟩
    clear HP hF
    go_wp2
    go_loopw [12, 34] (fun r i w3 => ∃ (j : Nat) (R : Option Addr) (rc : Nat) (G3_ : Option Nat), j ≤ n ∧ i = .int .i64 j ∧ r = .slice R j rc ∧ MkQ Qo w3 lo b x y (F j).g G3_ ∧ OM w3 b G3_ (LO) (.slice R j rc) j (F j).o ∧ Mv b G G3_ w w3 ∧ LO ≤ w3.heap.size ∧ RH w3 b G3_ LO (some ⟨g, 0, none⟩) k (SO.take k) ∧ RH w3 b G3_ LO (some ⟨gA, oA, none⟩) n (SO.drop 1 ++ [N0 + 1])) (fun _ i _ => n - (intOf i).toNat)
    case atStart => exact ⟨0, _, _, _, Nat.zero_le _, rfl, rfl, hs0.1, hs0.2, hvx, hLe, hrX, hsX⟩
    case round =>
     obtain ⟨j, R, rc, G3_, hj, rfl, rfl, hm3, ho3, hv3, hl3, hro, hrs⟩ := hrel
     clear hs0
     have hz3 := hv3.size
     by_cases hjn : j < n
     ·obtain ⟨uj, huj⟩ := lT (gi us j)
      obtain ⟨ca, na, hka0⟩ := ha.cellV hv3 hjn huj
      have hgl := HR.out j
      obtain ⟨FG, FO, hFj⟩ : ∃ FG FO, Hid (F j = ⟨FG, FO⟩) := ⟨_, _, zH rfl⟩
      have hS := zH (HQ.out j)
      rw [hFj.out] at hm3 ho3 hgl
      rw [huj.out, hFj.out] at hS
      dsimp only at hm3 ho3 hgl hS
      obtain ⟨N, hN⟩ := lT (x + y + (FG.length : Int))
      rw [hN.out] at hS
      go_wp2_with fail
      refine (Zba lo b x y FG G3_ uj vk N _ hm3 hx hy (by omega) (by omega) hN.out).mono ?_
      rintro e w4 ⟨G4, rfl, hm4, hv4_⟩
      have hv4 := hv3.trans_ hv4_; have ho4 := ho3.mv hv4_; have hz4 := hv4.size; have hl4 := Nat.le_trans hl3 hv4_.size
      have hro4 := hro.mv hv4_
      have hrs4 := hrs.mv hv4_
      clear hm3 ho3 hv3 hv4_ ca na hka0 hro hrs
      have hoA := ho4.alloc_ (.cells #[.int .i64 N] 3); have hmA := hm4.alloc_ (.cells #[.int .i64 N] 3); have hvA := hv4.alloc_ (.cells #[.int .i64 N] 3)
      have hroA := hro4.alloc_ (.cells #[.int .i64 N] 3)
      have hrsA := hrs4.alloc_ (.cells #[.int .i64 N] 3)
      go_wp2_with (at_builtin; refine Zae _ rfl _ _ rfl rfl hoA.1 rfl (Zaj _ _ _ _ (by simp)) (by omega) oM ?_; intro A5 c5 w5 hown5 hg5 hat5 hk5)
      have ho5 := hoA.appQ hmA hown5 hat5; have hm5 := hmA.app hoA hg5
      have hv5 := hvA.grown_ hg5 (fun g hc => by have := (hoA.1.lt g hc).1; omega)
      have hro5 := hroA.app hoA hg5 (by omega)
      have hrs5 := hrsA.app hoA hg5 (by omega)
      have hl5 : LO ≤ w5.heap.size := by have := hg5.size; simp at this; omega
      have hrel1 : MkQ Qo w5 lo b x y (F (j + 1)).g G4 ∧ OM w5 b G4 (LO) (.slice A5 (j + 1) c5) (j + 1) (F (j + 1)).o := by rw [hS.out]; exact ⟨hm5, ho5⟩
      clear hm5 ho5 hS hFj hgl hN huj hoA hmA hvA hown5 hg5 hat5 hk5 hm4 ho4 hv4 hroA hro4 hrsA hrs4
      go_wp2
      go_roundw
      case rel => exact ⟨j + 1, _, _, _, by omega, by go_num, rfl, hrel1.1, hrel1.2, hv5, hl5, hro5, hrs5⟩
      case measure => simp [intOf]; omega
     ·obtain rfl : n = j := Nat.le_antisymm (Nat.le_of_not_lt hjn) hj
      rw [HN.out] at hm3 ho3
      have hgR := HR.out n
      rw [HN.out] at hgR
      obtain ⟨Rg, Ro⟩ := Rn
      obtain ⟨Tg, To, Tc⟩ := T
      have hTl : To.length = n := by have := addS_o (x + y) Rg (SO.drop 1 ++ [N0 + 1]) Ro n; rw [hT.out] at this; exact this
      dsimp only at hm3 ho3 hgR hT hS1
      have hl5 : (To ++ [Tc]).length = n + 1 := by simp [hTl]
      go_wp2_with fail
      have q9 := gdAddQ_any lo b x y Rg G3_ (some ⟨gA, oA, none⟩) R n c5 rc (SO.drop 1 ++ [N0 + 1]) Ro _ hm3 hrs.1 ho3.reads hx hy (by omega) (by omega) (by omega)
      rw [hT.out] at q9
      refine q9.mono ?_
      clear q9
      rintro e w6 hT6
      obtain ⟨G6, S6, s6c, rfl, hm6, hv6_, ho6⟩ := hT6.open_ hl5
      have hv6 := hv3.trans_ hv6_; have hr6 := hro.mv hv6_; have hz6 := hv6.size
      dsimp only at hm6 ho6
      obtain ⟨g6, rfl, hg61, hg62, hg63⟩ := ho6.1.some_ (by omega)
      have hg6o := ho6.2 g6 (by simp [Value.ownBlock])
      have hmc6 : n + 1 ≤ s6c := by
       obtain ⟨A9, c9, h9, _, h8⟩ := ho6.1.form
       simp only [Value.slice.injEq, true_and] at h9
       omega
      have hmc7 : ¬ s6c - 1 = 0 := by omega
      obtain ⟨s0, hs0'⟩ : ∃ s0, Hid (gi (To ++ [Tc]) 0 = s0) := ⟨_, zH rfl⟩
      obtain ⟨cs, _⟩ := ho6.reads.cellV (Mv.refl_ b G6 w6) (i := 0) (by omega) hs0'
      simp only [Nat.zero_add] at cs
      clear hm3 ho3 hv3 hro hrs hv6_
      have hk21 : k ≤ 2097152 := by omega
      go_wp2_with fail
      go_region_law (first | (go_simp; go_at_call 101; refine (Zeo (some ⟨g, 0, none⟩) k oc (SO.take k) _ (RI.drewN hr6.1.1 1) hk21).mono ?_; rintro e w7 ⟨L, lc, rfl, hownL, hbL⟩; have hbA := ((Zaa (Below.refl w6.heap.size w6) 1).trans (hbL.mono lR)).alloc hbL.size (.cells #[.int .i64 s0] 3); have hLA := (hownL.alloc (.cells #[.int .i64 s0] 3)).lo_ (lo' := w6.heap.size) lR; have hrr := Zaj w7 s0 3 w7.heap.size rfl; have cs := Zab (w := World.drew w6) cs hbL) | (go_simp; go_at_call 101; refine (Zeo (some ⟨g, 0, none⟩) k oc (SO.take k) _ (RI.drewN (hr6.1.1.alloc (.cells #[.int .i64 s0] 3)) 1) hk21).mono ?_; rintro e w7 ⟨L, lc, rfl, hownL, hbL⟩; have hbA := (Zaa ((Below.refl w6.heap.size w6).alloc lR (.cells #[.int .i64 s0] 3)) 1).trans (hbL.mono (Nat.le_trans (Nat.le_succ _) (Nat.le_of_eq (by simp)))); have hLA := hownL.lo_ (lo' := w6.heap.size) (Nat.le_trans (Nat.le_succ _) (Nat.le_of_eq (by simp))); have hrr := ((Zaj w6 s0 3 w6.heap.size rfl).drewN 1).below hbL lR) | (refine Zcd _ (by rfl) _ _ (by rfl) (by rfl) hLA (by rfl) hrr (by omega) hbA.size ?_; intro A8 c8 w8 hown8 hg8 hat8 hk8))
      all_goals
       have hm7 := hm6.below_ hbA lR
       have hv7 := hv6.below_ hbA lR
       have ho7 := ho6.below_ hbA lR
       have hL7 := OM.ofOwnQ hm6 hLA.now lR
       have hm8 := hm7.app hL7 hg8
       have hv8 := hv7.grown_ hg8 (fun j hj => by have := (hL7.1.lt j hj).1; omega)
       have ho8 := hL7.appQ hm7 hown8 hat8
       have hs8 : OH w8 b G6 _ w6.heap.size (.slice (some ⟨g6, 0, none⟩) (n + 1) s6c) (n + 1) (To ++ [Tc]) := (OH.app ⟨⟨ho7.1.1, fun j hj => by have := ho6.1.lt j hj; omega⟩, ho7.2⟩ hL7 hg8 lR)
       have hrs8 : RM w8 b G6 (some ⟨g6, 1, none⟩) n ((To ++ [Tc]).drop 1) := by
        have h9 := hs8.1.reads.drop_ (k := 1) (by omega)
        exact ⟨by simpa using h9, fun _ j o hA => by simp only [Option.some.injEq, Addr.mk.injEq, and_true] at hA; rw [← hA.1]; exact hg6o⟩
       have hl9 : (SO.take k).length = k := by simp; omega
       have htk1 : (SO.take k ++ To ++ [Tc]).take (k + 1) = SO.take k ++ [s0] := by
        rw [List.append_assoc, take_succ_append hl9 (by simp), hs0'.out]
       have hdk1 : (SO.take k ++ To ++ [Tc]).drop (k + 1) = (To ++ [Tc]).drop 1 := by
        rw [List.append_assoc, drop_succ_append hl9]
       have hrel1 : MkQ Qo w8 lo b x y (P (k + 1)).g G6 ∧ RM w8 b G6 A8 (k + 1) ((P (k + 1)).o.take (k + 1)) ∧ RM w8 b G6 (some ⟨g6, 1, none⟩) n ((P (k + 1)).o.drop (k + 1)) := by
        rw [hS1.out]; dsimp only; rw [htk1, hdk1]; exact ⟨hm8, ho8.reads, hrs8⟩
       clear hm6 hv6 ho6 hr6 hm7 hv7 ho7 hL7 hLA hm8 ho8 hs8 hrs8 htk1 hdk1 hl9 hownL hbL hbA hrr hown8 hg8 hat8 hk8 hs0' hT hS1
       go_wp2
       go_roundw
       case rel => exact ⟨k + 1, _, by omega, by go_num, hrel1.1, (.inr (.inr ⟨by have := hone.out; omega, A8, c8, _, _, rfl, rfl, hrel1.2.1, hrel1.2.2⟩)), hv8⟩
       case measure => simp [intOf]; omega
   ·have hz0 : ((k : Int) == 0) = false := by simp; omega
    have hz1' : ((k : Int) == 1) = false := by simp; omega
    obtain ⟨Rn, hRn⟩ := lT (rowG (x + y) vk us SG n)
    obtain ⟨T, hT⟩ := lT (addS (x + y) Rn.g (SO.drop k) Rn.o n)
    have hS1 : Hid (P (k + 1) = ⟨T.g, SO.take k ++ T.o ++ [T.c]⟩) := zH (by
     rw [hS.out]; unfold prodStep prodRest prodG1; rw [if_neg (by omega), if_neg (by omega), if_neg (by omega)]; dsimp only; rw [hvk.out, hRn.out, hT.out])
    have hkl : k ≤ SO.length := by have := hro.len; simp at this; omega
    clear hS
    have hrx := hro; have hsx := hrs; have hmx := hm1; have hvx := hv1
    clear hro hrs hm1 hv1
    obtain ⟨LO, hLO⟩ : ∃ LO, Hid (LO = wr.heap.size) := ⟨_, zH rfl⟩
    have hrX := hrx.toRH; have hsX := hsx.toRH
    rw [← hLO.out] at hrX hsX
    have hoo := OM.none_ wr b G1 LO
    have hzx := hvx.size
    have hLw : w.heap.size ≤ LO := by have := hLO.out; omega
    have hLe : LO ≤ wr.heap.size := by have := hLO.out; omega
    clear hrx hsx
    have HR : Hid (∀ j, (rowG (x + y) vk us SG j).g.length = (SG).length + j) := zH (row_g (x + y) vk us SG)
    have HQ : Hid (∀ j, rowG (x + y) vk us SG (j + 1) = ⟨(rowG (x + y) vk us SG j).g ++ [⟨1, gi us j, vk⟩], (rowG (x + y) vk us SG j).o ++ [x + y + (rowG (x + y) vk us SG j).g.length]⟩) := zH fun j => rfl
    have HP : Hid (rowG (x + y) vk us SG 0 = ⟨SG, []⟩) := zH rfl
    have HN : Hid (rowG (x + y) vk us SG n = Rn) := hRn
    obtain ⟨F, hF⟩ := lT (rowG (x + y) vk us SG)
    rw [hF.out] at HR HQ HP HN
    have hs0 : MkQ Qo wr lo b x y (F 0).g G1 ∧ OM wr b G1 (LO) (.slice none 0 0) 0 (F 0).o := by rw [HP.out]; exact ⟨hmx, hoo⟩
    clear HP hF
    go_wp2
    go_loopw [12, 34] (fun r i w3 => ∃ (j : Nat) (R : Option Addr) (rc : Nat) (G3_ : Option Nat), j ≤ n ∧ i = .int .i64 j ∧ r = .slice R j rc ∧ MkQ Qo w3 lo b x y (F j).g G3_ ∧ OM w3 b G3_ (LO) (.slice R j rc) j (F j).o ∧ Mv b G G3_ w w3 ∧ LO ≤ w3.heap.size ∧ RH w3 b G3_ LO OA k (SO.take k) ∧ RH w3 b G3_ LO SA n (SO.drop k)) (fun _ i _ => n - (intOf i).toNat)
    case atStart => exact ⟨0, _, _, _, Nat.zero_le _, rfl, rfl, hs0.1, hs0.2, hvx, hLe, hrX, hsX⟩
    case round =>
     obtain ⟨j, R, rc, G3_, hj, rfl, rfl, hm3, ho3, hv3, hl3, hro, hrs⟩ := hrel
     clear hs0
     have hz3 := hv3.size
     by_cases hjn : j < n
     ·obtain ⟨uj, huj⟩ := lT (gi us j)
      obtain ⟨ca, na, hka0⟩ := ha.cellV hv3 hjn huj
      have hgl := HR.out j
      obtain ⟨FG, FO, hFj⟩ : ∃ FG FO, Hid (F j = ⟨FG, FO⟩) := ⟨_, _, zH rfl⟩
      have hS := zH (HQ.out j)
      rw [hFj.out] at hm3 ho3 hgl
      rw [huj.out, hFj.out] at hS
      dsimp only at hm3 ho3 hgl hS
      obtain ⟨N, hN⟩ := lT (x + y + (FG.length : Int))
      rw [hN.out] at hS
      go_wp2_with fail
      refine (Zba lo b x y FG G3_ uj vk N _ hm3 hx hy (by omega) (by omega) hN.out).mono ?_
      rintro e w4 ⟨G4, rfl, hm4, hv4_⟩
      have hv4 := hv3.trans_ hv4_; have ho4 := ho3.mv hv4_; have hz4 := hv4.size; have hl4 := Nat.le_trans hl3 hv4_.size
      have hro4 := hro.mv hv4_
      have hrs4 := hrs.mv hv4_
      clear hm3 ho3 hv3 hv4_ ca na hka0 hro hrs
      have hoA := ho4.alloc_ (.cells #[.int .i64 N] 3); have hmA := hm4.alloc_ (.cells #[.int .i64 N] 3); have hvA := hv4.alloc_ (.cells #[.int .i64 N] 3)
      have hroA := hro4.alloc_ (.cells #[.int .i64 N] 3)
      have hrsA := hrs4.alloc_ (.cells #[.int .i64 N] 3)
      go_wp2_with (at_builtin; refine Zae _ rfl _ _ rfl rfl hoA.1 rfl (Zaj _ _ _ _ (by simp)) (by omega) oM ?_; intro A5 c5 w5 hown5 hg5 hat5 hk5)
      have ho5 := hoA.appQ hmA hown5 hat5; have hm5 := hmA.app hoA hg5
      have hv5 := hvA.grown_ hg5 (fun g hc => by have := (hoA.1.lt g hc).1; omega)
      have hro5 := hroA.app hoA hg5 (by omega)
      have hrs5 := hrsA.app hoA hg5 (by omega)
      have hl5 : LO ≤ w5.heap.size := by have := hg5.size; simp at this; omega
      have hrel1 : MkQ Qo w5 lo b x y (F (j + 1)).g G4 ∧ OM w5 b G4 (LO) (.slice A5 (j + 1) c5) (j + 1) (F (j + 1)).o := by rw [hS.out]; exact ⟨hm5, ho5⟩
      clear hm5 ho5 hS hFj hgl hN huj hoA hmA hvA hown5 hg5 hat5 hk5 hm4 ho4 hv4 hroA hro4 hrsA hrs4
      go_wp2
      go_roundw
      case rel => exact ⟨j + 1, _, _, _, by omega, by go_num, rfl, hrel1.1, hrel1.2, hv5, hl5, hro5, hrs5⟩
      case measure => simp [intOf]; omega
     ·obtain rfl : n = j := Nat.le_antisymm (Nat.le_of_not_lt hjn) hj
      rw [HN.out] at hm3 ho3
      have hgR := HR.out n
      rw [HN.out] at hgR
      obtain ⟨Rg, Ro⟩ := Rn
      obtain ⟨Tg, To, Tc⟩ := T
      have hTl : To.length = n := by have := addS_o (x + y) Rg (SO.drop k) Ro n; rw [hT.out] at this; exact this
      dsimp only at hm3 ho3 hgR hT hS1
      have hl5 : (To ++ [Tc]).length = n + 1 := by simp [hTl]
      go_wp2_with fail
      have q9 := gdAddQ_any lo b x y Rg G3_ SA R n sc rc (SO.drop k) Ro _ hm3 hrs.1 ho3.reads hx hy (by omega) (by omega) (by omega)
      rw [hT.out] at q9
      refine q9.mono ?_
      clear q9
      rintro e w6 hT6
      obtain ⟨G6, S6, s6c, rfl, hm6, hv6_, ho6⟩ := hT6.open_ hl5
      have hv6 := hv3.trans_ hv6_; have hr6 := hro.mv hv6_; have hz6 := hv6.size
      dsimp only at hm6 ho6
      obtain ⟨g6, rfl, hg61, hg62, hg63⟩ := ho6.1.some_ (by omega)
      have hg6o := ho6.2 g6 (by simp [Value.ownBlock])
      have hmc6 : n + 1 ≤ s6c := by
       obtain ⟨A9, c9, h9, _, h8⟩ := ho6.1.form
       simp only [Value.slice.injEq, true_and] at h9
       omega
      have hmc7 : ¬ s6c - 1 = 0 := by omega
      obtain ⟨s0, hs0'⟩ : ∃ s0, Hid (gi (To ++ [Tc]) 0 = s0) := ⟨_, zH rfl⟩
      obtain ⟨cs, _⟩ := ho6.reads.cellV (Mv.refl_ b G6 w6) (i := 0) (by omega) hs0'
      simp only [Nat.zero_add] at cs
      clear hm3 ho3 hv3 hro hrs hv6_
      have hk21 : k ≤ 2097152 := by omega
      go_wp2_with fail
      go_region_law (first | (go_simp; go_at_call 101; refine (Zeo OA k oc (SO.take k) _ (RI.drewN hr6.1.1 1) hk21).mono ?_; rintro e w7 ⟨L, lc, rfl, hownL, hbL⟩; have hbA := ((Zaa (Below.refl w6.heap.size w6) 1).trans (hbL.mono lR)).alloc hbL.size (.cells #[.int .i64 s0] 3); have hLA := (hownL.alloc (.cells #[.int .i64 s0] 3)).lo_ (lo' := w6.heap.size) lR; have hrr := Zaj w7 s0 3 w7.heap.size rfl; have cs := Zab (w := World.drew w6) cs hbL) | (go_simp; go_at_call 101; refine (Zeo OA k oc (SO.take k) _ (RI.drewN (hr6.1.1.alloc (.cells #[.int .i64 s0] 3)) 1) hk21).mono ?_; rintro e w7 ⟨L, lc, rfl, hownL, hbL⟩; have hbA := (Zaa ((Below.refl w6.heap.size w6).alloc lR (.cells #[.int .i64 s0] 3)) 1).trans (hbL.mono (Nat.le_trans (Nat.le_succ _) (Nat.le_of_eq (by simp)))); have hLA := hownL.lo_ (lo' := w6.heap.size) (Nat.le_trans (Nat.le_succ _) (Nat.le_of_eq (by simp))); have hrr := ((Zaj w6 s0 3 w6.heap.size rfl).drewN 1).below hbL lR) | (refine Zcd _ (by rfl) _ _ (by rfl) (by rfl) hLA (by rfl) hrr (by omega) hbA.size ?_; intro A8 c8 w8 hown8 hg8 hat8 hk8))
      all_goals
       have hm7 := hm6.below_ hbA lR
       have hv7 := hv6.below_ hbA lR
       have ho7 := ho6.below_ hbA lR
       have hL7 := OM.ofOwnQ hm6 hLA.now lR
       have hm8 := hm7.app hL7 hg8
       have hv8 := hv7.grown_ hg8 (fun j hj => by have := (hL7.1.lt j hj).1; omega)
       have ho8 := hL7.appQ hm7 hown8 hat8
       have hs8 : OH w8 b G6 _ w6.heap.size (.slice (some ⟨g6, 0, none⟩) (n + 1) s6c) (n + 1) (To ++ [Tc]) := (OH.app ⟨⟨ho7.1.1, fun j hj => by have := ho6.1.lt j hj; omega⟩, ho7.2⟩ hL7 hg8 lR)
       have hrs8 : RM w8 b G6 (some ⟨g6, 1, none⟩) n ((To ++ [Tc]).drop 1) := by
        have h9 := hs8.1.reads.drop_ (k := 1) (by omega)
        exact ⟨by simpa using h9, fun _ j o hA => by simp only [Option.some.injEq, Addr.mk.injEq, and_true] at hA; rw [← hA.1]; exact hg6o⟩
       have hl9 : (SO.take k).length = k := by simp; omega
       have htk1 : (SO.take k ++ To ++ [Tc]).take (k + 1) = SO.take k ++ [s0] := by
        rw [List.append_assoc, take_succ_append hl9 (by simp), hs0'.out]
       have hdk1 : (SO.take k ++ To ++ [Tc]).drop (k + 1) = (To ++ [Tc]).drop 1 := by
        rw [List.append_assoc, drop_succ_append hl9]
       have hrel1 : MkQ Qo w8 lo b x y (P (k + 1)).g G6 ∧ RM w8 b G6 A8 (k + 1) ((P (k + 1)).o.take (k + 1)) ∧ RM w8 b G6 (some ⟨g6, 1, none⟩) n ((P (k + 1)).o.drop (k + 1)) := by
        rw [hS1.out]; dsimp only; rw [htk1, hdk1]; exact ⟨hm8, ho8.reads, hrs8⟩
       clear hm6 hv6 ho6 hr6 hm7 hv7 ho7 hL7 hLA hm8 ho8 hs8 hrs8 htk1 hdk1 hl9 hownL hbL hbA hrr hown8 hg8 hat8 hk8 hs0' hT hS1
       go_wp2
       go_roundw
       case rel => exact ⟨k + 1, _, by omega, by go_num, hrel1.1, (.inr (.inr ⟨by omega, A8, c8, _, _, rfl, rfl, hrel1.2.1, hrel1.2.2⟩)), hv8⟩
       case measure => simp [intOf]; omega
  ·obtain rfl : n = k := Nat.le_antisymm (Nat.le_of_not_lt hlt) hk
   obtain ⟨SG, SO, hSk⟩ : ∃ SG SO, Hid (P n = ⟨SG, SO⟩) := ⟨_, _, zH rfl⟩
   rcases hT1 with ⟨h0, rfl, rfl⟩ | ⟨h0, g, oc, rfl, rfl, hro⟩ | ⟨h0, OA, oc, SA, sc, rfl, rfl, hro, hrs⟩
   ·omega
   ·have hrd1 : RI wr (some ⟨g, 0, none⟩) 1 (P n).o := by
     have h := hro.1.reads
     generalize (P n).o = O9 at h ⊢
     rw [h0] at h; exact h
    have hrd2 : ∀ A9, RI wr A9 (n - 1) [] := fun A9 => ⟨by simp; omega, fun h => by omega⟩
    have hone := zH h0
    clear h0 hro HS HG HO H0 ha hb hm
    by_cases hrc : oc - 1 = 0
    ·rw [if_pos hrc]
     go_wp2_with fail
     refine (Zdw (some ⟨g, 0, none⟩) (some ⟨g, 0, none⟩) 1 oc (n - 1) 0 (P n).o [] _ hrd1 (hrd2 _) (by omega) (by omega)).mono ?_
     rintro e w9 ⟨A9, c9, rfl, hown9, hb9⟩
     simp only [List.append_nil] at hown9
     have ho9 := (OM.ofOwnQ hm1 hown9 lR).lo_ (lo' := w.heap.size) hz1
     rw [show 1 + (n - 1) = n by omega] at ho9
     have hm9 := hm1.below_ hb9 lR
     have hv9 := hv1.below_ hb9 lR
     clear hm1 hv1 hown9 hb9 hrd1 hrd2
     go_wp2
     go_ret
     exact RetRowQ.mk_ ho9.len rfl hm9 hv9 ho9
    ·rw [if_neg hrc]
     go_wp2_with fail
     refine (Zdw (some ⟨g, 0, none⟩) (some ⟨g, 1, none⟩) 1 oc (n - 1) (oc - 1) (P n).o [] _ hrd1 (hrd2 _) (by omega) (by omega)).mono ?_
     rintro e w9 ⟨A9, c9, rfl, hown9, hb9⟩
     simp only [List.append_nil] at hown9
     have ho9 := (OM.ofOwnQ hm1 hown9 lR).lo_ (lo' := w.heap.size) hz1
     rw [show 1 + (n - 1) = n by omega] at ho9
     have hm9 := hm1.below_ hb9 lR
     have hv9 := hv1.below_ hb9 lR
     clear hm1 hv1 hown9 hb9 hrd1 hrd2
     go_wp2
     go_ret
     exact RetRowQ.mk_ ho9.len rfl hm9 hv9 ho9
   ·go_wp2_with fail
    refine (Zdw OA SA n oc n sc ((P n).o.take n) ((P n).o.drop n) _ hro.1 hrs.1 (by omega) (by omega)).mono ?_
    rintro e w9 ⟨A9, c9, rfl, hown9, hb9⟩
    have ho9 := (OM.ofOwnQ hm1 hown9 lR).lo_ (lo' := w.heap.size) hz1
    rw [List.take_append_drop] at ho9
    go_wp2
    go_ret
    exact RetRowQ.mk_ ho9.len rfl (hm1.below_ hb9 lR) (hv1.below_ hb9 lR) ho9
variable {Qo : OQ}
set_option maxRecDepth 100000 in
set_option maxHeartbeats 4000000 in
theorem coTwo_add (lo b : Nat) (x y : Int) (g0 : List G3) (G : Option Nat) (A B : Option Addr) (n c d : Nat) (us vs : List Int) (w : World) (hm : MkQ Qo w lo b x y g0 G) (ha : RM w b G A n us) (hb : RM w b G B n vs) (hx : 0 ≤ x ∧ x ≤ 20) (hy : 0 ≤ y ∧ y ≤ 20) (hg : g0.length ≤ 40000) (hn1 : 1 ≤ n) (hn : n ≤ 10) (hlo : lo ≤ w.heap.size) :
 Calls Tryz.prog 124 #[.pointer (some ⟨b, 0, none⟩), .string (bs [43]), .slice A n c, .slice B n d] w (RetRdQ Qo lo b x y ((⟨(addS (x + y) g0 us vs n).g, (addS (x + y) g0 us vs n).o⟩ : Go2)).g ((⟨(addS (x + y) g0 us vs n).g, (addS (x + y) g0 us vs n).o⟩ : Go2)).o G w) := by
 have t43 : ((bs [43]).toList == [43]) = true := bs_is rfl
 have t45 : ((bs [43]).toList == [45]) = false := Zac (by decide)
 have t60 : ((bs [43]).toList == [60]) = false := Zac (by decide)
 have t61 : ((bs [43]).toList == [61]) = false := Zac (by decide)
 have t42 : ((bs [43]).toList == [42]) = false := Zac (by decide)
 have HO : Hid ((addS (x + y) g0 us vs n).o.length = n) := zH (addS_o (x + y) g0 us vs n)
 obtain ⟨SG, SO, SC, hS⟩ : ∃ SG SO SC, Hid (addS (x + y) g0 us vs n = ⟨SG, SO, SC⟩) := ⟨_, _, _, zH rfl⟩
 have hcall := gdAddQ_any lo b x y g0 G A B n c d us vs w hm ha hb hx hy (by omega) (by omega) hlo
 rw [hS.out] at hcall HO
 rw [hS.out]
 dsimp only at hcall HO ⊢
 go_enter Tryz.func124, Tryz.ntmps124
 go_wp2_with fail
 refine (hcall).mono ?_
 rintro e w1 hT
 have HO1 : (SO ++ [SC]).length = n + 1 := by simp; exact HO.out
 obtain ⟨G1, O, oc, rfl, hm1, hv1, ho1⟩ := hT.open_ HO1
 have hcp := ho1.1.capLe
 have hrm := ho1.reads
 obtain ⟨g, rfl, hg1, hg2, hg3⟩ := ho1.1.some_ (by omega)
 have HT : Hid ((SO ++ [SC]).take n = SO) := zH (by rw [List.take_append_of_le_length (by rw [HO.out]; omega), List.take_of_length_le (by rw [HO.out]; omega)])
 have hrd := RM.take_ hrm (k := n) (by omega)
 rw [HT.out] at hrd
 go_wp2
 go_ret
 exact RetRdQ.mk_ HO.out rfl hm1 hv1 hrd (fun k o h => by simp only [Option.some.injEq, Addr.mk.injEq, and_true] at h; omega)
set_option maxRecDepth 100000 in
set_option maxHeartbeats 4000000 in
theorem coTwo_sub (lo b : Nat) (x y : Int) (g0 : List G3) (G : Option Nat) (A B : Option Addr) (n c d : Nat) (us vs : List Int) (w : World) (hm : MkQ Qo w lo b x y g0 G) (ha : RM w b G A n us) (hb : RM w b G B n vs) (hx : 0 ≤ x ∧ x ≤ 20) (hy : 0 ≤ y ∧ y ≤ 20) (hg : g0.length ≤ 40000) (hn1 : 1 ≤ n) (hn : n ≤ 10) (hlo : lo ≤ w.heap.size) :
 Calls Tryz.prog 124 #[.pointer (some ⟨b, 0, none⟩), .string (bs [45]), .slice A n c, .slice B n d] w (RetRdQ Qo lo b x y ((⟨(subS (x + y) g0 us vs n).g, (subS (x + y) g0 us vs n).o⟩ : Go2)).g ((⟨(subS (x + y) g0 us vs n).g, (subS (x + y) g0 us vs n).o⟩ : Go2)).o G w) := by
 have t43 : ((bs [45]).toList == [43]) = false := Zac (by decide)
 have t45 : ((bs [45]).toList == [45]) = true := bs_is rfl
 have t60 : ((bs [45]).toList == [60]) = false := Zac (by decide)
 have t61 : ((bs [45]).toList == [61]) = false := Zac (by decide)
 have t42 : ((bs [45]).toList == [42]) = false := Zac (by decide)
 have HO : Hid ((subS (x + y) g0 us vs n).o.length = n) := zH (subS_o (x + y) g0 us vs n)
 obtain ⟨SG, SO, SC, hS⟩ : ∃ SG SO SC, Hid (subS (x + y) g0 us vs n = ⟨SG, SO, SC⟩) := ⟨_, _, _, zH rfl⟩
 have hcall := gdSubQ_any lo b x y g0 G A B n c d us vs w hm ha hb hx hy (by omega) (by omega) hlo
 rw [hS.out] at hcall HO
 rw [hS.out]
 dsimp only at hcall HO ⊢
 go_enter Tryz.func124, Tryz.ntmps124
 go_wp2_with fail
 refine (hcall).mono ?_
 rintro e w1 hT
 have HO1 : (SO ++ [SC]).length = n + 1 := by simp; exact HO.out
 obtain ⟨G1, O, oc, rfl, hm1, hv1, ho1⟩ := hT.open_ HO1
 have hcp := ho1.1.capLe
 have hrm := ho1.reads
 obtain ⟨g, rfl, hg1, hg2, hg3⟩ := ho1.1.some_ (by omega)
 have HT : Hid ((SO ++ [SC]).take n = SO) := zH (by rw [List.take_append_of_le_length (by rw [HO.out]; omega), List.take_of_length_le (by rw [HO.out]; omega)])
 have hrd := RM.take_ hrm (k := n) (by omega)
 rw [HT.out] at hrd
 go_wp2
 go_ret
 exact RetRdQ.mk_ HO.out rfl hm1 hv1 hrd (fun k o h => by simp only [Option.some.injEq, Addr.mk.injEq, and_true] at h; omega)
set_option maxRecDepth 100000 in
set_option maxHeartbeats 4000000 in
theorem coTwo_less (lo b : Nat) (x y : Int) (g0 : List G3) (G : Option Nat) (A B : Option Addr) (n c d : Nat) (us vs : List Int) (w : World) (hm : MkQ Qo w lo b x y g0 G) (ha : RM w b G A n us) (hb : RM w b G B n vs) (hx : 0 ≤ x ∧ x ≤ 20) (hy : 0 ≤ y ∧ y ≤ 20) (hg : g0.length ≤ 40000) (hn1 : 1 ≤ n) (hn : n ≤ 10) (hlo : lo ≤ w.heap.size) :
 Calls Tryz.prog 124 #[.pointer (some ⟨b, 0, none⟩), .string (bs [60]), .slice A n c, .slice B n d] w (RetRdQ Qo lo b x y ((⟨(subS (x + y) g0 us vs n).g, [(subS (x + y) g0 us vs n).c]⟩ : Go2)).g ((⟨(subS (x + y) g0 us vs n).g, [(subS (x + y) g0 us vs n).c]⟩ : Go2)).o G w) := by
 have t43 : ((bs [60]).toList == [43]) = false := Zac (by decide)
 have t45 : ((bs [60]).toList == [45]) = false := Zac (by decide)
 have t60 : ((bs [60]).toList == [60]) = true := bs_is rfl
 have t61 : ((bs [60]).toList == [61]) = false := Zac (by decide)
 have t42 : ((bs [60]).toList == [42]) = false := Zac (by decide)
 have HO : Hid ((subS (x + y) g0 us vs n).o.length = n) := zH (subS_o (x + y) g0 us vs n)
 obtain ⟨SG, SO, SC, hS⟩ : ∃ SG SO SC, Hid (subS (x + y) g0 us vs n = ⟨SG, SO, SC⟩) := ⟨_, _, _, zH rfl⟩
 have hcall := gdSubQ_any lo b x y g0 G A B n c d us vs w hm ha hb hx hy (by omega) (by omega) hlo
 rw [hS.out] at hcall HO
 rw [hS.out]
 dsimp only at hcall HO ⊢
 go_enter Tryz.func124, Tryz.ntmps124
 go_wp2_with fail
 refine (hcall).mono ?_
 rintro e w1 hT
 have HO1 : (SO ++ [SC]).length = n + 1 := by simp; exact HO.out
 obtain ⟨G1, O, oc, rfl, hm1, hv1, ho1⟩ := hT.open_ HO1
 have hcp := ho1.1.capLe
 have hrm := ho1.reads
 obtain ⟨g, rfl, hg1, hg2, hg3⟩ := ho1.1.some_ (by omega)
 have HT : Hid ((SO ++ [SC]).drop n = [SC]) := zH (by rw [List.drop_append_of_le_length (by rw [HO.out]; omega), List.drop_of_length_le (by rw [HO.out]; omega)]; rfl)
 have hrd := RM.drop_ hrm (k := n) (by omega)
 rw [HT.out, show n + 1 - n = 1 by omega, Nat.zero_add] at hrd
 have hocn : ¬ oc - n = 0 := by omega
 go_wp2
 go_ret
 exact RetRdQ.mk_ (n := 1) rfl rfl hm1 hv1 hrd (fun k o h => by simp only [Option.some.injEq, Addr.mk.injEq, and_true] at h; omega)
set_option maxRecDepth 100000 in
set_option maxHeartbeats 4000000 in
theorem coTwo_eq (lo b : Nat) (x y : Int) (g0 : List G3) (G : Option Nat) (A B : Option Addr) (n c d : Nat) (us vs : List Int) (w : World) (hm : MkQ Qo w lo b x y g0 G) (ha : RM w b G A n us) (hb : RM w b G B n vs) (hx : 0 ≤ x ∧ x ≤ 20) (hy : 0 ≤ y ∧ y ≤ 20) (hg : g0.length ≤ 40000) (hn1 : 1 ≤ n) (hn : n ≤ 10) (hlo : lo ≤ w.heap.size) :
 Calls Tryz.prog 124 #[.pointer (some ⟨b, 0, none⟩), .string (bs [61]), .slice A n c, .slice B n d] w (RetRdQ Qo lo b x y (eqlS (x + y) us vs g0 n).g (eqlS (x + y) us vs g0 n).o G w) := by
 have t43 : ((bs [61]).toList == [43]) = false := Zac (by decide)
 have t45 : ((bs [61]).toList == [45]) = false := Zac (by decide)
 have t60 : ((bs [61]).toList == [60]) = false := Zac (by decide)
 have t61 : ((bs [61]).toList == [61]) = true := bs_is rfl
 have t42 : ((bs [61]).toList == [42]) = false := Zac (by decide)
 unfold eqlS
 dsimp only
 obtain ⟨SG, SC, hS⟩ : ∃ SG SC, Hid (ands (x + y) (eqs (x + y) g0 us vs n).o (eqs (x + y) g0 us vs n).g (n - 1) = (SG, SC)) := ⟨_, _, zH rfl⟩
 have hcall := gdEqualQ_any lo b x y g0 G A B n c d us vs w hm ha hb hx hy (by omega) (by omega) hlo hn1
 rw [hS.out] at hcall ⊢
 dsimp only at hcall ⊢
 go_enter Tryz.func124, Tryz.ntmps124
 go_wp2_with fail
 refine (hcall).mono ?_
 rintro e w1 ⟨G1, rfl, hm1, hv1⟩
 have hz1 := hv1.size
 have hm2 := hm1.alloc_ (.cells #[.int .i64 SC] 3)
 have hv2 := hv1.alloc_ (.cells #[.int .i64 SC] 3)
 have ho2 := OM.new1Q hm1 SC hz1
 go_wp2
 go_ret
 exact RetRdQ.ofOM (n := 1) rfl rfl hm2 hv2 ho2
end Go.Proofs.YtenknpcbbcbciaaGreat
