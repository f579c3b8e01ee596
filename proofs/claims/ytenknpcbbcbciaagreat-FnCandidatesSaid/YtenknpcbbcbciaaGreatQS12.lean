/- Slices of slices of ints: read, owned, appended to, marked. Lengths up to 2^20. -/
import Derived.Test.YtenknpcbbcbciaaGreatQS10
namespace Go.Proofs.YtenknpcbbcbciaaGreat
open Go.RowKit
set_option linter.unusedVariables false
set_option linter.unusedSimpArgs false
variable {Qo : OQ}
set_option maxRecDepth 100000 in
set_option maxHeartbeats 8000000 in
theorem maker_productQ_any (lo b : Nat) (x y : Int) (g0 : List G3) (G : Option Nat) (A B : Option Addr) (n c d : Nat) (us vs : List Int) (w : World) (hm : MkQ Qo w lo b x y g0 G) (ha : RM w b G A n us) (hb : RM w b G B n vs) (hx : 0 ≤ x ∧ x ≤ 20) (hy : 0 ≤ y ∧ y ≤ 20) (hg : g0.length ≤ 40000) (hn : n ≤ 8) (hn1 : 1 ≤ n) (hlo : lo ≤ w.heap.size) :
 Calls Tryz.prog 164 #[.pointer (some ⟨b, 0, none⟩), .slice A n c, .slice B n d] w (RetRowQ Qo lo b x y (prodS (x + y) g0 us vs n n).g (prodS (x + y) g0 us vs n n).o G w) := by
 have HG : Hid (∀ i, (prodS (x + y) g0 us vs n i).g.length ≤ g0.length + 50 * i) := zH (prodS_g (x + y) g0 us vs n hn)
 have HO : Hid (∀ i, (prodS (x + y) g0 us vs n (i + 1)).o.length = if i = 0 then n else i + n + 1) := zH (prodS_o (x + y) g0 us vs n hn1)
 have H0 : Hid (prodS (x + y) g0 us vs n 0 = ⟨g0, []⟩) := zH rfl
 have HS : Hid (∀ i, prodS (x + y) g0 us vs n (i + 1) = prodStep (x + y) us vs n i (prodS (x + y) g0 us vs n i)) := zH fun i => rfl
 generalize prodS (x + y) g0 us vs n = P at *
 have hst : MkQ Qo (w.alloc (.cells #[] 3)) lo b x y (P 0).g G ∧ OM (w.alloc (.cells #[] 3)) b G w.heap.size (.slice (some ⟨w.heap.size, 0, none⟩) 0 0) 0 (P 0).o ∧ Mv b G G w (w.alloc (.cells #[] 3)) := by
  rw [H0.out]; exact ⟨hm.alloc_ _, OM.new0Q hm lR, (Mv.refl_ b G w).alloc_ _⟩
 obtain ⟨hm0, ho0, hv0⟩ := hst
 go_enter Tryz.func164, Tryz.ntmps164
 go_wp2
 go_loopw [7, 18] (fun o i wr => ∃ (k m : Nat) (O : Option Addr) (oc : Nat) (G1 : Option Nat), k ≤ n ∧ i = .int .i64 k ∧ o = .slice O m oc ∧ MkQ Qo wr lo b x y (P k).g G1 ∧ OM wr b G1 w.heap.size (.slice O m oc) m (P k).o ∧ Mv b G G1 w wr) (fun _ i _ => n - (intOf i).toNat)
 case atStart => exact ⟨0, _, _, _, _, Nat.zero_le _, rfl, rfl, hm0, ho0, hv0⟩
 case round =>
  obtain ⟨k, m, O, oc, G1, hk, rfl, rfl, hm1, ho1, hv1⟩ := hrel
  clear hm0 ho0 hv0
  have hz1 := hv1.size
  by_cases hlt : k < n
  ·obtain ⟨ka, oa, rfl, hka, ca⟩ := ha.1.at_ (k := 0) (by omega)
   obtain ⟨kb, ob, rfl, hkb, cb⟩ := hb.1.at_ hlt
   clear hka ca hkb cb
   obtain ⟨vk, hvk⟩ := lT (gi vs k)
   have hgl := HG.out k
   have hS := zH (HS.out k)
   have hml := ho1.len
   obtain ⟨SG, SO, hSk⟩ : ∃ SG SO, Hid (P k = ⟨SG, SO⟩) := ⟨_, _, zH rfl⟩
   rw [hSk.out] at hm1 ho1 hgl hml
   rw [hSk.out] at hS
   dsimp only at hm1 ho1 hgl hml
   by_cases h0 : k = 0
   ·have hgt : ¬ (0 : Int) < (k : Int) := by omega
    have hz0 : ((k : Int) == 0) = true := by simp [h0]
    have hz1' : ((k : Int) == 1) = false := by simp; omega
    obtain ⟨Rn, hRn⟩ := lT (rowG (x + y) vk us SG n)
    have hS1 : Hid (P (k + 1) = Rn) := zH (by rw [hS.out]; unfold prodStep; rw [if_pos h0, hvk.out, hRn.out])
    have hkk := zH h0
    clear h0 hS
    have hm2 := hm1.alloc_ (.cells #[] 3)
    have hoo := OM.new0Q (lo := wr.heap.size + 1) hm2 (by simp)
    simp only [World.size_alloc] at hoo
    obtain ⟨LO, hLO⟩ : ∃ LO, Hid (LO = wr.heap.size + 1) := ⟨_, zH rfl⟩
    have hoo := hoo.lo_ (lo' := LO) (by have := hLO.out; omega)
    have hLw : w.heap.size ≤ LO := by have := hLO.out; omega
    have hLe : LO ≤ ((wr.alloc (.cells #[] 3)).alloc (.cells #[] 3)).heap.size := by have := hLO.out; simp; omega
    have hm2' := hm2.alloc_ (.cells #[] 3)
    have hv2 := (hv1.alloc_ (.cells #[] 3)).alloc_ (.cells #[] 3)
    clear hm1 ho1
    have HR : Hid (∀ j, (rowG (x + y) vk us SG j).g.length = (SG).length + j) := zH (row_g (x + y) vk us SG)
    have HQ : Hid (∀ j, rowG (x + y) vk us SG (j + 1) = ⟨(rowG (x + y) vk us SG j).g ++ [⟨1, gi us j, vk⟩], (rowG (x + y) vk us SG j).o ++ [x + y + (rowG (x + y) vk us SG j).g.length]⟩) := zH fun j => rfl
    have HP : Hid (rowG (x + y) vk us SG 0 = ⟨SG, []⟩) := zH rfl
    have HN : Hid (rowG (x + y) vk us SG n = Rn) := hRn
    obtain ⟨F, hF⟩ := lT (rowG (x + y) vk us SG)
    rw [hF.out] at HR HQ HP HN
    have hs0 : MkQ Qo ((wr.alloc (.cells #[] 3)).alloc (.cells #[] 3)) lo b x y (F 0).g G1 ∧ OM ((wr.alloc (.cells #[] 3)).alloc (.cells #[] 3)) b G1 (LO) (.slice (some ⟨wr.heap.size + 1, 0, none⟩) 0 0) 0 (F 0).o := by rw [HP.out]; exact ⟨hm2', hoo⟩
    clear HP hF
    go_wp2
    go_loopw [10, 38] (fun r i w3 => ∃ (j : Nat) (R : Option Addr) (rc : Nat) (G3_ : Option Nat), j ≤ n ∧ i = .int .i64 j ∧ r = .slice R j rc ∧ MkQ Qo w3 lo b x y (F j).g G3_ ∧ OM w3 b G3_ (LO) (.slice R j rc) j (F j).o ∧ Mv b G G3_ w w3 ∧ LO ≤ w3.heap.size) (fun _ i _ => n - (intOf i).toNat)
    case atStart => exact ⟨0, _, _, _, Nat.zero_le _, rfl, rfl, hs0.1, hs0.2, hv2, hLe⟩
    case round =>
     obtain ⟨j, R, rc, G3_, hj, rfl, rfl, hm3, ho3, hv3, hl3⟩ := hrel
     clear hs0
     have hz3 := hv3.size
     by_cases hjn : j < n
     ·obtain ⟨uj, huj⟩ := lT (gi us j)
      obtain ⟨ca, na, hka0⟩ := ha.cellV hv3 hjn huj
      obtain ⟨cb, nb, hkb0⟩ := hb.cellV hv3 hlt hvk
      have hgl := HR.out j
      obtain ⟨FG, FO, hFj⟩ : ∃ FG FO, Hid (F j = ⟨FG, FO⟩) := ⟨_, _, zH rfl⟩
      have hS := zH (HQ.out j)
      rw [hFj.out] at hm3 ho3 hgl
      rw [huj.out, hFj.out] at hS
      dsimp only at hm3 ho3 hgl hS
      obtain ⟨N, hN⟩ := lT (x + y + (FG.length : Int))
      rw [hN.out] at hS
      go_wp2_with fail
      refine (Zbh lo b x y FG G3_ uj vk N _ hm3 hx hy (by omega) (by omega) hN.out).mono ?_
      rintro e w4 ⟨G4, rfl, hm4, hv4_⟩
      have hv4 := hv3.trans_ hv4_; have ho4 := ho3.mv hv4_; have hz4 := hv4.size; have hl4 := Nat.le_trans hl3 hv4_.size
      clear hm3 ho3 hv3 hv4_ ca na hka0 cb nb hkb0
      have hoA := ho4.alloc_ (.cells #[.int .i64 N] 3); have hmA := hm4.alloc_ (.cells #[.int .i64 N] 3); have hvA := hv4.alloc_ (.cells #[.int .i64 N] 3)
      go_wp2_with (at_builtin; refine Zae _ rfl _ _ rfl rfl hoA.1 rfl (Zaj _ _ _ _ (by simp)) (by omega) oM ?_; intro A5 c5 w5 hown5 hg5 hat5 hk5)
      have ho5 := hoA.appQ hmA hown5 hat5; have hm5 := hmA.app hoA hg5
      have hv5 := hvA.grown_ hg5 (fun g hc => by have := (hoA.1.lt g hc).1; omega)
      have hl5 : LO ≤ w5.heap.size := by have := hg5.size; simp at this; omega
      have hrel1 : MkQ Qo w5 lo b x y (F (j + 1)).g G4 ∧ OM w5 b G4 (LO) (.slice A5 (j + 1) c5) (j + 1) (F (j + 1)).o := by rw [hS.out]; exact ⟨hm5, ho5⟩
      clear hm5 ho5 hS hFj hgl hN huj hoA hmA hvA hown5 hg5 hat5 hk5 hm4 ho4 hv4
      go_wp2
      go_roundw
      case rel => exact ⟨j + 1, _, _, _, by omega, by go_num, rfl, hrel1.1, hrel1.2, hv5, hl5⟩
      case measure => simp [intOf]; omega
     ·obtain rfl : n = j := Nat.le_antisymm (Nat.le_of_not_lt hjn) hj
      rw [HN.out] at hm3 ho3
      have hgR := HR.out n
      rw [HN.out] at hgR
      rw [← hS1.out] at hm3 ho3
      go_wp2
      go_roundw
      case rel => exact ⟨k + 1, _, _, _, _, by omega, by go_num, rfl, hm3, ho3.lo_ (by omega), hv3⟩
      case measure => simp [intOf]; omega
   ·have hgt : (0 : Int) < (k : Int) := by omega
    have hz0 : ((k : Int) == 0) = false := by simp [h0]
    obtain ⟨k', hk'⟩ : ∃ k', Hid (k = k' + 1) := ⟨k - 1, zH (by omega)⟩
    have hmk : Hid (m = if k = 1 then n else k + n) := zH (by
     have h1 := HO.out k'
     rw [← hk'.out, hSk.out] at h1
     dsimp only at h1
     rw [hml] at h1
     have := hk'.out
     rw [h1]; split <;> split <;> omega)
    have hkm : k < m := by have := hmk.out; split at this <;> omega
    obtain ⟨g, rfl, hg1, hg2, hg3⟩ := ho1.1.some_ (by omega)
    have hmc : m ≤ oc := by
     obtain ⟨A9, c9, h9, _, h8⟩ := ho1.1.form
     simp only [Value.slice.injEq, true_and] at h9
     omega
    have hco : ¬ oc - k = 0 := by omega
    obtain ⟨N0, hN0⟩ := lT (x + y + (SG.length : Int))
    obtain ⟨HS_, hHS⟩ : ∃ h, Hid (h = wr.heap.size) := ⟨_, zH rfl⟩
    have hs0 : OH wr b G1 w.heap.size HS_ (.slice (some ⟨g, 0, none⟩) m oc) m SO := by have := ho1.toOH; rwa [← hHS.out] at this
    have hs1 := hs0.alloc_ (.cells #[] 3)
    have hmE := hm1.alloc_ (.cells #[] 3)
    have hvE := hv1.alloc_ (.cells #[] 3)
    have hrd := (RI.drop_ hs1.1.reads (Nat.le_of_lt hkm))
    rw [Nat.zero_add] at hrd
    by_cases h1 : k = 1
    ·have hz1' : ((k : Int) == 1) = true := by simp [h1]
     have hmn : Hid (m = n) := zH (by have := hmk.out; rw [if_pos h1] at this; exact this)
     have hq1 : m - k + 1 = n := by have := hmn.out; omega
     obtain ⟨S3, hS3⟩ := lT ((SG ++ [(⟨3, 0, 0⟩ : G3)] ++ [(⟨2, N0, 0⟩ : G3)]))
     have hl3 : S3.length = SG.length + 2 := by rw [← hS3.out]; simp
     obtain ⟨Rn, hRn⟩ := lT (rowG (x + y) vk us S3 n)
     obtain ⟨T, hT⟩ := lT (addS (x + y) Rn.g (SO.drop k ++ [N0 + 1]) Rn.o n)
     have hS1 : Hid (P (k + 1) = ⟨T.g, SO.take k ++ T.o ++ [T.c]⟩) := zH (by
      rw [hS.out]; unfold prodStep prodRest prodG1; rw [if_neg h0, if_pos h1, if_pos h1]; dsimp only; rw [hvk.out, hN0.out, hS3.out, hRn.out, ← h1, hT.out])
     have hkk := zH h0
     have hkk1 := zH h1
     clear h0 h1 hS hm1 ho1 hs0 hv1
     go_wp2_with fail
     refine (with_0 (some ⟨g, k, none⟩) (m - k) (oc - k) (SO.drop k) _ hrd (by omega)).mono ?_
     rintro e w2 ⟨RA, rac, rfl, hownr, hbr⟩
     have hm2 := hmE.below_ hbr lR
     have hv2 := hvE.below_ hbr lR
     have hs2 := hs1.below_ hbr lR
     have hHSw : w.heap.size ≤ HS_ := by have := hHS.out; omega
     have hr2 := (OM.ofOwnQ hmE hownr lR).lo_ (lo' := HS_) (by have := hHS.out; simp; omega)
     have hz2 := hv2.size
     have hHw : HS_ ≤ w2.heap.size := by have h9 := hbr.size; have h8 := hHS.out; simp only [World.size_alloc] at h9; omega
     clear hmE hvE hs1 hrd hownr
     go_wp2_with fail
     refine (Zfe lo b x y SG G1 N0 _ hm2 hx hy (by omega) (by omega) hN0.out).mono ?_
     rintro e w3 ⟨G3, rfl, hm3, hv3_⟩
     rw [hS3.out] at hm3
     have hv3 := hv2.trans_ hv3_; have hs3 := hs2.mv hv3_; have hr3 := hr2.mv hv3_; have hz3 := hv3.size
     have hHw3 : HS_ ≤ w3.heap.size := Nat.le_trans hHw hv3_.size
     have hrA := hr3.alloc_ (.cells #[.int .i64 (N0 + 1)] 3); have hmA := hm3.alloc_ (.cells #[.int .i64 (N0 + 1)] 3); have hvA := hv3.alloc_ (.cells #[.int .i64 (N0 + 1)] 3); have hsA := hs3.alloc_ (.cells #[.int .i64 (N0 + 1)] 3)
     have hrl : wr.heap.size ≤ w2.heap.size := by have h9 := hbr.size; simp only [World.size_alloc] at h9; omega
     go_wp2_with (at_builtin; refine Zae _ rfl _ _ rfl rfl hrA.1 rfl (Zaj _ _ _ _ (by simp)) (by omega) oM ?_; intro A9 c9 w9 hown9 hg9 hat9 hk9)
     rw [hq1] at hown9 hat9
     have hrx := hrA.appQ hmA hown9 hat9; have hmx := hmA.app hrA hg9; have hvx := hvA.grown_ hg9 (fun g hc => by have := (hrA.1.lt g hc).1; omega)
     have hsx : OH w9 b G3 w.heap.size HS_ (.slice (some ⟨g, 0, none⟩) m oc) m SO := hsA.app hrA hg9 lR
     have hzx := hvx.size
     have hHx : HS_ ≤ w9.heap.size := by have h9 := hg9.size; simp only [World.size_alloc] at h9; omega
     clear hm2 hv2 hv3_ hs2 hr2 hm3 hv3 hs3 hr3 hrA hmA hvA hsA hown9 hat9 hg9 hk9
     clear hbr
     obtain ⟨LO, hLO⟩ : ∃ LO, Hid (LO = w9.heap.size) := ⟨_, zH rfl⟩
     have hoo := (OM.new0Q (lo := w9.heap.size) hmx lR).lo_ (lo' := LO) (by have := hLO.out; omega)
     have hrE : OH (w9.alloc (.cells #[] 3)) b G3 w.heap.size LO (.slice A9 n c9) n (SO.drop k ++ [N0 + 1]) := by have := (hrx.lo_ hHSw).toOH; rw [← hLO.out] at this; exact this.alloc_ _
     have hsE := hsx.alloc_ (.cells #[] 3)
     have hmE := hmx.alloc_ (.cells #[] 3)
     have hvE := hvx.alloc_ (.cells #[] 3)
     have hLw : w.heap.size ≤ LO := by have := hLO.out; omega
     have hHL : HS_ ≤ LO := by have := hLO.out; omega
     have hLe : LO ≤ (w9.alloc (.cells #[] 3)).heap.size := by have := hLO.out; simp; omega
     clear hrx hsx hmx hvx
     have HR : Hid (∀ j, (rowG (x + y) vk us S3 j).g.length = (S3).length + j) := zH (row_g (x + y) vk us S3)
     have HQ : Hid (∀ j, rowG (x + y) vk us S3 (j + 1) = ⟨(rowG (x + y) vk us S3 j).g ++ [⟨1, gi us j, vk⟩], (rowG (x + y) vk us S3 j).o ++ [x + y + (rowG (x + y) vk us S3 j).g.length]⟩) := zH fun j => rfl
     have HP : Hid (rowG (x + y) vk us S3 0 = ⟨S3, []⟩) := zH rfl
     have HN : Hid (rowG (x + y) vk us S3 n = Rn) := hRn
     obtain ⟨F, hF⟩ := lT (rowG (x + y) vk us S3)
     rw [hF.out] at HR HQ HP HN
     have hs0 : MkQ Qo (w9.alloc (.cells #[] 3)) lo b x y (F 0).g G3 ∧ OM (w9.alloc (.cells #[] 3)) b G3 (LO) (.slice (some ⟨w9.heap.size, 0, none⟩) 0 0) 0 (F 0).o := by rw [HP.out]; exact ⟨hmE, hoo⟩
     clear HP hF
     go_wp2
     go_loopw [10, 38] (fun r i w3 => ∃ (j : Nat) (R : Option Addr) (rc : Nat) (G3_ : Option Nat), j ≤ n ∧ i = .int .i64 j ∧ r = .slice R j rc ∧ MkQ Qo w3 lo b x y (F j).g G3_ ∧ OM w3 b G3_ (LO) (.slice R j rc) j (F j).o ∧ Mv b G G3_ w w3 ∧ LO ≤ w3.heap.size ∧ OH w3 b G3_ w.heap.size HS_ (.slice (some ⟨g, 0, none⟩) m oc) m SO ∧ OH w3 b G3_ w.heap.size LO (.slice A9 n c9) n (SO.drop k ++ [N0 + 1])) (fun _ i _ => n - (intOf i).toNat)
     case atStart => exact ⟨0, _, _, _, Nat.zero_le _, rfl, rfl, hs0.1, hs0.2, hvE, hLe, hsE, hrE⟩
     case round =>
      obtain ⟨j, R, rc, G3_, hj, rfl, rfl, hm3, ho3, hv3, hl3, hsu, hre⟩ := hrel
      clear hs0
      have hz3 := hv3.size
      by_cases hjn : j < n
      ·obtain ⟨uj, huj⟩ := lT (gi us j)
       obtain ⟨ca, na, hka0⟩ := ha.cellV hv3 hjn huj
       obtain ⟨cb, nb, hkb0⟩ := hb.cellV hv3 hlt hvk
       have hgl := HR.out j
       obtain ⟨FG, FO, hFj⟩ : ∃ FG FO, Hid (F j = ⟨FG, FO⟩) := ⟨_, _, zH rfl⟩
       have hS := zH (HQ.out j)
       rw [hFj.out] at hm3 ho3 hgl
       rw [huj.out, hFj.out] at hS
       dsimp only at hm3 ho3 hgl hS
       obtain ⟨N, hN⟩ := lT (x + y + (FG.length : Int))
       rw [hN.out] at hS
       go_wp2_with fail
       refine (Zbh lo b x y FG G3_ uj vk N _ hm3 hx hy (by omega) (by omega) hN.out).mono ?_
       rintro e w4 ⟨G4, rfl, hm4, hv4_⟩
       have hv4 := hv3.trans_ hv4_; have ho4 := ho3.mv hv4_; have hz4 := hv4.size; have hl4 := Nat.le_trans hl3 hv4_.size
       have hsu4 := hsu.mv hv4_
       have hre4 := hre.mv hv4_
       clear hm3 ho3 hv3 hv4_ ca na hka0 cb nb hkb0 hsu hre
       have hoA := ho4.alloc_ (.cells #[.int .i64 N] 3); have hmA := hm4.alloc_ (.cells #[.int .i64 N] 3); have hvA := hv4.alloc_ (.cells #[.int .i64 N] 3)
       have hsuA := hsu4.alloc_ (.cells #[.int .i64 N] 3)
       have hreA := hre4.alloc_ (.cells #[.int .i64 N] 3)
       go_wp2_with (at_builtin; refine Zae _ rfl _ _ rfl rfl hoA.1 rfl (Zaj _ _ _ _ (by simp)) (by omega) oM ?_; intro A5 c5 w5 hown5 hg5 hat5 hk5)
       have ho5 := hoA.appQ hmA hown5 hat5; have hm5 := hmA.app hoA hg5
       have hv5 := hvA.grown_ hg5 (fun g hc => by have := (hoA.1.lt g hc).1; omega)
       have hsu5 := hsuA.app hoA hg5 (by omega)
       have hre5 := hreA.app hoA hg5 (by omega)
       have hl5 : LO ≤ w5.heap.size := by have := hg5.size; simp at this; omega
       have hrel1 : MkQ Qo w5 lo b x y (F (j + 1)).g G4 ∧ OM w5 b G4 (LO) (.slice A5 (j + 1) c5) (j + 1) (F (j + 1)).o := by rw [hS.out]; exact ⟨hm5, ho5⟩
       clear hm5 ho5 hS hFj hgl hN huj hoA hmA hvA hown5 hg5 hat5 hk5 hm4 ho4 hv4 hsuA hsu4 hreA hre4
       go_wp2
       go_roundw
       case rel => exact ⟨j + 1, _, _, _, by omega, by go_num, rfl, hrel1.1, hrel1.2, hv5, hl5, hsu5, hre5⟩
       case measure => simp [intOf]; omega
      ·obtain rfl : n = j := Nat.le_antisymm (Nat.le_of_not_lt hjn) hj
       rw [HN.out] at hm3 ho3
       have hgR := HR.out n
       rw [HN.out] at hgR
       obtain ⟨Rg, Ro⟩ := Rn
       obtain ⟨Tg, To, Tc⟩ := T
       dsimp only at hm3 ho3 hgR hT hS1
       go_wp2_with fail
       have q9 := Zeh lo b x y Rg G3_ A9 R n c9 rc (SO.drop k ++ [N0 + 1]) Ro _ hm3 hre.toOM.reads ho3.reads hx hy (by omega) (by omega) (by omega)
       rw [hT.out] at q9
       refine q9.mono ?_
       clear q9
       rintro e w6 ⟨G6, T6, t6c, rfl, hm6, hv6_, ho6⟩
       have hv6 := hv3.trans_ hv6_; have hs6 := hsu.mv hv6_; have hz6 := hv6.size
       dsimp only at hm6 ho6
       clear hm3 ho3 hv3 hsu hre hv6_
       go_wp2_with fail
       refine (with_0 (some ⟨g, 0, none⟩) k oc (SO.take k) _ (hs6.1.reads.take_ (Nat.le_of_lt hkm)) (by omega)).mono ?_
       rintro e w7 ⟨R7, r7c, rfl, hown7, hb7⟩
       have ho7 := OM.ofOwnQ hm6 hown7 lR
       have hm7 := hm6.below_ hb7 lR
       have hv7 := hv6.below_ hb7 lR
       have hsu7 := ho6.below_ hb7 lR
       have hz7 := hb7.size
       clear hm6 hv6 ho6 hs6 hown7 hb7
       go_wp2_with (at_builtin; refine Zae _ rfl _ _ rfl rfl ho7.1 rfl hsu7.reads.1 (by omega) oM ?_; intro A8 c8 w8 hown8 hg8 hat8 hk8)
       have ho8 := ho7.appQ hm7 hown8 hat8; have hm8 := hm7.app ho7 hg8
       have hv8 := hv7.grown_ hg8 (fun g hc => by have := (ho7.1.lt g hc).1; omega)
       have hz8 := hg8.size
       have hmA := hm8.alloc_ (.cells #[.int .i64 Tc] 3)
       clear ho7 hm7 hv7 hsu7 hown8 hg8 hat8 hk8
       refine (with_any A8 (some ⟨w8.heap.size, 0, none⟩) (k + n) c8 1 1 (SO.take k ++ To) [Tc] _ (ho8.alloc_ _).reads.1 (RI_new1 _ _ _) (by omega) (by omega)).mono ?_
       rintro e w9' ⟨A10, c10, rfl, hown10, hb10⟩
       have hm10 := hmA.below_ hb10 lR
       have hv10 := (hv8.alloc_ (.cells #[.int .i64 Tc] 3)).below_ hb10 lR
       have ho10 := (OM.ofOwnQ hmA hown10 lR).lo_ (lo' := w.heap.size) (by simp; omega)
       have hrel1 : MkQ Qo w9' lo b x y (P (k + 1)).g G6 ∧ OM w9' b G6 w.heap.size (.slice A10 (k + n + 1) c10) (k + n + 1) (P (k + 1)).o := by rw [hS1.out]; exact ⟨hm10, ho10⟩
       clear hm10 ho10 hmA hm8 ho8 hv8 hown10 hb10 hS1 hT
       go_wp2
       go_roundw
       case rel => exact ⟨k + 1, _, _, _, _, by omega, by go_num, rfl, hrel1.1, hrel1.2, hv10⟩
       case measure => simp [intOf]; omega
    ·have hz1' : ((k : Int) == 1) = false := by simp; omega
     have hq1 : m - k = n := by have := hmk.out; rw [if_neg h1] at this; omega
     obtain ⟨Rn, hRn⟩ := lT (rowG (x + y) vk us SG n)
     obtain ⟨T, hT⟩ := lT (addS (x + y) Rn.g (SO.drop k) Rn.o n)
     have hS1 : Hid (P (k + 1) = ⟨T.g, SO.take k ++ T.o ++ [T.c]⟩) := zH (by
      rw [hS.out]; unfold prodStep prodRest prodG1; rw [if_neg h0, if_neg h1, if_neg h1]; dsimp only; rw [hvk.out, hRn.out, hT.out])
     rw [hq1] at hrd
     have hkk := zH h0
     have hkk1 := zH h1
     clear h0 h1 hS hm1 ho1 hs0 hv1
     go_wp2_with fail
     refine (with_0 (some ⟨g, k, none⟩) n (oc - k) (SO.drop k) _ hrd (by omega)).mono ?_
     rintro e w2 ⟨RA, rac, rfl, hownr, hbr⟩
     have hm2 := hmE.below_ hbr lR
     have hv2 := hvE.below_ hbr lR
     have hs2 := hs1.below_ hbr lR
     have hHSw : w.heap.size ≤ HS_ := by have := hHS.out; omega
     have hr2 := (OM.ofOwnQ hmE hownr lR).lo_ (lo' := HS_) (by have := hHS.out; simp; omega)
     have hz2 := hv2.size
     have hHw : HS_ ≤ w2.heap.size := by have h9 := hbr.size; have h8 := hHS.out; simp only [World.size_alloc] at h9; omega
     clear hmE hvE hs1 hrd hownr
     have hrx := hr2; have hmx := hm2; have hvx := hv2; have hsx := hs2; have hzx := hz2; have hHx := hHw
     clear hr2 hm2 hv2 hs2
     clear hbr
     obtain ⟨LO, hLO⟩ : ∃ LO, Hid (LO = w2.heap.size) := ⟨_, zH rfl⟩
     have hoo := (OM.new0Q (lo := w2.heap.size) hmx lR).lo_ (lo' := LO) (by have := hLO.out; omega)
     have hrE : OH (w2.alloc (.cells #[] 3)) b G1 w.heap.size LO (.slice RA n rac) n (SO.drop k) := by have := (hrx.lo_ hHSw).toOH; rw [← hLO.out] at this; exact this.alloc_ _
     have hsE := hsx.alloc_ (.cells #[] 3)
     have hmE := hmx.alloc_ (.cells #[] 3)
     have hvE := hvx.alloc_ (.cells #[] 3)
     have hLw : w.heap.size ≤ LO := by have := hLO.out; omega
     have hHL : HS_ ≤ LO := by have := hLO.out; omega
     have hLe : LO ≤ (w2.alloc (.cells #[] 3)).heap.size := by have := hLO.out; simp; omega
     clear hrx hsx hmx hvx
     have HR : Hid (∀ j, (rowG (x + y) vk us SG j).g.length = (SG).length + j) := zH (row_g (x + y) vk us SG)
     have HQ : Hid (∀ j, rowG (x + y) vk us SG (j + 1) = ⟨(rowG (x + y) vk us SG j).g ++ [⟨1, gi us j, vk⟩], (rowG (x + y) vk us SG j).o ++ [x + y + (rowG (x + y) vk us SG j).g.length]⟩) := zH fun j => rfl
     have HP : Hid (rowG (x + y) vk us SG 0 = ⟨SG, []⟩) := zH rfl
     have HN : Hid (rowG (x + y) vk us SG n = Rn) := hRn
     obtain ⟨F, hF⟩ := lT (rowG (x + y) vk us SG)
     rw [hF.out] at HR HQ HP HN
     have hs0 : MkQ Qo (w2.alloc (.cells #[] 3)) lo b x y (F 0).g G1 ∧ OM (w2.alloc (.cells #[] 3)) b G1 (LO) (.slice (some ⟨w2.heap.size, 0, none⟩) 0 0) 0 (F 0).o := by rw [HP.out]; exact ⟨hmE, hoo⟩
     clear HP hF
     go_wp2
     go_loopw [10, 38] (fun r i w3 => ∃ (j : Nat) (R : Option Addr) (rc : Nat) (G3_ : Option Nat), j ≤ n ∧ i = .int .i64 j ∧ r = .slice R j rc ∧ MkQ Qo w3 lo b x y (F j).g G3_ ∧ OM w3 b G3_ (LO) (.slice R j rc) j (F j).o ∧ Mv b G G3_ w w3 ∧ LO ≤ w3.heap.size ∧ OH w3 b G3_ w.heap.size HS_ (.slice (some ⟨g, 0, none⟩) m oc) m SO ∧ OH w3 b G3_ w.heap.size LO (.slice RA n rac) n (SO.drop k)) (fun _ i _ => n - (intOf i).toNat)
     case atStart => exact ⟨0, _, _, _, Nat.zero_le _, rfl, rfl, hs0.1, hs0.2, hvE, hLe, hsE, hrE⟩
     case round =>
      obtain ⟨j, R, rc, G3_, hj, rfl, rfl, hm3, ho3, hv3, hl3, hsu, hre⟩ := hrel
      clear hs0
      have hz3 := hv3.size
      by_cases hjn : j < n
      ·obtain ⟨uj, huj⟩ := lT (gi us j)
       obtain ⟨ca, na, hka0⟩ := ha.cellV hv3 hjn huj
       obtain ⟨cb, nb, hkb0⟩ := hb.cellV hv3 hlt hvk
       have hgl := HR.out j
       obtain ⟨FG, FO, hFj⟩ : ∃ FG FO, Hid (F j = ⟨FG, FO⟩) := ⟨_, _, zH rfl⟩
       have hS := zH (HQ.out j)
       rw [hFj.out] at hm3 ho3 hgl
       rw [huj.out, hFj.out] at hS
       dsimp only at hm3 ho3 hgl hS
       obtain ⟨N, hN⟩ := lT (x + y + (FG.length : Int))
       rw [hN.out] at hS
       go_wp2_with fail
       refine (Zbh lo b x y FG G3_ uj vk N _ hm3 hx hy (by omega) (by omega) hN.out).mono ?_
       rintro e w4 ⟨G4, rfl, hm4, hv4_⟩
       have hv4 := hv3.trans_ hv4_; have ho4 := ho3.mv hv4_; have hz4 := hv4.size; have hl4 := Nat.le_trans hl3 hv4_.size
       have hsu4 := hsu.mv hv4_
       have hre4 := hre.mv hv4_
       clear hm3 ho3 hv3 hv4_ ca na hka0 cb nb hkb0 hsu hre
       have hoA := ho4.alloc_ (.cells #[.int .i64 N] 3); have hmA := hm4.alloc_ (.cells #[.int .i64 N] 3); have hvA := hv4.alloc_ (.cells #[.int .i64 N] 3)
       have hsuA := hsu4.alloc_ (.cells #[.int .i64 N] 3)
       have hreA := hre4.alloc_ (.cells #[.int .i64 N] 3)
       go_wp2_with (at_builtin; refine Zae _ rfl _ _ rfl rfl hoA.1 rfl (Zaj _ _ _ _ (by simp)) (by omega) oM ?_; intro A5 c5 w5 hown5 hg5 hat5 hk5)
       have ho5 := hoA.appQ hmA hown5 hat5; have hm5 := hmA.app hoA hg5
       have hv5 := hvA.grown_ hg5 (fun g hc => by have := (hoA.1.lt g hc).1; omega)
       have hsu5 := hsuA.app hoA hg5 (by omega)
       have hre5 := hreA.app hoA hg5 (by omega)
       have hl5 : LO ≤ w5.heap.size := by have := hg5.size; simp at this; omega
       have hrel1 : MkQ Qo w5 lo b x y (F (j + 1)).g G4 ∧ OM w5 b G4 (LO) (.slice A5 (j + 1) c5) (j + 1) (F (j + 1)).o := by rw [hS.out]; exact ⟨hm5, ho5⟩
       clear hm5 ho5 hS hFj hgl hN huj hoA hmA hvA hown5 hg5 hat5 hk5 hm4 ho4 hv4 hsuA hsu4 hreA hre4
       go_wp2
       go_roundw
       case rel => exact ⟨j + 1, _, _, _, by omega, by go_num, rfl, hrel1.1, hrel1.2, hv5, hl5, hsu5, hre5⟩
       case measure => simp [intOf]; omega
      ·obtain rfl : n = j := Nat.le_antisymm (Nat.le_of_not_lt hjn) hj
       rw [HN.out] at hm3 ho3
       have hgR := HR.out n
       rw [HN.out] at hgR
       obtain ⟨Rg, Ro⟩ := Rn
       obtain ⟨Tg, To, Tc⟩ := T
       dsimp only at hm3 ho3 hgR hT hS1
       go_wp2_with fail
       have q9 := Zeh lo b x y Rg G3_ RA R n rac rc (SO.drop k) Ro _ hm3 hre.toOM.reads ho3.reads hx hy (by omega) (by omega) (by omega)
       rw [hT.out] at q9
       refine q9.mono ?_
       clear q9
       rintro e w6 ⟨G6, T6, t6c, rfl, hm6, hv6_, ho6⟩
       have hv6 := hv3.trans_ hv6_; have hs6 := hsu.mv hv6_; have hz6 := hv6.size
       dsimp only at hm6 ho6
       clear hm3 ho3 hv3 hsu hre hv6_
       go_wp2_with fail
       refine (with_0 (some ⟨g, 0, none⟩) k oc (SO.take k) _ (hs6.1.reads.take_ (Nat.le_of_lt hkm)) (by omega)).mono ?_
       rintro e w7 ⟨R7, r7c, rfl, hown7, hb7⟩
       have ho7 := OM.ofOwnQ hm6 hown7 lR
       have hm7 := hm6.below_ hb7 lR
       have hv7 := hv6.below_ hb7 lR
       have hsu7 := ho6.below_ hb7 lR
       have hz7 := hb7.size
       clear hm6 hv6 ho6 hs6 hown7 hb7
       go_wp2_with (at_builtin; refine Zae _ rfl _ _ rfl rfl ho7.1 rfl hsu7.reads.1 (by omega) oM ?_; intro A8 c8 w8 hown8 hg8 hat8 hk8)
       have ho8 := ho7.appQ hm7 hown8 hat8; have hm8 := hm7.app ho7 hg8
       have hv8 := hv7.grown_ hg8 (fun g hc => by have := (ho7.1.lt g hc).1; omega)
       have hz8 := hg8.size
       have hmA := hm8.alloc_ (.cells #[.int .i64 Tc] 3)
       clear ho7 hm7 hv7 hsu7 hown8 hg8 hat8 hk8
       refine (with_any A8 (some ⟨w8.heap.size, 0, none⟩) (k + n) c8 1 1 (SO.take k ++ To) [Tc] _ (ho8.alloc_ _).reads.1 (RI_new1 _ _ _) (by omega) (by omega)).mono ?_
       rintro e w9' ⟨A10, c10, rfl, hown10, hb10⟩
       have hm10 := hmA.below_ hb10 lR
       have hv10 := (hv8.alloc_ (.cells #[.int .i64 Tc] 3)).below_ hb10 lR
       have ho10 := (OM.ofOwnQ hmA hown10 lR).lo_ (lo' := w.heap.size) (by simp; omega)
       have hrel1 : MkQ Qo w9' lo b x y (P (k + 1)).g G6 ∧ OM w9' b G6 w.heap.size (.slice A10 (k + n + 1) c10) (k + n + 1) (P (k + 1)).o := by rw [hS1.out]; exact ⟨hm10, ho10⟩
       clear hm10 ho10 hmA hm8 ho8 hv8 hown10 hb10 hS1 hT
       go_wp2
       go_roundw
       case rel => exact ⟨k + 1, _, _, _, _, by omega, by go_num, rfl, hrel1.1, hrel1.2, hv10⟩
       case measure => simp [intOf]; omega
  ·obtain rfl : n = k := Nat.le_antisymm (Nat.le_of_not_lt hlt) hk
   go_wp2
   go_ret
   exact RetRowQ.mk_ ho1.len rfl hm1 hv1 ho1
theorem Zem {a : Nat} (ha : a < 9223372036854775808) : (BitVec.ofInt 64 (a : Int)).toNat = a := by
 rw [BitVec.ofInt_natCast, BitVec.toNat_ofNat]; exact Nat.mod_eq_of_lt (by omega)
theorem bor_nat {a b : Nat} (ha : a < 4611686018427387904) (hb : b < 4611686018427387904) : bits .or .i64 (a : Int) (b : Int) = ((a ||| b : Nat) : Int) := by
 have hx : a ||| b < 2 ^ 62 := Nat.or_lt_two_pow (by omega) (by omega)
 show IntKind.i64.wrap ((BitVec.ofInt 64 (a : Int) ||| BitVec.ofInt 64 (b : Int)).toNat : Int) = _
 rw [BitVec.toNat_or, Zem (by omega), Zem (by omega)]
 exact IntWalk.i64_in _ (by omega)
theorem band_nat {a b : Nat} (ha : a < 4611686018427387904) (hb : b < 4611686018427387904) : bits .and .i64 (a : Int) (b : Int) = ((a &&& b : Nat) : Int) := by
 have hx : a &&& b < 2 ^ 62 := Nat.and_lt_two_pow _ (by omega)
 show IntKind.i64.wrap ((BitVec.ofInt 64 (a : Int) &&& BitVec.ofInt 64 (b : Int)).toNat : Int) = _
 rw [BitVec.toNat_and, Zem (by omega), Zem (by omega)]
 exact IntWalk.i64_in _ (by omega)
theorem bxor_nat {a b : Nat} (ha : a < 4611686018427387904) (hb : b < 4611686018427387904) : bits .xor .i64 (a : Int) (b : Int) = ((a ^^^ b : Nat) : Int) := by
 have hx : a ^^^ b < 2 ^ 62 := Nat.xor_lt_two_pow (by omega) (by omega)
 show IntKind.i64.wrap ((BitVec.ofInt 64 (a : Int) ^^^ BitVec.ofInt 64 (b : Int)).toNat : Int) = _
 rw [BitVec.toNat_xor, Zem (by omega), Zem (by omega)]
 exact IntWalk.i64_in _ (by omega)
theorem and_one (n : Nat) : n &&& 1 = n % 2 := Nat.and_one_is_mod n
theorem or_place {a b i : Nat} (h : a < 2 ^ i) : a ||| (b * 2 ^ i) = a + b * 2 ^ i := by
 rw [Nat.or_comm, ← Nat.shiftLeft_eq, ← Nat.shiftLeft_add_eq_or_of_lt h, Nat.add_comm]
def bitsN (n k : Nat) : List Int := tab k fun i => ((n / 2 ^ i % 2 : Nat) : Int)
theorem Zax (n k : Nat) : (bitsN n k).length = k := tab_len _ _
theorem Zes (n k : Nat) : bitsN n (k + 1) = bitsN n k ++ [((n / 2 ^ k % 2 : Nat) : Int)] := tab_snoc _ _
theorem Zcw (n k : Nat) : allB 0 1 (bitsN n k) = true := allB_iff.2 fun x hx => by
 obtain ⟨j, _, rfl⟩ := mem_tab hx; omega
def numN : List Int → Int
 | [] => 0
 | b :: l => b + 2 * numN l
theorem numN_snoc (l : List Int) (b : Int) : numN (l ++ [b]) = numN l + b * 2 ^ l.length := by
 induction l with
 | nil => simp [numN]
 | cons c l ih =>
  simp only [List.cons_append, numN, ih, List.length_cons, Int.pow_succ]
  have : 2 * (b * 2 ^ l.length) = b * (2 ^ l.length * 2) := by rw [Int.mul_comm 2, Int.mul_assoc]
  omega
theorem numN_bd {l : List Int} (h : allB 0 1 l = true) : 0 ≤ numN l ∧ numN l < 2 ^ l.length := by
 induction l with
 | nil => simp [numN]
 | cons c l ih =>
  simp only [allB, List.all_cons, Bool.and_eq_true] at h
  have h1 := inB_iff.1 h.1
  obtain ⟨h2, h3⟩ := ih h.2
  simp only [numN, List.length_cons, Int.pow_succ]
  omega
theorem allB_take_ {lo hi : Int} {l : List Int} (h : allB lo hi l = true) (k : Nat) : allB lo hi (l.take k) = true := allB_iff.2 fun x hx => allB_iff.1 h x (List.mem_of_mem_take hx)
theorem allB_drop_ {lo hi : Int} {l : List Int} (h : allB lo hi l = true) (k : Nat) : allB lo hi (l.drop k) = true := allB_iff.2 fun x hx => allB_iff.1 h x (List.mem_of_mem_drop hx)
theorem pick_bd {lo hi : Int} {l os : List Int} (h : allB lo hi l = true) (ho : allB 0 (l.length - 1) os = true) : allB lo hi (pick l os) = true := allB_iff.2 fun x hx => by
 simp only [pick, List.mem_map] at hx
 obtain ⟨o, hm, rfl⟩ := hx
 have := allB_iff.1 ho o hm
 exact Zdc h (by omega)
theorem or_shift {z x : Int} {i : Nat} (hz : 0 ≤ z ∧ z < 2 ^ i) (hx : 0 ≤ x ∧ x ≤ 1) (hi : i < 40) : bits .or .i64 z (wrap64 (x * 2 ^ i)) = z + x * 2 ^ i := by
 obtain ⟨Z, rfl⟩ := Int.eq_ofNat_of_zero_le hz.1
 obtain ⟨X, rfl⟩ := Int.eq_ofNat_of_zero_le hx.1
 have hX : X ≤ 1 := by omega
 have h1 : Z < 2 ^ i := by have := hz.2; exact_mod_cast this
 have h2 : 2 ^ i ≤ 2 ^ 40 := Nat.pow_le_pow_right (by omega) (by omega)
 have h3 : (2 : Nat) ^ 40 = 1099511627776 := by decide
 have h5 : X * 2 ^ i ≤ 1 * 2 ^ i := Nat.mul_le_mul_right _ hX
 have h4 : ((X : Int) * 2 ^ i) = ((X * 2 ^ i : Nat) : Int) := by rw [Int.natCast_mul, Int.natCast_pow]; rfl
 have h6 : wrap64 ((X : Int) * 2 ^ i) = ((X * 2 ^ i : Nat) : Int) := by rw [h4]; exact IntWalk.wrap64_in ((X * 2 ^ i : Nat) : Int) (by omega)
 rw [h6, h4, bor_nat (by omega) (by omega), or_place h1]; omega
theorem bnext {a b c : World} (h : Below a.heap.size a b) (k : Below b.heap.size b c) : Below a.heap.size a c := h.trans (k.mono h.size)
theorem btOf_any (n k : Nat) (w : World) (hn : n ≤ 1099511627776) (hk : k ≤ 1000000) : Calls Tryz.prog 80 #[.int .i64 n, .int .i64 k] w (RetI w (bitsN n k)) := by
 go_enter Tryz.func80, Tryz.ntmps80
 go_wp2
 go_loopw [5, 0, 1] (fun v a b wr => ∃ (i : Nat) (A' : Option Addr) (c' : Nat), i ≤ k ∧ b = .int .i64 ((k - i : Nat) : Int) ∧ a = .int .i64 ((n / 2 ^ i : Nat) : Int) ∧ v = .slice A' i c' ∧ Own wr w.heap.size wr.heap.size (.slice A' i c') i (bitsN n i) ∧ Below w.heap.size w wr) (fun _ _ b _ => (intOf b).toNat)
 case atStart => exact ⟨0, _, _, Nat.zero_le _, rfl, by simp, rfl, Own.none_ _ _ _, Below.refl _ _⟩
 case round =>
  obtain ⟨i, A', c', hi, rfl, rfl, rfl, hown, hbw⟩ := hrel
  by_cases hlt : i < k
  ·have hsn : Hid (bitsN n (i + 1) = bitsN n i ++ [((n / 2 ^ i % 2 : Nat) : Int)]) := zH (Zes n i)
   have hdv : Hid (n / 2 ^ (i + 1) = n / 2 ^ i / 2) := zH (by rw [Nat.pow_succ, Nat.div_div_eq_div_mul])
   have hle : n / 2 ^ i ≤ n := Nat.div_le_self _ _
   generalize n / 2 ^ i = z at *
   have hz := hbw.size
   rw [Int.natCast_emod] at hsn
   have hownA := hown.alloc (.cells #[.int .i64 ((z : Int) % 2)] 3)
   have hbA := hbw.alloc hz (.cells #[.int .i64 ((z : Int) % 2)] 3)
   go_wp2_with (at_builtin; refine Zal _ rfl _ _ rfl rfl hownA rfl (Zaj _ _ _ _ (by simp)) (by omega) oM ?_; intro A5 c5 w5 hown5 hg5 hat5)
   have hb5 := Zah hbA hownA hg5 (by simp; omega) lR
   rw [show [(z : Int) % ((2 : Nat) : Int)] = [(z : Int) % 2] from rfl] at hsn
   rw [← hsn.out] at hown5
   clear hbA hownA hg5 hat5 hown hbw
   go_wp2
   go_roundw
   case rel => exact ⟨i + 1, _, _, by omega, by go_num, by rw [hdv.out]; go_num, rfl, hown5, hb5⟩
   case measure => simp [intOf]; omega
  ·obtain rfl : i = k := by omega
   go_wp2
   go_ret
   exact RetI.mk_ (Zax _ _) rfl hown hbw
theorem Zdx (n k : Nat) (w : World) (hn : n ≤ 1099511627776) (hk : k ≤ 40) : Calls Tryz.prog 76 #[.int .i64 n, .int .i64 k] w (RetI w (bitsN n k)) := by
 go_enter Tryz.func76, Tryz.ntmps76
 go_wp2
 go_loopw [5, 9] (fun v b wr => ∃ (i : Nat) (A' : Option Addr) (c' : Nat), i ≤ k ∧ b = .int .i64 i ∧ v = .slice A' i c' ∧ Own wr w.heap.size wr.heap.size (.slice A' i c') i (bitsN n i) ∧ Below w.heap.size w wr) (fun _ b _ => k - (intOf b).toNat)
 case atStart => exact ⟨0, _, _, Nat.zero_le _, rfl, rfl, by simpa [bitsN, tab_zero] using Zcc w w.heap.size lR, bA⟩
 case round =>
  obtain ⟨i, A', c', hi, rfl, rfl, hown, hbw⟩ := hrel
  by_cases hlt : i < k
  ·have hsn : Hid (bitsN n (i + 1) = bitsN n i ++ [((n / 2 ^ i % 2 : Nat) : Int)]) := zH (Zes n i)
   have hz := hbw.size
   have hle : n / 2 ^ i ≤ n := Nat.div_le_self _ _
   have hq : Hid (bits .and .i64 ((n : Int) / 2 ^ i) 1 = ((n / 2 ^ i % 2 : Nat) : Int)) := zH (by
    have h1 := band_nat (a := n / 2 ^ i) (b := 1) (by omega) (by omega)
    rw [and_one] at h1
    rw [← h1]; simp [Int.natCast_ediv, Int.natCast_pow])
   rw [← hq.out] at hsn
   have hownA := hown.alloc (.cells #[.int .i64 (bits .and .i64 ((n : Int) / 2 ^ i) 1)] 3)
   have hbA := hbw.alloc hz (.cells #[.int .i64 (bits .and .i64 ((n : Int) / 2 ^ i) 1)] 3)
   go_wp2_with (at_builtin; refine Zal _ rfl _ _ rfl rfl hownA rfl (Zaj _ _ _ _ (by simp)) (by omega) oM ?_; intro A5 c5 w5 hown5 hg5 hat5)
   have hb5 := Zah hbA hownA hg5 (by simp; omega) lR
   rw [← hsn.out] at hown5
   clear hbA hownA hg5 hat5 hown hbw
   go_wp2
   go_roundw
   case rel => exact ⟨i + 1, _, _, by omega, by go_num, rfl, hown5, hb5⟩
   case measure => simp [intOf]; omega
  ·obtain rfl : i = k := by omega
   go_wp2
   go_ret
   exact RetI.mk_ (Zax _ _) rfl hown hbw
theorem number_any (A : Option Addr) (n c : Nat) (xs : List Int) (w : World) (ha : RI w A n xs) (hn : n ≤ 40) (hx : allB 0 1 xs = true) : Calls Tryz.prog 100 #[.slice A n c] w fun e w' => e = .returned (.int .i64 (numN xs)) ∧ w = w' := by
 have hl := ha.len
 have HB := zH fun i => numN_bd (allB_take_ hx i)
 go_enter Tryz.func100, Tryz.ntmps100
 go_wp2
 go_loop [3, 8] (fun v b => ∃ i : Nat, i ≤ n ∧ b = .int .i64 i ∧ v = .int .i64 (numN (xs.take i))) (fun _ b => n - (intOf b).toNat)
 case atStart => exact ⟨0, Nat.zero_le _, rfl, rfl⟩
 case round =>
  obtain ⟨i, hi, rfl, rfl⟩ := hrel
  by_cases hlt : i < n
  ·obtain ⟨b, o, rfl, hbB, e1⟩ := ha.at_ (k := i) hlt
   clear ha
   obtain ⟨c1, c2⟩ := Zdc hx (j := i) (by omega)
   obtain ⟨b1, b2⟩ := HB.out i
   have hs : Hid (numN (xs.take (i + 1)) = numN (xs.take i) + gi xs i * 2 ^ i) := zH (by
    rw [Zbj (by omega), numN_snoc, List.length_take, Nat.min_eq_left (by omega)])
   have hln : (xs.take i).length = i := by simp; omega
   rw [hln] at b2
   generalize numN (xs.take i) = z at *
   generalize gi xs i = x at *
   have hq : Hid (bits .or .i64 z (wrap64 (x * 2 ^ i)) = z + x * 2 ^ i) := zH (or_shift ⟨b1, b2⟩ ⟨c1, c2⟩ (by omega))
   clear b1 b2
   go_wp2
   go_round
   case rel => exact ⟨i + 1, by omega, by go_num, by rw [hs.out, hq.out]⟩
   case measure => simp [intOf]; omega
  ·obtain rfl : i = n := by omega
   have ht : Hid (numN (xs.take i) = numN xs) := zH (by rw [List.take_of_length_le (by omega)])
   go_wp2
   go_ret
   exact ⟨by rw [← ht.out]; rfl, rfl⟩
set_option maxRecDepth 100000 in
set_option maxHeartbeats 800000 in
theorem ciOuts_any (x y : Int) (Ag : Option Addr) (ng cg : Nat) (Ao : Option Addr) (no co : Nat) (A : Option Addr) (n c : Nat) (gs : List G3) (os inp : List Int) (w : World) (hr : RG w Ag ng gs ∧ RI w Ao no os) (ha : RI w A n inp) (hi : allB 0 1 inp = true) (hgat : gatesB n gs ng = true) (hos : allB 0 (((n + ng : Nat) : Int) - 1) os = true) (hng : ng ≤ 300) (hno : no ≤ 40) (hn : n ≤ 40) :
 Calls Tryz.prog 57 #[.agg #[.int .i64 x, .int .i64 y, .slice Ag ng cg, .slice Ao no co], .slice A n c] w (RetI w (pick (vals gs inp ng) os)) := by
 have hB : Below w.heap.size w (w.alloc (.cells #[.int .i64 x, .int .i64 y, .slice Ag ng cg, .slice Ao no co] 38)) := bA
 have hvl : Hid ((vals gs inp ng).length = n + ng) := zH (by rw [Zdd, ha.len])
 have hB1 := Zaa hB 1
 go_enter Tryz.func57, Tryz.ntmps57
 go_wp2_with fail
 go_region_held3 (fun w' => w'.cell? ⟨w.heap.size, 0, none⟩ = some (.int .i64 x) ∧ w'.cell? ⟨w.heap.size, 1, none⟩ = some (.int .i64 y) ∧ w'.cell? ⟨w.heap.size, 2, none⟩ = some (.slice Ag ng cg) ∧ w'.cell? ⟨w.heap.size, 3, none⟩ = some (.slice Ao no co))
  (first | go_keep | (go_split_ands; exact ⟨Zab (by assumption) hbP, Zab (by assumption) hbP, Zab (by assumption) hbP, Zab (by assumption) hbP⟩) | (go_split_ands; exact ⟨Zab (by assumption) hbV, Zab (by assumption) hbV, Zab (by assumption) hbV, Zab (by assumption) hbV⟩) | ((try dsimp only); (repeat' apply And.intro) <;> go_keep))
  (first | (go_at_call 105; refine (ciValues_any x y Ag ng cg Ao no co A n c gs inp _ (hr.1.below hB1 lR) (ha.below hB1 lR) hi hgat (by omega) (by omega)).mono ?_; rintro e W3 hV; obtain ⟨AV, cV, rfl, hownV, hbV⟩ := hV.open_ hvl.out) | (go_at_call 104; refine (ciPick_any AV Ao (n + ng) cV no co (vals gs inp ng) os _ hownV.reads (hr.2.below (hB1.trans (hbV.mono hB1.size)) lR) (by omega) (by omega) hos).mono ?_; rintro e W4 hP; obtain ⟨AP, cP, rfl, hownP, hbP⟩ := hP.open_ (pick_len _ _)))
 have hB2 := hB1.trans (hbV.mono hB1.size)
 go_wp2
 go_ret
 exact RetI.mk_ (pick_len _ _) rfl (hownP.lo_ hB2.size) (hB2.trans (hbP.mono hB2.size))
theorem info_ints : (Tryz.prog.info? 24).map (fun i => (i.zero, i.size, i.bytes)) = some (some (.slice none 0 0), 1, 24) := by kernel_rfl
def gl (xss : List (List Int)) (j : Nat) : List Int := xss.getD j []
theorem gl_append_lt {xss yss : List (List Int)} {j : Nat} (h : j < xss.length) : gl (xss ++ yss) j = gl xss j := by
 unfold gl; rw [List.getD_eq_getElem?_getD, List.getD_eq_getElem?_getD, List.getElem?_append_left h]
theorem gl_append_eq {xss : List (List Int)} {ys : List Int} : gl (xss ++ [ys]) xss.length = ys := by simp [gl]
def OwnII (w : World) (lo hi : Nat) (v : Value) (n : Nat) (xss : List (List Int)) : Prop :=
 ∃ vals : List Value, w.ownsRow lo 24 1 v n vals ∧ (∀ g, v.ownBlock = some g → g < hi) ∧ xss.length = n ∧
  (∀ j : Nat, j < n → ∃ A' m c', vals[j]? = some (.slice A' m c') ∧ Own w lo hi (.slice A' m c') m (gl xss j)) ∧
  (∀ (i j : Nat) (u u' : Value), i < j → vals[i]? = some u → vals[j]? = some u' → Apart u u')
theorem Zel {w : World} {lo lo' e e' s s' n n' : Nat} {v v' : Value} {xs xs' : List Value} (h : w.ownsRow lo e s v n xs) (h' : w.ownsRow lo' e' s' v' n' xs') (hne : e ≠ e') : Apart v v' := by
 intro g hg hg'
 rcases h.2 with ⟨rfl, _⟩ | ⟨a, cap, cur, rfl, _, hh, _⟩
 ·simp [Value.ownBlock] at hg
 ·rcases h'.2 with ⟨rfl, _⟩ | ⟨b, cap', cur', rfl, _, hh', _⟩
  ·simp [Value.ownBlock] at hg'
  ·simp only [Value.ownBlock, Option.some.injEq] at hg hg'
   subst hg; subst hg'
   rw [hh] at hh'
   injection hh' with hh'
   injection hh' with _ ht
   exact hne ht
theorem OwnII.none_ (w : World) (lo hi : Nat) : OwnII w lo hi (.slice none 0 0) 0 [] :=
 ⟨[], World.ownsRow_nil w lo _ _, fun g hg => by simp [Value.ownBlock] at hg, rfl, fun j hj => absurd hj (by omega), fun i j u u' _ h => by simp at h⟩
theorem OwnII.lt {w : World} {lo hi n : Nat} {v : Value} {xss : List (List Int)} (h : OwnII w lo hi v n xss) : ∀ g, v.ownBlock = some g → lo ≤ g ∧ g < hi ∧ g < w.heap.size := by
 obtain ⟨vals, h1, h2, _⟩ := h
 exact fun g hg => ⟨(h1.lt g hg).1, h2 g hg, (h1.lt g hg).2⟩
theorem OwnII.some_ {w : World} {lo hi n c : Nat} {A : Option Addr} {xss : List (List Int)} (h : OwnII w lo hi (.slice A n c) n xss) (hn : 0 < n) : ∃ g, A = some ⟨g, 0, none⟩ ∧ lo ≤ g ∧ g < hi ∧ g < w.heap.size := by
 obtain ⟨vals, h1, h2, _⟩ := h
 obtain ⟨g, cap, hv, h3, h4⟩ := h1.form hn
 simp only [Value.slice.injEq, true_and] at hv
 obtain ⟨rfl, rfl⟩ := hv
 exact ⟨g, rfl, h3, h2 g rfl, h4⟩
theorem ownsRow_chg {w w' : World} {lo lo' hi' e s n : Nat} {v : Value} {xs : List Value} (h : w.ownsRow lo e s v n xs) (k : Chg lo' hi' w w') (hd : ∀ g, v.ownBlock = some g → g < lo' ∨ hi' ≤ g) : w'.ownsRow lo e s v n xs := by
 refine ⟨h.1, ?_⟩
 rcases h.2 with h1 | ⟨g, cap, cur, rfl, hlo, hg, r⟩
 ·exact .inl h1
 ·exact .inr ⟨g, cap, cur, rfl, hlo, by rw [k.block g (h.lt g (by simp [Value.ownBlock])).2 (hd g (by simp [Value.ownBlock]))]; exact hg, r⟩
theorem OwnII.chg {w w' : World} {lo hi lo' hi' n : Nat} {v : Value} {xss : List (List Int)} (h : OwnII w lo hi v n xss) (k : Chg lo' hi' w w') (hd : hi ≤ lo' ∨ hi' ≤ lo) : OwnII w' lo hi v n xss := by
 have hlt := h.lt
 obtain ⟨vals, h1, h2, h3, h4, h5⟩ := h
 refine ⟨vals, ownsRow_chg h1 k (fun g hg => by have := hlt g hg; omega), h2, h3, fun j hj => ?_, h5⟩
 obtain ⟨A', m, c', h6, h7⟩ := h4 j hj
 exact ⟨A', m, c', h6, h7.chg k hd⟩
theorem OwnII.below {w w' : World} {lo hi n : Nat} {v : Value} {xss : List (List Int)} {B : Nat} (h : OwnII w lo hi v n xss) (hb : Below B w w') (hB : w.heap.size ≤ B) : OwnII w' lo hi v n xss := by
 have k : Chg 0 0 w w' := Chg.of_below (hb.mono hB)
 exact h.chg k (.inr (Nat.zero_le _))
end Go.Proofs.YtenknpcbbcbciaaGreat
