/- Adders of a maker whose outs are any slice. -/
import Derived.Test.YtenknpcbbcbciaaGreatQS09
namespace Go.Proofs.YtenknpcbbcbciaaGreat
open Go.RowKit
set_option linter.unusedVariables false
set_option linter.unusedSimpArgs false
variable {Qo : OQ}
set_option maxRecDepth 100000 in
set_option maxHeartbeats 8000000 in
theorem Zeh (lo b : Nat) (x y : Int) (g0 : List G3) (G : Option Nat) (A B : Option Addr) (n c d : Nat) (us vs : List Int) (w : World) (hm : MkQ Qo w lo b x y g0 G) (ha : RM w b G A n us) (hb : RM w b G B n vs) (hx : 0 ≤ x ∧ x ≤ 20) (hy : 0 ≤ y ∧ y ≤ 20) (hg : g0.length ≤ 50000) (hn : n ≤ 100) (hlo : lo ≤ w.heap.size) :
 Calls Tryz.prog 161 #[.pointer (some ⟨b, 0, none⟩), .slice A n c, .slice B n d] w (RetAdQ Qo lo b x y (addS (x + y) g0 us vs n) G n w) := by
 have HG : Hid (∀ i, (addS (x + y) g0 us vs i).g.length ≤ g0.length + 5 * i) := zH (addS_g (x + y) g0 us vs)
 have HO : Hid (∀ i, (addS (x + y) g0 us vs i).o.length = i) := zH (addS_o (x + y) g0 us vs)
 have HC : Hid (∀ i, 0 ≤ (addS (x + y) g0 us vs (i + 1)).c) := zH (addS_c (by omega) g0 us vs)
 have H0 : Hid (addS (x + y) g0 us vs 0 = ⟨g0, [], -1⟩) := zH rfl
 have HS : Hid (∀ i, addS (x + y) g0 us vs (i + 1) = addStep (x + y + (addS (x + y) g0 us vs i).g.length) (gi us i) (gi vs i) i (addS (x + y) g0 us vs i)) := zH fun i => rfl
 generalize addS (x + y) g0 us vs = S at *
 have hst : MkQ Qo (w.alloc (.cells #[] 3)) lo b x y (S 0).g G ∧ OM (w.alloc (.cells #[] 3)) b G w.heap.size (.slice (some ⟨w.heap.size, 0, none⟩) 0 0) 0 (S 0).o ∧ Mv b G G w (w.alloc (.cells #[] 3)) := by
  rw [H0.out]; exact ⟨hm.alloc_ _, OM.new0Q hm lR, (Mv.refl_ b G w).alloc_ _⟩
 obtain ⟨hm0, ho0, hv0⟩ := hst
 have hc0 : (S 0).c = -1 := by rw [H0.out]
 go_enter Tryz.func161, Tryz.ntmps161
 go_wp2
 go_loopw [8, 9, 16] (fun o v i wr => ∃ (k : Nat) (O : Option Addr) (oc : Nat) (G1 : Option Nat), k ≤ n ∧ i = .int .i64 k ∧ v = .int .i64 (S k).c ∧ o = .slice O k oc ∧ MkQ Qo wr lo b x y (S k).g G1 ∧ OM wr b G1 w.heap.size (.slice O k oc) k (S k).o ∧ Mv b G G1 w wr) (fun _ _ i _ => n - (intOf i).toNat)
 case atStart => exact ⟨0, _, _, _, Nat.zero_le _, rfl, by rw [hc0], rfl, hm0, ho0, hv0⟩
 case round =>
  obtain ⟨k, O, oc, G1, hk, rfl, rfl, rfl, hm1, ho1, hv1⟩ := hrel
  clear hm0 ho0 hv0
  have hz1 := hv1.size
  by_cases hlt : k < n
  ·obtain ⟨ka, oa, rfl, hka, ca⟩ := ha.1.at_ hlt
   obtain ⟨kb, ob, rfl, hkb, cb⟩ := hb.1.at_ hlt
   obtain ⟨va, hva⟩ := lT (gi us k)
   obtain ⟨vb, hvb⟩ := lT (gi vs k)
   have hgl := HG.out k
   obtain ⟨SG, SO, SC, hSk⟩ : ∃ SG SO SC, Hid (S k = ⟨SG, SO, SC⟩) := ⟨_, _, _, zH rfl⟩
   have hS := zH (HS.out k)
   rw [hSk.out] at hm1 ho1 hgl
   rw [hva.out, hvb.out, hSk.out] at hS
   dsimp only at hm1 ho1 hgl hS
   obtain ⟨N, hN⟩ := lT (x + y + (SG.length : Int))
   rw [hN.out] at hS
   clear ca cb hka hkb
   have hcS : (S k).c = SC := by rw [hSk.out]
   rw [hcS]
   by_cases h0 : k = 0
   ·have hz : ((k : Int) == 0) = true := by simp [h0]
    have hS1 : Hid (S (k + 1) = ⟨SG ++ [⟨0, va, vb⟩] ++ [⟨1, va, vb⟩], SO ++ [N], N + 1⟩) := zH (by rw [hS.out]; simp [addStep, h0])
    clear h0
    obtain ⟨ca, na, hka0⟩ := ha.cellV hv1 hlt hva
    obtain ⟨cb, nb, hkb0⟩ := hb.cellV hv1 hlt hvb
    have hfar := ho1.far
    go_wp2_with fail
    go_region_held3 (fun w' => w'.cell? ⟨ka, oa + k, none⟩ = some (.int .i64 va) ∧ w'.cell? ⟨kb, ob + k, none⟩ = some (.int .i64 vb))
     (first | (go_keep; done) | (go_split_ands; exact ⟨hv2_.cellF (by assumption) na, hv2_.cellF (by assumption) nb⟩) | (go_split_ands; exact ⟨hk5 _ _ _ (by assumption) (fun g9 hg9 he9 => by have := hfar _ hg9; omega), hk5 _ _ _ (by assumption) (fun g9 hg9 he9 => by have := hfar _ hg9; omega)⟩) | (go_split_ands; (repeat' apply And.intro) <;> (repeat (refine (World.cell?_setCell_other _ _ _ _ (by first | (simp; done) | (simp; omega))).trans ?_)) <;> assumption))
     (first | (go_at_call 166; refine (Zaw lo b x y SG G1 va vb N _ (hm1.drewN_ 1) hx hy oN (Nat.le_trans hlo (hv1.drewN_ 1).size) (by have := hN.out; first | omega | (simp; omega))).mono ?_; rintro e w2 ⟨G2, rfl, hm2, hv2_⟩; have hv2 := (hv1.drewN_ 1).trans_ hv2_; have hz2 := hv2.size; have ho2 := (ho1.drewN_ 1).mv hv2_; have na2 := hv2_.offF (Nat.lt_of_lt_of_le hka0 (hv1.drewN_ 1).size) na; have nb2 := hv2_.offF (Nat.lt_of_lt_of_le hkb0 (hv1.drewN_ 1).size) nb) | (refine Zcd _ (by rfl) _ _ (by rfl) (by rfl) ((ho2.alloc_ (.cells #[.int .i64 N] 3)).1) (by rfl) (Zaj _ _ _ _ (by simp)) (by omega) oM ?_; intro A5 c5 w5 hown5 hg5 hat5 hk5))
    clear hm1 ho1 hv1 hv2_ na2 nb2
    have hoA := ho2.alloc_ (.cells #[.int .i64 N] 3); have hmA := hm2.alloc_ (.cells #[.int .i64 N] 3); have hvA := hv2.alloc_ (.cells #[.int .i64 N] 3)
    have ho3 := hoA.appQ hmA hown5 hat5; have hm3 := hmA.app hoA hg5; have hv3 := hvA.app hoA hg5; have hz3 := hv3.size; clear hoA hmA hvA hown5 hg5 hat5 hk5 hv2 ho2 hm2
    clear hfar
    clear ca na hka0 cb nb hkb0
    obtain ⟨ca, na, hka0⟩ := ha.cellV hv3 hlt hva
    obtain ⟨cb, nb, hkb0⟩ := hb.cellV hv3 hlt hvb
    go_wp2_with fail
    go_region_held3 (fun w' => w'.cell? ⟨ka, oa + k, none⟩ = some (.int .i64 va) ∧ w'.cell? ⟨kb, ob + k, none⟩ = some (.int .i64 vb))
     (first | (go_keep; done) | (go_split_ands; exact ⟨hv4_.cellF (by assumption) na, hv4_.cellF (by assumption) nb⟩) | (go_split_ands; (repeat' apply And.intro) <;> (repeat (refine (World.cell?_setCell_other _ _ _ _ (by first | (simp; done) | (simp; omega))).trans ?_)) <;> assumption))
     (first | (go_at_call 165; refine (Zbh lo b x y (SG ++ [⟨0, va, vb⟩]) G2 va vb (N + 1) _ (hm3.drewN_ 1) hx hy oN (Nat.le_trans hlo (hv3.drewN_ 1).size) (by have := hN.out; first | omega | (simp; omega))).mono ?_; rintro e w4 ⟨G4, rfl, hm4, hv4_⟩; have hv4 := (hv3.drewN_ 1).trans_ hv4_; have hz4 := hv4.size; have ho4 := (ho3.drewN_ 1).mv hv4_; have na4 := hv4_.offF (Nat.lt_of_lt_of_le hka0 (hv3.drewN_ 1).size) na; have nb4 := hv4_.offF (Nat.lt_of_lt_of_le hkb0 (hv3.drewN_ 1).size) nb))
    clear hm3 ho3 hv3 hv4_ na4 nb4
    clear ca na hka0 cb nb hkb0
    have hck : Hid ((S (k + 1)).c = N + 1) := zH (by rw [hS1.out])
    have hrel1 : MkQ Qo w4 lo b x y (S (k + 1)).g G4 ∧ OM w4 b G4 w.heap.size (.slice A5 (k + 1) c5) (k + 1) (S (k + 1)).o := by rw [hS1.out]; exact ⟨hm4, ho4⟩
    clear hm4 ho4 hS hS1 hSk hgl hN hva hvb hcS
    go_wp2
    go_roundw
    case rel => exact ⟨k + 1, _, _, _, by omega, by go_num, by rw [hck.out], rfl, hrel1.1, hrel1.2, hv4⟩
    case measure => simp [intOf]; omega
   ·have hz : ((k : Int) == 0) = false := by simp [h0]
    have hS1 : Hid (S (k + 1) = ⟨SG ++ [⟨0, va, SC⟩] ++ [⟨0, vb, SC⟩] ++ [⟨0, N, vb⟩] ++ [⟨1, N, N + 1⟩] ++ [⟨0, N + 3, SC⟩], SO ++ [N + 2], N + 4⟩) := zH (by rw [hS.out]; simp [addStep, h0])
    clear h0
    obtain ⟨ca, na, hka0⟩ := ha.cellV hv1 hlt hva
    go_wp2_with fail
    refine (Zaw lo b x y SG G1 va SC N _ hm1 hx hy oN (by have := hv1.size; omega) (by have := hN.out; first | omega | (simp; omega))).mono ?_
    rintro e w2 ⟨G2, rfl, hm2, hv2_⟩
    have hv2 := hv1.trans_ hv2_; have ho2 := ho1.mv hv2_; have hz2 := hv2.size; clear hv1 ho1 hm1 hv2_
    clear ca na hka0
    obtain ⟨cb, nb, hkb0⟩ := hb.cellV hv2 hlt hvb
    go_wp2_with fail
    refine (Zaw lo b x y (SG ++ [⟨0, va, SC⟩]) G2 vb SC (N + 1) _ hm2 hx hy oN (by have := hv2.size; omega) (by have := hN.out; first | omega | (simp; omega))).mono ?_
    rintro e w3 ⟨G3, rfl, hm3, hv3_⟩
    have hv3 := hv2.trans_ hv3_; have ho3 := ho2.mv hv3_; have hz3 := hv3.size; clear hv2 ho2 hm2 hv3_
    clear cb nb hkb0
    obtain ⟨cb, nb, hkb0⟩ := hb.cellV hv3 hlt hvb
    go_wp2_with fail
    refine (Zaw lo b x y (SG ++ [⟨0, va, SC⟩] ++ [⟨0, vb, SC⟩]) G3 N vb (N + 2) _ hm3 hx hy oN (by have := hv3.size; omega) (by have := hN.out; first | omega | (simp; omega))).mono ?_
    rintro e w4 ⟨G4, rfl, hm4, hv4_⟩
    have hv4 := hv3.trans_ hv4_; have ho4 := ho3.mv hv4_; have hz4 := hv4.size; clear hv3 ho3 hm3 hv4_
    clear cb nb hkb0
    have hoA := ho4.alloc_ (.cells #[.int .i64 (N + 2)] 3); have hmA := hm4.alloc_ (.cells #[.int .i64 (N + 2)] 3); have hvA := hv4.alloc_ (.cells #[.int .i64 (N + 2)] 3)
    go_wp2_with (at_builtin; refine Zae _ rfl _ _ rfl rfl hoA.1 rfl (Zaj _ _ _ _ (by simp)) (by omega) oM ?_; intro A5 c5 w5 hown5 hg5 hat5 hk5)
    have ho5 := hoA.appQ hmA hown5 hat5; have hm5 := hmA.app hoA hg5; have hv5 := hvA.app hoA hg5; have hz5 := hv5.size; clear hoA hmA hvA hown5 hg5 hat5 hk5 hv4 ho4 hm4
    go_wp2_with fail
    refine (Zbh lo b x y (SG ++ [⟨0, va, SC⟩] ++ [⟨0, vb, SC⟩] ++ [⟨0, N, vb⟩]) G4 N (N + 1) (N + 3) _ hm5 hx hy oN (by have := hv5.size; omega) (by have := hN.out; first | omega | (simp; omega))).mono ?_
    rintro e w6 ⟨G6, rfl, hm6, hv6_⟩
    have hv6 := hv5.trans_ hv6_; have ho6 := ho5.mv hv6_; have hz6 := hv6.size; clear hv5 ho5 hm5 hv6_
    go_wp2_with fail
    refine (Zaw lo b x y (SG ++ [⟨0, va, SC⟩] ++ [⟨0, vb, SC⟩] ++ [⟨0, N, vb⟩] ++ [⟨1, N, N + 1⟩]) G6 (N + 3) SC (N + 4) _ hm6 hx hy oN (by have := hv6.size; omega) (by have := hN.out; first | omega | (simp; omega))).mono ?_
    rintro e w7 ⟨G7, rfl, hm7, hv7_⟩
    have hv7 := hv6.trans_ hv7_; have ho7 := ho6.mv hv7_; have hz7 := hv7.size; clear hv6 ho6 hm6 hv7_
    have hck : Hid ((S (k + 1)).c = N + 4) := zH (by rw [hS1.out])
    have hrel1 : MkQ Qo w7 lo b x y (S (k + 1)).g G7 ∧ OM w7 b G7 w.heap.size (.slice A5 (k + 1) c5) (k + 1) (S (k + 1)).o := by rw [hS1.out]; exact ⟨hm7, ho7⟩
    clear hm7 ho7 hS hS1 hSk hgl hN hva hvb hcS
    go_wp2
    go_roundw
    case rel => exact ⟨k + 1, _, _, _, by omega, by go_num, by rw [hck.out], rfl, hrel1.1, hrel1.2, hv7⟩
    case measure => simp [intOf]; omega
  ·obtain rfl : n = k := Nat.le_antisymm (Nat.le_of_not_lt hlt) hk
   go_wp2
   go_ret2
   exact ⟨_, _, _, rfl, hm1, hv1, ho1⟩
set_option maxRecDepth 100000 in
set_option maxHeartbeats 8000000 in
theorem Zed (lo b : Nat) (x y : Int) (g0 : List G3) (G : Option Nat) (A B : Option Addr) (n c d : Nat) (us vs : List Int) (w : World) (hm : MkQ Qo w lo b x y g0 G) (ha : RM w b G A n us) (hb : RM w b G B n vs) (hx : 0 ≤ x ∧ x ≤ 20) (hy : 0 ≤ y ∧ y ≤ 20) (hg : g0.length ≤ 50000) (hn : n ≤ 100) (hlo : lo ≤ w.heap.size) :
 Calls Tryz.prog 162 #[.pointer (some ⟨b, 0, none⟩), .slice A n c, .slice B n d] w (RetAdQ Qo lo b x y (subS (x + y) g0 us vs n) G n w) := by
 have HG : Hid (∀ i, (subS (x + y) g0 us vs i).g.length ≤ g0.length + 6 * i) := zH (subS_g (x + y) g0 us vs)
 have HO : Hid (∀ i, (subS (x + y) g0 us vs i).o.length = i) := zH (subS_o (x + y) g0 us vs)
 have HC : Hid (∀ i, 0 ≤ (subS (x + y) g0 us vs (i + 1)).c) := zH (subS_c (by omega) g0 us vs)
 have H0 : Hid (subS (x + y) g0 us vs 0 = ⟨g0, [], -1⟩) := zH rfl
 have HS : Hid (∀ i, subS (x + y) g0 us vs (i + 1) = subStep (x + y + (subS (x + y) g0 us vs i).g.length) (gi us i) (gi vs i) i (subS (x + y) g0 us vs i)) := zH fun i => rfl
 generalize subS (x + y) g0 us vs = S at *
 have hst : MkQ Qo (w.alloc (.cells #[] 3)) lo b x y (S 0).g G ∧ OM (w.alloc (.cells #[] 3)) b G w.heap.size (.slice (some ⟨w.heap.size, 0, none⟩) 0 0) 0 (S 0).o ∧ Mv b G G w (w.alloc (.cells #[] 3)) := by
  rw [H0.out]; exact ⟨hm.alloc_ _, OM.new0Q hm lR, (Mv.refl_ b G w).alloc_ _⟩
 obtain ⟨hm0, ho0, hv0⟩ := hst
 have hc0 : (S 0).c = -1 := by rw [H0.out]
 go_enter Tryz.func162, Tryz.ntmps162
 go_wp2
 go_loopw [8, 9, 17] (fun o v i wr => ∃ (k : Nat) (O : Option Addr) (oc : Nat) (G1 : Option Nat), k ≤ n ∧ i = .int .i64 k ∧ v = .int .i64 (S k).c ∧ o = .slice O k oc ∧ MkQ Qo wr lo b x y (S k).g G1 ∧ OM wr b G1 w.heap.size (.slice O k oc) k (S k).o ∧ Mv b G G1 w wr) (fun _ _ i _ => n - (intOf i).toNat)
 case atStart => exact ⟨0, _, _, _, Nat.zero_le _, rfl, by rw [hc0], rfl, hm0, ho0, hv0⟩
 case round =>
  obtain ⟨k, O, oc, G1, hk, rfl, rfl, rfl, hm1, ho1, hv1⟩ := hrel
  clear hm0 ho0 hv0
  have hz1 := hv1.size
  by_cases hlt : k < n
  ·obtain ⟨ka, oa, rfl, hka, ca⟩ := ha.1.at_ hlt
   obtain ⟨kb, ob, rfl, hkb, cb⟩ := hb.1.at_ hlt
   obtain ⟨va, hva⟩ := lT (gi us k)
   obtain ⟨vb, hvb⟩ := lT (gi vs k)
   have hgl := HG.out k
   obtain ⟨SG, SO, SC, hSk⟩ : ∃ SG SO SC, Hid (S k = ⟨SG, SO, SC⟩) := ⟨_, _, _, zH rfl⟩
   have hS := zH (HS.out k)
   rw [hSk.out] at hm1 ho1 hgl
   rw [hva.out, hvb.out, hSk.out] at hS
   dsimp only at hm1 ho1 hgl hS
   obtain ⟨N, hN⟩ := lT (x + y + (SG.length : Int))
   rw [hN.out] at hS
   clear ca cb hka hkb
   have hcS : (S k).c = SC := by rw [hSk.out]
   rw [hcS]
   by_cases h0 : k = 0
   ·have hz : ((k : Int) == 0) = true := by simp [h0]
    have hS1 : Hid (S (k + 1) = ⟨SG ++ [⟨0, va, vb⟩] ++ [⟨2, va, 0⟩] ++ [⟨1, N + 1, vb⟩], SO ++ [N], N + 2⟩) := zH (by rw [hS.out]; simp [subStep, h0])
    clear h0
    obtain ⟨ca, na, hka0⟩ := ha.cellV hv1 hlt hva
    obtain ⟨cb, nb, hkb0⟩ := hb.cellV hv1 hlt hvb
    have hfar := ho1.far
    go_wp2_with fail
    go_region_held3 (fun w' => w'.cell? ⟨ka, oa + k, none⟩ = some (.int .i64 va) ∧ w'.cell? ⟨kb, ob + k, none⟩ = some (.int .i64 vb))
     (first | (go_keep; done) | (go_split_ands; exact ⟨hv2_.cellF (by assumption) na, hv2_.cellF (by assumption) nb⟩) | (go_split_ands; exact ⟨hk5 _ _ _ (by assumption) (fun g9 hg9 he9 => by have := hfar _ hg9; omega), hk5 _ _ _ (by assumption) (fun g9 hg9 he9 => by have := hfar _ hg9; omega)⟩) | (go_split_ands; (repeat' apply And.intro) <;> (repeat (refine (World.cell?_setCell_other _ _ _ _ (by first | (simp; done) | (simp; omega))).trans ?_)) <;> assumption))
     (first | (go_at_call 166; refine (Zaw lo b x y SG G1 va vb N _ (hm1.drewN_ 1) hx hy oN (Nat.le_trans hlo (hv1.drewN_ 1).size) (by have := hN.out; first | omega | (simp; omega))).mono ?_; rintro e w2 ⟨G2, rfl, hm2, hv2_⟩; have hv2 := (hv1.drewN_ 1).trans_ hv2_; have hz2 := hv2.size; have ho2 := (ho1.drewN_ 1).mv hv2_; have na2 := hv2_.offF (Nat.lt_of_lt_of_le hka0 (hv1.drewN_ 1).size) na; have nb2 := hv2_.offF (Nat.lt_of_lt_of_le hkb0 (hv1.drewN_ 1).size) nb) | (refine Zcd _ (by rfl) _ _ (by rfl) (by rfl) ((ho2.alloc_ (.cells #[.int .i64 N] 3)).1) (by rfl) (Zaj _ _ _ _ (by simp)) (by omega) oM ?_; intro A5 c5 w5 hown5 hg5 hat5 hk5))
    clear hm1 ho1 hv1 hv2_ na2 nb2
    have hoA := ho2.alloc_ (.cells #[.int .i64 N] 3); have hmA := hm2.alloc_ (.cells #[.int .i64 N] 3); have hvA := hv2.alloc_ (.cells #[.int .i64 N] 3)
    have ho3 := hoA.appQ hmA hown5 hat5; have hm3 := hmA.app hoA hg5; have hv3 := hvA.app hoA hg5; have hz3 := hv3.size; clear hoA hmA hvA hown5 hg5 hat5 hk5 hv2 ho2 hm2
    clear hfar
    clear ca na hka0 cb nb hkb0
    obtain ⟨ca, na, hka0⟩ := ha.cellV hv3 hlt hva
    obtain ⟨cb, nb, hkb0⟩ := hb.cellV hv3 hlt hvb
    go_wp2_with fail
    go_region_held3 (fun w' => w'.cell? ⟨ka, oa + k, none⟩ = some (.int .i64 va) ∧ w'.cell? ⟨kb, ob + k, none⟩ = some (.int .i64 vb))
     (first | (go_keep; done) | (go_split_ands; exact ⟨hv5_.cellF (by assumption) na4, hv5_.cellF (by assumption) nb4⟩) | (go_split_ands; exact ⟨hv4_.cellF (by assumption) na, hv4_.cellF (by assumption) nb⟩) | (go_split_ands; (repeat' apply And.intro) <;> (repeat (refine (World.cell?_setCell_other _ _ _ _ (by first | (simp; done) | (simp; omega))).trans ?_)) <;> assumption))
     (first | (go_at_call 153; refine (Zde lo b x y (SG ++ [⟨0, va, vb⟩]) G2 va (N + 1) _ (hm3.drewN_ 1) hx hy oN (Nat.le_trans hlo (hv3.drewN_ 1).size) (by have := hN.out; first | omega | (simp; omega))).mono ?_; rintro e w4 ⟨G4, rfl, hm4, hv4_⟩; have hv4 := (hv3.drewN_ 1).trans_ hv4_; have hz4 := hv4.size; have ho4 := (ho3.drewN_ 1).mv hv4_; have na4 := hv4_.offF (Nat.lt_of_lt_of_le hka0 (hv3.drewN_ 1).size) na; have nb4 := hv4_.offF (Nat.lt_of_lt_of_le hkb0 (hv3.drewN_ 1).size) nb) | (go_at_call 165; refine (Zbh lo b x y (SG ++ [⟨0, va, vb⟩] ++ [⟨2, va, 0⟩]) G4 (N + 1) vb (N + 2) _ hm4 hx hy oN (Nat.le_trans hlo hv4.size) (by have := hN.out; first | omega | (simp; omega))).mono ?_; rintro e w5 ⟨G5, rfl, hm5, hv5_⟩; have hv5 := hv4.trans_ hv5_; have hz5 := hv5.size; have ho5 := ho4.mv hv5_; have na5 := hv5_.offF (Nat.lt_of_lt_of_le hka0 hv4.size) na4; have nb5 := hv5_.offF (Nat.lt_of_lt_of_le hkb0 hv4.size) nb4))
    clear hm3 ho3 hv3 hv4_ hv5_ na4 nb4 na5 nb5
    clear hm4 ho4 hv4
    clear ca na hka0 cb nb hkb0
    have hck : Hid ((S (k + 1)).c = N + 2) := zH (by rw [hS1.out])
    have hrel1 : MkQ Qo w5 lo b x y (S (k + 1)).g G5 ∧ OM w5 b G5 w.heap.size (.slice A5 (k + 1) c5) (k + 1) (S (k + 1)).o := by rw [hS1.out]; exact ⟨hm5, ho5⟩
    clear hm5 ho5 hS hS1 hSk hgl hN hva hvb hcS
    go_wp2
    go_roundw
    case rel => exact ⟨k + 1, _, _, _, by omega, by go_num, by rw [hck.out], rfl, hrel1.1, hrel1.2, hv5⟩
    case measure => simp [intOf]; omega
   ·have hz : ((k : Int) == 0) = false := by simp [h0]
    have hS1 : Hid (S (k + 1) = ⟨SG ++ [⟨0, va, SC⟩] ++ [⟨0, vb, SC⟩] ++ [⟨0, N, vb⟩] ++ [⟨2, N, 0⟩] ++ [⟨1, N + 3, N + 1⟩] ++ [⟨0, N + 4, SC⟩], SO ++ [N + 2], N + 5⟩) := zH (by rw [hS.out]; simp [subStep, h0])
    clear h0
    obtain ⟨ca, na, hka0⟩ := ha.cellV hv1 hlt hva
    go_wp2_with fail
    refine (Zaw lo b x y SG G1 va SC N _ hm1 hx hy oN (by have := hv1.size; omega) (by have := hN.out; first | omega | (simp; omega))).mono ?_
    rintro e w2 ⟨G2, rfl, hm2, hv2_⟩
    have hv2 := hv1.trans_ hv2_; have ho2 := ho1.mv hv2_; have hz2 := hv2.size; clear hv1 ho1 hm1 hv2_
    clear ca na hka0
    obtain ⟨cb, nb, hkb0⟩ := hb.cellV hv2 hlt hvb
    go_wp2_with fail
    refine (Zaw lo b x y (SG ++ [⟨0, va, SC⟩]) G2 vb SC (N + 1) _ hm2 hx hy oN (by have := hv2.size; omega) (by have := hN.out; first | omega | (simp; omega))).mono ?_
    rintro e w3 ⟨G3, rfl, hm3, hv3_⟩
    have hv3 := hv2.trans_ hv3_; have ho3 := ho2.mv hv3_; have hz3 := hv3.size; clear hv2 ho2 hm2 hv3_
    clear cb nb hkb0
    obtain ⟨cb, nb, hkb0⟩ := hb.cellV hv3 hlt hvb
    go_wp2_with fail
    refine (Zaw lo b x y (SG ++ [⟨0, va, SC⟩] ++ [⟨0, vb, SC⟩]) G3 N vb (N + 2) _ hm3 hx hy oN (by have := hv3.size; omega) (by have := hN.out; first | omega | (simp; omega))).mono ?_
    rintro e w4 ⟨G4, rfl, hm4, hv4_⟩
    have hv4 := hv3.trans_ hv4_; have ho4 := ho3.mv hv4_; have hz4 := hv4.size; clear hv3 ho3 hm3 hv4_
    clear cb nb hkb0
    have hoA := ho4.alloc_ (.cells #[.int .i64 (N + 2)] 3); have hmA := hm4.alloc_ (.cells #[.int .i64 (N + 2)] 3); have hvA := hv4.alloc_ (.cells #[.int .i64 (N + 2)] 3)
    go_wp2_with (at_builtin; refine Zae _ rfl _ _ rfl rfl hoA.1 rfl (Zaj _ _ _ _ (by simp)) (by omega) oM ?_; intro A5 c5 w5 hown5 hg5 hat5 hk5)
    have ho5 := hoA.appQ hmA hown5 hat5; have hm5 := hmA.app hoA hg5; have hv5 := hvA.app hoA hg5; have hz5 := hv5.size; clear hoA hmA hvA hown5 hg5 hat5 hk5 hv4 ho4 hm4
    go_wp2_with fail
    refine (Zde lo b x y (SG ++ [⟨0, va, SC⟩] ++ [⟨0, vb, SC⟩] ++ [⟨0, N, vb⟩]) G4 N (N + 3) _ hm5 hx hy oN (by have := hv5.size; omega) (by have := hN.out; first | omega | (simp; omega))).mono ?_
    rintro e w6 ⟨G6, rfl, hm6, hv6_⟩
    have hv6 := hv5.trans_ hv6_; have ho6 := ho5.mv hv6_; have hz6 := hv6.size; clear hv5 ho5 hm5 hv6_
    go_wp2_with fail
    refine (Zbh lo b x y (SG ++ [⟨0, va, SC⟩] ++ [⟨0, vb, SC⟩] ++ [⟨0, N, vb⟩] ++ [⟨2, N, 0⟩]) G6 (N + 3) (N + 1) (N + 4) _ hm6 hx hy oN (by have := hv6.size; omega) (by have := hN.out; first | omega | (simp; omega))).mono ?_
    rintro e w7 ⟨G7, rfl, hm7, hv7_⟩
    have hv7 := hv6.trans_ hv7_; have ho7 := ho6.mv hv7_; have hz7 := hv7.size; clear hv6 ho6 hm6 hv7_
    go_wp2_with fail
    refine (Zaw lo b x y (SG ++ [⟨0, va, SC⟩] ++ [⟨0, vb, SC⟩] ++ [⟨0, N, vb⟩] ++ [⟨2, N, 0⟩] ++ [⟨1, N + 3, N + 1⟩]) G7 (N + 4) SC (N + 5) _ hm7 hx hy oN (by have := hv7.size; omega) (by have := hN.out; first | omega | (simp; omega))).mono ?_
    rintro e w8 ⟨G8, rfl, hm8, hv8_⟩
    have hv8 := hv7.trans_ hv8_; have ho8 := ho7.mv hv8_; have hz8 := hv8.size; clear hv7 ho7 hm7 hv8_
    have hck : Hid ((S (k + 1)).c = N + 5) := zH (by rw [hS1.out])
    have hrel1 : MkQ Qo w8 lo b x y (S (k + 1)).g G8 ∧ OM w8 b G8 w.heap.size (.slice A5 (k + 1) c5) (k + 1) (S (k + 1)).o := by rw [hS1.out]; exact ⟨hm8, ho8⟩
    clear hm8 ho8 hS hS1 hSk hgl hN hva hvb hcS
    go_wp2
    go_roundw
    case rel => exact ⟨k + 1, _, _, _, by omega, by go_num, by rw [hck.out], rfl, hrel1.1, hrel1.2, hv8⟩
    case measure => simp [intOf]; omega
  ·obtain rfl : n = k := Nat.le_antisymm (Nat.le_of_not_lt hlt) hk
   go_wp2
   go_ret2
   exact ⟨_, _, _, rfl, hm1, hv1, ho1⟩
set_option maxRecDepth 100000 in
set_option maxHeartbeats 8000000 in
theorem gdAddQ_any (lo b : Nat) (x y : Int) (g0 : List G3) (G : Option Nat) (A B : Option Addr) (n c d : Nat) (us vs : List Int) (w : World) (hm : MkQ Qo w lo b x y g0 G) (ha : RM w b G A n us) (hb : RM w b G B n vs) (hx : 0 ≤ x ∧ x ≤ 20) (hy : 0 ≤ y ∧ y ≤ 20) (hg : g0.length ≤ 50000) (hn : n ≤ 100) (hlo : lo ≤ w.heap.size) :
 Calls Tryz.prog 141 #[.pointer (some ⟨b, 0, none⟩), .slice A n c, .slice B n d] w (RetRowQ Qo lo b x y (addS (x + y) g0 us vs n).g ((addS (x + y) g0 us vs n).o ++ [(addS (x + y) g0 us vs n).c]) G w) := by
 have HG : Hid (∀ i, (addS (x + y) g0 us vs i).g.length ≤ g0.length + 5 * i) := zH (addS_g (x + y) g0 us vs)
 have HO : Hid (∀ i, (addS (x + y) g0 us vs i).o.length = i) := zH (addS_o (x + y) g0 us vs)
 have HC : Hid (∀ i, 0 ≤ (addS (x + y) g0 us vs (i + 1)).c) := zH (addS_c (by omega) g0 us vs)
 have H0 : Hid (addS (x + y) g0 us vs 0 = ⟨g0, [], -1⟩) := zH rfl
 have HS : Hid (∀ i, addS (x + y) g0 us vs (i + 1) = addStep (x + y + (addS (x + y) g0 us vs i).g.length) (gi us i) (gi vs i) i (addS (x + y) g0 us vs i)) := zH fun i => rfl
 generalize addS (x + y) g0 us vs = S at *
 have hst : MkQ Qo w lo b x y (S 0).g G ∧ OM w b G w.heap.size (.slice none 0 0) 0 (S 0).o ∧ Mv b G G w w := by
  rw [H0.out]; exact ⟨hm, OM.none_ _ _ _ _, Mv.refl_ b G w⟩
 obtain ⟨hm0, ho0, hv0⟩ := hst
 have hc0 : (S 0).c = -1 := by rw [H0.out]
 go_enter Tryz.func141, Tryz.ntmps141
 go_wp2
 go_loopw [7, 8, 17] (fun o v i wr => ∃ (k : Nat) (O : Option Addr) (oc : Nat) (G1 : Option Nat), k ≤ n ∧ i = .int .i64 k ∧ v = .int .i64 (S k).c ∧ o = .slice O k oc ∧ MkQ Qo wr lo b x y (S k).g G1 ∧ OM wr b G1 w.heap.size (.slice O k oc) k (S k).o ∧ Mv b G G1 w wr) (fun _ _ i _ => n - (intOf i).toNat)
 case atStart => exact ⟨0, _, _, _, Nat.zero_le _, rfl, by rw [hc0], rfl, hm0, ho0, hv0⟩
 case round =>
  obtain ⟨k, O, oc, G1, hk, rfl, rfl, rfl, hm1, ho1, hv1⟩ := hrel
  clear hm0 ho0 hv0
  have hz1 := hv1.size
  by_cases hlt : k < n
  ·obtain ⟨ka, oa, rfl, hka, ca⟩ := ha.1.at_ hlt
   obtain ⟨kb, ob, rfl, hkb, cb⟩ := hb.1.at_ hlt
   obtain ⟨va, hva⟩ := lT (gi us k)
   obtain ⟨vb, hvb⟩ := lT (gi vs k)
   have hgl := HG.out k
   obtain ⟨SG, SO, SC, hSk⟩ : ∃ SG SO SC, Hid (S k = ⟨SG, SO, SC⟩) := ⟨_, _, _, zH rfl⟩
   have hS := zH (HS.out k)
   rw [hSk.out] at hm1 ho1 hgl
   rw [hva.out, hvb.out, hSk.out] at hS
   dsimp only at hm1 ho1 hgl hS
   obtain ⟨N, hN⟩ := lT (x + y + (SG.length : Int))
   rw [hN.out] at hS
   clear ca cb hka hkb
   have hcS : (S k).c = SC := by rw [hSk.out]
   rw [hcS]
   by_cases h0 : k = 0
   ·have hcm : SC = -1 := by rw [← hcS, h0]; exact hc0
    subst hcm
    have hS1 : Hid (S (k + 1) = ⟨SG ++ [⟨0, va, vb⟩] ++ [⟨1, va, vb⟩], SO ++ [N], N + 1⟩) := zH (by rw [hS.out]; simp [addStep, h0])
    clear h0
    obtain ⟨ca, na, hka0⟩ := ha.cellV hv1 hlt hva
    obtain ⟨cb, nb, hkb0⟩ := hb.cellV hv1 hlt hvb
    go_wp2_with fail
    refine (Zaq lo b x y SG G1 va vb N _ hm1 hx hy oN (by have := hv1.size; omega) (by have := hN.out; first | omega | (simp; omega))).mono ?_
    rintro e w2 ⟨G2, rfl, hm2, hv2_⟩
    have hv2 := hv1.trans_ hv2_; have ho2 := ho1.mv hv2_; have hz2 := hv2.size; clear hv1 ho1 hm1 hv2_
    have hoA := ho2.alloc_ (.cells #[.int .i64 N] 3); have hmA := hm2.alloc_ (.cells #[.int .i64 N] 3); have hvA := hv2.alloc_ (.cells #[.int .i64 N] 3)
    go_wp2_with (at_builtin; refine Zae _ rfl _ _ rfl rfl hoA.1 rfl (Zaj _ _ _ _ (by simp)) (by omega) oM ?_; intro A5 c5 w5 hown5 hg5 hat5 hk5)
    have ho3 := hoA.appQ hmA hown5 hat5; have hm3 := hmA.app hoA hg5; have hv3 := hvA.app hoA hg5; have hz3 := hv3.size; clear hoA hmA hvA hown5 hg5 hat5 hk5 hv2 ho2 hm2
    go_wp2_with fail
    refine (Zba lo b x y (SG ++ [⟨0, va, vb⟩]) G2 va vb (N + 1) _ hm3 hx hy oN (by have := hv3.size; omega) (by have := hN.out; first | omega | (simp; omega))).mono ?_
    rintro e w4 ⟨G4, rfl, hm4, hv4_⟩
    have hv4 := hv3.trans_ hv4_; have ho4 := ho3.mv hv4_; have hz4 := hv4.size; clear hv3 ho3 hm3 hv4_
    have hck : Hid ((S (k + 1)).c = N + 1) := zH (by rw [hS1.out])
    have hrel1 : MkQ Qo w4 lo b x y (S (k + 1)).g G4 ∧ OM w4 b G4 w.heap.size (.slice A5 (k + 1) c5) (k + 1) (S (k + 1)).o := by rw [hS1.out]; exact ⟨hm4, ho4⟩
    clear hm4 ho4 hS hS1 hSk hgl hN hva hvb hcS
    go_wp2
    go_roundw
    case rel => exact ⟨k + 1, _, _, _, by omega, by go_num, by rw [hck.out], rfl, hrel1.1, hrel1.2, hv4⟩
    case measure => simp [intOf]; omega
   ·have hcp : 0 ≤ SC := by
     obtain ⟨j, rfl⟩ : ∃ j, k = j + 1 := ⟨k - 1, by omega⟩
     rw [← hcS]; exact HC.out j
    have hcn : ¬ SC < 0 := by omega
    have hS1 : Hid (S (k + 1) = ⟨SG ++ [⟨0, va, SC⟩] ++ [⟨0, vb, SC⟩] ++ [⟨0, N, vb⟩] ++ [⟨1, N, N + 1⟩] ++ [⟨0, N + 3, SC⟩], SO ++ [N + 2], N + 4⟩) := zH (by rw [hS.out]; simp [addStep, h0])
    clear h0
    obtain ⟨ca, na, hka0⟩ := ha.cellV hv1 hlt hva
    obtain ⟨cb, nb, hkb0⟩ := hb.cellV hv1 hlt hvb
    go_wp2_with fail
    refine (Zaq lo b x y SG G1 va SC N _ hm1 hx hy oN (by have := hv1.size; omega) (by have := hN.out; first | omega | (simp; omega))).mono ?_
    rintro e w2 ⟨G2, rfl, hm2, hv2_⟩
    have hv2 := hv1.trans_ hv2_; have ho2 := ho1.mv hv2_; have hz2 := hv2.size; clear hv1 ho1 hm1 hv2_
    go_wp2_with fail
    refine (Zaq lo b x y (SG ++ [⟨0, va, SC⟩]) G2 vb SC (N + 1) _ hm2 hx hy oN (by have := hv2.size; omega) (by have := hN.out; first | omega | (simp; omega))).mono ?_
    rintro e w3 ⟨G3, rfl, hm3, hv3_⟩
    have hv3 := hv2.trans_ hv3_; have ho3 := ho2.mv hv3_; have hz3 := hv3.size; clear hv2 ho2 hm2 hv3_
    go_wp2_with fail
    refine (Zaq lo b x y (SG ++ [⟨0, va, SC⟩] ++ [⟨0, vb, SC⟩]) G3 N vb (N + 2) _ hm3 hx hy oN (by have := hv3.size; omega) (by have := hN.out; first | omega | (simp; omega))).mono ?_
    rintro e w4 ⟨G4, rfl, hm4, hv4_⟩
    have hv4 := hv3.trans_ hv4_; have ho4 := ho3.mv hv4_; have hz4 := hv4.size; clear hv3 ho3 hm3 hv4_
    have hoA := ho4.alloc_ (.cells #[.int .i64 (N + 2)] 3); have hmA := hm4.alloc_ (.cells #[.int .i64 (N + 2)] 3); have hvA := hv4.alloc_ (.cells #[.int .i64 (N + 2)] 3)
    go_wp2_with (at_builtin; refine Zae _ rfl _ _ rfl rfl hoA.1 rfl (Zaj _ _ _ _ (by simp)) (by omega) oM ?_; intro A5 c5 w5 hown5 hg5 hat5 hk5)
    have ho5 := hoA.appQ hmA hown5 hat5; have hm5 := hmA.app hoA hg5; have hv5 := hvA.app hoA hg5; have hz5 := hv5.size; clear hoA hmA hvA hown5 hg5 hat5 hk5 hv4 ho4 hm4
    go_wp2_with fail
    refine (Zba lo b x y (SG ++ [⟨0, va, SC⟩] ++ [⟨0, vb, SC⟩] ++ [⟨0, N, vb⟩]) G4 N (N + 1) (N + 3) _ hm5 hx hy oN (by have := hv5.size; omega) (by have := hN.out; first | omega | (simp; omega))).mono ?_
    rintro e w6 ⟨G6, rfl, hm6, hv6_⟩
    have hv6 := hv5.trans_ hv6_; have ho6 := ho5.mv hv6_; have hz6 := hv6.size; clear hv5 ho5 hm5 hv6_
    go_wp2_with fail
    refine (Zaq lo b x y (SG ++ [⟨0, va, SC⟩] ++ [⟨0, vb, SC⟩] ++ [⟨0, N, vb⟩] ++ [⟨1, N, N + 1⟩]) G6 (N + 3) SC (N + 4) _ hm6 hx hy oN (by have := hv6.size; omega) (by have := hN.out; first | omega | (simp; omega))).mono ?_
    rintro e w7 ⟨G7, rfl, hm7, hv7_⟩
    have hv7 := hv6.trans_ hv7_; have ho7 := ho6.mv hv7_; have hz7 := hv7.size; clear hv6 ho6 hm6 hv7_
    have hck : Hid ((S (k + 1)).c = N + 4) := zH (by rw [hS1.out])
    have hrel1 : MkQ Qo w7 lo b x y (S (k + 1)).g G7 ∧ OM w7 b G7 w.heap.size (.slice A5 (k + 1) c5) (k + 1) (S (k + 1)).o := by rw [hS1.out]; exact ⟨hm7, ho7⟩
    clear hm7 ho7 hS hS1 hSk hgl hN hva hvb hcS
    go_wp2
    go_roundw
    case rel => exact ⟨k + 1, _, _, _, by omega, by go_num, by rw [hck.out], rfl, hrel1.1, hrel1.2, hv7⟩
    case measure => simp [intOf]; omega
  ·obtain rfl : n = k := Nat.le_antisymm (Nat.le_of_not_lt hlt) hk
   obtain ⟨SC, hSC⟩ := lT ((S n).c)
   rw [hSC.out]
   have hoA := ho1.alloc_ (.cells #[.int .i64 SC] 3); have hmA := hm1.alloc_ (.cells #[.int .i64 SC] 3); have hvA := hv1.alloc_ (.cells #[.int .i64 SC] 3)
   go_wp2_with (at_builtin; refine Zae _ rfl _ _ rfl rfl hoA.1 rfl (Zaj _ _ _ _ (by simp)) (by omega) oM ?_; intro A5 c5 w5 hown5 hg5 hat5 hk5)
   have ho5 := hoA.appQ hmA hown5 hat5; have hm5 := hmA.app hoA hg5; have hv5 := hvA.app hoA hg5
   have hl5 : Hid (((S n).o ++ [(S n).c]).length = n + 1) := zH (by simp [HO.out n])
   rw [← hSC.out] at ho5
   clear hoA hmA hvA hown5 hg5 hat5 hk5 hm1 ho1 hv1
   go_wp2
   go_ret
   exact RetRowQ.mk_ hl5.out rfl hm5 hv5 ho5
set_option maxRecDepth 100000 in
set_option maxHeartbeats 8000000 in
theorem gdSubQ_any (lo b : Nat) (x y : Int) (g0 : List G3) (G : Option Nat) (A B : Option Addr) (n c d : Nat) (us vs : List Int) (w : World) (hm : MkQ Qo w lo b x y g0 G) (ha : RM w b G A n us) (hb : RM w b G B n vs) (hx : 0 ≤ x ∧ x ≤ 20) (hy : 0 ≤ y ∧ y ≤ 20) (hg : g0.length ≤ 50000) (hn : n ≤ 100) (hlo : lo ≤ w.heap.size) :
 Calls Tryz.prog 142 #[.pointer (some ⟨b, 0, none⟩), .slice A n c, .slice B n d] w (RetRowQ Qo lo b x y (subS (x + y) g0 us vs n).g ((subS (x + y) g0 us vs n).o ++ [(subS (x + y) g0 us vs n).c]) G w) := by
 have HG : Hid (∀ i, (subS (x + y) g0 us vs i).g.length ≤ g0.length + 6 * i) := zH (subS_g (x + y) g0 us vs)
 have HO : Hid (∀ i, (subS (x + y) g0 us vs i).o.length = i) := zH (subS_o (x + y) g0 us vs)
 have HC : Hid (∀ i, 0 ≤ (subS (x + y) g0 us vs (i + 1)).c) := zH (subS_c (by omega) g0 us vs)
 have H0 : Hid (subS (x + y) g0 us vs 0 = ⟨g0, [], -1⟩) := zH rfl
 have HS : Hid (∀ i, subS (x + y) g0 us vs (i + 1) = subStep (x + y + (subS (x + y) g0 us vs i).g.length) (gi us i) (gi vs i) i (subS (x + y) g0 us vs i)) := zH fun i => rfl
 generalize subS (x + y) g0 us vs = S at *
 have hst : MkQ Qo w lo b x y (S 0).g G ∧ OM w b G w.heap.size (.slice none 0 0) 0 (S 0).o ∧ Mv b G G w w := by
  rw [H0.out]; exact ⟨hm, OM.none_ _ _ _ _, Mv.refl_ b G w⟩
 obtain ⟨hm0, ho0, hv0⟩ := hst
 have hc0 : (S 0).c = -1 := by rw [H0.out]
 go_enter Tryz.func142, Tryz.ntmps142
 go_wp2
 go_loopw [7, 8, 19] (fun o v i wr => ∃ (k : Nat) (O : Option Addr) (oc : Nat) (G1 : Option Nat), k ≤ n ∧ i = .int .i64 k ∧ v = .int .i64 (S k).c ∧ o = .slice O k oc ∧ MkQ Qo wr lo b x y (S k).g G1 ∧ OM wr b G1 w.heap.size (.slice O k oc) k (S k).o ∧ Mv b G G1 w wr) (fun _ _ i _ => n - (intOf i).toNat)
 case atStart => exact ⟨0, _, _, _, Nat.zero_le _, rfl, by rw [hc0], rfl, hm0, ho0, hv0⟩
 case round =>
  obtain ⟨k, O, oc, G1, hk, rfl, rfl, rfl, hm1, ho1, hv1⟩ := hrel
  clear hm0 ho0 hv0
  have hz1 := hv1.size
  by_cases hlt : k < n
  ·obtain ⟨ka, oa, rfl, hka, ca⟩ := ha.1.at_ hlt
   obtain ⟨kb, ob, rfl, hkb, cb⟩ := hb.1.at_ hlt
   obtain ⟨va, hva⟩ := lT (gi us k)
   obtain ⟨vb, hvb⟩ := lT (gi vs k)
   have hgl := HG.out k
   obtain ⟨SG, SO, SC, hSk⟩ : ∃ SG SO SC, Hid (S k = ⟨SG, SO, SC⟩) := ⟨_, _, _, zH rfl⟩
   have hS := zH (HS.out k)
   rw [hSk.out] at hm1 ho1 hgl
   rw [hva.out, hvb.out, hSk.out] at hS
   dsimp only at hm1 ho1 hgl hS
   obtain ⟨N, hN⟩ := lT (x + y + (SG.length : Int))
   rw [hN.out] at hS
   clear ca cb hka hkb
   have hcS : (S k).c = SC := by rw [hSk.out]
   rw [hcS]
   by_cases h0 : k = 0
   ·have hcm : SC = -1 := by rw [← hcS, h0]; exact hc0
    subst hcm
    have hS1 : Hid (S (k + 1) = ⟨SG ++ [⟨0, va, vb⟩] ++ [⟨2, va, 0⟩] ++ [⟨1, N + 1, vb⟩], SO ++ [N], N + 2⟩) := zH (by rw [hS.out]; simp [subStep, h0])
    clear h0
    obtain ⟨ca, na, hka0⟩ := ha.cellV hv1 hlt hva
    obtain ⟨cb, nb, hkb0⟩ := hb.cellV hv1 hlt hvb
    go_wp2_with fail
    refine (Zaq lo b x y SG G1 va vb N _ hm1 hx hy oN (by have := hv1.size; omega) (by have := hN.out; first | omega | (simp; omega))).mono ?_
    rintro e w2 ⟨G2, rfl, hm2, hv2_⟩
    have hv2 := hv1.trans_ hv2_; have ho2 := ho1.mv hv2_; have hz2 := hv2.size; clear hv1 ho1 hm1 hv2_
    have hoA := ho2.alloc_ (.cells #[.int .i64 N] 3); have hmA := hm2.alloc_ (.cells #[.int .i64 N] 3); have hvA := hv2.alloc_ (.cells #[.int .i64 N] 3)
    go_wp2_with (at_builtin; refine Zae _ rfl _ _ rfl rfl hoA.1 rfl (Zaj _ _ _ _ (by simp)) (by omega) oM ?_; intro A5 c5 w5 hown5 hg5 hat5 hk5)
    have ho3 := hoA.appQ hmA hown5 hat5; have hm3 := hmA.app hoA hg5; have hv3 := hvA.app hoA hg5; have hz3 := hv3.size; clear hoA hmA hvA hown5 hg5 hat5 hk5 hv2 ho2 hm2
    go_wp2_with fail
    refine (Zbw lo b x y (SG ++ [⟨0, va, vb⟩]) G2 va (N + 1) _ hm3 hx hy oN (by have := hv3.size; omega) (by have := hN.out; first | omega | (simp; omega))).mono ?_
    rintro e w4 ⟨G4, rfl, hm4, hv4_⟩
    have hv4 := hv3.trans_ hv4_; have ho4 := ho3.mv hv4_; have hz4 := hv4.size; clear hv3 ho3 hm3 hv4_
    go_wp2_with fail
    refine (Zba lo b x y (SG ++ [⟨0, va, vb⟩] ++ [⟨2, va, 0⟩]) G4 (N + 1) vb (N + 2) _ hm4 hx hy oN (by have := hv4.size; omega) (by have := hN.out; first | omega | (simp; omega))).mono ?_
    rintro e w5 ⟨G5, rfl, hm5, hv5_⟩
    have hv5 := hv4.trans_ hv5_; have ho5 := ho4.mv hv5_; have hz5 := hv5.size; clear hv4 ho4 hm4 hv5_
    have hck : Hid ((S (k + 1)).c = N + 2) := zH (by rw [hS1.out])
    have hrel1 : MkQ Qo w5 lo b x y (S (k + 1)).g G5 ∧ OM w5 b G5 w.heap.size (.slice A5 (k + 1) c5) (k + 1) (S (k + 1)).o := by rw [hS1.out]; exact ⟨hm5, ho5⟩
    clear hm5 ho5 hS hS1 hSk hgl hN hva hvb hcS
    go_wp2
    go_roundw
    case rel => exact ⟨k + 1, _, _, _, by omega, by go_num, by rw [hck.out], rfl, hrel1.1, hrel1.2, hv5⟩
    case measure => simp [intOf]; omega
   ·have hcp : 0 ≤ SC := by
     obtain ⟨j, rfl⟩ : ∃ j, k = j + 1 := ⟨k - 1, by omega⟩
     rw [← hcS]; exact HC.out j
    have hcn : ¬ SC < 0 := by omega
    have hS1 : Hid (S (k + 1) = ⟨SG ++ [⟨0, va, SC⟩] ++ [⟨0, vb, SC⟩] ++ [⟨0, N, vb⟩] ++ [⟨2, N, 0⟩] ++ [⟨1, N + 3, N + 1⟩] ++ [⟨0, N + 4, SC⟩], SO ++ [N + 2], N + 5⟩) := zH (by rw [hS.out]; simp [subStep, h0])
    clear h0
    obtain ⟨ca, na, hka0⟩ := ha.cellV hv1 hlt hva
    obtain ⟨cb, nb, hkb0⟩ := hb.cellV hv1 hlt hvb
    go_wp2_with fail
    refine (Zaq lo b x y SG G1 va SC N _ hm1 hx hy oN (by have := hv1.size; omega) (by have := hN.out; first | omega | (simp; omega))).mono ?_
    rintro e w2 ⟨G2, rfl, hm2, hv2_⟩
    have hv2 := hv1.trans_ hv2_; have ho2 := ho1.mv hv2_; have hz2 := hv2.size; clear hv1 ho1 hm1 hv2_
    go_wp2_with fail
    refine (Zaq lo b x y (SG ++ [⟨0, va, SC⟩]) G2 vb SC (N + 1) _ hm2 hx hy oN (by have := hv2.size; omega) (by have := hN.out; first | omega | (simp; omega))).mono ?_
    rintro e w3 ⟨G3, rfl, hm3, hv3_⟩
    have hv3 := hv2.trans_ hv3_; have ho3 := ho2.mv hv3_; have hz3 := hv3.size; clear hv2 ho2 hm2 hv3_
    go_wp2_with fail
    refine (Zaq lo b x y (SG ++ [⟨0, va, SC⟩] ++ [⟨0, vb, SC⟩]) G3 N vb (N + 2) _ hm3 hx hy oN (by have := hv3.size; omega) (by have := hN.out; first | omega | (simp; omega))).mono ?_
    rintro e w4 ⟨G4, rfl, hm4, hv4_⟩
    have hv4 := hv3.trans_ hv4_; have ho4 := ho3.mv hv4_; have hz4 := hv4.size; clear hv3 ho3 hm3 hv4_
    have hoA := ho4.alloc_ (.cells #[.int .i64 (N + 2)] 3); have hmA := hm4.alloc_ (.cells #[.int .i64 (N + 2)] 3); have hvA := hv4.alloc_ (.cells #[.int .i64 (N + 2)] 3)
    go_wp2_with (at_builtin; refine Zae _ rfl _ _ rfl rfl hoA.1 rfl (Zaj _ _ _ _ (by simp)) (by omega) oM ?_; intro A5 c5 w5 hown5 hg5 hat5 hk5)
    have ho5 := hoA.appQ hmA hown5 hat5; have hm5 := hmA.app hoA hg5; have hv5 := hvA.app hoA hg5; have hz5 := hv5.size; clear hoA hmA hvA hown5 hg5 hat5 hk5 hv4 ho4 hm4
    go_wp2_with fail
    refine (Zbw lo b x y (SG ++ [⟨0, va, SC⟩] ++ [⟨0, vb, SC⟩] ++ [⟨0, N, vb⟩]) G4 N (N + 3) _ hm5 hx hy oN (by have := hv5.size; omega) (by have := hN.out; first | omega | (simp; omega))).mono ?_
    rintro e w6 ⟨G6, rfl, hm6, hv6_⟩
    have hv6 := hv5.trans_ hv6_; have ho6 := ho5.mv hv6_; have hz6 := hv6.size; clear hv5 ho5 hm5 hv6_
    go_wp2_with fail
    refine (Zba lo b x y (SG ++ [⟨0, va, SC⟩] ++ [⟨0, vb, SC⟩] ++ [⟨0, N, vb⟩] ++ [⟨2, N, 0⟩]) G6 (N + 3) (N + 1) (N + 4) _ hm6 hx hy oN (by have := hv6.size; omega) (by have := hN.out; first | omega | (simp; omega))).mono ?_
    rintro e w7 ⟨G7, rfl, hm7, hv7_⟩
    have hv7 := hv6.trans_ hv7_; have ho7 := ho6.mv hv7_; have hz7 := hv7.size; clear hv6 ho6 hm6 hv7_
    go_wp2_with fail
    refine (Zaq lo b x y (SG ++ [⟨0, va, SC⟩] ++ [⟨0, vb, SC⟩] ++ [⟨0, N, vb⟩] ++ [⟨2, N, 0⟩] ++ [⟨1, N + 3, N + 1⟩]) G7 (N + 4) SC (N + 5) _ hm7 hx hy oN (by have := hv7.size; omega) (by have := hN.out; first | omega | (simp; omega))).mono ?_
    rintro e w8 ⟨G8, rfl, hm8, hv8_⟩
    have hv8 := hv7.trans_ hv8_; have ho8 := ho7.mv hv8_; have hz8 := hv8.size; clear hv7 ho7 hm7 hv8_
    have hck : Hid ((S (k + 1)).c = N + 5) := zH (by rw [hS1.out])
    have hrel1 : MkQ Qo w8 lo b x y (S (k + 1)).g G8 ∧ OM w8 b G8 w.heap.size (.slice A5 (k + 1) c5) (k + 1) (S (k + 1)).o := by rw [hS1.out]; exact ⟨hm8, ho8⟩
    clear hm8 ho8 hS hS1 hSk hgl hN hva hvb hcS
    go_wp2
    go_roundw
    case rel => exact ⟨k + 1, _, _, _, by omega, by go_num, by rw [hck.out], rfl, hrel1.1, hrel1.2, hv8⟩
    case measure => simp [intOf]; omega
  ·obtain rfl : n = k := Nat.le_antisymm (Nat.le_of_not_lt hlt) hk
   obtain ⟨SC, hSC⟩ := lT ((S n).c)
   rw [hSC.out]
   have hoA := ho1.alloc_ (.cells #[.int .i64 SC] 3); have hmA := hm1.alloc_ (.cells #[.int .i64 SC] 3); have hvA := hv1.alloc_ (.cells #[.int .i64 SC] 3)
   go_wp2_with (at_builtin; refine Zae _ rfl _ _ rfl rfl hoA.1 rfl (Zaj _ _ _ _ (by simp)) (by omega) oM ?_; intro A5 c5 w5 hown5 hg5 hat5 hk5)
   have ho5 := hoA.appQ hmA hown5 hat5; have hm5 := hmA.app hoA hg5; have hv5 := hvA.app hoA hg5
   have hl5 : Hid (((S n).o ++ [(S n).c]).length = n + 1) := zH (by simp [HO.out n])
   rw [← hSC.out] at ho5
   clear hoA hmA hvA hown5 hg5 hat5 hk5 hm1 ho1 hv1
   go_wp2
   go_ret
   exact RetRowQ.mk_ hl5.out rfl hm5 hv5 ho5
end Go.Proofs.YtenknpcbbcbciaaGreat
