/- Choosers and comparers of a maker whose outs are any slice. -/
import Derived.Test.YtenknpcbbcbciaaGreatQS10
namespace Go.Proofs.YtenknpcbbcbciaaGreat
open Go.RowKit
set_option linter.unusedVariables false
set_option linter.unusedSimpArgs false
variable {Qo : OQ}
set_option maxRecDepth 100000 in
set_option maxHeartbeats 8000000 in
theorem maker_chooseQ_any (lo b : Nat) (x y : Int) (g0 : List G3) (G : Option Nat) (A B : Option Addr) (n c d : Nat) (s : Int) (us vs : List Int) (w : World) (hm : MkQ Qo w lo b x y g0 G) (ha : RM w b G A n us) (hb : RM w b G B n vs) (hx : 0 ≤ x ∧ x ≤ 20) (hy : 0 ≤ y ∧ y ≤ 20) (hg : g0.length ≤ 50000) (hn : n ≤ 100) (hlo : lo ≤ w.heap.size) :
 Calls Tryz.prog 154 #[.pointer (some ⟨b, 0, none⟩), .int .i64 s, .slice A n c, .slice B n d] w (RetRowQ Qo lo b x y (chs (x + y) g0 s us vs n).g (chs (x + y) g0 s us vs n).o G w) := by
 have HG : Hid (∀ i, (chs (x + y) g0 s us vs i).g.length ≤ g0.length + 3 * i) := zH fun i => by have := chs_g (x + y) g0 s us vs i; omega
 have HO : Hid (∀ i, (chs (x + y) g0 s us vs i).o.length = i) := zH (chs_o (x + y) g0 s us vs)
 have H0 : Hid (chs (x + y) g0 s us vs 0 = ⟨g0, []⟩) := zH rfl
 have HS : Hid (∀ i, chs (x + y) g0 s us vs (i + 1) = ⟨(chs (x + y) g0 s us vs i).g ++ [⟨0, gi us i, gi vs i⟩] ++ [⟨1, s, x + y + (chs (x + y) g0 s us vs i).g.length⟩] ++ [⟨0, x + y + (chs (x + y) g0 s us vs i).g.length + 1, gi vs i⟩], (chs (x + y) g0 s us vs i).o ++ [x + y + (chs (x + y) g0 s us vs i).g.length + 2]⟩) := zH fun i => rfl
 generalize chs (x + y) g0 s us vs = S at *
 have hst : MkQ Qo (w.alloc (.cells #[] 3)) lo b x y (S 0).g G ∧ OM (w.alloc (.cells #[] 3)) b G w.heap.size (.slice (some ⟨w.heap.size, 0, none⟩) 0 0) 0 (S 0).o ∧ Mv b G G w (w.alloc (.cells #[] 3)) := by
  rw [H0.out]; exact ⟨hm.alloc_ _, OM.new0Q hm lR, (Mv.refl_ b G w).alloc_ _⟩
 obtain ⟨hm0, ho0, hv0⟩ := hst
 go_enter Tryz.func154, Tryz.ntmps154
 go_wp2
 go_loopw [9, 15] (fun o i wr => ∃ (k : Nat) (O : Option Addr) (oc : Nat) (G1 : Option Nat), k ≤ n ∧ i = .int .i64 k ∧ o = .slice O k oc ∧ MkQ Qo wr lo b x y (S k).g G1 ∧ OM wr b G1 w.heap.size (.slice O k oc) k (S k).o ∧ Mv b G G1 w wr) (fun _ i _ => n - (intOf i).toNat)
 case atStart => exact ⟨0, _, _, _, Nat.zero_le _, rfl, rfl, hm0, ho0, hv0⟩
 case round =>
  obtain ⟨k, O, oc, G1, hk, rfl, rfl, hm1, ho1, hv1⟩ := hrel
  clear hm0 ho0 hv0
  have hz1 := hv1.size
  by_cases hlt : k < n
  ·obtain ⟨ka, oa, rfl, hka, ca⟩ := ha.1.at_ hlt
   obtain ⟨kb, ob, rfl, hkb, cb⟩ := hb.1.at_ hlt
   obtain ⟨va, hva⟩ := lT (gi us k)
   obtain ⟨vb, hvb⟩ := lT (gi vs k)
   have hgl := HG.out k
   obtain ⟨SG, SO, hSk⟩ : ∃ SG SO, Hid (S k = ⟨SG, SO⟩) := ⟨_, _, zH rfl⟩
   have hS := zH (HS.out k)
   rw [hSk.out] at hm1 ho1 hgl
   rw [hva.out, hvb.out, hSk.out] at hS
   dsimp only at hm1 ho1 hgl hS
   obtain ⟨N, hN⟩ := lT (x + y + (SG.length : Int))
   rw [hN.out] at hS
   clear ca cb hka hkb
   obtain ⟨ca, na, hka0⟩ := ha.cellV hv1 hlt hva
   obtain ⟨cb, nb, hkb0⟩ := hb.cellV hv1 hlt hvb
   go_wp2_with fail
   go_region_held3 (fun w' => w'.cell? ⟨ka, oa + k, none⟩ = some (.int .i64 va) ∧ w'.cell? ⟨kb, ob + k, none⟩ = some (.int .i64 vb))
    (first | (go_keep; done) | (go_split_ands; exact ⟨hv3_.cellF (by assumption) na2, hv3_.cellF (by assumption) nb2⟩) | (go_split_ands; exact ⟨hv2_.cellF (by assumption) na, hv2_.cellF (by assumption) nb⟩) | (go_split_ands; (repeat' apply And.intro) <;> (repeat (refine (World.cell?_setCell_other _ _ _ _ (by first | (simp; done) | (simp; omega))).trans ?_)) <;> assumption))
    (first | (go_at_call 166; refine (Zaw lo b x y SG G1 va vb N _ (hm1.drewN_ 1) hx hy oN (Nat.le_trans hlo (hv1.drewN_ 1).size) (by have := hN.out; first | omega | (simp; omega))).mono ?_; rintro e w2 ⟨G2, rfl, hm2, hv2_⟩; have hv2 := (hv1.drewN_ 1).trans_ hv2_; have hz2 := hv2.size; have ho2 := (ho1.drewN_ 1).mv hv2_; have na2 := hv2_.offF (Nat.lt_of_lt_of_le hka0 (hv1.drewN_ 1).size) na; have nb2 := hv2_.offF (Nat.lt_of_lt_of_le hkb0 (hv1.drewN_ 1).size) nb) | (go_at_call 165; refine (Zbh lo b x y (SG ++ [⟨0, va, vb⟩]) G2 s N (N + 1) _ hm2 hx hy oN (Nat.le_trans hlo hv2.size) (by have := hN.out; first | omega | (simp; omega))).mono ?_; rintro e w3 ⟨G3, rfl, hm3, hv3_⟩; have hv3 := hv2.trans_ hv3_; have hz3 := hv3.size; have ho3 := ho2.mv hv3_; have na3 := hv3_.offF (Nat.lt_of_lt_of_le hka0 hv2.size) na2; have nb3 := hv3_.offF (Nat.lt_of_lt_of_le hkb0 hv2.size) nb2))
   clear hm1 ho1 hv1 hv2_ hv3_ na2 nb2 na3 nb3
   clear hm2 ho2 hv2
   clear ca na hka0 cb nb hkb0
   obtain ⟨cb, nb, hkb0⟩ := hb.cellV hv3 hlt hvb
   go_wp2_with fail
   refine (Zaw lo b x y (SG ++ [⟨0, va, vb⟩] ++ [⟨1, s, N⟩]) G3 (N + 1) vb (N + 2) _ hm3 hx hy oN (by have := hv3.size; omega) (by have := hN.out; first | omega | (simp; omega))).mono ?_
   rintro e w4 ⟨G4, rfl, hm4, hv4_⟩
   have hv4 := hv3.trans_ hv4_; have ho4 := ho3.mv hv4_; have hz4 := hv4.size; clear hv3 ho3 hm3 hv4_
   clear cb nb hkb0
   have hoA := ho4.alloc_ (.cells #[.int .i64 (N + 2)] 3); have hmA := hm4.alloc_ (.cells #[.int .i64 (N + 2)] 3); have hvA := hv4.alloc_ (.cells #[.int .i64 (N + 2)] 3)
   go_wp2_with (at_builtin; refine Zae _ rfl _ _ rfl rfl hoA.1 rfl (Zaj _ _ _ _ (by simp)) (by omega) oM ?_; intro A5 c5 w5 hown5 hg5 hat5 hk5)
   have ho5 := hoA.appQ hmA hown5 hat5; have hm5 := hmA.app hoA hg5; have hv5 := hvA.app hoA hg5; have hz5 := hv5.size; clear hoA hmA hvA hown5 hg5 hat5 hk5 hv4 ho4 hm4
   have hS1 : Hid (S (k + 1) = ⟨SG ++ [⟨0, va, vb⟩] ++ [⟨1, s, N⟩] ++ [⟨0, N + 1, vb⟩], SO ++ [N + 2]⟩) := zH (by rw [hS.out])
   have hrel1 : MkQ Qo w5 lo b x y (S (k + 1)).g G4 ∧ OM w5 b G4 w.heap.size (.slice A5 (k + 1) c5) (k + 1) (S (k + 1)).o := by rw [hS1.out]; exact ⟨hm5, ho5⟩
   clear hm5 ho5 hS hS1 hSk hgl hN hva hvb
   go_wp2
   go_roundw
   case rel => exact ⟨k + 1, _, _, _, by omega, by go_num, rfl, hrel1.1, hrel1.2, hv5⟩
   case measure => simp [intOf]; omega
  ·obtain rfl : n = k := Nat.le_antisymm (Nat.le_of_not_lt hlt) hk
   go_wp2
   go_ret
   exact RetRowQ.mk_ (HO.out n) rfl hm1 hv1 ho1
set_option maxRecDepth 100000 in
set_option maxHeartbeats 8000000 in
theorem gdPickQ_any (lo b : Nat) (x y : Int) (g0 : List G3) (G : Option Nat) (A B : Option Addr) (n c d : Nat) (s : Int) (us vs : List Int) (w : World) (hm : MkQ Qo w lo b x y g0 G) (ha : RM w b G A n us) (hb : RM w b G B n vs) (hx : 0 ≤ x ∧ x ≤ 20) (hy : 0 ≤ y ∧ y ≤ 20) (hg : g0.length ≤ 50000) (hn : n ≤ 100) (hlo : lo ≤ w.heap.size) :
 Calls Tryz.prog 126 #[.pointer (some ⟨b, 0, none⟩), .int .i64 s, .slice A n c, .slice B n d] w (RetRowQ Qo lo b x y (chs (x + y) g0 s us vs n).g (chs (x + y) g0 s us vs n).o G w) := by
 have HG : Hid (∀ i, (chs (x + y) g0 s us vs i).g.length ≤ g0.length + 3 * i) := zH fun i => by have := chs_g (x + y) g0 s us vs i; omega
 have HO : Hid (∀ i, (chs (x + y) g0 s us vs i).o.length = i) := zH (chs_o (x + y) g0 s us vs)
 have H0 : Hid (chs (x + y) g0 s us vs 0 = ⟨g0, []⟩) := zH rfl
 have HS : Hid (∀ i, chs (x + y) g0 s us vs (i + 1) = ⟨(chs (x + y) g0 s us vs i).g ++ [⟨0, gi us i, gi vs i⟩] ++ [⟨1, s, x + y + (chs (x + y) g0 s us vs i).g.length⟩] ++ [⟨0, x + y + (chs (x + y) g0 s us vs i).g.length + 1, gi vs i⟩], (chs (x + y) g0 s us vs i).o ++ [x + y + (chs (x + y) g0 s us vs i).g.length + 2]⟩) := zH fun i => rfl
 generalize chs (x + y) g0 s us vs = S at *
 have hst : MkQ Qo w lo b x y (S 0).g G ∧ OM w b G w.heap.size (.slice none 0 0) 0 (S 0).o ∧ Mv b G G w w := by
  rw [H0.out]; exact ⟨hm, OM.none_ _ _ _ _, Mv.refl_ b G w⟩
 obtain ⟨hm0, ho0, hv0⟩ := hst
 go_enter Tryz.func126, Tryz.ntmps126
 go_wp2
 go_loopw [9, 16] (fun o i wr => ∃ (k : Nat) (O : Option Addr) (oc : Nat) (G1 : Option Nat), k ≤ n ∧ i = .int .i64 k ∧ o = .slice O k oc ∧ MkQ Qo wr lo b x y (S k).g G1 ∧ OM wr b G1 w.heap.size (.slice O k oc) k (S k).o ∧ Mv b G G1 w wr) (fun _ i _ => n - (intOf i).toNat)
 case atStart => exact ⟨0, _, _, _, Nat.zero_le _, rfl, rfl, hm0, ho0, hv0⟩
 case round =>
  obtain ⟨k, O, oc, G1, hk, rfl, rfl, hm1, ho1, hv1⟩ := hrel
  clear hm0 ho0 hv0
  have hz1 := hv1.size
  by_cases hlt : k < n
  ·obtain ⟨ka, oa, rfl, hka, ca⟩ := ha.1.at_ hlt
   obtain ⟨kb, ob, rfl, hkb, cb⟩ := hb.1.at_ hlt
   obtain ⟨va, hva⟩ := lT (gi us k)
   obtain ⟨vb, hvb⟩ := lT (gi vs k)
   have hgl := HG.out k
   obtain ⟨SG, SO, hSk⟩ : ∃ SG SO, Hid (S k = ⟨SG, SO⟩) := ⟨_, _, zH rfl⟩
   have hS := zH (HS.out k)
   rw [hSk.out] at hm1 ho1 hgl
   rw [hva.out, hvb.out, hSk.out] at hS
   dsimp only at hm1 ho1 hgl hS
   obtain ⟨N, hN⟩ := lT (x + y + (SG.length : Int))
   rw [hN.out] at hS
   clear ca cb hka hkb
   obtain ⟨ca, na, hka0⟩ := ha.cellV hv1 hlt hva
   obtain ⟨cb, nb, hkb0⟩ := hb.cellV hv1 hlt hvb
   go_wp2_with fail
   refine (Zaq lo b x y SG G1 va vb N _ hm1 hx hy oN (by have := hv1.size; omega) (by have := hN.out; first | omega | (simp; omega))).mono ?_
   rintro e w2 ⟨G2, rfl, hm2, hv2_⟩
   have hv2 := hv1.trans_ hv2_; have ho2 := ho1.mv hv2_; have hz2 := hv2.size; clear hv1 ho1 hm1 hv2_
   go_wp2_with fail
   refine (Zba lo b x y (SG ++ [⟨0, va, vb⟩]) G2 s N (N + 1) _ hm2 hx hy oN (by have := hv2.size; omega) (by have := hN.out; first | omega | (simp; omega))).mono ?_
   rintro e w3 ⟨G3, rfl, hm3, hv3_⟩
   have hv3 := hv2.trans_ hv3_; have ho3 := ho2.mv hv3_; have hz3 := hv3.size; clear hv2 ho2 hm2 hv3_
   clear ca na hka0 cb nb hkb0
   obtain ⟨cb, nb, hkb0⟩ := hb.cellV hv3 hlt hvb
   go_wp2_with fail
   refine (Zaq lo b x y (SG ++ [⟨0, va, vb⟩] ++ [⟨1, s, N⟩]) G3 (N + 1) vb (N + 2) _ hm3 hx hy oN (by have := hv3.size; omega) (by have := hN.out; first | omega | (simp; omega))).mono ?_
   rintro e w4 ⟨G4, rfl, hm4, hv4_⟩
   have hv4 := hv3.trans_ hv4_; have ho4 := ho3.mv hv4_; have hz4 := hv4.size; clear hv3 ho3 hm3 hv4_
   clear cb nb hkb0
   have hoA := ho4.alloc_ (.cells #[.int .i64 (N + 2)] 3); have hmA := hm4.alloc_ (.cells #[.int .i64 (N + 2)] 3); have hvA := hv4.alloc_ (.cells #[.int .i64 (N + 2)] 3)
   go_wp2_with (at_builtin; refine Zae _ rfl _ _ rfl rfl hoA.1 rfl (Zaj _ _ _ _ (by simp)) (by omega) oM ?_; intro A5 c5 w5 hown5 hg5 hat5 hk5)
   have ho5 := hoA.appQ hmA hown5 hat5; have hm5 := hmA.app hoA hg5; have hv5 := hvA.app hoA hg5; have hz5 := hv5.size; clear hoA hmA hvA hown5 hg5 hat5 hk5 hv4 ho4 hm4
   have hS1 : Hid (S (k + 1) = ⟨SG ++ [⟨0, va, vb⟩] ++ [⟨1, s, N⟩] ++ [⟨0, N + 1, vb⟩], SO ++ [N + 2]⟩) := zH (by rw [hS.out])
   have hrel1 : MkQ Qo w5 lo b x y (S (k + 1)).g G4 ∧ OM w5 b G4 w.heap.size (.slice A5 (k + 1) c5) (k + 1) (S (k + 1)).o := by rw [hS1.out]; exact ⟨hm5, ho5⟩
   clear hm5 ho5 hS hS1 hSk hgl hN hva hvb
   go_wp2
   go_roundw
   case rel => exact ⟨k + 1, _, _, _, by omega, by go_num, rfl, hrel1.1, hrel1.2, hv5⟩
   case measure => simp [intOf]; omega
  ·obtain rfl : n = k := Nat.le_antisymm (Nat.le_of_not_lt hlt) hk
   go_wp2
   go_ret
   exact RetRowQ.mk_ (HO.out n) rfl hm1 hv1 ho1
set_option maxRecDepth 100000 in
set_option maxHeartbeats 8000000 in
theorem maker_equalQ_any (lo b : Nat) (x y : Int) (g0 : List G3) (G : Option Nat) (A B : Option Addr) (n c d : Nat) (us vs : List Int) (w : World) (hm : MkQ Qo w lo b x y g0 G) (ha : RM w b G A n us) (hb : RM w b G B n vs) (hx : 0 ≤ x ∧ x ≤ 20) (hy : 0 ≤ y ∧ y ≤ 20) (hg : g0.length ≤ 50000) (hn : n ≤ 100) (hlo : lo ≤ w.heap.size) (hn1 : 1 ≤ n) :
 Calls Tryz.prog 163 #[.pointer (some ⟨b, 0, none⟩), .slice A n c, .slice B n d] w (RetWQ Qo lo b x y (ands (x + y) (eqs (x + y) g0 us vs n).o (eqs (x + y) g0 us vs n).g (n - 1)).1 G (ands (x + y) (eqs (x + y) g0 us vs n).o (eqs (x + y) g0 us vs n).g (n - 1)).2 w) := by
 have HG : Hid (∀ i, (eqs (x + y) g0 us vs i).g.length ≤ g0.length + 3 * i) := zH fun i => by have := eqs_g (x + y) g0 us vs i; omega
 have HO : Hid (∀ i, (eqs (x + y) g0 us vs i).o.length = i) := zH (eqs_o (x + y) g0 us vs)
 have H0 : Hid (eqs (x + y) g0 us vs 0 = ⟨g0, []⟩) := zH rfl
 have HS : Hid (∀ i, eqs (x + y) g0 us vs (i + 1) = ⟨(eqs (x + y) g0 us vs i).g ++ [⟨0, gi us i, gi vs i⟩] ++ [⟨2, x + y + (eqs (x + y) g0 us vs i).g.length, 0⟩], (eqs (x + y) g0 us vs i).o ++ [x + y + (eqs (x + y) g0 us vs i).g.length + 1]⟩) := zH fun i => rfl
 generalize eqs (x + y) g0 us vs = S at *
 have hst : MkQ Qo (w.alloc (.cells #[] 3)) lo b x y (S 0).g G ∧ OM (w.alloc (.cells #[] 3)) b G w.heap.size (.slice (some ⟨w.heap.size, 0, none⟩) 0 0) 0 (S 0).o ∧ Mv b G G w (w.alloc (.cells #[] 3)) := by
  rw [H0.out]; exact ⟨hm.alloc_ _, OM.new0Q hm lR, (Mv.refl_ b G w).alloc_ _⟩
 obtain ⟨hm0, ho0, hv0⟩ := hst
 go_enter Tryz.func163, Tryz.ntmps163
 go_wp2
 go_loopw [7, 15] (fun o i wr => ∃ (k : Nat) (O : Option Addr) (oc : Nat) (G1 : Option Nat), k ≤ n ∧ i = .int .i64 k ∧ o = .slice O k oc ∧ MkQ Qo wr lo b x y (S k).g G1 ∧ OM wr b G1 w.heap.size (.slice O k oc) k (S k).o ∧ Mv b G G1 w wr) (fun _ i _ => n - (intOf i).toNat)
 case atStart => exact ⟨0, _, _, _, Nat.zero_le _, rfl, rfl, hm0, ho0, hv0⟩
 case round =>
  obtain ⟨k, O, oc, G1, hk, rfl, rfl, hm1, ho1, hv1⟩ := hrel
  clear hm0 ho0 hv0
  have hz1 := hv1.size
  by_cases hlt : k < n
  ·obtain ⟨ka, oa, rfl, hka, ca⟩ := ha.1.at_ hlt
   obtain ⟨kb, ob, rfl, hkb, cb⟩ := hb.1.at_ hlt
   obtain ⟨va, hva⟩ := lT (gi us k)
   obtain ⟨vb, hvb⟩ := lT (gi vs k)
   have hgl := HG.out k
   obtain ⟨SG, SO, hSk⟩ : ∃ SG SO, Hid (S k = ⟨SG, SO⟩) := ⟨_, _, zH rfl⟩
   have hS := zH (HS.out k)
   rw [hSk.out] at hm1 ho1 hgl
   rw [hva.out, hvb.out, hSk.out] at hS
   dsimp only at hm1 ho1 hgl hS
   obtain ⟨N, hN⟩ := lT (x + y + (SG.length : Int))
   rw [hN.out] at hS
   clear ca cb hka hkb
   obtain ⟨ca, na, hka0⟩ := ha.cellV hv1 hlt hva
   obtain ⟨cb, nb, hkb0⟩ := hb.cellV hv1 hlt hvb
   have hfar := ho1.far
   go_wp2_with fail
   go_region_held3 (fun w' => w'.cell? ⟨ka, oa + k, none⟩ = some (.int .i64 va) ∧ w'.cell? ⟨kb, ob + k, none⟩ = some (.int .i64 vb))
    (first | (go_keep; done) | (go_split_ands; exact ⟨hv3_.cellF (by assumption) na2, hv3_.cellF (by assumption) nb2⟩) | (go_split_ands; exact ⟨hv2_.cellF (by assumption) na, hv2_.cellF (by assumption) nb⟩) | (go_split_ands; exact ⟨hk5 _ _ _ (by assumption) (fun g9 hg9 he9 => by have := hfar _ hg9; omega), hk5 _ _ _ (by assumption) (fun g9 hg9 he9 => by have := hfar _ hg9; omega)⟩) | (go_split_ands; (repeat' apply And.intro) <;> (repeat (refine (World.cell?_setCell_other _ _ _ _ (by first | (simp; done) | (simp; omega))).trans ?_)) <;> assumption))
    (first | (go_at_call 166; refine (Zaw lo b x y SG G1 va vb N _ (hm1.drewN_ 1) hx hy oN (Nat.le_trans hlo (hv1.drewN_ 1).size) (by have := hN.out; first | omega | (simp; omega))).mono ?_; rintro e w2 ⟨G2, rfl, hm2, hv2_⟩; have hv2 := (hv1.drewN_ 1).trans_ hv2_; have hz2 := hv2.size; have ho2 := (ho1.drewN_ 1).mv hv2_; have na2 := hv2_.offF (Nat.lt_of_lt_of_le hka0 (hv1.drewN_ 1).size) na; have nb2 := hv2_.offF (Nat.lt_of_lt_of_le hkb0 (hv1.drewN_ 1).size) nb) | (go_at_call 153; refine (Zde lo b x y (SG ++ [⟨0, va, vb⟩]) G2 N (N + 1) _ hm2 hx hy oN (Nat.le_trans hlo hv2.size) (by have := hN.out; first | omega | (simp; omega))).mono ?_; rintro e w3 ⟨G3, rfl, hm3, hv3_⟩; have hv3 := hv2.trans_ hv3_; have hz3 := hv3.size; have ho3 := ho2.mv hv3_; have na3 := hv3_.offF (Nat.lt_of_lt_of_le hka0 hv2.size) na2; have nb3 := hv3_.offF (Nat.lt_of_lt_of_le hkb0 hv2.size) nb2) | (refine Zcd _ (by rfl) _ _ (by rfl) (by rfl) ((ho3.alloc_ (.cells #[.int .i64 (N + 1)] 3)).1) (by rfl) (Zaj _ _ _ _ (by simp)) (by omega) oM ?_; intro A5 c5 w5 hown5 hg5 hat5 hk5))
   clear hm1 ho1 hv1 hv2_ hv3_ na2 nb2 na3 nb3
   clear hm2 ho2 hv2
   have hoA := ho3.alloc_ (.cells #[.int .i64 (N + 1)] 3); have hmA := hm3.alloc_ (.cells #[.int .i64 (N + 1)] 3); have hvA := hv3.alloc_ (.cells #[.int .i64 (N + 1)] 3)
   have ho4 := hoA.appQ hmA hown5 hat5; have hm4 := hmA.app hoA hg5; have hv4 := hvA.app hoA hg5; have hz4 := hv4.size; clear hoA hmA hvA hown5 hg5 hat5 hk5 hv3 ho3 hm3
   clear hfar
   clear ca na hka0 cb nb hkb0
   have hS1 : Hid (S (k + 1) = ⟨SG ++ [⟨0, va, vb⟩] ++ [⟨2, N, 0⟩], SO ++ [N + 1]⟩) := zH (by rw [hS.out])
   have hrel1 : MkQ Qo w5 lo b x y (S (k + 1)).g G3 ∧ OM w5 b G3 w.heap.size (.slice A5 (k + 1) c5) (k + 1) (S (k + 1)).o := by rw [hS1.out]; exact ⟨hm4, ho4⟩
   clear hm4 ho4 hS hS1 hSk hgl hN hva hvb
   go_wp2
   go_roundw
   case rel => exact ⟨k + 1, _, _, _, by omega, by go_num, rfl, hrel1.1, hrel1.2, hv4⟩
   case measure => simp [intOf]; omega
  ·obtain rfl : n = k := Nat.le_antisymm (Nat.le_of_not_lt hlt) hk
   have hgl := HG.out n
   have hol := HO.out n
   clear HS HG HO H0
   generalize S n = T at *
   obtain ⟨g1, es⟩ := T
   dsimp only at hm1 ho1 hgl hol
   obtain ⟨gb, rfl, hgb⟩ := ho1.1.some_ hn1
   obtain ⟨e0, he0⟩ := lT (gi es 0)
   obtain ⟨c0, _⟩ := ho1.reads.cellV (Mv.refl_ b G1 wr) (i := 0) (by omega) he0
   have HT : Hid (∀ i, (ands (x + y) es g1 i).1.length = g1.length + i) := zH (ands_g (x + y) es g1)
   have HA : Hid (∀ i, ands (x + y) es g1 (i + 1) = ((ands (x + y) es g1 i).1 ++ [⟨1, (ands (x + y) es g1 i).2, gi es (i + 1)⟩], x + y + (ands (x + y) es g1 i).1.length)) := zH fun i => rfl
   have HA0 : Hid (ands (x + y) es g1 0 = (g1, e0)) := zH (by rw [← he0.out]; rfl)
   generalize ands (x + y) es g1 = F at *
   have hst : MkQ Qo wr lo b x y (F 0).1 G1 := by rw [HA0.out]; exact hm1
   have hsv : (F 0).2 = e0 := by rw [HA0.out]
   have hnn : ((n : Int) - 1).toNat = n - 1 := by omega
   have hn1' : ((n - 1 : Nat) : Int) = (n : Int) - 1 := by omega
   simp only [Nat.zero_add] at c0
   have hnc : n ≤ oc := by
    obtain ⟨A9, c9, h9, _, h8⟩ := ho1.1.form
    simp only [Value.slice.injEq, true_and] at h9
    omega
   go_wp2
   ·go_loopw [9, 40] (fun v i w1 => ∃ (j : Nat) (G2 : Option Nat), j ≤ n - 1 ∧ i = .int .i64 j ∧ v = .int .i64 (F j).2 ∧ MkQ Qo w1 lo b x y (F j).1 G2 ∧ OM w1 b G2 w.heap.size (.slice (some ⟨gb, 0, none⟩) n oc) n es ∧ Mv b G G2 w w1) (fun _ i _ => n - 1 - (intOf i).toNat)
    case atStart => exact ⟨0, _, Nat.zero_le _, rfl, by rw [hsv], hst, ho1, hv1⟩
    case round =>
     obtain ⟨j, G2, hj, rfl, rfl, hm2, ho2, hv2⟩ := hrel
     clear hm1 ho1 hst hsv c0 he0 hv1
     have hz2 := hv2.size
     by_cases hjt : j < n - 1
     ·exfalso; omega
     ·obtain rfl : n - 1 = j := Nat.le_antisymm (Nat.le_of_not_lt hjt) hj
      go_wp2
      go_ret
      exact ⟨_, rfl, hm2, hv2⟩
   ·go_loopw [9, 40] (fun v i w1 => ∃ (j : Nat) (G2 : Option Nat), j ≤ n - 1 ∧ i = .int .i64 j ∧ v = .int .i64 (F j).2 ∧ MkQ Qo w1 lo b x y (F j).1 G2 ∧ OM w1 b G2 w.heap.size (.slice (some ⟨gb, 0, none⟩) n oc) n es ∧ Mv b G G2 w w1) (fun _ i _ => n - 1 - (intOf i).toNat)
    case atStart => exact ⟨0, _, Nat.zero_le _, rfl, by rw [hsv], hst, ho1, hv1⟩
    case round =>
     obtain ⟨j, G2, hj, rfl, rfl, hm2, ho2, hv2⟩ := hrel
     clear hm1 ho1 hst hsv c0 he0 hv1
     have hz2 := hv2.size
     by_cases hjt : j < n - 1
     ·obtain ⟨ej, hej⟩ := lT (gi es (j + 1))
      obtain ⟨cj, _⟩ := ho2.reads.cellV (Mv.refl_ b G2 _) (i := j + 1) (by omega) hej
      have hfl := HT.out j
      obtain ⟨FG, fv, hFj⟩ : ∃ FG fv, Hid (F j = (FG, fv)) := ⟨_, _, zH rfl⟩
      have hF := zH (HA.out j)
      rw [hFj.out] at hm2 hfl ⊢
      rw [hej.out, hFj.out] at hF
      dsimp only at hm2 hfl hF ⊢
      rw [show 0 + (j + 1) = 1 + j by omega] at cj
      go_wp2_with fail
      refine (Zbh lo b x y FG G2 fv ej (x + y + FG.length) _ hm2 hx hy (by omega) (by omega) rfl).mono ?_
      rintro e w3 ⟨G3, rfl, hm3, hv3_⟩
      have hv3 := hv2.trans_ hv3_
      have ho3 := ho2.mv hv3_
      have hz3 := hv3.size
      have hck : Hid ((F (j + 1)).2 = x + y + FG.length) := zH (by rw [hF.out])
      have hrel1 : MkQ Qo w3 lo b x y (F (j + 1)).1 G3 := by rw [hF.out]; exact hm3
      clear hm3 hm2 ho2 hv2 hv3_ hF hFj hej hfl cj
      go_wp2
      go_roundw
      case rel => exact ⟨j + 1, _, by omega, by go_num, by rw [hck.out], hrel1, ho3, hv3⟩
      case measure => simp [intOf]; omega
     ·obtain rfl : n - 1 = j := Nat.le_antisymm (Nat.le_of_not_lt hjt) hj
      go_wp2
      go_ret
      exact ⟨_, rfl, hm2, hv2⟩
set_option maxRecDepth 100000 in
set_option maxHeartbeats 8000000 in
theorem gdEqualQ_any (lo b : Nat) (x y : Int) (g0 : List G3) (G : Option Nat) (A B : Option Addr) (n c d : Nat) (us vs : List Int) (w : World) (hm : MkQ Qo w lo b x y g0 G) (ha : RM w b G A n us) (hb : RM w b G B n vs) (hx : 0 ≤ x ∧ x ≤ 20) (hy : 0 ≤ y ∧ y ≤ 20) (hg : g0.length ≤ 50000) (hn : n ≤ 100) (hlo : lo ≤ w.heap.size) (hn1 : 1 ≤ n) :
 Calls Tryz.prog 143 #[.pointer (some ⟨b, 0, none⟩), .slice A n c, .slice B n d] w (RetWQ Qo lo b x y (ands (x + y) (eqs (x + y) g0 us vs n).o (eqs (x + y) g0 us vs n).g (n - 1)).1 G (ands (x + y) (eqs (x + y) g0 us vs n).o (eqs (x + y) g0 us vs n).g (n - 1)).2 w) := by
 have HG : Hid (∀ i, (eqs (x + y) g0 us vs i).g.length ≤ g0.length + 3 * i) := zH fun i => by have := eqs_g (x + y) g0 us vs i; omega
 have HO : Hid (∀ i, (eqs (x + y) g0 us vs i).o.length = i) := zH (eqs_o (x + y) g0 us vs)
 have H0 : Hid (eqs (x + y) g0 us vs 0 = ⟨g0, []⟩) := zH rfl
 have HS : Hid (∀ i, eqs (x + y) g0 us vs (i + 1) = ⟨(eqs (x + y) g0 us vs i).g ++ [⟨0, gi us i, gi vs i⟩] ++ [⟨2, x + y + (eqs (x + y) g0 us vs i).g.length, 0⟩], (eqs (x + y) g0 us vs i).o ++ [x + y + (eqs (x + y) g0 us vs i).g.length + 1]⟩) := zH fun i => rfl
 generalize eqs (x + y) g0 us vs = S at *
 have hst : MkQ Qo w lo b x y (S 0).g G ∧ OM w b G w.heap.size (.slice none 0 0) 0 (S 0).o ∧ Mv b G G w w := by
  rw [H0.out]; exact ⟨hm, OM.none_ _ _ _ _, Mv.refl_ b G w⟩
 obtain ⟨hm0, ho0, hv0⟩ := hst
 go_enter Tryz.func143, Tryz.ntmps143
 go_wp2
 go_loopw [7, 16] (fun o i wr => ∃ (k : Nat) (O : Option Addr) (oc : Nat) (G1 : Option Nat), k ≤ n ∧ i = .int .i64 k ∧ o = .slice O k oc ∧ MkQ Qo wr lo b x y (S k).g G1 ∧ OM wr b G1 w.heap.size (.slice O k oc) k (S k).o ∧ Mv b G G1 w wr) (fun _ i _ => n - (intOf i).toNat)
 case atStart => exact ⟨0, _, _, _, Nat.zero_le _, rfl, rfl, hm0, ho0, hv0⟩
 case round =>
  obtain ⟨k, O, oc, G1, hk, rfl, rfl, hm1, ho1, hv1⟩ := hrel
  clear hm0 ho0 hv0
  have hz1 := hv1.size
  by_cases hlt : k < n
  ·obtain ⟨ka, oa, rfl, hka, ca⟩ := ha.1.at_ hlt
   obtain ⟨kb, ob, rfl, hkb, cb⟩ := hb.1.at_ hlt
   obtain ⟨va, hva⟩ := lT (gi us k)
   obtain ⟨vb, hvb⟩ := lT (gi vs k)
   have hgl := HG.out k
   obtain ⟨SG, SO, hSk⟩ : ∃ SG SO, Hid (S k = ⟨SG, SO⟩) := ⟨_, _, zH rfl⟩
   have hS := zH (HS.out k)
   rw [hSk.out] at hm1 ho1 hgl
   rw [hva.out, hvb.out, hSk.out] at hS
   dsimp only at hm1 ho1 hgl hS
   obtain ⟨N, hN⟩ := lT (x + y + (SG.length : Int))
   rw [hN.out] at hS
   clear ca cb hka hkb
   obtain ⟨ca, na, hka0⟩ := ha.cellV hv1 hlt hva
   obtain ⟨cb, nb, hkb0⟩ := hb.cellV hv1 hlt hvb
   go_wp2_with fail
   refine (Zaq lo b x y SG G1 va vb N _ hm1 hx hy oN (by have := hv1.size; omega) (by have := hN.out; first | omega | (simp; omega))).mono ?_
   rintro e w2 ⟨G2, rfl, hm2, hv2_⟩
   have hv2 := hv1.trans_ hv2_; have ho2 := ho1.mv hv2_; have hz2 := hv2.size; clear hv1 ho1 hm1 hv2_
   clear ca na hka0 cb nb hkb0
   go_wp2_with fail
   refine (Zbw lo b x y (SG ++ [⟨0, va, vb⟩]) G2 N (N + 1) _ hm2 hx hy oN (by have := hv2.size; omega) (by have := hN.out; first | omega | (simp; omega))).mono ?_
   rintro e w3 ⟨G3, rfl, hm3, hv3_⟩
   have hv3 := hv2.trans_ hv3_; have ho3 := ho2.mv hv3_; have hz3 := hv3.size; clear hv2 ho2 hm2 hv3_
   have hoA := ho3.alloc_ (.cells #[.int .i64 (N + 1)] 3); have hmA := hm3.alloc_ (.cells #[.int .i64 (N + 1)] 3); have hvA := hv3.alloc_ (.cells #[.int .i64 (N + 1)] 3)
   go_wp2_with (at_builtin; refine Zae _ rfl _ _ rfl rfl hoA.1 rfl (Zaj _ _ _ _ (by simp)) (by omega) oM ?_; intro A5 c5 w5 hown5 hg5 hat5 hk5)
   have ho4 := hoA.appQ hmA hown5 hat5; have hm4 := hmA.app hoA hg5; have hv4 := hvA.app hoA hg5; have hz4 := hv4.size; clear hoA hmA hvA hown5 hg5 hat5 hk5 hv3 ho3 hm3
   have hS1 : Hid (S (k + 1) = ⟨SG ++ [⟨0, va, vb⟩] ++ [⟨2, N, 0⟩], SO ++ [N + 1]⟩) := zH (by rw [hS.out])
   have hrel1 : MkQ Qo w5 lo b x y (S (k + 1)).g G3 ∧ OM w5 b G3 w.heap.size (.slice A5 (k + 1) c5) (k + 1) (S (k + 1)).o := by rw [hS1.out]; exact ⟨hm4, ho4⟩
   clear hm4 ho4 hS hS1 hSk hgl hN hva hvb
   go_wp2
   go_roundw
   case rel => exact ⟨k + 1, _, _, _, by omega, by go_num, rfl, hrel1.1, hrel1.2, hv4⟩
   case measure => simp [intOf]; omega
  ·obtain rfl : n = k := Nat.le_antisymm (Nat.le_of_not_lt hlt) hk
   have hgl := HG.out n
   have hol := HO.out n
   clear HS HG HO H0
   generalize S n = T at *
   obtain ⟨g1, es⟩ := T
   dsimp only at hm1 ho1 hgl hol
   obtain ⟨gb, rfl, hgb⟩ := ho1.1.some_ hn1
   obtain ⟨e0, he0⟩ := lT (gi es 0)
   obtain ⟨c0, _⟩ := ho1.reads.cellV (Mv.refl_ b G1 wr) (i := 0) (by omega) he0
   have HT : Hid (∀ i, (ands (x + y) es g1 i).1.length = g1.length + i) := zH (ands_g (x + y) es g1)
   have HA : Hid (∀ i, ands (x + y) es g1 (i + 1) = ((ands (x + y) es g1 i).1 ++ [⟨1, (ands (x + y) es g1 i).2, gi es (i + 1)⟩], x + y + (ands (x + y) es g1 i).1.length)) := zH fun i => rfl
   have HA0 : Hid (ands (x + y) es g1 0 = (g1, e0)) := zH (by rw [← he0.out]; rfl)
   generalize ands (x + y) es g1 = F at *
   have hst : MkQ Qo wr lo b x y (F 0).1 G1 := by rw [HA0.out]; exact hm1
   have hsv : (F 0).2 = e0 := by rw [HA0.out]
   have hnn : ((n : Int) - 1).toNat = n - 1 := by omega
   have hn1' : ((n - 1 : Nat) : Int) = (n : Int) - 1 := by omega
   simp only [Nat.zero_add] at c0
   have hnc : n ≤ oc := by
    obtain ⟨A9, c9, h9, _, h8⟩ := ho1.1.form
    simp only [Value.slice.injEq, true_and] at h9
    omega
   go_wp2
   ·go_loopw [11, 41] (fun v i w1 => ∃ (j : Nat) (G2 : Option Nat), j ≤ n - 1 ∧ i = .int .i64 j ∧ v = .int .i64 (F j).2 ∧ MkQ Qo w1 lo b x y (F j).1 G2 ∧ OM w1 b G2 w.heap.size (.slice (some ⟨gb, 0, none⟩) n oc) n es ∧ Mv b G G2 w w1) (fun _ i _ => n - 1 - (intOf i).toNat)
    case atStart => exact ⟨0, _, Nat.zero_le _, rfl, by rw [hsv], hst, ho1, hv1⟩
    case round =>
     obtain ⟨j, G2, hj, rfl, rfl, hm2, ho2, hv2⟩ := hrel
     clear hm1 ho1 hst hsv c0 he0 hv1
     have hz2 := hv2.size
     by_cases hjt : j < n - 1
     ·exfalso; omega
     ·obtain rfl : n - 1 = j := Nat.le_antisymm (Nat.le_of_not_lt hjt) hj
      go_wp2
      go_ret
      exact ⟨_, rfl, hm2, hv2⟩
   ·go_loopw [11, 41] (fun v i w1 => ∃ (j : Nat) (G2 : Option Nat), j ≤ n - 1 ∧ i = .int .i64 j ∧ v = .int .i64 (F j).2 ∧ MkQ Qo w1 lo b x y (F j).1 G2 ∧ OM w1 b G2 w.heap.size (.slice (some ⟨gb, 0, none⟩) n oc) n es ∧ Mv b G G2 w w1) (fun _ i _ => n - 1 - (intOf i).toNat)
    case atStart => exact ⟨0, _, Nat.zero_le _, rfl, by rw [hsv], hst, ho1, hv1⟩
    case round =>
     obtain ⟨j, G2, hj, rfl, rfl, hm2, ho2, hv2⟩ := hrel
     clear hm1 ho1 hst hsv c0 he0 hv1
     have hz2 := hv2.size
     by_cases hjt : j < n - 1
     ·obtain ⟨ej, hej⟩ := lT (gi es (j + 1))
      obtain ⟨cj, _⟩ := ho2.reads.cellV (Mv.refl_ b G2 _) (i := j + 1) (by omega) hej
      have hfl := HT.out j
      obtain ⟨FG, fv, hFj⟩ : ∃ FG fv, Hid (F j = (FG, fv)) := ⟨_, _, zH rfl⟩
      have hF := zH (HA.out j)
      rw [hFj.out] at hm2 hfl ⊢
      rw [hej.out, hFj.out] at hF
      dsimp only at hm2 hfl hF ⊢
      rw [show 0 + (j + 1) = 1 + j by omega] at cj
      go_wp2_with fail
      refine (Zba lo b x y FG G2 fv ej (x + y + FG.length) _ hm2 hx hy (by omega) (by omega) rfl).mono ?_
      rintro e w3 ⟨G3, rfl, hm3, hv3_⟩
      have hv3 := hv2.trans_ hv3_
      have ho3 := ho2.mv hv3_
      have hz3 := hv3.size
      have hck : Hid ((F (j + 1)).2 = x + y + FG.length) := zH (by rw [hF.out])
      have hrel1 : MkQ Qo w3 lo b x y (F (j + 1)).1 G3 := by rw [hF.out]; exact hm3
      clear hm3 hm2 ho2 hv2 hv3_ hF hFj hej hfl cj
      go_wp2
      go_roundw
      case rel => exact ⟨j + 1, _, by omega, by go_num, by rw [hck.out], hrel1, ho3, hv3⟩
      case measure => simp [intOf]; omega
     ·obtain rfl : n - 1 = j := Nat.le_antisymm (Nat.le_of_not_lt hjt) hj
      go_wp2
      go_ret
      exact ⟨_, rfl, hm2, hv2⟩
end Go.Proofs.YtenknpcbbcbciaaGreat
