/- Operations of two numbers, the program's two. -/
import Derived.Test.YtenknpcbbcbciaaGreatQS13
namespace Go.Proofs.YtenknpcbbcbciaaGreat
open Go.RowKit
set_option linter.unusedVariables false
set_option linter.unusedSimpArgs false
variable {Qo : OQ}
set_option maxRecDepth 100000 in
set_option maxHeartbeats 4000000 in
theorem maker_two_mul (lo b : Nat) (x y : Int) (g0 : List G3) (G : Option Nat) (A B : Option Addr) (n c d : Nat) (us vs : List Int) (w : World) (hm : MkQ Qo w lo b x y g0 G) (ha : RM w b G A n us) (hb : RM w b G B n vs) (hx : 0 ≤ x ∧ x ≤ 20) (hy : 0 ≤ y ∧ y ≤ 20) (hg : g0.length ≤ 40000) (hn1 : 1 ≤ n) (hn : n ≤ 10) (hlo : lo ≤ w.heap.size) (h5 : n ≤ 5) :
 Calls Tryz.prog 152 #[.pointer (some ⟨b, 0, none⟩), .string (bs [42]), .slice A n c, .slice B n d] w (RetRowQ Qo lo b x y (mulS (x + y) us vs g0 n).g (mulS (x + y) us vs g0 n).o G w) := by
 have t43 : ((bs [42]).toList == [43]) = false := Zac (by decide)
 have t45 : ((bs [42]).toList == [45]) = false := Zac (by decide)
 have t60 : ((bs [42]).toList == [60]) = false := Zac (by decide)
 have t61 : ((bs [42]).toList == [61]) = false := Zac (by decide)
 have t42 : ((bs [42]).toList == [42]) = true := bs_is rfl
 have HGp := prodS_g (x + y) g0 us vs n (by omega) n
 have HOp : (prodS (x + y) g0 us vs n n).o.length = if n = 1 then 1 else 2 * n := by
  have := prodS_o (x + y) g0 us vs n hn1 (n - 1)
  rw [Nat.sub_add_cancel hn1] at this
  rw [this]
  by_cases h : n = 1
  ·subst h; rfl
  ·rw [if_neg (by omega), if_neg h]; omega
 have hcall := maker_productQ_any lo b x y g0 G A B n c d us vs w hm ha hb hx hy (by omega) (by omega) hn1 hlo
 obtain ⟨SG, SO, hS⟩ : ∃ SG SO, Hid (prodS (x + y) g0 us vs n n = ⟨SG, SO⟩) := ⟨_, _, zH rfl⟩
 have hME : Hid (mulS (x + y) us vs g0 n = if n = 1 then ⟨SG ++ [⟨3, 0, 0⟩] ++ [⟨2, x + y + SG.length, 0⟩], SO ++ [x + y + SG.length + 1]⟩ else ⟨SG, SO⟩) := zH (by unfold mulS; rw [hS.out])
 rw [hS.out] at hcall HGp HOp
 rw [hME.out]
 dsimp only at hcall HGp HOp
 by_cases h1 : n = 1
 ·rw [if_pos h1] at HOp ⊢
  dsimp only
  have hn1' : ((n : Int) == 1) = true := by simp [h1]
  clear h1
  obtain ⟨N, hN⟩ := lT (x + y + (SG.length : Int))
  rw [hN.out]
  go_enter Tryz.func152, Tryz.ntmps152
  go_wp2_with fail
  refine (hcall).mono ?_
  rintro e w1 hT
  obtain ⟨G1, O, oc, rfl, hm1, hv1, ho1⟩ := hT.open_ HOp
  have hz1 := hv1.size
  go_wp2_with fail
  refine (Zfe lo b x y SG G1 N _ hm1 hx hy (by omega) (by omega) hN.out).mono ?_
  rintro e w2 ⟨G2, rfl, hm2, hv2_⟩
  have hv2 := hv1.trans_ hv2_; have ho2 := ho1.mv hv2_; have hz2 := hv2.size; clear hv1 ho1 hm1 hv2_
  have hoA := ho2.alloc_ (.cells #[.int .i64 (N + 1)] 3); have hmA := hm2.alloc_ (.cells #[.int .i64 (N + 1)] 3); have hvA := hv2.alloc_ (.cells #[.int .i64 (N + 1)] 3)
  go_wp2_with (at_builtin; refine Zae _ rfl _ _ rfl rfl hoA.1 rfl (Zaj _ _ _ _ (by simp)) (by omega) oM ?_; intro A5 c5 w5 hown5 hg5 hat5 hk5)
  have ho5 := hoA.appQ hmA hown5 hat5; have hm5 := hmA.app hoA hg5; have hv5 := hvA.app hoA hg5
  go_wp2
  go_ret
  exact RetRowQ.mk_ (n := 2) (by simp; exact HOp) rfl hm5 hv5 ho5
 ·rw [if_neg h1] at HOp ⊢
  dsimp only
  have hn1' : ((n : Int) == 1) = false := by simp; omega
  go_enter Tryz.func152, Tryz.ntmps152
  go_wp2_with fail
  refine (hcall).mono ?_
  rintro e w1 hT
  obtain ⟨G1, O, oc, rfl, hm1, hv1, ho1⟩ := hT.open_ HOp
  go_wp2
  go_ret
  exact RetRowQ.mk_ HOp rfl hm1 hv1 ho1
set_option maxRecDepth 100000 in
set_option maxHeartbeats 4000000 in
theorem maker_two_and (lo b : Nat) (x y : Int) (g0 : List G3) (G : Option Nat) (A B : Option Addr) (n c d : Nat) (us vs : List Int) (w : World) (hm : MkQ Qo w lo b x y g0 G) (ha : RM w b G A n us) (hb : RM w b G B n vs) (hx : 0 ≤ x ∧ x ≤ 20) (hy : 0 ≤ y ∧ y ≤ 20) (hg : g0.length ≤ 40000) (hn1 : 1 ≤ n) (hn : n ≤ 10) (hlo : lo ≤ w.heap.size) :
 Calls Tryz.prog 152 #[.pointer (some ⟨b, 0, none⟩), .string (bs [38]), .slice A n c, .slice B n d] w (RetRowQ Qo lo b x y (bitS 1 (x + y) us vs g0 n).g (bitS 1 (x + y) us vs g0 n).o G w) := by
 have t43 : ((bs [38]).toList == [43]) = false := Zac (by decide)
 have t45 : ((bs [38]).toList == [45]) = false := Zac (by decide)
 have t60 : ((bs [38]).toList == [60]) = false := Zac (by decide)
 have t61 : ((bs [38]).toList == [61]) = false := Zac (by decide)
 have t42 : ((bs [38]).toList == [42]) = false := Zac (by decide)
 have t38 : ((bs [38]).toList == [38]) = true := bs_is rfl
 have t94 : ((bs [38]).toList == [94]) = false := Zac (by decide)
 have HG : Hid (∀ i, (bitS 1 (x + y) us vs g0 i).g.length ≤ g0.length + 3 * i) := zH (bitS_g 1 (x + y) us vs g0)
 have HO : Hid (∀ i, (bitS 1 (x + y) us vs g0 i).o.length = i) := zH (bitS_o 1 (x + y) us vs g0)
 have H0 : Hid (bitS 1 (x + y) us vs g0 0 = ⟨g0, []⟩) := zH rfl
 have HS : Hid (∀ i, bitS 1 (x + y) us vs g0 (i + 1) = bitStep 1 (x + y + (bitS 1 (x + y) us vs g0 i).g.length) (gi us i) (gi vs i) (bitS 1 (x + y) us vs g0 i)) := zH fun i => rfl
 generalize bitS 1 (x + y) us vs g0 = S at *
 have hst : MkQ Qo (w.alloc (.cells #[] 3)) lo b x y (S 0).g G ∧ OM (w.alloc (.cells #[] 3)) b G w.heap.size (.slice (some ⟨w.heap.size, 0, none⟩) 0 0) 0 (S 0).o ∧ Mv b G G w (w.alloc (.cells #[] 3)) := by
  rw [H0.out]; exact ⟨hm.alloc_ _, OM.new0Q hm lR, (Mv.refl_ b G w).alloc_ _⟩
 obtain ⟨hm0, ho0, hv0⟩ := hst
 go_enter Tryz.func152, Tryz.ntmps152
 go_wp2
 go_loopw [16, 76] (fun o i wr => ∃ (k : Nat) (O : Option Addr) (oc : Nat) (G1 : Option Nat), k ≤ n ∧ i = .int .i64 k ∧ o = .slice O k oc ∧ MkQ Qo wr lo b x y (S k).g G1 ∧ OM wr b G1 w.heap.size (.slice O k oc) k (S k).o ∧ Mv b G G1 w wr) (fun _ i _ => n - (intOf i).toNat)
 case atStart => exact ⟨0, _, _, _, Nat.zero_le _, rfl, rfl, hm0, ho0, hv0⟩
 case round =>
  obtain ⟨k, O, oc, G1, hk, rfl, rfl, hm1, ho1, hv1⟩ := hrel
  clear hm0 ho0 hv0
  have hz1 := hv1.size
  by_cases hlt : k < n
  ·obtain ⟨ka, oa, rfl, hka, ca⟩ := ha.1.at_ hlt
   obtain ⟨kb, ob, rfl, hkb, cb⟩ := hb.1.at_ hlt
   obtain ⟨va, hva⟩ := lT (gi us k)
   obtain ⟨vb, hvb⟩ := lT (gi vs k)
   have hgl := HG.out k
   obtain ⟨SG, SO, hSk⟩ : ∃ SG SO, Hid (S k = ⟨SG, SO⟩) := ⟨_, _, zH rfl⟩
   have hS := zH (HS.out k)
   rw [hSk.out] at hm1 ho1 hgl
   rw [hva.out, hvb.out, hSk.out] at hS
   dsimp only at hm1 ho1 hgl hS
   obtain ⟨N, hN⟩ := lT (x + y + (SG.length : Int))
   rw [hN.out] at hS
   clear ca cb hka hkb
   obtain ⟨ca, na, hka0⟩ := ha.cellV hv1 hlt hva
   obtain ⟨cb, nb, hkb0⟩ := hb.cellV hv1 hlt hvb
   have hfar := ho1.far
   go_wp2_with fail
   go_region_held3 (fun w' => w'.cell? ⟨ka, oa + k, none⟩ = some (.int .i64 va) ∧ w'.cell? ⟨kb, ob + k, none⟩ = some (.int .i64 vb))
    (first | (go_keep; done) | (go_split_ands; exact ⟨hv2_.cellF (by assumption) na, hv2_.cellF (by assumption) nb⟩) | (go_split_ands; exact ⟨hk5 _ _ _ (by assumption) (fun g9 hg9 he9 => by have := hfar _ hg9; omega), hk5 _ _ _ (by assumption) (fun g9 hg9 he9 => by have := hfar _ hg9; omega)⟩) | (go_split_ands; (repeat' apply And.intro) <;> (repeat (refine (World.cell?_setCell_other _ _ _ _ (by first | (simp; done) | (simp; omega))).trans ?_)) <;> assumption))
    (first | (go_at_call 165; refine (Zbh lo b x y SG G1 va vb N _ (hm1.drewN_ 1) hx hy oN (Nat.le_trans hlo (hv1.drewN_ 1).size) (by have := hN.out; first | omega | (simp; omega))).mono ?_; rintro e w2 ⟨G2, rfl, hm2, hv2_⟩; have hv2 := (hv1.drewN_ 1).trans_ hv2_; have hz2 := hv2.size; have ho2 := (ho1.drewN_ 1).mv hv2_; have na2 := hv2_.offF (Nat.lt_of_lt_of_le hka0 (hv1.drewN_ 1).size) na; have nb2 := hv2_.offF (Nat.lt_of_lt_of_le hkb0 (hv1.drewN_ 1).size) nb) | (refine Zcd _ (by rfl) _ _ (by rfl) (by rfl) ((ho2.alloc_ (.cells #[.int .i64 N] 3)).1) (by rfl) (Zaj _ _ _ _ (by simp)) (by omega) oM ?_; intro A5 c5 w5 hown5 hg5 hat5 hk5))
   clear hm1 ho1 hv1 hv2_ na2 nb2
   have hoA := ho2.alloc_ (.cells #[.int .i64 (N)] 3); have hmA := hm2.alloc_ (.cells #[.int .i64 (N)] 3); have hvA := hv2.alloc_ (.cells #[.int .i64 (N)] 3)
   have ho5 := hoA.appQ hmA hown5 hat5; have hm5 := hmA.app hoA hg5; have hv5 := hvA.app hoA hg5; have hz5 := hv5.size; clear hoA hmA hvA hown5 hg5 hat5 hk5 hv2 ho2 hm2
   have hS1 : Hid (S (k + 1) = ⟨SG ++ [⟨1, va, vb⟩], SO ++ [N]⟩) := zH (by rw [hS.out]; simp [bitStep])
   have hrel1 : MkQ Qo w5 lo b x y (S (k + 1)).g G2 ∧ OM w5 b G2 w.heap.size (.slice A5 (k + 1) c5) (k + 1) (S (k + 1)).o := by rw [hS1.out]; exact ⟨hm5, ho5⟩
   clear hm5 ho5 hS hS1 hSk hgl hN hva hvb
   go_wp2
   go_roundw
   case rel => exact ⟨k + 1, _, _, _, by omega, by go_num, rfl, hrel1.1, hrel1.2, hv5⟩
   case measure => simp [intOf]; omega
  ·obtain rfl : n = k := Nat.le_antisymm (Nat.le_of_not_lt hlt) hk
   go_wp2
   go_ret
   exact RetRowQ.mk_ (HO.out n) rfl hm1 hv1 ho1
variable {Qo : OQ}
set_option maxRecDepth 100000 in
set_option maxHeartbeats 4000000 in
theorem maker_two_xor (lo b : Nat) (x y : Int) (g0 : List G3) (G : Option Nat) (A B : Option Addr) (n c d : Nat) (us vs : List Int) (w : World) (hm : MkQ Qo w lo b x y g0 G) (ha : RM w b G A n us) (hb : RM w b G B n vs) (hx : 0 ≤ x ∧ x ≤ 20) (hy : 0 ≤ y ∧ y ≤ 20) (hg : g0.length ≤ 40000) (hn1 : 1 ≤ n) (hn : n ≤ 10) (hlo : lo ≤ w.heap.size) :
 Calls Tryz.prog 152 #[.pointer (some ⟨b, 0, none⟩), .string (bs [94]), .slice A n c, .slice B n d] w (RetRowQ Qo lo b x y (bitS 0 (x + y) us vs g0 n).g (bitS 0 (x + y) us vs g0 n).o G w) := by
 have t43 : ((bs [94]).toList == [43]) = false := Zac (by decide)
 have t45 : ((bs [94]).toList == [45]) = false := Zac (by decide)
 have t60 : ((bs [94]).toList == [60]) = false := Zac (by decide)
 have t61 : ((bs [94]).toList == [61]) = false := Zac (by decide)
 have t42 : ((bs [94]).toList == [42]) = false := Zac (by decide)
 have t38 : ((bs [94]).toList == [38]) = false := Zac (by decide)
 have t94 : ((bs [94]).toList == [94]) = true := bs_is rfl
 have HG : Hid (∀ i, (bitS 0 (x + y) us vs g0 i).g.length ≤ g0.length + 3 * i) := zH (bitS_g 0 (x + y) us vs g0)
 have HO : Hid (∀ i, (bitS 0 (x + y) us vs g0 i).o.length = i) := zH (bitS_o 0 (x + y) us vs g0)
 have H0 : Hid (bitS 0 (x + y) us vs g0 0 = ⟨g0, []⟩) := zH rfl
 have HS : Hid (∀ i, bitS 0 (x + y) us vs g0 (i + 1) = bitStep 0 (x + y + (bitS 0 (x + y) us vs g0 i).g.length) (gi us i) (gi vs i) (bitS 0 (x + y) us vs g0 i)) := zH fun i => rfl
 generalize bitS 0 (x + y) us vs g0 = S at *
 have hst : MkQ Qo (w.alloc (.cells #[] 3)) lo b x y (S 0).g G ∧ OM (w.alloc (.cells #[] 3)) b G w.heap.size (.slice (some ⟨w.heap.size, 0, none⟩) 0 0) 0 (S 0).o ∧ Mv b G G w (w.alloc (.cells #[] 3)) := by
  rw [H0.out]; exact ⟨hm.alloc_ _, OM.new0Q hm lR, (Mv.refl_ b G w).alloc_ _⟩
 obtain ⟨hm0, ho0, hv0⟩ := hst
 go_enter Tryz.func152, Tryz.ntmps152
 go_wp2
 go_loopw [16, 76] (fun o i wr => ∃ (k : Nat) (O : Option Addr) (oc : Nat) (G1 : Option Nat), k ≤ n ∧ i = .int .i64 k ∧ o = .slice O k oc ∧ MkQ Qo wr lo b x y (S k).g G1 ∧ OM wr b G1 w.heap.size (.slice O k oc) k (S k).o ∧ Mv b G G1 w wr) (fun _ i _ => n - (intOf i).toNat)
 case atStart => exact ⟨0, _, _, _, Nat.zero_le _, rfl, rfl, hm0, ho0, hv0⟩
 case round =>
  obtain ⟨k, O, oc, G1, hk, rfl, rfl, hm1, ho1, hv1⟩ := hrel
  clear hm0 ho0 hv0
  have hz1 := hv1.size
  by_cases hlt : k < n
  ·obtain ⟨ka, oa, rfl, hka, ca⟩ := ha.1.at_ hlt
   obtain ⟨kb, ob, rfl, hkb, cb⟩ := hb.1.at_ hlt
   obtain ⟨va, hva⟩ := lT (gi us k)
   obtain ⟨vb, hvb⟩ := lT (gi vs k)
   have hgl := HG.out k
   obtain ⟨SG, SO, hSk⟩ : ∃ SG SO, Hid (S k = ⟨SG, SO⟩) := ⟨_, _, zH rfl⟩
   have hS := zH (HS.out k)
   rw [hSk.out] at hm1 ho1 hgl
   rw [hva.out, hvb.out, hSk.out] at hS
   dsimp only at hm1 ho1 hgl hS
   obtain ⟨N, hN⟩ := lT (x + y + (SG.length : Int))
   rw [hN.out] at hS
   clear ca cb hka hkb
   obtain ⟨ca, na, hka0⟩ := ha.cellV hv1 hlt hva
   obtain ⟨cb, nb, hkb0⟩ := hb.cellV hv1 hlt hvb
   have hfar := ho1.far
   go_wp2_with fail
   go_region_held3 (fun w' => w'.cell? ⟨ka, oa + k, none⟩ = some (.int .i64 va) ∧ w'.cell? ⟨kb, ob + k, none⟩ = some (.int .i64 vb))
    (first | (go_keep; done) | (go_split_ands; exact ⟨hv2_.cellF (by assumption) na, hv2_.cellF (by assumption) nb⟩) | (go_split_ands; exact ⟨hk5 _ _ _ (by assumption) (fun g9 hg9 he9 => by have := hfar _ hg9; omega), hk5 _ _ _ (by assumption) (fun g9 hg9 he9 => by have := hfar _ hg9; omega)⟩) | (go_split_ands; (repeat' apply And.intro) <;> (repeat (refine (World.cell?_setCell_other _ _ _ _ (by first | (simp; done) | (simp; omega))).trans ?_)) <;> assumption))
    (first | (go_at_call 166; refine (Zaw lo b x y SG G1 va vb N _ (hm1.drewN_ 1) hx hy oN (Nat.le_trans hlo (hv1.drewN_ 1).size) (by have := hN.out; first | omega | (simp; omega))).mono ?_; rintro e w2 ⟨G2, rfl, hm2, hv2_⟩; have hv2 := (hv1.drewN_ 1).trans_ hv2_; have hz2 := hv2.size; have ho2 := (ho1.drewN_ 1).mv hv2_; have na2 := hv2_.offF (Nat.lt_of_lt_of_le hka0 (hv1.drewN_ 1).size) na; have nb2 := hv2_.offF (Nat.lt_of_lt_of_le hkb0 (hv1.drewN_ 1).size) nb) | (refine Zcd _ (by rfl) _ _ (by rfl) (by rfl) ((ho2.alloc_ (.cells #[.int .i64 N] 3)).1) (by rfl) (Zaj _ _ _ _ (by simp)) (by omega) oM ?_; intro A5 c5 w5 hown5 hg5 hat5 hk5))
   clear hm1 ho1 hv1 hv2_ na2 nb2
   have hoA := ho2.alloc_ (.cells #[.int .i64 (N)] 3); have hmA := hm2.alloc_ (.cells #[.int .i64 (N)] 3); have hvA := hv2.alloc_ (.cells #[.int .i64 (N)] 3)
   have ho5 := hoA.appQ hmA hown5 hat5; have hm5 := hmA.app hoA hg5; have hv5 := hvA.app hoA hg5; have hz5 := hv5.size; clear hoA hmA hvA hown5 hg5 hat5 hk5 hv2 ho2 hm2
   have hS1 : Hid (S (k + 1) = ⟨SG ++ [⟨0, va, vb⟩], SO ++ [N]⟩) := zH (by rw [hS.out]; simp [bitStep])
   have hrel1 : MkQ Qo w5 lo b x y (S (k + 1)).g G2 ∧ OM w5 b G2 w.heap.size (.slice A5 (k + 1) c5) (k + 1) (S (k + 1)).o := by rw [hS1.out]; exact ⟨hm5, ho5⟩
   clear hm5 ho5 hS hS1 hSk hgl hN hva hvb
   go_wp2
   go_roundw
   case rel => exact ⟨k + 1, _, _, _, by omega, by go_num, rfl, hrel1.1, hrel1.2, hv5⟩
   case measure => simp [intOf]; omega
  ·obtain rfl : n = k := Nat.le_antisymm (Nat.le_of_not_lt hlt) hk
   go_wp2
   go_ret
   exact RetRowQ.mk_ (HO.out n) rfl hm1 hv1 ho1
set_option maxRecDepth 100000 in
set_option maxHeartbeats 4000000 in
theorem maker_two_or (lo b : Nat) (x y : Int) (g0 : List G3) (G : Option Nat) (A B : Option Addr) (n c d : Nat) (us vs : List Int) (w : World) (hm : MkQ Qo w lo b x y g0 G) (ha : RM w b G A n us) (hb : RM w b G B n vs) (hx : 0 ≤ x ∧ x ≤ 20) (hy : 0 ≤ y ∧ y ≤ 20) (hg : g0.length ≤ 40000) (hn1 : 1 ≤ n) (hn : n ≤ 10) (hlo : lo ≤ w.heap.size) :
 Calls Tryz.prog 152 #[.pointer (some ⟨b, 0, none⟩), .string (bs [124]), .slice A n c, .slice B n d] w (RetRowQ Qo lo b x y (bitS 2 (x + y) us vs g0 n).g (bitS 2 (x + y) us vs g0 n).o G w) := by
 have t43 : ((bs [124]).toList == [43]) = false := Zac (by decide)
 have t45 : ((bs [124]).toList == [45]) = false := Zac (by decide)
 have t60 : ((bs [124]).toList == [60]) = false := Zac (by decide)
 have t61 : ((bs [124]).toList == [61]) = false := Zac (by decide)
 have t42 : ((bs [124]).toList == [42]) = false := Zac (by decide)
 have t38 : ((bs [124]).toList == [38]) = false := Zac (by decide)
 have t94 : ((bs [124]).toList == [94]) = false := Zac (by decide)
 have HG : Hid (∀ i, (bitS 2 (x + y) us vs g0 i).g.length ≤ g0.length + 3 * i) := zH (bitS_g 2 (x + y) us vs g0)
 have HO : Hid (∀ i, (bitS 2 (x + y) us vs g0 i).o.length = i) := zH (bitS_o 2 (x + y) us vs g0)
 have H0 : Hid (bitS 2 (x + y) us vs g0 0 = ⟨g0, []⟩) := zH rfl
 have HS : Hid (∀ i, bitS 2 (x + y) us vs g0 (i + 1) = bitStep 2 (x + y + (bitS 2 (x + y) us vs g0 i).g.length) (gi us i) (gi vs i) (bitS 2 (x + y) us vs g0 i)) := zH fun i => rfl
 generalize bitS 2 (x + y) us vs g0 = S at *
 have hst : MkQ Qo (w.alloc (.cells #[] 3)) lo b x y (S 0).g G ∧ OM (w.alloc (.cells #[] 3)) b G w.heap.size (.slice (some ⟨w.heap.size, 0, none⟩) 0 0) 0 (S 0).o ∧ Mv b G G w (w.alloc (.cells #[] 3)) := by
  rw [H0.out]; exact ⟨hm.alloc_ _, OM.new0Q hm lR, (Mv.refl_ b G w).alloc_ _⟩
 obtain ⟨hm0, ho0, hv0⟩ := hst
 go_enter Tryz.func152, Tryz.ntmps152
 go_wp2
 go_loopw [16, 76] (fun o i wr => ∃ (k : Nat) (O : Option Addr) (oc : Nat) (G1 : Option Nat), k ≤ n ∧ i = .int .i64 k ∧ o = .slice O k oc ∧ MkQ Qo wr lo b x y (S k).g G1 ∧ OM wr b G1 w.heap.size (.slice O k oc) k (S k).o ∧ Mv b G G1 w wr) (fun _ i _ => n - (intOf i).toNat)
 case atStart => exact ⟨0, _, _, _, Nat.zero_le _, rfl, rfl, hm0, ho0, hv0⟩
 case round =>
  obtain ⟨k, O, oc, G1, hk, rfl, rfl, hm1, ho1, hv1⟩ := hrel
  clear hm0 ho0 hv0
  have hz1 := hv1.size
  by_cases hlt : k < n
  ·obtain ⟨ka, oa, rfl, hka, ca⟩ := ha.1.at_ hlt
   obtain ⟨kb, ob, rfl, hkb, cb⟩ := hb.1.at_ hlt
   obtain ⟨va, hva⟩ := lT (gi us k)
   obtain ⟨vb, hvb⟩ := lT (gi vs k)
   have hgl := HG.out k
   obtain ⟨SG, SO, hSk⟩ : ∃ SG SO, Hid (S k = ⟨SG, SO⟩) := ⟨_, _, zH rfl⟩
   have hS := zH (HS.out k)
   rw [hSk.out] at hm1 ho1 hgl
   rw [hva.out, hvb.out, hSk.out] at hS
   dsimp only at hm1 ho1 hgl hS
   obtain ⟨N, hN⟩ := lT (x + y + (SG.length : Int))
   rw [hN.out] at hS
   clear ca cb hka hkb
   obtain ⟨ca, na, hka0⟩ := ha.cellV hv1 hlt hva
   obtain ⟨cb, nb, hkb0⟩ := hb.cellV hv1 hlt hvb
   have hfar := ho1.far
   go_wp2_with fail
   go_region_held3 (fun w' => w'.cell? ⟨ka, oa + k, none⟩ = some (.int .i64 va) ∧ w'.cell? ⟨kb, ob + k, none⟩ = some (.int .i64 vb))
    (first | (go_keep; done) | (go_split_ands; exact ⟨hv2_.cellF (by assumption) na, hv2_.cellF (by assumption) nb⟩) | (go_split_ands; (repeat' apply And.intro) <;> (repeat (refine (World.cell?_setCell_other _ _ _ _ (by first | (simp; done) | (simp; omega))).trans ?_)) <;> assumption))
    (first | (go_at_call 166; refine (Zaw lo b x y SG G1 va vb N _ (hm1.drewN_ 1) hx hy oN (Nat.le_trans hlo (hv1.drewN_ 1).size) (by have := hN.out; first | omega | (simp; omega))).mono ?_; rintro e w2 ⟨G2, rfl, hm2, hv2_⟩; have hv2 := (hv1.drewN_ 1).trans_ hv2_; have hz2 := hv2.size; have ho2 := (ho1.drewN_ 1).mv hv2_; have na2 := hv2_.offF (Nat.lt_of_lt_of_le hka0 (hv1.drewN_ 1).size) na; have nb2 := hv2_.offF (Nat.lt_of_lt_of_le hkb0 (hv1.drewN_ 1).size) nb))
   clear hm1 ho1 hv1 hv2_ na2 nb2 ca na hka0 cb nb hkb0 hfar
   obtain ⟨ca, na, hka0⟩ := ha.cellV hv2 hlt hva
   obtain ⟨cb, nb, hkb0⟩ := hb.cellV hv2 hlt hvb
   have hfar := ho2.far
   go_wp2_with fail
   go_region_held3 (fun w' => w'.cell? ⟨ka, oa + k, none⟩ = some (.int .i64 va) ∧ w'.cell? ⟨kb, ob + k, none⟩ = some (.int .i64 vb))
    (first | (go_keep; done) | (go_split_ands; exact ⟨hv4_.cellF (by assumption) na3, hv4_.cellF (by assumption) nb3⟩) | (go_split_ands; exact ⟨hv3_.cellF (by assumption) na, hv3_.cellF (by assumption) nb⟩) | (go_split_ands; exact ⟨hk5 _ _ _ (by assumption) (fun g9 hg9 he9 => by have := hfar _ hg9; omega), hk5 _ _ _ (by assumption) (fun g9 hg9 he9 => by have := hfar _ hg9; omega)⟩) | (go_split_ands; (repeat' apply And.intro) <;> (repeat (refine (World.cell?_setCell_other _ _ _ _ (by first | (simp; done) | (simp; omega))).trans ?_)) <;> assumption))
    (first | (go_at_call 165; refine (Zbh lo b x y (SG ++ [⟨0, va, vb⟩]) G2 va vb (N + 1) _ (hm2.drewN_ 1) hx hy oN (Nat.le_trans hlo (hv2.drewN_ 1).size) (by have := hN.out; first | omega | (simp; omega))).mono ?_; rintro e w3 ⟨G3, rfl, hm3, hv3_⟩; have hv3 := (hv2.drewN_ 1).trans_ hv3_; have hz3 := hv3.size; have ho3 := (ho2.drewN_ 1).mv hv3_; have na3 := hv3_.offF (Nat.lt_of_lt_of_le hka0 (hv2.drewN_ 1).size) na; have nb3 := hv3_.offF (Nat.lt_of_lt_of_le hkb0 (hv2.drewN_ 1).size) nb) | (go_at_call 166; refine (Zaw lo b x y (SG ++ [⟨0, va, vb⟩] ++ [⟨1, va, vb⟩]) G3 N (N + 1) (N + 2) _ hm3 hx hy oN (Nat.le_trans hlo hv3.size) (by have := hN.out; first | omega | (simp; omega))).mono ?_; rintro e w4 ⟨G4, rfl, hm4, hv4_⟩; have hv4 := hv3.trans_ hv4_; have hz4 := hv4.size; have ho4 := ho3.mv hv4_; have na4 := hv4_.offF (Nat.lt_of_lt_of_le hka0 hv3.size) na3; have nb4 := hv4_.offF (Nat.lt_of_lt_of_le hkb0 hv3.size) nb3) | (refine Zcd _ (by rfl) _ _ (by rfl) (by rfl) ((ho4.alloc_ (.cells #[.int .i64 (N + 2)] 3)).1) (by rfl) (Zaj _ _ _ _ (by simp)) (by omega) oM ?_; intro A5 c5 w5 hown5 hg5 hat5 hk5))
   clear hm2 ho2 hv2 hm3 ho3 hv3 hv3_ hv4_ na3 nb3 na4 nb4
   have hoA := ho4.alloc_ (.cells #[.int .i64 (N + 2)] 3); have hmA := hm4.alloc_ (.cells #[.int .i64 (N + 2)] 3); have hvA := hv4.alloc_ (.cells #[.int .i64 (N + 2)] 3)
   have ho5 := hoA.appQ hmA hown5 hat5; have hm5 := hmA.app hoA hg5; have hv5 := hvA.app hoA hg5; have hz5 := hv5.size; clear hoA hmA hvA hown5 hg5 hat5 hk5 hv4 ho4 hm4
   have hS1 : Hid (S (k + 1) = ⟨SG ++ [⟨0, va, vb⟩] ++ [⟨1, va, vb⟩] ++ [⟨0, N, N + 1⟩], SO ++ [N + 2]⟩) := zH (by rw [hS.out]; simp [bitStep])
   have hrel1 : MkQ Qo w5 lo b x y (S (k + 1)).g G4 ∧ OM w5 b G4 w.heap.size (.slice A5 (k + 1) c5) (k + 1) (S (k + 1)).o := by rw [hS1.out]; exact ⟨hm5, ho5⟩
   clear hm5 ho5 hS hS1 hSk hgl hN hva hvb
   go_wp2
   go_roundw
   case rel => exact ⟨k + 1, _, _, _, by omega, by go_num, rfl, hrel1.1, hrel1.2, hv5⟩
   case measure => simp [intOf]; omega
  ·obtain rfl : n = k := Nat.le_antisymm (Nat.le_of_not_lt hlt) hk
   go_wp2
   go_ret
   exact RetRowQ.mk_ (HO.out n) rfl hm1 hv1 ho1
variable {Qo : OQ}
theorem maker_two_any (lo b : Nat) (x y : Int) (g0 : List G3) (G : Option Nat) (A B : Option Addr) (n c d : Nat) (us vs : List Int) (w : World) (hm : MkQ Qo w lo b x y g0 G) (ha : RM w b G A n us) (hb : RM w b G B n vs) (hx : 0 ≤ x ∧ x ≤ 20) (hy : 0 ≤ y ∧ y ≤ 20) (hg : g0.length ≤ 40000) (hn1 : 1 ≤ n) (hn : n ≤ 10) (hlo : lo ≤ w.heap.size) (op : Str) (ho : opB op = true) (h5 : op = [42] → n ≤ 5) :
 Calls Tryz.prog 152 #[.pointer (some ⟨b, 0, none⟩), .string (bs op), .slice A n c, .slice B n d] w (RetRowQ Qo lo b x y (twoS (x + y) op us vs g0 n).g (twoS (x + y) op us vs g0 n).o G w) := by
 rcases opB_cases ho with rfl | rfl | rfl | rfl | rfl | rfl | rfl | rfl
 ·exact maker_two_add lo b x y g0 G A B n c d us vs w hm ha hb hx hy hg hn1 hn hlo
 ·exact maker_two_sub lo b x y g0 G A B n c d us vs w hm ha hb hx hy hg hn1 hn hlo
 ·exact maker_two_mul lo b x y g0 G A B n c d us vs w hm ha hb hx hy hg hn1 hn hlo (h5 rfl)
 ·exact maker_two_less lo b x y g0 G A B n c d us vs w hm ha hb hx hy hg hn1 hn hlo
 ·exact maker_two_eq lo b x y g0 G A B n c d us vs w hm ha hb hx hy hg hn1 hn hlo
 ·exact maker_two_and lo b x y g0 G A B n c d us vs w hm ha hb hx hy hg hn1 hn hlo
 ·exact maker_two_or lo b x y g0 G A B n c d us vs w hm ha hb hx hy hg hn1 hn hlo
 ·exact maker_two_xor lo b x y g0 G A B n c d us vs w hm ha hb hx hy hg hn1 hn hlo
end Go.Proofs.YtenknpcbbcbciaaGreat
