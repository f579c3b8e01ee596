/- Constants and turned wires of a maker whose outs are any slice; a line of a program. -/
import Derived.Test.YtenknpcbbcbciaaGreatQS15
import Derived.Test.YtenknpcbbcbciaaGreatQS14
namespace Go.Proofs.YtenknpcbbcbciaaGreat
open Go.RowKit
set_option linter.unusedVariables false
set_option linter.unusedSimpArgs false
variable {Qo : OQ}
set_option maxRecDepth 100000 in
set_option maxHeartbeats 4000000 in
theorem coTwo_mul (lo b : Nat) (x y : Int) (g0 : List G3) (G : Option Nat) (A B : Option Addr) (n c d : Nat) (us vs : List Int) (w : World) (hm : MkQ Qo w lo b x y g0 G) (ha : RM w b G A n us) (hb : RM w b G B n vs) (hx : 0 ≤ x ∧ x ≤ 20) (hy : 0 ≤ y ∧ y ≤ 20) (hg : g0.length ≤ 40000) (hn1 : 1 ≤ n) (hn : n ≤ 10) (hlo : lo ≤ w.heap.size) (h5 : n ≤ 5) :
 Calls Tryz.prog 124 #[.pointer (some ⟨b, 0, none⟩), .string (bs [42]), .slice A n c, .slice B n d] w (RetRdQ Qo lo b x y (mulS (x + y) us vs g0 n).g (mulS (x + y) us vs g0 n).o G w) := by
 have t43 : ((bs [42]).toList == [43]) = false := Zac (by decide)
 have t45 : ((bs [42]).toList == [45]) = false := Zac (by decide)
 have t60 : ((bs [42]).toList == [60]) = false := Zac (by decide)
 have t61 : ((bs [42]).toList == [61]) = false := Zac (by decide)
 have t42 : ((bs [42]).toList == [42]) = true := bs_is rfl
 have HGp := prodS_g (x + y) g0 us vs n (by omega) n
 have HOp : (prodS (x + y) g0 us vs n n).o.length = if n = 1 then 1 else 2 * n := by
  have := prodS_o (x + y) g0 us vs n hn1 (n - 1)
  rw [Nat.sub_add_cancel hn1] at this
  rw [this]
  by_cases h : n = 1
  ·subst h; rfl
  ·rw [if_neg (by omega), if_neg h]; omega
 have hcall := gdTimesQ_any lo b x y g0 G A B n c d us vs w hm ha hb hx hy (by omega) (by omega) hn1 hlo
 obtain ⟨SG, SO, hS⟩ : ∃ SG SO, Hid (prodS (x + y) g0 us vs n n = ⟨SG, SO⟩) := ⟨_, _, zH rfl⟩
 have hME : Hid (mulS (x + y) us vs g0 n = if n = 1 then ⟨SG ++ [⟨3, 0, 0⟩] ++ [⟨2, x + y + SG.length, 0⟩], SO ++ [x + y + SG.length + 1]⟩ else ⟨SG, SO⟩) := zH (by unfold mulS; rw [hS.out])
 rw [hS.out] at hcall HGp HOp
 rw [hME.out]
 dsimp only at hcall HGp HOp
 by_cases h1 : n = 1
 ·rw [if_pos h1] at HOp ⊢
  dsimp only
  have hn1' : ((n : Int) == 1) = true := by simp [h1]
  clear h1
  obtain ⟨N, hN⟩ := lT (x + y + (SG.length : Int))
  rw [hN.out]
  go_enter Tryz.func124, Tryz.ntmps124
  go_wp2_with fail
  refine (hcall).mono ?_
  rintro e w1 hT
  obtain ⟨G1, O, oc, rfl, hm1, hv1, ho1⟩ := hT.open_ HOp
  have hz1 := hv1.size
  go_wp2_with fail
  refine (Zdi lo b x y SG G1 _ hm1 hx hy (by omega) (by omega)).mono ?_
  rintro e w4 ⟨G4, rfl, hm4, hv4_⟩
  rw [hN.out]
  have hv4 := hv1.trans_ hv4_; have ho4 := ho1.mv hv4_; have hz4 := hv4.size; clear hv1 ho1 hm1 hv4_
  go_wp2_with fail
  refine (Zbw lo b x y (SG ++ [⟨3, 0, 0⟩]) G4 N (N + 1) _ hm4 hx hy (by simp; omega) (by omega) (by have := hN.out; simp; omega)).mono ?_
  rintro e w2 ⟨G2, rfl, hm2, hv2_⟩
  have hv2 := hv4.trans_ hv2_; have ho2 := ho4.mv hv2_; have hz2 := hv2.size; clear hv4 ho4 hm4 hv2_
  have hoA := ho2.alloc_ (.cells #[.int .i64 (N + 1)] 3); have hmA := hm2.alloc_ (.cells #[.int .i64 (N + 1)] 3); have hvA := hv2.alloc_ (.cells #[.int .i64 (N + 1)] 3)
  go_wp2_with (at_builtin; refine Zae _ rfl _ _ rfl rfl hoA.1 rfl (Zaj _ _ _ _ (by simp)) (by omega) oM ?_; intro A5 c5 w5 hown5 hg5 hat5 hk5)
  have ho5 := hoA.appQ hmA hown5 hat5; have hm5 := hmA.app hoA hg5; have hv5 := hvA.app hoA hg5
  go_wp2
  go_ret
  exact RetRdQ.ofOM (n := 2) (by simp; exact HOp) rfl hm5 hv5 ho5
 ·rw [if_neg h1] at HOp ⊢
  dsimp only
  have hn1' : ((n : Int) == 1) = false := by simp; omega
  go_enter Tryz.func124, Tryz.ntmps124
  go_wp2_with fail
  refine (hcall).mono ?_
  rintro e w1 hT
  obtain ⟨G1, O, oc, rfl, hm1, hv1, ho1⟩ := hT.open_ HOp
  go_wp2
  go_ret
  exact RetRdQ.ofOM HOp rfl hm1 hv1 ho1
set_option maxRecDepth 100000 in
set_option maxHeartbeats 4000000 in
theorem coTwo_and (lo b : Nat) (x y : Int) (g0 : List G3) (G : Option Nat) (A B : Option Addr) (n c d : Nat) (us vs : List Int) (w : World) (hm : MkQ Qo w lo b x y g0 G) (ha : RM w b G A n us) (hb : RM w b G B n vs) (hx : 0 ≤ x ∧ x ≤ 20) (hy : 0 ≤ y ∧ y ≤ 20) (hg : g0.length ≤ 40000) (hn1 : 1 ≤ n) (hn : n ≤ 10) (hlo : lo ≤ w.heap.size) :
 Calls Tryz.prog 124 #[.pointer (some ⟨b, 0, none⟩), .string (bs [38]), .slice A n c, .slice B n d] w (RetRdQ Qo lo b x y (bitS 1 (x + y) us vs g0 n).g (bitS 1 (x + y) us vs g0 n).o G w) := by
 have t43 : ((bs [38]).toList == [43]) = false := Zac (by decide)
 have t45 : ((bs [38]).toList == [45]) = false := Zac (by decide)
 have t60 : ((bs [38]).toList == [60]) = false := Zac (by decide)
 have t61 : ((bs [38]).toList == [61]) = false := Zac (by decide)
 have t42 : ((bs [38]).toList == [42]) = false := Zac (by decide)
 have t38 : ((bs [38]).toList == [38]) = true := bs_is rfl
 have t94 : ((bs [38]).toList == [94]) = false := Zac (by decide)
 have HG : Hid (∀ i, (bitS 1 (x + y) us vs g0 i).g.length ≤ g0.length + 3 * i) := zH (bitS_g 1 (x + y) us vs g0)
 have HO : Hid (∀ i, (bitS 1 (x + y) us vs g0 i).o.length = i) := zH (bitS_o 1 (x + y) us vs g0)
 have H0 : Hid (bitS 1 (x + y) us vs g0 0 = ⟨g0, []⟩) := zH rfl
 have HS : Hid (∀ i, bitS 1 (x + y) us vs g0 (i + 1) = bitStep 1 (x + y + (bitS 1 (x + y) us vs g0 i).g.length) (gi us i) (gi vs i) (bitS 1 (x + y) us vs g0 i)) := zH fun i => rfl
 generalize bitS 1 (x + y) us vs g0 = S at *
 have hst : MkQ Qo w lo b x y (S 0).g G ∧ OM w b G w.heap.size (.slice none 0 0) 0 (S 0).o ∧ Mv b G G w w := by
  rw [H0.out]; exact ⟨hm, OM.none_ _ _ _ _, Mv.refl_ b G w⟩
 obtain ⟨hm0, ho0, hv0⟩ := hst
 go_enter Tryz.func124, Tryz.ntmps124
 go_wp2
 go_loopw [12, 70] (fun o i wr => ∃ (k : Nat) (O : Option Addr) (oc : Nat) (G1 : Option Nat), k ≤ n ∧ i = .int .i64 k ∧ o = .slice O k oc ∧ MkQ Qo wr lo b x y (S k).g G1 ∧ OM wr b G1 w.heap.size (.slice O k oc) k (S k).o ∧ Mv b G G1 w wr) (fun _ i _ => n - (intOf i).toNat)
 case atStart => exact ⟨0, _, _, _, Nat.zero_le _, rfl, rfl, hm0, ho0, hv0⟩
 case round =>
  obtain ⟨k, O, oc, G1, hk, rfl, rfl, hm1, ho1, hv1⟩ := hrel
  clear hm0 ho0 hv0
  have hz1 := hv1.size
  by_cases hlt : k < n
  ·obtain ⟨ka, oa, rfl, hka, ca⟩ := ha.1.at_ hlt
   obtain ⟨kb, ob, rfl, hkb, cb⟩ := hb.1.at_ hlt
   obtain ⟨va, hva⟩ := lT (gi us k)
   obtain ⟨vb, hvb⟩ := lT (gi vs k)
   have hgl := HG.out k
   obtain ⟨SG, SO, hSk⟩ : ∃ SG SO, Hid (S k = ⟨SG, SO⟩) := ⟨_, _, zH rfl⟩
   have hS := zH (HS.out k)
   rw [hSk.out] at hm1 ho1 hgl
   rw [hva.out, hvb.out, hSk.out] at hS
   dsimp only at hm1 ho1 hgl hS
   obtain ⟨N, hN⟩ := lT (x + y + (SG.length : Int))
   rw [hN.out] at hS
   clear ca cb hka hkb
   obtain ⟨ca, na, hka0⟩ := ha.cellV hv1 hlt hva
   obtain ⟨cb, nb, hkb0⟩ := hb.cellV hv1 hlt hvb
   have hfar := ho1.far
   go_wp2_with fail
   refine (Zba lo b x y SG G1 va vb N _ hm1 hx hy oN (by have := hv1.size; omega) (by have := hN.out; first | omega | (simp; omega))).mono ?_
   rintro e w2 ⟨G2, rfl, hm2, hv2_⟩
   have hv2 := hv1.trans_ hv2_; have ho2 := ho1.mv hv2_; have hz2 := hv2.size; clear hv1 ho1 hm1 hv2_
   have hoA := ho2.alloc_ (.cells #[.int .i64 (N)] 3); have hmA := hm2.alloc_ (.cells #[.int .i64 (N)] 3); have hvA := hv2.alloc_ (.cells #[.int .i64 (N)] 3)
   go_wp2_with (at_builtin; refine Zae _ rfl _ _ rfl rfl hoA.1 rfl (Zaj _ _ _ _ (by simp)) (by omega) oM ?_; intro A5 c5 w5 hown5 hg5 hat5 hk5)
   have ho5 := hoA.appQ hmA hown5 hat5; have hm5 := hmA.app hoA hg5; have hv5 := hvA.app hoA hg5; have hz5 := hv5.size; clear hoA hmA hvA hown5 hg5 hat5 hk5 hv2 ho2 hm2
   have hS1 : Hid (S (k + 1) = ⟨SG ++ [⟨1, va, vb⟩], SO ++ [N]⟩) := zH (by rw [hS.out]; simp [bitStep])
   have hrel1 : MkQ Qo w5 lo b x y (S (k + 1)).g G2 ∧ OM w5 b G2 w.heap.size (.slice A5 (k + 1) c5) (k + 1) (S (k + 1)).o := by rw [hS1.out]; exact ⟨hm5, ho5⟩
   clear hm5 ho5 hS hS1 hSk hgl hN hva hvb
   go_wp2
   go_roundw
   case rel => exact ⟨k + 1, _, _, _, by omega, by go_num, rfl, hrel1.1, hrel1.2, hv5⟩
   case measure => simp [intOf]; omega
  ·obtain rfl : n = k := Nat.le_antisymm (Nat.le_of_not_lt hlt) hk
   go_wp2
   go_ret
   exact RetRdQ.ofOM (HO.out n) rfl hm1 hv1 ho1
variable {Qo : OQ}
set_option maxRecDepth 100000 in
set_option maxHeartbeats 4000000 in
theorem coTwo_xor (lo b : Nat) (x y : Int) (g0 : List G3) (G : Option Nat) (A B : Option Addr) (n c d : Nat) (us vs : List Int) (w : World) (hm : MkQ Qo w lo b x y g0 G) (ha : RM w b G A n us) (hb : RM w b G B n vs) (hx : 0 ≤ x ∧ x ≤ 20) (hy : 0 ≤ y ∧ y ≤ 20) (hg : g0.length ≤ 40000) (hn1 : 1 ≤ n) (hn : n ≤ 10) (hlo : lo ≤ w.heap.size) :
 Calls Tryz.prog 124 #[.pointer (some ⟨b, 0, none⟩), .string (bs [94]), .slice A n c, .slice B n d] w (RetRdQ Qo lo b x y (bitS 0 (x + y) us vs g0 n).g (bitS 0 (x + y) us vs g0 n).o G w) := by
 have t43 : ((bs [94]).toList == [43]) = false := Zac (by decide)
 have t45 : ((bs [94]).toList == [45]) = false := Zac (by decide)
 have t60 : ((bs [94]).toList == [60]) = false := Zac (by decide)
 have t61 : ((bs [94]).toList == [61]) = false := Zac (by decide)
 have t42 : ((bs [94]).toList == [42]) = false := Zac (by decide)
 have t38 : ((bs [94]).toList == [38]) = false := Zac (by decide)
 have t94 : ((bs [94]).toList == [94]) = true := bs_is rfl
 have HG : Hid (∀ i, (bitS 0 (x + y) us vs g0 i).g.length ≤ g0.length + 3 * i) := zH (bitS_g 0 (x + y) us vs g0)
 have HO : Hid (∀ i, (bitS 0 (x + y) us vs g0 i).o.length = i) := zH (bitS_o 0 (x + y) us vs g0)
 have H0 : Hid (bitS 0 (x + y) us vs g0 0 = ⟨g0, []⟩) := zH rfl
 have HS : Hid (∀ i, bitS 0 (x + y) us vs g0 (i + 1) = bitStep 0 (x + y + (bitS 0 (x + y) us vs g0 i).g.length) (gi us i) (gi vs i) (bitS 0 (x + y) us vs g0 i)) := zH fun i => rfl
 generalize bitS 0 (x + y) us vs g0 = S at *
 have hst : MkQ Qo w lo b x y (S 0).g G ∧ OM w b G w.heap.size (.slice none 0 0) 0 (S 0).o ∧ Mv b G G w w := by
  rw [H0.out]; exact ⟨hm, OM.none_ _ _ _ _, Mv.refl_ b G w⟩
 obtain ⟨hm0, ho0, hv0⟩ := hst
 go_enter Tryz.func124, Tryz.ntmps124
 go_wp2
 go_loopw [12, 70] (fun o i wr => ∃ (k : Nat) (O : Option Addr) (oc : Nat) (G1 : Option Nat), k ≤ n ∧ i = .int .i64 k ∧ o = .slice O k oc ∧ MkQ Qo wr lo b x y (S k).g G1 ∧ OM wr b G1 w.heap.size (.slice O k oc) k (S k).o ∧ Mv b G G1 w wr) (fun _ i _ => n - (intOf i).toNat)
 case atStart => exact ⟨0, _, _, _, Nat.zero_le _, rfl, rfl, hm0, ho0, hv0⟩
 case round =>
  obtain ⟨k, O, oc, G1, hk, rfl, rfl, hm1, ho1, hv1⟩ := hrel
  clear hm0 ho0 hv0
  have hz1 := hv1.size
  by_cases hlt : k < n
  ·obtain ⟨ka, oa, rfl, hka, ca⟩ := ha.1.at_ hlt
   obtain ⟨kb, ob, rfl, hkb, cb⟩ := hb.1.at_ hlt
   obtain ⟨va, hva⟩ := lT (gi us k)
   obtain ⟨vb, hvb⟩ := lT (gi vs k)
   have hgl := HG.out k
   obtain ⟨SG, SO, hSk⟩ : ∃ SG SO, Hid (S k = ⟨SG, SO⟩) := ⟨_, _, zH rfl⟩
   have hS := zH (HS.out k)
   rw [hSk.out] at hm1 ho1 hgl
   rw [hva.out, hvb.out, hSk.out] at hS
   dsimp only at hm1 ho1 hgl hS
   obtain ⟨N, hN⟩ := lT (x + y + (SG.length : Int))
   rw [hN.out] at hS
   clear ca cb hka hkb
   obtain ⟨ca, na, hka0⟩ := ha.cellV hv1 hlt hva
   obtain ⟨cb, nb, hkb0⟩ := hb.cellV hv1 hlt hvb
   have hfar := ho1.far
   go_wp2_with fail
   refine (Zaq lo b x y SG G1 va vb N _ hm1 hx hy oN (by have := hv1.size; omega) (by have := hN.out; first | omega | (simp; omega))).mono ?_
   rintro e w2 ⟨G2, rfl, hm2, hv2_⟩
   have hv2 := hv1.trans_ hv2_; have ho2 := ho1.mv hv2_; have hz2 := hv2.size; clear hv1 ho1 hm1 hv2_
   have hoA := ho2.alloc_ (.cells #[.int .i64 (N)] 3); have hmA := hm2.alloc_ (.cells #[.int .i64 (N)] 3); have hvA := hv2.alloc_ (.cells #[.int .i64 (N)] 3)
   go_wp2_with (at_builtin; refine Zae _ rfl _ _ rfl rfl hoA.1 rfl (Zaj _ _ _ _ (by simp)) (by omega) oM ?_; intro A5 c5 w5 hown5 hg5 hat5 hk5)
   have ho5 := hoA.appQ hmA hown5 hat5; have hm5 := hmA.app hoA hg5; have hv5 := hvA.app hoA hg5; have hz5 := hv5.size; clear hoA hmA hvA hown5 hg5 hat5 hk5 hv2 ho2 hm2
   have hS1 : Hid (S (k + 1) = ⟨SG ++ [⟨0, va, vb⟩], SO ++ [N]⟩) := zH (by rw [hS.out]; simp [bitStep])
   have hrel1 : MkQ Qo w5 lo b x y (S (k + 1)).g G2 ∧ OM w5 b G2 w.heap.size (.slice A5 (k + 1) c5) (k + 1) (S (k + 1)).o := by rw [hS1.out]; exact ⟨hm5, ho5⟩
   clear hm5 ho5 hS hS1 hSk hgl hN hva hvb
   go_wp2
   go_roundw
   case rel => exact ⟨k + 1, _, _, _, by omega, by go_num, rfl, hrel1.1, hrel1.2, hv5⟩
   case measure => simp [intOf]; omega
  ·obtain rfl : n = k := Nat.le_antisymm (Nat.le_of_not_lt hlt) hk
   go_wp2
   go_ret
   exact RetRdQ.ofOM (HO.out n) rfl hm1 hv1 ho1
set_option maxRecDepth 100000 in
set_option maxHeartbeats 4000000 in
theorem coTwo_or (lo b : Nat) (x y : Int) (g0 : List G3) (G : Option Nat) (A B : Option Addr) (n c d : Nat) (us vs : List Int) (w : World) (hm : MkQ Qo w lo b x y g0 G) (ha : RM w b G A n us) (hb : RM w b G B n vs) (hx : 0 ≤ x ∧ x ≤ 20) (hy : 0 ≤ y ∧ y ≤ 20) (hg : g0.length ≤ 40000) (hn1 : 1 ≤ n) (hn : n ≤ 10) (hlo : lo ≤ w.heap.size) :
 Calls Tryz.prog 124 #[.pointer (some ⟨b, 0, none⟩), .string (bs [124]), .slice A n c, .slice B n d] w (RetRdQ Qo lo b x y (bitS 2 (x + y) us vs g0 n).g (bitS 2 (x + y) us vs g0 n).o G w) := by
 have t43 : ((bs [124]).toList == [43]) = false := Zac (by decide)
 have t45 : ((bs [124]).toList == [45]) = false := Zac (by decide)
 have t60 : ((bs [124]).toList == [60]) = false := Zac (by decide)
 have t61 : ((bs [124]).toList == [61]) = false := Zac (by decide)
 have t42 : ((bs [124]).toList == [42]) = false := Zac (by decide)
 have t38 : ((bs [124]).toList == [38]) = false := Zac (by decide)
 have t94 : ((bs [124]).toList == [94]) = false := Zac (by decide)
 have HG : Hid (∀ i, (bitS 2 (x + y) us vs g0 i).g.length ≤ g0.length + 3 * i) := zH (bitS_g 2 (x + y) us vs g0)
 have HO : Hid (∀ i, (bitS 2 (x + y) us vs g0 i).o.length = i) := zH (bitS_o 2 (x + y) us vs g0)
 have H0 : Hid (bitS 2 (x + y) us vs g0 0 = ⟨g0, []⟩) := zH rfl
 have HS : Hid (∀ i, bitS 2 (x + y) us vs g0 (i + 1) = bitStep 2 (x + y + (bitS 2 (x + y) us vs g0 i).g.length) (gi us i) (gi vs i) (bitS 2 (x + y) us vs g0 i)) := zH fun i => rfl
 generalize bitS 2 (x + y) us vs g0 = S at *
 have hst : MkQ Qo w lo b x y (S 0).g G ∧ OM w b G w.heap.size (.slice none 0 0) 0 (S 0).o ∧ Mv b G G w w := by
  rw [H0.out]; exact ⟨hm, OM.none_ _ _ _ _, Mv.refl_ b G w⟩
 obtain ⟨hm0, ho0, hv0⟩ := hst
 go_enter Tryz.func124, Tryz.ntmps124
 go_wp2
 go_loopw [12, 70] (fun o i wr => ∃ (k : Nat) (O : Option Addr) (oc : Nat) (G1 : Option Nat), k ≤ n ∧ i = .int .i64 k ∧ o = .slice O k oc ∧ MkQ Qo wr lo b x y (S k).g G1 ∧ OM wr b G1 w.heap.size (.slice O k oc) k (S k).o ∧ Mv b G G1 w wr) (fun _ i _ => n - (intOf i).toNat)
 case atStart => exact ⟨0, _, _, _, Nat.zero_le _, rfl, rfl, hm0, ho0, hv0⟩
 case round =>
  obtain ⟨k, O, oc, G1, hk, rfl, rfl, hm1, ho1, hv1⟩ := hrel
  clear hm0 ho0 hv0
  have hz1 := hv1.size
  by_cases hlt : k < n
  ·obtain ⟨ka, oa, rfl, hka, ca⟩ := ha.1.at_ hlt
   obtain ⟨kb, ob, rfl, hkb, cb⟩ := hb.1.at_ hlt
   obtain ⟨va, hva⟩ := lT (gi us k)
   obtain ⟨vb, hvb⟩ := lT (gi vs k)
   have hgl := HG.out k
   obtain ⟨SG, SO, hSk⟩ : ∃ SG SO, Hid (S k = ⟨SG, SO⟩) := ⟨_, _, zH rfl⟩
   have hS := zH (HS.out k)
   rw [hSk.out] at hm1 ho1 hgl
   rw [hva.out, hvb.out, hSk.out] at hS
   dsimp only at hm1 ho1 hgl hS
   obtain ⟨N, hN⟩ := lT (x + y + (SG.length : Int))
   rw [hN.out] at hS
   clear ca cb hka hkb
   obtain ⟨ca, na, hka0⟩ := ha.cellV hv1 hlt hva
   obtain ⟨cb, nb, hkb0⟩ := hb.cellV hv1 hlt hvb
   have hfar := ho1.far
   go_wp2_with fail
   refine (Zaq lo b x y SG G1 va vb N _ hm1 hx hy oN (by have := hv1.size; omega) (by have := hN.out; first | omega | (simp; omega))).mono ?_
   rintro e w2 ⟨G2, rfl, hm2, hv2_⟩
   have hv2 := hv1.trans_ hv2_; have ho2 := ho1.mv hv2_; have hz2 := hv2.size; clear hv1 ho1 hm1 hv2_ cb nb hkb0
   obtain ⟨cb, nb, hkb0⟩ := hb.cellV hv2 hlt hvb
   go_wp2_with fail
   refine (Zba lo b x y (SG ++ [⟨0, va, vb⟩]) G2 va vb (N + 1) _ hm2 hx hy oN (by have := hv2.size; omega) (by have := hN.out; first | omega | (simp; omega))).mono ?_
   rintro e w3 ⟨G3, rfl, hm3, hv3_⟩
   have hv3 := hv2.trans_ hv3_; have ho3 := ho2.mv hv3_; have hz3 := hv3.size; clear hv2 ho2 hm2 hv3_
   go_wp2_with fail
   refine (Zaq lo b x y (SG ++ [⟨0, va, vb⟩] ++ [⟨1, va, vb⟩]) G3 N (N + 1) (N + 2) _ hm3 hx hy oN (by have := hv3.size; omega) (by have := hN.out; first | omega | (simp; omega))).mono ?_
   rintro e w4 ⟨G4, rfl, hm4, hv4_⟩
   have hv4 := hv3.trans_ hv4_; have ho4 := ho3.mv hv4_; have hz4 := hv4.size; clear hv3 ho3 hm3 hv4_
   have hoA := ho4.alloc_ (.cells #[.int .i64 (N + 2)] 3); have hmA := hm4.alloc_ (.cells #[.int .i64 (N + 2)] 3); have hvA := hv4.alloc_ (.cells #[.int .i64 (N + 2)] 3)
   go_wp2_with (at_builtin; refine Zae _ rfl _ _ rfl rfl hoA.1 rfl (Zaj _ _ _ _ (by simp)) (by omega) oM ?_; intro A5 c5 w5 hown5 hg5 hat5 hk5)
   have ho5 := hoA.appQ hmA hown5 hat5; have hm5 := hmA.app hoA hg5; have hv5 := hvA.app hoA hg5; have hz5 := hv5.size; clear hoA hmA hvA hown5 hg5 hat5 hk5 hv4 ho4 hm4
   have hS1 : Hid (S (k + 1) = ⟨SG ++ [⟨0, va, vb⟩] ++ [⟨1, va, vb⟩] ++ [⟨0, N, N + 1⟩], SO ++ [N + 2]⟩) := zH (by rw [hS.out]; simp [bitStep])
   have hrel1 : MkQ Qo w5 lo b x y (S (k + 1)).g G4 ∧ OM w5 b G4 w.heap.size (.slice A5 (k + 1) c5) (k + 1) (S (k + 1)).o := by rw [hS1.out]; exact ⟨hm5, ho5⟩
   clear hm5 ho5 hS hS1 hSk hgl hN hva hvb
   go_wp2
   go_roundw
   case rel => exact ⟨k + 1, _, _, _, by omega, by go_num, rfl, hrel1.1, hrel1.2, hv5⟩
   case measure => simp [intOf]; omega
  ·obtain rfl : n = k := Nat.le_antisymm (Nat.le_of_not_lt hlt) hk
   go_wp2
   go_ret
   exact RetRdQ.ofOM (HO.out n) rfl hm1 hv1 ho1
variable {Qo : OQ}
theorem coTwo_any (lo b : Nat) (x y : Int) (g0 : List G3) (G : Option Nat) (A B : Option Addr) (n c d : Nat) (us vs : List Int) (w : World) (hm : MkQ Qo w lo b x y g0 G) (ha : RM w b G A n us) (hb : RM w b G B n vs) (hx : 0 ≤ x ∧ x ≤ 20) (hy : 0 ≤ y ∧ y ≤ 20) (hg : g0.length ≤ 40000) (hn1 : 1 ≤ n) (hn : n ≤ 10) (hlo : lo ≤ w.heap.size) (op : Str) (ho : opB op = true) (h5 : op = [42] → n ≤ 5) :
 Calls Tryz.prog 124 #[.pointer (some ⟨b, 0, none⟩), .string (bs op), .slice A n c, .slice B n d] w (RetRdQ Qo lo b x y (twoS (x + y) op us vs g0 n).g (twoS (x + y) op us vs g0 n).o G w) := by
 rcases opB_cases ho with rfl | rfl | rfl | rfl | rfl | rfl | rfl | rfl
 ·exact coTwo_add lo b x y g0 G A B n c d us vs w hm ha hb hx hy hg hn1 hn hlo
 ·exact coTwo_sub lo b x y g0 G A B n c d us vs w hm ha hb hx hy hg hn1 hn hlo
 ·exact coTwo_mul lo b x y g0 G A B n c d us vs w hm ha hb hx hy hg hn1 hn hlo (h5 rfl)
 ·exact coTwo_less lo b x y g0 G A B n c d us vs w hm ha hb hx hy hg hn1 hn hlo
 ·exact coTwo_eq lo b x y g0 G A B n c d us vs w hm ha hb hx hy hg hn1 hn hlo
 ·exact coTwo_and lo b x y g0 G A B n c d us vs w hm ha hb hx hy hg hn1 hn hlo
 ·exact coTwo_or lo b x y g0 G A B n c d us vs w hm ha hb hx hy hg hn1 hn hlo
 ·exact coTwo_xor lo b x y g0 G A B n c d us vs w hm ha hb hx hy hg hn1 hn hlo
def NL (w : World) (b : Nat) (G : Option Nat) (lo : Nat) (v : Value) (n : Nat) (xss : List (List Int)) : Prop :=
 ∃ vals : List Value, w.ownsRow lo 24 1 v n vals ∧ (∀ g, v.ownBlock = some g → g ≠ b ∧ G ≠ some g) ∧ xss.length = n ∧
  ∀ j : Nat, j < n → ∃ A m c, vals[j]? = some (.slice A m c) ∧ RM w b G A m (gl xss j) ∧ ∀ k o, A = some ⟨k, o, none⟩ → v.ownBlock ≠ some k ∧ k < w.heap.size
section
variable {w w' : World} {b lo lo' n : Nat} {G G' : Option Nat} {v : Value} {xss : List (List Int)} {x y : Int} {Ao : Option Addr} {no co : Nat} {gs : List G3}
theorem NL.len (h : NL w b G lo v n xss) : xss.length = n := by obtain ⟨_, _, _, h3, _⟩ := h; exact h3
theorem NL.lt (h : NL w b G lo v n xss) : ∀ g, v.ownBlock = some g → lo ≤ g ∧ g < w.heap.size ∧ g ≠ b ∧ G ≠ some g := by
 obtain ⟨vals, h1, h2, _⟩ := h
 exact fun g hg => ⟨(h1.lt g hg).1, (h1.lt g hg).2, (h2 g hg).1, (h2 g hg).2⟩
theorem NL.new0 (w : World) (b : Nat) (G : Option Nat) (lo : Nat) (hl : lo ≤ w.heap.size) (hb : b < w.heap.size) (hG : ∀ g, G = some g → g < w.heap.size) : NL (w.alloc (.cells #[] 24)) b G lo (.slice (some ⟨w.heap.size, 0, none⟩) 0 0) 0 [] := by
 have h := World.ownsRow_lit (base := lo) (e := 24) (size := 1) w #[] 0 hl (by unfold maxLen; omega) (by simp)
 refine ⟨[], by simpa using h, fun g hg => ?_, rfl, fun j hj => absurd hj (by omega)⟩
 have hg' : w.heap.size = g := by simpa [Value.ownBlock] using hg
 exact ⟨by omega, fun hc => by have := hG g hc; omega⟩
theorem ownsRow_alt {S : Nat → Prop} {e : TypeId} {s : Nat} {vals : List Value} (h : w.ownsRow lo e s v n vals) (k : Alt S w w') (hs : ∀ g, v.ownBlock = some g → ¬ S g) : w'.ownsRow lo e s v n vals := by
 refine ⟨h.1, ?_⟩
 rcases h.2 with h1 | ⟨g, cap, cur, rfl, hlo, hg, r⟩
 ·exact .inl h1
 ·have hl := h.lt g (by simp [Value.ownBlock])
  exact .inr ⟨g, cap, cur, rfl, hlo, by rw [k.block g hl.2 (hs g (by simp [Value.ownBlock]))]; exact hg, r⟩
theorem RM.alt {S : Nat → Prop} {A : Option Addr} {m : Nat} {xs : List Int} (h : RM w b G A m xs) (k : Alt S w w') (hs : ∀ q o, A = some ⟨q, o, none⟩ → ¬ S q) : RM w' b G A m xs :=
 ⟨h.1.alt k (fun _ q o hA => hs q o hA), h.2⟩
theorem NL.below_ {B : Nat} (h : NL w b G lo v n xss) (k : Below B w w') (hB : w.heap.size ≤ B) : NL w' b G lo v n xss := by
 obtain ⟨vals, h1, h2, h3, h4⟩ := h
 have hal : Alt (fun i => B ≤ i) w w' := Alt.of_below k fun _ _ h => h
 refine ⟨vals, ownsRow_alt h1 hal (fun g hg hc => by have := (h1.lt g hg).2; omega), h2, h3, fun j hj => ?_⟩
 obtain ⟨A, m, c, h5, h6, h7⟩ := h4 j hj
 exact ⟨A, m, c, h5, h6.below_ k hB, fun q o hA => ⟨(h7 q o hA).1, Nat.lt_of_lt_of_le (h7 q o hA).2 k.size⟩⟩
theorem NL.alloc_ (h : NL w b G lo v n xss) (o : Obj) : NL (w.alloc o) b G lo v n xss := h.below_ ((Below.refl _ _).alloc lR o) lR
theorem NL.at_ {A : Option Addr} {c : Nat} (h : NL w b G lo (.slice A n c) n xss) {k : Nat} (hk : k < n) :
 ∃ g A' m c', A = some ⟨g, 0, none⟩ ∧ lo ≤ g ∧ g < w.heap.size ∧ w.cell? ⟨g, k, none⟩ = some (.slice A' m c') ∧ w.frozen? ⟨g, k, none⟩ = false ∧ RM w b G A' m (gl xss k) ∧ ∀ q o, A' = some ⟨q, o, none⟩ → q ≠ g ∧ q < w.heap.size := by
 obtain ⟨vals, h1, h2, h3, h4⟩ := h
 obtain ⟨g, cap, hv, hl, hlt⟩ := h1.form (by omega)
 simp only [Value.slice.injEq, true_and] at hv
 obtain ⟨rfl, rfl⟩ := hv
 obtain ⟨A', m, c', h5, h6, h7⟩ := h4 k hk
 exact ⟨g, A', m, c', rfl, hl, hlt, by rw [h1.cellAt k (by omega), h5], h1.frozenAt k, h6, fun q o hA => ⟨fun hc => (h7 q o hA).1 (by simp [Value.ownBlock, hc]), (h7 q o hA).2⟩⟩
end
section
variable (w : World)
theorem run_appN (ty : TypeId) (lo n c0 m c b bq q : Nat) (G : Option Nat) (A0 A : Option Addr) (xss : List (List Int)) (ys : List Int) (hown : NL w b G lo (.slice A0 n c0) n xss) (hnew : RM w b G A m ys) (hd : ∀ k o, A = some ⟨k, o, none⟩ → (Value.slice A0 n c0).ownBlock ≠ some k ∧ k < w.heap.size)
 (hc : w.cell? ⟨bq, 0, none⟩ = some (.slice A m c)) (hlen : n ≤ 4194304) (hlo : lo ≤ w.heap.size) (hb : b < w.heap.size) (hG : ∀ g, G = some g → g < w.heap.size) :
 ∃ A' c' w', (Builtin.append_ #[61, 61] ty #[.slice A0 n c0, .slice (some ⟨bq, 0, none⟩) 1 q]).run Tryz.prog w = .ok (.slice A' (n + 1) c') w' ∧
  NL w' b G lo (.slice A' (n + 1) c') (n + 1) (xss ++ [ys]) ∧ w.grownBy w' (Value.slice A0 n c0).ownBlock := by
 obtain ⟨vals, h1, h2, h3, h4⟩ := hown
 obtain ⟨i, hi0, hz0, hz1, hz2⟩ := info_parts info_ints
 have hrv : RV w (some ⟨bq, 0, none⟩) 1 1 [.slice A m c] := by
  refine ⟨rfl, fun _ => ⟨_, rfl, fun j u hu => ?_⟩⟩
  cases j with
  | zero => simp at hu; subst hu; rw [Zcf]; exact hc
  | succ j => simp at hu
 obtain ⟨A', c', w', hrun, hr, hg, hat, hs⟩ := Zdn (P := Tryz.prog) w 61 ty 24 i (.slice none 0 0) 1 24 Tryz.underlying61 hi0 hz0 hz1 hz2 rfl (by decide) lo n c0 1 q A0 (some ⟨bq, 0, none⟩) _ _ h1 hrv (by intro u hu; simp at hu; subst hu; rfl) (by unfold maxLen; omega) (by omega) hlo
 have hl : vals.length = n := by simpa using h1.1
 have ka := Alt.of_grown (S := fun i => (Value.slice A0 n c0).ownBlock = some i) hg (fun _ h => h)
 refine ⟨A', c', w', hrun, ⟨_, hr, fun g hg' => ?_, by simp [h3], fun j hj => ?_⟩, hg⟩
 ·rcases hat with h | h
  ·exact h2 g (h ▸ hg')
  ·rw [h] at hg'; injection hg' with hg'; subst hg'
   exact ⟨by omega, fun hc => by have := hG _ hc; omega⟩
 ·by_cases hjn : j < n
  ·obtain ⟨A2, m2, c2, h5, h6, h7⟩ := h4 j hjn
   refine ⟨A2, m2, c2, by rw [List.getElem?_append_left (by omega)]; exact h5, ?_, fun k o hA => ⟨fun hcc => ?_, Nat.lt_of_lt_of_le (h7 k o hA).2 hg.size⟩⟩
   ·rw [gl_append_lt (by omega)]; exact h6.alt ka (fun k o hA => (h7 k o hA).1)
   ·rcases hat with h | h
    ·exact (h7 k o hA).1 (h ▸ hcc)
    ·rw [h] at hcc; injection hcc with hcc; have := (h7 k o hA).2; omega
  ·obtain rfl : j = n := by omega
   refine ⟨A, m, c, by rw [List.getElem?_append_right (by omega), hl, Nat.sub_self]; rfl, ?_, fun k o hA => ⟨fun hcc => ?_, Nat.lt_of_lt_of_le (hd k o hA).2 hg.size⟩⟩
   ·rw [← h3, gl_append_eq]; exact hnew.alt ka (fun k o hA => (hd k o hA).1)
   ·rcases hat with h | h
    ·exact (hd k o hA).1 (h ▸ hcc)
    ·rw [h] at hcc; injection hcc with hcc; have := (hd k o hA).2; omega
end
variable {Qo : OQ}
theorem bitsN_len2 (v k : Nat) : (bitsN v k).length = k := by simp [bitsN, tab_len]
theorem bitsN_01 (v k j : Nat) (hj : j < k) : gi (bitsN v k) j = 0 ∨ gi (bitsN v k) j = 1 := by
 unfold bitsN
 rw [gi_tab hj]
 have : v / 2 ^ j % 2 = 0 ∨ v / 2 ^ j % 2 = 1 := by omega
 rcases this with h | h <;> simp [h]
def cstW (N : Int) (bits : List Int) : List Int := bits.map fun b => N + 1 - b
theorem cstW_snoc {N : Int} {bits : List Int} {j : Nat} (h : j < bits.length) : cstW N (bits.take (j + 1)) = cstW N (bits.take j) ++ [N + 1 - gi bits j] := by
 unfold cstW; rw [Zbj h]; simp
theorem RI.app_other {w w' : World} {bb bo n m : Nat} {xs : List Int} {r : Option Nat} (h : RI w (some ⟨bb, bo, none⟩) n xs) (hg : w.grownBy w' r) (hne : r ≠ some bb) : RI w' (some ⟨bb, bo, none⟩) n xs :=
 h.alt (Alt.of_grown (S := fun i => r = some i) hg (fun _ h => h)) (fun _ q o hA => by
  simp only [Option.some.injEq, Addr.mk.injEq, and_true] at hA
  obtain ⟨rfl, _⟩ := hA
  exact hne)
set_option maxHeartbeats 1600000 in
theorem maker_constant_any (lo b : Nat) (x y : Int) (g0 : List G3) (G : Option Nat) (v k : Nat) (w : World) (hm : MkQ Qo w lo b x y g0 G) (hx : 0 ≤ x ∧ x ≤ 20) (hy : 0 ≤ y ∧ y ≤ 20) (hg : g0.length ≤ 40000) (hv : v ≤ 70000) (hk1 : 1 ≤ k) (hk : k ≤ 20) (hlo : lo ≤ w.heap.size) :
 Calls Tryz.prog 151 #[.pointer (some ⟨b, 0, none⟩), .int .i64 v, .int .i64 k] w (RetRowQ Qo lo b x y (constS (x + y) (bitsN v k) g0).g (constS (x + y) (bitsN v k) g0).o G w) := by
 obtain ⟨N, hN⟩ := lT (x + y + (g0.length : Int))
 have hCG : Hid ((constS (x + y) (bitsN v k) g0).g = g0 ++ [⟨3, 0, 0⟩] ++ [⟨2, N, 0⟩]) := zH (by unfold constS; rw [hN.out])
 have hCO : Hid ((constS (x + y) (bitsN v k) g0).o = cstW N (bitsN v k)) := zH (by unfold constS cstW; rw [hN.out])
 have hbl := bitsN_len2 v k
 have hb01 : Hid (∀ j, j < k → gi (bitsN v k) j = 0 ∨ gi (bitsN v k) j = 1) := zH (fun j hj => bitsN_01 v k j hj)
 have hNb : 0 ≤ N ∧ N ≤ 50000 := by have := hN.out; omega
 rw [hCG.out, hCO.out]
 obtain ⟨bits, hbits⟩ := lT (bitsN v k)
 rw [hbits.out] at hbl hb01 ⊢
 go_enter Tryz.func151, Tryz.ntmps151
 go_wp2_with fail
 refine (Zfe lo b x y g0 G N w hm hx hy (by omega) hlo hN.out).mono ?_
 rintro e w1 ⟨G1, rfl, hm1, hv1⟩
 have hz1 := hv1.size
 have ho1 := OM.new0Q hm1 hz1
 have hm2 := hm1.alloc_ (.cells #[] 3)
 have hv2 := hv1.alloc_ (.cells #[] 3)
 have hT0 := Zdx v k (w1.alloc (.cells #[] 3)) (by omega) (by omega)
 rw [hbits.out] at hT0
 go_wp2_with fail
 refine (hT0).mono ?_
 rintro e w3 hT
 obtain ⟨A, c, rfl, hown, hb3⟩ := hT.open_ hbl
 have hm3 := hm2.below_ hb3 lR
 have hv3 := hv2.below_ hb3 lR
 have ho3 := ho1.below_ hb3 lR
 have hz3 := hb3.size
 rw [World.size_alloc] at hz3
 have hr3 := hown.reads
 obtain ⟨bb, rfl, hbb1, hbb2, hbb3⟩ := hown.some_ (by omega)
 rw [World.size_alloc] at hbb1
 have hne3 : (Value.slice (some ⟨w1.heap.size, 0, none⟩) 0 0).ownBlock ≠ some bb := by simp [Value.ownBlock]; omega
 clear hm1 hv1 ho1 hm2 hv2 hT0 hT hown
 go_wp2
 go_loopw [8, 18] (fun o i wr => ∃ (j : Nat) (O : Option Addr) (oc : Nat), j ≤ k ∧ i = .int .i64 j ∧ o = .slice O j oc ∧ MkQ Qo wr lo b x y (g0 ++ [⟨3, 0, 0⟩] ++ [⟨2, N, 0⟩]) G1 ∧ OM wr b G1 w.heap.size (.slice O j oc) j (cstW N (bits.take j)) ∧ Mv b G G1 w wr ∧ RI wr (some ⟨bb, 0, none⟩) k bits ∧ (Value.slice O j oc).ownBlock ≠ some bb ∧ bb < wr.heap.size) (fun _ i _ => k - (intOf i).toNat)
 case atStart => exact ⟨0, _, _, Nat.zero_le _, rfl, rfl, hm3, ho3, hv3, hr3, hne3, hbb3⟩
 case round =>
  obtain ⟨j, O, oc, hj, rfl, rfl, hmr, hor, hvr, hrr, hne, hbl2⟩ := hrel
  clear hm3 ho3 hv3 hr3 hne3
  have hzr := hvr.size
  by_cases hlt : j < k
  ·obtain ⟨bb', bo', hA, _, cb⟩ := hrr.at_ hlt
   simp only [Option.some.injEq, Addr.mk.injEq, and_true] at hA
   obtain ⟨rfl, rfl⟩ := hA
   simp only [Nat.zero_add] at cb
   have h01 := hb01.out j hlt
   have hsn : Hid (cstW N (bits.take (j + 1)) = cstW N (bits.take j) ++ [N + 1 - gi bits j]) := zH (cstW_snoc (by omega))
   obtain ⟨u, hu⟩ := lT (gi bits j)
   rw [hu.out] at cb h01 hsn
   have hub : 0 ≤ u ∧ u ≤ 1 := by omega
   clear h01
   have hwr : IntKind.i64.wrap (N + 1 - u) = N + 1 - u := by rw [IntKind.wrap_i64] <;> omega
   have hoA := hor.alloc_ (.cells #[.int .i64 (N + 1 - u)] 3); have hmA := hmr.alloc_ (.cells #[.int .i64 (N + 1 - u)] 3); have hvA := hvr.alloc_ (.cells #[.int .i64 (N + 1 - u)] 3); have hrA := hrr.alloc (.cells #[.int .i64 (N + 1 - u)] 3)
   go_wp2_with (at_builtin; refine Zae _ rfl _ _ rfl rfl hoA.1 rfl (Zaj _ _ _ _ (by simp)) (by omega) oM ?_; intro A5 c5 w5 hown5 hg5 hat5 hk5)
   have ho5 := hoA.appQ hmA hown5 hat5; have hm5 := hmA.app hoA hg5; have hv5 := hvA.app hoA hg5
   have hr5 := RI.app_other (m := 0) hrA hg5 hne
   have hne5 : (Value.slice A5 (j + 1) c5).ownBlock ≠ some bb := by
    rcases hat5 with h | h
    ·rw [h]; exact hne
    ·rw [h]; simp; omega
   have hbl5 : bb < w5.heap.size := by have := hg5.size; simp at this; omega
   clear hoA hmA hvA hrA hown5 hg5 hat5 hk5 hor hmr hvr hrr hne
   go_wp2
   go_roundw
   case rel => exact ⟨j + 1, _, _, by omega, by go_num, rfl, hm5, by rw [hsn.out]; exact ho5, hv5, hr5, hne5, hbl5⟩
   case measure => simp [intOf]; omega
  ·obtain rfl : k = j := Nat.le_antisymm (Nat.le_of_not_lt hlt) hj
   rw [List.take_of_length_le (by omega)] at hor
   have hcl : (cstW N bits).length = k := by simp [cstW, hbl]
   go_wp2
   go_ret
   exact RetRowQ.mk_ hcl rfl hmr hvr hor
set_option maxHeartbeats 1600000 in
theorem gdConst_any (lo b : Nat) (x y : Int) (g0 : List G3) (G : Option Nat) (v k : Nat) (w : World) (hm : MkQ Qo w lo b x y g0 G) (hx : 0 ≤ x ∧ x ≤ 20) (hy : 0 ≤ y ∧ y ≤ 20) (hg : g0.length ≤ 40000) (hv : v ≤ 70000) (hk1 : 1 ≤ k) (hk : k ≤ 20) (hlo : lo ≤ w.heap.size) :
 Calls Tryz.prog 123 #[.pointer (some ⟨b, 0, none⟩), .int .i64 v, .int .i64 k] w (RetRdQ Qo lo b x y (constS (x + y) (bitsN v k) g0).g (constS (x + y) (bitsN v k) g0).o G w) := by
 obtain ⟨N, hN⟩ := lT (x + y + (g0.length : Int))
 have hCG : Hid ((constS (x + y) (bitsN v k) g0).g = g0 ++ [⟨3, 0, 0⟩] ++ [⟨2, N, 0⟩]) := zH (by unfold constS; rw [hN.out])
 have hCO : Hid ((constS (x + y) (bitsN v k) g0).o = cstW N (bitsN v k)) := zH (by unfold constS cstW; rw [hN.out])
 have hbl := bitsN_len2 v k
 have hb01 : Hid (∀ j, j < k → gi (bitsN v k) j = 0 ∨ gi (bitsN v k) j = 1) := zH (fun j hj => bitsN_01 v k j hj)
 have hNb : 0 ≤ N ∧ N ≤ 50000 := by have := hN.out; omega
 rw [hCG.out, hCO.out]
 obtain ⟨bits, hbits⟩ := lT (bitsN v k)
 rw [hbits.out] at hbl hb01 ⊢
 go_enter Tryz.func123, Tryz.ntmps123
 go_wp2_with fail
 refine (Zdi lo b x y g0 G w hm hx hy (by omega) hlo).mono ?_
 rintro e w0 ⟨G0, rfl, hm0, hv0⟩
 rw [hN.out]
 go_wp2_with fail
 refine (Zbw lo b x y (g0 ++ [⟨3, 0, 0⟩]) G0 N (N + 1) _ hm0 hx hy (by simp; omega) (Nat.le_trans hlo hv0.size) (by have := hN.out; simp; omega)).mono ?_
 rintro e w1 ⟨G1, rfl, hm1, hv1_⟩
 have hv1 := hv0.trans_ hv1_
 have hz1 := hv1.size
 have hT0 := btOf_any v k w1 (by omega) (by omega)
 rw [hbits.out] at hT0
 go_wp2_with fail
 refine (hT0).mono ?_
 rintro e w3 hT
 obtain ⟨A, c, rfl, hown, hb3⟩ := hT.open_ hbl
 have hm3 := hm1.below_ hb3 lR
 have hv3 := hv1.below_ hb3 lR
 have hz3 := hb3.size
 have ho3 := OM.none_ w3 b G1 w.heap.size
 have hr3 := hown.reads
 obtain ⟨bb, rfl, hbb1, hbb2, hbb3⟩ := hown.some_ (by omega)
 have hne3 : (Value.slice none 0 0).ownBlock ≠ some bb := by simp [Value.ownBlock]
 clear hm1 hv1 hm0 hv0 hv1_ hT0 hT hown
 go_wp2
 go_loopw [9, 21] (fun o i wr => ∃ (j : Nat) (O : Option Addr) (oc : Nat), j ≤ k ∧ i = .int .i64 j ∧ o = .slice O j oc ∧ MkQ Qo wr lo b x y (g0 ++ [⟨3, 0, 0⟩] ++ [⟨2, N, 0⟩]) G1 ∧ OM wr b G1 w.heap.size (.slice O j oc) j (cstW N (bits.take j)) ∧ Mv b G G1 w wr ∧ RI wr (some ⟨bb, 0, none⟩) k bits ∧ (Value.slice O j oc).ownBlock ≠ some bb ∧ bb < wr.heap.size) (fun _ i _ => k - (intOf i).toNat)
 case atStart => exact ⟨0, _, _, Nat.zero_le _, rfl, rfl, hm3, ho3, hv3, hr3, hne3, hbb3⟩
 case round =>
  obtain ⟨j, O, oc, hj, rfl, rfl, hmr, hor, hvr, hrr, hne, hbl2⟩ := hrel
  clear hm3 ho3 hv3 hr3 hne3
  have hzr := hvr.size
  by_cases hlt : j < k
  ·obtain ⟨bb', bo', hA, _, cb⟩ := hrr.at_ hlt
   simp only [Option.some.injEq, Addr.mk.injEq, and_true] at hA
   obtain ⟨rfl, rfl⟩ := hA
   simp only [Nat.zero_add] at cb
   have h01 := hb01.out j hlt
   have hsn : Hid (cstW N (bits.take (j + 1)) = cstW N (bits.take j) ++ [N + 1 - gi bits j]) := zH (cstW_snoc (by omega))
   obtain ⟨u, hu⟩ := lT (gi bits j)
   rw [hu.out] at cb h01 hsn
   rcases h01 with hu0 | hu0
   ·have hsn2 : Hid (cstW N (bits.take (j + 1)) = cstW N (bits.take j) ++ [N + 1]) := zH (by rw [hsn.out, hu0]; congr 2; omega)
    rw [hu0] at cb
    clear hsn hu0 hu
    have hoA := hor.alloc_ (.cells #[.int .i64 (N + 1)] 3); have hmA := hmr.alloc_ (.cells #[.int .i64 (N + 1)] 3); have hvA := hvr.alloc_ (.cells #[.int .i64 (N + 1)] 3); have hrA := hrr.alloc (.cells #[.int .i64 (N + 1)] 3)
    go_wp2_with (at_builtin; refine Zae _ rfl _ _ rfl rfl hoA.1 rfl (Zaj _ _ _ _ (by simp)) (by omega) oM ?_; intro A5 c5 w5 hown5 hg5 hat5 hk5)
    have ho5 := hoA.appQ hmA hown5 hat5; have hm5 := hmA.app hoA hg5; have hv5 := hvA.app hoA hg5
    have hr5 := RI.app_other (m := 0) hrA hg5 hne
    have hne5 : (Value.slice A5 (j + 1) c5).ownBlock ≠ some bb := by
     rcases hat5 with h | h
     ·rw [h]; exact hne
     ·rw [h]; simp; omega
    have hbl5 : bb < w5.heap.size := by have := hg5.size; simp at this; omega
    clear hoA hmA hvA hrA hown5 hg5 hat5 hk5 hor hmr hvr hrr hne
    go_wp2
    go_roundw
    case rel => exact ⟨j + 1, _, _, by omega, by go_num, rfl, hm5, by rw [hsn2.out]; exact ho5, hv5, hr5, hne5, hbl5⟩
    case measure => simp [intOf]; omega
   ·have hsn2 : Hid (cstW N (bits.take (j + 1)) = cstW N (bits.take j) ++ [N]) := zH (by rw [hsn.out, hu0]; congr 2; omega)
    rw [hu0] at cb
    clear hsn hu0 hu
    have hoA := hor.alloc_ (.cells #[.int .i64 (N)] 3); have hmA := hmr.alloc_ (.cells #[.int .i64 (N)] 3); have hvA := hvr.alloc_ (.cells #[.int .i64 (N)] 3); have hrA := hrr.alloc (.cells #[.int .i64 (N)] 3)
    go_wp2_with (at_builtin; refine Zae _ rfl _ _ rfl rfl hoA.1 rfl (Zaj _ _ _ _ (by simp)) (by omega) oM ?_; intro A5 c5 w5 hown5 hg5 hat5 hk5)
    have ho5 := hoA.appQ hmA hown5 hat5; have hm5 := hmA.app hoA hg5; have hv5 := hvA.app hoA hg5
    have hr5 := RI.app_other (m := 0) hrA hg5 hne
    have hne5 : (Value.slice A5 (j + 1) c5).ownBlock ≠ some bb := by
     rcases hat5 with h | h
     ·rw [h]; exact hne
     ·rw [h]; simp; omega
    have hbl5 : bb < w5.heap.size := by have := hg5.size; simp at this; omega
    clear hoA hmA hvA hrA hown5 hg5 hat5 hk5 hor hmr hvr hrr hne
    go_wp2
    go_roundw
    case rel => exact ⟨j + 1, _, _, by omega, by go_num, rfl, hm5, by rw [hsn2.out]; exact ho5, hv5, hr5, hne5, hbl5⟩
    case measure => simp [intOf]; omega
  ·obtain rfl : k = j := Nat.le_antisymm (Nat.le_of_not_lt hlt) hj
   rw [List.take_of_length_le (by omega)] at hor
   have hcl : (cstW N bits).length = k := by simp [cstW, hbl]
   go_wp2
   go_ret
   exact RetRdQ.ofOM hcl rfl hmr hvr hor
end Go.Proofs.YtenknpcbbcbciaaGreat
