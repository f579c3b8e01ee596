/- Contracts of ArithValues and EvalArith, of the program and of the reference. -/
import Derived.Test.YtjeojnfpeppclaaQR04
namespace Go.Proofs.Ytjeojnfpeppclaa
open Go.RowKit
set_option linter.unusedVariables false
set_option linter.unusedSimpArgs false
def RetAd (lo b : Nat) (x y : Int) (s : Ad) (G : Option Nat) (n : Nat) (w : World) (e : Ending) (w' : World) : Prop :=
 ∃ G' O oc, e = .returned (.tuple #[.slice O n oc, .int .i64 s.c]) ∧ Mk w' lo b x y s.g G' ∧ Mv b G G' w w' ∧ OM w' b G' w.heap.size (.slice O n oc) n s.o
def RetRow (lo b : Nat) (x y : Int) (gs : List G3) (os : List Int) (G : Option Nat) (w : World) (e : Ending) (w' : World) : Prop :=
 ∃ G' O oc, e = .returned (.slice O os.length oc) ∧ Mk w' lo b x y gs G' ∧ Mv b G G' w w' ∧ OM w' b G' w.heap.size (.slice O os.length oc) os.length os
theorem RetRow.mk_ {lo b n : Nat} {x y : Int} {gs : List G3} {os : List Int} {G G' : Option Nat} {w w' : World} {e : Ending} {O : Option Addr} {oc : Nat} (hn : os.length = n) (he : e = .returned (.slice O n oc)) (hm : Mk w' lo b x y gs G') (hv : Mv b G G' w w') (ho : OM w' b G' w.heap.size (.slice O n oc) n os) : RetRow lo b x y gs os G w e w' := by
 subst hn; exact ⟨G', O, oc, he, hm, hv, ho⟩
theorem RetRow.open_ {lo b n : Nat} {x y : Int} {gs : List G3} {os : List Int} {G : Option Nat} {w w' : World} {e : Ending} (h : RetRow lo b x y gs os G w e w') (hn : os.length = n) :
 ∃ G' O oc, e = .returned (.slice O n oc) ∧ Mk w' lo b x y gs G' ∧ Mv b G G' w w' ∧ OM w' b G' w.heap.size (.slice O n oc) n os := by
 subst hn; exact h
set_option maxRecDepth 100000 in
set_option maxHeartbeats 8000000 in
theorem maker_subtract_any (lo b : Nat) (x y : Int) (g0 : List G3) (G : Option Nat) (A B : Option Addr) (n c d : Nat) (us vs : List Int) (w : World) (hm : Mk w lo b x y g0 G) (ha : RM w b G A n us) (hb : RM w b G B n vs) (hx : 0 ≤ x ∧ x ≤ 20) (hy : 0 ≤ y ∧ y ≤ 20) (hg : g0.length ≤ 50000) (hn : n ≤ 100) (hlo : lo ≤ w.heap.size) :
 Calls Try.prog 42 #[.pointer (some ⟨b, 0, none⟩), .slice A n c, .slice B n d] w (RetAd lo b x y (subS (x + y) g0 us vs n) G n w) := by
 have HG : Hid (∀ i, (subS (x + y) g0 us vs i).g.length ≤ g0.length + 6 * i) := zH (subS_g (x + y) g0 us vs)
 have HO : Hid (∀ i, (subS (x + y) g0 us vs i).o.length = i) := zH (subS_o (x + y) g0 us vs)
 have HC : Hid (∀ i, 0 ≤ (subS (x + y) g0 us vs (i + 1)).c) := zH (subS_c (by omega) g0 us vs)
 have H0 : Hid (subS (x + y) g0 us vs 0 = ⟨g0, [], -1⟩) := zH rfl
 have HS : Hid (∀ i, subS (x + y) g0 us vs (i + 1) = subStep (x + y + (subS (x + y) g0 us vs i).g.length) (gi us i) (gi vs i) i (subS (x + y) g0 us vs i)) := zH fun i => rfl
 generalize subS (x + y) g0 us vs = S at *
 have hst : Mk (w.alloc (.cells #[] 3)) lo b x y (S 0).g G ∧ OM (w.alloc (.cells #[] 3)) b G w.heap.size (.slice (some ⟨w.heap.size, 0, none⟩) 0 0) 0 (S 0).o ∧ Mv b G G w (w.alloc (.cells #[] 3)) := by
  rw [H0.out]; exact ⟨hm.alloc_ _, OM.new0 hm lR, (Mv.refl_ b G w).alloc_ _⟩
 obtain ⟨hm0, ho0, hv0⟩ := hst
 have hc0 : (S 0).c = -1 := by rw [H0.out]
 go_enter Try.func42, Try.ntmps42
 go_wp2
 go_loopw [8, 9, 17] (fun o v i wr => ∃ (k : Nat) (O : Option Addr) (oc : Nat) (G1 : Option Nat), k ≤ n ∧ i = .int .i64 k ∧ v = .int .i64 (S k).c ∧ o = .slice O k oc ∧ Mk wr lo b x y (S k).g G1 ∧ OM wr b G1 w.heap.size (.slice O k oc) k (S k).o ∧ Mv b G G1 w wr) (fun _ _ i _ => n - (intOf i).toNat)
 case atStart => exact ⟨0, _, _, _, Nat.zero_le _, rfl, by rw [hc0], rfl, hm0, ho0, hv0⟩
 case round =>
  obtain ⟨k, O, oc, G1, hk, rfl, rfl, rfl, hm1, ho1, hv1⟩ := hrel
  clear hm0 ho0 hv0
  have hz1 := hv1.size
  by_cases hlt : k < n
  ·obtain ⟨ka, oa, rfl, hka, ca⟩ := ha.1.at_ hlt
   obtain ⟨kb, ob, rfl, hkb, cb⟩ := hb.1.at_ hlt
   obtain ⟨va, hva⟩ := lT (gi us k)
   obtain ⟨vb, hvb⟩ := lT (gi vs k)
   have hgl := HG.out k
   obtain ⟨SG, SO, SC, hSk⟩ : ∃ SG SO SC, Hid (S k = ⟨SG, SO, SC⟩) := ⟨_, _, _, zH rfl⟩
   have hS := zH (HS.out k)
   rw [hSk.out] at hm1 ho1 hgl
   rw [hva.out, hvb.out, hSk.out] at hS
   dsimp only at hm1 ho1 hgl hS
   obtain ⟨N, hN⟩ := lT (x + y + (SG.length : Int))
   rw [hN.out] at hS
   clear ca cb hka hkb
   have hcS : (S k).c = SC := by rw [hSk.out]
   rw [hcS]
   by_cases h0 : k = 0
   ·have hz : ((k : Int) == 0) = true := by simp [h0]
    have hS1 : Hid (S (k + 1) = ⟨SG ++ [⟨0, va, vb⟩] ++ [⟨2, va, 0⟩] ++ [⟨1, N + 1, vb⟩], SO ++ [N], N + 2⟩) := zH (by rw [hS.out]; simp [subStep, h0])
    clear h0
    obtain ⟨ca, na, hka0⟩ := ha.cellV hv1 hlt hva
    obtain ⟨cb, nb, hkb0⟩ := hb.cellV hv1 hlt hvb
    have hfar := ho1.far
    go_wp2_with fail
    go_region_held3 (fun w' => w'.cell? ⟨ka, oa + k, none⟩ = some (.int .i64 va) ∧ w'.cell? ⟨kb, ob + k, none⟩ = some (.int .i64 vb))
     (first | (go_keep; done) | (go_split_ands; exact ⟨hv2_.cellF (by assumption) na, hv2_.cellF (by assumption) nb⟩) | (go_split_ands; exact ⟨hk5 _ _ _ (by assumption) (fun g9 hg9 he9 => by have := hfar _ hg9; omega), hk5 _ _ _ (by assumption) (fun g9 hg9 he9 => by have := hfar _ hg9; omega)⟩) | (go_split_ands; (repeat' apply And.intro) <;> (repeat (refine (World.cell?_setCell_other _ _ _ _ (by first | (simp; done) | (simp; omega))).trans ?_)) <;> assumption))
     (first | (go_at_call 67; refine (Zay lo b x y SG G1 va vb N _ (hm1.drewN_ 1) hx hy oN (Nat.le_trans hlo (hv1.drewN_ 1).size) (by have := hN.out; first | omega | (simp; omega))).mono ?_; rintro e w2 ⟨G2, rfl, hm2, hv2_⟩; have hv2 := (hv1.drewN_ 1).trans_ hv2_; have hz2 := hv2.size; have ho2 := (ho1.drewN_ 1).mv hv2_; have na2 := hv2_.offF (Nat.lt_of_lt_of_le hka0 (hv1.drewN_ 1).size) na; have nb2 := hv2_.offF (Nat.lt_of_lt_of_le hkb0 (hv1.drewN_ 1).size) nb) | (refine step_appI _ (by rfl) _ _ (by rfl) (by rfl) ((ho2.alloc_ (.cells #[.int .i64 N] 3)).1) (by rfl) (Zbb _ _ _ _ (by simp)) (by omega) oM ?_; intro A5 c5 w5 hown5 hg5 hat5 hk5))
    clear hm1 ho1 hv1 hv2_ na2 nb2
    have hoA := ho2.alloc_ (.cells #[.int .i64 N] 3); have hmA := hm2.alloc_ (.cells #[.int .i64 N] 3); have hvA := hv2.alloc_ (.cells #[.int .i64 N] 3)
    have ho3 := hoA.app hmA hown5 hat5; have hm3 := hmA.app hoA hg5; have hv3 := hvA.app hoA hg5; have hz3 := hv3.size; clear hoA hmA hvA hown5 hg5 hat5 hk5 hv2 ho2 hm2
    clear hfar
    clear ca na hka0 cb nb hkb0
    obtain ⟨ca, na, hka0⟩ := ha.cellV hv3 hlt hva
    obtain ⟨cb, nb, hkb0⟩ := hb.cellV hv3 hlt hvb
    go_wp2_with fail
    go_region_held3 (fun w' => w'.cell? ⟨ka, oa + k, none⟩ = some (.int .i64 va) ∧ w'.cell? ⟨kb, ob + k, none⟩ = some (.int .i64 vb))
     (first | (go_keep; done) | (go_split_ands; exact ⟨hv5_.cellF (by assumption) na4, hv5_.cellF (by assumption) nb4⟩) | (go_split_ands; exact ⟨hv4_.cellF (by assumption) na, hv4_.cellF (by assumption) nb⟩) | (go_split_ands; (repeat' apply And.intro) <;> (repeat (refine (World.cell?_setCell_other _ _ _ _ (by first | (simp; done) | (simp; omega))).trans ?_)) <;> assumption))
     (first | (go_at_call 69; refine (maker_not_v lo b x y (SG ++ [⟨0, va, vb⟩]) G2 va (N + 1) _ (hm3.drewN_ 1) hx hy oN (Nat.le_trans hlo (hv3.drewN_ 1).size) (by have := hN.out; first | omega | (simp; omega))).mono ?_; rintro e w4 ⟨G4, rfl, hm4, hv4_⟩; have hv4 := (hv3.drewN_ 1).trans_ hv4_; have hz4 := hv4.size; have ho4 := (ho3.drewN_ 1).mv hv4_; have na4 := hv4_.offF (Nat.lt_of_lt_of_le hka0 (hv3.drewN_ 1).size) na; have nb4 := hv4_.offF (Nat.lt_of_lt_of_le hkb0 (hv3.drewN_ 1).size) nb) | (go_at_call 68; refine (maker_and_v lo b x y (SG ++ [⟨0, va, vb⟩] ++ [⟨2, va, 0⟩]) G4 (N + 1) vb (N + 2) _ hm4 hx hy oN (Nat.le_trans hlo hv4.size) (by have := hN.out; first | omega | (simp; omega))).mono ?_; rintro e w5 ⟨G5, rfl, hm5, hv5_⟩; have hv5 := hv4.trans_ hv5_; have hz5 := hv5.size; have ho5 := ho4.mv hv5_; have na5 := hv5_.offF (Nat.lt_of_lt_of_le hka0 hv4.size) na4; have nb5 := hv5_.offF (Nat.lt_of_lt_of_le hkb0 hv4.size) nb4))
    clear hm3 ho3 hv3 hv4_ hv5_ na4 nb4 na5 nb5
    clear hm4 ho4 hv4
    clear ca na hka0 cb nb hkb0
    have hck : Hid ((S (k + 1)).c = N + 2) := zH (by rw [hS1.out])
    have hrel1 : Mk w5 lo b x y (S (k + 1)).g G5 ∧ OM w5 b G5 w.heap.size (.slice A5 (k + 1) c5) (k + 1) (S (k + 1)).o := by rw [hS1.out]; exact ⟨hm5, ho5⟩
    clear hm5 ho5 hS hS1 hSk hgl hN hva hvb hcS
    go_wp2
    go_roundw
    case rel => exact ⟨k + 1, _, _, _, by omega, by go_num, by rw [hck.out], rfl, hrel1.1, hrel1.2, hv5⟩
    case measure => simp [intOf]; omega
   ·have hz : ((k : Int) == 0) = false := by simp [h0]
    have hS1 : Hid (S (k + 1) = ⟨SG ++ [⟨0, va, SC⟩] ++ [⟨0, vb, SC⟩] ++ [⟨0, N, vb⟩] ++ [⟨2, N, 0⟩] ++ [⟨1, N + 3, N + 1⟩] ++ [⟨0, N + 4, SC⟩], SO ++ [N + 2], N + 5⟩) := zH (by rw [hS.out]; simp [subStep, h0])
    clear h0
    obtain ⟨ca, na, hka0⟩ := ha.cellV hv1 hlt hva
    go_wp2_with fail
    refine (Zay lo b x y SG G1 va SC N _ hm1 hx hy oN (by have := hv1.size; omega) (by have := hN.out; first | omega | (simp; omega))).mono ?_
    rintro e w2 ⟨G2, rfl, hm2, hv2_⟩
    have hv2 := hv1.trans_ hv2_; have ho2 := ho1.mv hv2_; have hz2 := hv2.size; clear hv1 ho1 hm1 hv2_
    clear ca na hka0
    obtain ⟨cb, nb, hkb0⟩ := hb.cellV hv2 hlt hvb
    go_wp2_with fail
    refine (Zay lo b x y (SG ++ [⟨0, va, SC⟩]) G2 vb SC (N + 1) _ hm2 hx hy oN (by have := hv2.size; omega) (by have := hN.out; first | omega | (simp; omega))).mono ?_
    rintro e w3 ⟨G3, rfl, hm3, hv3_⟩
    have hv3 := hv2.trans_ hv3_; have ho3 := ho2.mv hv3_; have hz3 := hv3.size; clear hv2 ho2 hm2 hv3_
    clear cb nb hkb0
    obtain ⟨cb, nb, hkb0⟩ := hb.cellV hv3 hlt hvb
    go_wp2_with fail
    refine (Zay lo b x y (SG ++ [⟨0, va, SC⟩] ++ [⟨0, vb, SC⟩]) G3 N vb (N + 2) _ hm3 hx hy oN (by have := hv3.size; omega) (by have := hN.out; first | omega | (simp; omega))).mono ?_
    rintro e w4 ⟨G4, rfl, hm4, hv4_⟩
    have hv4 := hv3.trans_ hv4_; have ho4 := ho3.mv hv4_; have hz4 := hv4.size; clear hv3 ho3 hm3 hv4_
    clear cb nb hkb0
    have hoA := ho4.alloc_ (.cells #[.int .i64 (N + 2)] 3); have hmA := hm4.alloc_ (.cells #[.int .i64 (N + 2)] 3); have hvA := hv4.alloc_ (.cells #[.int .i64 (N + 2)] 3)
    go_wp2_with (at_builtin; refine Zae _ rfl _ _ rfl rfl hoA.1 rfl (Zbb _ _ _ _ (by simp)) (by omega) oM ?_; intro A5 c5 w5 hown5 hg5 hat5 hk5)
    have ho5 := hoA.app hmA hown5 hat5; have hm5 := hmA.app hoA hg5; have hv5 := hvA.app hoA hg5; have hz5 := hv5.size; clear hoA hmA hvA hown5 hg5 hat5 hk5 hv4 ho4 hm4
    go_wp2_with fail
    refine (maker_not_v lo b x y (SG ++ [⟨0, va, SC⟩] ++ [⟨0, vb, SC⟩] ++ [⟨0, N, vb⟩]) G4 N (N + 3) _ hm5 hx hy oN (by have := hv5.size; omega) (by have := hN.out; first | omega | (simp; omega))).mono ?_
    rintro e w6 ⟨G6, rfl, hm6, hv6_⟩
    have hv6 := hv5.trans_ hv6_; have ho6 := ho5.mv hv6_; have hz6 := hv6.size; clear hv5 ho5 hm5 hv6_
    go_wp2_with fail
    refine (maker_and_v lo b x y (SG ++ [⟨0, va, SC⟩] ++ [⟨0, vb, SC⟩] ++ [⟨0, N, vb⟩] ++ [⟨2, N, 0⟩]) G6 (N + 3) (N + 1) (N + 4) _ hm6 hx hy oN (by have := hv6.size; omega) (by have := hN.out; first | omega | (simp; omega))).mono ?_
    rintro e w7 ⟨G7, rfl, hm7, hv7_⟩
    have hv7 := hv6.trans_ hv7_; have ho7 := ho6.mv hv7_; have hz7 := hv7.size; clear hv6 ho6 hm6 hv7_
    go_wp2_with fail
    refine (Zay lo b x y (SG ++ [⟨0, va, SC⟩] ++ [⟨0, vb, SC⟩] ++ [⟨0, N, vb⟩] ++ [⟨2, N, 0⟩] ++ [⟨1, N + 3, N + 1⟩]) G7 (N + 4) SC (N + 5) _ hm7 hx hy oN (by have := hv7.size; omega) (by have := hN.out; first | omega | (simp; omega))).mono ?_
    rintro e w8 ⟨G8, rfl, hm8, hv8_⟩
    have hv8 := hv7.trans_ hv8_; have ho8 := ho7.mv hv8_; have hz8 := hv8.size; clear hv7 ho7 hm7 hv8_
    have hck : Hid ((S (k + 1)).c = N + 5) := zH (by rw [hS1.out])
    have hrel1 : Mk w8 lo b x y (S (k + 1)).g G8 ∧ OM w8 b G8 w.heap.size (.slice A5 (k + 1) c5) (k + 1) (S (k + 1)).o := by rw [hS1.out]; exact ⟨hm8, ho8⟩
    clear hm8 ho8 hS hS1 hSk hgl hN hva hvb hcS
    go_wp2
    go_roundw
    case rel => exact ⟨k + 1, _, _, _, by omega, by go_num, by rw [hck.out], rfl, hrel1.1, hrel1.2, hv8⟩
    case measure => simp [intOf]; omega
  ·obtain rfl : n = k := Nat.le_antisymm (Nat.le_of_not_lt hlt) hk
   go_wp2
   go_ret2
   exact ⟨_, _, _, rfl, hm1, hv1, ho1⟩
set_option maxRecDepth 100000 in
set_option maxHeartbeats 8000000 in
theorem gdSub_any (lo b : Nat) (x y : Int) (g0 : List G3) (G : Option Nat) (A B : Option Addr) (n c d : Nat) (us vs : List Int) (w : World) (hm : Mk w lo b x y g0 G) (ha : RM w b G A n us) (hb : RM w b G B n vs) (hx : 0 ≤ x ∧ x ≤ 20) (hy : 0 ≤ y ∧ y ≤ 20) (hg : g0.length ≤ 50000) (hn : n ≤ 100) (hlo : lo ≤ w.heap.size) :
 Calls Try.prog 72 #[.pointer (some ⟨b, 0, none⟩), .slice A n c, .slice B n d] w (RetRow lo b x y (subS (x + y) g0 us vs n).g ((subS (x + y) g0 us vs n).o ++ [(subS (x + y) g0 us vs n).c]) G w) := by
 have HG : Hid (∀ i, (subS (x + y) g0 us vs i).g.length ≤ g0.length + 6 * i) := zH (subS_g (x + y) g0 us vs)
 have HO : Hid (∀ i, (subS (x + y) g0 us vs i).o.length = i) := zH (subS_o (x + y) g0 us vs)
 have HC : Hid (∀ i, 0 ≤ (subS (x + y) g0 us vs (i + 1)).c) := zH (subS_c (by omega) g0 us vs)
 have H0 : Hid (subS (x + y) g0 us vs 0 = ⟨g0, [], -1⟩) := zH rfl
 have HS : Hid (∀ i, subS (x + y) g0 us vs (i + 1) = subStep (x + y + (subS (x + y) g0 us vs i).g.length) (gi us i) (gi vs i) i (subS (x + y) g0 us vs i)) := zH fun i => rfl
 generalize subS (x + y) g0 us vs = S at *
 have hst : Mk w lo b x y (S 0).g G ∧ OM w b G w.heap.size (.slice none 0 0) 0 (S 0).o ∧ Mv b G G w w := by
  rw [H0.out]; exact ⟨hm, OM.none_ _ _ _ _, Mv.refl_ b G w⟩
 obtain ⟨hm0, ho0, hv0⟩ := hst
 have hc0 : (S 0).c = -1 := by rw [H0.out]
 go_enter Try.func72, Try.ntmps72
 go_wp2
 go_loopw [7, 8, 19] (fun o v i wr => ∃ (k : Nat) (O : Option Addr) (oc : Nat) (G1 : Option Nat), k ≤ n ∧ i = .int .i64 k ∧ v = .int .i64 (S k).c ∧ o = .slice O k oc ∧ Mk wr lo b x y (S k).g G1 ∧ OM wr b G1 w.heap.size (.slice O k oc) k (S k).o ∧ Mv b G G1 w wr) (fun _ _ i _ => n - (intOf i).toNat)
 case atStart => exact ⟨0, _, _, _, Nat.zero_le _, rfl, by rw [hc0], rfl, hm0, ho0, hv0⟩
 case round =>
  obtain ⟨k, O, oc, G1, hk, rfl, rfl, rfl, hm1, ho1, hv1⟩ := hrel
  clear hm0 ho0 hv0
  have hz1 := hv1.size
  by_cases hlt : k < n
  ·obtain ⟨ka, oa, rfl, hka, ca⟩ := ha.1.at_ hlt
   obtain ⟨kb, ob, rfl, hkb, cb⟩ := hb.1.at_ hlt
   obtain ⟨va, hva⟩ := lT (gi us k)
   obtain ⟨vb, hvb⟩ := lT (gi vs k)
   have hgl := HG.out k
   obtain ⟨SG, SO, SC, hSk⟩ : ∃ SG SO SC, Hid (S k = ⟨SG, SO, SC⟩) := ⟨_, _, _, zH rfl⟩
   have hS := zH (HS.out k)
   rw [hSk.out] at hm1 ho1 hgl
   rw [hva.out, hvb.out, hSk.out] at hS
   dsimp only at hm1 ho1 hgl hS
   obtain ⟨N, hN⟩ := lT (x + y + (SG.length : Int))
   rw [hN.out] at hS
   clear ca cb hka hkb
   have hcS : (S k).c = SC := by rw [hSk.out]
   rw [hcS]
   by_cases h0 : k = 0
   ·have hcm : SC = -1 := by rw [← hcS, h0]; exact hc0
    subst hcm
    have hS1 : Hid (S (k + 1) = ⟨SG ++ [⟨0, va, vb⟩] ++ [⟨2, va, 0⟩] ++ [⟨1, N + 1, vb⟩], SO ++ [N], N + 2⟩) := zH (by rw [hS.out]; simp [subStep, h0])
    clear h0
    obtain ⟨ca, na, hka0⟩ := ha.cellV hv1 hlt hva
    obtain ⟨cb, nb, hkb0⟩ := hb.cellV hv1 hlt hvb
    go_wp2_with fail
    refine (Zas lo b x y SG G1 va vb N _ hm1 hx hy oN (by have := hv1.size; omega) (by have := hN.out; first | omega | (simp; omega))).mono ?_
    rintro e w2 ⟨G2, rfl, hm2, hv2_⟩
    have hv2 := hv1.trans_ hv2_; have ho2 := ho1.mv hv2_; have hz2 := hv2.size; clear hv1 ho1 hm1 hv2_
    have hoA := ho2.alloc_ (.cells #[.int .i64 N] 3); have hmA := hm2.alloc_ (.cells #[.int .i64 N] 3); have hvA := hv2.alloc_ (.cells #[.int .i64 N] 3)
    go_wp2_with (at_builtin; refine Zae _ rfl _ _ rfl rfl hoA.1 rfl (Zbb _ _ _ _ (by simp)) (by omega) oM ?_; intro A5 c5 w5 hown5 hg5 hat5 hk5)
    have ho3 := hoA.app hmA hown5 hat5; have hm3 := hmA.app hoA hg5; have hv3 := hvA.app hoA hg5; have hz3 := hv3.size; clear hoA hmA hvA hown5 hg5 hat5 hk5 hv2 ho2 hm2
    go_wp2_with fail
    refine (ciMaker_not_v lo b x y (SG ++ [⟨0, va, vb⟩]) G2 va (N + 1) _ hm3 hx hy oN (by have := hv3.size; omega) (by have := hN.out; first | omega | (simp; omega))).mono ?_
    rintro e w4 ⟨G4, rfl, hm4, hv4_⟩
    have hv4 := hv3.trans_ hv4_; have ho4 := ho3.mv hv4_; have hz4 := hv4.size; clear hv3 ho3 hm3 hv4_
    go_wp2_with fail
    refine (Zca lo b x y (SG ++ [⟨0, va, vb⟩] ++ [⟨2, va, 0⟩]) G4 (N + 1) vb (N + 2) _ hm4 hx hy oN (by have := hv4.size; omega) (by have := hN.out; first | omega | (simp; omega))).mono ?_
    rintro e w5 ⟨G5, rfl, hm5, hv5_⟩
    have hv5 := hv4.trans_ hv5_; have ho5 := ho4.mv hv5_; have hz5 := hv5.size; clear hv4 ho4 hm4 hv5_
    have hck : Hid ((S (k + 1)).c = N + 2) := zH (by rw [hS1.out])
    have hrel1 : Mk w5 lo b x y (S (k + 1)).g G5 ∧ OM w5 b G5 w.heap.size (.slice A5 (k + 1) c5) (k + 1) (S (k + 1)).o := by rw [hS1.out]; exact ⟨hm5, ho5⟩
    clear hm5 ho5 hS hS1 hSk hgl hN hva hvb hcS
    go_wp2
    go_roundw
    case rel => exact ⟨k + 1, _, _, _, by omega, by go_num, by rw [hck.out], rfl, hrel1.1, hrel1.2, hv5⟩
    case measure => simp [intOf]; omega
   ·have hcp : 0 ≤ SC := by
     obtain ⟨j, rfl⟩ : ∃ j, k = j + 1 := ⟨k - 1, by omega⟩
     rw [← hcS]; exact HC.out j
    have hcn : ¬ SC < 0 := by omega
    have hS1 : Hid (S (k + 1) = ⟨SG ++ [⟨0, va, SC⟩] ++ [⟨0, vb, SC⟩] ++ [⟨0, N, vb⟩] ++ [⟨2, N, 0⟩] ++ [⟨1, N + 3, N + 1⟩] ++ [⟨0, N + 4, SC⟩], SO ++ [N + 2], N + 5⟩) := zH (by rw [hS.out]; simp [subStep, h0])
    clear h0
    obtain ⟨ca, na, hka0⟩ := ha.cellV hv1 hlt hva
    obtain ⟨cb, nb, hkb0⟩ := hb.cellV hv1 hlt hvb
    go_wp2_with fail
    refine (Zas lo b x y SG G1 va SC N _ hm1 hx hy oN (by have := hv1.size; omega) (by have := hN.out; first | omega | (simp; omega))).mono ?_
    rintro e w2 ⟨G2, rfl, hm2, hv2_⟩
    have hv2 := hv1.trans_ hv2_; have ho2 := ho1.mv hv2_; have hz2 := hv2.size; clear hv1 ho1 hm1 hv2_
    go_wp2_with fail
    refine (Zas lo b x y (SG ++ [⟨0, va, SC⟩]) G2 vb SC (N + 1) _ hm2 hx hy oN (by have := hv2.size; omega) (by have := hN.out; first | omega | (simp; omega))).mono ?_
    rintro e w3 ⟨G3, rfl, hm3, hv3_⟩
    have hv3 := hv2.trans_ hv3_; have ho3 := ho2.mv hv3_; have hz3 := hv3.size; clear hv2 ho2 hm2 hv3_
    go_wp2_with fail
    refine (Zas lo b x y (SG ++ [⟨0, va, SC⟩] ++ [⟨0, vb, SC⟩]) G3 N vb (N + 2) _ hm3 hx hy oN (by have := hv3.size; omega) (by have := hN.out; first | omega | (simp; omega))).mono ?_
    rintro e w4 ⟨G4, rfl, hm4, hv4_⟩
    have hv4 := hv3.trans_ hv4_; have ho4 := ho3.mv hv4_; have hz4 := hv4.size; clear hv3 ho3 hm3 hv4_
    have hoA := ho4.alloc_ (.cells #[.int .i64 (N + 2)] 3); have hmA := hm4.alloc_ (.cells #[.int .i64 (N + 2)] 3); have hvA := hv4.alloc_ (.cells #[.int .i64 (N + 2)] 3)
    go_wp2_with (at_builtin; refine Zae _ rfl _ _ rfl rfl hoA.1 rfl (Zbb _ _ _ _ (by simp)) (by omega) oM ?_; intro A5 c5 w5 hown5 hg5 hat5 hk5)
    have ho5 := hoA.app hmA hown5 hat5; have hm5 := hmA.app hoA hg5; have hv5 := hvA.app hoA hg5; have hz5 := hv5.size; clear hoA hmA hvA hown5 hg5 hat5 hk5 hv4 ho4 hm4
    go_wp2_with fail
    refine (ciMaker_not_v lo b x y (SG ++ [⟨0, va, SC⟩] ++ [⟨0, vb, SC⟩] ++ [⟨0, N, vb⟩]) G4 N (N + 3) _ hm5 hx hy oN (by have := hv5.size; omega) (by have := hN.out; first | omega | (simp; omega))).mono ?_
    rintro e w6 ⟨G6, rfl, hm6, hv6_⟩
    have hv6 := hv5.trans_ hv6_; have ho6 := ho5.mv hv6_; have hz6 := hv6.size; clear hv5 ho5 hm5 hv6_
    go_wp2_with fail
    refine (Zca lo b x y (SG ++ [⟨0, va, SC⟩] ++ [⟨0, vb, SC⟩] ++ [⟨0, N, vb⟩] ++ [⟨2, N, 0⟩]) G6 (N + 3) (N + 1) (N + 4) _ hm6 hx hy oN (by have := hv6.size; omega) (by have := hN.out; first | omega | (simp; omega))).mono ?_
    rintro e w7 ⟨G7, rfl, hm7, hv7_⟩
    have hv7 := hv6.trans_ hv7_; have ho7 := ho6.mv hv7_; have hz7 := hv7.size; clear hv6 ho6 hm6 hv7_
    go_wp2_with fail
    refine (Zas lo b x y (SG ++ [⟨0, va, SC⟩] ++ [⟨0, vb, SC⟩] ++ [⟨0, N, vb⟩] ++ [⟨2, N, 0⟩] ++ [⟨1, N + 3, N + 1⟩]) G7 (N + 4) SC (N + 5) _ hm7 hx hy oN (by have := hv7.size; omega) (by have := hN.out; first | omega | (simp; omega))).mono ?_
    rintro e w8 ⟨G8, rfl, hm8, hv8_⟩
    have hv8 := hv7.trans_ hv8_; have ho8 := ho7.mv hv8_; have hz8 := hv8.size; clear hv7 ho7 hm7 hv8_
    have hck : Hid ((S (k + 1)).c = N + 5) := zH (by rw [hS1.out])
    have hrel1 : Mk w8 lo b x y (S (k + 1)).g G8 ∧ OM w8 b G8 w.heap.size (.slice A5 (k + 1) c5) (k + 1) (S (k + 1)).o := by rw [hS1.out]; exact ⟨hm8, ho8⟩
    clear hm8 ho8 hS hS1 hSk hgl hN hva hvb hcS
    go_wp2
    go_roundw
    case rel => exact ⟨k + 1, _, _, _, by omega, by go_num, by rw [hck.out], rfl, hrel1.1, hrel1.2, hv8⟩
    case measure => simp [intOf]; omega
  ·obtain rfl : n = k := Nat.le_antisymm (Nat.le_of_not_lt hlt) hk
   obtain ⟨SC, hSC⟩ := lT ((S n).c)
   rw [hSC.out]
   have hoA := ho1.alloc_ (.cells #[.int .i64 SC] 3); have hmA := hm1.alloc_ (.cells #[.int .i64 SC] 3); have hvA := hv1.alloc_ (.cells #[.int .i64 SC] 3)
   go_wp2_with (at_builtin; refine Zae _ rfl _ _ rfl rfl hoA.1 rfl (Zbb _ _ _ _ (by simp)) (by omega) oM ?_; intro A5 c5 w5 hown5 hg5 hat5 hk5)
   have ho5 := hoA.app hmA hown5 hat5; have hm5 := hmA.app hoA hg5; have hv5 := hvA.app hoA hg5
   have hl5 : Hid (((S n).o ++ [(S n).c]).length = n + 1) := zH (by simp [HO.out n])
   rw [← hSC.out] at ho5
   clear hoA hmA hvA hown5 hg5 hat5 hk5 hm1 ho1 hv1
   go_wp2
   go_ret
   exact RetRow.mk_ hl5.out rfl hm5 hv5 ho5
set_option maxRecDepth 100000 in
set_option maxHeartbeats 8000000 in
theorem maker_choose_any (lo b : Nat) (x y : Int) (g0 : List G3) (G : Option Nat) (A B : Option Addr) (n c d : Nat) (s : Int) (us vs : List Int) (w : World) (hm : Mk w lo b x y g0 G) (ha : RM w b G A n us) (hb : RM w b G B n vs) (hx : 0 ≤ x ∧ x ≤ 20) (hy : 0 ≤ y ∧ y ≤ 20) (hg : g0.length ≤ 50000) (hn : n ≤ 100) (hlo : lo ≤ w.heap.size) :
 Calls Try.prog 43 #[.pointer (some ⟨b, 0, none⟩), .int .i64 s, .slice A n c, .slice B n d] w (RetRow lo b x y (chs (x + y) g0 s us vs n).g (chs (x + y) g0 s us vs n).o G w) := by
 have HG : Hid (∀ i, (chs (x + y) g0 s us vs i).g.length ≤ g0.length + 3 * i) := zH fun i => by have := chs_g (x + y) g0 s us vs i; omega
 have HO : Hid (∀ i, (chs (x + y) g0 s us vs i).o.length = i) := zH (chs_o (x + y) g0 s us vs)
 have H0 : Hid (chs (x + y) g0 s us vs 0 = ⟨g0, []⟩) := zH rfl
 have HS : Hid (∀ i, chs (x + y) g0 s us vs (i + 1) = ⟨(chs (x + y) g0 s us vs i).g ++ [⟨0, gi us i, gi vs i⟩] ++ [⟨1, s, x + y + (chs (x + y) g0 s us vs i).g.length⟩] ++ [⟨0, x + y + (chs (x + y) g0 s us vs i).g.length + 1, gi vs i⟩], (chs (x + y) g0 s us vs i).o ++ [x + y + (chs (x + y) g0 s us vs i).g.length + 2]⟩) := zH fun i => rfl
 generalize chs (x + y) g0 s us vs = S at *
 have hst : Mk (w.alloc (.cells #[] 3)) lo b x y (S 0).g G ∧ OM (w.alloc (.cells #[] 3)) b G w.heap.size (.slice (some ⟨w.heap.size, 0, none⟩) 0 0) 0 (S 0).o ∧ Mv b G G w (w.alloc (.cells #[] 3)) := by
  rw [H0.out]; exact ⟨hm.alloc_ _, OM.new0 hm lR, (Mv.refl_ b G w).alloc_ _⟩
 obtain ⟨hm0, ho0, hv0⟩ := hst
 go_enter Try.func43, Try.ntmps43
 go_wp2
 go_loopw [9, 15] (fun o i wr => ∃ (k : Nat) (O : Option Addr) (oc : Nat) (G1 : Option Nat), k ≤ n ∧ i = .int .i64 k ∧ o = .slice O k oc ∧ Mk wr lo b x y (S k).g G1 ∧ OM wr b G1 w.heap.size (.slice O k oc) k (S k).o ∧ Mv b G G1 w wr) (fun _ i _ => n - (intOf i).toNat)
 case atStart => exact ⟨0, _, _, _, Nat.zero_le _, rfl, rfl, hm0, ho0, hv0⟩
 case round =>
  obtain ⟨k, O, oc, G1, hk, rfl, rfl, hm1, ho1, hv1⟩ := hrel
  clear hm0 ho0 hv0
  have hz1 := hv1.size
  by_cases hlt : k < n
  ·obtain ⟨ka, oa, rfl, hka, ca⟩ := ha.1.at_ hlt
   obtain ⟨kb, ob, rfl, hkb, cb⟩ := hb.1.at_ hlt
   obtain ⟨va, hva⟩ := lT (gi us k)
   obtain ⟨vb, hvb⟩ := lT (gi vs k)
   have hgl := HG.out k
   obtain ⟨SG, SO, hSk⟩ : ∃ SG SO, Hid (S k = ⟨SG, SO⟩) := ⟨_, _, zH rfl⟩
   have hS := zH (HS.out k)
   rw [hSk.out] at hm1 ho1 hgl
   rw [hva.out, hvb.out, hSk.out] at hS
   dsimp only at hm1 ho1 hgl hS
   obtain ⟨N, hN⟩ := lT (x + y + (SG.length : Int))
   rw [hN.out] at hS
   clear ca cb hka hkb
   obtain ⟨ca, na, hka0⟩ := ha.cellV hv1 hlt hva
   obtain ⟨cb, nb, hkb0⟩ := hb.cellV hv1 hlt hvb
   go_wp2_with fail
   go_region_held3 (fun w' => w'.cell? ⟨ka, oa + k, none⟩ = some (.int .i64 va) ∧ w'.cell? ⟨kb, ob + k, none⟩ = some (.int .i64 vb))
    (first | (go_keep; done) | (go_split_ands; exact ⟨hv3_.cellF (by assumption) na2, hv3_.cellF (by assumption) nb2⟩) | (go_split_ands; exact ⟨hv2_.cellF (by assumption) na, hv2_.cellF (by assumption) nb⟩) | (go_split_ands; (repeat' apply And.intro) <;> (repeat (refine (World.cell?_setCell_other _ _ _ _ (by first | (simp; done) | (simp; omega))).trans ?_)) <;> assumption))
    (first | (go_at_call 67; refine (Zay lo b x y SG G1 va vb N _ (hm1.drewN_ 1) hx hy oN (Nat.le_trans hlo (hv1.drewN_ 1).size) (by have := hN.out; first | omega | (simp; omega))).mono ?_; rintro e w2 ⟨G2, rfl, hm2, hv2_⟩; have hv2 := (hv1.drewN_ 1).trans_ hv2_; have hz2 := hv2.size; have ho2 := (ho1.drewN_ 1).mv hv2_; have na2 := hv2_.offF (Nat.lt_of_lt_of_le hka0 (hv1.drewN_ 1).size) na; have nb2 := hv2_.offF (Nat.lt_of_lt_of_le hkb0 (hv1.drewN_ 1).size) nb) | (go_at_call 68; refine (maker_and_v lo b x y (SG ++ [⟨0, va, vb⟩]) G2 s N (N + 1) _ hm2 hx hy oN (Nat.le_trans hlo hv2.size) (by have := hN.out; first | omega | (simp; omega))).mono ?_; rintro e w3 ⟨G3, rfl, hm3, hv3_⟩; have hv3 := hv2.trans_ hv3_; have hz3 := hv3.size; have ho3 := ho2.mv hv3_; have na3 := hv3_.offF (Nat.lt_of_lt_of_le hka0 hv2.size) na2; have nb3 := hv3_.offF (Nat.lt_of_lt_of_le hkb0 hv2.size) nb2))
   clear hm1 ho1 hv1 hv2_ hv3_ na2 nb2 na3 nb3
   clear hm2 ho2 hv2
   clear ca na hka0 cb nb hkb0
   obtain ⟨cb, nb, hkb0⟩ := hb.cellV hv3 hlt hvb
   go_wp2_with fail
   refine (Zay lo b x y (SG ++ [⟨0, va, vb⟩] ++ [⟨1, s, N⟩]) G3 (N + 1) vb (N + 2) _ hm3 hx hy oN (by have := hv3.size; omega) (by have := hN.out; first | omega | (simp; omega))).mono ?_
   rintro e w4 ⟨G4, rfl, hm4, hv4_⟩
   have hv4 := hv3.trans_ hv4_; have ho4 := ho3.mv hv4_; have hz4 := hv4.size; clear hv3 ho3 hm3 hv4_
   clear cb nb hkb0
   have hoA := ho4.alloc_ (.cells #[.int .i64 (N + 2)] 3); have hmA := hm4.alloc_ (.cells #[.int .i64 (N + 2)] 3); have hvA := hv4.alloc_ (.cells #[.int .i64 (N + 2)] 3)
   go_wp2_with (at_builtin; refine Zae _ rfl _ _ rfl rfl hoA.1 rfl (Zbb _ _ _ _ (by simp)) (by omega) oM ?_; intro A5 c5 w5 hown5 hg5 hat5 hk5)
   have ho5 := hoA.app hmA hown5 hat5; have hm5 := hmA.app hoA hg5; have hv5 := hvA.app hoA hg5; have hz5 := hv5.size; clear hoA hmA hvA hown5 hg5 hat5 hk5 hv4 ho4 hm4
   have hS1 : Hid (S (k + 1) = ⟨SG ++ [⟨0, va, vb⟩] ++ [⟨1, s, N⟩] ++ [⟨0, N + 1, vb⟩], SO ++ [N + 2]⟩) := zH (by rw [hS.out])
   have hrel1 : Mk w5 lo b x y (S (k + 1)).g G4 ∧ OM w5 b G4 w.heap.size (.slice A5 (k + 1) c5) (k + 1) (S (k + 1)).o := by rw [hS1.out]; exact ⟨hm5, ho5⟩
   clear hm5 ho5 hS hS1 hSk hgl hN hva hvb
   go_wp2
   go_roundw
   case rel => exact ⟨k + 1, _, _, _, by omega, by go_num, rfl, hrel1.1, hrel1.2, hv5⟩
   case measure => simp [intOf]; omega
  ·obtain rfl : n = k := Nat.le_antisymm (Nat.le_of_not_lt hlt) hk
   go_wp2
   go_ret
   exact RetRow.mk_ (HO.out n) rfl hm1 hv1 ho1
set_option maxRecDepth 100000 in
set_option maxHeartbeats 8000000 in
theorem gdPick_any (lo b : Nat) (x y : Int) (g0 : List G3) (G : Option Nat) (A B : Option Addr) (n c d : Nat) (s : Int) (us vs : List Int) (w : World) (hm : Mk w lo b x y g0 G) (ha : RM w b G A n us) (hb : RM w b G B n vs) (hx : 0 ≤ x ∧ x ≤ 20) (hy : 0 ≤ y ∧ y ≤ 20) (hg : g0.length ≤ 50000) (hn : n ≤ 100) (hlo : lo ≤ w.heap.size) :
 Calls Try.prog 73 #[.pointer (some ⟨b, 0, none⟩), .int .i64 s, .slice A n c, .slice B n d] w (RetRow lo b x y (chs (x + y) g0 s us vs n).g (chs (x + y) g0 s us vs n).o G w) := by
 have HG : Hid (∀ i, (chs (x + y) g0 s us vs i).g.length ≤ g0.length + 3 * i) := zH fun i => by have := chs_g (x + y) g0 s us vs i; omega
 have HO : Hid (∀ i, (chs (x + y) g0 s us vs i).o.length = i) := zH (chs_o (x + y) g0 s us vs)
 have H0 : Hid (chs (x + y) g0 s us vs 0 = ⟨g0, []⟩) := zH rfl
 have HS : Hid (∀ i, chs (x + y) g0 s us vs (i + 1) = ⟨(chs (x + y) g0 s us vs i).g ++ [⟨0, gi us i, gi vs i⟩] ++ [⟨1, s, x + y + (chs (x + y) g0 s us vs i).g.length⟩] ++ [⟨0, x + y + (chs (x + y) g0 s us vs i).g.length + 1, gi vs i⟩], (chs (x + y) g0 s us vs i).o ++ [x + y + (chs (x + y) g0 s us vs i).g.length + 2]⟩) := zH fun i => rfl
 generalize chs (x + y) g0 s us vs = S at *
 have hst : Mk w lo b x y (S 0).g G ∧ OM w b G w.heap.size (.slice none 0 0) 0 (S 0).o ∧ Mv b G G w w := by
  rw [H0.out]; exact ⟨hm, OM.none_ _ _ _ _, Mv.refl_ b G w⟩
 obtain ⟨hm0, ho0, hv0⟩ := hst
 go_enter Try.func73, Try.ntmps73
 go_wp2
 go_loopw [9, 16] (fun o i wr => ∃ (k : Nat) (O : Option Addr) (oc : Nat) (G1 : Option Nat), k ≤ n ∧ i = .int .i64 k ∧ o = .slice O k oc ∧ Mk wr lo b x y (S k).g G1 ∧ OM wr b G1 w.heap.size (.slice O k oc) k (S k).o ∧ Mv b G G1 w wr) (fun _ i _ => n - (intOf i).toNat)
 case atStart => exact ⟨0, _, _, _, Nat.zero_le _, rfl, rfl, hm0, ho0, hv0⟩
 case round =>
  obtain ⟨k, O, oc, G1, hk, rfl, rfl, hm1, ho1, hv1⟩ := hrel
  clear hm0 ho0 hv0
  have hz1 := hv1.size
  by_cases hlt : k < n
  ·obtain ⟨ka, oa, rfl, hka, ca⟩ := ha.1.at_ hlt
   obtain ⟨kb, ob, rfl, hkb, cb⟩ := hb.1.at_ hlt
   obtain ⟨va, hva⟩ := lT (gi us k)
   obtain ⟨vb, hvb⟩ := lT (gi vs k)
   have hgl := HG.out k
   obtain ⟨SG, SO, hSk⟩ : ∃ SG SO, Hid (S k = ⟨SG, SO⟩) := ⟨_, _, zH rfl⟩
   have hS := zH (HS.out k)
   rw [hSk.out] at hm1 ho1 hgl
   rw [hva.out, hvb.out, hSk.out] at hS
   dsimp only at hm1 ho1 hgl hS
   obtain ⟨N, hN⟩ := lT (x + y + (SG.length : Int))
   rw [hN.out] at hS
   clear ca cb hka hkb
   obtain ⟨ca, na, hka0⟩ := ha.cellV hv1 hlt hva
   obtain ⟨cb, nb, hkb0⟩ := hb.cellV hv1 hlt hvb
   go_wp2_with fail
   refine (Zas lo b x y SG G1 va vb N _ hm1 hx hy oN (by have := hv1.size; omega) (by have := hN.out; first | omega | (simp; omega))).mono ?_
   rintro e w2 ⟨G2, rfl, hm2, hv2_⟩
   have hv2 := hv1.trans_ hv2_; have ho2 := ho1.mv hv2_; have hz2 := hv2.size; clear hv1 ho1 hm1 hv2_
   go_wp2_with fail
   refine (Zca lo b x y (SG ++ [⟨0, va, vb⟩]) G2 s N (N + 1) _ hm2 hx hy oN (by have := hv2.size; omega) (by have := hN.out; first | omega | (simp; omega))).mono ?_
   rintro e w3 ⟨G3, rfl, hm3, hv3_⟩
   have hv3 := hv2.trans_ hv3_; have ho3 := ho2.mv hv3_; have hz3 := hv3.size; clear hv2 ho2 hm2 hv3_
   clear ca na hka0 cb nb hkb0
   obtain ⟨cb, nb, hkb0⟩ := hb.cellV hv3 hlt hvb
   go_wp2_with fail
   refine (Zas lo b x y (SG ++ [⟨0, va, vb⟩] ++ [⟨1, s, N⟩]) G3 (N + 1) vb (N + 2) _ hm3 hx hy oN (by have := hv3.size; omega) (by have := hN.out; first | omega | (simp; omega))).mono ?_
   rintro e w4 ⟨G4, rfl, hm4, hv4_⟩
   have hv4 := hv3.trans_ hv4_; have ho4 := ho3.mv hv4_; have hz4 := hv4.size; clear hv3 ho3 hm3 hv4_
   clear cb nb hkb0
   have hoA := ho4.alloc_ (.cells #[.int .i64 (N + 2)] 3); have hmA := hm4.alloc_ (.cells #[.int .i64 (N + 2)] 3); have hvA := hv4.alloc_ (.cells #[.int .i64 (N + 2)] 3)
   go_wp2_with (at_builtin; refine Zae _ rfl _ _ rfl rfl hoA.1 rfl (Zbb _ _ _ _ (by simp)) (by omega) oM ?_; intro A5 c5 w5 hown5 hg5 hat5 hk5)
   have ho5 := hoA.app hmA hown5 hat5; have hm5 := hmA.app hoA hg5; have hv5 := hvA.app hoA hg5; have hz5 := hv5.size; clear hoA hmA hvA hown5 hg5 hat5 hk5 hv4 ho4 hm4
   have hS1 : Hid (S (k + 1) = ⟨SG ++ [⟨0, va, vb⟩] ++ [⟨1, s, N⟩] ++ [⟨0, N + 1, vb⟩], SO ++ [N + 2]⟩) := zH (by rw [hS.out])
   have hrel1 : Mk w5 lo b x y (S (k + 1)).g G4 ∧ OM w5 b G4 w.heap.size (.slice A5 (k + 1) c5) (k + 1) (S (k + 1)).o := by rw [hS1.out]; exact ⟨hm5, ho5⟩
   clear hm5 ho5 hS hS1 hSk hgl hN hva hvb
   go_wp2
   go_roundw
   case rel => exact ⟨k + 1, _, _, _, by omega, by go_num, rfl, hrel1.1, hrel1.2, hv5⟩
   case measure => simp [intOf]; omega
  ·obtain rfl : n = k := Nat.le_antisymm (Nat.le_of_not_lt hlt) hk
   go_wp2
   go_ret
   exact RetRow.mk_ (HO.out n) rfl hm1 hv1 ho1
theorem gdRange_any (a : Int) (n : Nat) (w : World) (ha : 0 ≤ a ∧ a ≤ 1000000) (hn : n ≤ 1000000) :
 Calls Try.prog 47 #[.int .i64 a, .int .i64 n] w (RetI w (spn a n)) := by
 have HS := zH (spn_snoc a)
 have hs0 : spn a 0 = [] := rfl
 have HL := zH (spn_len a)
 obtain ⟨ha0, ha1⟩ := ha
 have hnone : Own w w.heap.size w.heap.size (.slice none 0 0) 0 (spn a 0) ∧ Below w.heap.size w w := ⟨by rw [hs0]; exact Own.none_ _ _ _, Below.refl _ _⟩
 have hsome : Own (w.alloc (.cells #[] 3)) w.heap.size (w.alloc (.cells #[] 3)).heap.size (.slice (some ⟨w.heap.size, 0, none⟩) 0 0) 0 (spn a 0) ∧ Below w.heap.size w (w.alloc (.cells #[] 3)) := ⟨by rw [hs0]; exact (Zcc w _ lR).now, bA⟩
 go_enter Try.func47, Try.ntmps47
 go_wp2
 go_loopw [5, 6] (fun o i wr => ∃ (k : Nat) (O : Option Addr) (oc : Nat), k ≤ n ∧ i = .int .i64 k ∧ o = .slice O k oc ∧ Own wr w.heap.size wr.heap.size (.slice O k oc) k (spn a k) ∧ Below w.heap.size w wr) (fun _ i _ => n - (intOf i).toNat)
 case atStart => exact ⟨0, _, _, Nat.zero_le _, rfl, rfl, hnone.1, hnone.2⟩
 case round =>
  obtain ⟨k, O, oc, hk, rfl, rfl, hown, hb⟩ := hrel
  clear hnone hsome
  have hz := hb.size
  by_cases hlt : k < n
  ·have hsn := zH (HS.out k)
   have hoA := hown.alloc (.cells #[.int .i64 (a + k)] 3)
   have hbA := hb.alloc hz (.cells #[.int .i64 (a + k)] 3)
   go_wp2_with (at_builtin; refine Zae _ rfl _ _ rfl rfl hoA rfl (Zbb _ _ _ _ (by simp)) (by omega) oM ?_; intro A5 c5 w5 hown5 hg5 hat5 hk5)
   have hb5 := Zaf hbA hoA hg5 (by simp; omega) lR
   rw [← hsn.out] at hown5
   clear hoA hbA hg5 hat5 hk5 hown hb hsn
   go_wp2
   go_roundw
   case rel => exact ⟨k + 1, _, _, by omega, by go_num, rfl, hown5, hb5⟩
   case measure => simp [intOf]; omega
  ·obtain rfl : n = k := Nat.le_antisymm (Nat.le_of_not_lt hlt) hk
   go_wp2
   go_ret
   exact RetI.mk_ (HL.out n) rfl hown hb
theorem span_any (a : Int) (n : Nat) (w : World) (ha : 0 ≤ a ∧ a ≤ 1000000) (hn : n ≤ 1000000) :
 Calls Try.prog 41 #[.int .i64 a, .int .i64 n] w (RetI w (spn a n)) := by
 have HS := zH (spn_snoc a)
 have hs0 : spn a 0 = [] := rfl
 have HL := zH (spn_len a)
 obtain ⟨ha0, ha1⟩ := ha
 have hnone : Own w w.heap.size w.heap.size (.slice none 0 0) 0 (spn a 0) ∧ Below w.heap.size w w := ⟨by rw [hs0]; exact Own.none_ _ _ _, Below.refl _ _⟩
 have hsome : Own (w.alloc (.cells #[] 3)) w.heap.size (w.alloc (.cells #[] 3)).heap.size (.slice (some ⟨w.heap.size, 0, none⟩) 0 0) 0 (spn a 0) ∧ Below w.heap.size w (w.alloc (.cells #[] 3)) := ⟨by rw [hs0]; exact (Zcc w _ lR).now, bA⟩
 go_enter Try.func41, Try.ntmps41
 go_wp2
 go_loopw [5, 9] (fun o i wr => ∃ (k : Nat) (O : Option Addr) (oc : Nat), k ≤ n ∧ i = .int .i64 k ∧ o = .slice O k oc ∧ Own wr w.heap.size wr.heap.size (.slice O k oc) k (spn a k) ∧ Below w.heap.size w wr) (fun _ i _ => n - (intOf i).toNat)
 case atStart => exact ⟨0, _, _, Nat.zero_le _, rfl, rfl, hsome.1, hsome.2⟩
 case round =>
  obtain ⟨k, O, oc, hk, rfl, rfl, hown, hb⟩ := hrel
  clear hnone hsome
  have hz := hb.size
  by_cases hlt : k < n
  ·have hsn := zH (HS.out k)
   have hoA := hown.alloc (.cells #[.int .i64 (a + k)] 3)
   have hbA := hb.alloc hz (.cells #[.int .i64 (a + k)] 3)
   go_wp2_with (at_builtin; refine Zae _ rfl _ _ rfl rfl hoA rfl (Zbb _ _ _ _ (by simp)) (by omega) oM ?_; intro A5 c5 w5 hown5 hg5 hat5 hk5)
   have hb5 := Zaf hbA hoA hg5 (by simp; omega) lR
   rw [← hsn.out] at hown5
   clear hoA hbA hg5 hat5 hk5 hown hb hsn
   go_wp2
   go_roundw
   case rel => exact ⟨k + 1, _, _, by omega, by go_num, rfl, hown5, hb5⟩
   case measure => simp [intOf]; omega
  ·obtain rfl : n = k := Nat.le_antisymm (Nat.le_of_not_lt hlt) hk
   go_wp2
   go_ret
   exact RetI.mk_ (HL.out n) rfl hown hb
theorem valid_t (x y : Int) (Ag : Option Addr) (ng cg : Nat) (Ao : Option Addr) (no co : Nat) (gs : List G3) (os : List Int) (w : World) (hg : RG w Ag ng gs) (ho : RI w Ao no os) (hng : ng ≤ 2097152) (hno : no ≤ 2097152) (hv : circB x y gs os = true) :
 Calls Try.prog 45 #[.agg #[.int .i64 x, .int .i64 y, .slice Ag ng cg, .slice Ao no co]] w fun e w' => e = .returned (.tuple #[.agg #[.int .i64 x, .int .i64 y, .slice Ag ng cg, .slice Ao no co], .bool true]) ∧ Below w.heap.size w w' := by
 have H0 := zH hv; clear hv
 have hB1 : Below w.heap.size w (w.alloc (.cells #[.int .i64 x, .int .i64 y, .slice Ag ng cg, .slice Ao no co] 43)) := bA
 have hB : Below w.heap.size w ((w.alloc (.cells #[.int .i64 x, .int .i64 y, .slice Ag ng cg, .slice Ao no co] 43)).alloc (.cells #[.int .i64 0, .int .i64 0, .slice none 0 0, .slice none 0 0] 43)) := hB1.alloc (by simp) _
 have hx0 : BxC ((w.alloc (.cells #[.int .i64 x, .int .i64 y, .slice Ag ng cg, .slice Ao no co] 43)).alloc (.cells #[.int .i64 0, .int .i64 0, .slice none 0 0, .slice none 0 0] 43)) w.heap.size x y Ag ng cg Ao no co := (BxC.new w _).below (bA)
 go_enter Try.func45, Try.ntmps45
 have hq := hx0; obtain ⟨k0, k1, k2, k3⟩ := hq
 go_wp2_with fail
 refine (Zcd x y Ag ng cg Ao no co gs os _ (hg.below hB lR) (ho.below hB lR) hng hno).mono ?_
 rintro e v1 ⟨rfl, hb1⟩
 rw [H0.out]
 have hx1 := hx0.below hb1
 clear k0 k1 k2 k3
 obtain ⟨k0, k1, k2, k3⟩ := hx1
 have hz1 := hb1.size
 simp only [World.size_alloc] at hz1
 have hz1' : w.heap.size + 1 < v1.heap.size := by omega
 obtain ⟨hc1, hf1⟩ := bcell hb1
 have hB2 := hB.trans (hb1.mono hB.size)
 have hr0 : BxC ((w.alloc (.cells #[.int .i64 x, .int .i64 y, .slice Ag ng cg, .slice Ao no co] 43)).alloc (.cells #[.int .i64 0, .int .i64 0, .slice none 0 0, .slice none 0 0] 43)) (w.heap.size + 1) 0 0 none 0 0 none 0 0 := by simpa using BxC.new (x := 0) (y := 0) (Ag := none) (ng := 0) (cg := 0) (Ao := none) (no := 0) (co := 0) (w.alloc (.cells #[.int .i64 x, .int .i64 y, .slice Ag ng cg, .slice Ao no co] 43)) 43
 go_wp2
 have hq9 := BxC.set4 (hr0.below hb1) x y Ag ng cg Ao no co
 obtain ⟨q0, q1, q2, q3⟩ := hq9
 refine bodyPost_ret (v := .tuple #[.agg #[.int .i64 x, .int .i64 y, .slice Ag ng cg, .slice Ao no co], .bool true]) (by simp [results, Try.results45, go_sem, q0, q1, q2, q3]) rfl ?_
 exact ⟨rfl, Zai hB2 (by omega) _ _ _ _ _ _ _ _⟩
theorem RM.ofOwn {w : World} {lo hi b n c : Nat} {A : Option Addr} {xs : List Int} (h : Own w lo hi (.slice A n c) n xs) (hb : b < lo) : RM w b none A n xs := by
 refine ⟨h.reads, fun hn k o hA => ⟨?_, by simp⟩⟩
 obtain ⟨g, hg, h1, _⟩ := h.some_ hn
 rw [hA] at hg
 simp only [Option.some.injEq, Addr.mk.injEq, and_true] at hg
 omega
def Fz (w : World) (b : Nat) : Prop := ∀ q, w.frozen? ⟨b, q, none⟩ = false
theorem Fz.new (w : World) (c : Array Value) (t : TypeId) : Fz (w.alloc (.cells c t)) w.heap.size := fun q => World.frozen?_alloc_at _ _ _ _ rfl
theorem Fz.below {w w' : World} {b B : Nat} (h : Fz w b) (k : Below B w w') (hb : b < B) : Fz w' b := fun q => (k.frozen (p := ⟨b, q, none⟩) hb).trans (h q)
theorem Fz.set {w : World} {b : Nat} (h : Fz w b) (p : Addr) (v : Value) : Fz (w.setCell p v) b := fun q => (World.frozen?_setCell _ _ _ _).trans (h q)
section
variable {w w' : World} {lo hi : Nat} {Ag : Option Addr} {ng cg : Nat} {Ao : Option Addr} {no co : Nat} {gs : List G3} {os : List Int}
end
theorem ciNew_any (x y : Int) (w : World) : Calls Try.prog 46 #[.int .i64 x, .int .i64 y] w fun e w' => e = .returned (.pointer (some ⟨w.heap.size, 0, none⟩)) ∧ w.alloc (.cells #[.int .i64 x, .int .i64 y, .slice none 0 0, .slice none 0 0] 86) = w' := by
 go_enter Try.func46, Try.ntmps46
 go_wp2
 go_ret
 exact ⟨rfl, rfl⟩
set_option maxRecDepth 100000 in
set_option maxHeartbeats 800000 in
theorem at_any (A B : Option Addr) (n c m d : Nat) (l os : List Int) (w : World) (ha : RI w A n l) (hb : RI w B m os) (hn : n ≤ 2097152) (hm : m ≤ 2097152) (hos : allB 0 ((n : Int) - 1) os = true) :
 Calls Try.prog 53 #[.slice A n c, .slice B m d] w (RetI w (pick l os)) := by
 have hl := ha.len
 have hlo := hb.len
 have HP := zH (pick_tab (l := l) hlo)
 go_enter Try.func53, Try.ntmps53
 go_wp2
 go_loopw [5, 11] (fun v i wr => ∃ (k : Nat) (A' : Option Addr) (c' : Nat), k ≤ m ∧ i = .int .i64 k ∧ v = .slice A' k c' ∧ Own wr w.heap.size wr.heap.size (.slice A' k c') k (tab k fun i => gi l (gi os i).toNat) ∧ Below w.heap.size w wr) (fun _ i _ => m - (intOf i).toNat)
 case atStart => first | exact ⟨0, _, _, Nat.zero_le _, rfl, rfl, Own.none_ _ _ _, Below.refl _ _⟩ | exact ⟨0, _, _, Nat.zero_le _, rfl, rfl, by simpa [tab_zero] using Zcc w w.heap.size lR, bA⟩
 case round =>
  obtain ⟨k, A', c', hk, rfl, rfl, hown, hbw⟩ := hrel
  by_cases hlt : k < m
  ·have hsn : Hid (tab (k + 1) (fun i => gi l (gi os i).toNat) = tab k (fun i => gi l (gi os i).toNat) ++ [gi l (gi os k).toNat]) := zH (tab_snoc k _)
   obtain ⟨h0, h1⟩ := Zbk hos (j := k) (by omega)
   obtain ⟨b, o, rfl, hbB, c1⟩ := hb.at_ hlt
   have e1 := (hbw.cell (p := ⟨b, o + k, none⟩) hbB).trans c1
   have hz := hbw.size
   generalize gi os k = X at *
   obtain ⟨a, rfl⟩ := Int.eq_ofNat_of_zero_le h0
   obtain ⟨b', o', rfl, hbB', c2⟩ := ha.at_ (k := a) (by omega)
   have e2 := (hbw.cell (p := ⟨b', o' + a, none⟩) hbB').trans c2
   have hlt2 : (a : Int) < n := by omega
   have hst : ((a : Int).toNat) = a := rfl
   rw [hst] at hsn
   clear ha hb c1 c2 hst
   generalize gi l a = Y at *
   have hownA := hown.alloc (.cells #[.int .i64 Y] 3)
   have hbA := hbw.alloc hz (.cells #[.int .i64 Y] 3)
   clear hown hbw
   go_wp2_with (at_builtin; refine Zao _ rfl _ _ rfl rfl hownA rfl (Zbb _ _ _ _ (by simp)) (by omega) oM ?_; intro A5 c5 w5 hown5 hg5 hat5)
   have hb5 := Zaf hbA hownA hg5 (by simp; omega) lR
   rw [← hsn.out] at hown5
   clear hbA hownA hg5 hat5
   go_wp2
   go_roundw
   case rel => exact ⟨k + 1, _, _, by omega, by go_num, rfl, hown5, hb5⟩
   case measure => simp [intOf]; omega
  ·obtain rfl : k = m := by omega
   rw [← HP.out] at hown
   go_wp2
   go_ret
   exact RetI.mk_ (by rw [pick_len]; exact hlo) rfl hown hbw
theorem ciJoin_any (A B : Option Addr) (n c m d : Nat) (xs ys : List Int) (w : World) (ha : RI w A n xs) (hb : RI w B m ys) (hn : n ≤ 2097152) (hm : m ≤ 2097152) :
 Calls Try.prog 49 #[.slice A n c, .slice B m d] w fun e w' => ∃ A' c', e = .returned (.slice A' (n + m) c') ∧ Own w' w.heap.size w'.heap.size (.slice A' (n + m) c') (n + m) (xs ++ ys) ∧ Below w.heap.size w w' := by
 have hl := ha.len
 go_enter Try.func49, Try.ntmps49
 go_wp2_with fail
 refine (l1Own_any A n c xs _ ha hn).mono ?_
 rintro e w1 ⟨A1, c1, rfl, hown1, hb1⟩
 have hr := hb.below hb1 lR
 have hz := hb1.size
 go_wp2_with (at_builtin; refine Zao _ rfl _ _ rfl rfl hown1 rfl hr (by omega) oM ?_; intro A5 c5 w5 hown5 hg5 hat5)
 have hb5 := Zaf hb1 hown1 hg5 hz lR
 clear hown1 hb1 hr hg5 hat5
 go_wp2
 go_ret
 exact ⟨_, _, rfl, hown5, hb5⟩
end Go.Proofs.Ytjeojnfpeppclaa
