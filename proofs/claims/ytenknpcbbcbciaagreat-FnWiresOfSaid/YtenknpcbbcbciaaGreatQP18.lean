/- Operations of two numbers, the reference's coTwo, part a. Operations of two numbers, the reference's coTwo, part b. Operations of two numbers, the reference's coTwo, part c. Operations of two numbers, the reference's coTwo. Lines of a network: an outer row of the call's own whose lists are read, beside a maker. Lengths below 2^20. -/
import Derived.BigQuiet
import Derived.Test.YtenknpcbbcbciaaGreatQP13
import Derived.Test.YtenknpcbbcbciaaGreatQP17
import Derived.Test.YtenknpcbbcbciaaGreatQP15
namespace Go.Proofs.YtenknpcbbcbciaaGreat
open Go.RowKit
set_option linter.unusedVariables false
set_option linter.unusedSimpArgs false
variable {Qo : OQ}
set_option maxRecDepth 100000 in
set_option maxHeartbeats 4000000 in
theorem coTwo_add (lo b : Nat) (x y : Int) (g0 : List G3) (G : Option Nat) (A B : Option Addr) (n c d : Nat) (us vs : List Int) (w : World) (hm : MkQ Qo w lo b x y g0 G) (ha : RM w b G A n us) (hb : RM w b G B n vs) (hx : 0 ≤ x ∧ x ≤ 20) (hy : 0 ≤ y ∧ y ≤ 20) (hg : g0.length ≤ 40000) (hn1 : 1 ≤ n) (hn : n ≤ 10) (hlo : lo ≤ w.heap.size) :
    Calls Tryz.prog 124 #[.pointer (some ⟨b, 0, none⟩), .string (bs [43]), .slice A n c, .slice B n d] w (RetRdQ Qo lo b x y ((⟨(addS (x + y) g0 us vs n).g, (addS (x + y) g0 us vs n).o⟩ : Go2)).g ((⟨(addS (x + y) g0 us vs n).g, (addS (x + y) g0 us vs n).o⟩ : Go2)).o G w) := by
  have t43 : ((bs [43]).toList == [43]) = true := bs_is rfl
  have t45 : ((bs [43]).toList == [45]) = false := bs_not (by decide)
  have t60 : ((bs [43]).toList == [60]) = false := bs_not (by decide)
  have t61 : ((bs [43]).toList == [61]) = false := bs_not (by decide)
  have t42 : ((bs [43]).toList == [42]) = false := bs_not (by decide)
  have HO : Hid ((addS (x + y) g0 us vs n).o.length = n) := Lib.hid (addS_o (x + y) g0 us vs n)
  obtain ⟨SG, SO, SC, hS⟩ : ∃ SG SO SC, Hid (addS (x + y) g0 us vs n = ⟨SG, SO, SC⟩) := ⟨_, _, _, Lib.hid rfl⟩
  have hcall := gdAddQ_any lo b x y g0 G A B n c d us vs w hm ha hb hx hy (by omega) (by omega) hlo
  rw [hS.out] at hcall HO
  rw [hS.out]
  dsimp only at hcall HO ⊢
  go_enter Tryz.func124, Tryz.ntmps124
  go_wp2_with fail
  refine (hcall).mono ?_
  rintro e w1 hT
  have HO1 : (SO ++ [SC]).length = n + 1 := by simp; exact HO.out
  obtain ⟨G1, O, oc, rfl, hm1, hv1, ho1⟩ := hT.open_ HO1
  have hcp := ho1.1.capLe
  have hrm := ho1.reads
  obtain ⟨g, rfl, hg1, hg2, hg3⟩ := ho1.1.some_ (by omega)
  have HT : Hid ((SO ++ [SC]).take n = SO) := Lib.hid (by rw [List.take_append_of_le_length (by rw [HO.out]; omega), List.take_of_length_le (by rw [HO.out]; omega)])
  have hrd := RM.take_ hrm (k := n) (by omega)
  rw [HT.out] at hrd
  go_wp2
  go_ret
  exact RetRdQ.mk_ HO.out rfl hm1 hv1 hrd (fun k o h => by simp only [Option.some.injEq, Addr.mk.injEq, and_true] at h; omega)
set_option maxRecDepth 100000 in
set_option maxHeartbeats 4000000 in
theorem coTwo_sub (lo b : Nat) (x y : Int) (g0 : List G3) (G : Option Nat) (A B : Option Addr) (n c d : Nat) (us vs : List Int) (w : World) (hm : MkQ Qo w lo b x y g0 G) (ha : RM w b G A n us) (hb : RM w b G B n vs) (hx : 0 ≤ x ∧ x ≤ 20) (hy : 0 ≤ y ∧ y ≤ 20) (hg : g0.length ≤ 40000) (hn1 : 1 ≤ n) (hn : n ≤ 10) (hlo : lo ≤ w.heap.size) :
    Calls Tryz.prog 124 #[.pointer (some ⟨b, 0, none⟩), .string (bs [45]), .slice A n c, .slice B n d] w (RetRdQ Qo lo b x y ((⟨(subS (x + y) g0 us vs n).g, (subS (x + y) g0 us vs n).o⟩ : Go2)).g ((⟨(subS (x + y) g0 us vs n).g, (subS (x + y) g0 us vs n).o⟩ : Go2)).o G w) := by
  have t43 : ((bs [45]).toList == [43]) = false := bs_not (by decide)
  have t45 : ((bs [45]).toList == [45]) = true := bs_is rfl
  have t60 : ((bs [45]).toList == [60]) = false := bs_not (by decide)
  have t61 : ((bs [45]).toList == [61]) = false := bs_not (by decide)
  have t42 : ((bs [45]).toList == [42]) = false := bs_not (by decide)
  have HO : Hid ((subS (x + y) g0 us vs n).o.length = n) := Lib.hid (subS_o (x + y) g0 us vs n)
  obtain ⟨SG, SO, SC, hS⟩ : ∃ SG SO SC, Hid (subS (x + y) g0 us vs n = ⟨SG, SO, SC⟩) := ⟨_, _, _, Lib.hid rfl⟩
  have hcall := gdSubQ_any lo b x y g0 G A B n c d us vs w hm ha hb hx hy (by omega) (by omega) hlo
  rw [hS.out] at hcall HO
  rw [hS.out]
  dsimp only at hcall HO ⊢
  go_enter Tryz.func124, Tryz.ntmps124
  go_wp2_with fail
  refine (hcall).mono ?_
  rintro e w1 hT
  have HO1 : (SO ++ [SC]).length = n + 1 := by simp; exact HO.out
  obtain ⟨G1, O, oc, rfl, hm1, hv1, ho1⟩ := hT.open_ HO1
  have hcp := ho1.1.capLe
  have hrm := ho1.reads
  obtain ⟨g, rfl, hg1, hg2, hg3⟩ := ho1.1.some_ (by omega)
  have HT : Hid ((SO ++ [SC]).take n = SO) := Lib.hid (by rw [List.take_append_of_le_length (by rw [HO.out]; omega), List.take_of_length_le (by rw [HO.out]; omega)])
  have hrd := RM.take_ hrm (k := n) (by omega)
  rw [HT.out] at hrd
  go_wp2
  go_ret
  exact RetRdQ.mk_ HO.out rfl hm1 hv1 hrd (fun k o h => by simp only [Option.some.injEq, Addr.mk.injEq, and_true] at h; omega)
set_option maxRecDepth 100000 in
set_option maxHeartbeats 4000000 in
theorem coTwo_less (lo b : Nat) (x y : Int) (g0 : List G3) (G : Option Nat) (A B : Option Addr) (n c d : Nat) (us vs : List Int) (w : World) (hm : MkQ Qo w lo b x y g0 G) (ha : RM w b G A n us) (hb : RM w b G B n vs) (hx : 0 ≤ x ∧ x ≤ 20) (hy : 0 ≤ y ∧ y ≤ 20) (hg : g0.length ≤ 40000) (hn1 : 1 ≤ n) (hn : n ≤ 10) (hlo : lo ≤ w.heap.size) :
    Calls Tryz.prog 124 #[.pointer (some ⟨b, 0, none⟩), .string (bs [60]), .slice A n c, .slice B n d] w (RetRdQ Qo lo b x y ((⟨(subS (x + y) g0 us vs n).g, [(subS (x + y) g0 us vs n).c]⟩ : Go2)).g ((⟨(subS (x + y) g0 us vs n).g, [(subS (x + y) g0 us vs n).c]⟩ : Go2)).o G w) := by
  have t43 : ((bs [60]).toList == [43]) = false := bs_not (by decide)
  have t45 : ((bs [60]).toList == [45]) = false := bs_not (by decide)
  have t60 : ((bs [60]).toList == [60]) = true := bs_is rfl
  have t61 : ((bs [60]).toList == [61]) = false := bs_not (by decide)
  have t42 : ((bs [60]).toList == [42]) = false := bs_not (by decide)
  have HO : Hid ((subS (x + y) g0 us vs n).o.length = n) := Lib.hid (subS_o (x + y) g0 us vs n)
  obtain ⟨SG, SO, SC, hS⟩ : ∃ SG SO SC, Hid (subS (x + y) g0 us vs n = ⟨SG, SO, SC⟩) := ⟨_, _, _, Lib.hid rfl⟩
  have hcall := gdSubQ_any lo b x y g0 G A B n c d us vs w hm ha hb hx hy (by omega) (by omega) hlo
  rw [hS.out] at hcall HO
  rw [hS.out]
  dsimp only at hcall HO ⊢
  go_enter Tryz.func124, Tryz.ntmps124
  go_wp2_with fail
  refine (hcall).mono ?_
  rintro e w1 hT
  have HO1 : (SO ++ [SC]).length = n + 1 := by simp; exact HO.out
  obtain ⟨G1, O, oc, rfl, hm1, hv1, ho1⟩ := hT.open_ HO1
  have hcp := ho1.1.capLe
  have hrm := ho1.reads
  obtain ⟨g, rfl, hg1, hg2, hg3⟩ := ho1.1.some_ (by omega)
  have HT : Hid ((SO ++ [SC]).drop n = [SC]) := Lib.hid (by rw [List.drop_append_of_le_length (by rw [HO.out]; omega), List.drop_of_length_le (by rw [HO.out]; omega)]; rfl)
  have hrd := RM.drop_ hrm (k := n) (by omega)
  rw [HT.out, show n + 1 - n = 1 by omega, Nat.zero_add] at hrd
  have hocn : ¬ oc - n = 0 := by omega
  go_wp2
  go_ret
  exact RetRdQ.mk_ (n := 1) rfl rfl hm1 hv1 hrd (fun k o h => by simp only [Option.some.injEq, Addr.mk.injEq, and_true] at h; omega)
set_option maxRecDepth 100000 in
set_option maxHeartbeats 4000000 in
theorem coTwo_eq (lo b : Nat) (x y : Int) (g0 : List G3) (G : Option Nat) (A B : Option Addr) (n c d : Nat) (us vs : List Int) (w : World) (hm : MkQ Qo w lo b x y g0 G) (ha : RM w b G A n us) (hb : RM w b G B n vs) (hx : 0 ≤ x ∧ x ≤ 20) (hy : 0 ≤ y ∧ y ≤ 20) (hg : g0.length ≤ 40000) (hn1 : 1 ≤ n) (hn : n ≤ 10) (hlo : lo ≤ w.heap.size) :
    Calls Tryz.prog 124 #[.pointer (some ⟨b, 0, none⟩), .string (bs [61]), .slice A n c, .slice B n d] w (RetRdQ Qo lo b x y (eqlS (x + y) us vs g0 n).g (eqlS (x + y) us vs g0 n).o G w) := by
  have t43 : ((bs [61]).toList == [43]) = false := bs_not (by decide)
  have t45 : ((bs [61]).toList == [45]) = false := bs_not (by decide)
  have t60 : ((bs [61]).toList == [60]) = false := bs_not (by decide)
  have t61 : ((bs [61]).toList == [61]) = true := bs_is rfl
  have t42 : ((bs [61]).toList == [42]) = false := bs_not (by decide)
  unfold eqlS
  dsimp only
  obtain ⟨SG, SC, hS⟩ : ∃ SG SC, Hid (ands (x + y) (eqs (x + y) g0 us vs n).o (eqs (x + y) g0 us vs n).g (n - 1) = (SG, SC)) := ⟨_, _, Lib.hid rfl⟩
  have hcall := gdEqualQ_any lo b x y g0 G A B n c d us vs w hm ha hb hx hy (by omega) (by omega) hlo hn1
  rw [hS.out] at hcall ⊢
  dsimp only at hcall ⊢
  go_enter Tryz.func124, Tryz.ntmps124
  go_wp2_with fail
  refine (hcall).mono ?_
  rintro e w1 ⟨G1, rfl, hm1, hv1⟩
  have hz1 := hv1.size
  have hm2 := hm1.alloc_ (.cells #[.int .i64 SC] 3)
  have hv2 := hv1.alloc_ (.cells #[.int .i64 SC] 3)
  have ho2 := OM.new1Q hm1 SC hz1
  go_wp2
  go_ret
  exact RetRdQ.ofOM (n := 1) rfl rfl hm2 hv2 ho2
variable {Qo : OQ}
set_option maxRecDepth 100000 in
set_option maxHeartbeats 4000000 in
theorem coTwo_mul (lo b : Nat) (x y : Int) (g0 : List G3) (G : Option Nat) (A B : Option Addr) (n c d : Nat) (us vs : List Int) (w : World) (hm : MkQ Qo w lo b x y g0 G) (ha : RM w b G A n us) (hb : RM w b G B n vs) (hx : 0 ≤ x ∧ x ≤ 20) (hy : 0 ≤ y ∧ y ≤ 20) (hg : g0.length ≤ 40000) (hn1 : 1 ≤ n) (hn : n ≤ 10) (hlo : lo ≤ w.heap.size) (h5 : n ≤ 5) :
    Calls Tryz.prog 124 #[.pointer (some ⟨b, 0, none⟩), .string (bs [42]), .slice A n c, .slice B n d] w (RetRdQ Qo lo b x y (mulS (x + y) us vs g0 n).g (mulS (x + y) us vs g0 n).o G w) := by
  have t43 : ((bs [42]).toList == [43]) = false := bs_not (by decide)
  have t45 : ((bs [42]).toList == [45]) = false := bs_not (by decide)
  have t60 : ((bs [42]).toList == [60]) = false := bs_not (by decide)
  have t61 : ((bs [42]).toList == [61]) = false := bs_not (by decide)
  have t42 : ((bs [42]).toList == [42]) = true := bs_is rfl
  have HGp := prodS_g (x + y) g0 us vs n (by omega) n
  have HOp : (prodS (x + y) g0 us vs n n).o.length = if n = 1 then 1 else 2 * n := by
    have := prodS_o (x + y) g0 us vs n hn1 (n - 1)
    rw [Nat.sub_add_cancel hn1] at this
    rw [this]
    by_cases h : n = 1
    · subst h; rfl
    · rw [if_neg (by omega), if_neg h]; omega
  have hcall := gdTimesQ_any lo b x y g0 G A B n c d us vs w hm ha hb hx hy (by omega) (by omega) hn1 hlo
  obtain ⟨SG, SO, hS⟩ : ∃ SG SO, Hid (prodS (x + y) g0 us vs n n = ⟨SG, SO⟩) := ⟨_, _, Lib.hid rfl⟩
  have hME : Hid (mulS (x + y) us vs g0 n = if n = 1 then ⟨SG ++ [⟨3, 0, 0⟩] ++ [⟨2, x + y + SG.length, 0⟩], SO ++ [x + y + SG.length + 1]⟩ else ⟨SG, SO⟩) := Lib.hid (by unfold mulS; rw [hS.out])
  rw [hS.out] at hcall HGp HOp
  rw [hME.out]
  dsimp only at hcall HGp HOp
  by_cases h1 : n = 1
  · rw [if_pos h1] at HOp ⊢
    dsimp only
    have hn1' : ((n : Int) == 1) = true := by simp [h1]
    clear h1
    obtain ⟨N, hN⟩ : ∃ N : Int, Hid (x + y + (SG.length : Int) = N) := ⟨_, Lib.hid rfl⟩
    rw [hN.out]
    go_enter Tryz.func124, Tryz.ntmps124
    go_wp2_with fail
    refine (hcall).mono ?_
    rintro e w1 hT
    obtain ⟨G1, O, oc, rfl, hm1, hv1, ho1⟩ := hT.open_ HOp
    have hz1 := hv1.size
    go_wp2_with fail
    refine (ciMaker_oneQ_any lo b x y SG G1 _ hm1 hx hy (by omega) (by omega)).mono ?_
    rintro e w4 ⟨G4, rfl, hm4, hv4_⟩
    rw [hN.out]
    have hv4 := hv1.trans_ hv4_; have ho4 := ho1.mv hv4_; have hz4 := hv4.size; clear hv1 ho1 hm1 hv4_
    go_wp2_with fail
    refine (ciMaker_notQ_v lo b x y (SG ++ [⟨3, 0, 0⟩]) G4 N (N + 1) _ hm4 hx hy (by simp; omega) (by omega) (by have := hN.out; simp; omega)).mono ?_
    rintro e w2 ⟨G2, rfl, hm2, hv2_⟩
    have hv2 := hv4.trans_ hv2_; have ho2 := ho4.mv hv2_; have hz2 := hv2.size; clear hv4 ho4 hm4 hv2_
    have hoA := ho2.alloc_ (.cells #[.int .i64 (N + 1)] 3); have hmA := hm2.alloc_ (.cells #[.int .i64 (N + 1)] 3); have hvA := hv2.alloc_ (.cells #[.int .i64 (N + 1)] 3)
    go_wp2_with (at_builtin; refine wpList_appI _ rfl _ _ rfl rfl hoA.1 rfl (RI_one _ _ _ _ (by simp)) (by omega) (by first | omega | (simp; done) | (simp; omega)) ?_; intro A5 c5 w5 hown5 hg5 hat5 hk5)
    have ho5 := hoA.appQ hmA hown5 hat5; have hm5 := hmA.app hoA hg5; have hv5 := hvA.app hoA hg5
    go_wp2
    go_ret
    exact RetRdQ.ofOM (n := 2) (by simp; exact HOp) rfl hm5 hv5 ho5
  · rw [if_neg h1] at HOp ⊢
    dsimp only
    have hn1' : ((n : Int) == 1) = false := by simp; omega
    go_enter Tryz.func124, Tryz.ntmps124
    go_wp2_with fail
    refine (hcall).mono ?_
    rintro e w1 hT
    obtain ⟨G1, O, oc, rfl, hm1, hv1, ho1⟩ := hT.open_ HOp
    go_wp2
    go_ret
    exact RetRdQ.ofOM HOp rfl hm1 hv1 ho1
set_option maxRecDepth 100000 in
set_option maxHeartbeats 4000000 in
theorem coTwo_and (lo b : Nat) (x y : Int) (g0 : List G3) (G : Option Nat) (A B : Option Addr) (n c d : Nat) (us vs : List Int) (w : World) (hm : MkQ Qo w lo b x y g0 G) (ha : RM w b G A n us) (hb : RM w b G B n vs) (hx : 0 ≤ x ∧ x ≤ 20) (hy : 0 ≤ y ∧ y ≤ 20) (hg : g0.length ≤ 40000) (hn1 : 1 ≤ n) (hn : n ≤ 10) (hlo : lo ≤ w.heap.size) :
    Calls Tryz.prog 124 #[.pointer (some ⟨b, 0, none⟩), .string (bs [38]), .slice A n c, .slice B n d] w (RetRdQ Qo lo b x y (bitS 1 (x + y) us vs g0 n).g (bitS 1 (x + y) us vs g0 n).o G w) := by
  have t43 : ((bs [38]).toList == [43]) = false := bs_not (by decide)
  have t45 : ((bs [38]).toList == [45]) = false := bs_not (by decide)
  have t60 : ((bs [38]).toList == [60]) = false := bs_not (by decide)
  have t61 : ((bs [38]).toList == [61]) = false := bs_not (by decide)
  have t42 : ((bs [38]).toList == [42]) = false := bs_not (by decide)
  have t38 : ((bs [38]).toList == [38]) = true := bs_is rfl
  have t94 : ((bs [38]).toList == [94]) = false := bs_not (by decide)
  have HG : Hid (∀ i, (bitS 1 (x + y) us vs g0 i).g.length ≤ g0.length + 3 * i) := Lib.hid (bitS_g 1 (x + y) us vs g0)
  have HO : Hid (∀ i, (bitS 1 (x + y) us vs g0 i).o.length = i) := Lib.hid (bitS_o 1 (x + y) us vs g0)
  have H0 : Hid (bitS 1 (x + y) us vs g0 0 = ⟨g0, []⟩) := Lib.hid rfl
  have HS : Hid (∀ i, bitS 1 (x + y) us vs g0 (i + 1) = bitStep 1 (x + y + (bitS 1 (x + y) us vs g0 i).g.length) (gi us i) (gi vs i) (bitS 1 (x + y) us vs g0 i)) := Lib.hid fun i => rfl
  generalize bitS 1 (x + y) us vs g0 = S at *
  have hst : MkQ Qo w lo b x y (S 0).g G ∧ OM w b G w.heap.size (.slice none 0 0) 0 (S 0).o ∧ Mv b G G w w := by
    rw [H0.out]; exact ⟨hm, OM.none_ _ _ _ _, Mv.refl_ b G w⟩
  obtain ⟨hm0, ho0, hv0⟩ := hst
  go_enter Tryz.func124, Tryz.ntmps124
  go_wp2
  go_loopw [12, 70] (fun o i wr => ∃ (k : Nat) (O : Option Addr) (oc : Nat) (G1 : Option Nat), k ≤ n ∧ i = .int .i64 k ∧ o = .slice O k oc ∧ MkQ Qo wr lo b x y (S k).g G1 ∧ OM wr b G1 w.heap.size (.slice O k oc) k (S k).o ∧ Mv b G G1 w wr) (fun _ i _ => n - (intOf i).toNat)
  case atStart => exact ⟨0, _, _, _, Nat.zero_le _, rfl, rfl, hm0, ho0, hv0⟩
  case round =>
    obtain ⟨k, O, oc, G1, hk, rfl, rfl, hm1, ho1, hv1⟩ := hrel
    clear hm0 ho0 hv0
    have hz1 := hv1.size
    by_cases hlt : k < n
    · obtain ⟨ka, oa, rfl, hka, ca⟩ := ha.1.at_ hlt
      obtain ⟨kb, ob, rfl, hkb, cb⟩ := hb.1.at_ hlt
      obtain ⟨va, hva⟩ : ∃ va, Hid (gi us k = va) := ⟨_, Lib.hid rfl⟩
      obtain ⟨vb, hvb⟩ : ∃ vb, Hid (gi vs k = vb) := ⟨_, Lib.hid rfl⟩
      have hgl := HG.out k
      obtain ⟨SG, SO, hSk⟩ : ∃ SG SO, Hid (S k = ⟨SG, SO⟩) := ⟨_, _, Lib.hid rfl⟩
      have hS := Lib.hid (HS.out k)
      rw [hSk.out] at hm1 ho1 hgl
      rw [hva.out, hvb.out, hSk.out] at hS
      dsimp only at hm1 ho1 hgl hS
      obtain ⟨N, hN⟩ : ∃ N : Int, Hid (x + y + (SG.length : Int) = N) := ⟨_, Lib.hid rfl⟩
      rw [hN.out] at hS
      clear ca cb hka hkb
      obtain ⟨ca, na, hka0⟩ := ha.cellV hv1 hlt hva
      obtain ⟨cb, nb, hkb0⟩ := hb.cellV hv1 hlt hvb
      have hfar := ho1.far
      go_wp2_with fail
      refine (ciMaker_andQ_v lo b x y SG G1 va vb N _ hm1 hx hy (by first | omega | (simp; omega)) (by have := hv1.size; omega) (by have := hN.out; first | omega | (simp; omega))).mono ?_
      rintro e w2 ⟨G2, rfl, hm2, hv2_⟩
      have hv2 := hv1.trans_ hv2_; have ho2 := ho1.mv hv2_; have hz2 := hv2.size; clear hv1 ho1 hm1 hv2_
      have hoA := ho2.alloc_ (.cells #[.int .i64 (N)] 3); have hmA := hm2.alloc_ (.cells #[.int .i64 (N)] 3); have hvA := hv2.alloc_ (.cells #[.int .i64 (N)] 3)
      go_wp2_with (at_builtin; refine wpList_appI _ rfl _ _ rfl rfl hoA.1 rfl (RI_one _ _ _ _ (by simp)) (by omega) (by first | omega | (simp; done) | (simp; omega)) ?_; intro A5 c5 w5 hown5 hg5 hat5 hk5)
      have ho5 := hoA.appQ hmA hown5 hat5; have hm5 := hmA.app hoA hg5; have hv5 := hvA.app hoA hg5; have hz5 := hv5.size; clear hoA hmA hvA hown5 hg5 hat5 hk5 hv2 ho2 hm2
      have hS1 : Hid (S (k + 1) = ⟨SG ++ [⟨1, va, vb⟩], SO ++ [N]⟩) := Lib.hid (by rw [hS.out]; simp [bitStep])
      have hrel1 : MkQ Qo w5 lo b x y (S (k + 1)).g G2 ∧ OM w5 b G2 w.heap.size (.slice A5 (k + 1) c5) (k + 1) (S (k + 1)).o := by rw [hS1.out]; exact ⟨hm5, ho5⟩
      clear hm5 ho5 hS hS1 hSk hgl hN hva hvb
      go_wp2
      go_roundw
      case rel => exact ⟨k + 1, _, _, _, by omega, by go_num, rfl, hrel1.1, hrel1.2, hv5⟩
      case measure => simp [intOf]; omega
    · obtain rfl : n = k := Nat.le_antisymm (Nat.le_of_not_lt hlt) hk
      go_wp2
      go_ret
      exact RetRdQ.ofOM (HO.out n) rfl hm1 hv1 ho1
variable {Qo : OQ}
set_option maxRecDepth 100000 in
set_option maxHeartbeats 4000000 in
theorem coTwo_xor (lo b : Nat) (x y : Int) (g0 : List G3) (G : Option Nat) (A B : Option Addr) (n c d : Nat) (us vs : List Int) (w : World) (hm : MkQ Qo w lo b x y g0 G) (ha : RM w b G A n us) (hb : RM w b G B n vs) (hx : 0 ≤ x ∧ x ≤ 20) (hy : 0 ≤ y ∧ y ≤ 20) (hg : g0.length ≤ 40000) (hn1 : 1 ≤ n) (hn : n ≤ 10) (hlo : lo ≤ w.heap.size) :
    Calls Tryz.prog 124 #[.pointer (some ⟨b, 0, none⟩), .string (bs [94]), .slice A n c, .slice B n d] w (RetRdQ Qo lo b x y (bitS 0 (x + y) us vs g0 n).g (bitS 0 (x + y) us vs g0 n).o G w) := by
  have t43 : ((bs [94]).toList == [43]) = false := bs_not (by decide)
  have t45 : ((bs [94]).toList == [45]) = false := bs_not (by decide)
  have t60 : ((bs [94]).toList == [60]) = false := bs_not (by decide)
  have t61 : ((bs [94]).toList == [61]) = false := bs_not (by decide)
  have t42 : ((bs [94]).toList == [42]) = false := bs_not (by decide)
  have t38 : ((bs [94]).toList == [38]) = false := bs_not (by decide)
  have t94 : ((bs [94]).toList == [94]) = true := bs_is rfl
  have HG : Hid (∀ i, (bitS 0 (x + y) us vs g0 i).g.length ≤ g0.length + 3 * i) := Lib.hid (bitS_g 0 (x + y) us vs g0)
  have HO : Hid (∀ i, (bitS 0 (x + y) us vs g0 i).o.length = i) := Lib.hid (bitS_o 0 (x + y) us vs g0)
  have H0 : Hid (bitS 0 (x + y) us vs g0 0 = ⟨g0, []⟩) := Lib.hid rfl
  have HS : Hid (∀ i, bitS 0 (x + y) us vs g0 (i + 1) = bitStep 0 (x + y + (bitS 0 (x + y) us vs g0 i).g.length) (gi us i) (gi vs i) (bitS 0 (x + y) us vs g0 i)) := Lib.hid fun i => rfl
  generalize bitS 0 (x + y) us vs g0 = S at *
  have hst : MkQ Qo w lo b x y (S 0).g G ∧ OM w b G w.heap.size (.slice none 0 0) 0 (S 0).o ∧ Mv b G G w w := by
    rw [H0.out]; exact ⟨hm, OM.none_ _ _ _ _, Mv.refl_ b G w⟩
  obtain ⟨hm0, ho0, hv0⟩ := hst
  go_enter Tryz.func124, Tryz.ntmps124
  go_wp2
  go_loopw [12, 70] (fun o i wr => ∃ (k : Nat) (O : Option Addr) (oc : Nat) (G1 : Option Nat), k ≤ n ∧ i = .int .i64 k ∧ o = .slice O k oc ∧ MkQ Qo wr lo b x y (S k).g G1 ∧ OM wr b G1 w.heap.size (.slice O k oc) k (S k).o ∧ Mv b G G1 w wr) (fun _ i _ => n - (intOf i).toNat)
  case atStart => exact ⟨0, _, _, _, Nat.zero_le _, rfl, rfl, hm0, ho0, hv0⟩
  case round =>
    obtain ⟨k, O, oc, G1, hk, rfl, rfl, hm1, ho1, hv1⟩ := hrel
    clear hm0 ho0 hv0
    have hz1 := hv1.size
    by_cases hlt : k < n
    · obtain ⟨ka, oa, rfl, hka, ca⟩ := ha.1.at_ hlt
      obtain ⟨kb, ob, rfl, hkb, cb⟩ := hb.1.at_ hlt
      obtain ⟨va, hva⟩ : ∃ va, Hid (gi us k = va) := ⟨_, Lib.hid rfl⟩
      obtain ⟨vb, hvb⟩ : ∃ vb, Hid (gi vs k = vb) := ⟨_, Lib.hid rfl⟩
      have hgl := HG.out k
      obtain ⟨SG, SO, hSk⟩ : ∃ SG SO, Hid (S k = ⟨SG, SO⟩) := ⟨_, _, Lib.hid rfl⟩
      have hS := Lib.hid (HS.out k)
      rw [hSk.out] at hm1 ho1 hgl
      rw [hva.out, hvb.out, hSk.out] at hS
      dsimp only at hm1 ho1 hgl hS
      obtain ⟨N, hN⟩ : ∃ N : Int, Hid (x + y + (SG.length : Int) = N) := ⟨_, Lib.hid rfl⟩
      rw [hN.out] at hS
      clear ca cb hka hkb
      obtain ⟨ca, na, hka0⟩ := ha.cellV hv1 hlt hva
      obtain ⟨cb, nb, hkb0⟩ := hb.cellV hv1 hlt hvb
      have hfar := ho1.far
      go_wp2_with fail
      refine (ciMaker_xorQ_v lo b x y SG G1 va vb N _ hm1 hx hy (by first | omega | (simp; omega)) (by have := hv1.size; omega) (by have := hN.out; first | omega | (simp; omega))).mono ?_
      rintro e w2 ⟨G2, rfl, hm2, hv2_⟩
      have hv2 := hv1.trans_ hv2_; have ho2 := ho1.mv hv2_; have hz2 := hv2.size; clear hv1 ho1 hm1 hv2_
      have hoA := ho2.alloc_ (.cells #[.int .i64 (N)] 3); have hmA := hm2.alloc_ (.cells #[.int .i64 (N)] 3); have hvA := hv2.alloc_ (.cells #[.int .i64 (N)] 3)
      go_wp2_with (at_builtin; refine wpList_appI _ rfl _ _ rfl rfl hoA.1 rfl (RI_one _ _ _ _ (by simp)) (by omega) (by first | omega | (simp; done) | (simp; omega)) ?_; intro A5 c5 w5 hown5 hg5 hat5 hk5)
      have ho5 := hoA.appQ hmA hown5 hat5; have hm5 := hmA.app hoA hg5; have hv5 := hvA.app hoA hg5; have hz5 := hv5.size; clear hoA hmA hvA hown5 hg5 hat5 hk5 hv2 ho2 hm2
      have hS1 : Hid (S (k + 1) = ⟨SG ++ [⟨0, va, vb⟩], SO ++ [N]⟩) := Lib.hid (by rw [hS.out]; simp [bitStep])
      have hrel1 : MkQ Qo w5 lo b x y (S (k + 1)).g G2 ∧ OM w5 b G2 w.heap.size (.slice A5 (k + 1) c5) (k + 1) (S (k + 1)).o := by rw [hS1.out]; exact ⟨hm5, ho5⟩
      clear hm5 ho5 hS hS1 hSk hgl hN hva hvb
      go_wp2
      go_roundw
      case rel => exact ⟨k + 1, _, _, _, by omega, by go_num, rfl, hrel1.1, hrel1.2, hv5⟩
      case measure => simp [intOf]; omega
    · obtain rfl : n = k := Nat.le_antisymm (Nat.le_of_not_lt hlt) hk
      go_wp2
      go_ret
      exact RetRdQ.ofOM (HO.out n) rfl hm1 hv1 ho1
set_option maxRecDepth 100000 in
set_option maxHeartbeats 4000000 in
theorem coTwo_or (lo b : Nat) (x y : Int) (g0 : List G3) (G : Option Nat) (A B : Option Addr) (n c d : Nat) (us vs : List Int) (w : World) (hm : MkQ Qo w lo b x y g0 G) (ha : RM w b G A n us) (hb : RM w b G B n vs) (hx : 0 ≤ x ∧ x ≤ 20) (hy : 0 ≤ y ∧ y ≤ 20) (hg : g0.length ≤ 40000) (hn1 : 1 ≤ n) (hn : n ≤ 10) (hlo : lo ≤ w.heap.size) :
    Calls Tryz.prog 124 #[.pointer (some ⟨b, 0, none⟩), .string (bs [124]), .slice A n c, .slice B n d] w (RetRdQ Qo lo b x y (bitS 2 (x + y) us vs g0 n).g (bitS 2 (x + y) us vs g0 n).o G w) := by
  have t43 : ((bs [124]).toList == [43]) = false := bs_not (by decide)
  have t45 : ((bs [124]).toList == [45]) = false := bs_not (by decide)
  have t60 : ((bs [124]).toList == [60]) = false := bs_not (by decide)
  have t61 : ((bs [124]).toList == [61]) = false := bs_not (by decide)
  have t42 : ((bs [124]).toList == [42]) = false := bs_not (by decide)
  have t38 : ((bs [124]).toList == [38]) = false := bs_not (by decide)
  have t94 : ((bs [124]).toList == [94]) = false := bs_not (by decide)
  have HG : Hid (∀ i, (bitS 2 (x + y) us vs g0 i).g.length ≤ g0.length + 3 * i) := Lib.hid (bitS_g 2 (x + y) us vs g0)
  have HO : Hid (∀ i, (bitS 2 (x + y) us vs g0 i).o.length = i) := Lib.hid (bitS_o 2 (x + y) us vs g0)
  have H0 : Hid (bitS 2 (x + y) us vs g0 0 = ⟨g0, []⟩) := Lib.hid rfl
  have HS : Hid (∀ i, bitS 2 (x + y) us vs g0 (i + 1) = bitStep 2 (x + y + (bitS 2 (x + y) us vs g0 i).g.length) (gi us i) (gi vs i) (bitS 2 (x + y) us vs g0 i)) := Lib.hid fun i => rfl
  generalize bitS 2 (x + y) us vs g0 = S at *
  have hst : MkQ Qo w lo b x y (S 0).g G ∧ OM w b G w.heap.size (.slice none 0 0) 0 (S 0).o ∧ Mv b G G w w := by
    rw [H0.out]; exact ⟨hm, OM.none_ _ _ _ _, Mv.refl_ b G w⟩
  obtain ⟨hm0, ho0, hv0⟩ := hst
  go_enter Tryz.func124, Tryz.ntmps124
  go_wp2
  go_loopw [12, 70] (fun o i wr => ∃ (k : Nat) (O : Option Addr) (oc : Nat) (G1 : Option Nat), k ≤ n ∧ i = .int .i64 k ∧ o = .slice O k oc ∧ MkQ Qo wr lo b x y (S k).g G1 ∧ OM wr b G1 w.heap.size (.slice O k oc) k (S k).o ∧ Mv b G G1 w wr) (fun _ i _ => n - (intOf i).toNat)
  case atStart => exact ⟨0, _, _, _, Nat.zero_le _, rfl, rfl, hm0, ho0, hv0⟩
  case round =>
    obtain ⟨k, O, oc, G1, hk, rfl, rfl, hm1, ho1, hv1⟩ := hrel
    clear hm0 ho0 hv0
    have hz1 := hv1.size
    by_cases hlt : k < n
    · obtain ⟨ka, oa, rfl, hka, ca⟩ := ha.1.at_ hlt
      obtain ⟨kb, ob, rfl, hkb, cb⟩ := hb.1.at_ hlt
      obtain ⟨va, hva⟩ : ∃ va, Hid (gi us k = va) := ⟨_, Lib.hid rfl⟩
      obtain ⟨vb, hvb⟩ : ∃ vb, Hid (gi vs k = vb) := ⟨_, Lib.hid rfl⟩
      have hgl := HG.out k
      obtain ⟨SG, SO, hSk⟩ : ∃ SG SO, Hid (S k = ⟨SG, SO⟩) := ⟨_, _, Lib.hid rfl⟩
      have hS := Lib.hid (HS.out k)
      rw [hSk.out] at hm1 ho1 hgl
      rw [hva.out, hvb.out, hSk.out] at hS
      dsimp only at hm1 ho1 hgl hS
      obtain ⟨N, hN⟩ : ∃ N : Int, Hid (x + y + (SG.length : Int) = N) := ⟨_, Lib.hid rfl⟩
      rw [hN.out] at hS
      clear ca cb hka hkb
      obtain ⟨ca, na, hka0⟩ := ha.cellV hv1 hlt hva
      obtain ⟨cb, nb, hkb0⟩ := hb.cellV hv1 hlt hvb
      have hfar := ho1.far
      go_wp2_with fail
      refine (ciMaker_xorQ_v lo b x y SG G1 va vb N _ hm1 hx hy (by first | omega | (simp; omega)) (by have := hv1.size; omega) (by have := hN.out; first | omega | (simp; omega))).mono ?_
      rintro e w2 ⟨G2, rfl, hm2, hv2_⟩
      have hv2 := hv1.trans_ hv2_; have ho2 := ho1.mv hv2_; have hz2 := hv2.size; clear hv1 ho1 hm1 hv2_ cb nb hkb0
      obtain ⟨cb, nb, hkb0⟩ := hb.cellV hv2 hlt hvb
      go_wp2_with fail
      refine (ciMaker_andQ_v lo b x y (SG ++ [⟨0, va, vb⟩]) G2 va vb (N + 1) _ hm2 hx hy (by first | omega | (simp; omega)) (by have := hv2.size; omega) (by have := hN.out; first | omega | (simp; omega))).mono ?_
      rintro e w3 ⟨G3, rfl, hm3, hv3_⟩
      have hv3 := hv2.trans_ hv3_; have ho3 := ho2.mv hv3_; have hz3 := hv3.size; clear hv2 ho2 hm2 hv3_
      go_wp2_with fail
      refine (ciMaker_xorQ_v lo b x y (SG ++ [⟨0, va, vb⟩] ++ [⟨1, va, vb⟩]) G3 N (N + 1) (N + 2) _ hm3 hx hy (by first | omega | (simp; omega)) (by have := hv3.size; omega) (by have := hN.out; first | omega | (simp; omega))).mono ?_
      rintro e w4 ⟨G4, rfl, hm4, hv4_⟩
      have hv4 := hv3.trans_ hv4_; have ho4 := ho3.mv hv4_; have hz4 := hv4.size; clear hv3 ho3 hm3 hv4_
      have hoA := ho4.alloc_ (.cells #[.int .i64 (N + 2)] 3); have hmA := hm4.alloc_ (.cells #[.int .i64 (N + 2)] 3); have hvA := hv4.alloc_ (.cells #[.int .i64 (N + 2)] 3)
      go_wp2_with (at_builtin; refine wpList_appI _ rfl _ _ rfl rfl hoA.1 rfl (RI_one _ _ _ _ (by simp)) (by omega) (by first | omega | (simp; done) | (simp; omega)) ?_; intro A5 c5 w5 hown5 hg5 hat5 hk5)
      have ho5 := hoA.appQ hmA hown5 hat5; have hm5 := hmA.app hoA hg5; have hv5 := hvA.app hoA hg5; have hz5 := hv5.size; clear hoA hmA hvA hown5 hg5 hat5 hk5 hv4 ho4 hm4
      have hS1 : Hid (S (k + 1) = ⟨SG ++ [⟨0, va, vb⟩] ++ [⟨1, va, vb⟩] ++ [⟨0, N, N + 1⟩], SO ++ [N + 2]⟩) := Lib.hid (by rw [hS.out]; simp [bitStep])
      have hrel1 : MkQ Qo w5 lo b x y (S (k + 1)).g G4 ∧ OM w5 b G4 w.heap.size (.slice A5 (k + 1) c5) (k + 1) (S (k + 1)).o := by rw [hS1.out]; exact ⟨hm5, ho5⟩
      clear hm5 ho5 hS hS1 hSk hgl hN hva hvb
      go_wp2
      go_roundw
      case rel => exact ⟨k + 1, _, _, _, by omega, by go_num, rfl, hrel1.1, hrel1.2, hv5⟩
      case measure => simp [intOf]; omega
    · obtain rfl : n = k := Nat.le_antisymm (Nat.le_of_not_lt hlt) hk
      go_wp2
      go_ret
      exact RetRdQ.ofOM (HO.out n) rfl hm1 hv1 ho1
variable {Qo : OQ}
theorem coTwo_any (lo b : Nat) (x y : Int) (g0 : List G3) (G : Option Nat) (A B : Option Addr) (n c d : Nat) (us vs : List Int) (w : World) (hm : MkQ Qo w lo b x y g0 G) (ha : RM w b G A n us) (hb : RM w b G B n vs) (hx : 0 ≤ x ∧ x ≤ 20) (hy : 0 ≤ y ∧ y ≤ 20) (hg : g0.length ≤ 40000) (hn1 : 1 ≤ n) (hn : n ≤ 10) (hlo : lo ≤ w.heap.size) (op : Str) (ho : opB op = true) (h5 : op = [42] → n ≤ 5) :
    Calls Tryz.prog 124 #[.pointer (some ⟨b, 0, none⟩), .string (bs op), .slice A n c, .slice B n d] w (RetRdQ Qo lo b x y (twoS (x + y) op us vs g0 n).g (twoS (x + y) op us vs g0 n).o G w) := by
  rcases opB_cases ho with rfl | rfl | rfl | rfl | rfl | rfl | rfl | rfl
  · exact coTwo_add lo b x y g0 G A B n c d us vs w hm ha hb hx hy hg hn1 hn hlo
  · exact coTwo_sub lo b x y g0 G A B n c d us vs w hm ha hb hx hy hg hn1 hn hlo
  · exact coTwo_mul lo b x y g0 G A B n c d us vs w hm ha hb hx hy hg hn1 hn hlo (h5 rfl)
  · exact coTwo_less lo b x y g0 G A B n c d us vs w hm ha hb hx hy hg hn1 hn hlo
  · exact coTwo_eq lo b x y g0 G A B n c d us vs w hm ha hb hx hy hg hn1 hn hlo
  · exact coTwo_and lo b x y g0 G A B n c d us vs w hm ha hb hx hy hg hn1 hn hlo
  · exact coTwo_or lo b x y g0 G A B n c d us vs w hm ha hb hx hy hg hn1 hn hlo
  · exact coTwo_xor lo b x y g0 G A B n c d us vs w hm ha hb hx hy hg hn1 hn hlo
theorem gl_set {L : List (List Int)} {i j : Nat} (u : List Int) (hi : i < L.length) : gl (L.set i u) j = if i = j then u else gl L j := by
  unfold gl
  rw [List.getD_eq_getElem?_getD, List.getD_eq_getElem?_getD, List.getElem?_set]
  split
  · rename_i h; subst h; simp [hi]
  · rfl
def NL (w : World) (b : Nat) (G : Option Nat) (lo : Nat) (v : Value) (n : Nat) (xss : List (List Int)) : Prop :=
  ∃ vals : List Value, w.ownsRow lo 24 1 v n vals ∧ (∀ g, v.ownBlock = some g → g ≠ b ∧ G ≠ some g) ∧ xss.length = n ∧
    ∀ j : Nat, j < n → ∃ A m c, vals[j]? = some (.slice A m c) ∧ RM w b G A m (gl xss j) ∧ ∀ k o, A = some ⟨k, o, none⟩ → v.ownBlock ≠ some k ∧ k < w.heap.size
section
variable {w w' : World} {b lo lo' n : Nat} {G G' : Option Nat} {v : Value} {xss : List (List Int)} {x y : Int} {Ao : Option Addr} {no co : Nat} {gs : List G3}
theorem NL.len (h : NL w b G lo v n xss) : xss.length = n := by obtain ⟨_, _, _, h3, _⟩ := h; exact h3
theorem NL.lt (h : NL w b G lo v n xss) : ∀ g, v.ownBlock = some g → lo ≤ g ∧ g < w.heap.size ∧ g ≠ b ∧ G ≠ some g := by
  obtain ⟨vals, h1, h2, _⟩ := h
  exact fun g hg => ⟨(h1.lt g hg).1, (h1.lt g hg).2, (h2 g hg).1, (h2 g hg).2⟩
theorem NL.none_ (w : World) (b : Nat) (G : Option Nat) (lo : Nat) : NL w b G lo (.slice none 0 0) 0 [] :=
  ⟨[], World.ownsRow_nil w lo _ _, fun g hg => by simp [Value.ownBlock] at hg, rfl, fun j hj => absurd hj (by omega)⟩
theorem NL.new0 (w : World) (b : Nat) (G : Option Nat) (lo : Nat) (hl : lo ≤ w.heap.size) (hb : b < w.heap.size) (hG : ∀ g, G = some g → g < w.heap.size) : NL (w.alloc (.cells #[] 24)) b G lo (.slice (some ⟨w.heap.size, 0, none⟩) 0 0) 0 [] := by
  have h := World.ownsRow_lit (base := lo) (e := 24) (size := 1) w #[] 0 hl (by unfold maxLen; omega) (by simp)
  refine ⟨[], by simpa using h, fun g hg => ?_, rfl, fun j hj => absurd hj (by omega)⟩
  have hg' : w.heap.size = g := by simpa [Value.ownBlock] using hg
  exact ⟨by omega, fun hc => by have := hG g hc; omega⟩
theorem ownsRow_alt {S : Nat → Prop} {e : TypeId} {s : Nat} {vals : List Value} (h : w.ownsRow lo e s v n vals) (k : Alt S w w') (hs : ∀ g, v.ownBlock = some g → ¬ S g) : w'.ownsRow lo e s v n vals := by
  refine ⟨h.1, ?_⟩
  rcases h.2 with h1 | ⟨g, cap, cur, rfl, hlo, hg, r⟩
  · exact .inl h1
  · have hl := h.lt g (by simp [Value.ownBlock])
    exact .inr ⟨g, cap, cur, rfl, hlo, by rw [k.block g hl.2 (hs g (by simp [Value.ownBlock]))]; exact hg, r⟩
theorem RM.alt {S : Nat → Prop} {A : Option Addr} {m : Nat} {xs : List Int} (h : RM w b G A m xs) (k : Alt S w w') (hs : ∀ q o, A = some ⟨q, o, none⟩ → ¬ S q) : RM w' b G A m xs :=
  ⟨h.1.alt k (fun _ q o hA => hs q o hA), h.2⟩
theorem NL.mv (h : NL w b G lo v n xss) (k : Mv b G G' w w') : NL w' b G' lo v n xss := by
  have hlt := h.lt
  obtain ⟨vals, h1, h2, h3, h4⟩ := h
  have hal : Alt (fun i => i = b ∨ G = some i) w w' := ⟨k.os, k.tape, k.output, k.size, fun i hi hn => k.block i hi (fun hc => hn (.inl hc)) (fun hc => hn (.inr hc))⟩
  refine ⟨vals, ownsRow_alt h1 hal (fun g hg hc => hc.elim (h2 g hg).1 (h2 g hg).2), fun g hg => ⟨(h2 g hg).1, k.off (hlt g hg).2.1 (h2 g hg).2⟩, h3, fun j hj => ?_⟩
  obtain ⟨A, m, c, h5, h6, h7⟩ := h4 j hj
  exact ⟨A, m, c, h5, h6.mv k, fun q o hA => ⟨(h7 q o hA).1, Nat.lt_of_lt_of_le (h7 q o hA).2 k.size⟩⟩
theorem NL.below_ {B : Nat} (h : NL w b G lo v n xss) (k : Below B w w') (hB : w.heap.size ≤ B) : NL w' b G lo v n xss := by
  obtain ⟨vals, h1, h2, h3, h4⟩ := h
  have hal : Alt (fun i => B ≤ i) w w' := Alt.of_below k fun _ _ h => h
  refine ⟨vals, ownsRow_alt h1 hal (fun g hg hc => by have := (h1.lt g hg).2; omega), h2, h3, fun j hj => ?_⟩
  obtain ⟨A, m, c, h5, h6, h7⟩ := h4 j hj
  exact ⟨A, m, c, h5, h6.below_ k hB, fun q o hA => ⟨(h7 q o hA).1, Nat.lt_of_lt_of_le (h7 q o hA).2 k.size⟩⟩
theorem NL.alloc_ (h : NL w b G lo v n xss) (o : Obj) : NL (w.alloc o) b G lo v n xss := h.below_ ((Below.refl _ _).alloc (Nat.le_refl _) o) (Nat.le_refl _)
theorem NL.drewN_ (h : NL w b G lo v n xss) (k : Nat) : NL (w.drewN k) b G lo v n xss := h.below_ (below_of_drewN k) (Nat.le_refl _)
theorem NL.at_ {A : Option Addr} {c : Nat} (h : NL w b G lo (.slice A n c) n xss) {k : Nat} (hk : k < n) :
    ∃ g A' m c', A = some ⟨g, 0, none⟩ ∧ lo ≤ g ∧ g < w.heap.size ∧ w.cell? ⟨g, k, none⟩ = some (.slice A' m c') ∧ w.frozen? ⟨g, k, none⟩ = false ∧ RM w b G A' m (gl xss k) ∧ ∀ q o, A' = some ⟨q, o, none⟩ → q ≠ g ∧ q < w.heap.size := by
  obtain ⟨vals, h1, h2, h3, h4⟩ := h
  obtain ⟨g, cap, hv, hl, hlt⟩ := h1.form (by omega)
  simp only [Value.slice.injEq, true_and] at hv
  obtain ⟨rfl, rfl⟩ := hv
  obtain ⟨A', m, c', h5, h6, h7⟩ := h4 k hk
  exact ⟨g, A', m, c', rfl, hl, hlt, by rw [h1.cellAt k (by omega), h5], h1.frozenAt k, h6, fun q o hA => ⟨fun hc => (h7 q o hA).1 (by simp [Value.ownBlock, hc]), (h7 q o hA).2⟩⟩
theorem NL.reads {A : Option Addr} {c : Nat} (h : NL w b G lo (.slice A n c) n xss) : RII w A n xss := by
  refine ⟨h.len, fun hn => ?_⟩
  obtain ⟨g, A', m, c', rfl, _, hlt, _⟩ := h.at_ hn
  refine ⟨g, 0, rfl, hlt, fun j hj => ?_⟩
  obtain ⟨g', A', m, c', hg, _, _, hc, _, hr, _⟩ := h.at_ hj
  simp only [Option.some.injEq, Addr.mk.injEq, and_true] at hg
  subst hg
  exact ⟨A', m, c', by rw [Nat.zero_add]; exact hc, hr.1⟩
theorem NL.stored {g c m c' j : Nat} {A' : Option Addr} {ys : List Int} (h : NL w b G lo (.slice (some ⟨g, 0, none⟩) n c) n xss) (hj : j < n) (hr : RM w b G A' m ys) (hd : ∀ q o, A' = some ⟨q, o, none⟩ → q ≠ g ∧ q < w.heap.size) :
    NL (w.setCell ⟨g, j, none⟩ (.slice A' m c')) b G lo (.slice (some ⟨g, 0, none⟩) n c) n (xss.set j ys) := by
  obtain ⟨vals, h1, h2, h3, h4⟩ := h
  have k1 : Alt (fun i => i = g) w (w.setCell ⟨g, j, none⟩ (.slice A' m c')) := (Alt.refl_ _ w).set_ _ _ (fun _ => rfl)
  have hl : vals.length = n := by simpa using h1.1
  refine ⟨vals.set j (.slice A' m c'), (h1.stored j _).1, h2, by simp [h3], fun i hi => ?_⟩
  by_cases hij : j = i
  · subst hij
    refine ⟨A', m, c', by rw [List.getElem?_set]; simp [hl, hj], ?_, fun q o hA => ⟨fun hc => ?_, by simpa using (hd q o hA).2⟩⟩
    · rw [gl_set _ (by omega), if_pos rfl]; exact hr.alt k1 (fun q o hA => (hd q o hA).1)
    · simp [Value.ownBlock] at hc; exact (hd q o hA).1 hc.symm
  · obtain ⟨A2, m2, c2, h5, h6, h7⟩ := h4 i hi
    refine ⟨A2, m2, c2, by rw [List.getElem?_set_ne hij]; exact h5, ?_, fun q o hA => ⟨(h7 q o hA).1, by simpa using (h7 q o hA).2⟩⟩
    rw [gl_set _ (by omega), if_neg hij]
    exact h6.alt k1 (fun q o hA hc => (h7 q o hA).1 (by simp [Value.ownBlock, hc]))
end
section
variable (w : World)
theorem run_appN (ty : TypeId) (lo n c0 m c b bq q : Nat) (G : Option Nat) (A0 A : Option Addr) (xss : List (List Int)) (ys : List Int) (hown : NL w b G lo (.slice A0 n c0) n xss) (hnew : RM w b G A m ys) (hd : ∀ k o, A = some ⟨k, o, none⟩ → (Value.slice A0 n c0).ownBlock ≠ some k ∧ k < w.heap.size)
    (hc : w.cell? ⟨bq, 0, none⟩ = some (.slice A m c)) (hlen : n ≤ 4194304) (hlo : lo ≤ w.heap.size) (hb : b < w.heap.size) (hG : ∀ g, G = some g → g < w.heap.size) :
    ∃ A' c' w', (Builtin.append_ #[61, 61] ty #[.slice A0 n c0, .slice (some ⟨bq, 0, none⟩) 1 q]).run Tryz.prog w = .ok (.slice A' (n + 1) c') w' ∧
      NL w' b G lo (.slice A' (n + 1) c') (n + 1) (xss ++ [ys]) ∧ w.grownBy w' (Value.slice A0 n c0).ownBlock := by
  obtain ⟨vals, h1, h2, h3, h4⟩ := hown
  obtain ⟨i, hi0, hz0, hz1, hz2⟩ := info_parts info_ints
  have hrv : RV w (some ⟨bq, 0, none⟩) 1 1 [.slice A m c] := by
    refine ⟨rfl, fun _ => ⟨_, rfl, fun j u hu => ?_⟩⟩
    cases j with
    | zero => simp at hu; subst hu; rw [addr_add]; exact hc
    | succ j => simp at hu
  obtain ⟨A', c', w', hrun, hr, hg, hat, hs⟩ := run_appV (P := Tryz.prog) w 61 ty 24 i (.slice none 0 0) 1 24 Tryz.underlying61 hi0 hz0 hz1 hz2 rfl (by decide) lo n c0 1 q A0 (some ⟨bq, 0, none⟩) _ _ h1 hrv (by intro u hu; simp at hu; subst hu; rfl) (by unfold maxLen; omega) (by omega) hlo
  have hl : vals.length = n := by simpa using h1.1
  have ka := Alt.of_grown (S := fun i => (Value.slice A0 n c0).ownBlock = some i) hg (fun _ h => h)
  refine ⟨A', c', w', hrun, ⟨_, hr, fun g hg' => ?_, by simp [h3], fun j hj => ?_⟩, hg⟩
  · rcases hat with h | h
    · exact h2 g (h ▸ hg')
    · rw [h] at hg'; injection hg' with hg'; subst hg'
      exact ⟨by omega, fun hc => by have := hG _ hc; omega⟩
  · by_cases hjn : j < n
    · obtain ⟨A2, m2, c2, h5, h6, h7⟩ := h4 j hjn
      refine ⟨A2, m2, c2, by rw [List.getElem?_append_left (by omega)]; exact h5, ?_, fun k o hA => ⟨fun hcc => ?_, Nat.lt_of_lt_of_le (h7 k o hA).2 hg.size⟩⟩
      · rw [gl_append_lt (by omega)]; exact h6.alt ka (fun k o hA => (h7 k o hA).1)
      · rcases hat with h | h
        · exact (h7 k o hA).1 (h ▸ hcc)
        · rw [h] at hcc; injection hcc with hcc; have := (h7 k o hA).2; omega
    · obtain rfl : j = n := by omega
      refine ⟨A, m, c, by rw [List.getElem?_append_right (by omega), hl, Nat.sub_self]; rfl, ?_, fun k o hA => ⟨fun hcc => ?_, Nat.lt_of_lt_of_le (hd k o hA).2 hg.size⟩⟩
      · rw [← h3, gl_append_eq]; exact hnew.alt ka (fun k o hA => (hd k o hA).1)
      · rcases hat with h | h
        · exact (hd k o hA).1 (h ▸ hcc)
        · rw [h] at hcc; injection hcc with hcc; have := (hd k o hA).2; omega
end
end Go.Proofs.YtenknpcbbcbciaaGreat
