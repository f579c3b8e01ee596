/- The contracts of the reference's InputBits, ResultNumbers, laAsked, RunCompiled. Texts below 2^21 bytes. -/
import Derived.Test.YtjjphaiomaiilaaGreatQA
import Derived.Test.YtjjphaiomaiilaaGreatQXFi4
namespace Go.Proofs.YtjjphaiomaiilaaGreat
open Go.RowKit
set_option linter.unusedVariables false
set_option linter.unusedSimpArgs false
set_option maxRecDepth 100000 in
set_option maxHeartbeats 1600000 in
theorem spec_InputBits_any (A B : Option Addr) (n c m d : Nat) (l : List Ln) (p : Int) (vs : List Int) (w : World) (ha : RLn w A n l) (hn : n ≤ 2097152) (hcap : n ≤ c) (hsh : ∀ x ∈ l, shortL x) (hb : RI w B m vs) (hm : m ≤ 2097152) :
    Calls Tryz.prog 28 #[.slice A n c, .int .i64 p, .slice B m d] w (RetO w (ibF l p vs)) := by
  cases hg : coB l with
  | false =>
    have HR : Hid (ibF l p vs = none) := Lib.hid (if_neg (fun h => by rw [hg] at h; cases h.1))
    have H0 := Lib.hid hg
    clear hg
    go_enter Tryz.func28, Tryz.ntmps28
    go_wp2_with fail
    refine (coGood_any A n c l _ ha hn hcap hsh).mono ?_
    rintro e w1 ⟨rfl, hb1⟩
    rw [H0.out]
    go_wp2
    go_ret2
    exact RetO.none_ hb1 HR.out rfl
  | true =>
    have H0 := Lib.hid hg
    have hgd := (coB_good hg).1
    have hw := insL_bd hgd.2.1 p
    have hL := insL_len l p
    have hl := ha.len
    have hn30 := hgd.1
    clear hg
    cases hi : inB 0 1 p with
    | false =>
      have HR : Hid (ibF l p vs = none) := Lib.hid (if_neg (fun h => by rw [hi] at h; cases h.2.1))
      go_enter Tryz.func28, Tryz.ntmps28
      go_wp2_with fail
      refine (coGood_any A n c l _ ha hn hcap hsh).mono ?_
      rintro e w1 ⟨rfl, hb1⟩
      rw [H0.out]
      go_wp2_with fail
      refine (l1In_any p 0 1 false hi _).mono ?_
      rintro e w2 ⟨rfl, rfl⟩
      go_wp2
      go_ret2
      exact RetO.none_ hb1 HR.out rfl
    | true =>
      go_enter Tryz.func28, Tryz.ntmps28
      go_wp2_with fail
      refine (coGood_any A n c l _ ha hn hcap hsh).mono ?_
      rintro e w1 ⟨rfl, hb1⟩
      rw [H0.out]
      go_wp2_with fail
      refine (l1In_any p 0 1 true hi _).mono ?_
      rintro e w2 ⟨rfl, rfl⟩
      go_wp2_with fail
      refine (laInputs_any A n c p l _ (ha.below hb1 (Nat.le_refl _)) hn).mono ?_
      rintro e w3 hT
      obtain ⟨A3, c3, rfl, p3, hb3⟩ := hT
      have hB3 := hb1.trans (hb3.mono hb1.size)
      cases hf : fitB (insL l p) vs with
      | false =>
        have HR : Hid (ibF l p vs = none) := Lib.hid (if_neg (fun h => by rw [hf] at h; cases h.2.2))
        have HF := Lib.hid hf
        clear hf
        go_wp2_with fail
        refine (laFit_any A3 B (insL l p).length c3 m d (insL l p) vs _ p3.reads (hb.below hB3 (Nat.le_refl _)) (by omega) hm (fun z hz => hw z hz)).mono ?_
        rintro e w4 ⟨rfl, rfl⟩
        rw [HF.out]
        go_wp2
        go_ret2
        exact RetO.none_ hB3 HR.out rfl
      | true =>
        have HR : Hid (ibF l p vs = some (bitsK (insL l p) vs (insL l p).length)) := Lib.hid (if_pos ⟨H0.out, hi, hf⟩)
        have HF := Lib.hid hf
        obtain ⟨hl1, hl2⟩ := fit_1023 hf hw
        clear hf
        obtain rfl : m = (insL l p).length := by rw [hl1, hb.len]
        clear hl1
        go_wp2_with fail
        refine (laFit_any A3 B (insL l p).length c3 (insL l p).length d (insL l p) vs _ p3.reads (hb.below hB3 (Nat.le_refl _)) (by omega) hm (fun z hz => hw z hz)).mono ?_
        rintro e w4 ⟨rfl, rfl⟩
        rw [HF.out]
        go_wp2_with fail
        refine (laInputs_any A n c p l _ (ha.below hB3 (Nat.le_refl _)) hn).mono ?_
        rintro e w5 hT
        obtain ⟨A5, c5, rfl, p5, hb5⟩ := hT
        have hB5 := hB3.trans (hb5.mono hB3.size)
        go_wp2_with fail
        refine (coBits_any A5 B (insL l p).length c5 (insL l p).length d (insL l p) vs _ p5.reads (hb.below hB5 (Nat.le_refl _)) (by omega) hw hl2).mono ?_
        rintro e w6 hT
        obtain ⟨A6, c6, rfl, p6, hb6⟩ := hT
        go_wp2
        go_ret2
        exact RetO.some_ (hB5.trans (hb6.mono hB5.size)) HR.out rfl rfl (p6.lo_ hB5.size)
set_option maxRecDepth 100000 in
set_option maxHeartbeats 1600000 in
theorem spec_ResultNumbers_any (A B : Option Addr) (n c m d : Nat) (l : List Ln) (bits : List Int) (w : World) (ha : RLn w A n l) (hn : n ≤ 2097152) (hcap : n ≤ c) (hsh : ∀ x ∈ l, shortL x) (hb : RI w B m bits) (hm : m ≤ 2097152) (hmd : m ≤ d) :
    Calls Tryz.prog 25 #[.slice A n c, .slice B m d] w (RetO w (rnF l bits)) := by
  have hml := hb.len
  cases hg : coB l with
  | false =>
    have HR : Hid (rnF l bits = none) := Lib.hid (if_neg (fun h => by rw [hg] at h; cases h.1))
    have H0 := Lib.hid hg
    clear hg
    go_enter Tryz.func25, Tryz.ntmps25
    go_wp2_with fail
    refine (coGood_any A n c l _ ha hn hcap hsh).mono ?_
    rintro e w1 ⟨rfl, hb1⟩
    rw [H0.out]
    go_wp2
    go_ret2
    exact RetO.none_ hb1 HR.out rfl
  | true =>
    have H0 := Lib.hid hg
    have hgd := (coB_good hg).1
    have hw := outsL_bd hgd.2.1
    have hL := outs10 hgd
    obtain ⟨k, hk⟩ : ∃ k, Hid ((outsL l).length = k) := ⟨_, Lib.hid rfl⟩
    rw [hk.out] at hL
    have hof := Lib.hid (offs_all hw)
    rw [hk.out] at hof
    have hmx : sumI (outsL l) ≤ 100 := by
      have h1 := (sumI_le (M := 10) (fun z hz => by have := hw z hz; omega) (outsL l).length (Nat.le_refl _)).2
      rw [List.take_of_length_le (Nat.le_refl _), hk.out] at h1
      omega
    clear hg
    go_enter Tryz.func25, Tryz.ntmps25
    go_wp2_with fail
    refine (coGood_any A n c l _ ha hn hcap hsh).mono ?_
    rintro e w1 ⟨rfl, hb1⟩
    rw [H0.out]
    go_wp2_with fail
    refine (laOuts_any A n c l _ (ha.below hb1 (Nat.le_refl _)) hn hcap hsh).mono ?_
    rintro e w3 hT
    obtain ⟨A3, c3, rfl, p3, hb3⟩ := RetI.open_ hT hk.out
    have hB3 := hb1.trans (hb3.mono hb1.size)
    by_cases he : (m : Int) = sumI (outsL l)
    · have heh := Lib.hid he
      have hm100 : m ≤ 100 := by omega
      have hofm : offs (outsL l) k = m := by have := hof.out; omega
      clear he
      go_wp2_with fail
      refine (laSumW_any A3 k c3 (outsL l) _ p3.reads (by omega) (fun z hz => by have := hw z hz; omega)).mono ?_
      rintro e w5 ⟨rfl, rfl⟩
      rw [← heh.out]
      cases hf : allB 0 1 bits with
      | false =>
        have HR : Hid (rnF l bits = none) := Lib.hid (if_neg (fun h => by rw [hf] at h; cases h.2.1))
        have HF := Lib.hid hf
        clear hf
        go_wp2_with fail
        refine (l1All_any B m d 0 1 bits _ (hb.below hB3 (Nat.le_refl _)) hm).mono ?_
        rintro e w6 ⟨rfl, rfl⟩
        rw [HF.out]
        go_wp2
        go_ret2
        exact RetO.none_ hB3 HR.out rfl
      | true =>
        have HR : Hid (rnF l bits = some (numK (outsL l) bits k)) := Lib.hid (by rw [← hk.out]; exact if_pos ⟨H0.out, hf, by rw [hml]; exact heh.out⟩)
        have HF := Lib.hid hf
        clear hf
        go_wp2_with fail
        refine (l1All_any B m d 0 1 bits _ (hb.below hB3 (Nat.le_refl _)) hm).mono ?_
        rintro e w6 ⟨rfl, rfl⟩
        rw [HF.out]
        go_wp2_with fail
        refine (laOuts_any A n c l _ (ha.below hB3 (Nat.le_refl _)) hn hcap hsh).mono ?_
        rintro e w7 hT7
        obtain ⟨A7, c7, rfl, p7, hb7⟩ := RetI.open_ hT7 hk.out
        have hB7 := hB3.trans (hb7.mono hB3.size)
        go_wp2_with fail
        refine (coNumbers_any A7 B k c7 m d (outsL l) bits _ p7.reads (hb.below hB7 (Nat.le_refl _)) (by omega) (by omega) hmd hw HF.out hofm).mono ?_
        rintro e w8 hT8
        obtain ⟨A8, c8, rfl, p8, hb8⟩ := RetI.open_ (n := k) hT8 (numK_len _ _ _)
        go_wp2
        go_ret2
        exact RetO.some_ (hB7.trans (hb8.mono hB7.size)) HR.out (numK_len _ _ _) rfl (p8.lo_ hB7.size)
    · have HR : Hid (rnF l bits = none) := Lib.hid (if_neg (fun h => he (by rw [← hml]; exact h.2.2)))
      obtain ⟨S, hS⟩ : ∃ S, Hid (sumI (outsL l) = S) := ⟨_, Lib.hid rfl⟩
      rw [hS.out] at he
      go_wp2_with fail
      refine (laSumW_any A3 k c3 (outsL l) _ p3.reads (by omega) (fun z hz => by have := hw z hz; omega)).mono ?_
      rintro e w5 ⟨rfl, rfl⟩
      rw [hS.out]
      go_wp2
      go_ret2
      exact RetO.none_ hB3 HR.out rfl
set_option maxRecDepth 100000 in
set_option maxHeartbeats 1600000 in
theorem laAsked_any (A B C : Option Addr) (n c m d r q : Nat) (l : List Ln) (xs ys : List Int) (w : World) (ha : RLn w A n l) (hn : n ≤ 2097152) (hcap : n ≤ c) (hsh : ∀ x ∈ l, shortL x) (hb : RI w B m xs) (hm : m ≤ 2097152) (hc : RI w C r ys) (hr : r ≤ 2097152) (hgd : goodP l) :
    Calls Tryz.prog 84 #[.slice A n c, .slice B m d, .slice C r q] w fun e w' => e = .returned (.bool (fitB (insL l 0) xs && fitB (insL l 1) ys)) ∧ Below w.heap.size w w' := by
  have HG : Hid (decide (goodP l) = true) := Lib.hid (decide_eq_true hgd)
  have hw0 := insL_bd hgd.2.1 0
  have hw1 := insL_bd hgd.2.1 1
  have hL0 := insL_len l 0
  have hL1 := insL_len l 1
  have hn30 := hgd.1
  clear hgd
  go_enter Tryz.func84, Tryz.ntmps84
  go_wp2_with fail
  refine (laGood_any A n c l _ ha hn hcap hsh).mono ?_
  rintro e w1 ⟨rfl, hb1⟩
  rw [HG.out]
  go_wp2_with fail
  refine (laInputs_any A n c 0 l _ (ha.below hb1 (Nat.le_refl _)) hn).mono ?_
  rintro e w2 hT
  obtain ⟨A2, c2, rfl, p2, hb2⟩ := hT
  have hB2 := hb1.trans (hb2.mono hb1.size)
  cases h0 : fitB (insL l 0) xs with
  | false =>
    have H0 := Lib.hid h0
    clear h0
    go_wp2_with fail
    refine (laFit_any A2 B (insL l 0).length c2 m d (insL l 0) xs _ p2.reads (hb.below hB2 (Nat.le_refl _)) (by omega) hm (fun z hz => hw0 z hz)).mono ?_
    rintro e w4 ⟨rfl, rfl⟩
    rw [H0.out]
    go_wp2
    go_ret
    exact ⟨by rw [H0.out, Bool.false_and]; rfl, hB2⟩
  | true =>
    have H0 := Lib.hid h0
    clear h0
    go_wp2_with fail
    refine (laFit_any A2 B (insL l 0).length c2 m d (insL l 0) xs _ p2.reads (hb.below hB2 (Nat.le_refl _)) (by omega) hm (fun z hz => hw0 z hz)).mono ?_
    rintro e w4 ⟨rfl, rfl⟩
    rw [H0.out]
    go_wp2_with fail
    refine (laInputs_any A n c 1 l _ (ha.below hB2 (Nat.le_refl _)) hn).mono ?_
    rintro e w5 hT
    obtain ⟨A5, c5, rfl, p5, hb5⟩ := hT
    have hB5 := hB2.trans (hb5.mono hB2.size)
    go_wp2_with fail
    refine (laFit_any A5 C (insL l 1).length c5 r q (insL l 1) ys _ p5.reads (hc.below hB5 (Nat.le_refl _)) (by omega) hr (fun z hz => hw1 z hz)).mono ?_
    rintro e w6 ⟨rfl, rfl⟩
    go_wp2
    go_ret
    exact ⟨by rw [H0.out, Bool.true_and]; rfl, hB5⟩
set_option maxRecDepth 100000 in
set_option maxHeartbeats 3200000 in
theorem spec_RunCompiled_any (A B C : Option Addr) (n c m d r q : Nat) (l : List Ln) (xs ys : List Int) (w : World) (ha : RLn w A n l) (hn : n ≤ 2097152) (hcap : n ≤ c) (hsh : ∀ x ∈ l, shortL x) (hb : RI w B m xs) (hm : m ≤ 2097152) (hc : RI w C r ys) (hr : r ≤ 2097152) :
    Calls Tryz.prog 37 #[.slice A n c, .slice B m d, .slice C r q] w (RetO w (rcF l xs ys)) := by
  cases hg : coB l with
  | false =>
    have HR : Hid (rcF l xs ys = none) := Lib.hid (if_neg (fun h => by rw [hg] at h; cases h.1))
    have H0 := Lib.hid hg
    clear hg
    go_enter Tryz.func37, Tryz.ntmps37
    go_wp2_with fail
    refine (coGood_any A n c l _ ha hn hcap hsh).mono ?_
    rintro e w1 ⟨rfl, hb1⟩
    rw [H0.out]
    go_wp2
    go_ret2
    exact RetO.none_ hb1 HR.out rfl
  | true =>
    have H0 := Lib.hid hg
    have hD := Lib.hid (coB_data hg)
    have hgd := (coB_good hg).1
    have hl := ha.len
    subst hl
    clear hg
    cases hf : (fitB (insL l 0) xs && fitB (insL l 1) ys) with
    | false =>
      have HR : Hid (rcF l xs ys = none) := Lib.hid (if_neg (fun h => by rw [h.2.1, h.2.2] at hf; cases hf))
      have HF := Lib.hid hf
      clear hf
      go_enter Tryz.func37, Tryz.ntmps37
      go_wp2_with fail
      refine (coGood_any A l.length c l _ ha hn hcap hsh).mono ?_
      rintro e w1 ⟨rfl, hb1⟩
      rw [H0.out]
      go_wp2_with fail
      refine (laAsked_any A B C l.length c m d r q l xs ys _ (ha.below hb1 (Nat.le_refl _)) hn hcap hsh (hb.below hb1 (Nat.le_refl _)) hm (hc.below hb1 (Nat.le_refl _)) hr hgd).mono ?_
      rintro e w2 ⟨rfl, hb2⟩
      rw [HF.out]
      go_wp2
      go_ret2
      exact RetO.none_ (hb1.trans (hb2.mono hb1.size)) HR.out rfl
    | true =>
      have HF := Lib.hid hf
      rw [Bool.and_eq_true] at hf
      have hw0 := insL_bd hgd.2.1 0
      have hw1 := insL_bd hgd.2.1 1
      have hw2 := outsL_bd hgd.2.1
      have hL0 := insL_len l 0
      have hL1 := insL_len l 1
      have hL2 := outs10 hgd
      have hn30 := hgd.1
      obtain ⟨e0, f0⟩ := fit_1023 hf.1 hw0
      obtain ⟨e1, f1⟩ := fit_1023 hf.2 hw1
      obtain rfl : m = (insL l 0).length := by rw [e0, hb.len]
      obtain rfl : r = (insL l 1).length := by rw [e1, hc.len]
      have HR : Hid (rcF l xs ys = some (numK (outsL l) (runB l (bitsK (insL l 0) xs (insL l 0).length ++ bitsK (insL l 1) ys (insL l 1).length)) (outsL l).length)) := Lib.hid (if_pos ⟨H0.out, hf.1, hf.2⟩)
      have hD' := hD.out
      have hx0 := hD'.x
      have hy0 := hD'.y
      have s0 := offs_all hw0
      have s1 := offs_all hw1
      obtain ⟨X, hX⟩ : ∃ X, Hid (offs (insL l 0) (insL l 0).length = X) := ⟨_, Lib.hid rfl⟩
      obtain ⟨Y, hY⟩ : ∃ Y, Hid (offs (insL l 1) (insL l 1).length = Y) := ⟨_, Lib.hid rfl⟩
      have b0 := bitsK_len hw0 xs (insL l 0).length (Nat.le_refl _)
      have b1 := bitsK_len hw1 ys (insL l 1).length (Nat.le_refl _)
      rw [hX.out] at s0 b0
      rw [hY.out] at s1 b1
      have hgat := hD'.gat (X + Y) (by omega)
      have hout := hD'.out (X + Y) (by omega)
      have hofs := hD'.offs
      have hng := hD'.ng
      have hno := hD'.no
      have hbits : allB 0 1 (bitsK (insL l 0) xs (insL l 0).length ++ bitsK (insL l 1) ys (insL l 1).length) = true := allB_iff.2 fun z hz => (List.mem_append.1 hz).elim (fun h => allB_iff.1 (bitsK_bd _ _ _) z h) (fun h => allB_iff.1 (bitsK_bd _ _ _) z h)
      have hrun := runB_bd hD' hbits (by rw [List.length_append, b0, b1]; omega)
      have hrl := runB_len l (bitsK (insL l 0) xs (insL l 0).length ++ bitsK (insL l 1) ys (insL l 1).length)
      have hrb : Hid (pick (vals (cc l).g (bitsK (insL l 0) xs (insL l 0).length ++ bitsK (insL l 1) ys (insL l 1).length) (cc l).g.length) (cc l).os = runB l (bitsK (insL l 0) xs (insL l 0).length ++ bitsK (insL l 1) ys (insL l 1).length)) := Lib.hid rfl
      obtain ⟨b0s, h0s⟩ : ∃ b, Hid (bitsK (insL l 0) xs (insL l 0).length = b) := ⟨_, Lib.hid rfl⟩
      obtain ⟨b1s, h1s⟩ : ∃ b, Hid (bitsK (insL l 1) ys (insL l 1).length = b) := ⟨_, Lib.hid rfl⟩
      rw [h0s.out, h1s.out] at hbits hrun hrl hrb HR
      rw [h0s.out] at b0
      rw [h1s.out] at b1
      clear hD' hD hX hY hf e0 e1
      go_enter Tryz.func37, Tryz.ntmps37
      go_wp2_with fail
      refine (coGood_any A l.length c l _ ha hn hcap hsh).mono ?_
      rintro e w1 ⟨rfl, hb1⟩
      rw [H0.out]
      go_wp2_with fail
      refine (laAsked_any A B C l.length c (insL l 0).length d (insL l 1).length q l xs ys _ (ha.below hb1 (Nat.le_refl _)) hn hcap hsh (hb.below hb1 (Nat.le_refl _)) hm (hc.below hb1 (Nat.le_refl _)) hr hgd).mono ?_
      rintro e w2 ⟨rfl, hb2⟩
      rw [HF.out]
      have hB2 := hb1.trans (hb2.mono hb1.size)
      go_wp2_with fail
      refine (laInputs_any A l.length c 0 l _ (ha.below hB2 (Nat.le_refl _)) hn).mono ?_
      rintro e w3 hT
      obtain ⟨A3, c3, rfl, p3, hb3⟩ := hT
      have hB3 := hB2.trans (hb3.mono hB2.size)
      go_wp2_with fail
      refine (coBits_any A3 B (insL l 0).length c3 (insL l 0).length d (insL l 0) xs _ p3.reads (hb.below hB3 (Nat.le_refl _)) (by omega) hw0 f0).mono ?_
      rintro e w4 hT
      rw [h0s.out] at hT
      obtain ⟨A4, c4, rfl, p4, hb4⟩ := RetI.open_ hT b0
      have hB4 := hB3.trans (hb4.mono hB3.size)
      go_wp2_with fail
      refine (laInputs_any A l.length c 1 l _ (ha.below hB4 (Nat.le_refl _)) hn).mono ?_
      rintro e w5 hT5
      obtain ⟨A5, c5, rfl, p5, hb5⟩ := hT5
      have hB5 := hB4.trans (hb5.mono hB4.size)
      go_wp2_with fail
      refine (coBits_any A5 C (insL l 1).length c5 (insL l 1).length q (insL l 1) ys _ p5.reads (hc.below hB5 (Nat.le_refl _)) (by omega) hw1 f1).mono ?_
      rintro e w6 hT6
      rw [h1s.out] at hT6
      obtain ⟨A6, c6, rfl, p6, hb6⟩ := RetI.open_ hT6 b1
      have hB6 := hB5.trans (hb6.mono hB5.size)
      go_wp2_with fail
      refine (ciJoin_any A4 A6 X c4 Y c6 b0s b1s _ ((p4.reads.below hb5 (Nat.le_refl _)).below hb6 (Nat.le_refl _)) p6.reads (by omega) (by omega)).mono ?_
      rintro e w8 ⟨A8, c8, rfl, p8, hb8⟩
      have hB8 := hB6.trans (hb8.mono hB6.size)
      go_wp2_with fail
      refine (laOuts_any A l.length c l _ (ha.below hB8 (Nat.le_refl _)) hn hcap hsh).mono ?_
      rintro e w9 hT9
      obtain ⟨A9, c9, rfl, p9, hb9⟩ := hT9
      have hB9 := hB8.trans (hb9.mono hB8.size)
      go_wp2_with fail
      refine (coCircuit_any A l.length c l _ (ha.below hB9 (Nat.le_refl _)) hcap hsh hgd).mono ?_
      rintro e w10 ⟨Ag, cg, Oa, oc, rfl, hC, hb10⟩
      have hB10 := hB9.trans (hb10.mono hB9.size)
      go_wp2_with fail
      refine (ciOuts_any (sumI (insL l 0)) (sumI (insL l 1)) Ag (cc l).g.length cg Oa (cc l).os.length oc A8 (X + Y) c8 (cc l).g (cc l).os (b0s ++ b1s) _ hC.reads ((p8.reads.below hb9 (Nat.le_refl _)).below hb10 (Nat.le_refl _)) hbits hgat hout hng hno (by omega)).mono ?_
      rintro e w11 hT11
      rw [hrb.out] at hT11
      obtain ⟨A11, c11, rfl, p11, hb11⟩ := RetI.open_ hT11 hrl
      have hB11 := hB10.trans (hb11.mono hB10.size)
      have hcap11 := p11.cap
      go_wp2_with fail
      refine (coNumbers_any A9 A11 (outsL l).length c9 (cc l).os.length c11 (outsL l) _ _ ((p9.reads.below hb10 (Nat.le_refl _)).below hb11 (Nat.le_refl _)) p11.reads (by omega) (by omega) hcap11 hw2 hrun hofs).mono ?_
      rintro e w12 hT12
      obtain ⟨A12, c12, rfl, p12, hb12⟩ := RetI.open_ hT12 (numK_len _ _ _)
      go_wp2
      go_ret2
      exact RetO.some_ (hB11.trans (hb12.mono hB11.size)) HR.out (numK_len _ _ _) rfl (p12.lo_ hB11.size)
end Go.Proofs.YtjjphaiomaiilaaGreat
