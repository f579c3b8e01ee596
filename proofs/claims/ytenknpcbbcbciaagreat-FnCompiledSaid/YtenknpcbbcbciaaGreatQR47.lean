/- Words of the law of merged circuits: qGates, qCircuit, qHas; WireValues and EvalCircuit where they succeed. Lengths below 2^21. -/
import Derived.Test.YtenknpcbbcbciaaGreatQR46
namespace Go.Proofs.YtenknpcbbcbciaaGreat
open Go.RowKit
set_option linter.unusedVariables false
set_option linter.unusedSimpArgs false
theorem RetCs.cc_ {w w' : World} {l : List Ln} {e : Ending} (h : RetCs w l e w') :
 ∃ B Ag cg Oa oc Ea ec Wa wc bl, e = .returned (.agg #[.pointer (some ⟨B, 0, none⟩), .slice Wa l.length wc, .slice Ea l.length ec]) ∧
 BxC w' B (sumI (insL l 0)) (sumI (insL l 1)) Ag (cc l).g.length cg Oa (cc l).os.length oc ∧ B < w'.heap.size ∧ w.heap.size ≤ B ∧
 OwnC w' w.heap.size w'.heap.size Ag (cc l).g.length cg Oa (cc l).os.length oc (cc l).g (cc l).os ∧
 Own w' w.heap.size w'.heap.size (.slice Ea l.length ec) l.length (cc l).es ∧ Wi w' w.heap.size false bl Wa wc l.length (cc l).ws ∧ Below w.heap.size w w' := h
def RetCc (w : World) (l : List Ln) (e : Ending) (w' : World) : Prop :=
 ∃ Ag cg Oa oc, e = .returned (.agg #[.int .i64 (sumI (insL l 0)), .int .i64 (sumI (insL l 1)), .slice Ag (cc l).g.length cg, .slice Oa (cc l).os.length oc]) ∧ OwnC w' w.heap.size w'.heap.size Ag (cc l).g.length cg Oa (cc l).os.length oc (cc l).g (cc l).os ∧ Below w.heap.size w w'
theorem fld0 (B n wc ec : Nat) (Wa Ea : Option Addr) : ∀ w : World, (Instr.field 99 (.agg #[.pointer (some ⟨B, 0, none⟩), .slice Wa n wc, .slice Ea n ec]) 0).run Tryz.prog w = .ok (.pointer (some ⟨B, 0, none⟩)) w := fun _ => by kernel_rfl
set_option maxRecDepth 100000 in
set_option maxHeartbeats 4000000 in
theorem Zca (A : Option Addr) (n c : Nat) (l : List Ln) (w : World) (ha : RLn w A n l) (hn : n ≤ 2097152) (hcap : n ≤ c) (hsh : ∀ x ∈ l, shortL x) :
 Calls Tryz.prog 50 #[.slice A n c] w fun e w' => e = .returned (.bool (coB l)) ∧ Below w.heap.size w w' := by
 by_cases hgd : goodP l
 ·have HR : Hid (coB l = circB (sumI (insL l 0)) (sumI (insL l 1)) (cc l).g (cc l).os) := zH (by unfold coB; rw [decide_eq_true hgd, Bool.true_and])
  have HG : Hid (decide (goodP l) = true) := zH (decide_eq_true hgd)
  obtain ⟨hng, hno⟩ := cc_small hgd
  go_enter Tryz.func50, Tryz.ntmps50
  go_wp2_with fail
  refine (Zdd A n c l _ ha hn hcap hsh).mono ?_
  rintro e w1 ⟨rfl, hb1⟩
  rw [HG.out]
  go_wp2_with fail
  refine (coMake_any A n c l _ (ha.below hb1 lR) hcap hsh hgd).mono ?_
  rintro e w2 hT
  obtain ⟨B, Ag, cg, Oa, oc, Ea, ec, Wa, wc, bl, rfl, hBx, hBlt, hBlo, hC, hE, hW, hb2⟩ := RetCs.cc_ hT
  have hq := hC.reads
  obtain ⟨k0, k1, k2, k3⟩ := hBx
  have hfd := fld0 B l.length wc ec Wa Ea
  clear hT hE hW hC ha
  go_wp2_with fail
  refine (ciGood_any (sumI (insL l 0)) (sumI (insL l 1)) Ag (cc l).g.length cg Oa (cc l).os.length oc (cc l).g (cc l).os _ hq.1 hq.2 hng hno).mono ?_
  rintro e w3 ⟨rfl, hb3⟩
  go_wp2
  go_ret
  exact ⟨by rw [HR.out]; rfl, (hb1.trans (hb2.mono hb1.size)).trans (hb3.mono (hb1.trans (hb2.mono hb1.size)).size)⟩
 ·have HR : Hid (coB l = false) := zH (by unfold coB; rw [decide_eq_false hgd, Bool.false_and])
  have HG : Hid (decide (goodP l) = false) := zH (decide_eq_false hgd)
  go_enter Tryz.func50, Tryz.ntmps50
  go_wp2_with fail
  refine (Zdd A n c l _ ha hn hcap hsh).mono ?_
  rintro e w1 ⟨rfl, hb1⟩
  rw [HG.out]
  go_wp2
  go_ret
  exact ⟨by rw [HR.out]; rfl, hb1⟩
set_option maxRecDepth 100000 in
set_option maxHeartbeats 4000000 in
theorem coCircuit_any (A : Option Addr) (n c : Nat) (l : List Ln) (w : World) (ha : RLn w A n l) (hcap : n ≤ c) (hsh : ∀ x ∈ l, shortL x) (hgd : goodP l) :
 Calls Tryz.prog 58 #[.slice A n c] w (RetCc w l) := by
 have al0 : Below w.heap.size w (w.alloc (.cells #[.int .i64 0, .int .i64 0, .slice none 0 0, .slice none 0 0] 38)) := bA
 have hz0 : BxC (w.alloc (.cells #[.int .i64 0, .int .i64 0, .slice none 0 0, .slice none 0 0] 38)) w.heap.size 0 0 none 0 0 none 0 0 := BxC.new _ _
 have fz0 : Fz (w.alloc (.cells #[.int .i64 0, .int .i64 0, .slice none 0 0, .slice none 0 0] 38)) w.heap.size := Fz.new w #[.int .i64 0, .int .i64 0, .slice none 0 0, .slice none 0 0] 38
 have hs0 : (w.alloc (.cells #[.int .i64 0, .int .i64 0, .slice none 0 0, .slice none 0 0] 38)).heap.size = w.heap.size + 1 := by simp
 go_enter Tryz.func58, Tryz.ntmps58
 go_wp2_with fail
 refine (coMake_any A n c l _ (ha.below al0 lR) hcap hsh hgd).mono ?_
 rintro e w1 hT
 obtain ⟨B, Ag, cg, Oa, oc, Ea, ec, Wa, wc, bl, rfl, hBx, hBlt, hBlo, hC, hE, hW, hb1⟩ := RetCs.cc_ hT
 have hz1 := hz0.below hb1
 have fz1 := fz0.below hb1 (by rw [hs0]; omega)
 have hBt := al0.trans (hb1.mono al0.size)
 obtain ⟨k0, k1, k2, k3⟩ := hBx
 have hq := hz1; obtain ⟨r0, r1, r2, r3⟩ := hq
 have g0 := fz1 0; have g1 := fz1 1; have g2 := fz1 2; have g3 := fz1 3
 have hsz := hb1.size
 rw [hs0] at hsz hC hBlo
 have hC2 := fun (x y : Int) (Ag : Option Addr) (ng cg : Nat) (Ao : Option Addr) (no co : Nat) => OwnC.lo_ (lo' := w.heap.size) ((hC.set4 (b := w.heap.size) (.inl (by omega)) x y Ag ng cg Ao no co).now) (by omega)
 have hfd := fld0 B l.length wc ec Wa Ea
 clear hE hW fz1 fz0 hC hT
 go_wp2
 have hq9 := BxC.set4 (hz1) (sumI (insL l 0)) (sumI (insL l 1)) Ag (cc l).g.length cg Oa (cc l).os.length oc
 obtain ⟨q0, q1, q2, q3⟩ := hq9
 refine bodyPost_ret (v := .agg #[.int .i64 (sumI (insL l 0)), .int .i64 (sumI (insL l 1)), .slice Ag (cc l).g.length cg, .slice Oa (cc l).os.length oc]) (by simp [results, Tryz.results58, go_sem, q0, q1, q2, q3]) rfl ?_
 exact ⟨Ag, cg, Oa, oc, rfl, hC2 _ _ _ _ _ _ _ _, Zep hBt lR _ _ _ _ _ _ _ _⟩
set_option maxRecDepth 100000 in
set_option maxHeartbeats 4000000 in
theorem Zet (A : Option Addr) (n c : Nat) (l : List Ln) (w : World) (ha : RLn w A n l) (hn : n ≤ 2097152) (hcap : n ≤ c) (hsh : ∀ x ∈ l, shortL x) :
 Calls Tryz.prog 17 #[.slice A n c] w (RetC w (compF l)) := by
 have al0 : Below w.heap.size w (w.alloc (.cells #[.int .i64 0, .int .i64 0, .slice none 0 0, .slice none 0 0] 38)) := bA
 have hz0 : BxC (w.alloc (.cells #[.int .i64 0, .int .i64 0, .slice none 0 0, .slice none 0 0] 38)) w.heap.size 0 0 none 0 0 none 0 0 := BxC.new _ _
 have fz0 : Fz (w.alloc (.cells #[.int .i64 0, .int .i64 0, .slice none 0 0, .slice none 0 0] 38)) w.heap.size := Fz.new w #[.int .i64 0, .int .i64 0, .slice none 0 0, .slice none 0 0] 38
 have hs0 : (w.alloc (.cells #[.int .i64 0, .int .i64 0, .slice none 0 0, .slice none 0 0] 38)).heap.size = w.heap.size + 1 := by simp
 cases hg : coB l with
 | true =>
  have HR : Hid (compF l = some ⟨sumI (insL l 0), sumI (insL l 1), (cc l).g, (cc l).os⟩) := zH (if_pos hg)
  have H0 := zH hg
  have hgd := (Zce hg).1
  clear hg
  go_enter Tryz.func17, Tryz.ntmps17
  go_wp2_with fail
  refine (Zca A n c l _ (ha.below al0 lR) hn hcap hsh).mono ?_
  rintro e w1 ⟨rfl, hb1⟩
  rw [H0.out]
  have hB1 := al0.trans (hb1.mono al0.size)
  go_wp2_with fail
  refine (coCircuit_any A n c l _ (ha.below hB1 lR) hcap hsh hgd).mono ?_
  rintro e w2 ⟨Ag, cg, Oa, oc, rfl, hC, hb2⟩
  have hb12 := hb1.trans (hb2.mono hb1.size)
  have hz1 := hz0.below hb12
  have fz1 := fz0.below hb12 (by rw [hs0]; omega)
  have hBt := al0.trans (hb12.mono al0.size)
  have hq := hz1; obtain ⟨r0, r1, r2, r3⟩ := hq
  have g0 := fz1 0; have g1 := fz1 1; have g2 := fz1 2; have g3 := fz1 3
  have hsz := hb1.size
  rw [hs0] at hsz
  have hC2 := fun (x y : Int) (Ag : Option Addr) (ng cg : Nat) (Ao : Option Addr) (no co : Nat) => OwnC.lo_ (lo' := w.heap.size) ((hC.set4 (b := w.heap.size) (.inl (by omega)) x y Ag ng cg Ao no co).now) (by omega)
  clear fz1 fz0 hC
  go_wp2
  have hq9 := BxC.set4 (hz1) (sumI (insL l 0)) (sumI (insL l 1)) Ag (cc l).g.length cg Oa (cc l).os.length oc
  obtain ⟨q0, q1, q2, q3⟩ := hq9
  refine bodyPost_ret (v := .tuple #[.agg #[.int .i64 (sumI (insL l 0)), .int .i64 (sumI (insL l 1)), .slice Ag (cc l).g.length cg, .slice Oa (cc l).os.length oc], .bool true]) (by simp [results, Tryz.results17, go_sem, q0, q1, q2, q3]) rfl ?_
  exact RetC.some_ (Zep hBt lR _ _ _ _ _ _ _ _) HR.out rfl rfl rfl (hC2 _ _ _ _ _ _ _ _)
 | false =>
  have HR : Hid (compF l = none) := zH (if_neg (by rw [hg]; decide))
  have H0 := zH hg
  clear hg
  go_enter Tryz.func17, Tryz.ntmps17
  go_wp2_with fail
  refine (Zca A n c l _ (ha.below al0 lR) hn hcap hsh).mono ?_
  rintro e w1 ⟨rfl, hb1⟩
  rw [H0.out]
  have hz1 := hz0.below hb1
  have fz1 := fz0.below hb1 (by rw [hs0]; omega)
  have hBt := al0.trans (hb1.mono al0.size)
  have hq := hz1; obtain ⟨r0, r1, r2, r3⟩ := hq
  have g0 := fz1 0; have g1 := fz1 1; have g2 := fz1 2; have g3 := fz1 3
  clear fz1 fz0
  go_wp2
  have hq9 := BxC.set4 (hz1) 0 0 none 0 0 none 0 0
  obtain ⟨q0, q1, q2, q3⟩ := hq9
  refine bodyPost_ret (v := .tuple #[.agg #[.int .i64 0, .int .i64 0, .slice none 0 0, .slice none 0 0], .bool false]) (by simp [results, Tryz.results17, go_sem, q0, q1, q2, q3]) rfl ?_
  exact RetC.none_ (Zep hBt lR _ _ _ _ _ _ _ _) HR.out rfl
set_option maxRecDepth 100000 in
set_option maxHeartbeats 1600000 in
theorem spec_InputBits_any (A B : Option Addr) (n c m d : Nat) (l : List Ln) (p : Int) (vs : List Int) (w : World) (ha : RLn w A n l) (hn : n ≤ 2097152) (hcap : n ≤ c) (hsh : ∀ x ∈ l, shortL x) (hb : RI w B m vs) (hm : m ≤ 2097152) :
 Calls Tryz.prog 14 #[.slice A n c, .int .i64 p, .slice B m d] w (RetO w (ibF l p vs)) := by
 cases hg : coB l with
 | false =>
  have HR : Hid (ibF l p vs = none) := zH (if_neg (fun h => by rw [hg] at h; cases h.1))
  have H0 := zH hg
  clear hg
  go_enter Tryz.func14, Tryz.ntmps14
  go_wp2_with fail
  refine (Zca A n c l _ ha hn hcap hsh).mono ?_
  rintro e w1 ⟨rfl, hb1⟩
  rw [H0.out]
  go_wp2
  go_ret2
  exact RetO.none_ hb1 HR.out rfl
 | true =>
  have H0 := zH hg
  have hgd := (Zce hg).1
  have hw := Zbq hgd.2.1 p
  have hL := Zbb l p
  have hl := ha.len
  have hn30 := hgd.1
  clear hg
  cases hi : inB 0 1 p with
  | false =>
   have HR : Hid (ibF l p vs = none) := zH (if_neg (fun h => by rw [hi] at h; cases h.2.1))
   go_enter Tryz.func14, Tryz.ntmps14
   go_wp2_with fail
   refine (Zca A n c l _ ha hn hcap hsh).mono ?_
   rintro e w1 ⟨rfl, hb1⟩
   rw [H0.out]
   go_wp2_with fail
   refine (Zat p 0 1 false hi _).mono ?_
   rintro e w2 ⟨rfl, rfl⟩
   go_wp2
   go_ret2
   exact RetO.none_ hb1 HR.out rfl
  | true =>
   go_enter Tryz.func14, Tryz.ntmps14
   go_wp2_with fail
   refine (Zca A n c l _ ha hn hcap hsh).mono ?_
   rintro e w1 ⟨rfl, hb1⟩
   rw [H0.out]
   go_wp2_with fail
   refine (Zat p 0 1 true hi _).mono ?_
   rintro e w2 ⟨rfl, rfl⟩
   go_wp2_with fail
   refine (Zbe A n c p l _ (ha.below hb1 lR) hn).mono ?_
   rintro e w3 hT
   obtain ⟨A3, c3, rfl, p3, hb3⟩ := hT
   have hB3 := hb1.trans (hb3.mono hb1.size)
   cases hf : fitB (insL l p) vs with
   | false =>
    have HR : Hid (ibF l p vs = none) := zH (if_neg (fun h => by rw [hf] at h; cases h.2.2))
    have HF := zH hf
    clear hf
    go_wp2_with fail
    refine (laFit_any A3 B (insL l p).length c3 m d (insL l p) vs _ p3.reads (hb.below hB3 lR) (by omega) hm (fun z hz => hw z hz)).mono ?_
    rintro e w4 ⟨rfl, rfl⟩
    rw [HF.out]
    go_wp2
    go_ret2
    exact RetO.none_ hB3 HR.out rfl
   | true =>
    have HR : Hid (ibF l p vs = some (bitsK (insL l p) vs (insL l p).length)) := zH (if_pos ⟨H0.out, hi, hf⟩)
    have HF := zH hf
    obtain ⟨hl1, hl2⟩ := fit_1023 hf hw
    clear hf
    obtain rfl : m = (insL l p).length := by rw [hl1, hb.len]
    clear hl1
    go_wp2_with fail
    refine (laFit_any A3 B (insL l p).length c3 (insL l p).length d (insL l p) vs _ p3.reads (hb.below hB3 lR) (by omega) hm (fun z hz => hw z hz)).mono ?_
    rintro e w4 ⟨rfl, rfl⟩
    rw [HF.out]
    go_wp2_with fail
    refine (Zbe A n c p l _ (ha.below hB3 lR) hn).mono ?_
    rintro e w5 hT
    obtain ⟨A5, c5, rfl, p5, hb5⟩ := hT
    have hB5 := hB3.trans (hb5.mono hB3.size)
    go_wp2_with fail
    refine (coBits_any A5 B (insL l p).length c5 (insL l p).length d (insL l p) vs _ p5.reads (hb.below hB5 lR) (by omega) hw hl2).mono ?_
    rintro e w6 hT
    obtain ⟨A6, c6, rfl, p6, hb6⟩ := hT
    go_wp2
    go_ret2
    exact RetO.some_ (hB5.trans (hb6.mono hB5.size)) HR.out rfl rfl (p6.lo_ hB5.size)
set_option maxRecDepth 100000 in
set_option maxHeartbeats 1600000 in
theorem spec_ResultNumbers_any (A B : Option Addr) (n c m d : Nat) (l : List Ln) (bits : List Int) (w : World) (ha : RLn w A n l) (hn : n ≤ 2097152) (hcap : n ≤ c) (hsh : ∀ x ∈ l, shortL x) (hb : RI w B m bits) (hm : m ≤ 2097152) (hmd : m ≤ d) :
 Calls Tryz.prog 11 #[.slice A n c, .slice B m d] w (RetO w (rnF l bits)) := by
 have hml := hb.len
 cases hg : coB l with
 | false =>
  have HR : Hid (rnF l bits = none) := zH (if_neg (fun h => by rw [hg] at h; cases h.1))
  have H0 := zH hg
  clear hg
  go_enter Tryz.func11, Tryz.ntmps11
  go_wp2_with fail
  refine (Zca A n c l _ ha hn hcap hsh).mono ?_
  rintro e w1 ⟨rfl, hb1⟩
  rw [H0.out]
  go_wp2
  go_ret2
  exact RetO.none_ hb1 HR.out rfl
 | true =>
  have H0 := zH hg
  have hgd := (Zce hg).1
  have hw := Zdg hgd.2.1
  have hL := outs10 hgd
  obtain ⟨k, hk⟩ := lT ((outsL l).length)
  rw [hk.out] at hL
  have hof := zH (Zcn hw)
  rw [hk.out] at hof
  have hmx : sumI (outsL l) ≤ 100 := by
   have h1 := (Zcu (M := 10) (fun z hz => by have := hw z hz; omega) (outsL l).length lR).2
   rw [List.take_of_length_le lR, hk.out] at h1
   omega
  clear hg
  go_enter Tryz.func11, Tryz.ntmps11
  go_wp2_with fail
  refine (Zca A n c l _ ha hn hcap hsh).mono ?_
  rintro e w1 ⟨rfl, hb1⟩
  rw [H0.out]
  go_wp2_with fail
  refine (Zek A n c l _ (ha.below hb1 lR) hn hcap hsh).mono ?_
  rintro e w3 hT
  obtain ⟨A3, c3, rfl, p3, hb3⟩ := RetI.open_ hT hk.out
  have hB3 := hb1.trans (hb3.mono hb1.size)
  by_cases he : (m : Int) = sumI (outsL l)
  ·have heh := zH he
   have hm100 : m ≤ 100 := by omega
   have hofm : offs (outsL l) k = m := by have := hof.out; omega
   clear he
   go_wp2_with fail
   refine (Zdc A3 k c3 (outsL l) _ p3.reads (by omega) (fun z hz => by have := hw z hz; omega)).mono ?_
   rintro e w5 ⟨rfl, rfl⟩
   rw [← heh.out]
   cases hf : allB 0 1 bits with
   | false =>
    have HR : Hid (rnF l bits = none) := zH (if_neg (fun h => by rw [hf] at h; cases h.2.1))
    have HF := zH hf
    clear hf
    go_wp2_with fail
    refine (l1All_any B m d 0 1 bits _ (hb.below hB3 lR) hm).mono ?_
    rintro e w6 ⟨rfl, rfl⟩
    rw [HF.out]
    go_wp2
    go_ret2
    exact RetO.none_ hB3 HR.out rfl
   | true =>
    have HR : Hid (rnF l bits = some (numK (outsL l) bits k)) := zH (by rw [← hk.out]; exact if_pos ⟨H0.out, hf, by rw [hml]; exact heh.out⟩)
    have HF := zH hf
    clear hf
    go_wp2_with fail
    refine (l1All_any B m d 0 1 bits _ (hb.below hB3 lR) hm).mono ?_
    rintro e w6 ⟨rfl, rfl⟩
    rw [HF.out]
    go_wp2_with fail
    refine (Zek A n c l _ (ha.below hB3 lR) hn hcap hsh).mono ?_
    rintro e w7 hT7
    obtain ⟨A7, c7, rfl, p7, hb7⟩ := RetI.open_ hT7 hk.out
    have hB7 := hB3.trans (hb7.mono hB3.size)
    go_wp2_with fail
    refine (coNumbers_any A7 B k c7 m d (outsL l) bits _ p7.reads (hb.below hB7 lR) (by omega) (by omega) hmd hw HF.out hofm).mono ?_
    rintro e w8 hT8
    obtain ⟨A8, c8, rfl, p8, hb8⟩ := RetI.open_ (n := k) hT8 (Zcd _ _ _)
    go_wp2
    go_ret2
    exact RetO.some_ (hB7.trans (hb8.mono hB7.size)) HR.out (Zcd _ _ _) rfl (p8.lo_ hB7.size)
  ·have HR : Hid (rnF l bits = none) := zH (if_neg (fun h => he (by rw [← hml]; exact h.2.2)))
   obtain ⟨S, hS⟩ := lT (sumI (outsL l))
   rw [hS.out] at he
   go_wp2_with fail
   refine (Zdc A3 k c3 (outsL l) _ p3.reads (by omega) (fun z hz => by have := hw z hz; omega)).mono ?_
   rintro e w5 ⟨rfl, rfl⟩
   rw [hS.out]
   go_wp2
   go_ret2
   exact RetO.none_ hB3 HR.out rfl
set_option maxRecDepth 100000 in
set_option maxHeartbeats 1600000 in
theorem laAsked_any (A B C : Option Addr) (n c m d r q : Nat) (l : List Ln) (xs ys : List Int) (w : World) (ha : RLn w A n l) (hn : n ≤ 2097152) (hcap : n ≤ c) (hsh : ∀ x ∈ l, shortL x) (hb : RI w B m xs) (hm : m ≤ 2097152) (hc : RI w C r ys) (hr : r ≤ 2097152) (hgd : goodP l) :
 Calls Tryz.prog 51 #[.slice A n c, .slice B m d, .slice C r q] w fun e w' => e = .returned (.bool (fitB (insL l 0) xs && fitB (insL l 1) ys)) ∧ Below w.heap.size w w' := by
 have HG : Hid (decide (goodP l) = true) := zH (decide_eq_true hgd)
 have hw0 := Zbq hgd.2.1 0
 have hw1 := Zbq hgd.2.1 1
 have hL0 := Zbb l 0
 have hL1 := Zbb l 1
 have hn30 := hgd.1
 clear hgd
 go_enter Tryz.func51, Tryz.ntmps51
 go_wp2_with fail
 refine (Zdd A n c l _ ha hn hcap hsh).mono ?_
 rintro e w1 ⟨rfl, hb1⟩
 rw [HG.out]
 go_wp2_with fail
 refine (Zbe A n c 0 l _ (ha.below hb1 lR) hn).mono ?_
 rintro e w2 hT
 obtain ⟨A2, c2, rfl, p2, hb2⟩ := hT
 have hB2 := hb1.trans (hb2.mono hb1.size)
 cases h0 : fitB (insL l 0) xs with
 | false =>
  have H0 := zH h0
  clear h0
  go_wp2_with fail
  refine (laFit_any A2 B (insL l 0).length c2 m d (insL l 0) xs _ p2.reads (hb.below hB2 lR) (by omega) hm (fun z hz => hw0 z hz)).mono ?_
  rintro e w4 ⟨rfl, rfl⟩
  rw [H0.out]
  go_wp2
  go_ret
  exact ⟨by rw [H0.out, Bool.false_and]; rfl, hB2⟩
 | true =>
  have H0 := zH h0
  clear h0
  go_wp2_with fail
  refine (laFit_any A2 B (insL l 0).length c2 m d (insL l 0) xs _ p2.reads (hb.below hB2 lR) (by omega) hm (fun z hz => hw0 z hz)).mono ?_
  rintro e w4 ⟨rfl, rfl⟩
  rw [H0.out]
  go_wp2_with fail
  refine (Zbe A n c 1 l _ (ha.below hB2 lR) hn).mono ?_
  rintro e w5 hT
  obtain ⟨A5, c5, rfl, p5, hb5⟩ := hT
  have hB5 := hB2.trans (hb5.mono hB2.size)
  go_wp2_with fail
  refine (laFit_any A5 C (insL l 1).length c5 r q (insL l 1) ys _ p5.reads (hc.below hB5 lR) (by omega) hr (fun z hz => hw1 z hz)).mono ?_
  rintro e w6 ⟨rfl, rfl⟩
  go_wp2
  go_ret
  exact ⟨by rw [H0.out, Bool.true_and]; rfl, hB5⟩
set_option maxRecDepth 100000 in
set_option maxHeartbeats 3200000 in
theorem spec_RunCompiled_any (A B C : Option Addr) (n c m d r q : Nat) (l : List Ln) (xs ys : List Int) (w : World) (ha : RLn w A n l) (hn : n ≤ 2097152) (hcap : n ≤ c) (hsh : ∀ x ∈ l, shortL x) (hb : RI w B m xs) (hm : m ≤ 2097152) (hc : RI w C r ys) (hr : r ≤ 2097152) :
 Calls Tryz.prog 8 #[.slice A n c, .slice B m d, .slice C r q] w (RetO w (rcF l xs ys)) := by
 cases hg : coB l with
 | false =>
  have HR : Hid (rcF l xs ys = none) := zH (if_neg (fun h => by rw [hg] at h; cases h.1))
  have H0 := zH hg
  clear hg
  go_enter Tryz.func8, Tryz.ntmps8
  go_wp2_with fail
  refine (Zca A n c l _ ha hn hcap hsh).mono ?_
  rintro e w1 ⟨rfl, hb1⟩
  rw [H0.out]
  go_wp2
  go_ret2
  exact RetO.none_ hb1 HR.out rfl
 | true =>
  have H0 := zH hg
  have hD := zH (coB_data hg)
  have hgd := (Zce hg).1
  have hl := ha.len
  subst hl
  clear hg
  cases hf : (fitB (insL l 0) xs && fitB (insL l 1) ys) with
  | false =>
   have HR : Hid (rcF l xs ys = none) := zH (if_neg (fun h => by rw [h.2.1, h.2.2] at hf; cases hf))
   have HF := zH hf
   clear hf
   go_enter Tryz.func8, Tryz.ntmps8
   go_wp2_with fail
   refine (Zca A l.length c l _ ha hn hcap hsh).mono ?_
   rintro e w1 ⟨rfl, hb1⟩
   rw [H0.out]
   go_wp2_with fail
   refine (laAsked_any A B C l.length c m d r q l xs ys _ (ha.below hb1 lR) hn hcap hsh (hb.below hb1 lR) hm (hc.below hb1 lR) hr hgd).mono ?_
   rintro e w2 ⟨rfl, hb2⟩
   rw [HF.out]
   go_wp2
   go_ret2
   exact RetO.none_ (hb1.trans (hb2.mono hb1.size)) HR.out rfl
  | true =>
   have HF := zH hf
   rw [Bool.and_eq_true] at hf
   have hw0 := Zbq hgd.2.1 0
   have hw1 := Zbq hgd.2.1 1
   have hw2 := Zdg hgd.2.1
   have hL0 := Zbb l 0
   have hL1 := Zbb l 1
   have hL2 := outs10 hgd
   have hn30 := hgd.1
   obtain ⟨e0, f0⟩ := fit_1023 hf.1 hw0
   obtain ⟨e1, f1⟩ := fit_1023 hf.2 hw1
   obtain rfl : m = (insL l 0).length := by rw [e0, hb.len]
   obtain rfl : r = (insL l 1).length := by rw [e1, hc.len]
   have HR : Hid (rcF l xs ys = some (numK (outsL l) (runB l (bitsK (insL l 0) xs (insL l 0).length ++ bitsK (insL l 1) ys (insL l 1).length)) (outsL l).length)) := zH (if_pos ⟨H0.out, hf.1, hf.2⟩)
   have hD' := hD.out
   have hx0 := hD'.x
   have hy0 := hD'.y
   have s0 := Zcn hw0
   have s1 := Zcn hw1
   obtain ⟨X, hX⟩ := lT (offs (insL l 0) (insL l 0).length)
   obtain ⟨Y, hY⟩ := lT (offs (insL l 1) (insL l 1).length)
   have b0 := Zbs hw0 xs (insL l 0).length lR
   have b1 := Zbs hw1 ys (insL l 1).length lR
   rw [hX.out] at s0 b0
   rw [hY.out] at s1 b1
   have hgat := hD'.gat (X + Y) (by omega)
   have hout := hD'.out (X + Y) (by omega)
   have hofs := hD'.offs
   have hng := hD'.ng
   have hno := hD'.no
   have hbits : allB 0 1 (bitsK (insL l 0) xs (insL l 0).length ++ bitsK (insL l 1) ys (insL l 1).length) = true := allB_iff.2 fun z hz => (List.mem_append.1 hz).elim (fun h => allB_iff.1 (Zcx _ _ _) z h) (fun h => allB_iff.1 (Zcx _ _ _) z h)
   have hrun := runB_bd hD' hbits (by rw [List.length_append, b0, b1]; omega)
   have hrl := runB_len l (bitsK (insL l 0) xs (insL l 0).length ++ bitsK (insL l 1) ys (insL l 1).length)
   have hrb : Hid (pick (vals (cc l).g (bitsK (insL l 0) xs (insL l 0).length ++ bitsK (insL l 1) ys (insL l 1).length) (cc l).g.length) (cc l).os = runB l (bitsK (insL l 0) xs (insL l 0).length ++ bitsK (insL l 1) ys (insL l 1).length)) := zH rfl
   obtain ⟨b0s, h0s⟩ := lT (bitsK (insL l 0) xs (insL l 0).length)
   obtain ⟨b1s, h1s⟩ := lT (bitsK (insL l 1) ys (insL l 1).length)
   rw [h0s.out, h1s.out] at hbits hrun hrl hrb HR
   rw [h0s.out] at b0
   rw [h1s.out] at b1
   clear hD' hD hX hY hf e0 e1
   go_enter Tryz.func8, Tryz.ntmps8
   go_wp2_with fail
   refine (Zca A l.length c l _ ha hn hcap hsh).mono ?_
   rintro e w1 ⟨rfl, hb1⟩
   rw [H0.out]
   go_wp2_with fail
   refine (laAsked_any A B C l.length c (insL l 0).length d (insL l 1).length q l xs ys _ (ha.below hb1 lR) hn hcap hsh (hb.below hb1 lR) hm (hc.below hb1 lR) hr hgd).mono ?_
   rintro e w2 ⟨rfl, hb2⟩
   rw [HF.out]
   have hB2 := hb1.trans (hb2.mono hb1.size)
   go_wp2_with fail
   refine (Zbe A l.length c 0 l _ (ha.below hB2 lR) hn).mono ?_
   rintro e w3 hT
   obtain ⟨A3, c3, rfl, p3, hb3⟩ := hT
   have hB3 := hB2.trans (hb3.mono hB2.size)
   go_wp2_with fail
   refine (coBits_any A3 B (insL l 0).length c3 (insL l 0).length d (insL l 0) xs _ p3.reads (hb.below hB3 lR) (by omega) hw0 f0).mono ?_
   rintro e w4 hT
   rw [h0s.out] at hT
   obtain ⟨A4, c4, rfl, p4, hb4⟩ := RetI.open_ hT b0
   have hB4 := hB3.trans (hb4.mono hB3.size)
   go_wp2_with fail
   refine (Zbe A l.length c 1 l _ (ha.below hB4 lR) hn).mono ?_
   rintro e w5 hT5
   obtain ⟨A5, c5, rfl, p5, hb5⟩ := hT5
   have hB5 := hB4.trans (hb5.mono hB4.size)
   go_wp2_with fail
   refine (coBits_any A5 C (insL l 1).length c5 (insL l 1).length q (insL l 1) ys _ p5.reads (hc.below hB5 lR) (by omega) hw1 f1).mono ?_
   rintro e w6 hT6
   rw [h1s.out] at hT6
   obtain ⟨A6, c6, rfl, p6, hb6⟩ := RetI.open_ hT6 b1
   have hB6 := hB5.trans (hb6.mono hB5.size)
   go_wp2_with fail
   refine (ciJoin_any A4 A6 X c4 Y c6 b0s b1s _ ((p4.reads.below hb5 lR).below hb6 lR) p6.reads (by omega) (by omega)).mono ?_
   rintro e w8 ⟨A8, c8, rfl, p8, hb8⟩
   have hB8 := hB6.trans (hb8.mono hB6.size)
   go_wp2_with fail
   refine (Zek A l.length c l _ (ha.below hB8 lR) hn hcap hsh).mono ?_
   rintro e w9 hT9
   obtain ⟨A9, c9, rfl, p9, hb9⟩ := hT9
   have hB9 := hB8.trans (hb9.mono hB8.size)
   go_wp2_with fail
   refine (coCircuit_any A l.length c l _ (ha.below hB9 lR) hcap hsh hgd).mono ?_
   rintro e w10 ⟨Ag, cg, Oa, oc, rfl, hC, hb10⟩
   have hB10 := hB9.trans (hb10.mono hB9.size)
   go_wp2_with fail
   refine (ciOuts_any (sumI (insL l 0)) (sumI (insL l 1)) Ag (cc l).g.length cg Oa (cc l).os.length oc A8 (X + Y) c8 (cc l).g (cc l).os (b0s ++ b1s) _ hC.reads ((p8.reads.below hb9 lR).below hb10 lR) hbits hgat hout hng hno (by omega)).mono ?_
   rintro e w11 hT11
   rw [hrb.out] at hT11
   obtain ⟨A11, c11, rfl, p11, hb11⟩ := RetI.open_ hT11 hrl
   have hB11 := hB10.trans (hb11.mono hB10.size)
   have hcap11 := p11.cap
   go_wp2_with fail
   refine (coNumbers_any A9 A11 (outsL l).length c9 (cc l).os.length c11 (outsL l) _ _ ((p9.reads.below hb10 lR).below hb11 lR) p11.reads (by omega) (by omega) hcap11 hw2 hrun hofs).mono ?_
   rintro e w12 hT12
   obtain ⟨A12, c12, rfl, p12, hb12⟩ := RetI.open_ hT12 (Zcd _ _ _)
   go_wp2
   go_ret2
   exact RetO.some_ (hB11.trans (hb12.mono hB11.size)) HR.out (Zcd _ _ _) rfl (p12.lo_ hB11.size)
set_option maxHeartbeats 400000 in
theorem qInts_any (A B : Option Addr) (n c m d : Nat) (xs ys : List Int) (w : World) (ha : RI w A n xs) (hb : RI w B m ys) (hn : n ≤ 2097152) (hm : m ≤ 2097152) :
 Calls Tryz.prog 15 #[.slice A n c, .slice B m d] w fun e w' => e = .returned (.bool (sameB xs ys)) ∧ ∃ j, w' = w.drewN j := by
 have hl := ha.len
 have hm' := hb.len
 by_cases h0 : n = m
 ·subst h0
  have hne : ((n : Int) != n) = false := by simp
  go_enter Tryz.func15, Tryz.ntmps15
  go_wp2
  go_loopw [13] (fun i wr => ∃ k j : Nat, k ≤ n ∧ i = .int .i64 k ∧ wr = w.drewN j ∧ Hid (∀ q, q < k → gi xs q = gi ys q)) (fun i _ => n - (intOf i).toNat)
  case atStart => exact ⟨0, 0, Nat.zero_le _, rfl, rfl, zH fun q hq => absurd hq (by omega)⟩
  case round =>
   obtain ⟨k, j, hk, rfl, rfl, hq⟩ := hrel
   by_cases hlt : k < n
   ·obtain ⟨b, o, rfl, hbB, e1⟩ := ha.at_ hlt
    obtain ⟨b', o', rfl, hbB', e2⟩ := hb.at_ hlt
    by_cases h1 : gi xs k = gi ys k
    ·have H1 := zH h1
     rw [← h1] at e2
     clear h1
     have hnx : (gi xs k != gi xs k) = false := by simp
     generalize hX : gi xs k = X at *
     clear ha hb
     go_wp2_with fail
     go_quiet (fail)
     go_wp2
     go_roundw
     case rel => exact ⟨k + 1, _, by omega, by go_num, by first | rfl | exact World.drewN_drewN _ _ _, zH fun q hq' => by
      rcases Nat.lt_or_ge q k with h | h
      ·exact hq.out q h
      ·obtain rfl : q = k := by omega
       exact hX.trans H1.out⟩
     case measure => simp [intOf]; omega
    ·have H1 := zH h1
     have hnx : (gi xs k != gi ys k) = true := by simpa using h1
     clear h1
     have HR : Hid (sameB xs ys = false) := zH (sameB_at H1.out)
     generalize gi xs k = X at *
     generalize gi ys k = Y at *
     clear ha hb
     go_wp2_with fail
     go_quiet (fail)
     go_wp2
     go_ret
     exact ⟨by rw [HR.out]; rfl, _, by first | rfl | exact World.drewN_drewN _ _ _⟩
   ·obtain rfl : k = n := by omega
    have HR : Hid (sameB xs ys = true) := zH (sameB_all (by omega) fun q hq' => hq.out q (by omega))
    go_wp2
    go_ret
    exact ⟨by rw [HR.out]; rfl, _, rfl⟩
 ·have h1 : ((n : Int) != m) = true := by simp; omega
  have HR : Hid (sameB xs ys = false) := zH (sameB_len (by omega))
  go_enter Tryz.func15, Tryz.ntmps15
  go_wp2
  go_ret
  exact ⟨by rw [HR.out]; rfl, 0, rfl⟩
attribute [local go_sem] sepAt sepUpon pureAt pureUpon
set_option maxHeartbeats 1000000 in
theorem qGates_any (Ag Bg : Option Addr) (ng cg dg : Nat) (gs : List G3) (w : World) (hr : RG w Ag ng gs) (hs : RG w Bg ng gs) (hng : ng ≤ 2097152) :
 Calls Tryz.prog 72 #[.slice Ag ng cg, .slice Bg ng dg] w fun e w' => e = .returned (.bool true) ∧ ∃ j, w' = w.drewN j := by
 have n3 : ((ng : Int) != ng) = false := by simp
 go_enter Tryz.func72, Tryz.ntmps72
 go_wp2
 go_loopw [13] (fun i wr => ∃ k j : Nat, k ≤ ng ∧ i = .int .i64 k ∧ wr = w.drewN j) (fun i _ => ng - (intOf i).toNat)
 case atStart => exact ⟨0, 0, Nat.zero_le _, rfl, rfl⟩
 case round =>
  obtain ⟨k, j, hk, rfl, rfl⟩ := hrel
  by_cases hlt : k < ng
  ·obtain ⟨kb, ob, rfl, hkb, d1, d2, d3⟩ := hr.at_ hlt
   obtain ⟨kc, oc, rfl, hkc, f1, f2, f3⟩ := hs.at_ hlt
   generalize gg gs k = GG at *
   go_wp2_with fail
   go_quiet (fail)
   go_wp2
   go_roundw
   case rel => exact ⟨k + 1, _, by omega, by go_num, by first | rfl | exact World.drewN_drewN _ _ _⟩
   case measure => simp [intOf]; omega
  ·obtain rfl : ng = k := Nat.le_antisymm (Nat.le_of_not_lt hlt) hk
   go_wp2
   go_ret
   exact ⟨rfl, _, rfl⟩
theorem sameB_refl2 (xs : List Int) : sameB xs xs = true := sameB_all rfl fun _ _ => rfl
set_option maxHeartbeats 1000000 in
theorem qCircuit_any (x y : Int) (Ag Bg : Option Addr) (ng cg dg : Nat) (Ao Bo : Option Addr) (no co do_ : Nat) (gs : List G3) (os : List Int) (w : World) (hr : RG w Ag ng gs ∧ RI w Ao no os) (hs : RG w Bg ng gs ∧ RI w Bo no os) (hng : ng ≤ 2097152) (hno : no ≤ 2097152) :
 Calls Tryz.prog 19 #[.agg #[.int .i64 x, .int .i64 y, .slice Ag ng cg, .slice Ao no co], .agg #[.int .i64 x, .int .i64 y, .slice Bg ng dg, .slice Bo no do_]] w fun e w' => e = .returned (.bool true) ∧ Below w.heap.size w w' := by
 have hB : Below w.heap.size w ((w.alloc (.cells #[.int .i64 x, .int .i64 y, .slice Ag ng cg, .slice Ao no co] 38)).alloc (.cells #[.int .i64 x, .int .i64 y, .slice Bg ng dg, .slice Bo no do_] 38)) := (bA).alloc (by simp) _
 have al1 : Below (w.alloc (.cells #[.int .i64 x, .int .i64 y, .slice Ag ng cg, .slice Ao no co] 38)).heap.size (w.alloc (.cells #[.int .i64 x, .int .i64 y, .slice Ag ng cg, .slice Ao no co] 38)) ((w.alloc (.cells #[.int .i64 x, .int .i64 y, .slice Ag ng cg, .slice Ao no co] 38)).alloc (.cells #[.int .i64 x, .int .i64 y, .slice Bg ng dg, .slice Bo no do_] 38)) := bA
 have p0 : BxC ((w.alloc (.cells #[.int .i64 x, .int .i64 y, .slice Ag ng cg, .slice Ao no co] 38)).alloc (.cells #[.int .i64 x, .int .i64 y, .slice Bg ng dg, .slice Bo no do_] 38)) w.heap.size x y Ag ng cg Ao no co := (BxC.new w _).below al1
 have p1 : BxC ((w.alloc (.cells #[.int .i64 x, .int .i64 y, .slice Ag ng cg, .slice Ao no co] 38)).alloc (.cells #[.int .i64 x, .int .i64 y, .slice Bg ng dg, .slice Bo no do_] 38)) (w.heap.size + 1) x y Bg ng dg Bo no do_ := by simpa using BxC.new (x := x) (y := y) (Ag := Bg) (ng := ng) (cg := dg) (Ao := Bo) (no := no) (co := do_) (w.alloc (.cells #[.int .i64 x, .int .i64 y, .slice Ag ng cg, .slice Ao no co] 38)) 38
 have n1 : (x == x) = true := by simp
 have n2 : (y == y) = true := by simp
 have hq := p0; obtain ⟨k0, k1, k2, k3⟩ := hq
 have hq := p1; obtain ⟨m0, m1, m2, m3⟩ := hq
 go_enter Tryz.func19, Tryz.ntmps19
 go_wp2_with fail
 refine (qGates_any Ag Bg ng cg dg gs _ (hr.1.below hB lR) (hs.1.below hB lR) hng).mono ?_
 rintro e a1 ⟨rfl, j, rfl⟩
 have hB1 := Zaa hB j
 have q0 : BxC (((w.alloc (.cells #[.int .i64 x, .int .i64 y, .slice Ag ng cg, .slice Ao no co] 38)).alloc (.cells #[.int .i64 x, .int .i64 y, .slice Bg ng dg, .slice Bo no do_] 38)).drewN j) w.heap.size x y Ag ng cg Ao no co := p0
 have q1 : BxC (((w.alloc (.cells #[.int .i64 x, .int .i64 y, .slice Ag ng cg, .slice Ao no co] 38)).alloc (.cells #[.int .i64 x, .int .i64 y, .slice Bg ng dg, .slice Bo no do_] 38)).drewN j) (w.heap.size + 1) x y Bg ng dg Bo no do_ := p1
 clear k0 k1 k2 k3 m0 m1 m2 m3 p0 p1 al1 hB
 generalize ((w.alloc (.cells #[.int .i64 x, .int .i64 y, .slice Ag ng cg, .slice Ao no co] 38)).alloc (.cells #[.int .i64 x, .int .i64 y, .slice Bg ng dg, .slice Bo no do_] 38)).drewN j = a1 at *
 have hq := q0; obtain ⟨k0, k1, k2, k3⟩ := hq
 have hq := q1; obtain ⟨m0, m1, m2, m3⟩ := hq
 go_wp2_with fail
 refine (qInts_any Ao Bo no co no do_ os os _ (hr.2.below hB1 lR) (hs.2.below hB1 lR) hno hno).mono ?_
 rintro e a2 ⟨rfl, j2, rfl⟩
 rw [sameB_refl2]
 go_wp2
 go_ret
 exact ⟨by simp, Zaa hB1 j2⟩
set_option maxHeartbeats 1000000 in
theorem areInputs_ok (x y : Int) (Ag : Option Addr) (ng cg : Nat) (Ao : Option Addr) (no co : Nat) (A B : Option Addr) (n c m d : Nat) (gs : List G3) (os us ws : List Int) (w : World) (hr : RG w Ag ng gs ∧ RI w Ao no os) (hng : ng ≤ 2097152) (hno : no ≤ 2097152) (hc : circB x y gs os = true) (ha : RI w A n us) (hb : RI w B m ws) (hn : (n : Int) = x) (hm : (m : Int) = y) (h1 : allB 0 1 us = true) (h2 : allB 0 1 ws = true) :
 Calls Tryz.prog 117 #[.agg #[.int .i64 x, .int .i64 y, .slice Ag ng cg, .slice Ao no co], .slice A n c, .slice B m d] w fun e w' => e = .returned (.bool true) ∧ Below w.heap.size w w' := by
 have hB : Below w.heap.size w (w.alloc (.cells #[.int .i64 x, .int .i64 y, .slice Ag ng cg, .slice Ao no co] 38)) := bA
 have hx0 : BxC (w.alloc (.cells #[.int .i64 x, .int .i64 y, .slice Ag ng cg, .slice Ao no co] 38)) w.heap.size x y Ag ng cg Ao no co := BxC.new w _
 obtain ⟨hx, hy, _, _, _, _⟩ := circB_bd hc
 have nb : n ≤ 20 := by omega
 have mb : m ≤ 20 := by omega
 have t1 : Hid (bitsB n 64 us = true) := zH (by unfold bitsB; rw [h1, decide_eq_true (show n ≤ 64 by omega)]; rfl)
 have t2 : Hid (bitsB m 64 ws = true) := zH (by unfold bitsB; rw [h2, decide_eq_true (show m ≤ 64 by omega)]; rfl)
 subst hn; subst hm
 have n1 : ((n : Int) == n) = true := by simp
 have n2 : ((m : Int) == m) = true := by simp
 have H0 := zH hc; clear hc
 have hq := hx0; obtain ⟨k0, k1, k2, k3⟩ := hq
 go_enter Tryz.func117, Tryz.ntmps117
 go_wp2_with fail
 refine (Zfe _ _ Ag ng cg Ao no co gs os _ (hr.1.below hB lR) (hr.2.below hB lR) hng hno).mono ?_
 rintro e v1 ⟨rfl, b1⟩
 rw [H0.out]
 have B1 := hB.trans (b1.mono hB.size)
 go_wp2_with fail
 refine (AreBits_any A n c us _ (ha.below B1 lR) (by omega)).mono ?_
 rintro e v2 ⟨rfl, b2⟩
 rw [t1.out]
 have B2 := B1.trans (b2.mono B1.size)
 go_wp2_with fail
 refine (AreBits_any B m d ws _ (hb.below B2 lR) (by omega)).mono ?_
 rintro e v3 ⟨rfl, b3⟩
 rw [t2.out]
 have B3 := B2.trans (b3.mono B2.size)
 have x3 := ((hx0.below b1).below b2).below b3
 clear k0 k1 k2 k3
 have hq := x3; obtain ⟨k0, k1, k2, k3⟩ := hq
 go_wp2
 go_ret
 exact ⟨by simp, B3⟩
set_option maxRecDepth 100000 in
set_option maxHeartbeats 2000000 in
theorem WireValues_ok (x y : Int) (Ag : Option Addr) (ng cg : Nat) (Ao : Option Addr) (no co : Nat) (A B : Option Addr) (n c m d : Nat) (gs : List G3) (os us ws : List Int) (w : World) (hr : RG w Ag ng gs ∧ RI w Ao no os) (hng : ng ≤ 2097152) (hno : no ≤ 2097152) (hc : circB x y gs os = true) (ha : RI w A n us) (hb : RI w B m ws) (hn : (n : Int) = x) (hm : (m : Int) = y) (h1 : allB 0 1 us = true) (h2 : allB 0 1 ws = true) :
 Calls Tryz.prog 73 #[.agg #[.int .i64 x, .int .i64 y, .slice Ag ng cg, .slice Ao no co], .slice A n c, .slice B m d] w (RetO w (some (vals gs (us ++ ws) ng))) := by
 have hB : Below w.heap.size w (w.alloc (.cells #[.int .i64 x, .int .i64 y, .slice Ag ng cg, .slice Ao no co] 38)) := bA
 have hx0 : BxC (w.alloc (.cells #[.int .i64 x, .int .i64 y, .slice Ag ng cg, .slice Ao no co] 38)) w.heap.size x y Ag ng cg Ao no co := BxC.new w _
 have hs0 : (w.alloc (.cells #[.int .i64 x, .int .i64 y, .slice Ag ng cg, .slice Ao no co] 38)).heap.size = w.heap.size + 1 := by simp
 obtain ⟨hx, hy, hg3, _, hgat, _⟩ := circB_bd hc
 have hlg := hr.1.len
 have hla := ha.len
 have hlb := hb.len
 rw [hlg] at hg3 hgat
 have hgat' : gatesB ((n + m : Nat) : Int) gs ng = true := by rw [show ((n + m : Nat) : Int) = x + y by omega]; exact hgat
 have hab : allB 0 1 (us ++ ws) = true := allB_iff.2 fun z hz => (List.mem_append.1 hz).elim (allB_iff.1 h1 z) (allB_iff.1 h2 z)
 have hvl : Hid ((vals gs (us ++ ws) ng).length = n + m + ng) := zH (by rw [Zdf, List.length_append, hla, hlb])
 have hq := hx0; obtain ⟨k0, k1, k2, k3⟩ := hq
 go_enter Tryz.func73, Tryz.ntmps73
 go_wp2_with fail
 refine (areInputs_ok x y Ag ng cg Ao no co A B n c m d gs os us ws _ ⟨hr.1.below hB lR, hr.2.below hB lR⟩ hng hno hc (ha.below hB lR) (hb.below hB lR) hn hm h1 h2).mono ?_
 rintro e v1 ⟨rfl, b1⟩
 have B1 := hB.trans (b1.mono hB.size)
 have x1 := hx0.below b1
 have hz1 := b1.size
 rw [hs0] at hz1
 clear k0 k1 k2 k3 hx0 b1 hB
 have hq := x1; obtain ⟨k0, k1, k2, k3⟩ := hq
 go_wp2_with fail
 refine Zbk (7) [(⟨w.heap.size, 0, none⟩, .int .i64 x), (⟨w.heap.size, 1, none⟩, .int .i64 y), (⟨w.heap.size, 2, none⟩, .slice Ag ng cg), (⟨w.heap.size, 3, none⟩, .slice Ao no co)] [(3, [], []), (4, [3], [])] [4] [(3, Res.row v1.heap.size (n + m) (us ++ ws)), (4, Res.row v1.heap.size (n + m + ng) (vals gs (us ++ ws) ng))] (by kernel_rfl) (by kernel_rfl) (by kernel_rfl) (by simp only [cD, cC, and_true]; repeat (any_goals (apply And.intro)); all_goals (first | assumption | go_simp)) ?_
 simp only [List.take_succ_cons, List.take_zero, List.drop_succ_cons, List.drop_zero, List.take_nil, List.drop_nil, List.take, List.drop]
 repeat (first
  | ((first
   | ((with_reducible refine Zal ?_ ?_ ?_)
      ·exact rfl
      ·exact rfl)
   | ((with_reducible refine Zap ?_ ?_ ?_)
      ·exact rfl
      ·exact Zab rfl rfl rfl rfl))
     intro K hK
     apply Exists.intro
     refine ⟨fun w3 hw3 => ?_, ?_⟩
     ·have hcs := hw3
      simp only [cD, cC, and_true] at hcs
      clear hw3
      go_simp
      first | done | exact ⟨rfl, rfl⟩ | rfl
     refine hK _ ?_
     clear hK K
     try simp only [pA, pB, sA, sB, sC])
  | ((with_reducible refine Zao ?_ ?_ ?_)
     ·exact rfl
     ·exact Zai rfl rfl rfl rfl
     simp only [pA, pB, sA, sB, sC]))
 focus
  (with_reducible refine Zey v1.heap.size (n + m) (us ++ ws) ?_ ?_ ?_ ?_ ?_ (hw := ?_))
  ·exact rfl
  ·exact rfl
  ·omega
  ·intro w3 hw3 hc3 hp3
   have hcs := hc3
   simp only [cD, cC, and_true] at hcs
   (go_simp; have hb3 := B1.trans ((Zcm hw3).mono B1.size); refine (with_any A B n c m d us ws _ (ha.below hb3 lR) (hb.below hb3 lR) (by omega) (by omega)).mono ?_; rintro e w4 ⟨A4, c4, rfl, ho4, hb4⟩; exact retPost.mk_ (postRow.mk_ ho4 hb4))
  rotate_left
  ·first | exact Zam rfl | exact Zab rfl rfl rfl rfl
  intro A3 c3
  try simp only [pA, pB, sA, sB, sC]
 repeat (first
  | ((first
   | ((with_reducible refine Zal ?_ ?_ ?_)
      ·exact rfl
      ·exact rfl)
   | ((with_reducible refine Zap ?_ ?_ ?_)
      ·exact rfl
      ·exact Zab rfl rfl rfl rfl))
     intro K hK
     apply Exists.intro
     refine ⟨fun w3 hw3 => ?_, ?_⟩
     ·have hcs := hw3
      simp only [cD, cC, and_true] at hcs
      clear hw3
      go_simp
      first | done | exact ⟨rfl, rfl⟩ | rfl
     refine hK _ ?_
     clear hK K
     try simp only [pA, pB, sA, sB, sC])
  | ((with_reducible refine Zao ?_ ?_ ?_)
     ·exact rfl
     ·exact Zai rfl rfl rfl rfl
     simp only [pA, pB, sA, sB, sC]))
 focus
  (with_reducible refine Zey v1.heap.size (n + m + ng) (vals gs (us ++ ws) ng) ?_ ?_ ?_ ?_ ?_ (hw := ?_))
  ·exact rfl
  ·exact rfl
  ·omega
  ·intro w3 hw3 hc3 hp3
   have hcs := hc3
   simp only [cD, cC, and_true] at hcs
   (have h9 : Own w3 v1.heap.size w3.heap.size (.slice A3 (n + m) c3) (n + m) (us ++ ws) := hp3.1.1.1; go_simp; have hb3 := B1.trans ((Zcm hw3).mono B1.size); refine (Zed x y Ag ng cg Ao no co A3 (n + m) c3 gs (us ++ ws) _ (hr.1.below hb3 lR) h9.reads hab hgat' hg3 (by omega)).mono ?_; rintro e w4 hT; obtain ⟨A4, c4, rfl, ho4, hb4⟩ := hT.open_ hvl.out; exact retPost.mk_ (postRow.mk_ ho4 hb4))
  rotate_left
  ·first | exact Zam rfl | exact Zab rfl rfl rfl rfl
  intro A5 c5
  try simp only [pA, pB, sA, sB, sC]
 repeat (first
  | ((first
   | ((with_reducible refine Zal ?_ ?_ ?_)
      ·exact rfl
      ·exact rfl)
   | ((with_reducible refine Zap ?_ ?_ ?_)
      ·exact rfl
      ·exact Zab rfl rfl rfl rfl))
     intro K hK
     apply Exists.intro
     refine ⟨fun w3 hw3 => ?_, ?_⟩
     ·have hcs := hw3
      simp only [cD, cC, and_true] at hcs
      clear hw3
      go_simp
      first | done | exact ⟨rfl, rfl⟩ | rfl
     refine hK _ ?_
     clear hK K
     try simp only [pA, pB, sA, sB, sC])
  | ((with_reducible refine Zao ?_ ?_ ?_)
     ·exact rfl
     ·exact Zai rfl rfl rfl rfl
     simp only [pA, pB, sA, sB, sC]))
 refine Zbj ?_
 intro wy hwy hcy hfin hap
 have h4 : Own wy v1.heap.size wy.heap.size (.slice A5 (n + m + ng) c5) (n + m + ng) (vals gs (us ++ ws) ng) := hfin.1.1
 have By := B1.trans ((Zcm hwy).mono B1.size)
 go_wp2
 go_ret2
 exact RetO.some_ By rfl hvl.out rfl (h4.lo_ (by omega))
set_option maxHeartbeats 1000000 in
theorem EvalCircuit_ok (x y : Int) (Ag : Option Addr) (ng cg : Nat) (Ao : Option Addr) (no co : Nat) (A B : Option Addr) (n c m d : Nat) (gs : List G3) (os us ws : List Int) (w : World) (hr : RG w Ag ng gs ∧ RI w Ao no os) (hng : ng ≤ 2097152) (hno : no ≤ 2097152) (hc : circB x y gs os = true) (ha : RI w A n us) (hb : RI w B m ws) (hn : (n : Int) = x) (hm : (m : Int) = y) (h1 : allB 0 1 us = true) (h2 : allB 0 1 ws = true) :
 Calls Tryz.prog 20 #[.agg #[.int .i64 x, .int .i64 y, .slice Ag ng cg, .slice Ao no co], .slice A n c, .slice B m d] w (RetO w (some (pick (vals gs (us ++ ws) ng) os))) := by
 have hB : Below w.heap.size w (w.alloc (.cells #[.int .i64 x, .int .i64 y, .slice Ag ng cg, .slice Ao no co] 38)) := bA
 have hx0 : BxC (w.alloc (.cells #[.int .i64 x, .int .i64 y, .slice Ag ng cg, .slice Ao no co] 38)) w.heap.size x y Ag ng cg Ao no co := BxC.new w _
 obtain ⟨hx, hy, hg3, ho3, _, hao⟩ := circB_bd hc
 have hlg := hr.1.len
 have hlo := hr.2.len
 have hla := ha.len
 have hlb := hb.len
 rw [hlg] at hg3 hao
 have hvl : Hid ((vals gs (us ++ ws) ng).length = n + m + ng) := zH (by rw [Zdf, List.length_append, hla, hlb])
 have hpl : Hid ((pick (vals gs (us ++ ws) ng) os).length = no) := zH (by rw [pick_len]; exact hlo)
 have hao' : allB 0 (((n + m + ng : Nat) : Int) - 1) os = true := by rw [show ((n + m + ng : Nat) : Int) - 1 = x + y + ng - 1 by omega]; exact hao
 have hq := hx0; obtain ⟨k0, k1, k2, k3⟩ := hq
 go_enter Tryz.func20, Tryz.ntmps20
 go_wp2_with fail
 refine (WireValues_ok x y Ag ng cg Ao no co A B n c m d gs os us ws _ ⟨hr.1.below hB lR, hr.2.below hB lR⟩ hng hno hc (ha.below hB lR) (hb.below hB lR) hn hm h1 h2).mono ?_
 rintro e v1 hT
 obtain ⟨A1, c1, rfl, o1, b1⟩ := (show ∃ A c, e = .returned (.tuple #[.slice A (vals gs (us ++ ws) ng).length c, .bool true]) ∧ Own v1 _ v1.heap.size (.slice A (vals gs (us ++ ws) ng).length c) (vals gs (us ++ ws) ng).length (vals gs (us ++ ws) ng) ∧ Below _ _ v1 from hT)
 rw [hvl.out] at o1 ⊢
 have B1 := hB.trans (b1.mono hB.size)
 have x1 := hx0.below b1
 clear k0 k1 k2 k3 hx0 b1 hB hT
 have hq := x1; obtain ⟨k0, k1, k2, k3⟩ := hq
 go_wp2_with fail
 refine (at_any A1 Ao (n + m + ng) c1 no co (vals gs (us ++ ws) ng) os _ o1.reads (hr.2.below B1 lR) (by omega) (by omega) hao').mono ?_
 rintro e v2 hT
 obtain ⟨A2, c2, rfl, o2, b2⟩ := hT.open_ hpl.out
 go_wp2
 go_ret2
 exact RetO.some_ (B1.trans (b2.mono B1.size)) rfl hpl.out rfl (o2.lo_ B1.size)
end Go.Proofs.YtenknpcbbcbciaaGreat
