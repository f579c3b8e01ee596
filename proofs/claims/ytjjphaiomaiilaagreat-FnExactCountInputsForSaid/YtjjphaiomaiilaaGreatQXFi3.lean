/- The contracts of the program's InputBits, ResultNumbers, areValues. Texts below 2^21 bytes. -/
import Derived.Test.YtjjphaiomaiilaaGreatQA
import Derived.Test.YtjjphaiomaiilaaGreatQXNbs2
namespace Go.Proofs.YtjjphaiomaiilaaGreat
open Go.RowKit
set_option linter.unusedVariables false
set_option linter.unusedSimpArgs false
theorem RetO.open_none {w w' : World} {e : Ending} (h : RetO w none e w') : ∃ A c, e = .returned (.tuple #[.slice A 0 c, .bool false]) ∧ Below w.heap.size w w' := by
  obtain ⟨A, c, h1, _, h3⟩ := h
  exact ⟨A, c, h1, h3⟩
theorem fit_1023 {ws ns : List Int} (h : fitB ws ns = true) (hw : ∀ z ∈ ws, 1 ≤ z ∧ z ≤ 10) : ws.length = ns.length ∧ ∀ k, k < ws.length → 0 ≤ gi ns k ∧ gi ns k ≤ 1023 := by
  obtain ⟨h1, h2⟩ := fitB_at h
  refine ⟨h1, fun k hk => ⟨(h2 k hk).1, ?_⟩⟩
  have h3 := (h2 k hk).2
  have h4 := hw _ (gi_mem hk)
  have h5 : 2 ^ (gi ws k).toNat ≤ 2 ^ 10 := Nat.pow_le_pow_right (by decide) (by omega)
  have h6 : ((2 ^ (gi ws k).toNat : Nat) : Int) = (2 : Int) ^ (gi ws k).toNat := by rw [Int.natCast_pow]; rfl
  have h7 : ((2 ^ (gi ws k).toNat : Nat) : Int) ≤ ((2 ^ 10 : Nat) : Int) := Int.ofNat_le.2 h5
  rw [h6] at h7
  have h8 : ((2 ^ 10 : Nat) : Int) = 1024 := rfl
  omega
theorem compileValid_any (A : Option Addr) (n c : Nat) (l : List Ln) (w : World) (ha : RLn w A n l) (hn : n ≤ 2097152) (hcap : n ≤ c) (hsh : ∀ x ∈ l, shortL x) :
    Calls Tryz.prog 47 #[.slice A n c] w fun e w' => ∃ (x y : Int) (A1 : Option Addr) (n1 c1 : Nat) (A2 : Option Addr) (n2 c2 : Nat) (A3 : Option Addr) (n3 c3 : Nat) (A4 : Option Addr) (n4 c4 : Nat), e = .returned (.tuple #[.agg #[.int .i64 x, .int .i64 y, .slice A1 n1 c1, .slice A2 n2 c2, .slice A3 n3 c3, .slice A4 n4 c4], .bool (coB l)]) ∧ Below w.heap.size w w' := by
  cases hg : coB l with
  | false => exact (compileValid_no A n c l w ha hn hcap hsh hg).mono fun e w' ⟨h1, h2⟩ => ⟨_, _, _, _, _, _, _, _, _, _, _, _, _, _, h1, h2⟩
  | true =>
    refine (compileValid_ok A n c l w ha hn hcap hsh hg).mono fun e w' hT => ?_
    obtain ⟨Ag, cg, Oa, oc, Ea, ec, Wa, wc, bl, h1, _, _, _, h2⟩ := hT
    exact ⟨_, _, _, _, _, _, _, _, _, _, _, _, _, _, h1, h2⟩
def ibF (l : List Ln) (p : Int) (vs : List Int) : Option (List Int) := if coB l = true ∧ inB 0 1 p = true ∧ fitB (insL l p) vs = true then some (bitsK (insL l p) vs (insL l p).length) else none
theorem ibF_len (l : List Ln) (p : Int) (vs : List Int) : ((ibF l p vs).getD []).length ≤ 1000 := by
  unfold ibF
  split
  · rename_i h
    have hg := (coB_good h.1).1
    have hw := insL_bd hg.2.1 p
    have h1 := (sumI_le (M := 10) (fun z hz => by have := hw z hz; omega) (insL l p).length (Nat.le_refl _)).2
    have h2 := insL_len l p
    have h3 := hg.1
    simp only [Option.getD_some]
    rw [bitsK_len hw _ _ (Nat.le_refl _)]
    unfold offs
    omega
  · simp
set_option maxRecDepth 100000 in
set_option maxHeartbeats 1600000 in
theorem InputBits_any (A B : Option Addr) (n c m d : Nat) (l : List Ln) (p : Int) (vs : List Int) (w : World) (ha : RLn w A n l) (hn : n ≤ 2097152) (hcap : n ≤ c) (hsh : ∀ x ∈ l, shortL x) (hb : RI w B m vs) (hm : m ≤ 2097152) :
    Calls Tryz.prog 29 #[.slice A n c, .int .i64 p, .slice B m d] w (RetO w (ibF l p vs)) := by
  by_cases hi : inB 0 1 p = true ∧ goodP l
  · obtain ⟨hi, hgd⟩ := hi
    have ho : (if inB 0 1 p = true then byO (fun x => decide (x.kind = 1) && decide (x.party = p)) l else none) = some (insL l p) := by rw [if_pos hi, byO_in, if_pos hgd]
    have hw := insL_bd hgd.2.1 p
    have hL := insL_len l p
    have hn30 := hgd.1
    have hq := InputWidths_any A n c p l w ha hn hcap hsh
    rw [ho] at hq
    have hih := Lib.hid hi
    clear ho hi
    obtain ⟨k, hk⟩ : ∃ k, Hid ((insL l p).length = k) := ⟨_, Lib.hid rfl⟩
    rw [hk.out] at hL
    go_enter Tryz.func29, Tryz.ntmps29
    go_wp2_with fail
    refine (hq).mono ?_
    rintro e w1 hT
    obtain ⟨A1, c1, rfl, ho1, hb1⟩ := RetO.open_some hT hk.out
    clear hq hT
    go_wp2_with fail
    refine (compileValid_any A n c l _ (ha.below hb1 (Nat.le_refl _)) hn hcap hsh).mono ?_
    rintro e w2 ⟨x, y, Q1, n1, d1, Q2, n2, d2, Q3, n3, d3, Q4, n4, d4, rfl, hb2⟩
    have hB2 := hb1.trans (hb2.mono hb1.size)
    have hB3 := hB2.alloc hB2.size (.cells #[.int .i64 x, .int .i64 y, .slice Q1 n1 d1, .slice Q2 n2 d2, .slice Q3 n3 d3, .slice Q4 n4 d4] 71)
    have hr1 := (ho1.reads.below hb2 (Nat.le_refl _)).below ((Below.refl _ _).alloc (Nat.le_refl _) (.cells #[.int .i64 x, .int .i64 y, .slice Q1 n1 d1, .slice Q2 n2 d2, .slice Q3 n3 d3, .slice Q4 n4 d4] 71)) (Nat.le_refl _)
    have hrb := hb.below hB3 (Nat.le_refl _)
    clear ho1 hb1 hb2 hB2 ha hsh
    cases hg : coB l with
    | false =>
      have HR : Hid (ibF l p vs = none) := Lib.hid (if_neg (fun h => by rw [hg] at h; cases h.1))
      clear hg
      go_wp2
      go_ret2
      exact RetO.none_ hB3 HR.out rfl
    | true =>
      have H0 := Lib.hid hg
      clear hg
      cases hf : fitB (insL l p) vs with
      | false =>
        have HR : Hid (ibF l p vs = none) := Lib.hid (if_neg (fun h => by rw [hf] at h; cases h.2.2))
        have HF := Lib.hid hf
        clear hf
        go_wp2_with fail
        refine (fitWidths_any A1 B k c1 m d (insL l p) vs _ hr1 hrb (by omega) hm (fun z hz => hw z hz)).mono ?_
        rintro e w4 ⟨rfl, rfl⟩
        rw [HF.out]
        go_wp2
        go_ret2
        exact RetO.none_ hB3 HR.out rfl
      | true =>
        have HR : Hid (ibF l p vs = some (bitsK (insL l p) vs k)) := Lib.hid (by rw [← hk.out]; exact if_pos ⟨H0.out, hih.out, hf⟩)
        have HF := Lib.hid hf
        obtain ⟨hl1, hl2⟩ := fit_1023 hf hw
        clear hf
        obtain rfl : m = k := by rw [← hk.out, hl1, hb.len]
        go_wp2_with fail
        refine (fitWidths_any A1 B m c1 m d (insL l p) vs _ hr1 hrb (by omega) hm (fun z hz => hw z hz)).mono ?_
        rintro e w4 ⟨rfl, rfl⟩
        rw [HF.out]
        go_wp2_with fail
        refine (inputBits_any A1 B m c1 m d (insL l p) vs _ hr1 hrb (by omega) hw (by rw [← hk.out]; exact hl2)).mono ?_
        rintro e w5 hT
        obtain ⟨A5, c5, rfl, ho5, hb5⟩ := hT
        go_wp2
        go_ret2
        exact RetO.some_ (hB3.trans (hb5.mono hB3.size)) HR.out rfl rfl (ho5.lo_ hB3.size)
  · have ho : (if inB 0 1 p = true then byO (fun x => decide (x.kind = 1) && decide (x.party = p)) l else none) = none := by
      by_cases h1 : inB 0 1 p = true
      · rw [if_pos h1, byO_in, if_neg (fun h => hi ⟨h1, h⟩)]
      · rw [if_neg h1]
    have HR : Hid (ibF l p vs = none) := Lib.hid (if_neg (fun h => hi ⟨h.2.1, (coB_good h.1).1⟩))
    have hq := InputWidths_any A n c p l w ha hn hcap hsh
    rw [ho] at hq
    clear ho hi
    go_enter Tryz.func29, Tryz.ntmps29
    go_wp2_with fail
    refine (hq).mono ?_
    rintro e w1 hT
    obtain ⟨A1, c1, rfl, hb1⟩ := RetO.open_none hT
    clear hq hT
    go_wp2_with fail
    refine (compileValid_any A n c l _ (ha.below hb1 (Nat.le_refl _)) hn hcap hsh).mono ?_
    rintro e w2 ⟨x, y, Q1, n1, d1, Q2, n2, d2, Q3, n3, d3, Q4, n4, d4, rfl, hb2⟩
    have hB2 := hb1.trans (hb2.mono hb1.size)
    have hB3 := hB2.alloc hB2.size (.cells #[.int .i64 x, .int .i64 y, .slice Q1 n1 d1, .slice Q2 n2 d2, .slice Q3 n3 d3, .slice Q4 n4 d4] 71)
    clear hb1 hb2 hB2 ha hsh
    go_wp2
    go_ret2
    exact RetO.none_ hB3 HR.out rfl
def rnF (l : List Ln) (bits : List Int) : Option (List Int) := if coB l = true ∧ allB 0 1 bits = true ∧ (bits.length : Int) = sumI (outsL l) then some (numK (outsL l) bits (outsL l).length) else none
theorem outs10 {l : List Ln} (h : goodP l) : (outsL l).length ≤ 10 := by rw [outsL_len]; exact h.2.2.2.2
theorem rnF_len (l : List Ln) (bits : List Int) : ((rnF l bits).getD []).length ≤ 10 := by
  unfold rnF
  split
  · rename_i h
    simp only [Option.getD_some, numK_len]
    exact outs10 (coB_good h.1).1
  · simp
set_option maxRecDepth 100000 in
set_option maxHeartbeats 1600000 in
theorem ResultNumbers_any (A B : Option Addr) (n c m d : Nat) (l : List Ln) (bits : List Int) (w : World) (ha : RLn w A n l) (hn : n ≤ 2097152) (hcap : n ≤ c) (hsh : ∀ x ∈ l, shortL x) (hb : RI w B m bits) (hm : m ≤ 2097152) (hmd : m ≤ d) :
    Calls Tryz.prog 27 #[.slice A n c, .slice B m d] w (RetO w (rnF l bits)) := by
  have hml := hb.len
  by_cases hgd : goodP l
  · have ho : byO (fun x => decide (x.kind = 6)) l = some (outsL l) := by rw [byO_out, if_pos hgd]
    have hw := outsL_bd hgd.2.1
    have hL := outs10 hgd
    have hq := OutWidths_any A n c l w ha hn hcap hsh
    rw [ho] at hq
    clear ho
    obtain ⟨k, hk⟩ : ∃ k, Hid ((outsL l).length = k) := ⟨_, Lib.hid rfl⟩
    rw [hk.out] at hL
    have hof := Lib.hid (offs_all hw)
    rw [hk.out] at hof
    go_enter Tryz.func27, Tryz.ntmps27
    go_wp2_with fail
    refine (hq).mono ?_
    rintro e w1 hT
    obtain ⟨A1, c1, rfl, ho1, hb1⟩ := RetO.open_some hT hk.out
    clear hq hT
    go_wp2_with fail
    refine (compileValid_any A n c l _ (ha.below hb1 (Nat.le_refl _)) hn hcap hsh).mono ?_
    rintro e w2 ⟨x, y, Q1, n1, d1, Q2, n2, d2, Q3, n3, d3, Q4, n4, d4, rfl, hb2⟩
    have hB2 := hb1.trans (hb2.mono hb1.size)
    have hB3 := hB2.alloc hB2.size (.cells #[.int .i64 x, .int .i64 y, .slice Q1 n1 d1, .slice Q2 n2 d2, .slice Q3 n3 d3, .slice Q4 n4 d4] 71)
    have hr1 := (ho1.reads.below hb2 (Nat.le_refl _)).below ((Below.refl _ _).alloc (Nat.le_refl _) (.cells #[.int .i64 x, .int .i64 y, .slice Q1 n1 d1, .slice Q2 n2 d2, .slice Q3 n3 d3, .slice Q4 n4 d4] 71)) (Nat.le_refl _)
    have hrb := hb.below hB3 (Nat.le_refl _)
    clear ho1 hb1 hb2 hB2 ha hsh
    cases hg : coB l with
    | false =>
      have HR : Hid (rnF l bits = none) := Lib.hid (if_neg (fun h => by rw [hg] at h; cases h.1))
      clear hg
      go_wp2
      go_ret2
      exact RetO.none_ hB3 HR.out rfl
    | true =>
      have H0 := Lib.hid hg
      clear hg
      have hall := fun W (h : RI W B m bits) => areAll_any 63 Tryz.call63 #[] (inB 0 1) B m d bits W h hm (Lib.hid fun x _ w1 _ => (isBit_any x w1).mono fun e w' ⟨h1, h2⟩ => ⟨h1, by subst h2; exact Below.refl _ _⟩)
      cases hf : allB 0 1 bits with
      | false =>
        have HR : Hid (rnF l bits = none) := Lib.hid (if_neg (fun h => by rw [hf] at h; cases h.2.1))
        have HF : Hid (bits.all (inB 0 1) = false) := Lib.hid hf
        clear hf
        go_wp2_with fail
        refine (hall _ hrb).mono ?_
        rintro e w4 ⟨rfl, hb4⟩
        rw [HF.out]
        go_wp2
        go_ret2
        exact RetO.none_ (hB3.trans (hb4.mono hB3.size)) HR.out rfl
      | true =>
        have HF : Hid (bits.all (inB 0 1) = true) := Lib.hid hf
        have HF2 := Lib.hid hf
        clear hf
        go_wp2_with fail
        refine (hall _ hrb).mono ?_
        rintro e w4 ⟨rfl, hb4⟩
        rw [HF.out]
        have hr4 := hr1.below hb4 (Nat.le_refl _)
        have hrb4 := hrb.below hb4 (Nat.le_refl _)
        have hB4 := hB3.trans (hb4.mono hB3.size)
        clear hall hr1 hrb hb4
        by_cases he : (m : Int) = sumI (outsL l)
        · have HR : Hid (rnF l bits = some (numK (outsL l) bits k)) := Lib.hid (by rw [← hk.out]; exact if_pos ⟨H0.out, HF2.out, by rw [hml]; exact he⟩)
          have hofm : offs (outsL l) k = m := by have := hof.out; omega
          have hm100 : m ≤ 100 := by
            have h1 := (sumI_le (M := 10) (fun z hz => by have := hw z hz; omega) (outsL l).length (Nat.le_refl _)).2
            rw [List.take_of_length_le (Nat.le_refl _), hk.out] at h1
            omega
          have he := Lib.hid he
          go_wp2_with fail
          refine (sumOfW_any A1 k c1 (outsL l) _ hr4 (by omega) (fun z hz => by have := hw z hz; omega)).mono ?_
          rintro e w5 ⟨rfl, rfl⟩
          rw [← he.out]
          go_wp2_with fail
          refine (numbersOf_any A1 B k c1 m d (outsL l) bits _ hr4 hrb4 (by omega) (by omega) hmd hw HF2.out hofm).mono ?_
          rintro e w6 hT
          obtain ⟨A6, c6, rfl, ho6, hb6⟩ := RetI.open_ (n := k) hT (numK_len _ _ _)
          go_wp2
          go_ret2
          exact RetO.some_ (hB4.trans (hb6.mono hB4.size)) HR.out (numK_len _ _ _) rfl (ho6.lo_ hB4.size)
        · have HR : Hid (rnF l bits = none) := Lib.hid (if_neg (fun h => he (by rw [← hml]; exact h.2.2)))
          obtain ⟨S, hS⟩ : ∃ S, Hid (sumI (outsL l) = S) := ⟨_, Lib.hid rfl⟩
          rw [hS.out] at he
          go_wp2_with fail
          refine (sumOfW_any A1 k c1 (outsL l) _ hr4 (by omega) (fun z hz => by have := hw z hz; omega)).mono ?_
          rintro e w5 ⟨rfl, rfl⟩
          rw [hS.out]
          go_wp2
          go_ret2
          exact RetO.none_ hB4 HR.out rfl
  · have ho : byO (fun x => decide (x.kind = 6)) l = none := by rw [byO_out, if_neg hgd]
    have HR : Hid (rnF l bits = none) := Lib.hid (if_neg (fun h => hgd (coB_good h.1).1))
    have hq := OutWidths_any A n c l w ha hn hcap hsh
    rw [ho] at hq
    clear ho hgd
    go_enter Tryz.func27, Tryz.ntmps27
    go_wp2_with fail
    refine (hq).mono ?_
    rintro e w1 hT
    obtain ⟨A1, c1, rfl, hb1⟩ := RetO.open_none hT
    clear hq hT
    go_wp2_with fail
    refine (compileValid_any A n c l _ (ha.below hb1 (Nat.le_refl _)) hn hcap hsh).mono ?_
    rintro e w2 ⟨x, y, Q1, n1, d1, Q2, n2, d2, Q3, n3, d3, Q4, n4, d4, rfl, hb2⟩
    have hB2 := hb1.trans (hb2.mono hb1.size)
    have hB3 := hB2.alloc hB2.size (.cells #[.int .i64 x, .int .i64 y, .slice Q1 n1 d1, .slice Q2 n2 d2, .slice Q3 n3 d3, .slice Q4 n4 d4] 71)
    clear hb1 hb2 hB2 ha hsh
    go_wp2
    go_ret2
    exact RetO.none_ hB3 HR.out rfl
set_option maxRecDepth 100000 in
set_option maxHeartbeats 1600000 in
theorem areValues_any (A B C : Option Addr) (n c m d r q : Nat) (l : List Ln) (xs ys : List Int) (w : World) (ha : RLn w A n l) (hn : n ≤ 2097152) (hcap : n ≤ c) (hsh : ∀ x ∈ l, shortL x) (hb : RI w B m xs) (hm : m ≤ 2097152) (hc : RI w C r ys) (hr : r ≤ 2097152) (hgd : goodP l) :
    Calls Tryz.prog 86 #[.slice A n c, .slice B m d, .slice C r q] w fun e w' => e = .returned (.bool (fitB (insL l 0) xs && fitB (insL l 1) ys)) ∧ Below w.heap.size w w' := by
  have ho : ∀ p : Int, inB 0 1 p = true → (if inB 0 1 p = true then byO (fun x => decide (x.kind = 1) && decide (x.party = p)) l else none) = some (insL l p) := fun p hi => by rw [if_pos hi, byO_in, if_pos hgd]
  have hw0 := insL_bd hgd.2.1 0
  have hw1 := insL_bd hgd.2.1 1
  have hL0 := insL_len l 0
  have hL1 := insL_len l 1
  have hn30 := hgd.1
  have hq0 := fun W (h : RLn W A n l) => InputWidths_any A n c 0 l W h hn hcap hsh
  have hq1 := fun W (h : RLn W A n l) => InputWidths_any A n c 1 l W h hn hcap hsh
  simp only [ho 0 rfl] at hq0
  simp only [ho 1 rfl] at hq1
  clear ho
  obtain ⟨k0, hk0⟩ : ∃ k, Hid ((insL l 0).length = k) := ⟨_, Lib.hid rfl⟩
  obtain ⟨k1, hk1⟩ : ∃ k, Hid ((insL l 1).length = k) := ⟨_, Lib.hid rfl⟩
  rw [hk0.out] at hL0
  rw [hk1.out] at hL1
  go_enter Tryz.func86, Tryz.ntmps86
  go_wp2_with fail
  refine (hq0 _ ha).mono ?_
  rintro e w1 hT
  obtain ⟨A1, c1, rfl, ho1, hb1⟩ := RetO.open_some hT hk0.out
  clear hT
  go_wp2_with fail
  refine (hq1 _ (ha.below hb1 (Nat.le_refl _))).mono ?_
  rintro e w2 hT
  obtain ⟨A2, c2, rfl, ho2, hb2⟩ := RetO.open_some hT hk1.out
  have hB2 := hb1.trans (hb2.mono hb1.size)
  have r1 := ho1.reads.below hb2 (Nat.le_refl _)
  have r2 := ho2.reads
  have rb := hb.below hB2 (Nat.le_refl _)
  have rc := hc.below hB2 (Nat.le_refl _)
  clear hT hq0 hq1 ho1 ho2 hb1 hb2 ha hsh
  cases h0 : fitB (insL l 0) xs with
  | false =>
    have H0 := Lib.hid h0
    clear h0
    go_wp2_with fail
    refine (fitWidths_any A1 B k0 c1 m d (insL l 0) xs _ r1 rb (by omega) hm (fun z hz => hw0 z hz)).mono ?_
    rintro e w4 ⟨rfl, rfl⟩
    rw [H0.out]
    go_wp2
    go_ret
    exact ⟨by rw [H0.out, Bool.false_and]; rfl, hB2⟩
  | true =>
    have H0 := Lib.hid h0
    clear h0
    go_wp2_with fail
    refine (fitWidths_any A1 B k0 c1 m d (insL l 0) xs _ r1 rb (by omega) hm (fun z hz => hw0 z hz)).mono ?_
    rintro e w4 ⟨rfl, rfl⟩
    rw [H0.out]
    go_wp2_with fail
    refine (fitWidths_any A2 C k1 c2 r q (insL l 1) ys _ r2 rc (by omega) hr (fun z hz => hw1 z hz)).mono ?_
    rintro e w4 ⟨rfl, rfl⟩
    go_wp2
    go_ret
    exact ⟨by rw [H0.out, Bool.true_and]; rfl, hB2⟩
end Go.Proofs.YtjjphaiomaiilaaGreat
