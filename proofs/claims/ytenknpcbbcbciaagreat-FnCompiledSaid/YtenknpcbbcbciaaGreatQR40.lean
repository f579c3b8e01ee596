/- Drawn programs with bits of their results. -/
import Derived.Test.YtenknpcbbcbciaaGreatQR39
namespace Go.Proofs.YtenknpcbbcbciaaGreat
open Go.RowKit
set_option linter.unusedVariables false
set_option linter.unusedSimpArgs false
theorem RetO.open_none {w w' : World} {e : Ending} (h : RetO w none e w') : ∃ A c, e = .returned (.tuple #[.slice A 0 c, .bool false]) ∧ Below w.heap.size w w' := by
 obtain ⟨A, c, h1, _, h3⟩ := h
 exact ⟨A, c, h1, h3⟩
theorem fit_1023 {ws ns : List Int} (h : fitB ws ns = true) (hw : ∀ z ∈ ws, 1 ≤ z ∧ z ≤ 10) : ws.length = ns.length ∧ ∀ k, k < ws.length → 0 ≤ gi ns k ∧ gi ns k ≤ 1023 := by
 obtain ⟨h1, h2⟩ := fitB_at h
 refine ⟨h1, fun k hk => ⟨(h2 k hk).1, ?_⟩⟩
 have h3 := (h2 k hk).2
 have h4 := hw _ (Zbp hk)
 have h5 : 2 ^ (gi ws k).toNat ≤ 2 ^ 10 := Nat.pow_le_pow_right (by decide) (by omega)
 have h6 : ((2 ^ (gi ws k).toNat : Nat) : Int) = (2 : Int) ^ (gi ws k).toNat := by rw [Int.natCast_pow]; rfl
 have h7 : ((2 ^ (gi ws k).toNat : Nat) : Int) ≤ ((2 ^ 10 : Nat) : Int) := Int.ofNat_le.2 h5
 rw [h6] at h7
 have h8 : ((2 ^ 10 : Nat) : Int) = 1024 := rfl
 omega
theorem Zco (A : Option Addr) (n c : Nat) (l : List Ln) (w : World) (ha : RLn w A n l) (hn : n ≤ 2097152) (hcap : n ≤ c) (hsh : ∀ x ∈ l, shortL x) :
 Calls Tryz.prog 42 #[.slice A n c] w fun e w' => ∃ (x y : Int) (A1 : Option Addr) (n1 c1 : Nat) (A2 : Option Addr) (n2 c2 : Nat) (A3 : Option Addr) (n3 c3 : Nat) (A4 : Option Addr) (n4 c4 : Nat), e = .returned (.tuple #[.agg #[.int .i64 x, .int .i64 y, .slice A1 n1 c1, .slice A2 n2 c2, .slice A3 n3 c3, .slice A4 n4 c4], .bool (coB l)]) ∧ Below w.heap.size w w' := by
 cases hg : coB l with
 | false => exact (Zea A n c l w ha hn hcap hsh hg).mono fun e w' ⟨h1, h2⟩ => ⟨_, _, _, _, _, _, _, _, _, _, _, _, _, _, h1, h2⟩
 | true =>
  refine (Zdz A n c l w ha hn hcap hsh hg).mono fun e w' hT => ?_
  obtain ⟨Ag, cg, Oa, oc, Ea, ec, Wa, wc, bl, h1, _, _, _, h2⟩ := hT
  exact ⟨_, _, _, _, _, _, _, _, _, _, _, _, _, _, h1, h2⟩
def ibF (l : List Ln) (p : Int) (vs : List Int) : Option (List Int) := if coB l = true ∧ inB 0 1 p = true ∧ fitB (insL l p) vs = true then some (bitsK (insL l p) vs (insL l p).length) else none
theorem ibF_len (l : List Ln) (p : Int) (vs : List Int) : ((ibF l p vs).getD []).length ≤ 1000 := by
 unfold ibF
 split
 ·rename_i h
  have hg := (Zce h.1).1
  have hw := Zbq hg.2.1 p
  have h1 := (Zcu (M := 10) (fun z hz => by have := hw z hz; omega) (insL l p).length lR).2
  have h2 := Zbb l p
  have h3 := hg.1
  simp only [Option.getD_some]
  rw [Zbs hw _ _ lR]
  unfold offs
  omega
 ·simp
set_option maxRecDepth 100000 in
set_option maxHeartbeats 1600000 in
theorem Zff (A B : Option Addr) (n c m d : Nat) (l : List Ln) (p : Int) (vs : List Int) (w : World) (ha : RLn w A n l) (hn : n ≤ 2097152) (hcap : n ≤ c) (hsh : ∀ x ∈ l, shortL x) (hb : RI w B m vs) (hm : m ≤ 2097152) :
 Calls Tryz.prog 13 #[.slice A n c, .int .i64 p, .slice B m d] w (RetO w (ibF l p vs)) := by
 by_cases hi : inB 0 1 p = true ∧ goodP l
 ·obtain ⟨hi, hgd⟩ := hi
  have ho : (if inB 0 1 p = true then byO (fun x => decide (x.kind = 1) && decide (x.party = p)) l else none) = some (insL l p) := by rw [if_pos hi, byO_in, if_pos hgd]
  have hw := Zbq hgd.2.1 p
  have hL := Zbb l p
  have hn30 := hgd.1
  have hq := Zbg A n c p l w ha hn hcap hsh
  rw [ho] at hq
  have hih := zH hi
  clear ho hi
  obtain ⟨k, hk⟩ := lT ((insL l p).length)
  rw [hk.out] at hL
  go_enter Tryz.func13, Tryz.ntmps13
  go_wp2_with fail
  refine (hq).mono ?_
  rintro e w1 hT
  obtain ⟨A1, c1, rfl, ho1, hb1⟩ := RetO.open_some hT hk.out
  clear hq hT
  go_wp2_with fail
  refine (Zco A n c l _ (ha.below hb1 lR) hn hcap hsh).mono ?_
  rintro e w2 ⟨x, y, Q1, n1, d1, Q2, n2, d2, Q3, n3, d3, Q4, n4, d4, rfl, hb2⟩
  have hB2 := hb1.trans (hb2.mono hb1.size)
  have hB3 := hB2.alloc hB2.size (.cells #[.int .i64 x, .int .i64 y, .slice Q1 n1 d1, .slice Q2 n2 d2, .slice Q3 n3 d3, .slice Q4 n4 d4] 63)
  have hr1 := (ho1.reads.below hb2 lR).below ((Below.refl _ _).alloc lR (.cells #[.int .i64 x, .int .i64 y, .slice Q1 n1 d1, .slice Q2 n2 d2, .slice Q3 n3 d3, .slice Q4 n4 d4] 63)) lR
  have hrb := hb.below hB3 lR
  clear ho1 hb1 hb2 hB2 ha hsh
  cases hg : coB l with
  | false =>
   have HR : Hid (ibF l p vs = none) := zH (if_neg (fun h => by rw [hg] at h; cases h.1))
   clear hg
   go_wp2
   go_ret2
   exact RetO.none_ hB3 HR.out rfl
  | true =>
   have H0 := zH hg
   clear hg
   cases hf : fitB (insL l p) vs with
   | false =>
    have HR : Hid (ibF l p vs = none) := zH (if_neg (fun h => by rw [hf] at h; cases h.2.2))
    have HF := zH hf
    clear hf
    go_wp2_with fail
    refine (Zcw A1 B k c1 m d (insL l p) vs _ hr1 hrb (by omega) hm (fun z hz => hw z hz)).mono ?_
    rintro e w4 ⟨rfl, rfl⟩
    rw [HF.out]
    go_wp2
    go_ret2
    exact RetO.none_ hB3 HR.out rfl
   | true =>
    have HR : Hid (ibF l p vs = some (bitsK (insL l p) vs k)) := zH (by rw [← hk.out]; exact if_pos ⟨H0.out, hih.out, hf⟩)
    have HF := zH hf
    obtain ⟨hl1, hl2⟩ := fit_1023 hf hw
    clear hf
    obtain rfl : m = k := by rw [← hk.out, hl1, hb.len]
    go_wp2_with fail
    refine (Zcw A1 B m c1 m d (insL l p) vs _ hr1 hrb (by omega) hm (fun z hz => hw z hz)).mono ?_
    rintro e w4 ⟨rfl, rfl⟩
    rw [HF.out]
    go_wp2_with fail
    refine (Zfa A1 B m c1 m d (insL l p) vs _ hr1 hrb (by omega) hw (by rw [← hk.out]; exact hl2)).mono ?_
    rintro e w5 hT
    obtain ⟨A5, c5, rfl, ho5, hb5⟩ := hT
    go_wp2
    go_ret2
    exact RetO.some_ (hB3.trans (hb5.mono hB3.size)) HR.out rfl rfl (ho5.lo_ hB3.size)
 ·have ho : (if inB 0 1 p = true then byO (fun x => decide (x.kind = 1) && decide (x.party = p)) l else none) = none := by
   by_cases h1 : inB 0 1 p = true
   ·rw [if_pos h1, byO_in, if_neg (fun h => hi ⟨h1, h⟩)]
   ·rw [if_neg h1]
  have HR : Hid (ibF l p vs = none) := zH (if_neg (fun h => hi ⟨h.2.1, (Zce h.1).1⟩))
  have hq := Zbg A n c p l w ha hn hcap hsh
  rw [ho] at hq
  clear ho hi
  go_enter Tryz.func13, Tryz.ntmps13
  go_wp2_with fail
  refine (hq).mono ?_
  rintro e w1 hT
  obtain ⟨A1, c1, rfl, hb1⟩ := RetO.open_none hT
  clear hq hT
  go_wp2_with fail
  refine (Zco A n c l _ (ha.below hb1 lR) hn hcap hsh).mono ?_
  rintro e w2 ⟨x, y, Q1, n1, d1, Q2, n2, d2, Q3, n3, d3, Q4, n4, d4, rfl, hb2⟩
  have hB2 := hb1.trans (hb2.mono hb1.size)
  have hB3 := hB2.alloc hB2.size (.cells #[.int .i64 x, .int .i64 y, .slice Q1 n1 d1, .slice Q2 n2 d2, .slice Q3 n3 d3, .slice Q4 n4 d4] 63)
  clear hb1 hb2 hB2 ha hsh
  go_wp2
  go_ret2
  exact RetO.none_ hB3 HR.out rfl
def rnF (l : List Ln) (bits : List Int) : Option (List Int) := if coB l = true ∧ allB 0 1 bits = true ∧ (bits.length : Int) = sumI (outsL l) then some (numK (outsL l) bits (outsL l).length) else none
theorem outs10 {l : List Ln} (h : goodP l) : (outsL l).length ≤ 10 := by rw [outsL_len]; exact h.2.2.2.2
theorem rnF_len (l : List Ln) (bits : List Int) : ((rnF l bits).getD []).length ≤ 10 := by
 unfold rnF
 split
 ·rename_i h
  simp only [Option.getD_some, Zcd]
  exact outs10 (Zce h.1).1
 ·simp
set_option maxRecDepth 100000 in
set_option maxHeartbeats 1600000 in
theorem Zeq (A B : Option Addr) (n c m d : Nat) (l : List Ln) (bits : List Int) (w : World) (ha : RLn w A n l) (hn : n ≤ 2097152) (hcap : n ≤ c) (hsh : ∀ x ∈ l, shortL x) (hb : RI w B m bits) (hm : m ≤ 2097152) (hmd : m ≤ d) :
 Calls Tryz.prog 10 #[.slice A n c, .slice B m d] w (RetO w (rnF l bits)) := by
 have hml := hb.len
 by_cases hgd : goodP l
 ·have ho : byO (fun x => decide (x.kind = 6)) l = some (outsL l) := by rw [byO_out, if_pos hgd]
  have hw := Zdg hgd.2.1
  have hL := outs10 hgd
  have hq := Zfc A n c l w ha hn hcap hsh
  rw [ho] at hq
  clear ho
  obtain ⟨k, hk⟩ := lT ((outsL l).length)
  rw [hk.out] at hL
  have hof := zH (Zcn hw)
  rw [hk.out] at hof
  go_enter Tryz.func10, Tryz.ntmps10
  go_wp2_with fail
  refine (hq).mono ?_
  rintro e w1 hT
  obtain ⟨A1, c1, rfl, ho1, hb1⟩ := RetO.open_some hT hk.out
  clear hq hT
  go_wp2_with fail
  refine (Zco A n c l _ (ha.below hb1 lR) hn hcap hsh).mono ?_
  rintro e w2 ⟨x, y, Q1, n1, d1, Q2, n2, d2, Q3, n3, d3, Q4, n4, d4, rfl, hb2⟩
  have hB2 := hb1.trans (hb2.mono hb1.size)
  have hB3 := hB2.alloc hB2.size (.cells #[.int .i64 x, .int .i64 y, .slice Q1 n1 d1, .slice Q2 n2 d2, .slice Q3 n3 d3, .slice Q4 n4 d4] 63)
  have hr1 := (ho1.reads.below hb2 lR).below ((Below.refl _ _).alloc lR (.cells #[.int .i64 x, .int .i64 y, .slice Q1 n1 d1, .slice Q2 n2 d2, .slice Q3 n3 d3, .slice Q4 n4 d4] 63)) lR
  have hrb := hb.below hB3 lR
  clear ho1 hb1 hb2 hB2 ha hsh
  cases hg : coB l with
  | false =>
   have HR : Hid (rnF l bits = none) := zH (if_neg (fun h => by rw [hg] at h; cases h.1))
   clear hg
   go_wp2
   go_ret2
   exact RetO.none_ hB3 HR.out rfl
  | true =>
   have H0 := zH hg
   clear hg
   have hall := fun W (h : RI W B m bits) => areAll_any 64 Tryz.call64 #[] (inB 0 1) B m d bits W h hm (zH fun x _ w1 _ => (Zbz x w1).mono fun e w' ⟨h1, h2⟩ => ⟨h1, by subst h2; exact Below.refl _ _⟩)
   cases hf : allB 0 1 bits with
   | false =>
    have HR : Hid (rnF l bits = none) := zH (if_neg (fun h => by rw [hf] at h; cases h.2.1))
    have HF : Hid (bits.all (inB 0 1) = false) := zH hf
    clear hf
    go_wp2_with fail
    refine (hall _ hrb).mono ?_
    rintro e w4 ⟨rfl, hb4⟩
    rw [HF.out]
    go_wp2
    go_ret2
    exact RetO.none_ (hB3.trans (hb4.mono hB3.size)) HR.out rfl
   | true =>
    have HF : Hid (bits.all (inB 0 1) = true) := zH hf
    have HF2 := zH hf
    clear hf
    go_wp2_with fail
    refine (hall _ hrb).mono ?_
    rintro e w4 ⟨rfl, hb4⟩
    rw [HF.out]
    have hr4 := hr1.below hb4 lR
    have hrb4 := hrb.below hb4 lR
    have hB4 := hB3.trans (hb4.mono hB3.size)
    clear hall hr1 hrb hb4
    by_cases he : (m : Int) = sumI (outsL l)
    ·have HR : Hid (rnF l bits = some (numK (outsL l) bits k)) := zH (by rw [← hk.out]; exact if_pos ⟨H0.out, HF2.out, by rw [hml]; exact he⟩)
     have hofm : offs (outsL l) k = m := by have := hof.out; omega
     have hm100 : m ≤ 100 := by
      have h1 := (Zcu (M := 10) (fun z hz => by have := hw z hz; omega) (outsL l).length lR).2
      rw [List.take_of_length_le lR, hk.out] at h1
      omega
     have he := zH he
     go_wp2_with fail
     refine (Zeh A1 k c1 (outsL l) _ hr4 (by omega) (fun z hz => by have := hw z hz; omega)).mono ?_
     rintro e w5 ⟨rfl, rfl⟩
     rw [← he.out]
     go_wp2_with fail
     refine (numbersOf_any A1 B k c1 m d (outsL l) bits _ hr4 hrb4 (by omega) (by omega) hmd hw HF2.out hofm).mono ?_
     rintro e w6 hT
     obtain ⟨A6, c6, rfl, ho6, hb6⟩ := RetI.open_ (n := k) hT (Zcd _ _ _)
     go_wp2
     go_ret2
     exact RetO.some_ (hB4.trans (hb6.mono hB4.size)) HR.out (Zcd _ _ _) rfl (ho6.lo_ hB4.size)
    ·have HR : Hid (rnF l bits = none) := zH (if_neg (fun h => he (by rw [← hml]; exact h.2.2)))
     obtain ⟨S, hS⟩ := lT (sumI (outsL l))
     rw [hS.out] at he
     go_wp2_with fail
     refine (Zeh A1 k c1 (outsL l) _ hr4 (by omega) (fun z hz => by have := hw z hz; omega)).mono ?_
     rintro e w5 ⟨rfl, rfl⟩
     rw [hS.out]
     go_wp2
     go_ret2
     exact RetO.none_ hB4 HR.out rfl
 ·have ho : byO (fun x => decide (x.kind = 6)) l = none := by rw [byO_out, if_neg hgd]
  have HR : Hid (rnF l bits = none) := zH (if_neg (fun h => hgd (Zce h.1).1))
  have hq := Zfc A n c l w ha hn hcap hsh
  rw [ho] at hq
  clear ho hgd
  go_enter Tryz.func10, Tryz.ntmps10
  go_wp2_with fail
  refine (hq).mono ?_
  rintro e w1 hT
  obtain ⟨A1, c1, rfl, hb1⟩ := RetO.open_none hT
  clear hq hT
  go_wp2_with fail
  refine (Zco A n c l _ (ha.below hb1 lR) hn hcap hsh).mono ?_
  rintro e w2 ⟨x, y, Q1, n1, d1, Q2, n2, d2, Q3, n3, d3, Q4, n4, d4, rfl, hb2⟩
  have hB2 := hb1.trans (hb2.mono hb1.size)
  have hB3 := hB2.alloc hB2.size (.cells #[.int .i64 x, .int .i64 y, .slice Q1 n1 d1, .slice Q2 n2 d2, .slice Q3 n3 d3, .slice Q4 n4 d4] 63)
  clear hb1 hb2 hB2 ha hsh
  go_wp2
  go_ret2
  exact RetO.none_ hB3 HR.out rfl
set_option maxRecDepth 100000 in
set_option maxHeartbeats 1600000 in
theorem Zfb (A B C : Option Addr) (n c m d r q : Nat) (l : List Ln) (xs ys : List Int) (w : World) (ha : RLn w A n l) (hn : n ≤ 2097152) (hcap : n ≤ c) (hsh : ∀ x ∈ l, shortL x) (hb : RI w B m xs) (hm : m ≤ 2097152) (hc : RI w C r ys) (hr : r ≤ 2097152) (hgd : goodP l) :
 Calls Tryz.prog 43 #[.slice A n c, .slice B m d, .slice C r q] w fun e w' => e = .returned (.bool (fitB (insL l 0) xs && fitB (insL l 1) ys)) ∧ Below w.heap.size w w' := by
 have ho : ∀ p : Int, inB 0 1 p = true → (if inB 0 1 p = true then byO (fun x => decide (x.kind = 1) && decide (x.party = p)) l else none) = some (insL l p) := fun p hi => by rw [if_pos hi, byO_in, if_pos hgd]
 have hw0 := Zbq hgd.2.1 0
 have hw1 := Zbq hgd.2.1 1
 have hL0 := Zbb l 0
 have hL1 := Zbb l 1
 have hn30 := hgd.1
 have hq0 := fun W (h : RLn W A n l) => Zbg A n c 0 l W h hn hcap hsh
 have hq1 := fun W (h : RLn W A n l) => Zbg A n c 1 l W h hn hcap hsh
 simp only [ho 0 rfl] at hq0
 simp only [ho 1 rfl] at hq1
 clear ho
 obtain ⟨k0, hk0⟩ := lT ((insL l 0).length)
 obtain ⟨k1, hk1⟩ := lT ((insL l 1).length)
 rw [hk0.out] at hL0
 rw [hk1.out] at hL1
 go_enter Tryz.func43, Tryz.ntmps43
 go_wp2_with fail
 refine (hq0 _ ha).mono ?_
 rintro e w1 hT
 obtain ⟨A1, c1, rfl, ho1, hb1⟩ := RetO.open_some hT hk0.out
 clear hT
 go_wp2_with fail
 refine (hq1 _ (ha.below hb1 lR)).mono ?_
 rintro e w2 hT
 obtain ⟨A2, c2, rfl, ho2, hb2⟩ := RetO.open_some hT hk1.out
 have hB2 := hb1.trans (hb2.mono hb1.size)
 have r1 := ho1.reads.below hb2 lR
 have r2 := ho2.reads
 have rb := hb.below hB2 lR
 have rc := hc.below hB2 lR
 clear hT hq0 hq1 ho1 ho2 hb1 hb2 ha hsh
 cases h0 : fitB (insL l 0) xs with
 | false =>
  have H0 := zH h0
  clear h0
  go_wp2_with fail
  refine (Zcw A1 B k0 c1 m d (insL l 0) xs _ r1 rb (by omega) hm (fun z hz => hw0 z hz)).mono ?_
  rintro e w4 ⟨rfl, rfl⟩
  rw [H0.out]
  go_wp2
  go_ret
  exact ⟨by rw [H0.out, Bool.false_and]; rfl, hB2⟩
 | true =>
  have H0 := zH h0
  clear h0
  go_wp2_with fail
  refine (Zcw A1 B k0 c1 m d (insL l 0) xs _ r1 rb (by omega) hm (fun z hz => hw0 z hz)).mono ?_
  rintro e w4 ⟨rfl, rfl⟩
  rw [H0.out]
  go_wp2_with fail
  refine (Zcw A2 C k1 c2 r q (insL l 1) ys _ r2 rc (by omega) hr (fun z hz => hw1 z hz)).mono ?_
  rintro e w4 ⟨rfl, rfl⟩
  go_wp2
  go_ret
  exact ⟨by rw [H0.out, Bool.true_and]; rfl, hB2⟩
attribute [local go_sem] sepAt sepUpon pureAt pureUpon
def RetPb (w : World) (e : Ending) (w' : World) : Prop :=
 ∃ (l : List Ln) (A A0 : Option Addr) (n c n0 c0 : Nat) (xs : List Int), e = .returned (.tuple #[.slice A n c, .slice A0 n0 c0]) ∧ RLn w' A n l ∧ PrB n c l ∧ RI w' A0 n0 xs ∧ n0 ≤ c0 ∧ n0 ≤ 200 ∧ Below w.heap.size w w'
theorem sum_outs {l : List Ln} (hg : goodP l) : 0 ≤ sumI (outsL l) ∧ sumI (outsL l) ≤ 100 := by
 have h1 := Zdg hg.2.1
 have h2 := Zcu (M := 10) (fun z hz => by have := h1 z hz; omega) (outsL l).length lR
 rw [List.take_of_length_le lR] at h2
 have h3 := outs10 hg
 have h4 : ((10 : Nat) : Int) * ((outsL l).length : Nat) ≤ 10 * 10 := by omega
 omega
set_option maxRecDepth 100000 in
set_option maxHeartbeats 4000000 in
theorem DrawResultNumbers_any (Y : Option Addr) (n c : Nat) (w : World) (hY : RY w Y n) :
 Calls Tryz.prog 9 #[.slice Y n c] w (RetPb w) := by
 have hc0 := Cur.newW (c := c) hY
 have hA2 : Below w.heap.size w (w.alloc (.cells #[.slice Y n c, .int .i64 0, .int .u64 0] 78)) := bA
 have hR : ∀ i, tblkW Y n i → i < w.heap.size := tblkW_lt hY
 have hRb : ¬ tblkW Y n w.heap.size := fun h => by have := hR _ h; omega
 have k0 : Alt (fun i => i = w.heap.size) w (w.alloc (.cells #[.slice Y n c, .int .i64 0, .int .u64 0] 78)) := Alt.of_new hA2
 have hz0 : (w.alloc (.cells #[.slice Y n c, .int .i64 0, .int .u64 0] 78)).heap.size = w.heap.size + 1 := by simp
 generalize tblkW Y n = R at hc0 hR hRb
 go_enter Tryz.func9, Tryz.ntmps9
 go_wp2_with fail
 generalize w.alloc (.cells #[.slice Y n c, .int .i64 0, .int .u64 0] 78) = a0 at *
 refine (Zef w.heap.size R 0 _ hc0 (by omega) (fun i hi => by have := hR i hi; omega) hRb).mono ?_
 rintro e a1 ⟨l, A, k, d, rfl, hL, hn1, hn40, c1, k1⟩
 have kk1 := k0.trans_ k1 (fun _ _ h => h)
 have hz1 : w.heap.size < a1.heap.size := by have := k1.size; omega
 have hpb := hL.prb hn1 hn40
 clear k0 hA2 hc0 k1
 by_cases hg : goodP (l.map Lp.x)
 ·have hso := sum_outs hg
  have hob := Zdg hg.2.1
  have ho10 := outs10 hg
  go_wp2_with fail
  refine (Zdd A k d _ _ hL.reads (by omega) hpb.cap hpb.sh).mono ?_
  rintro e a2 ⟨rfl, b2⟩
  rw [decide_eq_true hg]
  have kb2 : Alt (fun _ => False) a1 a2 := Alt.of_new b2
  have hL2 := hL.alt kb2 (fun _ _ _ _ h => h)
  have c2 := c1.alt kb2 (fun h => h) (fun _ _ h => h)
  have kk2 := kk1.trans_ kb2 (fun _ _ h => h.elim)
  have y2 := b2.size
  clear hL c1 kk1 hg b2 kb2
  go_wp2_with fail
  refine (Zek A k d _ _ hL2.reads (by omega) hpb.cap hpb.sh).mono ?_
  rintro e a3 hT
  obtain ⟨OS, hOS⟩ : ∃ OS, outsL (l.map Lp.x) = OS := ⟨_, rfl⟩
  rw [hOS] at hT hso hob ho10
  obtain ⟨on, hon⟩ : ∃ on, OS.length = on := ⟨_, rfl⟩
  obtain ⟨A3, d3, rfl, p3, b3⟩ := hT.open_ hon
  rw [hon] at ho10
  have kb3 : Alt (fun _ => False) a2 a3 := Alt.of_new b3
  have hL3 := hL2.alt kb3 (fun _ _ _ _ h => h)
  have c3 := c2.alt kb3 (fun h => h) (fun _ _ h => h)
  have kk3 := kk2.trans_ kb3 (fun _ _ h => h.elim)
  have y3 := b3.size
  clear hL2 c2 kk2 b3 kb3 hT hOS hon
  go_wp2_with fail
  refine (Zdc A3 on d3 OS _ p3.reads (by omega) (fun z hz => by have := hob z hz; omega)).mono ?_
  rintro e a4 ⟨rfl, rfl⟩
  obtain ⟨S, hS⟩ : ∃ S : Nat, sumI OS = S := ⟨(sumI OS).toNat, by omega⟩
  rw [hS] at hso ⊢
  clear hS p3 hob
  go_wp2_with fail
  refine (Zba 16 w.heap.size R _ _ c3 (by omega) (by omega)).mono ?_
  rintro e a5 ⟨v, hv, hv2, rfl, c5, k5, z5⟩
  have hL5 := hL3.alt k5 (fun i h1 h2 _ h => by omega)
  have kk5 := kk3.trans_ k5 (fun _ _ h => h)
  have hq : ((v : Int)) / 15 = ((v / 15 : Nat) : Int) := by omega
  have hvb : v / 15 ≤ 1 := by omega
  generalize v / 15 = V at *
  have hwr : IntKind.i64.wrap ((S : Int) + (V : Int)) = ((S + V : Nat) : Int) := by rw [Int.natCast_add, IntKind.wrap_i64] <;> omega
  have hz5 : w.heap.size < a5.heap.size := by have := k5.size; omega
  clear hL3 kk3 c3 k5 z5
  obtain ⟨N, hN⟩ := lT (S + V)
  rw [hN.out] at hwr
  have hN101 : N ≤ 101 := by have := hN.out; omega
  obtain ⟨HI, hHI⟩ := lT (a5.heap.size)
  have hHb : w.heap.size < HI := by have := hHI.out; omega
  go_wp2
  go_loopg [6, 7] N (fun g bv nv wr => ∃ (j : Nat) (A' : Option Addr) (c' U : Nat) (xs : List Int), j + g = N ∧ nv = .int .i64 g ∧ bv = .slice A' j c' ∧ Own wr HI wr.heap.size (.slice A' j c') j xs ∧ Cur wr w.heap.size R U ∧ U + 10 * g ≤ 700000000 ∧ Alt (fun i => i = w.heap.size) a5 wr ∧ HI ≤ wr.heap.size)
  case atStart => exact ⟨0, none, 0, _, [], by omega, by first | rfl | exact congrArg (Value.int .i64) (by omega), rfl, Own.none_ _ _ _, c5, by omega, Alt.refl_ _ _, Nat.le_of_eq hHI.out.symm⟩
  case round =>
   obtain ⟨j, A', c', U, xs, hjg, rfl, rfl, ho, hu, hU, ha, hsz⟩ := hrel
   clear c5 hwr
   generalize wr = W0 at *
   generalize gk = gK at *
   have hjg := zH hjg
   by_cases hg0 : gK = 0
   ·obtain rfl : gK = 0 := hg0
    have hjN := hjg.out
    have hL9 := hL5.alt ha (fun i h1 h2 _ h => by omega)
    have kk9 := kk5.trans_ ha (fun _ _ h => h)
    have hcl := ho.capLe
    go_wp2
    go_ret2
    exact ⟨_, A, A', k, d, j, c', xs, rfl, hL9.reads, hpb, ho.reads, hcl, by omega, kk9.below_ lR (fun i hi e => by omega)⟩
   ·have hgi : (0 : Int) < (gK : Int) := by omega
    have hgw : IntKind.i64.wrap ((gK : Int) - 1) = ((gK - 1 : Nat) : Int) := by
     have := hjg.out
     rw [IntKind.wrap_i64] <;> omega
    have hjb : j ≤ 101 := by have := hjg.out; omega
    go_wp2_with fail
    refine (Zba 2 w.heap.size R _ _ hu (by omega) (by omega)).mono ?_
    rintro e w1 ⟨v1, hv1, hv1b, rfl, u1, k1, z1⟩
    go_wp2_with fail
    refine (Zba 60 w.heap.size R _ _ u1 (by omega) (by omega)).mono ?_
    rintro e w2 ⟨v2, hv2', hv2b, rfl, u2, k2, z2⟩
    have hq2 : ((v2 : Int)) / 59 = ((v2 / 59 : Nat) : Int) := by omega
    have hvb2 : v2 / 59 ≤ 1 := by omega
    generalize v2 / 59 = V2 at *
    have hw2 : IntKind.i64.wrap ((v1 : Int) + (V2 : Int)) = (v1 : Int) + V2 := by rw [IntKind.wrap_i64] <;> omega
    have kq := k1.trans_ k2 (fun _ _ h => h)
    have ho2 := (ho.alt kq (fun g hg e => by have := (ho.lt g hg).1; omega)).now
    have ha2 := ha.trans_ kq (fun _ _ h => h)
    have hz2 : HI ≤ w2.heap.size := by have := ha2.size; have := hHI.out; omega
    have hoA := ho2.alloc (.cells #[.int .i64 ((v1 : Int) + V2)] 3)
    have haA := ha2.alloc_ (.cells #[.int .i64 ((v1 : Int) + V2)] 3)
    have uA := u2.alt ((Alt.refl_ (fun _ => False) w2).alloc_ (.cells #[.int .i64 ((v1 : Int) + V2)] 3)) (fun h => h) (fun _ _ h => h)
    clear ho ha hu k1 k2 kq u1 u2 ha2 z1 z2 hsz
    go_wp2_with (at_builtin; refine Zaq _ rfl _ _ rfl rfl hoA rfl (Zak _ _ _ _ (by simp)) (by omega) oM ?_; intro A5 c5 w5 hown5 hg5 hat5)
    have a5' := haA.trans_ (Alt.of_grown (S := fun j' => (Value.slice A' j c').ownBlock = some j') hg5 (fun j' hj => hj)) (fun j' hj h => by have := (hoA.lt j' h).1; have := hHI.out; omega)
    have u5 := uA.alt (Alt.of_grown (S := fun j' => (Value.slice A' j c').ownBlock = some j') hg5 (fun j' hj => hj)) (fun h => by have := (hoA.lt _ h).1; omega) (fun j' hj h => by have := (hoA.lt j' h).1; have := hR j' hj; omega)
    have hz5' : HI ≤ w5.heap.size := by have := a5'.size; have := hHI.out; omega
    clear hoA haA uA hg5 hat5 hz2
    have hjg' := hjg.out
    go_wp2
    go_roundg (gK - 1)
    case rel => exact ⟨j + 1, _, _, _, _, by omega, by first | rfl | exact congrArg (Value.int .i64) (by omega), rfl, hown5, u5, by omega, a5', hz5'⟩
    case measure => omega
 ·go_wp2_with fail
  refine (Zdd A k d _ _ hL.reads (by omega) hpb.cap hpb.sh).mono ?_
  rintro e a2 ⟨rfl, b2⟩
  rw [decide_eq_false hg]
  have kb2 : Alt (fun _ => False) a1 a2 := Alt.of_new b2
  have hL2 := hL.alt kb2 (fun _ _ _ _ h => h)
  have kk2 := kk1.trans_ kb2 (fun _ _ h => h.elim)
  clear hL c1 kk1 b2 kb2
  go_wp2
  go_ret2
  exact ⟨_, A, none, k, d, 0, 0, [], rfl, hL2.reads, hpb, ⟨rfl, fun h => absurd h (Nat.lt_irrefl _)⟩, Nat.le_refl _, by omega, kk2.below_ lR (fun i hi e => by omega)⟩
end Go.Proofs.YtenknpcbbcbciaaGreat
