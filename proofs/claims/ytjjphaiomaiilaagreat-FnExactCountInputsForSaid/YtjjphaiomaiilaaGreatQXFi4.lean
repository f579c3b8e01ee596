/- The contract of the program's RunCompiled. Texts below 2^21 bytes. -/
import Derived.Test.YtjjphaiomaiilaaGreatQXFi3
import Derived.Test.YtjjphaiomaiilaaGreatQXFi2
import Derived.Test.YtjjphaiomaiilaaGreatQA
namespace Go.Proofs.YtjjphaiomaiilaaGreat
open Go.RowKit
set_option linter.unusedVariables false
set_option linter.unusedSimpArgs false
def runB (l : List Ln) (bits : List Int) : List Int := pick (vals (cc l).g bits (cc l).g.length) (cc l).os
theorem runB_len (l : List Ln) (bits : List Int) : (runB l bits).length = (cc l).os.length := pick_len _ _
structure CiD (l : List Ln) : Prop where
  ng : (cc l).g.length ≤ 300
  no : (cc l).os.length ≤ 40
  gat : ∀ n : Nat, (n : Int) = sumI (insL l 0) + sumI (insL l 1) → gatesB n (cc l).g (cc l).g.length = true
  out : ∀ n : Nat, (n : Int) = sumI (insL l 0) + sumI (insL l 1) → allB 0 (((n + (cc l).g.length : Nat) : Int) - 1) (cc l).os = true
  offs : offs (outsL l) (outsL l).length = (cc l).os.length
  x : 0 ≤ sumI (insL l 0) ∧ sumI (insL l 0) ≤ 20
  y : 0 ≤ sumI (insL l 1) ∧ sumI (insL l 1) ≤ 20
theorem coB_data {l : List Ln} (h : coB l = true) : CiD l := by
  obtain ⟨hgd, hcb⟩ := coB_good h
  obtain ⟨hx, hy, hng, hno, hgat, hos⟩ := circB_parts hcb
  refine ⟨hng, hno, fun n hn => by rw [hn]; exact hgat, fun n hn => ?_, ?_, hx, hy⟩
  · have : (((n + (cc l).g.length : Nat) : Int) - 1) = sumI (insL l 0) + sumI (insL l 1) + (cc l).g.length - 1 := by omega
    rw [this]; exact hos
  · have h1 := offs_all (outsL_bd hgd.2.1)
    have h2 := coB_os hgd
    omega
theorem runB_bd {l : List Ln} (h : CiD l) {bits : List Int} (hb : allB 0 1 bits = true) (hl : (bits.length : Int) = sumI (insL l 0) + sumI (insL l 1)) : allB 0 1 (runB l bits) = true := by
  refine pick_bd (vals_bd (n := (bits.length : Int)) rfl hb _ _ (Nat.le_refl _) (h.gat _ hl)) ?_
  rw [vals_len]; exact h.out _ hl
def rcF (l : List Ln) (xs ys : List Int) : Option (List Int) :=
  if coB l = true ∧ fitB (insL l 0) xs = true ∧ fitB (insL l 1) ys = true then some (numK (outsL l) (runB l (bitsK (insL l 0) xs (insL l 0).length ++ bitsK (insL l 1) ys (insL l 1).length)) (outsL l).length) else none
theorem rcF_len (l : List Ln) (xs ys : List Int) : ((rcF l xs ys).getD []).length ≤ 10 := by
  unfold rcF
  split
  · rename_i h
    simp only [Option.getD_some, numK_len]
    exact outs10 (coB_good h.1).1
  · simp
set_option maxRecDepth 100000 in
set_option maxHeartbeats 3200000 in
theorem RunCompiled_any (A B C : Option Addr) (n c m d r q : Nat) (l : List Ln) (xs ys : List Int) (w : World) (ha : RLn w A n l) (hn : n ≤ 2097152) (hcap : n ≤ c) (hsh : ∀ x ∈ l, shortL x) (hb : RI w B m xs) (hm : m ≤ 2097152) (hc : RI w C r ys) (hr : r ≤ 2097152) :
    Calls Tryz.prog 38 #[.slice A n c, .slice B m d, .slice C r q] w (RetO w (rcF l xs ys)) := by
  cases hg : coB l with
  | false =>
    have HR : Hid (rcF l xs ys = none) := Lib.hid (if_neg (fun h => by rw [hg] at h; cases h.1))
    go_enter Tryz.func38, Tryz.ntmps38
    go_wp2_with fail
    refine (compileValid_no A n c l _ ha hn hcap hsh hg).mono ?_
    rintro e w1 ⟨rfl, hb1⟩
    have hB := hb1.alloc hb1.size (.cells #[.int .i64 0, .int .i64 0, .slice none 0 0, .slice none 0 0, .slice none 0 0, .slice none 0 0] 71)
    clear hg
    go_wp2
    go_ret2
    exact RetO.none_ hB HR.out rfl
  | true =>
    have H0 := Lib.hid hg
    have hD := Lib.hid (coB_data hg)
    have hgd := (coB_good hg).1
    have hl := ha.len
    subst hl
    go_enter Tryz.func38, Tryz.ntmps38
    go_wp2_with fail
    refine (compileValid_ok A l.length c l _ ha hn hcap hsh hg).mono ?_
    rintro e w1 hT
    obtain ⟨Ag, cg, Oa, oc, Ea, ec, Wa, wc, bl, rfl, hC, hE, hW, hb1⟩ := hT
    have al1 : Below w1.heap.size w1 (w1.alloc (.cells #[.int .i64 (sumI (insL l 0)), .int .i64 (sumI (insL l 1)), .slice Ag (cc l).g.length cg, .slice Oa (cc l).os.length oc, .slice Wa l.length wc, .slice Ea l.length ec] 71)) := (Below.refl _ _).alloc (Nat.le_refl _) _
    have hx : Bx6 (w1.alloc (.cells #[.int .i64 (sumI (insL l 0)), .int .i64 (sumI (insL l 1)), .slice Ag (cc l).g.length cg, .slice Oa (cc l).os.length oc, .slice Wa l.length wc, .slice Ea l.length ec] 71)) w1.heap.size _ _ _ _ _ _ := Bx6.new w1 (.int .i64 (sumI (insL l 0))) (.int .i64 (sumI (insL l 1))) (.slice Ag (cc l).g.length cg) (.slice Oa (cc l).os.length oc) (.slice Wa l.length wc) (.slice Ea l.length ec) 71
    have hB := hb1.trans (al1.mono hb1.size)
    have hG1 := hC.1.reads.below al1 (Nat.le_refl _)
    have hO1 := hC.2.1.reads.below al1 (Nat.le_refl _)
    clear hg hC hE hW
    cases hf : (fitB (insL l 0) xs && fitB (insL l 1) ys) with
    | false =>
      have HR : Hid (rcF l xs ys = none) := Lib.hid (if_neg (fun h => by rw [h.2.1, h.2.2] at hf; cases hf))
      have HF := Lib.hid hf
      clear hf
      go_wp2_with fail
      refine (areValues_any A B C l.length c m d r q l xs ys _ (ha.below hB (Nat.le_refl _)) hn hcap hsh (hb.below hB (Nat.le_refl _)) hm (hc.below hB (Nat.le_refl _)) hr hgd).mono ?_
      rintro e w2 ⟨rfl, hb2⟩
      rw [HF.out]
      go_wp2
      go_ret2
      exact RetO.none_ (hB.trans (hb2.mono hB.size)) HR.out rfl
    | true =>
      have HF := Lib.hid hf
      rw [Bool.and_eq_true] at hf
      have hw0 := insL_bd hgd.2.1 0
      have hw1 := insL_bd hgd.2.1 1
      have hw2 := outsL_bd hgd.2.1
      have hL0 := insL_len l 0
      have hL1 := insL_len l 1
      have hL2 := outs10 hgd
      have hn30 := hgd.1
      obtain ⟨e0, f0⟩ := fit_1023 hf.1 hw0
      obtain ⟨e1, f1⟩ := fit_1023 hf.2 hw1
      obtain rfl : m = (insL l 0).length := by rw [e0, hb.len]
      obtain rfl : r = (insL l 1).length := by rw [e1, hc.len]
      have HR : Hid (rcF l xs ys = some (numK (outsL l) (runB l (bitsK (insL l 0) xs (insL l 0).length ++ bitsK (insL l 1) ys (insL l 1).length)) (outsL l).length)) := Lib.hid (if_pos ⟨H0.out, hf.1, hf.2⟩)
      have ho0 : (if inB 0 1 0 = true then byO (fun x => decide (x.kind = 1) && decide (x.party = 0)) l else none) = some (insL l 0) := by rw [if_pos (show inB 0 1 0 = true from rfl), byO_in, if_pos hgd]
      have ho1 : (if inB 0 1 1 = true then byO (fun x => decide (x.kind = 1) && decide (x.party = 1)) l else none) = some (insL l 1) := by rw [if_pos (show inB 0 1 1 = true from rfl), byO_in, if_pos hgd]
      have ho2 : byO (fun x => decide (x.kind = 6)) l = some (outsL l) := by rw [byO_out, if_pos hgd]
      clear hf e0 e1
      go_wp2_with fail
      refine (areValues_any A B C l.length c (insL l 0).length d (insL l 1).length q l xs ys _ (ha.below hB (Nat.le_refl _)) hn hcap hsh (hb.below hB (Nat.le_refl _)) hm (hc.below hB (Nat.le_refl _)) hr hgd).mono ?_
      rintro e w2 ⟨rfl, hb2⟩
      rw [HF.out]
      have hB2 := hB.trans (hb2.mono hB.size)
      have hq0 := InputWidths_any A l.length c 0 l w2 (ha.below hB2 (Nat.le_refl _)) hn hcap hsh
      rw [ho0] at hq0
      go_wp2_with fail
      refine (hq0).mono ?_
      rintro e w3 hT
      obtain ⟨A1, c1, rfl, p1, hb3⟩ := RetO.open_some hT rfl
      have hB3 := hB2.trans (hb3.mono hB2.size)
      have hq1 := InputWidths_any A l.length c 1 l w3 (ha.below hB3 (Nat.le_refl _)) hn hcap hsh
      rw [ho1] at hq1
      clear hT hq0
      go_wp2_with fail
      refine (hq1).mono ?_
      rintro e w4 hT
      obtain ⟨A2, c2, rfl, p2, hb4⟩ := RetO.open_some hT rfl
      have hB4 := hB3.trans (hb4.mono hB3.size)
      have hq2 := OutWidths_any A l.length c l w4 (ha.below hB4 (Nat.le_refl _)) hn hcap hsh
      rw [ho2] at hq2
      clear hT hq1
      go_wp2_with fail
      refine (hq2).mono ?_
      rintro e w5 hT
      obtain ⟨A3, c3, rfl, p3, hb5⟩ := RetO.open_some hT rfl
      have hB5 := hB4.trans (hb5.mono hB4.size)
      have h25 : Below w2.heap.size w2 w5 := (hb3.trans (hb4.mono hb3.size)).trans (hb5.mono (hb3.trans (hb4.mono hb3.size)).size)
      have hbx : Below (w1.alloc (.cells #[.int .i64 (sumI (insL l 0)), .int .i64 (sumI (insL l 1)), .slice Ag (cc l).g.length cg, .slice Oa (cc l).os.length oc, .slice Wa l.length wc, .slice Ea l.length ec] 71)).heap.size (w1.alloc (.cells #[.int .i64 (sumI (insL l 0)), .int .i64 (sumI (insL l 1)), .slice Ag (cc l).g.length cg, .slice Oa (cc l).os.length oc, .slice Wa l.length wc, .slice Ea l.length ec] 71)) w5 := hb2.trans (h25.mono hb2.size)
      have hx5 := hx.below hbx
      have g5 := hG1.below hbx (Nat.le_refl _)
      have o5 := hO1.below hbx (Nat.le_refl _)
      have r1 := (p1.reads.below hb4 (Nat.le_refl _)).below hb5 (Nat.le_refl _)
      have r2 := p2.reads.below hb5 (Nat.le_refl _)
      have r3 := p3.reads
      have rb := hb.below hB5 (Nat.le_refl _)
      have rc := hc.below hB5 (Nat.le_refl _)
      clear hT hq2 ho0 ho1 ho2 p1 p2 p3 hb1 hb2 hb3 hb4 hb5 hB2 hB3 hB4 hB hx hG1 hO1 al1 hbx h25 ha hsh hb hc
      have hD' := hD.out
      have hx0 := hD'.x
      have hy0 := hD'.y
      have s0 := offs_all hw0
      have s1 := offs_all hw1
      obtain ⟨X, hX⟩ : ∃ X, Hid (offs (insL l 0) (insL l 0).length = X) := ⟨_, Lib.hid rfl⟩
      obtain ⟨Y, hY⟩ : ∃ Y, Hid (offs (insL l 1) (insL l 1).length = Y) := ⟨_, Lib.hid rfl⟩
      have b0 := bitsK_len hw0 xs (insL l 0).length (Nat.le_refl _)
      have b1 := bitsK_len hw1 ys (insL l 1).length (Nat.le_refl _)
      rw [hX.out] at s0 b0
      rw [hY.out] at s1 b1
      have hgat := hD'.gat (X + Y) (by omega)
      have hout := hD'.out (X + Y) (by omega)
      have hofs := hD'.offs
      have hng := hD'.ng
      have hno := hD'.no
      have hbits : allB 0 1 (bitsK (insL l 0) xs (insL l 0).length ++ bitsK (insL l 1) ys (insL l 1).length) = true := allB_iff.2 fun z hz => (List.mem_append.1 hz).elim (fun h => allB_iff.1 (bitsK_bd _ _ _) z h) (fun h => allB_iff.1 (bitsK_bd _ _ _) z h)
      have hrun := runB_bd hD' hbits (by rw [List.length_append, b0, b1]; omega)
      have hrl := runB_len l (bitsK (insL l 0) xs (insL l 0).length ++ bitsK (insL l 1) ys (insL l 1).length)
      have hrb : Hid (pick (vals (cc l).g (bitsK (insL l 0) xs (insL l 0).length ++ bitsK (insL l 1) ys (insL l 1).length) (cc l).g.length) (cc l).os = runB l (bitsK (insL l 0) xs (insL l 0).length ++ bitsK (insL l 1) ys (insL l 1).length)) := Lib.hid rfl
      have hvl : (vals (cc l).g (bitsK (insL l 0) xs (insL l 0).length ++ bitsK (insL l 1) ys (insL l 1).length) (cc l).g.length).length = X + Y + (cc l).g.length := by rw [vals_len, List.length_append, b0, b1]
      obtain ⟨b0s, h0s⟩ : ∃ b, Hid (bitsK (insL l 0) xs (insL l 0).length = b) := ⟨_, Lib.hid rfl⟩
      obtain ⟨b1s, h1s⟩ : ∃ b, Hid (bitsK (insL l 1) ys (insL l 1).length = b) := ⟨_, Lib.hid rfl⟩
      rw [h0s.out, h1s.out] at hbits hrun hrl hrb hvl HR
      rw [h0s.out] at b0
      rw [h1s.out] at b1
      obtain ⟨ng, hngl⟩ : ∃ ng, Hid ((cc l).g.length = ng) := ⟨_, Lib.hid rfl⟩
      obtain ⟨no, hnol⟩ : ∃ no, Hid ((cc l).os.length = no) := ⟨_, Lib.hid rfl⟩
      rw [hngl.out] at hx5 g5 hgat hout hng hvl hrb ⊢
      rw [hnol.out] at hx5 o5 hofs hno hrl ⊢
      obtain ⟨k0, k1, k2, k3, _, _⟩ := hx5
      clear hD' hD hX hY
      go_wp2_with fail
      go_region_held3 (fun w' => w'.cell? ⟨w1.heap.size, 0, none⟩ = some (.int .i64 (sumI (insL l 0))) ∧ w'.cell? ⟨w1.heap.size, 1, none⟩ = some (.int .i64 (sumI (insL l 1))) ∧ w'.cell? ⟨w1.heap.size, 2, none⟩ = some (.slice Ag ng cg) ∧ w'.cell? ⟨w1.heap.size, 3, none⟩ = some (.slice Oa no oc))
        (first | go_keep | (go_split_ands; exact ⟨cell_below (by assumption) i7, cell_below (by assumption) i7, cell_below (by assumption) i7, cell_below (by assumption) i7⟩) | (go_split_ands; exact ⟨cell_below (by assumption) i6, cell_below (by assumption) i6, cell_below (by assumption) i6, cell_below (by assumption) i6⟩) | (go_split_ands; exact ⟨cell_below (by assumption) i5, cell_below (by assumption) i5, cell_below (by assumption) i5, cell_below (by assumption) i5⟩) | (go_split_ands; exact ⟨cell_below (by assumption) i4, cell_below (by assumption) i4, cell_below (by assumption) i4, cell_below (by assumption) i4⟩) | ((try dsimp only); (repeat' apply And.intro) <;> go_keep))
        (first | (go_at_call_of 71 (Value.slice B (insL l 0).length d); refine (inputBits_any A1 B (insL l 0).length c1 (insL l 0).length d (insL l 0) xs _ (r1.drewN 1) (rb.drewN 1) (by omega) hw0 f0).mono ?_; rintro e w6 hT6; rw [h0s.out] at hT6; obtain ⟨A6, c6, rfl, p6, i4⟩ := RetI.open_ hT6 b0) | (go_at_call_of 71 (Value.slice C (insL l 1).length q); refine (inputBits_any A2 C (insL l 1).length c2 (insL l 1).length q (insL l 1) ys _ ((r2.drewN 1).below i4 (Nat.le_refl _)) ((rc.drewN 1).below i4 (Nat.le_refl _)) (by omega) hw1 f1).mono ?_; rintro e w7 hT7; rw [h1s.out] at hT7; obtain ⟨A7, c7, rfl, p7, i5⟩ := RetI.open_ hT7 b1) | (go_at_call 87; refine (with_any A6 A7 X c6 Y c7 b0s b1s _ (p6.reads.below i5 (Nat.le_refl _)) p7.reads (by omega) (by omega)).mono ?_; rintro e w8 ⟨A8, c8, rfl, p8, i6⟩) | (go_at_call 80; refine (Circuit_values_any (sumI (insL l 0)) (sumI (insL l 1)) Ag ng cg Oa no oc A8 (X + Y) c8 (cc l).g (b0s ++ b1s) _ ((((show RG (w5.drewN 1) Ag ng (cc l).g from g5).below i4 (Nat.le_refl _)).below i5 (Nat.le_refl _)).below i6 (Nat.le_refl _)) p8.reads hbits hgat hng (by omega)).mono ?_; rintro e w9 hT9; obtain ⟨A9, c9, rfl, p9, i7⟩ := RetI.open_ hT9 hvl))
      have j5 : Below w5.heap.size w5 w9 := bnext (bnext (bnext (bnext (below_of_drewN 1) i4) i5) i6) i7
      have q3 := cell_bel k3 j5
      have o9 := o5.below j5 (Nat.le_refl _)
      have r9 := r3.below j5 (Nat.le_refl _)
      have hB9 := hB5.trans (j5.mono hB5.size)
      clear i4 i5 i6 i7 j5 k0 k1 k2 k3 g5 o5 r1 r2 r3 rb rc hB5 p6 p7 p8
      go_wp2_with fail
      refine (at_any A9 Oa (X + Y + ng) c9 no oc (vals (cc l).g (b0s ++ b1s) ng) (cc l).os _ p9.reads o9 (by omega) (by omega) hout).mono ?_
      rintro e w10 hT
      rw [hrb.out] at hT
      obtain ⟨A10, c10, rfl, p10, i10⟩ := RetI.open_ hT hrl
      have hcap10 := p10.cap
      go_wp2_with fail
      refine (numbersOf_any A3 A10 (outsL l).length c3 no c10 (outsL l) _ _ (r9.below i10 (Nat.le_refl _)) p10.reads (by omega) (by omega) hcap10 hw2 hrun hofs).mono ?_
      rintro e w11 hT2
      obtain ⟨A11, c11, rfl, p11, i11⟩ := RetI.open_ hT2 (numK_len _ _ _)
      have hB10 := hB9.trans (i10.mono hB9.size)
      go_wp2
      go_ret2
      exact RetO.some_ (hB10.trans (i11.mono hB10.size)) HR.out (numK_len _ _ _) rfl (p11.lo_ hB10.size)
end Go.Proofs.YtjjphaiomaiilaaGreat
