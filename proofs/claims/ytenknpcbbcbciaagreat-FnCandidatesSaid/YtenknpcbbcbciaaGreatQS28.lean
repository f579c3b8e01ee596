/- The width of a line, the reference's laWidth, at one kind of lines. Widths from 0 to 10, texts below 2^21 bytes. -/
import Derived.Test.YtenknpcbbcbciaaGreatQS26
namespace Go.Proofs.YtenknpcbbcbciaaGreat
open Go.RowKit
set_option linter.unusedVariables false
set_option linter.unusedSimpArgs false
set_option maxRecDepth 100000 in
set_option maxHeartbeats 4000000 in
theorem laWidth_1 (op nm : Str) (ps : List Str) (N : Nat) (hNp : Hid (ps.length = N)) (P : Option Addr) (q : Nat) (pt wd vl : Int) (A : Option Addr) (n c : Nat) (l : List Ln) (B : Option Addr) (m d : Nat) (ws : List Int) (w : World)
 (ha : RLn w A n l) (hb : RI w B m ws) (hp : RX w P N ps) (hws : ∀ z ∈ ws, 0 ≤ z ∧ z ≤ 10) (hsn : shortS nm) (hso : shortS op) (hn : n ≤ 2097152) (hnm : n ≤ m) (hm : m ≤ 2097152) (hN2 : N ≤ 2097152) :
 Calls Tryz.prog 134 #[.slice A n c, .slice B m d, .agg #[.int .i64 1, .string (bs nm), .string (bs op), .slice P N q, .int .i64 pt, .int .i64 wd, .int .i64 vl]] w fun e w' => e = .returned (.int .i64 (sW l ws ⟨1, nm, op, ps, pt, wd, vl⟩)) ∧ Below w.heap.size w w' := by
 have hB0 : Below w.heap.size w (w.alloc (.cells #[.int .i64 1, .string (bs nm), .string (bs op), .slice P N q, .int .i64 pt, .int .i64 wd, .int .i64 vl] 89)) := bA
 have hone := LnAt.new w ⟨1, nm, op, ps, pt, wd, vl⟩ P q 89
 dsimp only at hone
 rw [hNp.out] at hone
 have ha0 := ha.below hB0 lR
 have hb0 := hb.below hB0 lR
 have hp0 := hp.below hB0 lR
 have hbl := hb.len
 have hll := ha.len
 have hsz : (w.alloc (.cells #[.int .i64 1, .string (bs nm), .string (bs op), .slice P N q, .int .i64 pt, .int .i64 wd, .int .i64 vl] 89)).heap.size = w.heap.size + 1 := by simp
 clear ha hb hp
 go_enter Tryz.func134, Tryz.ntmps134
 go_wp2_with fail
 generalize hwa : w.alloc (.cells #[.int .i64 1, .string (bs nm), .string (bs op), .slice P N q, .int .i64 pt, .int .i64 wd, .int .i64 vl] 89) = W1 at *
 clear hwa
 have hst : Own W1 (w.heap.size + 1) W1.heap.size (.slice none 0 0) 0 [] := Own.none_ _ _ _
 go_loopw [7, 15] (fun r i wr => ∃ (j : Nat) (R : Option Addr) (rc : Nat) (v : List Int), j ≤ N ∧ i = .int .i64 j ∧ r = .slice R j rc ∧ Hid (pw (sFind l) ws (ps.take j) = some v) ∧ Own wr (w.heap.size + 1) wr.heap.size (.slice R j rc) j v ∧ Below (w.heap.size + 1) W1 wr) (fun _ i _ => N - (intOf i).toNat)
 case atStart => exact ⟨0, _, _, [], Nat.zero_le _, rfl, rfl, zH rfl, hst, Below.refl _ _⟩
 case round =>
  obtain ⟨j, R, rc, xs, hj, rfl, rfl, hpw, hown, hb2⟩ := hrel
  clear hst
  have hz2 := hb2.size
  have hpl := hNp.out
  by_cases hlt : j < N
  ·obtain ⟨pb, po, hP, hpb, hpc⟩ := (hp0.below hb2 (by omega)).at_ hlt
   subst hP
   have hl3 := ha0.below hb2 (by omega)
   have hbb := hb0.below hb2 (by omega)
   have hfb := Zdp (sP (sx ps j)) l
   have hnone : Hid (sFind l (sx ps j) < 0 → sW l ws ⟨1, nm, op, ps, pt, wd, vl⟩ = 0) := zH (fun h => by unfold sW; rw [pw_none (j := j) (by show j < ps.length; omega) (by show sFind l ps[j] < 0; rw [show ps[j] = sx ps j by simp [sx, show j < ps.length by omega]]; exact h)])
   have hsnoc : Hid (ps.take (j + 1) = ps.take j ++ [sx ps j]) := zH (by rw [List.take_succ_eq_append_getElem (by omega)]; simp [sx, show j < ps.length by omega])
   clear hpl
   obtain ⟨s, hs⟩ := lT (sx ps j)
   rw [hs.out] at hpc hfb hnone hsnoc
   go_wp2_with fail
   refine (Zbe A n c l s _ hl3 (by omega)).mono ?_
   rintro e w4 ⟨rfl, hb4⟩
   have hb24 := hb2.trans (hb4.mono (by omega))
   have hz4 := hb4.size
   by_cases hneg : sFind l s < 0
   ·have HG := zH (hnone.out hneg)
    have HB4 : Below w.heap.size w w4 := hB0.trans (hb24.mono (by omega))
    obtain ⟨F0, hF0⟩ := lT (sFind l s)
    rw [hF0.out] at hneg ⊢
    go_wp2
    go_ret
    exact ⟨by rw [HG.out]; rfl, HB4⟩
   ·have hfb2 : sFind l s < n := by have := hfb.2; unfold sFind; omega
    obtain ⟨F, hF⟩ := Int.eq_ofNat_of_zero_le (show 0 ≤ sFind l s by omega)
    have hFk : F < m := by omega
    have HP : Hid (pw (sFind l) ws (ps.take (j + 1)) = some (xs ++ [gi ws F])) := zH (by
     rw [hsnoc.out, pw_snoc, hpw.out]; simp [hF])
    obtain ⟨g, go, rfl, hgl, cF⟩ := (hbb.below hb4 (by omega)).at_ hFk
    have hown24 := hown.below hb4 (.inl lR)
    have hnF : ¬ (F : Int) < 0 := by omega
    rw [hF]
    obtain ⟨u, hu⟩ := lT (gi ws F)
    rw [hu.out] at cF HP
    have hA := hown24.alloc (.cells #[.int .i64 u] 3)
    clear hF hneg hfb hfb2 hpc hnone
    go_wp2_with (at_builtin; refine Zae _ rfl _ _ rfl rfl hA rfl (Zaj _ _ _ _ (by simp)) (by omega) oM ?_; intro A5 c5 w5 hown5 hg5 hat5 hk5)
    have hb5 := Zah (hb24.alloc (by omega) (.cells #[.int .i64 u] 3)) hA hg5 (by simp; omega) lR
    go_wp2
    go_roundw
    case rel => exact ⟨j + 1, A5, c5, xs ++ [u], by omega, by go_num, rfl, HP, hown5, hb5⟩
    case measure => simp [intOf]; omega
  ·obtain rfl : j = N := by omega
   have hpwA : Hid (pw (sFind l) ws ps = some xs) := zH (by have := hpw.out; rwa [List.take_of_length_le (by omega)] at this)
   have hvb := pw_bd hws (by omega) _ _ hpwA.out
   have hxl := hown.len
   have hrd := hown.reads
   have hRl : ∀ g o, R = some ⟨g, o, none⟩ → 0 < j → g < wr.heap.size := fun g o hA h0 => by
    obtain ⟨b', o', hA', hlt', _⟩ := hrd.2 h0
    rw [hA] at hA'
    simp only [Option.some.injEq, Addr.mk.injEq, and_true] at hA'
    omega
   have hone2 := LnAt.below (B := w.heap.size + 1) hone hb2 (by omega)
   have hone3 := hone2
   have ha2 := ha0.below hb2 (by omega)
   have hB2 : Below w.heap.size w wr := hB0.trans (hb2.mono (by omega))
   have hS9 : w.heap.size < wr.heap.size := by omega
   clear hpl hb2 hB0 hone ha0 hb0 hp0 hpw hown hlt
   obtain ⟨c0, c1, c2, c3, c4, c5, c6⟩ := hone2
   simp only [Nat.zero_add] at c1 c2 c3 c4 c5 c6
   dsimp only at c0 c1 c2 c3 c4 c5 c6
   rw [hNp.out] at c3
   have eb1 := eb_is
   have eb2 := Zeg
   have eb3 : (bs []).toList = [] := Zbp []
   have sn : ((bs nm).toList != (bs nm).toList) = false := by simp
   have so : ((bs op).toList != (bs op).toList) = false := by simp
   have sp : (pt != pt) = false := by simp
   have sd : (wd != wd) = false := by simp
   have sv : (vl != vl) = false := by simp
   cases hB : nmB nm with
   | false =>
    have HB := zH hB
    have HR : Hid (sW l ws ⟨1, nm, op, ps, pt, wd, vl⟩ = 0) := zH (by rw [Zam (x := ⟨1, nm, op, ps, pt, wd, vl⟩) hpwA.out]; simp [bareB, partsN, kindW, hB])
    clear hB 
    go_wp2_with fail
    refine (Zbr nm _ hsn).mono ?_
    rintro e w8 ⟨rfl, rfl⟩
    rw [HB.out]
    go_wp2
    all_goals (go_ret; exact ⟨by rw [HR.out]; rfl, fin2⟩)
   | true =>
    have HB := zH hB
    clear hB
    go_wp2_with fail
    refine (Zbr nm _ hsn).mono ?_
    rintro e w8 ⟨rfl, rfl⟩
    rw [HB.out]
    have hla9 := (ha2.below ((Below.refl _ wr).alloc lR (.cells #[.int .i64 1, .string (bs nm), .string (bs op), .slice P j q, .int .i64 pt, .int .i64 wd, .int .i64 vl] 89)) lR)
    go_wp2_with fail
    refine (Zbe A n c l nm _ hla9 hn).mono ?_
    rintro e w9 ⟨rfl, hb9⟩
    have hAL : Below wr.heap.size wr (wr.alloc (.cells #[.int .i64 1, .string (bs nm), .string (bs op), .slice P j q, .int .i64 pt, .int .i64 wd, .int .i64 vl] 89)) := bA
    have hWB := hAL.trans (hb9.mono hAL.size)
    have hone9 := hone3.below hWB hS9
    have hn0 := LnAt.new wr ⟨1, nm, op, ps, pt, wd, vl⟩ P q 89
    dsimp only at hn0
    rw [hNp.out] at hn0
    have hnew9 := hn0.below hb9 (by rw [World.size_alloc]; omega)
    have hfz9 : ∀ r, w9.frozen? ⟨wr.heap.size, r, none⟩ = false := fun r => (hb9.frozen (p := ⟨wr.heap.size, r, none⟩) (by rw [World.size_alloc]; show wr.heap.size < wr.heap.size + 1; omega)).trans (World.frozen?_alloc_at _ _ _ _ rfl)
    have hrd9 : RI w9 R j xs := hrd.below hWB lR
    have hB9 := hB2.trans (hWB.mono hB2.size)
    have hz9 := hb9.size
    rw [World.size_alloc] at hz9
    clear hn0 hAL hWB
    clear c0 c1 c2 c3 c4 c5 c6 hrd
    obtain ⟨c0, c1, c2, c3, c4, c5, c6⟩ := hone9
    obtain ⟨d0, d1, d2, d3, d4, d5, d6⟩ := hnew9
    simp only [Nat.zero_add] at c1 c2 c3 c4 c5 c6 d1 d2 d3 d4 d5 d6
    dsimp only at c0 c1 c2 c3 c4 c5 c6 d0 d1 d2 d3 d4 d5 d6
    rw [hNp.out] at c3 d3
    have z0 := hfz9 0; have z1 := hfz9 1; have z2 := hfz9 2; have z4 := hfz9 4; have z5 := hfz9 5; have z6 := hfz9 6
    clear hfz9 ha2 hB2 hone3 hla9 hb9
    have hrd := hrd9
    clear hrd9
    by_cases hK : sFind l nm < 0
    ·have tk : ¬ (0 : Int) ≤ sFind l nm := by omega
     have tk2 : ¬ (sFind l nm ≥ 0) := by omega
     have hKK : sFind l nm < 0 := hK
     obtain ⟨SF, hSF⟩ := lT (sFind l nm)
     have HSF : Hid (sFind l nm < 0) := zH hK
     rw [hSF.out] at tk tk2 hKK hK ⊢
     have HBB := HB.out
     by_cases eop : op = []
     ·subst eop
      by_cases evl : vl = 0
      ·subst evl
       by_cases hN : j = 0
       ·subst hN
        have hl1 : xs.length = 0 := hxl
        cases hF : inB 0 1 pt with
        | false =>
         have HF := zH hF
         have HR : Hid (sW l ws ⟨1, nm, [], ps, pt, wd, 0⟩ = 0) := zH (by rw [Zam (x := ⟨1, nm, [], ps, pt, wd, 0⟩) hpwA.out]; simp [bareB, partsN, kindW, HB.out, HSF.out, hl1, hF])
         clear hF HBB 
         go_wp2_with fail
         refine (Zbn 1 _).mono ?_
         rintro e w7 ⟨rfl, rfl⟩
         go_wp2_with fail
         refine (Zau pt 0 1 false HF.out _).mono ?_
         rintro e w5 ⟨rfl, rfl⟩
         go_wp2
         all_goals (go_ret; exact ⟨by rw [HR.out]; rfl, fin2⟩)
        | true =>
         have HF := zH hF
         cases hG : inB 1 10 wd with
         | false =>
          have HG := zH hG
          have HR : Hid (sW l ws ⟨1, nm, [], ps, pt, wd, 0⟩ = 0) := zH (by rw [Zam (x := ⟨1, nm, [], ps, pt, wd, 0⟩) hpwA.out]; simp [bareB, partsN, kindW, HB.out, HSF.out, hl1, hF, hG])
          clear hF hG HBB 
          go_wp2_with fail
          refine (Zbn 1 _).mono ?_
          rintro e w7 ⟨rfl, rfl⟩
          go_wp2_with fail
          refine (Zau pt 0 1 true HF.out _).mono ?_
          rintro e w5 ⟨rfl, rfl⟩
          go_wp2_with fail
          refine (Zau wd 1 10 false HG.out _).mono ?_
          rintro e w6 ⟨rfl, rfl⟩
          go_wp2
          all_goals (go_ret; exact ⟨by rw [HR.out]; rfl, fin2⟩)
         | true =>
          have HG := zH hG
          have HR : Hid (sW l ws ⟨1, nm, [], ps, pt, wd, 0⟩ = wd) := zH (by rw [Zam (x := ⟨1, nm, [], ps, pt, wd, 0⟩) hpwA.out]; simp [bareB, partsN, kindW, HB.out, HSF.out, hl1, hF, hG])
          clear hF hG HBB 
          go_wp2_with fail
          refine (Zbn 1 _).mono ?_
          rintro e w7 ⟨rfl, rfl⟩
          go_wp2_with fail
          refine (Zau pt 0 1 true HF.out _).mono ?_
          rintro e w5 ⟨rfl, rfl⟩
          go_wp2_with fail
          refine (Zau wd 1 10 true HG.out _).mono ?_
          rintro e w6 ⟨rfl, rfl⟩
          go_wp2
          all_goals (go_ret; exact ⟨by rw [HR.out]; rfl, fin2⟩)
       ·have tm : ((j : Int) == 0) = false := by simp; omega
        have tm2 : ((j : Int) != 0) = true := by simp; omega
        have hl1 : ¬ xs.length = 0 := by omega
        have HR : Hid (sW l ws ⟨1, nm, [], ps, pt, wd, 0⟩ = 0) := zH (by rw [Zam (x := ⟨1, nm, [], ps, pt, wd, 0⟩) hpwA.out]; simp [bareB, partsN, kindW, HB.out, HSF.out, hl1])
        clear hl1 hN HBB 
        go_wp2
        all_goals (go_ret; exact ⟨by rw [HR.out]; rfl, fin2⟩)
      ·have tovl : (vl == 0) = false := by simp [evl]
       have tnvl : ((0 : Int) == vl) = false := by simp; omega
       have tbvl : ((0 : Int) != vl) = true := by simp; omega
       have tcvl : (vl != 0) = true := by simp; omega
       have HR : Hid (sW l ws ⟨1, nm, [], ps, pt, wd, vl⟩ = 0) := zH (by rw [Zam (x := ⟨1, nm, [], ps, pt, wd, vl⟩) hpwA.out]; simp [bareB, partsN, kindW, HB.out, HSF.out, evl])
       clear HBB  evl
       go_wp2
       all_goals (go_ret; exact ⟨by rw [HR.out]; rfl, fin2⟩)
     ·have to1 := Zdk eop
      have to2 := Zcp eop
      have to3 := Zac eop
      have to4 := Zbd eop
      have to5 := Zdm eop
      have to6 := Zcq eop
      have HR : Hid (sW l ws ⟨1, nm, op, ps, pt, wd, vl⟩ = 0) := zH (by rw [Zam (x := ⟨1, nm, op, ps, pt, wd, vl⟩) hpwA.out]; simp [bareB, partsN, kindW, HB.out, HSF.out, eop])
      clear HBB  eop
      go_wp2
      all_goals (go_ret; exact ⟨by rw [HR.out]; rfl, fin2⟩)
    ·have tk : (0 : Int) ≤ sFind l nm := by omega
     obtain ⟨SF, hSF⟩ := lT (sFind l nm)
     have HSF : Hid (¬ sFind l nm < 0) := zH hK
     rw [hSF.out] at tk hK ⊢
     have HR : Hid (sW l ws ⟨1, nm, op, ps, pt, wd, vl⟩ = 0) := zH (by rw [Zam (x := ⟨1, nm, op, ps, pt, wd, vl⟩) hpwA.out]; simp [bareB, partsN, kindW, HB.out, HSF.out])
     go_wp2
     all_goals (go_ret; exact ⟨by rw [HR.out]; rfl, fin2⟩)
end Go.Proofs.YtenknpcbbcbciaaGreat
