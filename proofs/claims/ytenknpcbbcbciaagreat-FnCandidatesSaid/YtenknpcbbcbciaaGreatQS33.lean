/- Drawn widths and numbers: a small number comes back. -/
import Derived.Test.YtenknpcbbcbciaaGreatQS27
import Derived.Test.YtenknpcbbcbciaaGreatQS28
import Derived.Test.YtenknpcbbcbciaaGreatQS29
import Derived.Test.YtenknpcbbcbciaaGreatQS30
import Derived.Test.YtenknpcbbcbciaaGreatQS31
import Derived.Test.YtenknpcbbcbciaaGreatQS32
namespace Go.Proofs.YtenknpcbbcbciaaGreat
open Go.RowKit
set_option linter.unusedVariables false
set_option linter.unusedSimpArgs false
set_option maxRecDepth 100000 in
set_option maxHeartbeats 4000000 in
theorem laWidth_6 (op nm : Str) (ps : List Str) (N : Nat) (hNp : Hid (ps.length = N)) (P : Option Addr) (q : Nat) (pt wd vl : Int) (A : Option Addr) (n c : Nat) (l : List Ln) (B : Option Addr) (m d : Nat) (ws : List Int) (w : World)
 (ha : RLn w A n l) (hb : RI w B m ws) (hp : RX w P N ps) (hws : ∀ z ∈ ws, 0 ≤ z ∧ z ≤ 10) (hsn : shortS nm) (hso : shortS op) (hn : n ≤ 2097152) (hnm : n ≤ m) (hm : m ≤ 2097152) (hN2 : N ≤ 2097152) :
 Calls Tryz.prog 134 #[.slice A n c, .slice B m d, .agg #[.int .i64 6, .string (bs nm), .string (bs op), .slice P N q, .int .i64 pt, .int .i64 wd, .int .i64 vl]] w fun e w' => e = .returned (.int .i64 (sW l ws ⟨6, nm, op, ps, pt, wd, vl⟩)) ∧ Below w.heap.size w w' := by
 have hB0 : Below w.heap.size w (w.alloc (.cells #[.int .i64 6, .string (bs nm), .string (bs op), .slice P N q, .int .i64 pt, .int .i64 wd, .int .i64 vl] 89)) := bA
 have hone := LnAt.new w ⟨6, nm, op, ps, pt, wd, vl⟩ P q 89
 dsimp only at hone
 rw [hNp.out] at hone
 have ha0 := ha.below hB0 lR
 have hb0 := hb.below hB0 lR
 have hp0 := hp.below hB0 lR
 have hbl := hb.len
 have hll := ha.len
 have hsz : (w.alloc (.cells #[.int .i64 6, .string (bs nm), .string (bs op), .slice P N q, .int .i64 pt, .int .i64 wd, .int .i64 vl] 89)).heap.size = w.heap.size + 1 := by simp
 clear ha hb hp
 go_enter Tryz.func134, Tryz.ntmps134
 go_wp2_with fail
 generalize hwa : w.alloc (.cells #[.int .i64 6, .string (bs nm), .string (bs op), .slice P N q, .int .i64 pt, .int .i64 wd, .int .i64 vl] 89) = W1 at *
 clear hwa
 have hst : Own W1 (w.heap.size + 1) W1.heap.size (.slice none 0 0) 0 [] := Own.none_ _ _ _
 go_loopw [7, 15] (fun r i wr => ∃ (j : Nat) (R : Option Addr) (rc : Nat) (v : List Int), j ≤ N ∧ i = .int .i64 j ∧ r = .slice R j rc ∧ Hid (pw (sFind l) ws (ps.take j) = some v) ∧ Own wr (w.heap.size + 1) wr.heap.size (.slice R j rc) j v ∧ Below (w.heap.size + 1) W1 wr) (fun _ i _ => N - (intOf i).toNat)
 case atStart => exact ⟨0, _, _, [], Nat.zero_le _, rfl, rfl, zH rfl, hst, Below.refl _ _⟩
 case round =>
  obtain ⟨j, R, rc, xs, hj, rfl, rfl, hpw, hown, hb2⟩ := hrel
  clear hst
  have hz2 := hb2.size
  have hpl := hNp.out
  by_cases hlt : j < N
  ·obtain ⟨pb, po, hP, hpb, hpc⟩ := (hp0.below hb2 (by omega)).at_ hlt
   subst hP
   have hl3 := ha0.below hb2 (by omega)
   have hbb := hb0.below hb2 (by omega)
   have hfb := Zdp (sP (sx ps j)) l
   have hnone : Hid (sFind l (sx ps j) < 0 → sW l ws ⟨6, nm, op, ps, pt, wd, vl⟩ = 0) := zH (fun h => by unfold sW; rw [pw_none (j := j) (by show j < ps.length; omega) (by show sFind l ps[j] < 0; rw [show ps[j] = sx ps j by simp [sx, show j < ps.length by omega]]; exact h)])
   have hsnoc : Hid (ps.take (j + 1) = ps.take j ++ [sx ps j]) := zH (by rw [List.take_succ_eq_append_getElem (by omega)]; simp [sx, show j < ps.length by omega])
   clear hpl
   obtain ⟨s, hs⟩ := lT (sx ps j)
   rw [hs.out] at hpc hfb hnone hsnoc
   go_wp2_with fail
   refine (Zbe A n c l s _ hl3 (by omega)).mono ?_
   rintro e w4 ⟨rfl, hb4⟩
   have hb24 := hb2.trans (hb4.mono (by omega))
   have hz4 := hb4.size
   by_cases hneg : sFind l s < 0
   ·have HG := zH (hnone.out hneg)
    have HB4 : Below w.heap.size w w4 := hB0.trans (hb24.mono (by omega))
    obtain ⟨F0, hF0⟩ := lT (sFind l s)
    rw [hF0.out] at hneg ⊢
    go_wp2
    go_ret
    exact ⟨by rw [HG.out]; rfl, HB4⟩
   ·have hfb2 : sFind l s < n := by have := hfb.2; unfold sFind; omega
    obtain ⟨F, hF⟩ := Int.eq_ofNat_of_zero_le (show 0 ≤ sFind l s by omega)
    have hFk : F < m := by omega
    have HP : Hid (pw (sFind l) ws (ps.take (j + 1)) = some (xs ++ [gi ws F])) := zH (by
     rw [hsnoc.out, pw_snoc, hpw.out]; simp [hF])
    obtain ⟨g, go, rfl, hgl, cF⟩ := (hbb.below hb4 (by omega)).at_ hFk
    have hown24 := hown.below hb4 (.inl lR)
    have hnF : ¬ (F : Int) < 0 := by omega
    rw [hF]
    obtain ⟨u, hu⟩ := lT (gi ws F)
    rw [hu.out] at cF HP
    have hA := hown24.alloc (.cells #[.int .i64 u] 3)
    clear hF hneg hfb hfb2 hpc hnone
    go_wp2_with (at_builtin; refine Zae _ rfl _ _ rfl rfl hA rfl (Zaj _ _ _ _ (by simp)) (by omega) oM ?_; intro A5 c5 w5 hown5 hg5 hat5 hk5)
    have hb5 := Zah (hb24.alloc (by omega) (.cells #[.int .i64 u] 3)) hA hg5 (by simp; omega) lR
    go_wp2
    go_roundw
    case rel => exact ⟨j + 1, A5, c5, xs ++ [u], by omega, by go_num, rfl, HP, hown5, hb5⟩
    case measure => simp [intOf]; omega
  ·obtain rfl : j = N := by omega
   have hpwA : Hid (pw (sFind l) ws ps = some xs) := zH (by have := hpw.out; rwa [List.take_of_length_le (by omega)] at this)
   have hvb := pw_bd hws (by omega) _ _ hpwA.out
   have hxl := hown.len
   have hrd := hown.reads
   have hRl : ∀ g o, R = some ⟨g, o, none⟩ → 0 < j → g < wr.heap.size := fun g o hA h0 => by
    obtain ⟨b', o', hA', hlt', _⟩ := hrd.2 h0
    rw [hA] at hA'
    simp only [Option.some.injEq, Addr.mk.injEq, and_true] at hA'
    omega
   have hone2 := LnAt.below (B := w.heap.size + 1) hone hb2 (by omega)
   have hone3 := hone2
   have ha2 := ha0.below hb2 (by omega)
   have hB2 : Below w.heap.size w wr := hB0.trans (hb2.mono (by omega))
   have hS9 : w.heap.size < wr.heap.size := by omega
   clear hpl hb2 hB0 hone ha0 hb0 hp0 hpw hown hlt
   obtain ⟨c0, c1, c2, c3, c4, c5, c6⟩ := hone2
   simp only [Nat.zero_add] at c1 c2 c3 c4 c5 c6
   dsimp only at c0 c1 c2 c3 c4 c5 c6
   rw [hNp.out] at c3
   have eb1 := eb_is
   have eb2 := Zeg
   have eb3 : (bs []).toList = [] := Zbp []
   have sn : ((bs nm).toList != (bs nm).toList) = false := by simp
   have so : ((bs op).toList != (bs op).toList) = false := by simp
   have sp : (pt != pt) = false := by simp
   have sd : (wd != wd) = false := by simp
   have sv : (vl != vl) = false := by simp
   by_cases hnm : nm = []
   ·have tn := bs_is hnm
    have tn2 := Zdl hnm
    have HN := zH hnm
    subst hnm
    clear tn tn2 sn
    have sn : ((bs []).toList != (bs []).toList) = false := by simp
    by_cases eop : op = []
    ·subst eop
     by_cases ept : pt = 0
     ·subst ept
      by_cases ewd : wd = 0
      ·subst ewd
       by_cases evl : vl = 0
       ·subst evl
        by_cases hN : j = 1
        ·subst hN
         have hl1 : xs.length = 1 := hxl
         obtain ⟨rb, ro, rfl, hrb, hrc⟩ := hrd.2 (by omega)
         have hrb9 := hRl _ _ rfl (by omega)
         clear hRl
         have r0 := hrc 0 (by omega)
         try rw [Nat.add_zero] at r0
         clear hrc hrd
         have HR : Hid (sW l ws ⟨6, [], [], ps, 0, 0, 0⟩ = gi xs 0) := zH (by rw [Zam (x := ⟨6, [], [], ps, 0, 0, 0⟩) hpwA.out]; simp [bareB, partsN, kindW, hl1])
         clear HN
         go_wp2
         all_goals (go_ret; exact ⟨by rw [HR.out]; rfl, fin2⟩)
        ·have tm : ((j : Int) == 1) = false := by simp; omega
         have tm2 : ((j : Int) != 1) = true := by simp; omega
         have hl1 : ¬ xs.length = 1 := by omega
         have HR : Hid (sW l ws ⟨6, [], [], ps, 0, 0, 0⟩ = 0) := zH (by rw [Zam (x := ⟨6, [], [], ps, 0, 0, 0⟩) hpwA.out]; simp [bareB, partsN, kindW, hl1])
         clear hl1 hN HN
         go_wp2
         all_goals (go_ret; exact ⟨by rw [HR.out]; rfl, fin2⟩)
       ·have tovl : (vl == 0) = false := by simp [evl]
        have tnvl : ((0 : Int) == vl) = false := by simp; omega
        have tbvl : ((0 : Int) != vl) = true := by simp; omega
        have tcvl : (vl != 0) = true := by simp; omega
        have HR : Hid (sW l ws ⟨6, [], [], ps, 0, 0, vl⟩ = 0) := zH (by rw [Zam (x := ⟨6, [], [], ps, 0, 0, vl⟩) hpwA.out]; simp [bareB, partsN, kindW, evl])
        clear HN evl
        go_wp2
        all_goals (go_ret; exact ⟨by rw [HR.out]; rfl, fin2⟩)
      ·have towd : (wd == 0) = false := by simp [ewd]
       have tnwd : ((0 : Int) == wd) = false := by simp; omega
       have tbwd : ((0 : Int) != wd) = true := by simp; omega
       have tcwd : (wd != 0) = true := by simp; omega
       have HR : Hid (sW l ws ⟨6, [], [], ps, 0, wd, vl⟩ = 0) := zH (by rw [Zam (x := ⟨6, [], [], ps, 0, wd, vl⟩) hpwA.out]; simp [bareB, partsN, kindW, ewd])
       clear HN ewd
       go_wp2
       all_goals (go_ret; exact ⟨by rw [HR.out]; rfl, fin2⟩)
     ·have topt : (pt == 0) = false := by simp [ept]
      have tnpt : ((0 : Int) == pt) = false := by simp; omega
      have tbpt : ((0 : Int) != pt) = true := by simp; omega
      have tcpt : (pt != 0) = true := by simp; omega
      have HR : Hid (sW l ws ⟨6, [], [], ps, pt, wd, vl⟩ = 0) := zH (by rw [Zam (x := ⟨6, [], [], ps, pt, wd, vl⟩) hpwA.out]; simp [bareB, partsN, kindW, ept])
      clear HN ept
      go_wp2
      all_goals (go_ret; exact ⟨by rw [HR.out]; rfl, fin2⟩)
    ·have to1 := Zdk eop
     have to2 := Zcp eop
     have to3 := Zac eop
     have to4 := Zbd eop
     have to5 := Zdm eop
     have to6 := Zcq eop
     have HR : Hid (sW l ws ⟨6, [], op, ps, pt, wd, vl⟩ = 0) := zH (by rw [Zam (x := ⟨6, [], op, ps, pt, wd, vl⟩) hpwA.out]; simp [bareB, partsN, kindW, eop])
     clear HN eop
     go_wp2
     all_goals (go_ret; exact ⟨by rw [HR.out]; rfl, fin2⟩)
   ·have tn := Zdk hnm
    have tn2 := Zcp hnm
    have tn3 := Zdm hnm
    have tn4 := Zcq hnm
    have HR : Hid (sW l ws ⟨6, nm, op, ps, pt, wd, vl⟩ = 0) := zH (by rw [Zam (x := ⟨6, nm, op, ps, pt, wd, vl⟩) hpwA.out]; simp [bareB, partsN, kindW, hnm])
    clear hnm
    go_wp2
    all_goals (go_ret; exact ⟨by rw [HR.out]; rfl, fin2⟩)
theorem laWidth_any (x : Ln) (P : Option Addr) (q : Nat) (A : Option Addr) (n c : Nat) (l : List Ln) (B : Option Addr) (m d : Nat) (ws : List Int) (w : World)
 (ha : RLn w A n l) (hb : RI w B m ws) (hp : RX w P x.parts.length x.parts) (hws : ∀ z ∈ ws, 0 ≤ z ∧ z ≤ 10) (hx : shortL x) (hn : n ≤ 2097152) (hnm : n ≤ m) (hm : m ≤ 2097152) :
 Calls Tryz.prog 134 #[.slice A n c, .slice B m d, lnV x P q] w fun e w' => e = .returned (.int .i64 (sW l ws x)) ∧ Below w.heap.size w w' := by
 obtain ⟨kd, nm, op, ps, pt, wd, vl⟩ := x
 obtain ⟨hsn, hso, hsp, _⟩ := hx
 by_cases k1 : kd = 1
 ·subst k1; exact laWidth_1 op nm ps _ (zH rfl) P q pt wd vl A n c l B m d ws w ha hb hp hws hsn hso hn hnm hm hsp
 by_cases k2 : kd = 2
 ·subst k2; exact laWidth_2 op nm ps _ (zH rfl) P q pt wd vl A n c l B m d ws w ha hb hp hws hsn hso hn hnm hm hsp
 by_cases k3 : kd = 3
 ·subst k3; exact laWidth_3 op nm ps _ (zH rfl) P q pt wd vl A n c l B m d ws w ha hb hp hws hsn hso hn hnm hm hsp
 by_cases k4 : kd = 4
 ·subst k4; exact laWidth_4 op nm ps _ (zH rfl) P q pt wd vl A n c l B m d ws w ha hb hp hws hsn hso hn hnm hm hsp
 by_cases k5 : kd = 5
 ·subst k5; exact laWidth_5 op nm ps _ (zH rfl) P q pt wd vl A n c l B m d ws w ha hb hp hws hsn hso hn hnm hm hsp
 by_cases k6 : kd = 6
 ·subst k6; exact laWidth_6 op nm ps _ (zH rfl) P q pt wd vl A n c l B m d ws w ha hb hp hws hsn hso hn hnm hm hsp
 exact laWidth_else kd k1 k2 k3 k4 k5 k6 op nm ps _ (zH rfl) P q pt wd vl A n c l B m d ws w ha hb hp hws hsn hso hn hnm hm hsp
set_option maxHeartbeats 1600000 in
theorem Zbc (A : Option Addr) (n c : Nat) (p : Int) (l : List Ln) (w : World) (ha : RLn w A n l) (hn : n ≤ 2097152) :
 Calls Tryz.prog 54 #[.slice A n c, .int .i64 p] w (RetI w (insL l p)) := by
 have hl := ha.len
 go_enter Tryz.func54, Tryz.ntmps54
 go_wp2
 go_loopw [5, 10] (fun r i wr => ∃ (k : Nat) (R : Option Addr) (rn rc : Nat), k ≤ n ∧ i = .int .i64 k ∧ r = .slice R rn rc ∧ Own wr w.heap.size wr.heap.size (.slice R rn rc) rn (insL (l.take k) p) ∧ rn ≤ k ∧ Below w.heap.size w wr) (fun _ i _ => n - (intOf i).toNat)
 case atStart => exact ⟨0, none, 0, 0, Nat.zero_le _, rfl, rfl, Own.none_ _ _ _, Nat.le_refl _, Below.refl _ _⟩
 case round =>
  obtain ⟨k, R, rn, rc, hk, rfl, rfl, hown, hrn, hb⟩ := hrel
  have hz := hb.size
  by_cases hlt : k < n
  ·obtain ⟨b, o, P, q, rfl, hbB, ⟨c0, c1, c2, c3, c4, c5, c6⟩, hx⟩ := (ha.below hb lR).at_ hlt
   have hT : Hid (insL (l.take (k + 1)) p = if (lx l k).kind = 1 ∧ (lx l k).party = p then insL (l.take k) p ++ [(lx l k).width] else insL (l.take k) p) := zH (by rw [Zdg (by omega), Zbi])
   have hownA := hown.alloc (.cells #[.int .i64 (lx l k).kind, .string (bs (lx l k).name), .string (bs (lx l k).op), .slice P (lx l k).parts.length q, .int .i64 (lx l k).party, .int .i64 (lx l k).width, .int .i64 (lx l k).value] 89)
   have hbA := hb.alloc hz (.cells #[.int .i64 (lx l k).kind, .string (bs (lx l k).name), .string (bs (lx l k).op), .slice P (lx l k).parts.length q, .int .i64 (lx l k).party, .int .i64 (lx l k).width, .int .i64 (lx l k).value] 89)
   clear ha hx
   by_cases h1 : (lx l k).kind = 1
   ·have t1 : ((lx l k).kind == 1) = true := by simp [h1]
    by_cases h2 : (lx l k).party = p
    ·have t2 : ((lx l k).party == p) = true := by simp [h2]
     have HK : Hid (insL (l.take (k + 1)) p = insL (l.take k) p ++ [(lx l k).width]) := zH (by rw [hT.out, if_pos ⟨h1, h2⟩])
     clear h1 h2
     have hA := hownA.alloc (.cells #[.int .i64 (lx l k).width] 3)
     go_wp2_with (at_builtin; refine Zae _ rfl _ _ rfl rfl hA rfl (Zaj _ _ _ _ (by simp)) (by omega) oM ?_; intro A7 c7 w7 hown7 hg7 hat7 hk7)
     have hb7 := Zah (hbA.alloc (by simp; omega) (.cells #[.int .i64 (lx l k).width] 3)) hA hg7 (by simp; omega) lR
     go_wp2
     go_roundw
     case rel => exact ⟨k + 1, A7, rn + 1, c7, by omega, by go_num, rfl, by rw [HK.out]; exact hown7, by omega, hb7⟩
     case measure => simp [intOf]; omega
    ·have t2 : ((lx l k).party == p) = false := by simp [h2]
     have HK : Hid (insL (l.take (k + 1)) p = insL (l.take k) p) := zH (by rw [hT.out, if_neg (fun h => h2 h.2)])
     clear h1 h2
     go_wp2
     go_roundw
     case rel => exact ⟨k + 1, R, rn, rc, by omega, by go_num, rfl, by rw [HK.out]; exact hownA.now, by omega, hbA⟩
     case measure => simp [intOf]; omega
   ·have t1 : ((lx l k).kind == 1) = false := by simp [h1]
    have HK : Hid (insL (l.take (k + 1)) p = insL (l.take k) p) := zH (by rw [hT.out, if_neg (fun h => h1 h.1)])
    clear h1
    go_wp2
    go_roundw
    case rel => exact ⟨k + 1, R, rn, rc, by omega, by go_num, rfl, by rw [HK.out]; exact hownA.now, by omega, hbA⟩
    case measure => simp [intOf]; omega
  ·obtain rfl : n = k := Nat.le_antisymm (Nat.le_of_not_lt hlt) hk
   rw [List.take_of_length_le (by omega)] at hown
   have hln := hown.len
   go_wp2
   go_ret
   exact RetI.mk_ hln rfl hown hb
set_option maxRecDepth 100000 in
set_option maxHeartbeats 1600000 in
theorem laWidths_any (A : Option Addr) (n c : Nat) (l : List Ln) (w : World) (ha : RLn w A n l) (hn : n ≤ 2097152) (hcap : n ≤ c) (hsh : ∀ x ∈ l, shortL x) :
 Calls Tryz.prog 103 #[.slice A n c] w (RetI w (wids sW l)) := by
 have hl := ha.len
 go_enter Tryz.func103, Tryz.ntmps103
 go_wp2
 go_loopw [3, 8] (fun r i wr => ∃ (k : Nat) (R : Option Addr) (rc : Nat), k ≤ n ∧ i = .int .i64 k ∧ r = .slice R k rc ∧ Own wr w.heap.size wr.heap.size (.slice R k rc) k (wids sW (l.take k)) ∧ Below w.heap.size w wr) (fun _ i _ => n - (intOf i).toNat)
 case atStart => exact ⟨0, none, 0, Nat.zero_le _, rfl, rfl, Own.none_ _ _ _, Below.refl _ _⟩
 case round =>
  obtain ⟨k, R, rc, hk, rfl, rfl, hown, hb⟩ := hrel
  have hz := hb.size
  by_cases hlt : k < n
  ·obtain ⟨b, o, P, q, rfl, hbB, hat, hx⟩ := (ha.below hb lR).at_ hlt
   have hrl : RLn wr (some ⟨b, o, none⟩) k (l.take k) := (ha.below hb lR).take hk
   have hshx := hsh (lx l k) (by rw [lx_lt (by omega)]; exact List.getElem_mem _)
   have hwb := wids_bd (l.take k)
   have hT : Hid (wids sW (l.take (k + 1)) = wids sW (l.take k) ++ [sW (l.take k) (wids sW (l.take k)) (lx l k)]) := zH (by rw [Zdg (by omega), Zdz])
   obtain ⟨W, hWd⟩ := lT (wids sW (l.take k))
   rw [hWd.out] at hown hwb hT
   obtain ⟨X, hX⟩ := lT (lx l k)
   rw [hX.out] at hat hx hshx hT
   obtain ⟨L, hL⟩ := lT (l.take k)
   rw [hL.out] at hrl hT
   obtain ⟨u, hu⟩ := lT (sW L W X)
   rw [hu.out] at hT
   have hkc : k ≤ c := by omega
   have hrow := hown.reads
   have al : Below wr.heap.size wr (wr.alloc (.cells #[.int .i64 X.kind, .string (bs X.name), .string (bs X.op), .slice P X.parts.length q, .int .i64 X.party, .int .i64 X.width, .int .i64 X.value] 89)) := bA
   have hone := LnAt.new wr X P q 89
   obtain ⟨d0, d1, d2, d3, d4, d5, d6⟩ := hone
   simp only [Nat.zero_add] at d1 d2 d3 d4 d5 d6
   have hfar : ∀ g, R = some ⟨g, 0, none⟩ → g < wr.heap.size := fun g hg => (hown.lt g (by rw [hg]; simp [Value.ownBlock])).2.2
   have hrl2 := hrl.below al lR
   have hrow2 := hrow.below al lR
   have hx2 := hx.below al lR
   have hown2 := hown.below al (.inl lR)
   have hsz : (wr.alloc (.cells #[.int .i64 X.kind, .string (bs X.name), .string (bs X.op), .slice P X.parts.length q, .int .i64 X.party, .int .i64 X.width, .int .i64 X.value] 89)).heap.size = wr.heap.size + 1 := by simp
   have hbA := hb.trans (al.mono hz)
   obtain ⟨c0, c1, c2, c3, c4, c5, c6⟩ := hat
   clear ha
   go_wp2_with fail
   generalize hwa : wr.alloc (.cells #[.int .i64 X.kind, .string (bs X.name), .string (bs X.op), .slice P X.parts.length q, .int .i64 X.party, .int .i64 X.width, .int .i64 X.value] 89) = wa at *
   clear hwa c0 c1 c2 c3 c4 c5 c6 hrl hrow hx al
   generalize wr.heap.size = S0 at *
   go_wp2_with fail
   go_region_held3 (fun w' => w'.cell? ⟨S0, 0, none⟩ = some (.int .i64 X.kind) ∧ w'.cell? ⟨S0, 1, none⟩ = some (.string (bs X.name)) ∧ w'.cell? ⟨S0, 2, none⟩ = some (.string (bs X.op)) ∧ w'.cell? ⟨S0, 3, none⟩ = some (.slice P X.parts.length q) ∧ w'.cell? ⟨S0, 4, none⟩ = some (.int .i64 X.party) ∧ w'.cell? ⟨S0, 5, none⟩ = some (.int .i64 X.width) ∧ w'.cell? ⟨S0, 6, none⟩ = some (.int .i64 X.value))
    (first | go_keep | (go_split_ands; exact ⟨hk5 _ _ _ (by assumption) (fun g9 hg9 he9 => by first | omega | (have := hfar _ hg9; omega) | (simp only [Option.some.injEq, Addr.mk.injEq, and_true] at hg9; omega)), hk5 _ _ _ (by assumption) (fun g9 hg9 he9 => by first | omega | (have := hfar _ hg9; omega) | (simp only [Option.some.injEq, Addr.mk.injEq, and_true] at hg9; omega)), hk5 _ _ _ (by assumption) (fun g9 hg9 he9 => by first | omega | (have := hfar _ hg9; omega) | (simp only [Option.some.injEq, Addr.mk.injEq, and_true] at hg9; omega)), hk5 _ _ _ (by assumption) (fun g9 hg9 he9 => by first | omega | (have := hfar _ hg9; omega) | (simp only [Option.some.injEq, Addr.mk.injEq, and_true] at hg9; omega)), hk5 _ _ _ (by assumption) (fun g9 hg9 he9 => by first | omega | (have := hfar _ hg9; omega) | (simp only [Option.some.injEq, Addr.mk.injEq, and_true] at hg9; omega)), hk5 _ _ _ (by assumption) (fun g9 hg9 he9 => by first | omega | (have := hfar _ hg9; omega) | (simp only [Option.some.injEq, Addr.mk.injEq, and_true] at hg9; omega)), hk5 _ _ _ (by assumption) (fun g9 hg9 he9 => by first | omega | (have := hfar _ hg9; omega) | (simp only [Option.some.injEq, Addr.mk.injEq, and_true] at hg9; omega))⟩) | (go_split_ands; exact ⟨Zab (by assumption) hb4, Zab (by assumption) hb4, Zab (by assumption) hb4, Zab (by assumption) hb4, Zab (by assumption) hb4, Zab (by assumption) hb4, Zab (by assumption) hb4⟩))
    (first | (go_at_call 134; refine (laWidth_any X P q (some ⟨b, o, none⟩) k c L R k rc W _ (hrl2.below (Zai 1) lR) (hrow2.below (Zai 1) lR) (hx2.below (Zai 1) lR) hwb hshx (by omega) lR (by omega)).mono ?_; rintro e w4 ⟨he4, hb4⟩; rw [hu.out] at he4; obtain rfl := he4; have hs4 : wa.heap.size ≤ w4.heap.size := hb4.size) | (refine Zcd _ (by rfl) _ _ (by rfl) (by rfl) (((hown2.below (Zai 1) (.inl lR)).below hb4 (.inl lR)).alloc (.cells #[.int .i64 u] 3)) (by rfl) (Zaj _ _ _ _ (by simp)) (by omega) oM ?_; intro A5 c5 w5 hown5 hg5 hat5 hk5))
   have hb34 : Below wa.heap.size wa w4 := (Zai 1).trans (hb4.mono lR)
   have hA := (hown2.below hb34 (.inl lR)).alloc (.cells #[.int .i64 u] 3)
   have hB4 := hbA.trans (hb34.mono (by omega))
   have hb5 := Zah (hB4.alloc (by omega) (.cells #[.int .i64 u] 3)) hA hg5 (by simp; omega) lR
   go_wp2
   go_roundw
   case rel => exact ⟨k + 1, A5, c5, by omega, by go_num, rfl, by rw [hT.out]; exact hown5, hb5⟩
   case measure => simp [intOf]; omega
  ·obtain rfl : n = k := Nat.le_antisymm (Nat.le_of_not_lt hlt) hk
   rw [List.take_of_length_le (by omega)] at hown
   have hln := hown.len
   go_wp2
   go_ret
   exact RetI.mk_ hln rfl hown hb
set_option maxHeartbeats 1600000 in
theorem Zda (A : Option Addr) (n c : Nat) (l : List Ln) (w : World) (ha : RLn w A n l) (hn : n ≤ 2097152) (hcap : n ≤ c) (hsh : ∀ x ∈ l, shortL x) :
 Calls Tryz.prog 56 #[.slice A n c] w (RetI w (outsL l)) := by
 have hl := ha.len
 have hwl : (wids sW l).length = n := by rw [wids_len]; exact hl
 have hT0 := laWidths_any A n c l w ha hn hcap hsh
 have HO : Hid (outsL l = byK outP l (wids sW l) n) := zH (by unfold outsL; rw [hl])
 obtain ⟨W, hW⟩ := lT (wids sW l)
 rw [hW.out] at hwl hT0 HO
 rw [HO.out]
 go_enter Tryz.func56, Tryz.ntmps56
 go_wp2_with fail
 refine (hT0).mono ?_
 rintro e w1 hT
 obtain ⟨B, d, rfl, hw1, hb1⟩ := hT.open_ hwl
 have hr1 := hw1.reads
 have ha1 := ha.below hb1 lR
 clear hT0 hw1 ha hT
 go_wp2
 go_loopw [3, 9] (fun r i wr => ∃ (k : Nat) (R : Option Addr) (rn rc : Nat), k ≤ n ∧ i = .int .i64 k ∧ r = .slice R rn rc ∧ Own wr w1.heap.size wr.heap.size (.slice R rn rc) rn (byK outP l W k) ∧ rn ≤ k ∧ Below w1.heap.size w1 wr) (fun _ i _ => n - (intOf i).toNat)
 case atStart => exact ⟨0, none, 0, 0, Nat.zero_le _, rfl, rfl, Own.none_ _ _ _, Nat.le_refl _, Below.refl _ _⟩
 case round =>
  obtain ⟨k, R, rn, rc, hk, rfl, rfl, hown, hrn, hb⟩ := hrel
  have hz := hb.size
  by_cases hlt : k < n
  ·obtain ⟨b, o, P, q, rfl, hbB, ⟨c0, c1, c2, c3, c4, c5, c6⟩, hx⟩ := (ha1.below hb lR).at_ hlt
   obtain ⟨g, go, rfl, hgl, e0⟩ := (hr1.below hb lR).at_ hlt
   obtain ⟨u, hu⟩ := lT (gi W k)
   rw [hu.out] at e0
   have hT : Hid (byK outP l W (k + 1) = if outP (lx l k) = true then byK outP l W k ++ [gi W k] else byK outP l W k) := zH rfl
   clear ha1 hx c1 c2 c3 c4 c5 c6
   by_cases h6 : (lx l k).kind = 6
   ·have t6 : ((lx l k).kind == 6) = true := by simp [h6]
    have HK : Hid (byK outP l W (k + 1) = byK outP l W k ++ [u]) := zH (by rw [hT.out, if_pos (by simp [outP, h6]), hu.out])
    clear h6
    have hA := hown.alloc (.cells #[.int .i64 u] 3)
    go_wp2_with (at_builtin; refine Zae _ rfl _ _ rfl rfl hA rfl (Zaj _ _ _ _ (by simp)) (by omega) oM ?_; intro A7 c7 w7 hown7 hg7 hat7 hk7)
    have hb7 := Zah (hb.alloc (by omega) (.cells #[.int .i64 u] 3)) hA hg7 (by simp; omega) lR
    go_wp2
    go_roundw
    case rel => exact ⟨k + 1, A7, rn + 1, c7, by omega, by go_num, rfl, by rw [HK.out]; exact hown7, by omega, hb7⟩
    case measure => simp [intOf]; omega
   ·have t6 : ((lx l k).kind == 6) = false := by simp [h6]
    have HK : Hid (byK outP l W (k + 1) = byK outP l W k) := zH (by rw [hT.out, if_neg (by simp [outP, h6])])
    clear h6
    go_wp2
    go_roundw
    case rel => exact ⟨k + 1, R, rn, rc, by omega, by go_num, rfl, by rw [HK.out]; exact hown, by omega, hb⟩
    case measure => simp [intOf]; omega
  ·obtain rfl : n = k := Nat.le_antisymm (Nat.le_of_not_lt hlt) hk
   have hln := hown.len
   go_wp2
   go_ret
   exact RetI.mk_ hln rfl (hown.lo_ hb1.size) (hb1.trans (hb.mono hb1.size))
theorem Zds (A : Option Addr) (n c : Nat) (xs : List Int) (w : World) (ha : RI w A n xs) (hn : n ≤ 2097152) (hx : ∀ z ∈ xs, 0 ≤ z ∧ z ≤ ((1024 : Nat) : Int)) :
 Calls Tryz.prog 61 #[.slice A n c] w fun e w' => e = .returned (.int .i64 (sumI xs)) ∧ w = w' := by
 have hl := ha.len
 have hsm := Zeb hx
 go_enter Tryz.func61, Tryz.ntmps61
 go_wp2
 go_loopw [3, 8] (fun s i wr => ∃ (k : Nat), k ≤ n ∧ i = .int .i64 k ∧ s = .int .i64 (sumI (xs.take k)) ∧ w = wr) (fun _ i _ => n - (intOf i).toNat)
 case atStart => exact ⟨0, Nat.zero_le _, rfl, rfl, rfl⟩
 case round =>
  obtain ⟨k, hk, rfl, rfl, rfl⟩ := hrel
  by_cases hlt : k < n
  ·obtain ⟨b, o, rfl, hbl, c0⟩ := ha.at_ hlt
   have hS : Hid (sumI (xs.take (k + 1)) = sumI (xs.take k) + gi xs k) := zH (sumI_snoc2 (by omega))
   have hbd := hsm k (by omega)
   have hz := hx _ (Zbo (xs := xs) (j := k) (by omega))
   obtain ⟨s, hs⟩ := lT (sumI (xs.take k))
   obtain ⟨u, hu⟩ := lT (gi xs k)
   rw [hs.out] at hbd hS ⊢
   rw [hu.out] at hz c0 hS
   have hwr : IntKind.i64.wrap (s + u) = s + u := by rw [IntKind.wrap_i64] <;> omega
   clear hsm hx
   go_wp2
   go_roundw
   case rel => exact ⟨k + 1, by omega, by go_num, by rw [hS.out], by trivial⟩
   case measure => simp [intOf]; omega
  ·obtain rfl : n = k := Nat.le_antisymm (Nat.le_of_not_lt hlt) hk
   rw [List.take_of_length_le (by omega)]
   go_wp2
   go_ret
   exact ⟨rfl, rfl⟩
theorem Zej (A : Option Addr) (n c : Nat) (xs : List Int) (w : World) (ha : RI w A n xs) (hn : n ≤ 2097152) (hx : ∀ z ∈ xs, 0 ≤ z ∧ z ≤ ((1024 : Nat) : Int)) :
 Calls Tryz.prog 65 #[.slice A n c] w fun e w' => e = .returned (.int .i64 (sumI xs)) ∧ w = w' := by
 have hl := ha.len
 have hsm := Zeb hx
 go_enter Tryz.func65, Tryz.ntmps65
 go_wp2
 go_loopw [3, 8] (fun s i wr => ∃ (k : Nat), k ≤ n ∧ i = .int .i64 k ∧ s = .int .i64 (sumI (xs.take k)) ∧ w = wr) (fun _ i _ => n - (intOf i).toNat)
 case atStart => exact ⟨0, Nat.zero_le _, rfl, rfl, rfl⟩
 case round =>
  obtain ⟨k, hk, rfl, rfl, rfl⟩ := hrel
  by_cases hlt : k < n
  ·obtain ⟨b, o, rfl, hbl, c0⟩ := ha.at_ hlt
   have hS : Hid (sumI (xs.take (k + 1)) = sumI (xs.take k) + gi xs k) := zH (sumI_snoc2 (by omega))
   have hbd := hsm k (by omega)
   have hz := hx _ (Zbo (xs := xs) (j := k) (by omega))
   obtain ⟨s, hs⟩ := lT (sumI (xs.take k))
   obtain ⟨u, hu⟩ := lT (gi xs k)
   rw [hs.out] at hbd hS ⊢
   rw [hu.out] at hz c0 hS
   have hwr : IntKind.i64.wrap (s + u) = s + u := by rw [IntKind.wrap_i64] <;> omega
   clear hsm hx
   go_wp2
   go_roundw
   case rel => exact ⟨k + 1, by omega, by go_num, by rw [hS.out], by trivial⟩
   case measure => simp [intOf]; omega
  ·obtain rfl : n = k := Nat.le_antisymm (Nat.le_of_not_lt hlt) hk
   rw [List.take_of_length_le (by omega)]
   go_wp2
   go_ret
   exact ⟨rfl, rfl⟩
theorem good_not {l : List Ln} (h : ¬ goodP l) : decide (goodP l) = false := decide_eq_false h
set_option maxHeartbeats 1600000 in
theorem Zdb (A : Option Addr) (n c : Nat) (l : List Ln) (w : World) (ha : RLn w A n l) (hn : n ≤ 2097152) (hcap : n ≤ c) (hsh : ∀ x ∈ l, shortL x) :
 Calls Tryz.prog 60 #[.slice A n c] w fun e w' => e = .returned (.bool (decide (goodP l))) ∧ Below w.heap.size w w' := by
 have hl := ha.len
 by_cases h30 : (n : Int) ≤ 30
 rotate_left
 ·have HG : Hid (decide (goodP l) = false) := zH (good_not fun h => by have := h.1; omega)
  go_enter Tryz.func60, Tryz.ntmps60
  go_wp2
  go_ret
  exact ⟨by rw [HG.out]; rfl, Below.refl _ _⟩
 have hwl : (wids sW l).length = n := by rw [wids_len]; exact hl
 go_enter Tryz.func60, Tryz.ntmps60
 go_wp2_with fail
 refine (laWidths_any A n c l w ha hn hcap hsh).mono ?_
 rintro e w1 hT1
 obtain ⟨A1, c1, rfl, hw1, hb1⟩ := hT1.open_ hwl
 have hr1 := hw1.reads
 clear hT1 hw1
 cases hB : allB 1 10 (wids sW l) with
 | false =>
  have HG : Hid (decide (goodP l) = false) := zH (good_not fun h => by rw [(allW_iff l).2 h.2.1] at hB; cases hB)
  have HB := zH hB
  clear hB
  go_wp2_with fail
  refine (l1All_any A1 n c1 1 10 _ _ hr1 hn).mono ?_
  rintro e w2 ⟨rfl, rfl⟩
  rw [HB.out]
  go_wp2
  go_ret
  exact ⟨by rw [HG.out]; rfl, hb1⟩
 | true =>
  have HB := zH hB
  have hW := (allW_iff l).1 hB
  clear hB
  have ha1 := ha.below hb1 lR
  have hi : ∀ p, ∀ z ∈ insL l p, 0 ≤ z ∧ z ≤ ((1024 : Nat) : Int) := fun p z hz => by have := Zbz hW p z hz; omega
  have hL0 := Zbx l 0
  have hL1 := Zbx l 1
  go_wp2_with fail
  refine (l1All_any A1 n c1 1 10 _ _ hr1 hn).mono ?_
  rintro e w2 ⟨rfl, rfl⟩
  rw [HB.out]
  go_wp2_with fail
  refine (Zbc A n c 0 l _ ha1 hn).mono ?_
  rintro e w3 hT3
  obtain ⟨A3, c3, rfl, hw3, hb3⟩ := hT3
  have hB3 := hb1.trans (hb3.mono hb1.size)
  go_wp2_with fail
  refine (Zds A3 _ c3 (insL l 0) _ hw3.reads (by omega) (hi 0)).mono ?_
  rintro e w4 ⟨rfl, rfl⟩
  obtain ⟨s0, hs0⟩ := lT (sumI (insL l 0))
  rw [hs0.out]
  by_cases h0 : s0 ≤ 20
  rotate_left
  ·have HG : Hid (decide (goodP l) = false) := zH (good_not fun h => h0 (by rw [← hs0.out]; exact h.2.2.1))
   go_wp2
   go_ret
   exact ⟨by rw [HG.out]; rfl, hB3⟩
  have ha3 := ha.below hB3 lR
  go_wp2_with fail
  refine (Zbc A n c 1 l _ ha3 hn).mono ?_
  rintro e w5 hT5
  obtain ⟨A5, c5, rfl, hw5, hb5⟩ := hT5
  have hB5 := hB3.trans (hb5.mono hB3.size)
  go_wp2_with fail
  refine (Zds A5 _ c5 (insL l 1) _ hw5.reads (by omega) (hi 1)).mono ?_
  rintro e w6 ⟨rfl, rfl⟩
  obtain ⟨s1, hs1⟩ := lT (sumI (insL l 1))
  rw [hs1.out]
  by_cases h1 : s1 ≤ 20
  rotate_left
  ·have HG : Hid (decide (goodP l) = false) := zH (good_not fun h => h1 (by rw [← hs1.out]; exact h.2.2.2.1))
   go_wp2
   go_ret
   exact ⟨by rw [HG.out]; rfl, hB5⟩
  have ha5 := ha.below hB5 lR
  go_wp2_with fail
  refine (Zda A n c l _ ha5 hn hcap hsh).mono ?_
  rintro e w7 hT7
  obtain ⟨A7, c7, rfl, hw7, hb7⟩ := hT7.open_ (outsL_len l)
  have hB7 := hB5.trans (hb7.mono hB5.size)
  by_cases h2 : (outsC l : Int) ≤ 10
  ·have HG : Hid (decide (goodP l) = true) := zH (decide_eq_true ⟨by omega, hW, by rw [hs0.out]; exact h0, by rw [hs1.out]; exact h1, by omega⟩)
   have h3 : decide ((outsC l : Int) ≤ 10) = true := decide_eq_true h2
   go_wp2
   go_ret
   exact ⟨by rw [HG.out]; rfl, hB7⟩
  ·have HG : Hid (decide (goodP l) = false) := zH (good_not fun h => by have := h.2.2.2.2; omega)
   have h3 : decide ((outsC l : Int) ≤ 10) = false := decide_eq_false h2
   go_wp2
   go_ret
   exact ⟨by rw [HG.out]; rfl, hB7⟩
set_option maxHeartbeats 1600000 in
theorem Zcm (A B : Option Addr) (n c m d : Nat) (ws ns : List Int) (w : World) (ha : RI w A n ws) (hb : RI w B m ns) (hn : n ≤ 2097152) (hm : m ≤ 2097152) (hw : ∀ z ∈ ws, 1 ≤ z ∧ z ≤ 10) :
 Calls Tryz.prog 70 #[.slice A n c, .slice B m d] w fun e w' => e = .returned (.bool (fitB ws ns)) ∧ w = w' := by
 have hl := ha.len
 have hl2 := hb.len
 by_cases hnm : n = m
 rotate_left
 ·have HR : Hid (fitB ws ns = false) := zH (fitB_len (by omega))
  have t1 : ((n : Int) != m) = true := by simp; omega
  have t2 : ((m : Int) != n) = true := by simp; omega
  go_enter Tryz.func70, Tryz.ntmps70
  go_wp2
  go_ret
  exact ⟨by rw [HR.out]; rfl, rfl⟩
 subst hnm
 have t1 : ((n : Int) != n) = false := by simp
 go_enter Tryz.func70, Tryz.ntmps70
 go_wp2
 go_loopw [14] (fun i wr => ∃ (k : Nat), k ≤ n ∧ i = .int .i64 k ∧ Hid (∀ j, j < k → inB 0 (2 ^ (gi ws j).toNat - 1) (gi ns j) = true) ∧ w = wr) (fun i _ => n - (intOf i).toNat)
 case atStart => exact ⟨0, Nat.zero_le _, rfl, zH fun j hj => by omega, rfl⟩
 case round =>
  obtain ⟨k, hk, rfl, hall, rfl⟩ := hrel
  by_cases hlt : k < n
  ·obtain ⟨ab, ao, rfl, hab, ca⟩ := ha.at_ hlt
   obtain ⟨bb, bo, rfl, hbb, cb⟩ := hb.at_ hlt
   have hz := hw _ (Zbo (xs := ws) (j := k) (by omega))
   have hbad : Hid (inB 0 (2 ^ (gi ws k).toNat - 1) (gi ns k) = false → fitB ws ns = false) := zH (fitB_bad (by omega))
   obtain ⟨X, hX⟩ := Int.eq_ofNat_of_zero_le (show 0 ≤ gi ws k by omega)
   have hgk : Hid (inB 0 (2 ^ (gi ws k).toNat - 1) (gi ns k) = inB 0 (2 ^ X - 1) (gi ns k)) := zH (by rw [hX]; rfl)
   rw [hX] at ca hz
   have hX10 : X ≤ 10 := by omega
   obtain ⟨N2, hN⟩ : ∃ N2, Hid (N2 = 2 ^ X) := ⟨_, zH rfl⟩
   have hN2 : Hid ((2 : Int) ^ X = (N2 : Int)) := zH (by rw [hN.out, Int.natCast_pow]; rfl)
   have hNb := (Zbl hN.out hX10).1
   have hXt : Hid (((X : Nat) : Int).toNat = X) := zH (by omega)
   rw [hgk.out] at hbad
   obtain ⟨v, hv⟩ := lT (gi ns k)
   rw [hv.out] at cb hbad hgk
   rw [hN2.out] at hbad hgk
   clear hX hw ha hb hN
   cases hG : inB 0 ((N2 : Int) - 1) v with
   | false =>
    have HG := zH hG
    have HR : Hid (fitB ws ns = false) := zH (hbad.out hG)
    have hs := hN2.out
    have hs2 := hXt.out
    clear hG
    go_wp2_with fail
    refine (Zau v 0 ((N2 : Int) - 1) false HG.out _).mono ?_
    rintro e w6 ⟨rfl, rfl⟩
    clear hs hs2
    go_wp2
    go_ret
    exact ⟨by rw [HR.out]; rfl, rfl⟩
   | true =>
    have HG := zH hG
    have hs := hN2.out
    have hs2 := hXt.out
    clear hG
    go_wp2_with fail
    refine (Zau v 0 ((N2 : Int) - 1) true HG.out _).mono ?_
    rintro e w6 ⟨rfl, rfl⟩
    clear hs hs2
    have hall2 : Hid (∀ j, j < k + 1 → inB 0 (2 ^ (gi ws j).toNat - 1) (gi ns j) = true) := zH (fun j hj => by
     rcases Nat.lt_or_ge j k with h1 | h1
     ·exact hall.out j h1
     ·obtain rfl : j = k := by omega
      have := hgk.out; rw [hv.out]; rw [this]; exact HG.out)
    go_wp2
    go_roundw
    case rel => exact ⟨k + 1, by omega, by go_num, hall2, by trivial⟩
    case measure => simp [intOf]; omega
  ·obtain rfl : n = k := Nat.le_antisymm (Nat.le_of_not_lt hlt) hk
   have HR : Hid (fitB ws ns = true) := zH (fitB_ok (by omega) (fun j hj => hall.out j (by omega)))
   go_wp2
   go_ret
   exact ⟨by rw [HR.out]; rfl, rfl⟩
set_option maxHeartbeats 1600000 in
theorem Zbf (A B : Option Addr) (n c m d : Nat) (ws ns : List Int) (w : World) (ha : RI w A n ws) (hb : RI w B m ns) (hn : n ≤ 2097152) (hm : m ≤ 2097152) (hw : ∀ z ∈ ws, 1 ≤ z ∧ z ≤ 10) :
 Calls Tryz.prog 68 #[.slice B m d, .slice A n c] w fun e w' => e = .returned (.bool (fitB ws ns)) ∧ w = w' := by
 have hl := ha.len
 have hl2 := hb.len
 by_cases hnm : n = m
 rotate_left
 ·have HR : Hid (fitB ws ns = false) := zH (fitB_len (by omega))
  have t1 : ((n : Int) != m) = true := by simp; omega
  have t2 : ((m : Int) != n) = true := by simp; omega
  go_enter Tryz.func68, Tryz.ntmps68
  go_wp2
  go_ret
  exact ⟨by rw [HR.out]; rfl, rfl⟩
 subst hnm
 have t1 : ((n : Int) != n) = false := by simp
 go_enter Tryz.func68, Tryz.ntmps68
 go_wp2
 go_loopw [14] (fun i wr => ∃ (k : Nat), k ≤ n ∧ i = .int .i64 k ∧ Hid (∀ j, j < k → inB 0 (2 ^ (gi ws j).toNat - 1) (gi ns j) = true) ∧ w = wr) (fun i _ => n - (intOf i).toNat)
 case atStart => exact ⟨0, Nat.zero_le _, rfl, zH fun j hj => by omega, rfl⟩
 case round =>
  obtain ⟨k, hk, rfl, hall, rfl⟩ := hrel
  by_cases hlt : k < n
  ·obtain ⟨ab, ao, rfl, hab, ca⟩ := ha.at_ hlt
   obtain ⟨bb, bo, rfl, hbb, cb⟩ := hb.at_ hlt
   have hz := hw _ (Zbo (xs := ws) (j := k) (by omega))
   have hbad : Hid (inB 0 (2 ^ (gi ws k).toNat - 1) (gi ns k) = false → fitB ws ns = false) := zH (fitB_bad (by omega))
   obtain ⟨X, hX⟩ := Int.eq_ofNat_of_zero_le (show 0 ≤ gi ws k by omega)
   have hgk : Hid (inB 0 (2 ^ (gi ws k).toNat - 1) (gi ns k) = inB 0 (2 ^ X - 1) (gi ns k)) := zH (by rw [hX]; rfl)
   rw [hX] at ca hz
   have hX10 : X ≤ 10 := by omega
   obtain ⟨N2, hN⟩ : ∃ N2, Hid (N2 = 2 ^ X) := ⟨_, zH rfl⟩
   have hN2 : Hid ((2 : Int) ^ X = (N2 : Int)) := zH (by rw [hN.out, Int.natCast_pow]; rfl)
   have hNb := (Zbl hN.out hX10).1
   have hXt : Hid (((X : Nat) : Int).toNat = X) := zH (by omega)
   rw [hgk.out] at hbad
   obtain ⟨v, hv⟩ := lT (gi ns k)
   rw [hv.out] at cb hbad hgk
   rw [hN2.out] at hbad hgk
   clear hX hw ha hb hN
   cases hG : inB 0 ((N2 : Int) - 1) v with
   | false =>
    have HG := zH hG
    have HR : Hid (fitB ws ns = false) := zH (hbad.out hG)
    have hs := hN2.out
    have hs2 := hXt.out
    clear hG
    go_wp2_with fail
    refine (Zap v 0 ((N2 : Int) - 1) false HG.out _).mono ?_
    rintro e w6 ⟨rfl, rfl⟩
    clear hs hs2
    go_wp2
    go_ret
    exact ⟨by rw [HR.out]; rfl, rfl⟩
   | true =>
    have HG := zH hG
    have hs := hN2.out
    have hs2 := hXt.out
    clear hG
    go_wp2_with fail
    refine (Zap v 0 ((N2 : Int) - 1) true HG.out _).mono ?_
    rintro e w6 ⟨rfl, rfl⟩
    clear hs hs2
    have hall2 : Hid (∀ j, j < k + 1 → inB 0 (2 ^ (gi ws j).toNat - 1) (gi ns j) = true) := zH (fun j hj => by
     rcases Nat.lt_or_ge j k with h1 | h1
     ·exact hall.out j h1
     ·obtain rfl : j = k := by omega
      have := hgk.out; rw [hv.out]; rw [this]; exact HG.out)
    go_wp2
    go_roundw
    case rel => exact ⟨k + 1, by omega, by go_num, hall2, by trivial⟩
    case measure => simp [intOf]; omega
  ·obtain rfl : n = k := Nat.le_antisymm (Nat.le_of_not_lt hlt) hk
   have HR : Hid (fitB ws ns = true) := zH (fitB_ok (by omega) (fun j hj => hall.out j (by omega)))
   go_wp2
   go_ret
   exact ⟨by rw [HR.out]; rfl, rfl⟩
attribute [local go_sem] sepAt sepUpon pureAt pureUpon
def tblkW (A : Option Addr) (n : Nat) : Nat → Prop := fun i => 0 < n ∧ ∃ o, A = some ⟨i, o, none⟩
theorem tblkW_lt {w : World} {Y : Option Addr} {n : Nat} (hY : RY w Y n) : ∀ i, tblkW Y n i → i < w.heap.size := by
 rintro i ⟨hn, o, hq⟩
 obtain ⟨b, o', h1, h2, _⟩ := hY.2 hn
 rw [hq] at h1; injection h1 with h1; injection h1 with h3 h4; omega
theorem Cur.newW {w : World} {Y : Option Addr} {n c : Nat} (hY : RY w Y n) : Cur (w.alloc (.cells #[.slice Y n c, .int .i64 0, .int .u64 0] 78)) w.heap.size (tblkW Y n) 0 := by
 have h2 := hY.alt (Alt.of_new (S := fun _ => False) ((Below.refl w.heap.size w).alloc lR (.cells #[.slice Y n c, .int .i64 0, .int .u64 0] 78))) (fun _ _ _ _ h => h)
 refine ⟨Fz.new w _ _, by simp, Y, n, c, 0, 0, Zaf _ _ 0 _ rfl, Zaf _ _ 1 _ rfl, Zaf _ _ 2 _ rfl, Nat.le_refl _, h2, fun hn q o hA => ⟨⟨hn, o, hA⟩, ?_⟩⟩
 have := tblkW_lt hY q ⟨hn, o, hA⟩
 omega
theorem RI_lit (w : World) (xs : List Int) (t : TypeId) : RI (w.alloc (.cells (xs.map (Value.int .i64)).toArray t)) (some ⟨w.heap.size, 0, none⟩) xs.length xs :=
 ⟨rfl, fun _ => ⟨_, 0, rfl, by simp, fun j hj => by rw [Nat.zero_add]; exact Zaf _ _ j _ (by simp [gi_lt hj, hj])⟩⟩
end Go.Proofs.YtenknpcbbcbciaaGreat
