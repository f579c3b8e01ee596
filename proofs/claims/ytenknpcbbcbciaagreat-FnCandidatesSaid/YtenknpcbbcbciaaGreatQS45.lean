/- Plain facts of FnCandidates: the candidates of one party, over all inputs of the other, are all inputs with the results. No program in sight. -/
import Derived.Test.YtenknpcbbcbciaaGreatQS44
namespace Go.Proofs.YtenknpcbbcbciaaGreat
open Go.RowKit
set_option linter.unusedVariables false
set_option linter.unusedSimpArgs false
def joinP (p : Int) (mine other : List Int) : List Int := if p = 1 then other ++ mine else mine ++ other
theorem joinP_bd (p : Int) {mine other : List Int} (h1 : allB 0 1 mine = true) (h2 : allB 0 1 other = true) : allB 0 1 (joinP p mine other) = true := by
 unfold joinP
 split <;> exact allB_iff.2 fun z hz => (List.mem_append.1 hz).elim (fun h => allB_iff.1 (by assumption) z h) (fun h => allB_iff.1 (by assumption) z h)
def cdF (l : List Ln) (p : Int) (vs rs : List Int) : Option (List Int) :=
 if coB l = true ∧ inB 0 1 p = true ∧ fitB (insL l p) vs = true ∧ sumI (insL l (1 - p)) ≤ 10 ∧ fitB (outsL l) rs = true then
  some (candK (fun n => hitP l rs (joinP p (bitsK (insL l p) vs (insL l p).length) (bitsN n (sumI (insL l (1 - p))).toNat))) (2 ^ (sumI (insL l (1 - p))).toNat)) else none
theorem cdF_len (l : List Ln) (p : Int) (vs rs : List Int) : ((cdF l p vs rs).getD []).length ≤ 1024 := by
 unfold cdF
 split
 ·rename_i h
  have h1 := two_pow_small (X := (sumI (insL l (1 - p))).toNat) (by omega)
  have h2 := candK_len (fun n => hitP l rs (joinP p (bitsK (insL l p) vs (insL l p).length) (bitsN n (sumI (insL l (1 - p))).toNat))) (2 ^ (sumI (insL l (1 - p))).toNat)
  simp only [Option.getD_some]
  omega
 ·simp
set_option maxRecDepth 100000 in
set_option maxHeartbeats 3200000 in
theorem CandidatesFor0_any (A B C : Option Addr) (n c m d r q : Nat) (l : List Ln) (vs rs : List Int) (w : World) (ha : RLn w A n l) (hn : n ≤ 2097152) (hcap : n ≤ c) (hsh : ∀ x ∈ l, shortL x) (hb : RI w B m vs) (hm : m ≤ 2097152) (hc : RI w C r rs) (hr : r ≤ 2097152) (hg : coB l = true) :
 Calls Tryz.prog 25 #[.slice A n c, .int .i64 0, .slice B m d, .slice C r q] w (RetO w (cdF l 0 vs rs)) := by
 have H0 := zH hg
 have hD := zH (Zfi hg)
 have hgd := (Zdq hg).1
 have hl := ha.len
 subst hl
 have hx0 := hD.out.x
 have hy0 := hD.out.y
 have hw1 := Zbz hgd.2.1 0
 have hwo := Zbz hgd.2.1 1
 have hw2 := Zfa hgd.2.1
 have hL1 := Zbx l 0
 have hL2 := outs10 hgd
 have hn30 := hgd.1
 have ho1 : (if inB 0 1 0 = true then byO (fun x => decide (x.kind = 1) && decide (x.party = 0)) l else none) = some (insL l 0) := by rw [if_pos (show inB 0 1 0 = true from rfl), byO_in, if_pos hgd]
 have ho2 : byO (fun x => decide (x.kind = 6)) l = some (outsL l) := by rw [byO_out, if_pos hgd]
 go_enter Tryz.func25, Tryz.ntmps25
 go_wp2_with fail
 refine (Zcv A l.length c l _ ha hn hcap hsh hg).mono ?_
 rintro e w1 hT
 obtain ⟨Ag, cg, Oa, oc, Ea, ec, Wa, wc, bl, rfl, hC, hE, hW, hb1⟩ := hT
 have al1 : Below w1.heap.size w1 (w1.alloc (.cells #[.int .i64 (sumI (insL l 0)), .int .i64 (sumI (insL l 1)), .slice Ag (cc l).g.length cg, .slice Oa (cc l).os.length oc, .slice Wa l.length wc, .slice Ea l.length ec] 63)) := bA
 have hx : Bx6 (w1.alloc (.cells #[.int .i64 (sumI (insL l 0)), .int .i64 (sumI (insL l 1)), .slice Ag (cc l).g.length cg, .slice Oa (cc l).os.length oc, .slice Wa l.length wc, .slice Ea l.length ec] 63)) w1.heap.size _ _ _ _ _ _ := Bx6.new w1 (.int .i64 (sumI (insL l 0))) (.int .i64 (sumI (insL l 1))) (.slice Ag (cc l).g.length cg) (.slice Oa (cc l).os.length oc) (.slice Wa l.length wc) (.slice Ea l.length ec) 63
 have hB := hb1.trans (al1.mono hb1.size)
 have hG1 := hC.1.reads.below al1 lR
 have hO1 := hC.2.1.reads.below al1 lR
 clear hg hC hE hW
 have hq1 := Zbq A l.length c 0 l (w1.alloc (.cells #[.int .i64 (sumI (insL l 0)), .int .i64 (sumI (insL l 1)), .slice Ag (cc l).g.length cg, .slice Oa (cc l).os.length oc, .slice Wa l.length wc, .slice Ea l.length ec] 63)) (ha.below hB lR) hn hcap hsh
 rw [ho1] at hq1
 go_wp2_with fail
 refine (hq1).mono ?_
 rintro e w2 hT
 obtain ⟨A2, c2, rfl, p2, hb2⟩ := RetO.open_some hT rfl
 have hB2 := hB.trans (hb2.mono hB.size)
 have rb := hb.below hB2 lR
 clear hT hq1 ho1
 cases hf : fitB (insL l 0) vs with
 | false =>
  have HR : Hid (cdF l 0 vs rs = none) := zH (if_neg (fun h => by rw [hf] at h; cases h.2.2.1))
  have HF := zH hf
  clear hf
  go_wp2_with fail
  refine (Zbf A2 B (insL l 0).length c2 m d (insL l 0) vs _ p2.reads rb (by omega) hm (fun z hz => hw1 z hz)).mono ?_
  rintro e w4 ⟨rfl, rfl⟩
  rw [HF.out]
  go_wp2
  go_ret2
  exact RetO.none_ hB2 HR.out rfl
 | true =>
  have HF := zH hf
  obtain ⟨e1, f1⟩ := Zfg hf hw1
  obtain rfl : m = (insL l 0).length := by rw [e1, hb.len]
  clear e1 hf
  go_wp2_with fail
  refine (Zbf A2 B (insL l 0).length c2 (insL l 0).length d (insL l 0) vs _ p2.reads rb (by omega) hm (fun z hz => hw1 z hz)).mono ?_
  rintro e w4 ⟨rfl, rfl⟩
  rw [HF.out]
  have hq := hx.below hb2; obtain ⟨k0, k1, k2, k3, _, _⟩ := hq
  go_wp2_with fail
  refine (Zay (sumI (insL l 0)) (sumI (insL l 1)) Ag (cc l).g.length cg Oa (cc l).os.length oc _ hx0 hy0).mono ?_
  rintro e w3 ⟨rfl, hb3⟩
  have hB3 := hB2.trans (hb3.mono hB2.size)
  clear k0 k1 k2 k3
  go_wp2_with fail
  refine (Zej A2 (insL l 0).length c2 (insL l 0) _ (p2.reads.below hb3 lR) (by omega) (fun z hz => by have := hw1 z hz; omega)).mono ?_
  rintro e w5 ⟨rfl, rfl⟩
  by_cases h10 : sumI (insL l 1) ≤ 10
  ·have hq2 := Zfj A l.length c l w3 (ha.below hB3 lR) hn hcap hsh
   rw [ho2] at hq2
   go_wp2_with fail
   refine (hq2).mono ?_
   rintro e w6 hT
   obtain ⟨A6, c6, rfl, p6, hb6⟩ := RetO.open_some hT rfl
   have hB6 := hB3.trans (hb6.mono hB3.size)
   have rc := hc.below hB6 lR
   clear hT hq2 ho2
   cases hfr : fitB (outsL l) rs with
   | false =>
    have HR : Hid (cdF l 0 vs rs = none) := zH (if_neg (fun h => by rw [hfr] at h; cases h.2.2.2.2))
    have HF2 := zH hfr
    clear hfr
    go_wp2_with fail
    refine (Zbf A6 C (outsL l).length c6 r q (outsL l) rs _ p6.reads rc (by omega) hr (fun z hz => hw2 z hz)).mono ?_
    rintro e w7 ⟨rfl, rfl⟩
    rw [HF2.out]
    go_wp2
    go_ret2
    exact RetO.none_ hB6 HR.out rfl
   | true =>
    have HF2 := zH hfr
    obtain ⟨Y, hY⟩ := Int.eq_ofNat_of_zero_le (show 0 ≤ sumI (insL l 1) by omega)
    have hY10 : Y ≤ 10 := by omega
    obtain ⟨N, hN⟩ : ∃ N, N = 2 ^ Y := ⟨_, rfl⟩
    obtain ⟨hN1, hsh2⟩ := Zbl hN hY10
    have HR : Hid (cdF l 0 vs rs = some (candK (fun n => hitP l rs (joinP 0 (bitsK (insL l 0) vs (insL l 0).length) (bitsN n Y))) N)) := zH (by
     have h : cdF l 0 vs rs = some (candK (fun n => hitP l rs (joinP 0 (bitsK (insL l 0) vs (insL l 0).length) (bitsN n (sumI (insL l 1)).toNat))) (2 ^ (sumI (insL l 1)).toNat)) := if_pos ⟨H0.out, rfl, HF.out, h10, hfr⟩
     rw [hY, Int.toNat_natCast, ← hN] at h
     exact h)
    have s1 := Zef hw1
    obtain ⟨X, hX⟩ := lT (offs (insL l 0) (insL l 0).length)
    have hml := Zca hw1 vs (insL l 0).length lR
    rw [hX.out] at s1 hml
    have hmb := bitsK_bd (insL l 0) vs (insL l 0).length
    obtain ⟨mine, hmine⟩ := lT (bitsK (insL l 0) vs (insL l 0).length)
    rw [hmine.out] at hml hmb HR
    have hYh := zH hY
    have hYY : Hid (sumI (insL l 0) + sumI (insL l 1) - sumI (insL l 0) = (Y : Int)) := zH (by omega)
    have hgat := hD.out.gat (X + Y) (by omega)
    have hout := hD.out.out (X + Y) (by omega)
    have hofs := hD.out.offs
    have hng := hD.out.ng
    have hno := hD.out.no
    have hjb := zH (fun k => show allB 0 1 (mine ++ bitsN k Y) = true from joinP_bd 0 hmb (Zcw k Y))
    have hjl := zH (fun k => show (mine ++ bitsN k Y).length = X + Y by rw [List.length_append, hml, Zax])
    have hrun := zH (fun k => runB_bd hD.out (hjb.out k) (by rw [hjl.out k]; omega))
    have hrl := zH (fun k => Zdo l (mine ++ bitsN k Y))
    have hrb := zH (fun k => show pick (vals (cc l).g (mine ++ bitsN k Y) (cc l).g.length) (cc l).os = runB l (mine ++ bitsN k Y) from rfl)
    have hvl := zH (fun k => show (vals (cc l).g (mine ++ bitsN k Y) (cc l).g.length).length = X + Y + (cc l).g.length by rw [Zdd, hjl.out k])
    have hhit := zH (fun k => show sameB (numK (outsL l) (runB l (mine ++ bitsN k Y)) (outsL l).length) rs = hitP l rs (joinP 0 mine (bitsN k Y)) from same_num hw2 hfr (hrun.out k) (by rw [Zdo]; exact hofs.symm))
    have hcn := zH (fun k => show candK (fun n => hitP l rs (joinP 0 mine (bitsN n Y))) (k + 1) = if hitP l rs (joinP 0 mine (bitsN k Y)) = true then candK (fun n => hitP l rs (joinP 0 mine (bitsN n Y))) k ++ [(k : Int)] else candK (fun n => hitP l rs (joinP 0 mine (bitsN n Y))) k from rfl)
    have hcb := zH (fun k => candK_len (fun n => hitP l rs (joinP 0 mine (bitsN n Y))) k)
    have hc0 : Hid (candK (fun n => hitP l rs (joinP 0 mine (bitsN n Y))) 0 = []) := zH rfl
    have hXb : X ≤ 20 := by omega
    clear hfr hN hY s1 h10 hX
    go_wp2_with fail
    refine (Zbf A6 C (outsL l).length c6 r q (outsL l) rs _ p6.reads rc (by omega) hr (fun z hz => hw2 z hz)).mono ?_
    rintro e w7 ⟨rfl, rfl⟩
    rw [HF2.out]
    have hbx := (hb2.trans (hb3.mono hb2.size)).trans (hb6.mono (hb2.trans (hb3.mono hb2.size)).size)
    have hx6 := hx.below hbx
    have g6 := hG1.below hbx lR
    have o6 := hO1.below hbx lR
    have r6 := p6.reads
    have r2 := (p2.reads.below hb3 lR).below hb6 lR
    have rb6 := (rb.below hb3 lR).below hb6 lR
    have hlt1 : w1.heap.size < w6.heap.size := by have := hbx.size; simp at this; omega
    clear hbx hb2 hb3 hb6 hb1 hB hB2 hB3 hx hG1 hO1 al1 p2 p6 ha hsh hb hc hD rb
    rw [hYY.out]
    obtain ⟨x, hxx⟩ := lT (sumI (insL l 0))
    obtain ⟨y, hyy⟩ := lT (sumI (insL l 1))
    rw [hxx.out] at hx6 hx0 ⊢
    rw [hyy.out] at hx6 hy0 ⊢
    obtain ⟨ng, hngl⟩ := lT ((cc l).g.length)
    obtain ⟨no, hnol⟩ := lT ((cc l).os.length)
    rw [hngl.out] at hx6 g6 hgat hout hng hvl hrb ⊢
    rw [hnol.out] at hx6 o6 hofs hno hrl ⊢
    obtain ⟨K, hK⟩ := lT ((outsL l).length)
    rw [hK.out] at hL2 hofs hhit r6 ⊢
    generalize hWS : candK (fun n => hitP l rs (joinP 0 mine (bitsN n Y))) = S at *
    clear hWS
    obtain ⟨k0, k1, k2, k3, _, _⟩ := hx6
    have hown0 : Own (w6.alloc (.cells #[] 3)) w6.heap.size (w6.alloc (.cells #[] 3)).heap.size (.slice (some ⟨w6.heap.size, 0, none⟩) 0 0) 0 (S 0) := by rw [hc0.out]; simpa using Zcc w6 w6.heap.size lR
    have hb0 : Below w6.heap.size w6 (w6.alloc (.cells #[] 3)) := bA
    go_wp2_with fail
    rw [hsh2]
    go_loopw [17, 64] (fun v i wr => ∃ (k cn : Nat) (A' : Option Addr) (c' : Nat), k ≤ N ∧ cn ≤ k ∧ i = .int .i64 k ∧ v = .slice A' cn c' ∧ Own wr w6.heap.size wr.heap.size (.slice A' cn c') cn (S k) ∧ Below w6.heap.size w6 wr) (fun _ i _ => N - (intOf i).toNat)
    case atStart => exact ⟨0, 0, _, _, Nat.zero_le _, Nat.le_refl _, rfl, rfl, hown0, hb0⟩
    case round =>
     clear hown0 hb0
     obtain ⟨k, cn, A', c', hk, hcnk, rfl, rfl, hown, hbw⟩ := hrel
     by_cases hlt : k < N
     ·have hz := hbw.size
      go_wp2_with fail
      refine (Zff A2 B (insL l 0).length c2 (insL l 0).length d (insL l 0) vs _ (r2.below hbw lR) (rb6.below hbw lR) (by omega) hw1 f1).mono ?_
      rintro e w7 hT
      rw [hmine.out] at hT
      obtain ⟨A7, c7, rfl, p7, i7⟩ := RetI.open_ hT hml
      go_wp2_with fail
      refine (Zdx k Y _ (by omega) (by omega)).mono ?_
      rintro e w8 hT8
      obtain ⟨A8, c8, rfl, p8, i8⟩ := RetI.open_ hT8 (Zax _ _)
      go_wp2_with fail
      refine (with_any A7 A8 X c7 Y c8 mine (bitsN k Y) _ (p7.reads.below i8 lR) p8.reads (by omega) (by omega)).mono ?_
      rintro e w9 ⟨A9, c9, rfl, p9, i9⟩
      have j9 := bnext (bnext i7 i8) i9
      have hb9 := hbw.trans (j9.mono hz)
      clear hT hT8 p7 p8 i7 i8 i9
      have q0 := Zat k0 hb9
      have q1 := Zat k1 hb9
      have q2 := Zat k2 hb9
      have q3 := Zat k3 hb9
      have gw := g6.below hb9 lR
      have ow := o6.below hb9 lR
      have r6w := r6.below hb9 lR
      have rcw := rc.below hb9 lR
      have hownK := hown.below j9 (.inl lR)
      have hjbk := hjb.out k
      have hrk := hrun.out k
      have hrlk := hrl.out k
      have hrbk := zH (hrb.out k)
      have hvk := hvl.out k
      have hhk := zH (hhit.out k)
      have hck := hcn.out k
      have hzK := hb9.size
      obtain ⟨O, hO⟩ := lT (runB l (mine ++ bitsN k Y))
      rw [hO.out] at hrk hrlk hrbk hhk
      obtain ⟨b, hbb⟩ := lT (hitP l rs (joinP 0 mine (bitsN k Y)))
      rw [hbb.out] at hhk hck
      clear hown hbw
      go_wp2_with fail
      go_region_held3 (fun w' => w'.cell? ⟨w1.heap.size, 0, none⟩ = some (.int .i64 x) ∧ w'.cell? ⟨w1.heap.size, 1, none⟩ = some (.int .i64 y) ∧ w'.cell? ⟨w1.heap.size, 2, none⟩ = some (.slice Ag ng cg) ∧ w'.cell? ⟨w1.heap.size, 3, none⟩ = some (.slice Oa no oc))
       (first | go_keep | (go_split_ands; exact ⟨Zab (by assumption) i22, Zab (by assumption) i22, Zab (by assumption) i22, Zab (by assumption) i22⟩) | (go_split_ands; exact ⟨Zab (by assumption) i21, Zab (by assumption) i21, Zab (by assumption) i21, Zab (by assumption) i21⟩) | (go_split_ands; exact ⟨Zab (by assumption) i20, Zab (by assumption) i20, Zab (by assumption) i20, Zab (by assumption) i20⟩) | ((try dsimp only); (repeat' apply And.intro) <;> go_keep))
       (first | (go_at_call 45; refine (Zcx x y Ag ng cg Oa no oc A9 (X + Y) c9 (cc l).g (mine ++ bitsN k Y) _ (show RG (w9.drewN 1) Ag ng (cc l).g from gw) (p9.reads.drewN 1) hjbk hgat hng (by omega)).mono ?_; rintro e w20 hT8; obtain ⟨A20, c20, rfl, p20, i20⟩ := RetI.open_ hT8 hvk) | (go_at_call 49; refine (at_any A20 Oa (X + Y + ng) c20 no oc (vals (cc l).g (mine ++ bitsN k Y) ng) (cc l).os _ p20.reads ((ow.drewN 1).below i20 lR) (by omega) (by omega) hout).mono ?_; rintro e w21 hT9; rw [hrbk.out] at hT9; obtain ⟨A21, c21, rfl, p21, i21⟩ := RetI.open_ hT9 hrlk) | (go_at_call 48; refine (Zfb A6 A21 K c6 no c21 (outsL l) O _ (((r6w.drewN 1).below i20 lR).below i21 lR) p21.reads (by omega) (by omega) p21.cap hw2 hrk hofs).mono ?_; rintro e w22 hT10; obtain ⟨A22, c22, rfl, p22, i22⟩ := RetI.open_ hT10 (numK_len _ _ _)) | (go_at_call 77; refine (Equal_any A22 C K c22 r q (numK (outsL l) O K) rs _ p22.reads ((((rcw.drewN 1).below i20 lR).below i21 lR).below i22 lR) (by omega) hr).mono ?_; rintro e w23 ⟨he, jj, rfl⟩; rw [hhk.out] at he; obtain rfl := he))
      have j22 : Below w9.heap.size w9 w22 := bnext (bnext (bnext (Zai 1) i20) i21) i22
      have hB22 := Zaa (hb9.trans (j22.mono hzK)) jj
      have hown22 := ((hownK.below j22 (.inl lR)).drewN jj).now
      have hz22 := hB22.size
      have hz22b : w6.heap.size ≤ w22.heap.size := hB22.size
      clear i20 i21 i22 j22 q0 q1 q2 q3 gw ow r6w rcw p20 p21 p22 hownK hb9 j9 p9 hjbk
      cases b with
      | true =>
       have hck2 : Hid (S (k + 1) = S k ++ [(k : Int)]) := zH (by rw [hck, if_pos rfl])
       have hownA := hown22.alloc (.cells #[.int .i64 (k : Int)] 3)
       have hbA := hB22.alloc hz22 (.cells #[.int .i64 (k : Int)] 3)
       clear hck
       go_wp2_with (at_builtin; refine Zal _ rfl _ _ rfl rfl hownA rfl (Zaj _ _ _ _ (by simp)) (by omega) oM ?_; intro A5 c5 w5 hown5 hg5 hat5)
       have hb5 := Zah hbA hownA hg5 (by simp; omega) lR
       rw [← hck2.out] at hown5
       clear hownA hbA hg5 hat5 hown22 hB22
       go_wp2
       go_roundw
       case rel => exact ⟨k + 1, cn + 1, _, _, by omega, by omega, by go_num, rfl, hown5, hb5⟩
       case measure => simp [intOf]; omega
      | false =>
       have hck2 : Hid (S (k + 1) = S k) := zH (by rw [hck, if_neg (by decide)])
       clear hck
       rw [← hck2.out] at hown22
       go_wp2
       go_roundw
       case rel => exact ⟨k + 1, cn, _, _, by omega, by omega, by go_num, rfl, hown22, hB22⟩
       case measure => simp [intOf]; omega
     ·obtain rfl : N = k := by omega
      go_wp2
      go_ret2
      exact RetO.some_ (hB6.trans (hbw.mono hB6.size)) HR.out hown.len rfl (hown.lo_ hB6.size)
  ·have HR : Hid (cdF l 0 vs rs = none) := zH (if_neg (fun h => h10 h.2.2.2.1))
   go_wp2
   go_ret2
   exact RetO.none_ hB3 HR.out rfl
set_option maxRecDepth 100000 in
set_option maxHeartbeats 3200000 in
theorem CandidatesFor1_any (A B C : Option Addr) (n c m d r q : Nat) (l : List Ln) (vs rs : List Int) (w : World) (ha : RLn w A n l) (hn : n ≤ 2097152) (hcap : n ≤ c) (hsh : ∀ x ∈ l, shortL x) (hb : RI w B m vs) (hm : m ≤ 2097152) (hc : RI w C r rs) (hr : r ≤ 2097152) (hg : coB l = true) :
 Calls Tryz.prog 25 #[.slice A n c, .int .i64 1, .slice B m d, .slice C r q] w (RetO w (cdF l 1 vs rs)) := by
 have H0 := zH hg
 have hD := zH (Zfi hg)
 have hgd := (Zdq hg).1
 have hl := ha.len
 subst hl
 have hx0 := hD.out.x
 have hy0 := hD.out.y
 have hw1 := Zbz hgd.2.1 1
 have hwo := Zbz hgd.2.1 0
 have hw2 := Zfa hgd.2.1
 have hL1 := Zbx l 1
 have hL2 := outs10 hgd
 have hn30 := hgd.1
 have ho1 : (if inB 0 1 1 = true then byO (fun x => decide (x.kind = 1) && decide (x.party = 1)) l else none) = some (insL l 1) := by rw [if_pos (show inB 0 1 1 = true from rfl), byO_in, if_pos hgd]
 have ho2 : byO (fun x => decide (x.kind = 6)) l = some (outsL l) := by rw [byO_out, if_pos hgd]
 go_enter Tryz.func25, Tryz.ntmps25
 go_wp2_with fail
 refine (Zcv A l.length c l _ ha hn hcap hsh hg).mono ?_
 rintro e w1 hT
 obtain ⟨Ag, cg, Oa, oc, Ea, ec, Wa, wc, bl, rfl, hC, hE, hW, hb1⟩ := hT
 have al1 : Below w1.heap.size w1 (w1.alloc (.cells #[.int .i64 (sumI (insL l 0)), .int .i64 (sumI (insL l 1)), .slice Ag (cc l).g.length cg, .slice Oa (cc l).os.length oc, .slice Wa l.length wc, .slice Ea l.length ec] 63)) := bA
 have hx : Bx6 (w1.alloc (.cells #[.int .i64 (sumI (insL l 0)), .int .i64 (sumI (insL l 1)), .slice Ag (cc l).g.length cg, .slice Oa (cc l).os.length oc, .slice Wa l.length wc, .slice Ea l.length ec] 63)) w1.heap.size _ _ _ _ _ _ := Bx6.new w1 (.int .i64 (sumI (insL l 0))) (.int .i64 (sumI (insL l 1))) (.slice Ag (cc l).g.length cg) (.slice Oa (cc l).os.length oc) (.slice Wa l.length wc) (.slice Ea l.length ec) 63
 have hB := hb1.trans (al1.mono hb1.size)
 have hG1 := hC.1.reads.below al1 lR
 have hO1 := hC.2.1.reads.below al1 lR
 clear hg hC hE hW
 have hq1 := Zbq A l.length c 1 l (w1.alloc (.cells #[.int .i64 (sumI (insL l 0)), .int .i64 (sumI (insL l 1)), .slice Ag (cc l).g.length cg, .slice Oa (cc l).os.length oc, .slice Wa l.length wc, .slice Ea l.length ec] 63)) (ha.below hB lR) hn hcap hsh
 rw [ho1] at hq1
 go_wp2_with fail
 refine (hq1).mono ?_
 rintro e w2 hT
 obtain ⟨A2, c2, rfl, p2, hb2⟩ := RetO.open_some hT rfl
 have hB2 := hB.trans (hb2.mono hB.size)
 have rb := hb.below hB2 lR
 clear hT hq1 ho1
 cases hf : fitB (insL l 1) vs with
 | false =>
  have HR : Hid (cdF l 1 vs rs = none) := zH (if_neg (fun h => by rw [hf] at h; cases h.2.2.1))
  have HF := zH hf
  clear hf
  go_wp2_with fail
  refine (Zbf A2 B (insL l 1).length c2 m d (insL l 1) vs _ p2.reads rb (by omega) hm (fun z hz => hw1 z hz)).mono ?_
  rintro e w4 ⟨rfl, rfl⟩
  rw [HF.out]
  go_wp2
  go_ret2
  exact RetO.none_ hB2 HR.out rfl
 | true =>
  have HF := zH hf
  obtain ⟨e1, f1⟩ := Zfg hf hw1
  obtain rfl : m = (insL l 1).length := by rw [e1, hb.len]
  clear e1 hf
  go_wp2_with fail
  refine (Zbf A2 B (insL l 1).length c2 (insL l 1).length d (insL l 1) vs _ p2.reads rb (by omega) hm (fun z hz => hw1 z hz)).mono ?_
  rintro e w4 ⟨rfl, rfl⟩
  rw [HF.out]
  have hq := hx.below hb2; obtain ⟨k0, k1, k2, k3, _, _⟩ := hq
  go_wp2_with fail
  refine (Zay (sumI (insL l 0)) (sumI (insL l 1)) Ag (cc l).g.length cg Oa (cc l).os.length oc _ hx0 hy0).mono ?_
  rintro e w3 ⟨rfl, hb3⟩
  have hB3 := hB2.trans (hb3.mono hB2.size)
  clear k0 k1 k2 k3
  go_wp2_with fail
  refine (Zej A2 (insL l 1).length c2 (insL l 1) _ (p2.reads.below hb3 lR) (by omega) (fun z hz => by have := hw1 z hz; omega)).mono ?_
  rintro e w5 ⟨rfl, rfl⟩
  by_cases h10 : sumI (insL l 0) ≤ 10
  ·have hq2 := Zfj A l.length c l w3 (ha.below hB3 lR) hn hcap hsh
   rw [ho2] at hq2
   go_wp2_with fail
   refine (hq2).mono ?_
   rintro e w6 hT
   obtain ⟨A6, c6, rfl, p6, hb6⟩ := RetO.open_some hT rfl
   have hB6 := hB3.trans (hb6.mono hB3.size)
   have rc := hc.below hB6 lR
   clear hT hq2 ho2
   cases hfr : fitB (outsL l) rs with
   | false =>
    have HR : Hid (cdF l 1 vs rs = none) := zH (if_neg (fun h => by rw [hfr] at h; cases h.2.2.2.2))
    have HF2 := zH hfr
    clear hfr
    go_wp2_with fail
    refine (Zbf A6 C (outsL l).length c6 r q (outsL l) rs _ p6.reads rc (by omega) hr (fun z hz => hw2 z hz)).mono ?_
    rintro e w7 ⟨rfl, rfl⟩
    rw [HF2.out]
    go_wp2
    go_ret2
    exact RetO.none_ hB6 HR.out rfl
   | true =>
    have HF2 := zH hfr
    obtain ⟨Y, hY⟩ := Int.eq_ofNat_of_zero_le (show 0 ≤ sumI (insL l 0) by omega)
    have hY10 : Y ≤ 10 := by omega
    obtain ⟨N, hN⟩ : ∃ N, N = 2 ^ Y := ⟨_, rfl⟩
    obtain ⟨hN1, hsh2⟩ := Zbl hN hY10
    have HR : Hid (cdF l 1 vs rs = some (candK (fun n => hitP l rs (joinP 1 (bitsK (insL l 1) vs (insL l 1).length) (bitsN n Y))) N)) := zH (by
     have h : cdF l 1 vs rs = some (candK (fun n => hitP l rs (joinP 1 (bitsK (insL l 1) vs (insL l 1).length) (bitsN n (sumI (insL l 0)).toNat))) (2 ^ (sumI (insL l 0)).toNat)) := if_pos ⟨H0.out, rfl, HF.out, h10, hfr⟩
     rw [hY, Int.toNat_natCast, ← hN] at h
     exact h)
    have s1 := Zef hw1
    obtain ⟨X, hX⟩ := lT (offs (insL l 1) (insL l 1).length)
    have hml := Zca hw1 vs (insL l 1).length lR
    rw [hX.out] at s1 hml
    have hmb := bitsK_bd (insL l 1) vs (insL l 1).length
    obtain ⟨mine, hmine⟩ := lT (bitsK (insL l 1) vs (insL l 1).length)
    rw [hmine.out] at hml hmb HR
    have hYh := zH hY
    have hYY : Hid (sumI (insL l 0) + sumI (insL l 1) - sumI (insL l 1) = (Y : Int)) := zH (by omega)
    have hgat := hD.out.gat (Y + X) (by omega)
    have hout := hD.out.out (Y + X) (by omega)
    have hofs := hD.out.offs
    have hng := hD.out.ng
    have hno := hD.out.no
    have hjb := zH (fun k => show allB 0 1 (bitsN k Y ++ mine) = true from joinP_bd 1 hmb (Zcw k Y))
    have hjl := zH (fun k => show (bitsN k Y ++ mine).length = Y + X by rw [List.length_append, hml, Zax])
    have hrun := zH (fun k => runB_bd hD.out (hjb.out k) (by rw [hjl.out k]; omega))
    have hrl := zH (fun k => Zdo l (bitsN k Y ++ mine))
    have hrb := zH (fun k => show pick (vals (cc l).g (bitsN k Y ++ mine) (cc l).g.length) (cc l).os = runB l (bitsN k Y ++ mine) from rfl)
    have hvl := zH (fun k => show (vals (cc l).g (bitsN k Y ++ mine) (cc l).g.length).length = Y + X + (cc l).g.length by rw [Zdd, hjl.out k])
    have hhit := zH (fun k => show sameB (numK (outsL l) (runB l (bitsN k Y ++ mine)) (outsL l).length) rs = hitP l rs (joinP 1 mine (bitsN k Y)) from same_num hw2 hfr (hrun.out k) (by rw [Zdo]; exact hofs.symm))
    have hcn := zH (fun k => show candK (fun n => hitP l rs (joinP 1 mine (bitsN n Y))) (k + 1) = if hitP l rs (joinP 1 mine (bitsN k Y)) = true then candK (fun n => hitP l rs (joinP 1 mine (bitsN n Y))) k ++ [(k : Int)] else candK (fun n => hitP l rs (joinP 1 mine (bitsN n Y))) k from rfl)
    have hcb := zH (fun k => candK_len (fun n => hitP l rs (joinP 1 mine (bitsN n Y))) k)
    have hc0 : Hid (candK (fun n => hitP l rs (joinP 1 mine (bitsN n Y))) 0 = []) := zH rfl
    have hXb : X ≤ 20 := by omega
    clear hfr hN hY s1 h10 hX
    go_wp2_with fail
    refine (Zbf A6 C (outsL l).length c6 r q (outsL l) rs _ p6.reads rc (by omega) hr (fun z hz => hw2 z hz)).mono ?_
    rintro e w7 ⟨rfl, rfl⟩
    rw [HF2.out]
    have hbx := (hb2.trans (hb3.mono hb2.size)).trans (hb6.mono (hb2.trans (hb3.mono hb2.size)).size)
    have hx6 := hx.below hbx
    have g6 := hG1.below hbx lR
    have o6 := hO1.below hbx lR
    have r6 := p6.reads
    have r2 := (p2.reads.below hb3 lR).below hb6 lR
    have rb6 := (rb.below hb3 lR).below hb6 lR
    have hlt1 : w1.heap.size < w6.heap.size := by have := hbx.size; simp at this; omega
    clear hbx hb2 hb3 hb6 hb1 hB hB2 hB3 hx hG1 hO1 al1 p2 p6 ha hsh hb hc hD rb
    obtain ⟨y, hyy⟩ := lT (sumI (insL l 1))
    rw [hYh.out] at hx6 hx0 ⊢
    rw [hyy.out] at hx6 hy0 ⊢
    obtain ⟨ng, hngl⟩ := lT ((cc l).g.length)
    obtain ⟨no, hnol⟩ := lT ((cc l).os.length)
    rw [hngl.out] at hx6 g6 hgat hout hng hvl hrb ⊢
    rw [hnol.out] at hx6 o6 hofs hno hrl ⊢
    obtain ⟨K, hK⟩ := lT ((outsL l).length)
    rw [hK.out] at hL2 hofs hhit r6 ⊢
    generalize hWS : candK (fun n => hitP l rs (joinP 1 mine (bitsN n Y))) = S at *
    clear hWS
    obtain ⟨k0, k1, k2, k3, _, _⟩ := hx6
    have hown0 : Own (w6.alloc (.cells #[] 3)) w6.heap.size (w6.alloc (.cells #[] 3)).heap.size (.slice (some ⟨w6.heap.size, 0, none⟩) 0 0) 0 (S 0) := by rw [hc0.out]; simpa using Zcc w6 w6.heap.size lR
    have hb0 : Below w6.heap.size w6 (w6.alloc (.cells #[] 3)) := bA
    go_wp2_with fail
    rw [hsh2]
    go_loopw [17, 64] (fun v i wr => ∃ (k cn : Nat) (A' : Option Addr) (c' : Nat), k ≤ N ∧ cn ≤ k ∧ i = .int .i64 k ∧ v = .slice A' cn c' ∧ Own wr w6.heap.size wr.heap.size (.slice A' cn c') cn (S k) ∧ Below w6.heap.size w6 wr) (fun _ i _ => N - (intOf i).toNat)
    case atStart => exact ⟨0, 0, _, _, Nat.zero_le _, Nat.le_refl _, rfl, rfl, hown0, hb0⟩
    case round =>
     clear hown0 hb0
     obtain ⟨k, cn, A', c', hk, hcnk, rfl, rfl, hown, hbw⟩ := hrel
     by_cases hlt : k < N
     ·have hz := hbw.size
      go_wp2_with fail
      refine (Zff A2 B (insL l 1).length c2 (insL l 1).length d (insL l 1) vs _ (r2.below hbw lR) (rb6.below hbw lR) (by omega) hw1 f1).mono ?_
      rintro e w7 hT
      rw [hmine.out] at hT
      obtain ⟨A7, c7, rfl, p7, i7⟩ := RetI.open_ hT hml
      go_wp2_with fail
      refine (Zdx k Y _ (by omega) (by omega)).mono ?_
      rintro e w8 hT8
      obtain ⟨A8, c8, rfl, p8, i8⟩ := RetI.open_ hT8 (Zax _ _)
      go_wp2_with fail
      refine (with_any A7 A8 X c7 Y c8 mine (bitsN k Y) _ (p7.reads.below i8 lR) p8.reads (by omega) (by omega)).mono ?_
      rintro e w9 ⟨A9, c9, rfl, p9, i9⟩
      have j9 := bnext (bnext i7 i8) i9
      have hb9 := hbw.trans (j9.mono hz)
      clear hT hT8 p7 p8 i7 i8 i9
      clear p9
      go_wp2_with fail
      refine (Zdx k Y _ (by omega) (by omega)).mono ?_
      rintro e w10 hT8
      obtain ⟨A10, c10, rfl, p10, i10⟩ := RetI.open_ hT8 (Zax _ _)
      have hb10 := hb9.trans (i10.mono hb9.size)
      go_wp2_with fail
      refine (Zff A2 B (insL l 1).length c2 (insL l 1).length d (insL l 1) vs _ (r2.below hb10 lR) (rb6.below hb10 lR) (by omega) hw1 f1).mono ?_
      rintro e w11 hT
      rw [hmine.out] at hT
      obtain ⟨A11, c11, rfl, p11, i11⟩ := RetI.open_ hT hml
      go_wp2_with fail
      refine (with_any A10 A11 Y c10 X c11 (bitsN k Y) mine _ (p10.reads.below i11 lR) p11.reads (by omega) (by omega)).mono ?_
      rintro e w12 ⟨A12, c12, rfl, p12, i12⟩
      have j12 := bnext (bnext (bnext j9 i10) i11) i12
      have hb12 := hbw.trans (j12.mono hz)
      clear hT hT8 p10 p11 i10 i11 i12 hb10 hb9 j9
      have q0 := Zat k0 hb12
      have q1 := Zat k1 hb12
      have q2 := Zat k2 hb12
      have q3 := Zat k3 hb12
      have gw := g6.below hb12 lR
      have ow := o6.below hb12 lR
      have r6w := r6.below hb12 lR
      have rcw := rc.below hb12 lR
      have hownK := hown.below j12 (.inl lR)
      have hjbk := hjb.out k
      have hrk := hrun.out k
      have hrlk := hrl.out k
      have hrbk := zH (hrb.out k)
      have hvk := hvl.out k
      have hhk := zH (hhit.out k)
      have hck := hcn.out k
      have hzK := hb12.size
      obtain ⟨O, hO⟩ := lT (runB l (bitsN k Y ++ mine))
      rw [hO.out] at hrk hrlk hrbk hhk
      obtain ⟨b, hbb⟩ := lT (hitP l rs (joinP 1 mine (bitsN k Y)))
      rw [hbb.out] at hhk hck
      clear hown hbw
      go_wp2_with fail
      go_region_held3 (fun w' => w'.cell? ⟨w1.heap.size, 0, none⟩ = some (.int .i64 ((Y : Nat) : Int)) ∧ w'.cell? ⟨w1.heap.size, 1, none⟩ = some (.int .i64 y) ∧ w'.cell? ⟨w1.heap.size, 2, none⟩ = some (.slice Ag ng cg) ∧ w'.cell? ⟨w1.heap.size, 3, none⟩ = some (.slice Oa no oc))
       (first | go_keep | (go_split_ands; exact ⟨Zab (by assumption) i22, Zab (by assumption) i22, Zab (by assumption) i22, Zab (by assumption) i22⟩) | (go_split_ands; exact ⟨Zab (by assumption) i21, Zab (by assumption) i21, Zab (by assumption) i21, Zab (by assumption) i21⟩) | (go_split_ands; exact ⟨Zab (by assumption) i20, Zab (by assumption) i20, Zab (by assumption) i20, Zab (by assumption) i20⟩) | ((try dsimp only); (repeat' apply And.intro) <;> go_keep))
       (first | (go_at_call 45; refine (Zcx ((Y : Nat) : Int) y Ag ng cg Oa no oc A12 (Y + X) c12 (cc l).g (bitsN k Y ++ mine) _ (show RG (w12.drewN 1) Ag ng (cc l).g from gw) (p12.reads.drewN 1) hjbk hgat hng (by omega)).mono ?_; rintro e w20 hT8; obtain ⟨A20, c20, rfl, p20, i20⟩ := RetI.open_ hT8 hvk) | (go_at_call 49; refine (at_any A20 Oa (Y + X + ng) c20 no oc (vals (cc l).g (bitsN k Y ++ mine) ng) (cc l).os _ p20.reads ((ow.drewN 1).below i20 lR) (by omega) (by omega) hout).mono ?_; rintro e w21 hT9; rw [hrbk.out] at hT9; obtain ⟨A21, c21, rfl, p21, i21⟩ := RetI.open_ hT9 hrlk) | (go_at_call 48; refine (Zfb A6 A21 K c6 no c21 (outsL l) O _ (((r6w.drewN 1).below i20 lR).below i21 lR) p21.reads (by omega) (by omega) p21.cap hw2 hrk hofs).mono ?_; rintro e w22 hT10; obtain ⟨A22, c22, rfl, p22, i22⟩ := RetI.open_ hT10 (numK_len _ _ _)) | (go_at_call 77; refine (Equal_any A22 C K c22 r q (numK (outsL l) O K) rs _ p22.reads ((((rcw.drewN 1).below i20 lR).below i21 lR).below i22 lR) (by omega) hr).mono ?_; rintro e w23 ⟨he, jj, rfl⟩; rw [hhk.out] at he; obtain rfl := he))
      have j22 : Below w12.heap.size w12 w22 := bnext (bnext (bnext (Zai 1) i20) i21) i22
      have hB22 := Zaa (hb12.trans (j22.mono hzK)) jj
      have hown22 := ((hownK.below j22 (.inl lR)).drewN jj).now
      have hz22 := hB22.size
      have hz22b : w6.heap.size ≤ w22.heap.size := hB22.size
      clear i20 i21 i22 j22 q0 q1 q2 q3 gw ow r6w rcw p20 p21 p22 hownK hb12 j12 p12 hjbk
      cases b with
      | true =>
       have hck2 : Hid (S (k + 1) = S k ++ [(k : Int)]) := zH (by rw [hck, if_pos rfl])
       have hownA := hown22.alloc (.cells #[.int .i64 (k : Int)] 3)
       have hbA := hB22.alloc hz22 (.cells #[.int .i64 (k : Int)] 3)
       clear hck
       go_wp2_with (at_builtin; refine Zal _ rfl _ _ rfl rfl hownA rfl (Zaj _ _ _ _ (by simp)) (by omega) oM ?_; intro A5 c5 w5 hown5 hg5 hat5)
       have hb5 := Zah hbA hownA hg5 (by simp; omega) lR
       rw [← hck2.out] at hown5
       clear hownA hbA hg5 hat5 hown22 hB22
       go_wp2
       go_roundw
       case rel => exact ⟨k + 1, cn + 1, _, _, by omega, by omega, by go_num, rfl, hown5, hb5⟩
       case measure => simp [intOf]; omega
      | false =>
       have hck2 : Hid (S (k + 1) = S k) := zH (by rw [hck, if_neg (by decide)])
       clear hck
       rw [← hck2.out] at hown22
       go_wp2
       go_roundw
       case rel => exact ⟨k + 1, cn, _, _, by omega, by omega, by go_num, rfl, hown22, hB22⟩
       case measure => simp [intOf]; omega
     ·obtain rfl : N = k := by omega
      go_wp2
      go_ret2
      exact RetO.some_ (hB6.trans (hbw.mono hB6.size)) HR.out hown.len rfl (hown.lo_ hB6.size)
  ·have HR : Hid (cdF l 1 vs rs = none) := zH (if_neg (fun h => h10 h.2.2.2.1))
   go_wp2
   go_ret2
   exact RetO.none_ hB3 HR.out rfl
set_option maxRecDepth 100000 in
set_option maxHeartbeats 1600000 in
theorem Zeu (A B C : Option Addr) (n c m d r q : Nat) (l : List Ln) (p : Int) (vs rs : List Int) (w : World) (ha : RLn w A n l) (hn : n ≤ 2097152) (hcap : n ≤ c) (hsh : ∀ x ∈ l, shortL x) (hb : RI w B m vs) (hm : m ≤ 2097152) (hc : RI w C r rs) (hr : r ≤ 2097152) :
 Calls Tryz.prog 25 #[.slice A n c, .int .i64 p, .slice B m d, .slice C r q] w (RetO w (cdF l p vs rs)) := by
 cases hg : coB l with
 | false =>
  have HR : Hid (cdF l p vs rs = none) := zH (if_neg (fun h => by rw [hg] at h; cases h.1))
  go_enter Tryz.func25, Tryz.ntmps25
  go_wp2_with fail
  refine (compileValid_no A n c l _ ha hn hcap hsh hg).mono ?_
  rintro e w1 ⟨rfl, hb1⟩
  have hB := hb1.alloc hb1.size (.cells #[.int .i64 0, .int .i64 0, .slice none 0 0, .slice none 0 0, .slice none 0 0, .slice none 0 0] 63)
  have hq := Zbq A n c p l (w1.alloc (.cells #[.int .i64 0, .int .i64 0, .slice none 0 0, .slice none 0 0, .slice none 0 0, .slice none 0 0] 63)) (ha.below hB lR) hn hcap hsh
  generalize (if inB 0 1 p = true then byO (fun x => decide (x.kind = 1) && decide (x.party = p)) l else none) = o at hq
  clear hg
  go_wp2_with fail
  refine (hq).mono ?_
  rintro e w2 hT
  obtain ⟨A1, c1, rfl, _, hb2⟩ := hT
  clear hq
  go_wp2
  go_ret2
  exact RetO.none_ (hB.trans (hb2.mono hB.size)) HR.out rfl
 | true =>
  cases hi : inB 0 1 p with
  | true =>
   have hp : p = 0 ∨ p = 1 := by unfold inB at hi; have : 0 ≤ p ∧ p ≤ 1 := by simpa using hi
                                 omega
   rcases hp with rfl | rfl
   ·exact CandidatesFor0_any A B C n c m d r q l vs rs w ha hn hcap hsh hb hm hc hr hg
   ·exact CandidatesFor1_any A B C n c m d r q l vs rs w ha hn hcap hsh hb hm hc hr hg
  | false =>
   have HR : Hid (cdF l p vs rs = none) := zH (if_neg (fun h => by rw [hi] at h; cases h.2.1))
   have hl := ha.len
   subst hl
   go_enter Tryz.func25, Tryz.ntmps25
   go_wp2_with fail
   refine (Zcv A l.length c l _ ha hn hcap hsh hg).mono ?_
   rintro e w1 hT
   obtain ⟨Ag, cg, Oa, oc, Ea, ec, Wa, wc, bl, rfl, hC, hE, hW, hb1⟩ := hT
   have hB := hb1.alloc hb1.size (.cells #[.int .i64 (sumI (insL l 0)), .int .i64 (sumI (insL l 1)), .slice Ag (cc l).g.length cg, .slice Oa (cc l).os.length oc, .slice Wa l.length wc, .slice Ea l.length ec] 63)
   have hq := Zbq A l.length c p l (w1.alloc (.cells #[.int .i64 (sumI (insL l 0)), .int .i64 (sumI (insL l 1)), .slice Ag (cc l).g.length cg, .slice Oa (cc l).os.length oc, .slice Wa l.length wc, .slice Ea l.length ec] 63)) (ha.below hB lR) hn hcap hsh
   rw [if_neg (by rw [hi]; decide)] at hq
   clear hC hE hW hg hi
   go_wp2_with fail
   refine (hq).mono ?_
   rintro e w2 hT
   obtain ⟨A1, c1, rfl, hb2⟩ := RetO.open_none hT
   clear hq hT
   go_wp2
   go_ret2
   exact RetO.none_ (hB.trans (hb2.mono hB.size)) HR.out rfl
def digK (ws : List Int) (k : Nat) : Nat → List Int
 | 0 => []
 | i + 1 => digK ws k i ++ [((k / 2 ^ offs ws i % 2 ^ (gi ws i).toNat : Nat) : Int)]
theorem digK_len (ws : List Int) (k i : Nat) : (digK ws k i).length = i := by
 induction i with
 | zero => rfl
 | succ i ih => simp [digK, ih]
theorem digK_at (ws : List Int) (k : Nat) {j : Nat} : ∀ i, j < i → gi (digK ws k i) j = ((k / 2 ^ offs ws j % 2 ^ (gi ws j).toNat : Nat) : Int) := by
 intro i
 induction i with
 | zero => intro h; omega
 | succ i ih =>
  intro h
  have hl := digK_len ws k i
  rw [digK]
  rcases Nat.lt_or_ge j i with h1 | h1
  ·rw [Zbt (by omega), ih h1]
  ·obtain rfl : j = i := by omega
   have := Zcg (xs := digK ws k j) (x := ((k / 2 ^ offs ws j % 2 ^ (gi ws j).toNat : Nat) : Int))
   rw [hl] at this
   exact this
theorem bitsN_add (k a : Nat) : ∀ w, bitsN k (a + w) = bitsN k a ++ bitsN (k / 2 ^ a) w := by
 intro w
 induction w with
 | zero => simp [bitsN, tab]
 | succ w ih =>
  rw [← Nat.add_assoc, Zes, ih, Zes, List.append_assoc]
  congr 3
  rw [Nat.pow_add, Nat.div_div_eq_div_mul]
theorem bitsN_mod (k w : Nat) : bitsN (k % 2 ^ w) w = bitsN k w := by
 have h := numN_bits k w
 have h2 := bitsN_numN (Zcw k w)
 rw [h, Zax, Int.toNat_natCast] at h2
 exact h2
theorem bitsK_dig {ws : List Int} (hw : ∀ z ∈ ws, 1 ≤ z ∧ z ≤ 10) (k : Nat) {n : Nat} (hn : n = ws.length) : ∀ m, m ≤ n → bitsK ws (digK ws k n) m = bitsN k (offs ws m) := by
 subst hn
 intro m
 induction m with
 | zero => intro _; rfl
 | succ m ih =>
  intro hm
  rw [bitsK, ih (by omega), Zce hw (by omega), bitsN_add, digK_at ws k _ (by omega)]
  congr 1
  rw [Int.toNat_natCast, bitsN_mod]
theorem dig_fit {ws : List Int} (k : Nat) : fitB ws (digK ws k ws.length) = true := by
 refine fitB_ok (digK_len ws k ws.length).symm fun j hj => ?_
 rw [digK_at ws k _ hj]
 have h1 : k / 2 ^ offs ws j % 2 ^ (gi ws j).toNat < 2 ^ (gi ws j).toNat := Nat.mod_lt _ (Nat.two_pow_pos _)
 have e : ((2 ^ (gi ws j).toNat : Nat) : Int) = (2 : Int) ^ (gi ws j).toNat := by rw [Int.natCast_pow]; rfl
 rw [← e]
 exact inB_t (by omega)
def sumK (f : Nat → Int) : Nat → Int
 | 0 => 0
 | k + 1 => sumK f k + f k
theorem sumK_congr {f g : Nat → Int} : ∀ k, (∀ j, j < k → f j = g j) → sumK f k = sumK g k
 | 0, _ => rfl
 | k + 1, h => by rw [sumK, sumK, sumK_congr k (fun j hj => h j (by omega)), h k (by omega)]
theorem sumK_add (f g : Nat → Int) : ∀ k, sumK (fun j => f j + g j) k = sumK f k + sumK g k
 | 0 => rfl
 | k + 1 => by rw [sumK, sumK, sumK, sumK_add f g k]; omega
theorem sumK_bd {f : Nat → Int} {M : Nat} (h : ∀ j, 0 ≤ f j ∧ f j ≤ M) : ∀ k, 0 ≤ sumK f k ∧ sumK f k ≤ M * k
 | 0 => by simp [sumK]
 | k + 1 => by
  have h1 := sumK_bd h k
  have h2 := h k
  rw [sumK]
  have : ((M : Int) * ((k + 1 : Nat) : Int)) = M * k + M := by rw [Int.natCast_succ, Int.mul_add, Int.mul_one]
  omega
theorem cntN_sum (p : Nat → Bool) : ∀ k, cntN p k = sumK (fun j => if p j = true then 1 else 0) k
 | 0 => rfl
 | k + 1 => by rw [cntN, sumK, cntN_sum p k]
theorem cntN_add (p : Nat → Bool) (a : Nat) : ∀ b, cntN p (a + b) = cntN p a + cntN (fun j => p (a + j)) b
 | 0 => by simp [cntN]
 | b + 1 => by rw [← Nat.add_assoc, cntN, cntN_add p a b, cntN]; omega
theorem candK_cnt (p : Nat → Bool) : ∀ k, ((candK p k).length : Int) = cntN p k
 | 0 => rfl
 | k + 1 => by
  have h := candK_cnt p k
  rw [candK, cntN]
  split
  ·rw [List.length_append]; simp; omega
  ·omega
theorem cnt_grid (p : Nat → Bool) (A : Nat) : ∀ B, sumK (fun k => cntN (fun n => p (k + n * A)) B) A = cntN p (B * A)
 | 0 => by
  rw [Nat.zero_mul]
  have : ∀ k, sumK (fun k => cntN (fun n => p (k + n * A)) 0) k = 0 := fun k => by
   induction k with
   | zero => rfl
   | succ k ih => rw [sumK, ih]; rfl
  rw [this]; rfl
 | B + 1 => by
  have e : (fun k => cntN (fun n => p (k + n * A)) (B + 1)) = fun k => cntN (fun n => p (k + n * A)) B + (if p (k + B * A) = true then 1 else 0) := funext fun k => by rw [cntN]
  rw [e, sumK_add, cnt_grid p A B, Nat.succ_mul, cntN_add, cntN_sum (fun j => p (B * A + j)) A]
  congr 1
  refine sumK_congr _ fun j _ => ?_
  rw [Nat.add_comm j]
def cdN (l : List Ln) (rs : List Int) (k : Nat) : Int := (((cdF l 0 (digK (insL l 0) k (insL l 0).length) rs).getD []).length : Int)
theorem cd_law {l : List Ln} {rs : List Int} {want : Int} (h : cfF l rs = some want) :
 goodP l ∧ (∀ k, cdF l 0 (digK (insL l 0) k (insL l 0).length) rs = some ((cdF l 0 (digK (insL l 0) k (insL l 0).length) rs).getD [])) ∧ sumK (cdN l rs) (2 ^ (sumI (insL l 0)).toNat) = want ∧ 0 ≤ sumI (insL l 0) := by
 unfold cfF at h
 by_cases hc : coB l = true ∧ fitB (outsL l) rs = true ∧ sumI (insL l 0) + sumI (insL l 1) ≤ 10
 ·rw [if_pos hc] at h
  injection h with h
  obtain ⟨hg, hcb⟩ := Zdq hc.1
  have hd := Zfi hc.1
  obtain ⟨X, hX⟩ : ∃ X : Nat, sumI (insL l 0) = X := ⟨(sumI (insL l 0)).toNat, by have := hd.x; omega⟩
  obtain ⟨Y, hY⟩ : ∃ Y : Nat, sumI (insL l 1) = Y := ⟨(sumI (insL l 1)).toNat, by have := hd.y; omega⟩
  have hb0 := Zbz hg.2.1 0
  have ho := Zef hb0
  have hcd : ∀ k, cdF l 0 (digK (insL l 0) k (insL l 0).length) rs = some (candK (fun n => hitP l rs (bitsN k X ++ bitsN n Y)) (2 ^ Y)) := fun k => by
   unfold cdF
   rw [if_pos ⟨hc.1, by decide, dig_fit k, by show sumI (insL l (1 - 0)) ≤ 10; rw [show (1 - 0 : Int) = 1 by decide]; omega, hc.2.1⟩]
   rw [show (1 - 0 : Int) = 1 by decide, hY, Int.toNat_natCast, bitsK_dig hb0 k rfl _ lR, show offs (insL l 0) (insL l 0).length = X by omega]
   rfl
  refine ⟨hg, fun k => by rw [hcd k]; rfl, ?_, by omega⟩
  rw [← h, hX, hY, Int.toNat_natCast, show ((X : Int) + Y).toNat = X + Y by omega]
  have e : sumK (cdN l rs) (2 ^ X) = sumK (fun k => cntN (fun n => (fun m => hitP l rs (bitsN m (X + Y))) (k + n * 2 ^ X)) (2 ^ Y)) (2 ^ X) := sumK_congr _ fun k hk => by
   unfold cdN
   rw [hcd k, Option.getD_some, candK_cnt]
   have : (fun n => hitP l rs (bitsN k X ++ bitsN n Y)) = fun n => hitP l rs (bitsN (k + n * 2 ^ X) (X + Y)) := funext fun n => by rw [bitsN_app k n X Y hk]
   rw [this]
  rw [e, cnt_grid (fun m => hitP l rs (bitsN m (X + Y))), ← Nat.pow_add, Nat.add_comm Y X]
 ·rw [if_neg hc] at h; cases h
end Go.Proofs.YtenknpcbbcbciaaGreat
