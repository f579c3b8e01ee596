/- The laws' own comparison of two lists. Lengths up to 2^21. -/
import Derived.Test.YtenknpcbbcbciaaGreatQS47
import Derived.Test.YtenknpcbbcbciaaGreatQS45
namespace Go.Proofs.YtenknpcbbcbciaaGreat
open Go.RowKit
set_option linter.unusedVariables false
set_option linter.unusedSimpArgs false
theorem RetCs.cc_ {w w' : World} {l : List Ln} {e : Ending} (h : RetCs w l e w') :
 ∃ B Ag cg Oa oc Ea ec Wa wc bl, e = .returned (.agg #[.pointer (some ⟨B, 0, none⟩), .slice Wa l.length wc, .slice Ea l.length ec]) ∧
 BxC w' B (sumI (insL l 0)) (sumI (insL l 1)) Ag (cc l).g.length cg Oa (cc l).os.length oc ∧ B < w'.heap.size ∧ w.heap.size ≤ B ∧
 OwnC w' w.heap.size w'.heap.size Ag (cc l).g.length cg Oa (cc l).os.length oc (cc l).g (cc l).os ∧
 Own w' w.heap.size w'.heap.size (.slice Ea l.length ec) l.length (cc l).es ∧ Wi w' w.heap.size false bl Wa wc l.length (cc l).ws ∧ Below w.heap.size w w' := h
def RetCc (w : World) (l : List Ln) (e : Ending) (w' : World) : Prop :=
 ∃ Ag cg Oa oc, e = .returned (.agg #[.int .i64 (sumI (insL l 0)), .int .i64 (sumI (insL l 1)), .slice Ag (cc l).g.length cg, .slice Oa (cc l).os.length oc]) ∧ OwnC w' w.heap.size w'.heap.size Ag (cc l).g.length cg Oa (cc l).os.length oc (cc l).g (cc l).os ∧ Below w.heap.size w w'
theorem fld0 (B n wc ec : Nat) (Wa Ea : Option Addr) : ∀ w : World, (Instr.field 99 (.agg #[.pointer (some ⟨B, 0, none⟩), .slice Wa n wc, .slice Ea n ec]) 0).run Tryz.prog w = .ok (.pointer (some ⟨B, 0, none⟩)) w := fun _ => by kernel_rfl
set_option maxRecDepth 100000 in
set_option maxHeartbeats 4000000 in
theorem Zdv (A : Option Addr) (n c : Nat) (l : List Ln) (w : World) (ha : RLn w A n l) (hn : n ≤ 2097152) (hcap : n ≤ c) (hsh : ∀ x ∈ l, shortL x) :
 Calls Tryz.prog 50 #[.slice A n c] w fun e w' => e = .returned (.bool (coB l)) ∧ Below w.heap.size w w' := by
 by_cases hgd : goodP l
 ·have HR : Hid (coB l = circB (sumI (insL l 0)) (sumI (insL l 1)) (cc l).g (cc l).os) := zH (by unfold coB; rw [decide_eq_true hgd, Bool.true_and])
  have HG : Hid (decide (goodP l) = true) := zH (decide_eq_true hgd)
  obtain ⟨hng, hno⟩ := cc_small hgd
  go_enter Tryz.func50, Tryz.ntmps50
  go_wp2_with fail
  refine (Zdb A n c l _ ha hn hcap hsh).mono ?_
  rintro e w1 ⟨rfl, hb1⟩
  rw [HG.out]
  go_wp2_with fail
  refine (coMake_any A n c l _ (ha.below hb1 lR) hcap hsh hgd).mono ?_
  rintro e w2 hT
  obtain ⟨B, Ag, cg, Oa, oc, Ea, ec, Wa, wc, bl, rfl, hBx, hBlt, hBlo, hC, hE, hW, hb2⟩ := RetCs.cc_ hT
  have hq := hC.reads
  obtain ⟨k0, k1, k2, k3⟩ := hBx
  have hfd := fld0 B l.length wc ec Wa Ea
  clear hT hE hW hC ha
  go_wp2_with fail
  refine (ciGood_any (sumI (insL l 0)) (sumI (insL l 1)) Ag (cc l).g.length cg Oa (cc l).os.length oc (cc l).g (cc l).os _ hq.1 hq.2 hng hno).mono ?_
  rintro e w3 ⟨rfl, hb3⟩
  go_wp2
  go_ret
  exact ⟨by rw [HR.out]; rfl, (hb1.trans (hb2.mono hb1.size)).trans (hb3.mono (hb1.trans (hb2.mono hb1.size)).size)⟩
 ·have HR : Hid (coB l = false) := zH (by unfold coB; rw [decide_eq_false hgd, Bool.false_and])
  have HG : Hid (decide (goodP l) = false) := zH (decide_eq_false hgd)
  go_enter Tryz.func50, Tryz.ntmps50
  go_wp2_with fail
  refine (Zdb A n c l _ ha hn hcap hsh).mono ?_
  rintro e w1 ⟨rfl, hb1⟩
  rw [HG.out]
  go_wp2
  go_ret
  exact ⟨by rw [HR.out]; rfl, hb1⟩
set_option maxRecDepth 100000 in
set_option maxHeartbeats 4000000 in
theorem Zfh (A : Option Addr) (n c : Nat) (l : List Ln) (w : World) (ha : RLn w A n l) (hcap : n ≤ c) (hsh : ∀ x ∈ l, shortL x) (hgd : goodP l) :
 Calls Tryz.prog 58 #[.slice A n c] w (RetCc w l) := by
 have al0 : Below w.heap.size w (w.alloc (.cells #[.int .i64 0, .int .i64 0, .slice none 0 0, .slice none 0 0] 38)) := bA
 have hz0 : BxC (w.alloc (.cells #[.int .i64 0, .int .i64 0, .slice none 0 0, .slice none 0 0] 38)) w.heap.size 0 0 none 0 0 none 0 0 := BxC.new _ _
 have fz0 : Fz (w.alloc (.cells #[.int .i64 0, .int .i64 0, .slice none 0 0, .slice none 0 0] 38)) w.heap.size := Fz.new w #[.int .i64 0, .int .i64 0, .slice none 0 0, .slice none 0 0] 38
 have hs0 : (w.alloc (.cells #[.int .i64 0, .int .i64 0, .slice none 0 0, .slice none 0 0] 38)).heap.size = w.heap.size + 1 := by simp
 go_enter Tryz.func58, Tryz.ntmps58
 go_wp2_with fail
 refine (coMake_any A n c l _ (ha.below al0 lR) hcap hsh hgd).mono ?_
 rintro e w1 hT
 obtain ⟨B, Ag, cg, Oa, oc, Ea, ec, Wa, wc, bl, rfl, hBx, hBlt, hBlo, hC, hE, hW, hb1⟩ := RetCs.cc_ hT
 have hz1 := hz0.below hb1
 have fz1 := fz0.below hb1 (by rw [hs0]; omega)
 have hBt := al0.trans (hb1.mono al0.size)
 obtain ⟨k0, k1, k2, k3⟩ := hBx
 have hq := hz1; obtain ⟨r0, r1, r2, r3⟩ := hq
 have g0 := fz1 0; have g1 := fz1 1; have g2 := fz1 2; have g3 := fz1 3
 have hsz := hb1.size
 rw [hs0] at hsz hC hBlo
 have hC2 := fun (x y : Int) (Ag : Option Addr) (ng cg : Nat) (Ao : Option Addr) (no co : Nat) => OwnC.lo_ (lo' := w.heap.size) ((hC.set4 (b := w.heap.size) (.inl (by omega)) x y Ag ng cg Ao no co).now) (by omega)
 have hfd := fld0 B l.length wc ec Wa Ea
 clear hE hW fz1 fz0 hC hT
 go_wp2
 have hq9 := BxC.set4 (hz1) (sumI (insL l 0)) (sumI (insL l 1)) Ag (cc l).g.length cg Oa (cc l).os.length oc
 obtain ⟨q0, q1, q2, q3⟩ := hq9
 refine bodyPost_ret (v := .agg #[.int .i64 (sumI (insL l 0)), .int .i64 (sumI (insL l 1)), .slice Ag (cc l).g.length cg, .slice Oa (cc l).os.length oc]) (by simp [results, Tryz.results58, go_sem, q0, q1, q2, q3]) rfl ?_
 exact ⟨Ag, cg, Oa, oc, rfl, hC2 _ _ _ _ _ _ _ _, below_set4 hBt lR _ _ _ _ _ _ _ _⟩
set_option maxRecDepth 100000 in
set_option maxHeartbeats 3200000 in
theorem Zew (A B : Option Addr) (n c m d : Nat) (l : List Ln) (rs : List Int) (w : World) (ha : RLn w A n l) (hn : n ≤ 2097152) (hcap : n ≤ c) (hsh : ∀ x ∈ l, shortL x) (hb : RI w B m rs) (hm : m ≤ 2097152) :
 Calls Tryz.prog 23 #[.slice A n c, .slice B m d] w fun e w' => e = .returned (.tuple #[.int .i64 ((cfF l rs).getD 0), .bool (cfF l rs).isSome]) ∧ Below w.heap.size w w' := by
 cases hg : coB l with
 | false =>
  have HR : Hid (cfF l rs = none) := zH (if_neg (fun h => by rw [hg] at h; cases h.1))
  have H0 := zH hg
  clear hg
  go_enter Tryz.func23, Tryz.ntmps23
  go_wp2_with fail
  refine (Zdv A n c l _ ha hn hcap hsh).mono ?_
  rintro e w1 ⟨rfl, hb1⟩
  rw [H0.out]
  go_wp2
  go_ret2
  exact ⟨by rw [HR.out]; rfl, hb1⟩
 | true =>
  have H0 := zH hg
  have hD := zH (Zfi hg)
  have hgd := (Zdq hg).1
  have hl := ha.len
  subst hl
  have hx0 := hD.out.x
  have hy0 := hD.out.y
  have hw2 := Zfa hgd.2.1
  have hL2 := outs10 hgd
  clear hg
  go_enter Tryz.func23, Tryz.ntmps23
  go_wp2_with fail
  refine (Zdv A l.length c l _ ha hn hcap hsh).mono ?_
  rintro e w1 ⟨rfl, hb1⟩
  rw [H0.out]
  go_wp2_with fail
  refine (Zda A l.length c l _ (ha.below hb1 lR) hn hcap hsh).mono ?_
  rintro e w2 hT
  obtain ⟨A2, c2, rfl, p2, hb2⟩ := hT
  have hB2 := hb1.trans (hb2.mono hb1.size)
  cases hf : fitB (outsL l) rs with
  | false =>
   have HR : Hid (cfF l rs = none) := zH (if_neg (fun h => by rw [hf] at h; cases h.2.1))
   have HF := zH hf
   clear hf
   go_wp2_with fail
   refine (Zcm A2 B (outsL l).length c2 m d (outsL l) rs _ p2.reads (hb.below hB2 lR) (by omega) hm (fun z hz => hw2 z hz)).mono ?_
   rintro e w4 ⟨rfl, rfl⟩
   rw [HF.out]
   go_wp2
   go_ret2
   exact ⟨by rw [HR.out]; rfl, hB2⟩
  | true =>
   have HF := zH hf
   obtain ⟨e0, f0⟩ := Zfg hf hw2
   obtain rfl : m = (outsL l).length := by rw [e0, hb.len]
   clear e0
   go_wp2_with fail
   refine (Zcm A2 B (outsL l).length c2 (outsL l).length d (outsL l) rs _ p2.reads (hb.below hB2 lR) (by omega) hm (fun z hz => hw2 z hz)).mono ?_
   rintro e w4 ⟨rfl, rfl⟩
   rw [HF.out]
   go_wp2_with fail
   refine (Zfh A l.length c l _ (ha.below hB2 lR) hcap hsh hgd).mono ?_
   rintro e w3 ⟨Ag, cg, Oa, oc, rfl, hC, hb3⟩
   have hB3 := hB2.trans (hb3.mono hB2.size)
   have al3 : Below w3.heap.size w3 (w3.alloc (.cells #[.int .i64 (sumI (insL l 0)), .int .i64 (sumI (insL l 1)), .slice Ag (cc l).g.length cg, .slice Oa (cc l).os.length oc] 38)) := bA
   have hB4 := hB3.trans (al3.mono hB3.size)
   have hx : BxC (w3.alloc (.cells #[.int .i64 (sumI (insL l 0)), .int .i64 (sumI (insL l 1)), .slice Ag (cc l).g.length cg, .slice Oa (cc l).os.length oc] 38)) w3.heap.size (sumI (insL l 0)) (sumI (insL l 1)) Ag (cc l).g.length cg Oa (cc l).os.length oc := BxC.new _ _
   have g4 := hC.reads.1.below al3 lR
   have o4 := hC.reads.2.below al3 lR
   clear hC hb1 hb2 hb3 hB2 hB3 al3 p2
   go_wp2_with fail
   refine (Zct (sumI (insL l 0)) (sumI (insL l 1)) Ag (cc l).g.length cg Oa (cc l).os.length oc _ hx0 hy0).mono ?_
   rintro e w5 ⟨rfl, hb5⟩
   have hB5 := hB4.trans (hb5.mono hB4.size)
   by_cases h10 : sumI (insL l 0) + sumI (insL l 1) ≤ 10
   ·have HR : Hid (cfF l rs = some (cntN (fun n => hitP l rs (bitsN n (sumI (insL l 0) + sumI (insL l 1)).toNat)) (2 ^ (sumI (insL l 0) + sumI (insL l 1)).toNat))) := zH (if_pos ⟨H0.out, hf, h10⟩)
    obtain ⟨X, hX⟩ := Int.eq_ofNat_of_zero_le (show 0 ≤ sumI (insL l 0) + sumI (insL l 1) by omega)
    have hX10 : X ≤ 10 := by omega
    obtain ⟨N, hN⟩ : ∃ N, N = 2 ^ X := ⟨_, rfl⟩
    obtain ⟨hN1, hsh2⟩ := Zbl hN hX10
    rw [hX] at HR
    simp only [Int.toNat_natCast] at HR
    rw [← hN] at HR
    have hgat := hD.out.gat X hX.symm
    have hout := hD.out.out X hX.symm
    have hng := hD.out.ng
    have hno := hD.out.no
    have hofs := hD.out.offs
    have hrl := zH (fun k => Zdo l (bitsN k X))
    have hrb := zH (fun k => show pick (vals (cc l).g (bitsN k X) (cc l).g.length) (cc l).os = runB l (bitsN k X) from rfl)
    have hhit := zH (fun k => show sameB (runB l (bitsN k X)) (bitsK (outsL l) rs (outsL l).length) = hitP l rs (bitsN k X) from rfl)
    have hcn := zH (fun k => show cntN (fun n => hitP l rs (bitsN n X)) (k + 1) = cntN (fun n => hitP l rs (bitsN n X)) k + if hitP l rs (bitsN k X) = true then 1 else 0 from rfl)
    have hcb := zH (fun k => cntN_bd (fun n => hitP l rs (bitsN n X)) k)
    have hc0 : Hid (cntN (fun n => hitP l rs (bitsN n X)) 0 = 0) := zH rfl
    have hbl := Zca hw2 rs (outsL l).length lR
    rw [hofs] at hbl
    clear hf hN hofs
    go_wp2_with fail
    refine (Zda A l.length c l _ (ha.below hB5 lR) hn hcap hsh).mono ?_
    rintro e w6 hT
    obtain ⟨A6, c6, rfl, p6, hb6⟩ := hT
    have hB6 := hB5.trans (hb6.mono hB5.size)
    go_wp2_with fail
    refine (Zer A6 B (outsL l).length c6 (outsL l).length d (outsL l) rs _ p6.reads (hb.below hB6 lR) (by omega) hw2 f0).mono ?_
    rintro e w7 hT
    obtain ⟨KB, hKB⟩ := lT (bitsK (outsL l) rs (outsL l).length)
    rw [hKB.out] at hT hbl hhit
    obtain ⟨A7, c7, rfl, p7, hb7⟩ := RetI.open_ hT hbl
    have hB7 := hB6.trans (hb7.mono hB6.size)
    have h57 := (hb5.trans (hb6.mono hb5.size)).trans (hb7.mono (hb5.trans (hb6.mono hb5.size)).size)
    have hx7 := hx.below h57
    have g7 := g4.below h57 lR
    have o7 := o4.below h57 lR
    have r7 := p7.reads
    clear hT hb5 hb6 hb7 h57 hx g4 o4 p6 p7 hB4 hB5 hB6 ha hsh hb hD f0
    obtain ⟨x, hxx⟩ := lT (sumI (insL l 0))
    obtain ⟨y, hyy⟩ := lT (sumI (insL l 1))
    rw [hxx.out] at hX hx7 hx0 h10 ⊢
    rw [hyy.out] at hX hx7 hy0 h10 ⊢
    obtain ⟨ng, hngl⟩ := lT ((cc l).g.length)
    obtain ⟨no, hnol⟩ := lT ((cc l).os.length)
    rw [hngl.out] at hx7 g7 hgat hout hng hrb ⊢
    rw [hnol.out] at hx7 o7 hno hrl hbl r7 ⊢
    generalize hWS : cntN (fun n => hitP l rs (bitsN n X)) = S at *
    clear hWS
    obtain ⟨k0, k1, k2, k3⟩ := hx7
    have hXh := zH hX
    clear hX
    go_wp2
    go_loopw [8, 9] (fun v i wr => ∃ k : Nat, k ≤ N ∧ i = .int .i64 k ∧ v = .int .i64 (S k) ∧ Below w7.heap.size w7 wr) (fun _ i _ => N - (intOf i).toNat)
    case atStart => exact ⟨0, Nat.zero_le _, rfl, by rw [hc0.out], Below.refl _ _⟩
    case round =>
     obtain ⟨k, hk, rfl, rfl, hbw⟩ := hrel
     have q0 := Zat k0 hbw
     have q1 := Zat k1 hbw
     have q2 := Zat k2 hbw
     have q3 := Zat k3 hbw
     go_wp2_with fail
     refine (Zct x y Ag ng cg Oa no oc _ hx0 hy0).mono ?_
     rintro e w8 ⟨rfl, hb8⟩
     rw [hXh.out]
     have hbw8 := hbw.trans (hb8.mono hbw.size)
     clear q0 q1 q2 q3 hbw hb8
     have q0 := Zat k0 hbw8
     have q1 := Zat k1 hbw8
     have q2 := Zat k2 hbw8
     have q3 := Zat k3 hbw8
     by_cases hlt : k < N
     ·have hlt' : (k : Int) < wrap64 (2 ^ X) := by rw [hsh2]; omega
      have gw := g7.below hbw8 lR
      have ow := o7.below hbw8 lR
      have rw7 := r7.below hbw8 lR
      have hrlk := hrl.out k
      have hrbk := zH (hrb.out k)
      have hhk := zH (hhit.out k)
      have hck := hcn.out k
      have hbk := hcb.out k
      have hbk1 := hcb.out (k + 1)
      have hz := hbw8.size
      obtain ⟨O, hO⟩ := lT (runB l (bitsN k X))
      rw [hO.out] at hrlk hrbk hhk
      obtain ⟨b, hb⟩ := lT (hitP l rs (bitsN k X))
      rw [hb.out] at hhk hck
      go_wp2_with fail
      go_region_held3 (fun w' => w'.cell? ⟨w3.heap.size, 0, none⟩ = some (.int .i64 x) ∧ w'.cell? ⟨w3.heap.size, 1, none⟩ = some (.int .i64 y) ∧ w'.cell? ⟨w3.heap.size, 2, none⟩ = some (.slice Ag ng cg) ∧ w'.cell? ⟨w3.heap.size, 3, none⟩ = some (.slice Oa no oc))
       (first | go_keep | (go_split_ands; exact ⟨Zab (by assumption) i10, Zab (by assumption) i10, Zab (by assumption) i10, Zab (by assumption) i10⟩) | (go_split_ands; exact ⟨Zab (by assumption) i9, Zab (by assumption) i9, Zab (by assumption) i9, Zab (by assumption) i9⟩) | (go_split_ands; exact ⟨Zab (by assumption) i6, Zab (by assumption) i6, Zab (by assumption) i6, Zab (by assumption) i6⟩) | ((try dsimp only); (repeat' apply And.intro) <;> go_keep))
       (first | (go_at_call 78; refine (Zct x y Ag ng cg Oa no oc _ hx0 hy0).mono ?_; rintro e w9 ⟨rfl, i6⟩; rw [hXh.out]) | (go_at_call 80; refine (btOf_any k X _ (by omega) (by omega)).mono ?_; rintro e w10 hT7; obtain ⟨A9, c9, rfl, p9, i9⟩ := RetI.open_ hT7 (Zax _ _)) | (go_at_call 57; refine (ciOuts_any x y Ag ng cg Oa no oc A9 X c9 (cc l).g (cc l).os (bitsN k X) _ ⟨((show RG (w8.drewN 1) Ag ng (cc l).g from gw).below i6 lR).below i9 lR, ((ow.drewN 1).below i6 lR).below i9 lR⟩ p9.reads (Zcw _ _) hgat hout hng hno (by omega)).mono ?_; rintro e w11 hT8; rw [hrbk.out] at hT8; obtain ⟨A10, c10, rfl, p10, i10⟩ := RetI.open_ hT8 hrlk) | (go_at_call 79; refine (l1Same_any A10 A7 no c10 no c7 O KB _ p10.reads ((((rw7.drewN 1).below i6 lR).below i9 lR).below i10 lR) (by omega) (by omega)).mono ?_; rintro e w12 ⟨he, jj, rfl⟩; rw [hhk.out] at he; obtain rfl := he))
      have j11 : Below w8.heap.size w8 w11 := bnext (bnext (bnext (Zai 1) i6) i9) i10
      have hB12 := Zaa (hbw8.trans (j11.mono hz)) jj
      clear i6 i9 i10 j11 q0 q1 q2 q3 gw ow rw7 p9 p10 hbw8
      cases b with
      | true =>
       have hck2 : Hid (S (k + 1) = S k + 1) := zH (by rw [hck, if_pos rfl])
       clear hck
       obtain ⟨z, hz1⟩ := lT (S k)
       rw [hz1.out] at hck2 hbk ⊢
       go_wp2
       go_roundw
       case rel => exact ⟨k + 1, by omega, by go_num, by rw [hck2.out], hB12⟩
       case measure => simp [intOf]; omega
      | false =>
       have hck2 : Hid (S (k + 1) = S k) := zH (by rw [hck, if_neg (by decide), Int.add_zero])
       clear hck
       obtain ⟨z, hz1⟩ := lT (S k)
       rw [hz1.out] at hck2 hbk ⊢
       go_wp2
       go_roundw
       case rel => exact ⟨k + 1, by omega, by go_num, by rw [hck2.out], hB12⟩
       case measure => simp [intOf]; omega
     ·have hlt' : ¬ (k : Int) < wrap64 (2 ^ X) := by rw [hsh2]; omega
      obtain hkN : N = k := by omega
      rw [hkN] at HR
      go_wp2
      go_ret2
      exact ⟨by rw [HR.out]; rfl, hB7.trans (hbw8.mono hB7.size)⟩
   ·have HR : Hid (cfF l rs = none) := zH (if_neg (fun h => h10 h.2.2))
    go_wp2
    go_ret2
    exact ⟨by rw [HR.out]; rfl, hB5⟩
set_option maxRecDepth 100000 in
set_option maxHeartbeats 3200000 in
theorem Zey (A B C : Option Addr) (n c m d r q : Nat) (l : List Ln) (vs rs : List Int) (w : World) (ha : RLn w A n l) (hn : n ≤ 2097152) (hcap : n ≤ c) (hsh : ∀ x ∈ l, shortL x) (hb : RI w B m vs) (hm : m ≤ 2097152) (hc : RI w C r rs) (hr : r ≤ 2097152) (hg : coB l = true) :
 Calls Tryz.prog 26 #[.slice A n c, .int .i64 0, .slice B m d, .slice C r q] w (RetO w (cdF l 0 vs rs)) := by
 have H0 := zH hg
 have hD := zH (Zfi hg)
 have hgd := (Zdq hg).1
 have hl := ha.len
 subst hl
 have hx0 := hD.out.x
 have hy0 := hD.out.y
 have hw1 := Zbz hgd.2.1 0
 have hwo := Zbz hgd.2.1 1
 have hw2 := Zfa hgd.2.1
 have hL1 := Zbx l 0
 have hLo := Zbx l 1
 have hL2 := outs10 hgd
 have hn30 := hgd.1
 have hin : inB 0 1 0 = true := rfl
 clear hg
 go_enter Tryz.func26, Tryz.ntmps26
 go_wp2_with fail
 refine (Zdv A l.length c l _ ha hn hcap hsh).mono ?_
 rintro e w1 ⟨rfl, hb1⟩
 rw [H0.out]
 go_wp2_with fail
 refine (Zau 0 0 1 true hin _).mono ?_
 rintro e w2 ⟨rfl, rfl⟩
 go_wp2_with fail
 refine (Zbc A l.length c 0 l _ (ha.below hb1 lR) hn).mono ?_
 rintro e w2 hT
 obtain ⟨A2, c2, rfl, p2, hb2⟩ := hT
 have hB2 := hb1.trans (hb2.mono hb1.size)
 cases hf : fitB (insL l 0) vs with
 | false =>
  have HR : Hid (cdF l 0 vs rs = none) := zH (if_neg (fun h => by rw [hf] at h; cases h.2.2.1))
  have HF := zH hf
  clear hf
  go_wp2_with fail
  refine (Zcm A2 B (insL l 0).length c2 m d (insL l 0) vs _ p2.reads (hb.below hB2 lR) (by omega) hm (fun z hz => hw1 z hz)).mono ?_
  rintro e w4 ⟨rfl, rfl⟩
  rw [HF.out]
  go_wp2
  go_ret2
  exact RetO.none_ hB2 HR.out rfl
 | true =>
  have HF := zH hf
  obtain ⟨e1, f1⟩ := Zfg hf hw1
  obtain rfl : m = (insL l 0).length := by rw [e1, hb.len]
  clear e1 hf
  go_wp2_with fail
  refine (Zcm A2 B (insL l 0).length c2 (insL l 0).length d (insL l 0) vs _ p2.reads (hb.below hB2 lR) (by omega) hm (fun z hz => hw1 z hz)).mono ?_
  rintro e w4 ⟨rfl, rfl⟩
  rw [HF.out]
  go_wp2_with fail
  refine (Zda A l.length c l _ (ha.below hB2 lR) hn hcap hsh).mono ?_
  rintro e w3 hT
  obtain ⟨A3, c3, rfl, p3, hb3⟩ := hT
  have hB3 := hB2.trans (hb3.mono hB2.size)
  clear hb1 hb2 p2 hb3
  cases hfr : fitB (outsL l) rs with
  | false =>
   have HR : Hid (cdF l 0 vs rs = none) := zH (if_neg (fun h => by rw [hfr] at h; cases h.2.2.2.2))
   have HF2 := zH hfr
   clear hfr
   go_wp2_with fail
   refine (Zcm A3 C (outsL l).length c3 r q (outsL l) rs _ p3.reads (hc.below hB3 lR) (by omega) hr (fun z hz => hw2 z hz)).mono ?_
   rintro e w5 ⟨rfl, rfl⟩
   rw [HF2.out]
   go_wp2
   go_ret2
   exact RetO.none_ hB3 HR.out rfl
  | true =>
   have HF2 := zH hfr
   obtain ⟨e2, f2⟩ := Zfg hfr hw2
   obtain rfl : r = (outsL l).length := by rw [e2, hc.len]
   clear e2 hfr
   go_wp2_with fail
   refine (Zcm A3 C (outsL l).length c3 (outsL l).length q (outsL l) rs _ p3.reads (hc.below hB3 lR) (by omega) hr (fun z hz => hw2 z hz)).mono ?_
   rintro e w5 ⟨rfl, rfl⟩
   rw [HF2.out]
   go_wp2_with fail
   refine (Zbc A l.length c 1 l _ (ha.below hB3 lR) hn).mono ?_
   rintro e w4 hT
   obtain ⟨A4, c4, rfl, p4, hb4⟩ := hT
   have hB4 := hB3.trans (hb4.mono hB3.size)
   go_wp2_with fail
   refine (Zds A4 (insL l 1).length c4 (insL l 1) _ p4.reads (by omega) (fun z hz => by have := hwo z hz; omega)).mono ?_
   rintro e w5 ⟨rfl, rfl⟩
   clear p3 hb4 p4
   by_cases h10 : sumI (insL l 1) ≤ 10
   ·obtain ⟨Y, hY⟩ := Int.eq_ofNat_of_zero_le (show 0 ≤ sumI (insL l 1) by omega)
    have hY10 : Y ≤ 10 := by omega
    obtain ⟨N, hN⟩ : ∃ N, N = 2 ^ Y := ⟨_, rfl⟩
    obtain ⟨hN1, hsh2⟩ := Zbl hN hY10
    have HR : Hid (cdF l 0 vs rs = some (candK (fun n => hitP l rs (joinP 0 (bitsK (insL l 0) vs (insL l 0).length) (bitsN n Y))) N)) := zH (by
     have h : cdF l 0 vs rs = some (candK (fun n => hitP l rs (joinP 0 (bitsK (insL l 0) vs (insL l 0).length) (bitsN n (sumI (insL l 1)).toNat))) (2 ^ (sumI (insL l 1)).toNat)) := if_pos ⟨H0.out, rfl, HF.out, h10, HF2.out⟩
     rw [hY, Int.toNat_natCast, ← hN] at h
     exact h)
    have s1 := Zef hw1
    obtain ⟨X, hX⟩ := lT (offs (insL l 0) (insL l 0).length)
    have hml := Zca hw1 vs (insL l 0).length lR
    rw [hX.out] at s1 hml
    have hmb := bitsK_bd (insL l 0) vs (insL l 0).length
    obtain ⟨mine, hmine⟩ := lT (bitsK (insL l 0) vs (insL l 0).length)
    rw [hmine.out] at hml hmb HR
    have hgat := hD.out.gat (X + Y) (by omega)
    have hout := hD.out.out (X + Y) (by omega)
    have hofs := hD.out.offs
    have hng := hD.out.ng
    have hno := hD.out.no
    have hwl := Zca hw2 rs (outsL l).length lR
    rw [hofs] at hwl
    obtain ⟨KB, hKB⟩ := lT (bitsK (outsL l) rs (outsL l).length)
    rw [hKB.out] at hwl
    have hjb := zH (fun k => show allB 0 1 (mine ++ bitsN k Y) = true from joinP_bd 0 hmb (Zcw k Y))
    have hrl := zH (fun k => Zdo l (mine ++ bitsN k Y))
    have hrb := zH (fun k => show pick (vals (cc l).g (mine ++ bitsN k Y) (cc l).g.length) (cc l).os = runB l (mine ++ bitsN k Y) from rfl)
    have hhit := zH (fun k => show sameB (runB l (mine ++ bitsN k Y)) KB = hitP l rs (joinP 0 mine (bitsN k Y)) by rw [← hKB.out]; rfl)
    have hcn := zH (fun k => show candK (fun n => hitP l rs (joinP 0 mine (bitsN n Y))) (k + 1) = if hitP l rs (joinP 0 mine (bitsN k Y)) = true then candK (fun n => hitP l rs (joinP 0 mine (bitsN n Y))) k ++ [(k : Int)] else candK (fun n => hitP l rs (joinP 0 mine (bitsN n Y))) k from rfl)
    have hc0 : Hid (candK (fun n => hitP l rs (joinP 0 mine (bitsN n Y))) 0 = []) := zH rfl
    have hXb : X ≤ 20 := by omega
    have hYh := zH hY
    clear hN hY s1 hX hofs hD
    go_wp2_with fail
    refine (Zbc A l.length c 0 l _ (ha.below hB4 lR) hn).mono ?_
    rintro e w5 hT
    obtain ⟨A5, c5, rfl, p5, hb5⟩ := hT
    have hB5 := hB4.trans (hb5.mono hB4.size)
    rw [hYh.out]
    go_wp2_with fail
    refine (Zer A5 B (insL l 0).length c5 (insL l 0).length d (insL l 0) vs _ p5.reads (hb.below hB5 lR) (by omega) hw1 f1).mono ?_
    rintro e w6 hT
    rw [hmine.out] at hT
    obtain ⟨A6, c6, rfl, p6, hb6⟩ := RetI.open_ hT hml
    have hB6 := hB5.trans (hb6.mono hB5.size)
    go_wp2_with fail
    refine (Zda A l.length c l _ (ha.below hB6 lR) hn hcap hsh).mono ?_
    rintro e w7 hT7
    obtain ⟨A7, c7, rfl, p7, hb7⟩ := hT7
    have hB7 := hB6.trans (hb7.mono hB6.size)
    go_wp2_with fail
    refine (Zer A7 C (outsL l).length c7 (outsL l).length q (outsL l) rs _ p7.reads (hc.below hB7 lR) (by omega) hw2 f2).mono ?_
    rintro e w8 hT8
    rw [hKB.out] at hT8
    obtain ⟨A8, c8, rfl, p8, hb8⟩ := RetI.open_ hT8 hwl
    have hB8 := hB7.trans (hb8.mono hB7.size)
    have r6 := (p6.reads.below hb7 lR).below hb8 lR
    have r8 := p8.reads
    have hal := ha.below hB8 lR
    clear hT hT8 p5 p6 p7 p8 hb5 hb6 hb7 hb8 hB4 hB5 hB6 hB7 hB2 hB3 ha hb hc h10
    obtain ⟨no, hnol⟩ := lT ((cc l).os.length)
    rw [hnol.out] at hno hrl hwl r8 ⊢
    generalize hWS : candK (fun n => hitP l rs (joinP 0 mine (bitsN n Y))) = S at *
    clear hWS
    have hown0 : Own w8 w8.heap.size w8.heap.size (.slice none 0 0) 0 (S 0) := by rw [hc0.out]; exact Own.none_ _ _ _
    go_wp2
    go_loopw [13, 14] (fun v i wr => ∃ (k cn : Nat) (A' : Option Addr) (c' : Nat), k ≤ N ∧ cn ≤ k ∧ i = .int .i64 k ∧ v = .slice A' cn c' ∧ Own wr w8.heap.size wr.heap.size (.slice A' cn c') cn (S k) ∧ Below w8.heap.size w8 wr) (fun _ i _ => N - (intOf i).toNat)
    case atStart => exact ⟨0, 0, _, _, Nat.zero_le _, Nat.le_refl _, rfl, rfl, hown0, Below.refl _ _⟩
    case round =>
     clear hown0
     obtain ⟨k, cn, A', c', hk, hcnk, rfl, rfl, hown, hbw⟩ := hrel
     by_cases hlt : k < N
     ·have hlt' : (k : Int) < wrap64 (2 ^ Y) := by rw [hsh2]; omega
      have hz := hbw.size
      go_wp2_with fail
      refine (btOf_any k Y _ (by omega) (by omega)).mono ?_
      rintro e w10 hT
      obtain ⟨A10, c10, rfl, p10, i10⟩ := RetI.open_ hT (Zax _ _)
      have hb10 := hbw.trans (i10.mono hz)
      go_wp2_with fail
      refine (Zdw A6 A10 X c6 Y c10 mine (bitsN k Y) _ (r6.below hb10 lR) p10.reads (by omega) (by omega)).mono ?_
      rintro e w11 ⟨A11, c11, rfl, p11, i11⟩
      have j11 := bnext i10 i11
      have hb11 := hbw.trans (j11.mono hz)
      clear hT p10 i10 i11 hb10
      go_wp2_with fail
      refine (Zfh A l.length c l _ (hal.below hb11 lR) hcap hsh hgd).mono ?_
      rintro e w20 ⟨Ag, cg, Oa, oc, rfl, hC, i20⟩
      rw [hnol.out] at hC ⊢
      have j20 := bnext j11 i20
      have hb20 := hbw.trans (j20.mono hz)
      have hrlk := hrl.out k
      have hrbk := zH (hrb.out k)
      have hhk := zH (hhit.out k)
      have hck := hcn.out k
      obtain ⟨O, hO⟩ := lT (runB l (mine ++ bitsN k Y))
      rw [hO.out] at hrlk hrbk hhk
      obtain ⟨b, hbb⟩ := lT (hitP l rs (joinP 0 mine (bitsN k Y)))
      rw [hbb.out] at hhk hck
      go_wp2_with fail
      refine (ciOuts_any (sumI (insL l 0)) (sumI (insL l 1)) Ag (cc l).g.length cg Oa no oc A11 (X + Y) c11 (cc l).g (cc l).os (mine ++ bitsN k Y) _ hC.reads (p11.reads.below i20 lR) (hjb.out k) hgat hout hng hno (by omega)).mono ?_
      rintro e w21 hT
      rw [hrbk.out] at hT
      obtain ⟨A21, c21, rfl, p21, i21⟩ := RetI.open_ hT hrlk
      have j21 := bnext j20 i21
      have hb21 := hbw.trans (j21.mono hz)
      go_wp2_with fail
      refine (l1Same_any A21 A8 no c21 no c8 O KB _ p21.reads (r8.below hb21 lR) (by omega) (by omega)).mono ?_
      rintro e w22 ⟨rfl, jj, rfl⟩
      rw [hhk.out]
      have hB22 := Zaa hb21 jj
      have hown22 := ((hown.below j21 (.inl lR)).drewN jj).now
      have hz22 := hB22.size
      have hz22b : w8.heap.size ≤ w21.heap.size := hB22.size
      clear hT hC p11 hb11 j11 i20 j20 hb20 p21 i21 j21 hb21 hown hbw
      cases b with
      | true =>
       have hck2 : Hid (S (k + 1) = S k ++ [(k : Int)]) := zH (by rw [hck, if_pos rfl])
       have hownA := hown22.alloc (.cells #[.int .i64 (k : Int)] 3)
       have hbA := hB22.alloc hz22 (.cells #[.int .i64 (k : Int)] 3)
       clear hck
       go_wp2_with (at_builtin; refine Zal _ rfl _ _ rfl rfl hownA rfl (Zaj _ _ _ _ (by simp)) (by omega) oM ?_; intro A5 c5 w5 hown5 hg5 hat5)
       have hb5 := Zah hbA hownA hg5 (by simp; omega) lR
       rw [← hck2.out] at hown5
       clear hownA hbA hg5 hat5 hown22 hB22
       go_wp2
       go_roundw
       case rel => exact ⟨k + 1, cn + 1, _, _, by omega, by omega, by go_num, rfl, hown5, hb5⟩
       case measure => simp [intOf]; omega
      | false =>
       have hck2 : Hid (S (k + 1) = S k) := zH (by rw [hck, if_neg (by decide)])
       clear hck
       rw [← hck2.out] at hown22
       go_wp2
       go_roundw
       case rel => exact ⟨k + 1, cn, _, _, by omega, by omega, by go_num, rfl, hown22, hB22⟩
       case measure => simp [intOf]; omega
     ·have hlt' : ¬ (k : Int) < wrap64 (2 ^ Y) := by rw [hsh2]; omega
      obtain hkN : N = k := by omega
      rw [hkN] at HR
      go_wp2
      go_ret2
      exact RetO.some_ (hB8.trans (hbw.mono hB8.size)) HR.out hown.len rfl (hown.lo_ hB8.size)
   ·have HR : Hid (cdF l 0 vs rs = none) := zH (if_neg (fun h => h10 h.2.2.2.1))
    go_wp2
    go_ret2
    exact RetO.none_ hB4 HR.out rfl
set_option maxRecDepth 100000 in
set_option maxHeartbeats 3200000 in
theorem Zex (A B C : Option Addr) (n c m d r q : Nat) (l : List Ln) (vs rs : List Int) (w : World) (ha : RLn w A n l) (hn : n ≤ 2097152) (hcap : n ≤ c) (hsh : ∀ x ∈ l, shortL x) (hb : RI w B m vs) (hm : m ≤ 2097152) (hc : RI w C r rs) (hr : r ≤ 2097152) (hg : coB l = true) :
 Calls Tryz.prog 26 #[.slice A n c, .int .i64 1, .slice B m d, .slice C r q] w (RetO w (cdF l 1 vs rs)) := by
 have H0 := zH hg
 have hD := zH (Zfi hg)
 have hgd := (Zdq hg).1
 have hl := ha.len
 subst hl
 have hx0 := hD.out.x
 have hy0 := hD.out.y
 have hw1 := Zbz hgd.2.1 1
 have hwo := Zbz hgd.2.1 0
 have hw2 := Zfa hgd.2.1
 have hL1 := Zbx l 1
 have hLo := Zbx l 0
 have hL2 := outs10 hgd
 have hn30 := hgd.1
 have hin : inB 0 1 1 = true := rfl
 clear hg
 go_enter Tryz.func26, Tryz.ntmps26
 go_wp2_with fail
 refine (Zdv A l.length c l _ ha hn hcap hsh).mono ?_
 rintro e w1 ⟨rfl, hb1⟩
 rw [H0.out]
 go_wp2_with fail
 refine (Zau 1 0 1 true hin _).mono ?_
 rintro e w2 ⟨rfl, rfl⟩
 go_wp2_with fail
 refine (Zbc A l.length c 1 l _ (ha.below hb1 lR) hn).mono ?_
 rintro e w2 hT
 obtain ⟨A2, c2, rfl, p2, hb2⟩ := hT
 have hB2 := hb1.trans (hb2.mono hb1.size)
 cases hf : fitB (insL l 1) vs with
 | false =>
  have HR : Hid (cdF l 1 vs rs = none) := zH (if_neg (fun h => by rw [hf] at h; cases h.2.2.1))
  have HF := zH hf
  clear hf
  go_wp2_with fail
  refine (Zcm A2 B (insL l 1).length c2 m d (insL l 1) vs _ p2.reads (hb.below hB2 lR) (by omega) hm (fun z hz => hw1 z hz)).mono ?_
  rintro e w4 ⟨rfl, rfl⟩
  rw [HF.out]
  go_wp2
  go_ret2
  exact RetO.none_ hB2 HR.out rfl
 | true =>
  have HF := zH hf
  obtain ⟨e1, f1⟩ := Zfg hf hw1
  obtain rfl : m = (insL l 1).length := by rw [e1, hb.len]
  clear e1 hf
  go_wp2_with fail
  refine (Zcm A2 B (insL l 1).length c2 (insL l 1).length d (insL l 1) vs _ p2.reads (hb.below hB2 lR) (by omega) hm (fun z hz => hw1 z hz)).mono ?_
  rintro e w4 ⟨rfl, rfl⟩
  rw [HF.out]
  go_wp2_with fail
  refine (Zda A l.length c l _ (ha.below hB2 lR) hn hcap hsh).mono ?_
  rintro e w3 hT
  obtain ⟨A3, c3, rfl, p3, hb3⟩ := hT
  have hB3 := hB2.trans (hb3.mono hB2.size)
  clear hb1 hb2 p2 hb3
  cases hfr : fitB (outsL l) rs with
  | false =>
   have HR : Hid (cdF l 1 vs rs = none) := zH (if_neg (fun h => by rw [hfr] at h; cases h.2.2.2.2))
   have HF2 := zH hfr
   clear hfr
   go_wp2_with fail
   refine (Zcm A3 C (outsL l).length c3 r q (outsL l) rs _ p3.reads (hc.below hB3 lR) (by omega) hr (fun z hz => hw2 z hz)).mono ?_
   rintro e w5 ⟨rfl, rfl⟩
   rw [HF2.out]
   go_wp2
   go_ret2
   exact RetO.none_ hB3 HR.out rfl
  | true =>
   have HF2 := zH hfr
   obtain ⟨e2, f2⟩ := Zfg hfr hw2
   obtain rfl : r = (outsL l).length := by rw [e2, hc.len]
   clear e2 hfr
   go_wp2_with fail
   refine (Zcm A3 C (outsL l).length c3 (outsL l).length q (outsL l) rs _ p3.reads (hc.below hB3 lR) (by omega) hr (fun z hz => hw2 z hz)).mono ?_
   rintro e w5 ⟨rfl, rfl⟩
   rw [HF2.out]
   go_wp2_with fail
   refine (Zbc A l.length c 0 l _ (ha.below hB3 lR) hn).mono ?_
   rintro e w4 hT
   obtain ⟨A4, c4, rfl, p4, hb4⟩ := hT
   have hB4 := hB3.trans (hb4.mono hB3.size)
   go_wp2_with fail
   refine (Zds A4 (insL l 0).length c4 (insL l 0) _ p4.reads (by omega) (fun z hz => by have := hwo z hz; omega)).mono ?_
   rintro e w5 ⟨rfl, rfl⟩
   clear p3 hb4 p4
   by_cases h10 : sumI (insL l 0) ≤ 10
   ·obtain ⟨Y, hY⟩ := Int.eq_ofNat_of_zero_le (show 0 ≤ sumI (insL l 0) by omega)
    have hY10 : Y ≤ 10 := by omega
    obtain ⟨N, hN⟩ : ∃ N, N = 2 ^ Y := ⟨_, rfl⟩
    obtain ⟨hN1, hsh2⟩ := Zbl hN hY10
    have HR : Hid (cdF l 1 vs rs = some (candK (fun n => hitP l rs (joinP 1 (bitsK (insL l 1) vs (insL l 1).length) (bitsN n Y))) N)) := zH (by
     have h : cdF l 1 vs rs = some (candK (fun n => hitP l rs (joinP 1 (bitsK (insL l 1) vs (insL l 1).length) (bitsN n (sumI (insL l 0)).toNat))) (2 ^ (sumI (insL l 0)).toNat)) := if_pos ⟨H0.out, rfl, HF.out, h10, HF2.out⟩
     rw [hY, Int.toNat_natCast, ← hN] at h
     exact h)
    have s1 := Zef hw1
    obtain ⟨X, hX⟩ := lT (offs (insL l 1) (insL l 1).length)
    have hml := Zca hw1 vs (insL l 1).length lR
    rw [hX.out] at s1 hml
    have hmb := bitsK_bd (insL l 1) vs (insL l 1).length
    obtain ⟨mine, hmine⟩ := lT (bitsK (insL l 1) vs (insL l 1).length)
    rw [hmine.out] at hml hmb HR
    have hgat := hD.out.gat (Y + X) (by omega)
    have hout := hD.out.out (Y + X) (by omega)
    have hofs := hD.out.offs
    have hng := hD.out.ng
    have hno := hD.out.no
    have hwl := Zca hw2 rs (outsL l).length lR
    rw [hofs] at hwl
    obtain ⟨KB, hKB⟩ := lT (bitsK (outsL l) rs (outsL l).length)
    rw [hKB.out] at hwl
    have hjb := zH (fun k => show allB 0 1 (bitsN k Y ++ mine) = true from joinP_bd 1 hmb (Zcw k Y))
    have hrl := zH (fun k => Zdo l (bitsN k Y ++ mine))
    have hrb := zH (fun k => show pick (vals (cc l).g (bitsN k Y ++ mine) (cc l).g.length) (cc l).os = runB l (bitsN k Y ++ mine) from rfl)
    have hhit := zH (fun k => show sameB (runB l (bitsN k Y ++ mine)) KB = hitP l rs (joinP 1 mine (bitsN k Y)) by rw [← hKB.out]; rfl)
    have hcn := zH (fun k => show candK (fun n => hitP l rs (joinP 1 mine (bitsN n Y))) (k + 1) = if hitP l rs (joinP 1 mine (bitsN k Y)) = true then candK (fun n => hitP l rs (joinP 1 mine (bitsN n Y))) k ++ [(k : Int)] else candK (fun n => hitP l rs (joinP 1 mine (bitsN n Y))) k from rfl)
    have hc0 : Hid (candK (fun n => hitP l rs (joinP 1 mine (bitsN n Y))) 0 = []) := zH rfl
    have hXb : X ≤ 20 := by omega
    have hYh := zH hY
    clear hN hY s1 hX hofs hD
    go_wp2_with fail
    refine (Zbc A l.length c 1 l _ (ha.below hB4 lR) hn).mono ?_
    rintro e w5 hT
    obtain ⟨A5, c5, rfl, p5, hb5⟩ := hT
    have hB5 := hB4.trans (hb5.mono hB4.size)
    rw [hYh.out]
    go_wp2_with fail
    refine (Zer A5 B (insL l 1).length c5 (insL l 1).length d (insL l 1) vs _ p5.reads (hb.below hB5 lR) (by omega) hw1 f1).mono ?_
    rintro e w6 hT
    rw [hmine.out] at hT
    obtain ⟨A6, c6, rfl, p6, hb6⟩ := RetI.open_ hT hml
    have hB6 := hB5.trans (hb6.mono hB5.size)
    go_wp2_with fail
    refine (Zda A l.length c l _ (ha.below hB6 lR) hn hcap hsh).mono ?_
    rintro e w7 hT7
    obtain ⟨A7, c7, rfl, p7, hb7⟩ := hT7
    have hB7 := hB6.trans (hb7.mono hB6.size)
    go_wp2_with fail
    refine (Zer A7 C (outsL l).length c7 (outsL l).length q (outsL l) rs _ p7.reads (hc.below hB7 lR) (by omega) hw2 f2).mono ?_
    rintro e w8 hT8
    rw [hKB.out] at hT8
    obtain ⟨A8, c8, rfl, p8, hb8⟩ := RetI.open_ hT8 hwl
    have hB8 := hB7.trans (hb8.mono hB7.size)
    have r6 := (p6.reads.below hb7 lR).below hb8 lR
    have r8 := p8.reads
    have hal := ha.below hB8 lR
    clear hT hT8 p5 p6 p7 p8 hb5 hb6 hb7 hb8 hB4 hB5 hB6 hB7 hB2 hB3 ha hb hc h10
    obtain ⟨no, hnol⟩ := lT ((cc l).os.length)
    rw [hnol.out] at hno hrl hwl r8 ⊢
    generalize hWS : candK (fun n => hitP l rs (joinP 1 mine (bitsN n Y))) = S at *
    clear hWS
    have hown0 : Own w8 w8.heap.size w8.heap.size (.slice none 0 0) 0 (S 0) := by rw [hc0.out]; exact Own.none_ _ _ _
    go_wp2
    go_loopw [13, 14] (fun v i wr => ∃ (k cn : Nat) (A' : Option Addr) (c' : Nat), k ≤ N ∧ cn ≤ k ∧ i = .int .i64 k ∧ v = .slice A' cn c' ∧ Own wr w8.heap.size wr.heap.size (.slice A' cn c') cn (S k) ∧ Below w8.heap.size w8 wr) (fun _ i _ => N - (intOf i).toNat)
    case atStart => exact ⟨0, 0, _, _, Nat.zero_le _, Nat.le_refl _, rfl, rfl, hown0, Below.refl _ _⟩
    case round =>
     clear hown0
     obtain ⟨k, cn, A', c', hk, hcnk, rfl, rfl, hown, hbw⟩ := hrel
     by_cases hlt : k < N
     ·have hlt' : (k : Int) < wrap64 (2 ^ Y) := by rw [hsh2]; omega
      have hz := hbw.size
      go_wp2_with fail
      refine (btOf_any k Y _ (by omega) (by omega)).mono ?_
      rintro e w10 hT
      obtain ⟨A10, c10, rfl, p10, i10⟩ := RetI.open_ hT (Zax _ _)
      have hb10 := hbw.trans (i10.mono hz)
      go_wp2_with fail
      refine (Zdw A6 A10 X c6 Y c10 mine (bitsN k Y) _ (r6.below hb10 lR) p10.reads (by omega) (by omega)).mono ?_
      rintro e w11 ⟨A11, c11, rfl, p11, i11⟩
      have j11 := bnext i10 i11
      have hb11 := hbw.trans (j11.mono hz)
      clear hT p10 i10 i11 hb10
      clear p11
      go_wp2_with fail
      refine (btOf_any k Y _ (by omega) (by omega)).mono ?_
      rintro e w12 hT
      obtain ⟨A12, c12, rfl, p12, i12⟩ := RetI.open_ hT (Zax _ _)
      have hb12 := hb11.trans (i12.mono hb11.size)
      go_wp2_with fail
      refine (Zdw A12 A6 Y c12 X c6 (bitsN k Y) mine _ p12.reads (r6.below hb12 lR) (by omega) (by omega)).mono ?_
      rintro e w13 ⟨A13, c13, rfl, p13, i13⟩
      have j13 := bnext (bnext j11 i12) i13
      have hb13 := hbw.trans (j13.mono hz)
      clear hT p12 i12 i13 hb12 hb11 j11
      go_wp2_with fail
      refine (Zfh A l.length c l _ (hal.below hb13 lR) hcap hsh hgd).mono ?_
      rintro e w20 ⟨Ag, cg, Oa, oc, rfl, hC, i20⟩
      rw [hnol.out] at hC ⊢
      have j20 := bnext j13 i20
      have hb20 := hbw.trans (j20.mono hz)
      have hrlk := hrl.out k
      have hrbk := zH (hrb.out k)
      have hhk := zH (hhit.out k)
      have hck := hcn.out k
      obtain ⟨O, hO⟩ := lT (runB l (bitsN k Y ++ mine))
      rw [hO.out] at hrlk hrbk hhk
      obtain ⟨b, hbb⟩ := lT (hitP l rs (joinP 1 mine (bitsN k Y)))
      rw [hbb.out] at hhk hck
      go_wp2_with fail
      refine (ciOuts_any (sumI (insL l 0)) (sumI (insL l 1)) Ag (cc l).g.length cg Oa no oc A13 (Y + X) c13 (cc l).g (cc l).os (bitsN k Y ++ mine) _ hC.reads (p13.reads.below i20 lR) (hjb.out k) hgat hout hng hno (by omega)).mono ?_
      rintro e w21 hT
      rw [hrbk.out] at hT
      obtain ⟨A21, c21, rfl, p21, i21⟩ := RetI.open_ hT hrlk
      have j21 := bnext j20 i21
      have hb21 := hbw.trans (j21.mono hz)
      go_wp2_with fail
      refine (l1Same_any A21 A8 no c21 no c8 O KB _ p21.reads (r8.below hb21 lR) (by omega) (by omega)).mono ?_
      rintro e w22 ⟨rfl, jj, rfl⟩
      rw [hhk.out]
      have hB22 := Zaa hb21 jj
      have hown22 := ((hown.below j21 (.inl lR)).drewN jj).now
      have hz22 := hB22.size
      have hz22b : w8.heap.size ≤ w21.heap.size := hB22.size
      clear hT hC p13 hb13 j13 i20 j20 hb20 p21 i21 j21 hb21 hown hbw
      cases b with
      | true =>
       have hck2 : Hid (S (k + 1) = S k ++ [(k : Int)]) := zH (by rw [hck, if_pos rfl])
       have hownA := hown22.alloc (.cells #[.int .i64 (k : Int)] 3)
       have hbA := hB22.alloc hz22 (.cells #[.int .i64 (k : Int)] 3)
       clear hck
       go_wp2_with (at_builtin; refine Zal _ rfl _ _ rfl rfl hownA rfl (Zaj _ _ _ _ (by simp)) (by omega) oM ?_; intro A5 c5 w5 hown5 hg5 hat5)
       have hb5 := Zah hbA hownA hg5 (by simp; omega) lR
       rw [← hck2.out] at hown5
       clear hownA hbA hg5 hat5 hown22 hB22
       go_wp2
       go_roundw
       case rel => exact ⟨k + 1, cn + 1, _, _, by omega, by omega, by go_num, rfl, hown5, hb5⟩
       case measure => simp [intOf]; omega
      | false =>
       have hck2 : Hid (S (k + 1) = S k) := zH (by rw [hck, if_neg (by decide)])
       clear hck
       rw [← hck2.out] at hown22
       go_wp2
       go_roundw
       case rel => exact ⟨k + 1, cn, _, _, by omega, by omega, by go_num, rfl, hown22, hB22⟩
       case measure => simp [intOf]; omega
     ·have hlt' : ¬ (k : Int) < wrap64 (2 ^ Y) := by rw [hsh2]; omega
      obtain hkN : N = k := by omega
      rw [hkN] at HR
      go_wp2
      go_ret2
      exact RetO.some_ (hB8.trans (hbw.mono hB8.size)) HR.out hown.len rfl (hown.lo_ hB8.size)
   ·have HR : Hid (cdF l 1 vs rs = none) := zH (if_neg (fun h => h10 h.2.2.2.1))
    go_wp2
    go_ret2
    exact RetO.none_ hB4 HR.out rfl
set_option maxRecDepth 100000 in
set_option maxHeartbeats 1600000 in
theorem spec_CandidatesFor_any (A B C : Option Addr) (n c m d r q : Nat) (l : List Ln) (p : Int) (vs rs : List Int) (w : World) (ha : RLn w A n l) (hn : n ≤ 2097152) (hcap : n ≤ c) (hsh : ∀ x ∈ l, shortL x) (hb : RI w B m vs) (hm : m ≤ 2097152) (hc : RI w C r rs) (hr : r ≤ 2097152) :
 Calls Tryz.prog 26 #[.slice A n c, .int .i64 p, .slice B m d, .slice C r q] w (RetO w (cdF l p vs rs)) := by
 cases hg : coB l with
 | false =>
  have HR : Hid (cdF l p vs rs = none) := zH (if_neg (fun h => by rw [hg] at h; cases h.1))
  have H0 := zH hg
  clear hg
  go_enter Tryz.func26, Tryz.ntmps26
  go_wp2_with fail
  refine (Zdv A n c l _ ha hn hcap hsh).mono ?_
  rintro e w1 ⟨rfl, hb1⟩
  rw [H0.out]
  go_wp2
  go_ret2
  exact RetO.none_ hb1 HR.out rfl
 | true =>
  cases hi : inB 0 1 p with
  | true =>
   have hp : p = 0 ∨ p = 1 := by unfold inB at hi; have : 0 ≤ p ∧ p ≤ 1 := by simpa using hi
                                 omega
   rcases hp with rfl | rfl
   ·exact Zey A B C n c m d r q l vs rs w ha hn hcap hsh hb hm hc hr hg
   ·exact Zex A B C n c m d r q l vs rs w ha hn hcap hsh hb hm hc hr hg
  | false =>
   have HR : Hid (cdF l p vs rs = none) := zH (if_neg (fun h => by rw [hi] at h; cases h.2.1))
   have H0 := zH hg
   clear hg
   go_enter Tryz.func26, Tryz.ntmps26
   go_wp2_with fail
   refine (Zdv A n c l _ ha hn hcap hsh).mono ?_
   rintro e w1 ⟨rfl, hb1⟩
   rw [H0.out]
   go_wp2_with fail
   refine (Zau p 0 1 false hi _).mono ?_
   rintro e w2 ⟨rfl, rfl⟩
   go_wp2
   go_ret2
   exact RetO.none_ hb1 HR.out rfl
set_option maxHeartbeats 400000 in
theorem qInts_any (A B : Option Addr) (n c m d : Nat) (xs ys : List Int) (w : World) (ha : RI w A n xs) (hb : RI w B m ys) (hn : n ≤ 2097152) (hm : m ≤ 2097152) :
 Calls Tryz.prog 15 #[.slice A n c, .slice B m d] w fun e w' => e = .returned (.bool (sameB xs ys)) ∧ ∃ j, w' = w.drewN j := by
 have hl := ha.len
 have hm' := hb.len
 by_cases h0 : n = m
 ·subst h0
  have hne : ((n : Int) != n) = false := by simp
  go_enter Tryz.func15, Tryz.ntmps15
  go_wp2
  go_loopw [13] (fun i wr => ∃ k j : Nat, k ≤ n ∧ i = .int .i64 k ∧ wr = w.drewN j ∧ Hid (∀ q, q < k → gi xs q = gi ys q)) (fun i _ => n - (intOf i).toNat)
  case atStart => exact ⟨0, 0, Nat.zero_le _, rfl, rfl, zH fun q hq => absurd hq (by omega)⟩
  case round =>
   obtain ⟨k, j, hk, rfl, rfl, hq⟩ := hrel
   by_cases hlt : k < n
   ·obtain ⟨b, o, rfl, hbB, e1⟩ := ha.at_ hlt
    obtain ⟨b', o', rfl, hbB', e2⟩ := hb.at_ hlt
    by_cases h1 : gi xs k = gi ys k
    ·have H1 := zH h1
     rw [← h1] at e2
     clear h1
     have hnx : (gi xs k != gi xs k) = false := by simp
     generalize hX : gi xs k = X at *
     clear ha hb
     go_wp2_with fail
     go_quiet (fail)
     go_wp2
     go_roundw
     case rel => exact ⟨k + 1, _, by omega, by go_num, by first | rfl | exact World.drewN_drewN _ _ _, zH fun q hq' => by
      rcases Nat.lt_or_ge q k with h | h
      ·exact hq.out q h
      ·obtain rfl : q = k := by omega
       exact hX.trans H1.out⟩
     case measure => simp [intOf]; omega
    ·have H1 := zH h1
     have hnx : (gi xs k != gi ys k) = true := by simpa using h1
     clear h1
     have HR : Hid (sameB xs ys = false) := zH (sameB_at H1.out)
     generalize gi xs k = X at *
     generalize gi ys k = Y at *
     clear ha hb
     go_wp2_with fail
     go_quiet (fail)
     go_wp2
     go_ret
     exact ⟨by rw [HR.out]; rfl, _, by first | rfl | exact World.drewN_drewN _ _ _⟩
   ·obtain rfl : k = n := by omega
    have HR : Hid (sameB xs ys = true) := zH (sameB_all (by omega) fun q hq' => hq.out q (by omega))
    go_wp2
    go_ret
    exact ⟨by rw [HR.out]; rfl, _, rfl⟩
 ·have h1 : ((n : Int) != m) = true := by simp; omega
  have HR : Hid (sameB xs ys = false) := zH (sameB_len (by omega))
  go_enter Tryz.func15, Tryz.ntmps15
  go_wp2
  go_ret
  exact ⟨by rw [HR.out]; rfl, 0, rfl⟩
end Go.Proofs.YtenknpcbbcbciaaGreat
