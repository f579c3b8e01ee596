/- The contract of the program's CandidatesFor. Texts below 2^21 bytes. The contract of the reference's CandidatesFor. Texts below 2^21 bytes. The walk of the law FnExactCandidatesFor: whatever its arguments read as, it returns true and leaves what was there. No condition. -/
import Derived.Test.YtjjphaiomaiilaaGreatQXFi5
import Derived.Test.YtjjphaiomaiilaaGreatQA
import Derived.Test.YtjjphaiomaiilaaGreatQXFi4
namespace Go.Proofs.YtjjphaiomaiilaaGreat
open Go.RowKit
set_option linter.unusedVariables false
set_option linter.unusedSimpArgs false
def joinP (p : Int) (mine other : List Int) : List Int := if p = 1 then other ++ mine else mine ++ other
theorem joinP_bd (p : Int) {mine other : List Int} (h1 : allB 0 1 mine = true) (h2 : allB 0 1 other = true) : allB 0 1 (joinP p mine other) = true := by
  unfold joinP
  split <;> exact allB_iff.2 fun z hz => (List.mem_append.1 hz).elim (fun h => allB_iff.1 (by assumption) z h) (fun h => allB_iff.1 (by assumption) z h)
def cdF (l : List Ln) (p : Int) (vs rs : List Int) : Option (List Int) :=
  if coB l = true ∧ inB 0 1 p = true ∧ fitB (insL l p) vs = true ∧ sumI (insL l (1 - p)) ≤ 10 ∧ fitB (outsL l) rs = true then
    some (candK (fun n => hitB l rs (joinP p (bitsK (insL l p) vs (insL l p).length) (bitsN n (sumI (insL l (1 - p))).toNat))) (2 ^ (sumI (insL l (1 - p))).toNat)) else none
theorem cdF_len (l : List Ln) (p : Int) (vs rs : List Int) : ((cdF l p vs rs).getD []).length ≤ 1024 := by
  unfold cdF
  split
  · rename_i h
    have h1 := two_pow_small (X := (sumI (insL l (1 - p))).toNat) (by omega)
    have h2 := candK_len (fun n => hitB l rs (joinP p (bitsK (insL l p) vs (insL l p).length) (bitsN n (sumI (insL l (1 - p))).toNat))) (2 ^ (sumI (insL l (1 - p))).toNat)
    simp only [Option.getD_some]
    omega
  · simp
set_option maxRecDepth 100000 in
set_option maxHeartbeats 3200000 in
theorem CandidatesFor0_any (A B C : Option Addr) (n c m d r q : Nat) (l : List Ln) (vs rs : List Int) (w : World) (ha : RLn w A n l) (hn : n ≤ 2097152) (hcap : n ≤ c) (hsh : ∀ x ∈ l, shortL x) (hb : RI w B m vs) (hm : m ≤ 2097152) (hc : RI w C r rs) (hr : r ≤ 2097152) (hg : coB l = true) :
    Calls Tryz.prog 40 #[.slice A n c, .int .i64 0, .slice B m d, .slice C r q] w (RetO w (cdF l 0 vs rs)) := by
  have H0 := Lib.hid hg
  have hD := Lib.hid (coB_data hg)
  have hgd := (coB_good hg).1
  have hl := ha.len
  subst hl
  have hx0 := hD.out.x
  have hy0 := hD.out.y
  have hw1 := insL_bd hgd.2.1 0
  have hwo := insL_bd hgd.2.1 1
  have hw2 := outsL_bd hgd.2.1
  have hL1 := insL_len l 0
  have hL2 := outs10 hgd
  have hn30 := hgd.1
  have ho1 : (if inB 0 1 0 = true then byO (fun x => decide (x.kind = 1) && decide (x.party = 0)) l else none) = some (insL l 0) := by rw [if_pos (show inB 0 1 0 = true from rfl), byO_in, if_pos hgd]
  have ho2 : byO (fun x => decide (x.kind = 6)) l = some (outsL l) := by rw [byO_out, if_pos hgd]
  go_enter Tryz.func40, Tryz.ntmps40
  go_wp2_with fail
  refine (compileValid_ok A l.length c l _ ha hn hcap hsh hg).mono ?_
  rintro e w1 hT
  obtain ⟨Ag, cg, Oa, oc, Ea, ec, Wa, wc, bl, rfl, hC, hE, hW, hb1⟩ := hT
  have al1 : Below w1.heap.size w1 (w1.alloc (.cells #[.int .i64 (sumI (insL l 0)), .int .i64 (sumI (insL l 1)), .slice Ag (cc l).g.length cg, .slice Oa (cc l).os.length oc, .slice Wa l.length wc, .slice Ea l.length ec] 71)) := (Below.refl _ _).alloc (Nat.le_refl _) _
  have hx : Bx6 (w1.alloc (.cells #[.int .i64 (sumI (insL l 0)), .int .i64 (sumI (insL l 1)), .slice Ag (cc l).g.length cg, .slice Oa (cc l).os.length oc, .slice Wa l.length wc, .slice Ea l.length ec] 71)) w1.heap.size _ _ _ _ _ _ := Bx6.new w1 (.int .i64 (sumI (insL l 0))) (.int .i64 (sumI (insL l 1))) (.slice Ag (cc l).g.length cg) (.slice Oa (cc l).os.length oc) (.slice Wa l.length wc) (.slice Ea l.length ec) 71
  have hB := hb1.trans (al1.mono hb1.size)
  have hG1 := hC.1.reads.below al1 (Nat.le_refl _)
  have hO1 := hC.2.1.reads.below al1 (Nat.le_refl _)
  clear hg hC hE hW
  have hq1 := InputWidths_any A l.length c 0 l (w1.alloc (.cells #[.int .i64 (sumI (insL l 0)), .int .i64 (sumI (insL l 1)), .slice Ag (cc l).g.length cg, .slice Oa (cc l).os.length oc, .slice Wa l.length wc, .slice Ea l.length ec] 71)) (ha.below hB (Nat.le_refl _)) hn hcap hsh
  rw [ho1] at hq1
  go_wp2_with fail
  refine (hq1).mono ?_
  rintro e w2 hT
  obtain ⟨A2, c2, rfl, p2, hb2⟩ := RetO.open_some hT rfl
  have hB2 := hB.trans (hb2.mono hB.size)
  have rb := hb.below hB2 (Nat.le_refl _)
  clear hT hq1 ho1
  cases hf : fitB (insL l 0) vs with
  | false =>
    have HR : Hid (cdF l 0 vs rs = none) := Lib.hid (if_neg (fun h => by rw [hf] at h; cases h.2.2.1))
    have HF := Lib.hid hf
    clear hf
    go_wp2_with fail
    refine (fitWidths_any A2 B (insL l 0).length c2 m d (insL l 0) vs _ p2.reads rb (by omega) hm (fun z hz => hw1 z hz)).mono ?_
    rintro e w4 ⟨rfl, rfl⟩
    rw [HF.out]
    go_wp2
    go_ret2
    exact RetO.none_ hB2 HR.out rfl
  | true =>
    have HF := Lib.hid hf
    obtain ⟨e1, f1⟩ := fit_1023 hf hw1
    obtain rfl : m = (insL l 0).length := by rw [e1, hb.len]
    clear e1 hf
    go_wp2_with fail
    refine (fitWidths_any A2 B (insL l 0).length c2 (insL l 0).length d (insL l 0) vs _ p2.reads rb (by omega) hm (fun z hz => hw1 z hz)).mono ?_
    rintro e w4 ⟨rfl, rfl⟩
    rw [HF.out]
    have hq := hx.below hb2; obtain ⟨k0, k1, k2, k3, _, _⟩ := hq
    go_wp2_with fail
    refine (Circuit_inputs_any (sumI (insL l 0)) (sumI (insL l 1)) Ag (cc l).g.length cg Oa (cc l).os.length oc _ hx0 hy0).mono ?_
    rintro e w3 ⟨rfl, hb3⟩
    have hB3 := hB2.trans (hb3.mono hB2.size)
    clear k0 k1 k2 k3
    go_wp2_with fail
    refine (sumOfW_any A2 (insL l 0).length c2 (insL l 0) _ (p2.reads.below hb3 (Nat.le_refl _)) (by omega) (fun z hz => by have := hw1 z hz; omega)).mono ?_
    rintro e w5 ⟨rfl, rfl⟩
    by_cases h10 : sumI (insL l 1) ≤ 10
    · have hq2 := OutWidths_any A l.length c l w3 (ha.below hB3 (Nat.le_refl _)) hn hcap hsh
      rw [ho2] at hq2
      go_wp2_with fail
      refine (hq2).mono ?_
      rintro e w6 hT
      obtain ⟨A6, c6, rfl, p6, hb6⟩ := RetO.open_some hT rfl
      have hB6 := hB3.trans (hb6.mono hB3.size)
      have rc := hc.below hB6 (Nat.le_refl _)
      clear hT hq2 ho2
      cases hfr : fitB (outsL l) rs with
      | false =>
        have HR : Hid (cdF l 0 vs rs = none) := Lib.hid (if_neg (fun h => by rw [hfr] at h; cases h.2.2.2.2))
        have HF2 := Lib.hid hfr
        clear hfr
        go_wp2_with fail
        refine (fitWidths_any A6 C (outsL l).length c6 r q (outsL l) rs _ p6.reads rc (by omega) hr (fun z hz => hw2 z hz)).mono ?_
        rintro e w7 ⟨rfl, rfl⟩
        rw [HF2.out]
        go_wp2
        go_ret2
        exact RetO.none_ hB6 HR.out rfl
      | true =>
        have HF2 := Lib.hid hfr
        obtain ⟨Y, hY⟩ := Int.eq_ofNat_of_zero_le (show 0 ≤ sumI (insL l 1) by omega)
        have hY10 : Y ≤ 10 := by omega
        obtain ⟨N, hN⟩ : ∃ N, N = 2 ^ Y := ⟨_, rfl⟩
        obtain ⟨hN1, hsh2⟩ := pow_wrap hN hY10
        have HR : Hid (cdF l 0 vs rs = some (candK (fun n => hitB l rs (joinP 0 (bitsK (insL l 0) vs (insL l 0).length) (bitsN n Y))) N)) := Lib.hid (by
          have h : cdF l 0 vs rs = some (candK (fun n => hitB l rs (joinP 0 (bitsK (insL l 0) vs (insL l 0).length) (bitsN n (sumI (insL l 1)).toNat))) (2 ^ (sumI (insL l 1)).toNat)) := if_pos ⟨H0.out, rfl, HF.out, h10, hfr⟩
          rw [hY, Int.toNat_natCast, ← hN] at h
          exact h)
        have s1 := offs_all hw1
        obtain ⟨X, hX⟩ : ∃ X, Hid (offs (insL l 0) (insL l 0).length = X) := ⟨_, Lib.hid rfl⟩
        have hml := bitsK_len hw1 vs (insL l 0).length (Nat.le_refl _)
        rw [hX.out] at s1 hml
        have hmb := bitsK_bd (insL l 0) vs (insL l 0).length
        obtain ⟨mine, hmine⟩ : ∃ b, Hid (bitsK (insL l 0) vs (insL l 0).length = b) := ⟨_, Lib.hid rfl⟩
        rw [hmine.out] at hml hmb HR
        have hYh := Lib.hid hY
        have hYY : Hid (sumI (insL l 0) + sumI (insL l 1) - sumI (insL l 0) = (Y : Int)) := Lib.hid (by omega)
        have hgat := hD.out.gat (X + Y) (by omega)
        have hout := hD.out.out (X + Y) (by omega)
        have hofs := hD.out.offs
        have hng := hD.out.ng
        have hno := hD.out.no
        have hjb := Lib.hid (fun k => show allB 0 1 (mine ++ bitsN k Y) = true from joinP_bd 0 hmb (bitsN_bd k Y))
        have hjl := Lib.hid (fun k => show (mine ++ bitsN k Y).length = X + Y by rw [List.length_append, hml, bitsN_len])
        have hrun := Lib.hid (fun k => runB_bd hD.out (hjb.out k) (by rw [hjl.out k]; omega))
        have hrl := Lib.hid (fun k => runB_len l (mine ++ bitsN k Y))
        have hrb := Lib.hid (fun k => show pick (vals (cc l).g (mine ++ bitsN k Y) (cc l).g.length) (cc l).os = runB l (mine ++ bitsN k Y) from rfl)
        have hvl := Lib.hid (fun k => show (vals (cc l).g (mine ++ bitsN k Y) (cc l).g.length).length = X + Y + (cc l).g.length by rw [vals_len, hjl.out k])
        have hhit := Lib.hid (fun k => show sameB (numK (outsL l) (runB l (mine ++ bitsN k Y)) (outsL l).length) rs = hitB l rs (joinP 0 mine (bitsN k Y)) from same_num hw2 hfr (hrun.out k) (by rw [runB_len]; exact hofs.symm))
        have hcn := Lib.hid (fun k => show candK (fun n => hitB l rs (joinP 0 mine (bitsN n Y))) (k + 1) = if hitB l rs (joinP 0 mine (bitsN k Y)) = true then candK (fun n => hitB l rs (joinP 0 mine (bitsN n Y))) k ++ [(k : Int)] else candK (fun n => hitB l rs (joinP 0 mine (bitsN n Y))) k from rfl)
        have hcb := Lib.hid (fun k => candK_len (fun n => hitB l rs (joinP 0 mine (bitsN n Y))) k)
        have hc0 : Hid (candK (fun n => hitB l rs (joinP 0 mine (bitsN n Y))) 0 = []) := Lib.hid rfl
        have hXb : X ≤ 20 := by omega
        clear hfr hN hY s1 h10 hX
        go_wp2_with fail
        refine (fitWidths_any A6 C (outsL l).length c6 r q (outsL l) rs _ p6.reads rc (by omega) hr (fun z hz => hw2 z hz)).mono ?_
        rintro e w7 ⟨rfl, rfl⟩
        rw [HF2.out]
        have hbx := (hb2.trans (hb3.mono hb2.size)).trans (hb6.mono (hb2.trans (hb3.mono hb2.size)).size)
        have hx6 := hx.below hbx
        have g6 := hG1.below hbx (Nat.le_refl _)
        have o6 := hO1.below hbx (Nat.le_refl _)
        have r6 := p6.reads
        have r2 := (p2.reads.below hb3 (Nat.le_refl _)).below hb6 (Nat.le_refl _)
        have rb6 := (rb.below hb3 (Nat.le_refl _)).below hb6 (Nat.le_refl _)
        have hlt1 : w1.heap.size < w6.heap.size := by have := hbx.size; simp at this; omega
        clear hbx hb2 hb3 hb6 hb1 hB hB2 hB3 hx hG1 hO1 al1 p2 p6 ha hsh hb hc hD rb
        rw [hYY.out]
        obtain ⟨x, hxx⟩ : ∃ x, Hid (sumI (insL l 0) = x) := ⟨_, Lib.hid rfl⟩
        obtain ⟨y, hyy⟩ : ∃ y, Hid (sumI (insL l 1) = y) := ⟨_, Lib.hid rfl⟩
        rw [hxx.out] at hx6 hx0 ⊢
        rw [hyy.out] at hx6 hy0 ⊢
        obtain ⟨ng, hngl⟩ : ∃ ng, Hid ((cc l).g.length = ng) := ⟨_, Lib.hid rfl⟩
        obtain ⟨no, hnol⟩ : ∃ no, Hid ((cc l).os.length = no) := ⟨_, Lib.hid rfl⟩
        rw [hngl.out] at hx6 g6 hgat hout hng hvl hrb ⊢
        rw [hnol.out] at hx6 o6 hofs hno hrl ⊢
        obtain ⟨K, hK⟩ : ∃ K, Hid ((outsL l).length = K) := ⟨_, Lib.hid rfl⟩
        rw [hK.out] at hL2 hofs hhit r6 ⊢
        generalize hWS : candK (fun n => hitB l rs (joinP 0 mine (bitsN n Y))) = S at *
        clear hWS
        obtain ⟨k0, k1, k2, k3, _, _⟩ := hx6
        have hown0 : Own (w6.alloc (.cells #[] 3)) w6.heap.size (w6.alloc (.cells #[] 3)).heap.size (.slice (some ⟨w6.heap.size, 0, none⟩) 0 0) 0 (S 0) := by rw [hc0.out]; simpa using Own_new0 w6 w6.heap.size (Nat.le_refl _)
        have hb0 : Below w6.heap.size w6 (w6.alloc (.cells #[] 3)) := (Below.refl _ _).alloc (Nat.le_refl _) _
        go_wp2_with fail
        rw [hsh2]
        go_loopw [17, 64] (fun v i wr => ∃ (k cn : Nat) (A' : Option Addr) (c' : Nat), k ≤ N ∧ cn ≤ k ∧ i = .int .i64 k ∧ v = .slice A' cn c' ∧ Own wr w6.heap.size wr.heap.size (.slice A' cn c') cn (S k) ∧ Below w6.heap.size w6 wr) (fun _ i _ => N - (intOf i).toNat)
        case atStart => exact ⟨0, 0, _, _, Nat.zero_le _, Nat.le_refl _, rfl, rfl, hown0, hb0⟩
        case round =>
          clear hown0 hb0
          obtain ⟨k, cn, A', c', hk, hcnk, rfl, rfl, hown, hbw⟩ := hrel
          by_cases hlt : k < N
          · have hz := hbw.size
            go_wp2_with fail
            refine (inputBits_any A2 B (insL l 0).length c2 (insL l 0).length d (insL l 0) vs _ (r2.below hbw (Nat.le_refl _)) (rb6.below hbw (Nat.le_refl _)) (by omega) hw1 f1).mono ?_
            rintro e w7 hT
            rw [hmine.out] at hT
            obtain ⟨A7, c7, rfl, p7, i7⟩ := RetI.open_ hT hml
            go_wp2_with fail
            refine (bitsOf_any k Y _ (by omega) (by omega)).mono ?_
            rintro e w8 hT8
            obtain ⟨A8, c8, rfl, p8, i8⟩ := RetI.open_ hT8 (bitsN_len _ _)
            go_wp2_with fail
            refine (with_any A7 A8 X c7 Y c8 mine (bitsN k Y) _ (p7.reads.below i8 (Nat.le_refl _)) p8.reads (by omega) (by omega)).mono ?_
            rintro e w9 ⟨A9, c9, rfl, p9, i9⟩
            have j9 := bnext (bnext i7 i8) i9
            have hb9 := hbw.trans (j9.mono hz)
            clear hT hT8 p7 p8 i7 i8 i9
            have q0 := cell_bel k0 hb9
            have q1 := cell_bel k1 hb9
            have q2 := cell_bel k2 hb9
            have q3 := cell_bel k3 hb9
            have gw := g6.below hb9 (Nat.le_refl _)
            have ow := o6.below hb9 (Nat.le_refl _)
            have r6w := r6.below hb9 (Nat.le_refl _)
            have rcw := rc.below hb9 (Nat.le_refl _)
            have hownK := hown.below j9 (.inl (Nat.le_refl _))
            have hjbk := hjb.out k
            have hrk := hrun.out k
            have hrlk := hrl.out k
            have hrbk := Lib.hid (hrb.out k)
            have hvk := hvl.out k
            have hhk := Lib.hid (hhit.out k)
            have hck := hcn.out k
            have hzK := hb9.size
            obtain ⟨O, hO⟩ : ∃ O, Hid (runB l (mine ++ bitsN k Y) = O) := ⟨_, Lib.hid rfl⟩
            rw [hO.out] at hrk hrlk hrbk hhk
            obtain ⟨b, hbb⟩ : ∃ b, Hid (hitB l rs (joinP 0 mine (bitsN k Y)) = b) := ⟨_, Lib.hid rfl⟩
            rw [hbb.out] at hhk hck
            clear hown hbw
            go_wp2_with fail
            go_region_held3 (fun w' => w'.cell? ⟨w1.heap.size, 0, none⟩ = some (.int .i64 x) ∧ w'.cell? ⟨w1.heap.size, 1, none⟩ = some (.int .i64 y) ∧ w'.cell? ⟨w1.heap.size, 2, none⟩ = some (.slice Ag ng cg) ∧ w'.cell? ⟨w1.heap.size, 3, none⟩ = some (.slice Oa no oc))
              (first | go_keep | (go_split_ands; exact ⟨cell_below (by assumption) i22, cell_below (by assumption) i22, cell_below (by assumption) i22, cell_below (by assumption) i22⟩) | (go_split_ands; exact ⟨cell_below (by assumption) i21, cell_below (by assumption) i21, cell_below (by assumption) i21, cell_below (by assumption) i21⟩) | (go_split_ands; exact ⟨cell_below (by assumption) i20, cell_below (by assumption) i20, cell_below (by assumption) i20, cell_below (by assumption) i20⟩) | ((try dsimp only); (repeat' apply And.intro) <;> go_keep))
              (first | (go_at_call 80; refine (Circuit_values_any x y Ag ng cg Oa no oc A9 (X + Y) c9 (cc l).g (mine ++ bitsN k Y) _ (show RG (w9.drewN 1) Ag ng (cc l).g from gw) (p9.reads.drewN 1) hjbk hgat hng (by omega)).mono ?_; rintro e w20 hT8; obtain ⟨A20, c20, rfl, p20, i20⟩ := RetI.open_ hT8 hvk) | (go_at_call 83; refine (at_any A20 Oa (X + Y + ng) c20 no oc (vals (cc l).g (mine ++ bitsN k Y) ng) (cc l).os _ p20.reads ((ow.drewN 1).below i20 (Nat.le_refl _)) (by omega) (by omega) hout).mono ?_; rintro e w21 hT9; rw [hrbk.out] at hT9; obtain ⟨A21, c21, rfl, p21, i21⟩ := RetI.open_ hT9 hrlk) | (go_at_call 65; refine (numbersOf_any A6 A21 K c6 no c21 (outsL l) O _ (((r6w.drewN 1).below i20 (Nat.le_refl _)).below i21 (Nat.le_refl _)) p21.reads (by omega) (by omega) p21.cap hw2 hrk hofs).mono ?_; rintro e w22 hT10; obtain ⟨A22, c22, rfl, p22, i22⟩ := RetI.open_ hT10 (numK_len _ _ _)) | (go_at_call 82; refine (Equal_any A22 C K c22 r q (numK (outsL l) O K) rs _ p22.reads ((((rcw.drewN 1).below i20 (Nat.le_refl _)).below i21 (Nat.le_refl _)).below i22 (Nat.le_refl _)) (by omega) hr).mono ?_; rintro e w23 ⟨he, jj, rfl⟩; rw [hhk.out] at he; obtain rfl := he))
            have j22 : Below w9.heap.size w9 w22 := bnext (bnext (bnext (below_of_drewN 1) i20) i21) i22
            have hB22 := below_drewN (hb9.trans (j22.mono hzK)) jj
            have hown22 := ((hownK.below j22 (.inl (Nat.le_refl _))).drewN jj).now
            have hz22 := hB22.size
            have hz22b : w6.heap.size ≤ w22.heap.size := hB22.size
            clear i20 i21 i22 j22 q0 q1 q2 q3 gw ow r6w rcw p20 p21 p22 hownK hb9 j9 p9 hjbk
            cases b with
            | true =>
              have hck2 : Hid (S (k + 1) = S k ++ [(k : Int)]) := Lib.hid (by rw [hck, if_pos rfl])
              have hownA := hown22.alloc (.cells #[.int .i64 (k : Int)] 3)
              have hbA := hB22.alloc hz22 (.cells #[.int .i64 (k : Int)] 3)
              clear hck
              go_wp2_with (at_builtin; refine wpList_app _ rfl _ _ rfl rfl hownA rfl (RI_one _ _ _ _ (by simp)) (by omega) (by first | omega | (simp; done) | (simp; omega)) ?_; intro A5 c5 w5 hown5 hg5 hat5)
              have hb5 := below_app hbA hownA hg5 (by simp; omega) (Nat.le_refl _)
              rw [← hck2.out] at hown5
              clear hownA hbA hg5 hat5 hown22 hB22
              go_wp2
              go_roundw
              case rel => exact ⟨k + 1, cn + 1, _, _, by omega, by omega, by go_num, rfl, hown5, hb5⟩
              case measure => simp [intOf]; omega
            | false =>
              have hck2 : Hid (S (k + 1) = S k) := Lib.hid (by rw [hck, if_neg (by decide)])
              clear hck
              rw [← hck2.out] at hown22
              go_wp2
              go_roundw
              case rel => exact ⟨k + 1, cn, _, _, by omega, by omega, by go_num, rfl, hown22, hB22⟩
              case measure => simp [intOf]; omega
          · obtain rfl : N = k := by omega
            go_wp2
            go_ret2
            exact RetO.some_ (hB6.trans (hbw.mono hB6.size)) HR.out hown.len rfl (hown.lo_ hB6.size)
    · have HR : Hid (cdF l 0 vs rs = none) := Lib.hid (if_neg (fun h => h10 h.2.2.2.1))
      go_wp2
      go_ret2
      exact RetO.none_ hB3 HR.out rfl
set_option maxRecDepth 100000 in
set_option maxHeartbeats 3200000 in
theorem CandidatesFor1_any (A B C : Option Addr) (n c m d r q : Nat) (l : List Ln) (vs rs : List Int) (w : World) (ha : RLn w A n l) (hn : n ≤ 2097152) (hcap : n ≤ c) (hsh : ∀ x ∈ l, shortL x) (hb : RI w B m vs) (hm : m ≤ 2097152) (hc : RI w C r rs) (hr : r ≤ 2097152) (hg : coB l = true) :
    Calls Tryz.prog 40 #[.slice A n c, .int .i64 1, .slice B m d, .slice C r q] w (RetO w (cdF l 1 vs rs)) := by
  have H0 := Lib.hid hg
  have hD := Lib.hid (coB_data hg)
  have hgd := (coB_good hg).1
  have hl := ha.len
  subst hl
  have hx0 := hD.out.x
  have hy0 := hD.out.y
  have hw1 := insL_bd hgd.2.1 1
  have hwo := insL_bd hgd.2.1 0
  have hw2 := outsL_bd hgd.2.1
  have hL1 := insL_len l 1
  have hL2 := outs10 hgd
  have hn30 := hgd.1
  have ho1 : (if inB 0 1 1 = true then byO (fun x => decide (x.kind = 1) && decide (x.party = 1)) l else none) = some (insL l 1) := by rw [if_pos (show inB 0 1 1 = true from rfl), byO_in, if_pos hgd]
  have ho2 : byO (fun x => decide (x.kind = 6)) l = some (outsL l) := by rw [byO_out, if_pos hgd]
  go_enter Tryz.func40, Tryz.ntmps40
  go_wp2_with fail
  refine (compileValid_ok A l.length c l _ ha hn hcap hsh hg).mono ?_
  rintro e w1 hT
  obtain ⟨Ag, cg, Oa, oc, Ea, ec, Wa, wc, bl, rfl, hC, hE, hW, hb1⟩ := hT
  have al1 : Below w1.heap.size w1 (w1.alloc (.cells #[.int .i64 (sumI (insL l 0)), .int .i64 (sumI (insL l 1)), .slice Ag (cc l).g.length cg, .slice Oa (cc l).os.length oc, .slice Wa l.length wc, .slice Ea l.length ec] 71)) := (Below.refl _ _).alloc (Nat.le_refl _) _
  have hx : Bx6 (w1.alloc (.cells #[.int .i64 (sumI (insL l 0)), .int .i64 (sumI (insL l 1)), .slice Ag (cc l).g.length cg, .slice Oa (cc l).os.length oc, .slice Wa l.length wc, .slice Ea l.length ec] 71)) w1.heap.size _ _ _ _ _ _ := Bx6.new w1 (.int .i64 (sumI (insL l 0))) (.int .i64 (sumI (insL l 1))) (.slice Ag (cc l).g.length cg) (.slice Oa (cc l).os.length oc) (.slice Wa l.length wc) (.slice Ea l.length ec) 71
  have hB := hb1.trans (al1.mono hb1.size)
  have hG1 := hC.1.reads.below al1 (Nat.le_refl _)
  have hO1 := hC.2.1.reads.below al1 (Nat.le_refl _)
  clear hg hC hE hW
  have hq1 := InputWidths_any A l.length c 1 l (w1.alloc (.cells #[.int .i64 (sumI (insL l 0)), .int .i64 (sumI (insL l 1)), .slice Ag (cc l).g.length cg, .slice Oa (cc l).os.length oc, .slice Wa l.length wc, .slice Ea l.length ec] 71)) (ha.below hB (Nat.le_refl _)) hn hcap hsh
  rw [ho1] at hq1
  go_wp2_with fail
  refine (hq1).mono ?_
  rintro e w2 hT
  obtain ⟨A2, c2, rfl, p2, hb2⟩ := RetO.open_some hT rfl
  have hB2 := hB.trans (hb2.mono hB.size)
  have rb := hb.below hB2 (Nat.le_refl _)
  clear hT hq1 ho1
  cases hf : fitB (insL l 1) vs with
  | false =>
    have HR : Hid (cdF l 1 vs rs = none) := Lib.hid (if_neg (fun h => by rw [hf] at h; cases h.2.2.1))
    have HF := Lib.hid hf
    clear hf
    go_wp2_with fail
    refine (fitWidths_any A2 B (insL l 1).length c2 m d (insL l 1) vs _ p2.reads rb (by omega) hm (fun z hz => hw1 z hz)).mono ?_
    rintro e w4 ⟨rfl, rfl⟩
    rw [HF.out]
    go_wp2
    go_ret2
    exact RetO.none_ hB2 HR.out rfl
  | true =>
    have HF := Lib.hid hf
    obtain ⟨e1, f1⟩ := fit_1023 hf hw1
    obtain rfl : m = (insL l 1).length := by rw [e1, hb.len]
    clear e1 hf
    go_wp2_with fail
    refine (fitWidths_any A2 B (insL l 1).length c2 (insL l 1).length d (insL l 1) vs _ p2.reads rb (by omega) hm (fun z hz => hw1 z hz)).mono ?_
    rintro e w4 ⟨rfl, rfl⟩
    rw [HF.out]
    have hq := hx.below hb2; obtain ⟨k0, k1, k2, k3, _, _⟩ := hq
    go_wp2_with fail
    refine (Circuit_inputs_any (sumI (insL l 0)) (sumI (insL l 1)) Ag (cc l).g.length cg Oa (cc l).os.length oc _ hx0 hy0).mono ?_
    rintro e w3 ⟨rfl, hb3⟩
    have hB3 := hB2.trans (hb3.mono hB2.size)
    clear k0 k1 k2 k3
    go_wp2_with fail
    refine (sumOfW_any A2 (insL l 1).length c2 (insL l 1) _ (p2.reads.below hb3 (Nat.le_refl _)) (by omega) (fun z hz => by have := hw1 z hz; omega)).mono ?_
    rintro e w5 ⟨rfl, rfl⟩
    by_cases h10 : sumI (insL l 0) ≤ 10
    · have hq2 := OutWidths_any A l.length c l w3 (ha.below hB3 (Nat.le_refl _)) hn hcap hsh
      rw [ho2] at hq2
      go_wp2_with fail
      refine (hq2).mono ?_
      rintro e w6 hT
      obtain ⟨A6, c6, rfl, p6, hb6⟩ := RetO.open_some hT rfl
      have hB6 := hB3.trans (hb6.mono hB3.size)
      have rc := hc.below hB6 (Nat.le_refl _)
      clear hT hq2 ho2
      cases hfr : fitB (outsL l) rs with
      | false =>
        have HR : Hid (cdF l 1 vs rs = none) := Lib.hid (if_neg (fun h => by rw [hfr] at h; cases h.2.2.2.2))
        have HF2 := Lib.hid hfr
        clear hfr
        go_wp2_with fail
        refine (fitWidths_any A6 C (outsL l).length c6 r q (outsL l) rs _ p6.reads rc (by omega) hr (fun z hz => hw2 z hz)).mono ?_
        rintro e w7 ⟨rfl, rfl⟩
        rw [HF2.out]
        go_wp2
        go_ret2
        exact RetO.none_ hB6 HR.out rfl
      | true =>
        have HF2 := Lib.hid hfr
        obtain ⟨Y, hY⟩ := Int.eq_ofNat_of_zero_le (show 0 ≤ sumI (insL l 0) by omega)
        have hY10 : Y ≤ 10 := by omega
        obtain ⟨N, hN⟩ : ∃ N, N = 2 ^ Y := ⟨_, rfl⟩
        obtain ⟨hN1, hsh2⟩ := pow_wrap hN hY10
        have HR : Hid (cdF l 1 vs rs = some (candK (fun n => hitB l rs (joinP 1 (bitsK (insL l 1) vs (insL l 1).length) (bitsN n Y))) N)) := Lib.hid (by
          have h : cdF l 1 vs rs = some (candK (fun n => hitB l rs (joinP 1 (bitsK (insL l 1) vs (insL l 1).length) (bitsN n (sumI (insL l 0)).toNat))) (2 ^ (sumI (insL l 0)).toNat)) := if_pos ⟨H0.out, rfl, HF.out, h10, hfr⟩
          rw [hY, Int.toNat_natCast, ← hN] at h
          exact h)
        have s1 := offs_all hw1
        obtain ⟨X, hX⟩ : ∃ X, Hid (offs (insL l 1) (insL l 1).length = X) := ⟨_, Lib.hid rfl⟩
        have hml := bitsK_len hw1 vs (insL l 1).length (Nat.le_refl _)
        rw [hX.out] at s1 hml
        have hmb := bitsK_bd (insL l 1) vs (insL l 1).length
        obtain ⟨mine, hmine⟩ : ∃ b, Hid (bitsK (insL l 1) vs (insL l 1).length = b) := ⟨_, Lib.hid rfl⟩
        rw [hmine.out] at hml hmb HR
        have hYh := Lib.hid hY
        have hYY : Hid (sumI (insL l 0) + sumI (insL l 1) - sumI (insL l 1) = (Y : Int)) := Lib.hid (by omega)
        have hgat := hD.out.gat (Y + X) (by omega)
        have hout := hD.out.out (Y + X) (by omega)
        have hofs := hD.out.offs
        have hng := hD.out.ng
        have hno := hD.out.no
        have hjb := Lib.hid (fun k => show allB 0 1 (bitsN k Y ++ mine) = true from joinP_bd 1 hmb (bitsN_bd k Y))
        have hjl := Lib.hid (fun k => show (bitsN k Y ++ mine).length = Y + X by rw [List.length_append, hml, bitsN_len])
        have hrun := Lib.hid (fun k => runB_bd hD.out (hjb.out k) (by rw [hjl.out k]; omega))
        have hrl := Lib.hid (fun k => runB_len l (bitsN k Y ++ mine))
        have hrb := Lib.hid (fun k => show pick (vals (cc l).g (bitsN k Y ++ mine) (cc l).g.length) (cc l).os = runB l (bitsN k Y ++ mine) from rfl)
        have hvl := Lib.hid (fun k => show (vals (cc l).g (bitsN k Y ++ mine) (cc l).g.length).length = Y + X + (cc l).g.length by rw [vals_len, hjl.out k])
        have hhit := Lib.hid (fun k => show sameB (numK (outsL l) (runB l (bitsN k Y ++ mine)) (outsL l).length) rs = hitB l rs (joinP 1 mine (bitsN k Y)) from same_num hw2 hfr (hrun.out k) (by rw [runB_len]; exact hofs.symm))
        have hcn := Lib.hid (fun k => show candK (fun n => hitB l rs (joinP 1 mine (bitsN n Y))) (k + 1) = if hitB l rs (joinP 1 mine (bitsN k Y)) = true then candK (fun n => hitB l rs (joinP 1 mine (bitsN n Y))) k ++ [(k : Int)] else candK (fun n => hitB l rs (joinP 1 mine (bitsN n Y))) k from rfl)
        have hcb := Lib.hid (fun k => candK_len (fun n => hitB l rs (joinP 1 mine (bitsN n Y))) k)
        have hc0 : Hid (candK (fun n => hitB l rs (joinP 1 mine (bitsN n Y))) 0 = []) := Lib.hid rfl
        have hXb : X ≤ 20 := by omega
        clear hfr hN hY s1 h10 hX
        go_wp2_with fail
        refine (fitWidths_any A6 C (outsL l).length c6 r q (outsL l) rs _ p6.reads rc (by omega) hr (fun z hz => hw2 z hz)).mono ?_
        rintro e w7 ⟨rfl, rfl⟩
        rw [HF2.out]
        have hbx := (hb2.trans (hb3.mono hb2.size)).trans (hb6.mono (hb2.trans (hb3.mono hb2.size)).size)
        have hx6 := hx.below hbx
        have g6 := hG1.below hbx (Nat.le_refl _)
        have o6 := hO1.below hbx (Nat.le_refl _)
        have r6 := p6.reads
        have r2 := (p2.reads.below hb3 (Nat.le_refl _)).below hb6 (Nat.le_refl _)
        have rb6 := (rb.below hb3 (Nat.le_refl _)).below hb6 (Nat.le_refl _)
        have hlt1 : w1.heap.size < w6.heap.size := by have := hbx.size; simp at this; omega
        clear hbx hb2 hb3 hb6 hb1 hB hB2 hB3 hx hG1 hO1 al1 p2 p6 ha hsh hb hc hD rb
        obtain ⟨y, hyy⟩ : ∃ y, Hid (sumI (insL l 1) = y) := ⟨_, Lib.hid rfl⟩
        rw [hYh.out] at hx6 hx0 ⊢
        rw [hyy.out] at hx6 hy0 ⊢
        obtain ⟨ng, hngl⟩ : ∃ ng, Hid ((cc l).g.length = ng) := ⟨_, Lib.hid rfl⟩
        obtain ⟨no, hnol⟩ : ∃ no, Hid ((cc l).os.length = no) := ⟨_, Lib.hid rfl⟩
        rw [hngl.out] at hx6 g6 hgat hout hng hvl hrb ⊢
        rw [hnol.out] at hx6 o6 hofs hno hrl ⊢
        obtain ⟨K, hK⟩ : ∃ K, Hid ((outsL l).length = K) := ⟨_, Lib.hid rfl⟩
        rw [hK.out] at hL2 hofs hhit r6 ⊢
        generalize hWS : candK (fun n => hitB l rs (joinP 1 mine (bitsN n Y))) = S at *
        clear hWS
        obtain ⟨k0, k1, k2, k3, _, _⟩ := hx6
        have hown0 : Own (w6.alloc (.cells #[] 3)) w6.heap.size (w6.alloc (.cells #[] 3)).heap.size (.slice (some ⟨w6.heap.size, 0, none⟩) 0 0) 0 (S 0) := by rw [hc0.out]; simpa using Own_new0 w6 w6.heap.size (Nat.le_refl _)
        have hb0 : Below w6.heap.size w6 (w6.alloc (.cells #[] 3)) := (Below.refl _ _).alloc (Nat.le_refl _) _
        go_wp2_with fail
        rw [hsh2]
        go_loopw [17, 64] (fun v i wr => ∃ (k cn : Nat) (A' : Option Addr) (c' : Nat), k ≤ N ∧ cn ≤ k ∧ i = .int .i64 k ∧ v = .slice A' cn c' ∧ Own wr w6.heap.size wr.heap.size (.slice A' cn c') cn (S k) ∧ Below w6.heap.size w6 wr) (fun _ i _ => N - (intOf i).toNat)
        case atStart => exact ⟨0, 0, _, _, Nat.zero_le _, Nat.le_refl _, rfl, rfl, hown0, hb0⟩
        case round =>
          clear hown0 hb0
          obtain ⟨k, cn, A', c', hk, hcnk, rfl, rfl, hown, hbw⟩ := hrel
          by_cases hlt : k < N
          · have hz := hbw.size
            go_wp2_with fail
            refine (inputBits_any A2 B (insL l 1).length c2 (insL l 1).length d (insL l 1) vs _ (r2.below hbw (Nat.le_refl _)) (rb6.below hbw (Nat.le_refl _)) (by omega) hw1 f1).mono ?_
            rintro e w7 hT
            rw [hmine.out] at hT
            obtain ⟨A7, c7, rfl, p7, i7⟩ := RetI.open_ hT hml
            go_wp2_with fail
            refine (bitsOf_any k Y _ (by omega) (by omega)).mono ?_
            rintro e w8 hT8
            obtain ⟨A8, c8, rfl, p8, i8⟩ := RetI.open_ hT8 (bitsN_len _ _)
            go_wp2_with fail
            refine (with_any A7 A8 X c7 Y c8 mine (bitsN k Y) _ (p7.reads.below i8 (Nat.le_refl _)) p8.reads (by omega) (by omega)).mono ?_
            rintro e w9 ⟨A9, c9, rfl, p9, i9⟩
            have j9 := bnext (bnext i7 i8) i9
            have hb9 := hbw.trans (j9.mono hz)
            clear hT hT8 p7 p8 i7 i8 i9
            clear p9
            go_wp2_with fail
            refine (bitsOf_any k Y _ (by omega) (by omega)).mono ?_
            rintro e w10 hT8
            obtain ⟨A10, c10, rfl, p10, i10⟩ := RetI.open_ hT8 (bitsN_len _ _)
            have hb10 := hb9.trans (i10.mono hb9.size)
            go_wp2_with fail
            refine (inputBits_any A2 B (insL l 1).length c2 (insL l 1).length d (insL l 1) vs _ (r2.below hb10 (Nat.le_refl _)) (rb6.below hb10 (Nat.le_refl _)) (by omega) hw1 f1).mono ?_
            rintro e w11 hT
            rw [hmine.out] at hT
            obtain ⟨A11, c11, rfl, p11, i11⟩ := RetI.open_ hT hml
            go_wp2_with fail
            refine (with_any A10 A11 Y c10 X c11 (bitsN k Y) mine _ (p10.reads.below i11 (Nat.le_refl _)) p11.reads (by omega) (by omega)).mono ?_
            rintro e w12 ⟨A12, c12, rfl, p12, i12⟩
            have j12 := bnext (bnext (bnext j9 i10) i11) i12
            have hb12 := hbw.trans (j12.mono hz)
            clear hT hT8 p10 p11 i10 i11 i12 hb10 hb9 j9
            have q0 := cell_bel k0 hb12
            have q1 := cell_bel k1 hb12
            have q2 := cell_bel k2 hb12
            have q3 := cell_bel k3 hb12
            have gw := g6.below hb12 (Nat.le_refl _)
            have ow := o6.below hb12 (Nat.le_refl _)
            have r6w := r6.below hb12 (Nat.le_refl _)
            have rcw := rc.below hb12 (Nat.le_refl _)
            have hownK := hown.below j12 (.inl (Nat.le_refl _))
            have hjbk := hjb.out k
            have hrk := hrun.out k
            have hrlk := hrl.out k
            have hrbk := Lib.hid (hrb.out k)
            have hvk := hvl.out k
            have hhk := Lib.hid (hhit.out k)
            have hck := hcn.out k
            have hzK := hb12.size
            obtain ⟨O, hO⟩ : ∃ O, Hid (runB l (bitsN k Y ++ mine) = O) := ⟨_, Lib.hid rfl⟩
            rw [hO.out] at hrk hrlk hrbk hhk
            obtain ⟨b, hbb⟩ : ∃ b, Hid (hitB l rs (joinP 1 mine (bitsN k Y)) = b) := ⟨_, Lib.hid rfl⟩
            rw [hbb.out] at hhk hck
            clear hown hbw
            go_wp2_with fail
            go_region_held3 (fun w' => w'.cell? ⟨w1.heap.size, 0, none⟩ = some (.int .i64 ((Y : Nat) : Int)) ∧ w'.cell? ⟨w1.heap.size, 1, none⟩ = some (.int .i64 y) ∧ w'.cell? ⟨w1.heap.size, 2, none⟩ = some (.slice Ag ng cg) ∧ w'.cell? ⟨w1.heap.size, 3, none⟩ = some (.slice Oa no oc))
              (first | go_keep | (go_split_ands; exact ⟨cell_below (by assumption) i22, cell_below (by assumption) i22, cell_below (by assumption) i22, cell_below (by assumption) i22⟩) | (go_split_ands; exact ⟨cell_below (by assumption) i21, cell_below (by assumption) i21, cell_below (by assumption) i21, cell_below (by assumption) i21⟩) | (go_split_ands; exact ⟨cell_below (by assumption) i20, cell_below (by assumption) i20, cell_below (by assumption) i20, cell_below (by assumption) i20⟩) | ((try dsimp only); (repeat' apply And.intro) <;> go_keep))
              (first | (go_at_call 80; refine (Circuit_values_any ((Y : Nat) : Int) y Ag ng cg Oa no oc A12 (Y + X) c12 (cc l).g (bitsN k Y ++ mine) _ (show RG (w12.drewN 1) Ag ng (cc l).g from gw) (p12.reads.drewN 1) hjbk hgat hng (by omega)).mono ?_; rintro e w20 hT8; obtain ⟨A20, c20, rfl, p20, i20⟩ := RetI.open_ hT8 hvk) | (go_at_call 83; refine (at_any A20 Oa (Y + X + ng) c20 no oc (vals (cc l).g (bitsN k Y ++ mine) ng) (cc l).os _ p20.reads ((ow.drewN 1).below i20 (Nat.le_refl _)) (by omega) (by omega) hout).mono ?_; rintro e w21 hT9; rw [hrbk.out] at hT9; obtain ⟨A21, c21, rfl, p21, i21⟩ := RetI.open_ hT9 hrlk) | (go_at_call 65; refine (numbersOf_any A6 A21 K c6 no c21 (outsL l) O _ (((r6w.drewN 1).below i20 (Nat.le_refl _)).below i21 (Nat.le_refl _)) p21.reads (by omega) (by omega) p21.cap hw2 hrk hofs).mono ?_; rintro e w22 hT10; obtain ⟨A22, c22, rfl, p22, i22⟩ := RetI.open_ hT10 (numK_len _ _ _)) | (go_at_call 82; refine (Equal_any A22 C K c22 r q (numK (outsL l) O K) rs _ p22.reads ((((rcw.drewN 1).below i20 (Nat.le_refl _)).below i21 (Nat.le_refl _)).below i22 (Nat.le_refl _)) (by omega) hr).mono ?_; rintro e w23 ⟨he, jj, rfl⟩; rw [hhk.out] at he; obtain rfl := he))
            have j22 : Below w12.heap.size w12 w22 := bnext (bnext (bnext (below_of_drewN 1) i20) i21) i22
            have hB22 := below_drewN (hb12.trans (j22.mono hzK)) jj
            have hown22 := ((hownK.below j22 (.inl (Nat.le_refl _))).drewN jj).now
            have hz22 := hB22.size
            have hz22b : w6.heap.size ≤ w22.heap.size := hB22.size
            clear i20 i21 i22 j22 q0 q1 q2 q3 gw ow r6w rcw p20 p21 p22 hownK hb12 j12 p12 hjbk
            cases b with
            | true =>
              have hck2 : Hid (S (k + 1) = S k ++ [(k : Int)]) := Lib.hid (by rw [hck, if_pos rfl])
              have hownA := hown22.alloc (.cells #[.int .i64 (k : Int)] 3)
              have hbA := hB22.alloc hz22 (.cells #[.int .i64 (k : Int)] 3)
              clear hck
              go_wp2_with (at_builtin; refine wpList_app _ rfl _ _ rfl rfl hownA rfl (RI_one _ _ _ _ (by simp)) (by omega) (by first | omega | (simp; done) | (simp; omega)) ?_; intro A5 c5 w5 hown5 hg5 hat5)
              have hb5 := below_app hbA hownA hg5 (by simp; omega) (Nat.le_refl _)
              rw [← hck2.out] at hown5
              clear hownA hbA hg5 hat5 hown22 hB22
              go_wp2
              go_roundw
              case rel => exact ⟨k + 1, cn + 1, _, _, by omega, by omega, by go_num, rfl, hown5, hb5⟩
              case measure => simp [intOf]; omega
            | false =>
              have hck2 : Hid (S (k + 1) = S k) := Lib.hid (by rw [hck, if_neg (by decide)])
              clear hck
              rw [← hck2.out] at hown22
              go_wp2
              go_roundw
              case rel => exact ⟨k + 1, cn, _, _, by omega, by omega, by go_num, rfl, hown22, hB22⟩
              case measure => simp [intOf]; omega
          · obtain rfl : N = k := by omega
            go_wp2
            go_ret2
            exact RetO.some_ (hB6.trans (hbw.mono hB6.size)) HR.out hown.len rfl (hown.lo_ hB6.size)
    · have HR : Hid (cdF l 1 vs rs = none) := Lib.hid (if_neg (fun h => h10 h.2.2.2.1))
      go_wp2
      go_ret2
      exact RetO.none_ hB3 HR.out rfl
set_option maxRecDepth 100000 in
set_option maxHeartbeats 1600000 in
theorem CandidatesFor_any (A B C : Option Addr) (n c m d r q : Nat) (l : List Ln) (p : Int) (vs rs : List Int) (w : World) (ha : RLn w A n l) (hn : n ≤ 2097152) (hcap : n ≤ c) (hsh : ∀ x ∈ l, shortL x) (hb : RI w B m vs) (hm : m ≤ 2097152) (hc : RI w C r rs) (hr : r ≤ 2097152) :
    Calls Tryz.prog 40 #[.slice A n c, .int .i64 p, .slice B m d, .slice C r q] w (RetO w (cdF l p vs rs)) := by
  cases hg : coB l with
  | false =>
    have HR : Hid (cdF l p vs rs = none) := Lib.hid (if_neg (fun h => by rw [hg] at h; cases h.1))
    go_enter Tryz.func40, Tryz.ntmps40
    go_wp2_with fail
    refine (compileValid_no A n c l _ ha hn hcap hsh hg).mono ?_
    rintro e w1 ⟨rfl, hb1⟩
    have hB := hb1.alloc hb1.size (.cells #[.int .i64 0, .int .i64 0, .slice none 0 0, .slice none 0 0, .slice none 0 0, .slice none 0 0] 71)
    have hq := InputWidths_any A n c p l (w1.alloc (.cells #[.int .i64 0, .int .i64 0, .slice none 0 0, .slice none 0 0, .slice none 0 0, .slice none 0 0] 71)) (ha.below hB (Nat.le_refl _)) hn hcap hsh
    generalize (if inB 0 1 p = true then byO (fun x => decide (x.kind = 1) && decide (x.party = p)) l else none) = o at hq
    clear hg
    go_wp2_with fail
    refine (hq).mono ?_
    rintro e w2 hT
    obtain ⟨A1, c1, rfl, _, hb2⟩ := hT
    clear hq
    go_wp2
    go_ret2
    exact RetO.none_ (hB.trans (hb2.mono hB.size)) HR.out rfl
  | true =>
    cases hi : inB 0 1 p with
    | true =>
      have hp : p = 0 ∨ p = 1 := by unfold inB at hi; have : 0 ≤ p ∧ p ≤ 1 := by simpa using hi
                                    omega
      rcases hp with rfl | rfl
      · exact CandidatesFor0_any A B C n c m d r q l vs rs w ha hn hcap hsh hb hm hc hr hg
      · exact CandidatesFor1_any A B C n c m d r q l vs rs w ha hn hcap hsh hb hm hc hr hg
    | false =>
      have HR : Hid (cdF l p vs rs = none) := Lib.hid (if_neg (fun h => by rw [hi] at h; cases h.2.1))
      have hl := ha.len
      subst hl
      go_enter Tryz.func40, Tryz.ntmps40
      go_wp2_with fail
      refine (compileValid_ok A l.length c l _ ha hn hcap hsh hg).mono ?_
      rintro e w1 hT
      obtain ⟨Ag, cg, Oa, oc, Ea, ec, Wa, wc, bl, rfl, hC, hE, hW, hb1⟩ := hT
      have hB := hb1.alloc hb1.size (.cells #[.int .i64 (sumI (insL l 0)), .int .i64 (sumI (insL l 1)), .slice Ag (cc l).g.length cg, .slice Oa (cc l).os.length oc, .slice Wa l.length wc, .slice Ea l.length ec] 71)
      have hq := InputWidths_any A l.length c p l (w1.alloc (.cells #[.int .i64 (sumI (insL l 0)), .int .i64 (sumI (insL l 1)), .slice Ag (cc l).g.length cg, .slice Oa (cc l).os.length oc, .slice Wa l.length wc, .slice Ea l.length ec] 71)) (ha.below hB (Nat.le_refl _)) hn hcap hsh
      rw [if_neg (by rw [hi]; decide)] at hq
      clear hC hE hW hg hi
      go_wp2_with fail
      refine (hq).mono ?_
      rintro e w2 hT
      obtain ⟨A1, c1, rfl, hb2⟩ := RetO.open_none hT
      clear hq hT
      go_wp2
      go_ret2
      exact RetO.none_ (hB.trans (hb2.mono hB.size)) HR.out rfl
end Go.Proofs.YtjjphaiomaiilaaGreat
namespace Go.Proofs.YtjjphaiomaiilaaGreat
open Go.RowKit
set_option linter.unusedVariables false
set_option linter.unusedSimpArgs false
set_option maxRecDepth 100000 in
set_option maxHeartbeats 3200000 in
theorem spec_CandidatesFor0_any (A B C : Option Addr) (n c m d r q : Nat) (l : List Ln) (vs rs : List Int) (w : World) (ha : RLn w A n l) (hn : n ≤ 2097152) (hcap : n ≤ c) (hsh : ∀ x ∈ l, shortL x) (hb : RI w B m vs) (hm : m ≤ 2097152) (hc : RI w C r rs) (hr : r ≤ 2097152) (hg : coB l = true) :
    Calls Tryz.prog 39 #[.slice A n c, .int .i64 0, .slice B m d, .slice C r q] w (RetO w (cdF l 0 vs rs)) := by
  have H0 := Lib.hid hg
  have hD := Lib.hid (coB_data hg)
  have hgd := (coB_good hg).1
  have hl := ha.len
  subst hl
  have hx0 := hD.out.x
  have hy0 := hD.out.y
  have hw1 := insL_bd hgd.2.1 0
  have hwo := insL_bd hgd.2.1 1
  have hw2 := outsL_bd hgd.2.1
  have hL1 := insL_len l 0
  have hLo := insL_len l 1
  have hL2 := outs10 hgd
  have hn30 := hgd.1
  have hin : inB 0 1 0 = true := rfl
  clear hg
  go_enter Tryz.func39, Tryz.ntmps39
  go_wp2_with fail
  refine (coGood_any A l.length c l _ ha hn hcap hsh).mono ?_
  rintro e w1 ⟨rfl, hb1⟩
  rw [H0.out]
  go_wp2_with fail
  refine (l1In_any 0 0 1 true hin _).mono ?_
  rintro e w2 ⟨rfl, rfl⟩
  go_wp2_with fail
  refine (laInputs_any A l.length c 0 l _ (ha.below hb1 (Nat.le_refl _)) hn).mono ?_
  rintro e w2 hT
  obtain ⟨A2, c2, rfl, p2, hb2⟩ := hT
  have hB2 := hb1.trans (hb2.mono hb1.size)
  cases hf : fitB (insL l 0) vs with
  | false =>
    have HR : Hid (cdF l 0 vs rs = none) := Lib.hid (if_neg (fun h => by rw [hf] at h; cases h.2.2.1))
    have HF := Lib.hid hf
    clear hf
    go_wp2_with fail
    refine (laFit_any A2 B (insL l 0).length c2 m d (insL l 0) vs _ p2.reads (hb.below hB2 (Nat.le_refl _)) (by omega) hm (fun z hz => hw1 z hz)).mono ?_
    rintro e w4 ⟨rfl, rfl⟩
    rw [HF.out]
    go_wp2
    go_ret2
    exact RetO.none_ hB2 HR.out rfl
  | true =>
    have HF := Lib.hid hf
    obtain ⟨e1, f1⟩ := fit_1023 hf hw1
    obtain rfl : m = (insL l 0).length := by rw [e1, hb.len]
    clear e1 hf
    go_wp2_with fail
    refine (laFit_any A2 B (insL l 0).length c2 (insL l 0).length d (insL l 0) vs _ p2.reads (hb.below hB2 (Nat.le_refl _)) (by omega) hm (fun z hz => hw1 z hz)).mono ?_
    rintro e w4 ⟨rfl, rfl⟩
    rw [HF.out]
    go_wp2_with fail
    refine (laOuts_any A l.length c l _ (ha.below hB2 (Nat.le_refl _)) hn hcap hsh).mono ?_
    rintro e w3 hT
    obtain ⟨A3, c3, rfl, p3, hb3⟩ := hT
    have hB3 := hB2.trans (hb3.mono hB2.size)
    clear hb1 hb2 p2 hb3
    cases hfr : fitB (outsL l) rs with
    | false =>
      have HR : Hid (cdF l 0 vs rs = none) := Lib.hid (if_neg (fun h => by rw [hfr] at h; cases h.2.2.2.2))
      have HF2 := Lib.hid hfr
      clear hfr
      go_wp2_with fail
      refine (laFit_any A3 C (outsL l).length c3 r q (outsL l) rs _ p3.reads (hc.below hB3 (Nat.le_refl _)) (by omega) hr (fun z hz => hw2 z hz)).mono ?_
      rintro e w5 ⟨rfl, rfl⟩
      rw [HF2.out]
      go_wp2
      go_ret2
      exact RetO.none_ hB3 HR.out rfl
    | true =>
      have HF2 := Lib.hid hfr
      obtain ⟨e2, f2⟩ := fit_1023 hfr hw2
      obtain rfl : r = (outsL l).length := by rw [e2, hc.len]
      clear e2 hfr
      go_wp2_with fail
      refine (laFit_any A3 C (outsL l).length c3 (outsL l).length q (outsL l) rs _ p3.reads (hc.below hB3 (Nat.le_refl _)) (by omega) hr (fun z hz => hw2 z hz)).mono ?_
      rintro e w5 ⟨rfl, rfl⟩
      rw [HF2.out]
      go_wp2_with fail
      refine (laInputs_any A l.length c 1 l _ (ha.below hB3 (Nat.le_refl _)) hn).mono ?_
      rintro e w4 hT
      obtain ⟨A4, c4, rfl, p4, hb4⟩ := hT
      have hB4 := hB3.trans (hb4.mono hB3.size)
      go_wp2_with fail
      refine (laSumW_any A4 (insL l 1).length c4 (insL l 1) _ p4.reads (by omega) (fun z hz => by have := hwo z hz; omega)).mono ?_
      rintro e w5 ⟨rfl, rfl⟩
      clear p3 hb4 p4
      by_cases h10 : sumI (insL l 1) ≤ 10
      · obtain ⟨Y, hY⟩ := Int.eq_ofNat_of_zero_le (show 0 ≤ sumI (insL l 1) by omega)
        have hY10 : Y ≤ 10 := by omega
        obtain ⟨N, hN⟩ : ∃ N, N = 2 ^ Y := ⟨_, rfl⟩
        obtain ⟨hN1, hsh2⟩ := pow_wrap hN hY10
        have HR : Hid (cdF l 0 vs rs = some (candK (fun n => hitB l rs (joinP 0 (bitsK (insL l 0) vs (insL l 0).length) (bitsN n Y))) N)) := Lib.hid (by
          have h : cdF l 0 vs rs = some (candK (fun n => hitB l rs (joinP 0 (bitsK (insL l 0) vs (insL l 0).length) (bitsN n (sumI (insL l 1)).toNat))) (2 ^ (sumI (insL l 1)).toNat)) := if_pos ⟨H0.out, rfl, HF.out, h10, HF2.out⟩
          rw [hY, Int.toNat_natCast, ← hN] at h
          exact h)
        have s1 := offs_all hw1
        obtain ⟨X, hX⟩ : ∃ X, Hid (offs (insL l 0) (insL l 0).length = X) := ⟨_, Lib.hid rfl⟩
        have hml := bitsK_len hw1 vs (insL l 0).length (Nat.le_refl _)
        rw [hX.out] at s1 hml
        have hmb := bitsK_bd (insL l 0) vs (insL l 0).length
        obtain ⟨mine, hmine⟩ : ∃ b, Hid (bitsK (insL l 0) vs (insL l 0).length = b) := ⟨_, Lib.hid rfl⟩
        rw [hmine.out] at hml hmb HR
        have hgat := hD.out.gat (X + Y) (by omega)
        have hout := hD.out.out (X + Y) (by omega)
        have hofs := hD.out.offs
        have hng := hD.out.ng
        have hno := hD.out.no
        have hwl := bitsK_len hw2 rs (outsL l).length (Nat.le_refl _)
        rw [hofs] at hwl
        obtain ⟨KB, hKB⟩ : ∃ KB, Hid (bitsK (outsL l) rs (outsL l).length = KB) := ⟨_, Lib.hid rfl⟩
        rw [hKB.out] at hwl
        have hjb := Lib.hid (fun k => show allB 0 1 (mine ++ bitsN k Y) = true from joinP_bd 0 hmb (bitsN_bd k Y))
        have hrl := Lib.hid (fun k => runB_len l (mine ++ bitsN k Y))
        have hrb := Lib.hid (fun k => show pick (vals (cc l).g (mine ++ bitsN k Y) (cc l).g.length) (cc l).os = runB l (mine ++ bitsN k Y) from rfl)
        have hhit := Lib.hid (fun k => show sameB (runB l (mine ++ bitsN k Y)) KB = hitB l rs (joinP 0 mine (bitsN k Y)) by rw [← hKB.out]; rfl)
        have hcn := Lib.hid (fun k => show candK (fun n => hitB l rs (joinP 0 mine (bitsN n Y))) (k + 1) = if hitB l rs (joinP 0 mine (bitsN k Y)) = true then candK (fun n => hitB l rs (joinP 0 mine (bitsN n Y))) k ++ [(k : Int)] else candK (fun n => hitB l rs (joinP 0 mine (bitsN n Y))) k from rfl)
        have hc0 : Hid (candK (fun n => hitB l rs (joinP 0 mine (bitsN n Y))) 0 = []) := Lib.hid rfl
        have hXb : X ≤ 20 := by omega
        have hYh := Lib.hid hY
        clear hN hY s1 hX hofs hD
        go_wp2_with fail
        refine (laInputs_any A l.length c 0 l _ (ha.below hB4 (Nat.le_refl _)) hn).mono ?_
        rintro e w5 hT
        obtain ⟨A5, c5, rfl, p5, hb5⟩ := hT
        have hB5 := hB4.trans (hb5.mono hB4.size)
        rw [hYh.out]
        go_wp2_with fail
        refine (coBits_any A5 B (insL l 0).length c5 (insL l 0).length d (insL l 0) vs _ p5.reads (hb.below hB5 (Nat.le_refl _)) (by omega) hw1 f1).mono ?_
        rintro e w6 hT
        rw [hmine.out] at hT
        obtain ⟨A6, c6, rfl, p6, hb6⟩ := RetI.open_ hT hml
        have hB6 := hB5.trans (hb6.mono hB5.size)
        go_wp2_with fail
        refine (laOuts_any A l.length c l _ (ha.below hB6 (Nat.le_refl _)) hn hcap hsh).mono ?_
        rintro e w7 hT7
        obtain ⟨A7, c7, rfl, p7, hb7⟩ := hT7
        have hB7 := hB6.trans (hb7.mono hB6.size)
        go_wp2_with fail
        refine (coBits_any A7 C (outsL l).length c7 (outsL l).length q (outsL l) rs _ p7.reads (hc.below hB7 (Nat.le_refl _)) (by omega) hw2 f2).mono ?_
        rintro e w8 hT8
        rw [hKB.out] at hT8
        obtain ⟨A8, c8, rfl, p8, hb8⟩ := RetI.open_ hT8 hwl
        have hB8 := hB7.trans (hb8.mono hB7.size)
        have r6 := (p6.reads.below hb7 (Nat.le_refl _)).below hb8 (Nat.le_refl _)
        have r8 := p8.reads
        have hal := ha.below hB8 (Nat.le_refl _)
        clear hT hT8 p5 p6 p7 p8 hb5 hb6 hb7 hb8 hB4 hB5 hB6 hB7 hB2 hB3 ha hb hc h10
        obtain ⟨no, hnol⟩ : ∃ no, Hid ((cc l).os.length = no) := ⟨_, Lib.hid rfl⟩
        rw [hnol.out] at hno hrl hwl r8 ⊢
        generalize hWS : candK (fun n => hitB l rs (joinP 0 mine (bitsN n Y))) = S at *
        clear hWS
        have hown0 : Own w8 w8.heap.size w8.heap.size (.slice none 0 0) 0 (S 0) := by rw [hc0.out]; exact Own.none_ _ _ _
        go_wp2
        go_loopw [13, 14] (fun v i wr => ∃ (k cn : Nat) (A' : Option Addr) (c' : Nat), k ≤ N ∧ cn ≤ k ∧ i = .int .i64 k ∧ v = .slice A' cn c' ∧ Own wr w8.heap.size wr.heap.size (.slice A' cn c') cn (S k) ∧ Below w8.heap.size w8 wr) (fun _ i _ => N - (intOf i).toNat)
        case atStart => exact ⟨0, 0, _, _, Nat.zero_le _, Nat.le_refl _, rfl, rfl, hown0, Below.refl _ _⟩
        case round =>
          clear hown0
          obtain ⟨k, cn, A', c', hk, hcnk, rfl, rfl, hown, hbw⟩ := hrel
          by_cases hlt : k < N
          · have hlt' : (k : Int) < wrap64 (2 ^ Y) := by rw [hsh2]; omega
            have hz := hbw.size
            go_wp2_with fail
            refine (btOf_any k Y _ (by omega) (by omega)).mono ?_
            rintro e w10 hT
            obtain ⟨A10, c10, rfl, p10, i10⟩ := RetI.open_ hT (bitsN_len _ _)
            have hb10 := hbw.trans (i10.mono hz)
            go_wp2_with fail
            refine (ciJoin_any A6 A10 X c6 Y c10 mine (bitsN k Y) _ (r6.below hb10 (Nat.le_refl _)) p10.reads (by omega) (by omega)).mono ?_
            rintro e w11 ⟨A11, c11, rfl, p11, i11⟩
            have j11 := bnext i10 i11
            have hb11 := hbw.trans (j11.mono hz)
            clear hT p10 i10 i11 hb10
            go_wp2_with fail
            refine (coCircuit_any A l.length c l _ (hal.below hb11 (Nat.le_refl _)) hcap hsh hgd).mono ?_
            rintro e w20 ⟨Ag, cg, Oa, oc, rfl, hC, i20⟩
            rw [hnol.out] at hC ⊢
            have j20 := bnext j11 i20
            have hb20 := hbw.trans (j20.mono hz)
            have hrlk := hrl.out k
            have hrbk := Lib.hid (hrb.out k)
            have hhk := Lib.hid (hhit.out k)
            have hck := hcn.out k
            obtain ⟨O, hO⟩ : ∃ O, Hid (runB l (mine ++ bitsN k Y) = O) := ⟨_, Lib.hid rfl⟩
            rw [hO.out] at hrlk hrbk hhk
            obtain ⟨b, hbb⟩ : ∃ b, Hid (hitB l rs (joinP 0 mine (bitsN k Y)) = b) := ⟨_, Lib.hid rfl⟩
            rw [hbb.out] at hhk hck
            go_wp2_with fail
            refine (ciOuts_any (sumI (insL l 0)) (sumI (insL l 1)) Ag (cc l).g.length cg Oa no oc A11 (X + Y) c11 (cc l).g (cc l).os (mine ++ bitsN k Y) _ hC.reads (p11.reads.below i20 (Nat.le_refl _)) (hjb.out k) hgat hout hng hno (by omega)).mono ?_
            rintro e w21 hT
            rw [hrbk.out] at hT
            obtain ⟨A21, c21, rfl, p21, i21⟩ := RetI.open_ hT hrlk
            have j21 := bnext j20 i21
            have hb21 := hbw.trans (j21.mono hz)
            go_wp2_with fail
            refine (l1Same_any A21 A8 no c21 no c8 O KB _ p21.reads (r8.below hb21 (Nat.le_refl _)) (by omega) (by omega)).mono ?_
            rintro e w22 ⟨rfl, jj, rfl⟩
            rw [hhk.out]
            have hB22 := below_drewN hb21 jj
            have hown22 := ((hown.below j21 (.inl (Nat.le_refl _))).drewN jj).now
            have hz22 := hB22.size
            have hz22b : w8.heap.size ≤ w21.heap.size := hB22.size
            clear hT hC p11 hb11 j11 i20 j20 hb20 p21 i21 j21 hb21 hown hbw
            cases b with
            | true =>
              have hck2 : Hid (S (k + 1) = S k ++ [(k : Int)]) := Lib.hid (by rw [hck, if_pos rfl])
              have hownA := hown22.alloc (.cells #[.int .i64 (k : Int)] 3)
              have hbA := hB22.alloc hz22 (.cells #[.int .i64 (k : Int)] 3)
              clear hck
              go_wp2_with (at_builtin; refine wpList_app _ rfl _ _ rfl rfl hownA rfl (RI_one _ _ _ _ (by simp)) (by omega) (by first | omega | (simp; done) | (simp; omega)) ?_; intro A5 c5 w5 hown5 hg5 hat5)
              have hb5 := below_app hbA hownA hg5 (by simp; omega) (Nat.le_refl _)
              rw [← hck2.out] at hown5
              clear hownA hbA hg5 hat5 hown22 hB22
              go_wp2
              go_roundw
              case rel => exact ⟨k + 1, cn + 1, _, _, by omega, by omega, by go_num, rfl, hown5, hb5⟩
              case measure => simp [intOf]; omega
            | false =>
              have hck2 : Hid (S (k + 1) = S k) := Lib.hid (by rw [hck, if_neg (by decide)])
              clear hck
              rw [← hck2.out] at hown22
              go_wp2
              go_roundw
              case rel => exact ⟨k + 1, cn, _, _, by omega, by omega, by go_num, rfl, hown22, hB22⟩
              case measure => simp [intOf]; omega
          · have hlt' : ¬ (k : Int) < wrap64 (2 ^ Y) := by rw [hsh2]; omega
            obtain hkN : N = k := by omega
            rw [hkN] at HR
            go_wp2
            go_ret2
            exact RetO.some_ (hB8.trans (hbw.mono hB8.size)) HR.out hown.len rfl (hown.lo_ hB8.size)
      · have HR : Hid (cdF l 0 vs rs = none) := Lib.hid (if_neg (fun h => h10 h.2.2.2.1))
        go_wp2
        go_ret2
        exact RetO.none_ hB4 HR.out rfl
set_option maxRecDepth 100000 in
set_option maxHeartbeats 3200000 in
theorem spec_CandidatesFor1_any (A B C : Option Addr) (n c m d r q : Nat) (l : List Ln) (vs rs : List Int) (w : World) (ha : RLn w A n l) (hn : n ≤ 2097152) (hcap : n ≤ c) (hsh : ∀ x ∈ l, shortL x) (hb : RI w B m vs) (hm : m ≤ 2097152) (hc : RI w C r rs) (hr : r ≤ 2097152) (hg : coB l = true) :
    Calls Tryz.prog 39 #[.slice A n c, .int .i64 1, .slice B m d, .slice C r q] w (RetO w (cdF l 1 vs rs)) := by
  have H0 := Lib.hid hg
  have hD := Lib.hid (coB_data hg)
  have hgd := (coB_good hg).1
  have hl := ha.len
  subst hl
  have hx0 := hD.out.x
  have hy0 := hD.out.y
  have hw1 := insL_bd hgd.2.1 1
  have hwo := insL_bd hgd.2.1 0
  have hw2 := outsL_bd hgd.2.1
  have hL1 := insL_len l 1
  have hLo := insL_len l 0
  have hL2 := outs10 hgd
  have hn30 := hgd.1
  have hin : inB 0 1 1 = true := rfl
  clear hg
  go_enter Tryz.func39, Tryz.ntmps39
  go_wp2_with fail
  refine (coGood_any A l.length c l _ ha hn hcap hsh).mono ?_
  rintro e w1 ⟨rfl, hb1⟩
  rw [H0.out]
  go_wp2_with fail
  refine (l1In_any 1 0 1 true hin _).mono ?_
  rintro e w2 ⟨rfl, rfl⟩
  go_wp2_with fail
  refine (laInputs_any A l.length c 1 l _ (ha.below hb1 (Nat.le_refl _)) hn).mono ?_
  rintro e w2 hT
  obtain ⟨A2, c2, rfl, p2, hb2⟩ := hT
  have hB2 := hb1.trans (hb2.mono hb1.size)
  cases hf : fitB (insL l 1) vs with
  | false =>
    have HR : Hid (cdF l 1 vs rs = none) := Lib.hid (if_neg (fun h => by rw [hf] at h; cases h.2.2.1))
    have HF := Lib.hid hf
    clear hf
    go_wp2_with fail
    refine (laFit_any A2 B (insL l 1).length c2 m d (insL l 1) vs _ p2.reads (hb.below hB2 (Nat.le_refl _)) (by omega) hm (fun z hz => hw1 z hz)).mono ?_
    rintro e w4 ⟨rfl, rfl⟩
    rw [HF.out]
    go_wp2
    go_ret2
    exact RetO.none_ hB2 HR.out rfl
  | true =>
    have HF := Lib.hid hf
    obtain ⟨e1, f1⟩ := fit_1023 hf hw1
    obtain rfl : m = (insL l 1).length := by rw [e1, hb.len]
    clear e1 hf
    go_wp2_with fail
    refine (laFit_any A2 B (insL l 1).length c2 (insL l 1).length d (insL l 1) vs _ p2.reads (hb.below hB2 (Nat.le_refl _)) (by omega) hm (fun z hz => hw1 z hz)).mono ?_
    rintro e w4 ⟨rfl, rfl⟩
    rw [HF.out]
    go_wp2_with fail
    refine (laOuts_any A l.length c l _ (ha.below hB2 (Nat.le_refl _)) hn hcap hsh).mono ?_
    rintro e w3 hT
    obtain ⟨A3, c3, rfl, p3, hb3⟩ := hT
    have hB3 := hB2.trans (hb3.mono hB2.size)
    clear hb1 hb2 p2 hb3
    cases hfr : fitB (outsL l) rs with
    | false =>
      have HR : Hid (cdF l 1 vs rs = none) := Lib.hid (if_neg (fun h => by rw [hfr] at h; cases h.2.2.2.2))
      have HF2 := Lib.hid hfr
      clear hfr
      go_wp2_with fail
      refine (laFit_any A3 C (outsL l).length c3 r q (outsL l) rs _ p3.reads (hc.below hB3 (Nat.le_refl _)) (by omega) hr (fun z hz => hw2 z hz)).mono ?_
      rintro e w5 ⟨rfl, rfl⟩
      rw [HF2.out]
      go_wp2
      go_ret2
      exact RetO.none_ hB3 HR.out rfl
    | true =>
      have HF2 := Lib.hid hfr
      obtain ⟨e2, f2⟩ := fit_1023 hfr hw2
      obtain rfl : r = (outsL l).length := by rw [e2, hc.len]
      clear e2 hfr
      go_wp2_with fail
      refine (laFit_any A3 C (outsL l).length c3 (outsL l).length q (outsL l) rs _ p3.reads (hc.below hB3 (Nat.le_refl _)) (by omega) hr (fun z hz => hw2 z hz)).mono ?_
      rintro e w5 ⟨rfl, rfl⟩
      rw [HF2.out]
      go_wp2_with fail
      refine (laInputs_any A l.length c 0 l _ (ha.below hB3 (Nat.le_refl _)) hn).mono ?_
      rintro e w4 hT
      obtain ⟨A4, c4, rfl, p4, hb4⟩ := hT
      have hB4 := hB3.trans (hb4.mono hB3.size)
      go_wp2_with fail
      refine (laSumW_any A4 (insL l 0).length c4 (insL l 0) _ p4.reads (by omega) (fun z hz => by have := hwo z hz; omega)).mono ?_
      rintro e w5 ⟨rfl, rfl⟩
      clear p3 hb4 p4
      by_cases h10 : sumI (insL l 0) ≤ 10
      · obtain ⟨Y, hY⟩ := Int.eq_ofNat_of_zero_le (show 0 ≤ sumI (insL l 0) by omega)
        have hY10 : Y ≤ 10 := by omega
        obtain ⟨N, hN⟩ : ∃ N, N = 2 ^ Y := ⟨_, rfl⟩
        obtain ⟨hN1, hsh2⟩ := pow_wrap hN hY10
        have HR : Hid (cdF l 1 vs rs = some (candK (fun n => hitB l rs (joinP 1 (bitsK (insL l 1) vs (insL l 1).length) (bitsN n Y))) N)) := Lib.hid (by
          have h : cdF l 1 vs rs = some (candK (fun n => hitB l rs (joinP 1 (bitsK (insL l 1) vs (insL l 1).length) (bitsN n (sumI (insL l 0)).toNat))) (2 ^ (sumI (insL l 0)).toNat)) := if_pos ⟨H0.out, rfl, HF.out, h10, HF2.out⟩
          rw [hY, Int.toNat_natCast, ← hN] at h
          exact h)
        have s1 := offs_all hw1
        obtain ⟨X, hX⟩ : ∃ X, Hid (offs (insL l 1) (insL l 1).length = X) := ⟨_, Lib.hid rfl⟩
        have hml := bitsK_len hw1 vs (insL l 1).length (Nat.le_refl _)
        rw [hX.out] at s1 hml
        have hmb := bitsK_bd (insL l 1) vs (insL l 1).length
        obtain ⟨mine, hmine⟩ : ∃ b, Hid (bitsK (insL l 1) vs (insL l 1).length = b) := ⟨_, Lib.hid rfl⟩
        rw [hmine.out] at hml hmb HR
        have hgat := hD.out.gat (Y + X) (by omega)
        have hout := hD.out.out (Y + X) (by omega)
        have hofs := hD.out.offs
        have hng := hD.out.ng
        have hno := hD.out.no
        have hwl := bitsK_len hw2 rs (outsL l).length (Nat.le_refl _)
        rw [hofs] at hwl
        obtain ⟨KB, hKB⟩ : ∃ KB, Hid (bitsK (outsL l) rs (outsL l).length = KB) := ⟨_, Lib.hid rfl⟩
        rw [hKB.out] at hwl
        have hjb := Lib.hid (fun k => show allB 0 1 (bitsN k Y ++ mine) = true from joinP_bd 1 hmb (bitsN_bd k Y))
        have hrl := Lib.hid (fun k => runB_len l (bitsN k Y ++ mine))
        have hrb := Lib.hid (fun k => show pick (vals (cc l).g (bitsN k Y ++ mine) (cc l).g.length) (cc l).os = runB l (bitsN k Y ++ mine) from rfl)
        have hhit := Lib.hid (fun k => show sameB (runB l (bitsN k Y ++ mine)) KB = hitB l rs (joinP 1 mine (bitsN k Y)) by rw [← hKB.out]; rfl)
        have hcn := Lib.hid (fun k => show candK (fun n => hitB l rs (joinP 1 mine (bitsN n Y))) (k + 1) = if hitB l rs (joinP 1 mine (bitsN k Y)) = true then candK (fun n => hitB l rs (joinP 1 mine (bitsN n Y))) k ++ [(k : Int)] else candK (fun n => hitB l rs (joinP 1 mine (bitsN n Y))) k from rfl)
        have hc0 : Hid (candK (fun n => hitB l rs (joinP 1 mine (bitsN n Y))) 0 = []) := Lib.hid rfl
        have hXb : X ≤ 20 := by omega
        have hYh := Lib.hid hY
        clear hN hY s1 hX hofs hD
        go_wp2_with fail
        refine (laInputs_any A l.length c 1 l _ (ha.below hB4 (Nat.le_refl _)) hn).mono ?_
        rintro e w5 hT
        obtain ⟨A5, c5, rfl, p5, hb5⟩ := hT
        have hB5 := hB4.trans (hb5.mono hB4.size)
        rw [hYh.out]
        go_wp2_with fail
        refine (coBits_any A5 B (insL l 1).length c5 (insL l 1).length d (insL l 1) vs _ p5.reads (hb.below hB5 (Nat.le_refl _)) (by omega) hw1 f1).mono ?_
        rintro e w6 hT
        rw [hmine.out] at hT
        obtain ⟨A6, c6, rfl, p6, hb6⟩ := RetI.open_ hT hml
        have hB6 := hB5.trans (hb6.mono hB5.size)
        go_wp2_with fail
        refine (laOuts_any A l.length c l _ (ha.below hB6 (Nat.le_refl _)) hn hcap hsh).mono ?_
        rintro e w7 hT7
        obtain ⟨A7, c7, rfl, p7, hb7⟩ := hT7
        have hB7 := hB6.trans (hb7.mono hB6.size)
        go_wp2_with fail
        refine (coBits_any A7 C (outsL l).length c7 (outsL l).length q (outsL l) rs _ p7.reads (hc.below hB7 (Nat.le_refl _)) (by omega) hw2 f2).mono ?_
        rintro e w8 hT8
        rw [hKB.out] at hT8
        obtain ⟨A8, c8, rfl, p8, hb8⟩ := RetI.open_ hT8 hwl
        have hB8 := hB7.trans (hb8.mono hB7.size)
        have r6 := (p6.reads.below hb7 (Nat.le_refl _)).below hb8 (Nat.le_refl _)
        have r8 := p8.reads
        have hal := ha.below hB8 (Nat.le_refl _)
        clear hT hT8 p5 p6 p7 p8 hb5 hb6 hb7 hb8 hB4 hB5 hB6 hB7 hB2 hB3 ha hb hc h10
        obtain ⟨no, hnol⟩ : ∃ no, Hid ((cc l).os.length = no) := ⟨_, Lib.hid rfl⟩
        rw [hnol.out] at hno hrl hwl r8 ⊢
        generalize hWS : candK (fun n => hitB l rs (joinP 1 mine (bitsN n Y))) = S at *
        clear hWS
        have hown0 : Own w8 w8.heap.size w8.heap.size (.slice none 0 0) 0 (S 0) := by rw [hc0.out]; exact Own.none_ _ _ _
        go_wp2
        go_loopw [13, 14] (fun v i wr => ∃ (k cn : Nat) (A' : Option Addr) (c' : Nat), k ≤ N ∧ cn ≤ k ∧ i = .int .i64 k ∧ v = .slice A' cn c' ∧ Own wr w8.heap.size wr.heap.size (.slice A' cn c') cn (S k) ∧ Below w8.heap.size w8 wr) (fun _ i _ => N - (intOf i).toNat)
        case atStart => exact ⟨0, 0, _, _, Nat.zero_le _, Nat.le_refl _, rfl, rfl, hown0, Below.refl _ _⟩
        case round =>
          clear hown0
          obtain ⟨k, cn, A', c', hk, hcnk, rfl, rfl, hown, hbw⟩ := hrel
          by_cases hlt : k < N
          · have hlt' : (k : Int) < wrap64 (2 ^ Y) := by rw [hsh2]; omega
            have hz := hbw.size
            go_wp2_with fail
            refine (btOf_any k Y _ (by omega) (by omega)).mono ?_
            rintro e w10 hT
            obtain ⟨A10, c10, rfl, p10, i10⟩ := RetI.open_ hT (bitsN_len _ _)
            have hb10 := hbw.trans (i10.mono hz)
            go_wp2_with fail
            refine (ciJoin_any A6 A10 X c6 Y c10 mine (bitsN k Y) _ (r6.below hb10 (Nat.le_refl _)) p10.reads (by omega) (by omega)).mono ?_
            rintro e w11 ⟨A11, c11, rfl, p11, i11⟩
            have j11 := bnext i10 i11
            have hb11 := hbw.trans (j11.mono hz)
            clear hT p10 i10 i11 hb10
            clear p11
            go_wp2_with fail
            refine (btOf_any k Y _ (by omega) (by omega)).mono ?_
            rintro e w12 hT
            obtain ⟨A12, c12, rfl, p12, i12⟩ := RetI.open_ hT (bitsN_len _ _)
            have hb12 := hb11.trans (i12.mono hb11.size)
            go_wp2_with fail
            refine (ciJoin_any A12 A6 Y c12 X c6 (bitsN k Y) mine _ p12.reads (r6.below hb12 (Nat.le_refl _)) (by omega) (by omega)).mono ?_
            rintro e w13 ⟨A13, c13, rfl, p13, i13⟩
            have j13 := bnext (bnext j11 i12) i13
            have hb13 := hbw.trans (j13.mono hz)
            clear hT p12 i12 i13 hb12 hb11 j11
            go_wp2_with fail
            refine (coCircuit_any A l.length c l _ (hal.below hb13 (Nat.le_refl _)) hcap hsh hgd).mono ?_
            rintro e w20 ⟨Ag, cg, Oa, oc, rfl, hC, i20⟩
            rw [hnol.out] at hC ⊢
            have j20 := bnext j13 i20
            have hb20 := hbw.trans (j20.mono hz)
            have hrlk := hrl.out k
            have hrbk := Lib.hid (hrb.out k)
            have hhk := Lib.hid (hhit.out k)
            have hck := hcn.out k
            obtain ⟨O, hO⟩ : ∃ O, Hid (runB l (bitsN k Y ++ mine) = O) := ⟨_, Lib.hid rfl⟩
            rw [hO.out] at hrlk hrbk hhk
            obtain ⟨b, hbb⟩ : ∃ b, Hid (hitB l rs (joinP 1 mine (bitsN k Y)) = b) := ⟨_, Lib.hid rfl⟩
            rw [hbb.out] at hhk hck
            go_wp2_with fail
            refine (ciOuts_any (sumI (insL l 0)) (sumI (insL l 1)) Ag (cc l).g.length cg Oa no oc A13 (Y + X) c13 (cc l).g (cc l).os (bitsN k Y ++ mine) _ hC.reads (p13.reads.below i20 (Nat.le_refl _)) (hjb.out k) hgat hout hng hno (by omega)).mono ?_
            rintro e w21 hT
            rw [hrbk.out] at hT
            obtain ⟨A21, c21, rfl, p21, i21⟩ := RetI.open_ hT hrlk
            have j21 := bnext j20 i21
            have hb21 := hbw.trans (j21.mono hz)
            go_wp2_with fail
            refine (l1Same_any A21 A8 no c21 no c8 O KB _ p21.reads (r8.below hb21 (Nat.le_refl _)) (by omega) (by omega)).mono ?_
            rintro e w22 ⟨rfl, jj, rfl⟩
            rw [hhk.out]
            have hB22 := below_drewN hb21 jj
            have hown22 := ((hown.below j21 (.inl (Nat.le_refl _))).drewN jj).now
            have hz22 := hB22.size
            have hz22b : w8.heap.size ≤ w21.heap.size := hB22.size
            clear hT hC p13 hb13 j13 i20 j20 hb20 p21 i21 j21 hb21 hown hbw
            cases b with
            | true =>
              have hck2 : Hid (S (k + 1) = S k ++ [(k : Int)]) := Lib.hid (by rw [hck, if_pos rfl])
              have hownA := hown22.alloc (.cells #[.int .i64 (k : Int)] 3)
              have hbA := hB22.alloc hz22 (.cells #[.int .i64 (k : Int)] 3)
              clear hck
              go_wp2_with (at_builtin; refine wpList_app _ rfl _ _ rfl rfl hownA rfl (RI_one _ _ _ _ (by simp)) (by omega) (by first | omega | (simp; done) | (simp; omega)) ?_; intro A5 c5 w5 hown5 hg5 hat5)
              have hb5 := below_app hbA hownA hg5 (by simp; omega) (Nat.le_refl _)
              rw [← hck2.out] at hown5
              clear hownA hbA hg5 hat5 hown22 hB22
              go_wp2
              go_roundw
              case rel => exact ⟨k + 1, cn + 1, _, _, by omega, by omega, by go_num, rfl, hown5, hb5⟩
              case measure => simp [intOf]; omega
            | false =>
              have hck2 : Hid (S (k + 1) = S k) := Lib.hid (by rw [hck, if_neg (by decide)])
              clear hck
              rw [← hck2.out] at hown22
              go_wp2
              go_roundw
              case rel => exact ⟨k + 1, cn, _, _, by omega, by omega, by go_num, rfl, hown22, hB22⟩
              case measure => simp [intOf]; omega
          · have hlt' : ¬ (k : Int) < wrap64 (2 ^ Y) := by rw [hsh2]; omega
            obtain hkN : N = k := by omega
            rw [hkN] at HR
            go_wp2
            go_ret2
            exact RetO.some_ (hB8.trans (hbw.mono hB8.size)) HR.out hown.len rfl (hown.lo_ hB8.size)
      · have HR : Hid (cdF l 1 vs rs = none) := Lib.hid (if_neg (fun h => h10 h.2.2.2.1))
        go_wp2
        go_ret2
        exact RetO.none_ hB4 HR.out rfl
set_option maxRecDepth 100000 in
set_option maxHeartbeats 1600000 in
theorem spec_CandidatesFor_any (A B C : Option Addr) (n c m d r q : Nat) (l : List Ln) (p : Int) (vs rs : List Int) (w : World) (ha : RLn w A n l) (hn : n ≤ 2097152) (hcap : n ≤ c) (hsh : ∀ x ∈ l, shortL x) (hb : RI w B m vs) (hm : m ≤ 2097152) (hc : RI w C r rs) (hr : r ≤ 2097152) :
    Calls Tryz.prog 39 #[.slice A n c, .int .i64 p, .slice B m d, .slice C r q] w (RetO w (cdF l p vs rs)) := by
  cases hg : coB l with
  | false =>
    have HR : Hid (cdF l p vs rs = none) := Lib.hid (if_neg (fun h => by rw [hg] at h; cases h.1))
    have H0 := Lib.hid hg
    clear hg
    go_enter Tryz.func39, Tryz.ntmps39
    go_wp2_with fail
    refine (coGood_any A n c l _ ha hn hcap hsh).mono ?_
    rintro e w1 ⟨rfl, hb1⟩
    rw [H0.out]
    go_wp2
    go_ret2
    exact RetO.none_ hb1 HR.out rfl
  | true =>
    cases hi : inB 0 1 p with
    | true =>
      have hp : p = 0 ∨ p = 1 := by unfold inB at hi; have : 0 ≤ p ∧ p ≤ 1 := by simpa using hi
                                    omega
      rcases hp with rfl | rfl
      · exact spec_CandidatesFor0_any A B C n c m d r q l vs rs w ha hn hcap hsh hb hm hc hr hg
      · exact spec_CandidatesFor1_any A B C n c m d r q l vs rs w ha hn hcap hsh hb hm hc hr hg
    | false =>
      have HR : Hid (cdF l p vs rs = none) := Lib.hid (if_neg (fun h => by rw [hi] at h; cases h.2.1))
      have H0 := Lib.hid hg
      clear hg
      go_enter Tryz.func39, Tryz.ntmps39
      go_wp2_with fail
      refine (coGood_any A n c l _ ha hn hcap hsh).mono ?_
      rintro e w1 ⟨rfl, hb1⟩
      rw [H0.out]
      go_wp2_with fail
      refine (l1In_any p 0 1 false hi _).mono ?_
      rintro e w2 ⟨rfl, rfl⟩
      go_wp2
      go_ret2
      exact RetO.none_ hb1 HR.out rfl
end Go.Proofs.YtjjphaiomaiilaaGreat
namespace Go.Proofs.YtjjphaiomaiilaaGreat.lawCandidatesFor
open Go.RowKit
set_option linter.unusedVariables false
set_option linter.unusedSimpArgs false
set_option maxRecDepth 100000 in
set_option maxHeartbeats 8000000 in
theorem walk (a0 : Option Addr) (n0 c0 : Nat) (x0 : List Ln) (a1 : Int) (a2 : Option Addr) (n2 c2 : Nat) (x2 : List Int) (a3 : Option Addr) (n3 c3 : Nat) (x3 : List Int) (w : World) (h0 : RLn w a0 n0 x0 ∧ n0 ≤ maxLen ∧ ∀ s ∈ x0, bigL s) (h1 : (Lit.int .i64 a1).wf = true) (h2 : RI w a2 n2 x2) (h3 : RI w a3 n3 x3) :
    Calls Tryz.prog 11 #[.slice a0 n0 c0, .int .i64 a1, .slice a2 n2 c2, .slice a3 n3 c3] w fun e w' => e = .returned (.bool true) ∧ Below w.heap.size w w' := by
  obtain ⟨h0, hN0, hL0⟩ := h0
  by_cases s2 : n2 ≤ 1048576
  rotate_left
  · have s2' : (1048576 : Int) < (n2 : Int) := by omega
    go_enter Tryz.func11, Tryz.ntmps11
    go_wp2
    go_ret
    exact ⟨rfl, (Below.refl _ _)⟩
  by_cases s3 : n3 ≤ 1048576
  rotate_left
  · have s3' : (1048576 : Int) < (n3 : Int) := by omega
    go_enter Tryz.func11, Tryz.ntmps11
    go_wp2
    go_ret
    exact ⟨rfl, (Below.refl _ _)⟩
  have l0 := h0.len
  have l2 := h2.len
  have l3 := h3.len
  by_cases t0 : (szLs 1048576 x0) < 0
  · skip
    go_enter Tryz.func11, Tryz.ntmps11
    go_wp2_with fail
    refine (szLineS_any a0 n0 c0 x0 1048576 _ h0 (by omega) hN0 hL0).mono ?_
    rintro e w1 ⟨rfl, b1⟩
    have z1 := b1.size
    have B1 := b1; clear b1
    go_wp2
    go_ret
    exact ⟨rfl, B1⟩
  have tz0 := szLs_bd (left := 1048576) (l := x0) (by omega) (by omega); obtain ⟨ta0, hsh0⟩ := tz0.2.2 (by omega); have htp0 := szLs_parts (left := 1048576) (l := x0) (by omega) (by omega) (by omega)
  have hzl0 := cdF_len x0 a1 x2 x3
  go_enter Tryz.func11, Tryz.ntmps11
  go_wp2_with fail
  refine (szLineS_any a0 n0 c0 x0 1048576 _ h0 (by omega) hN0 hL0).mono ?_
  rintro e w1 ⟨rfl, b1⟩
  have z1 := b1.size
  have B1 := b1; clear b1
  go_wp2_with fail
  refine (toLineS_any _ _ _ x0 _ (h0.below B1 (Nat.le_refl _)) (by omega) hsh0).mono ?_
  rintro e w2 ⟨Tt1x0, rfl, ft1x0_2, b2⟩
  have z2 := b2.size
  have B2 := B1.trans (b2.mono B1.size); clear b2 B1
  go_wp2_with fail
  refine (toIntS_any _ _ _ x2 _ (h2.below B2 (Nat.le_refl _)) (by omega)).mono ?_
  rintro e w3 ⟨Tt2x2, rfl, ft2x2_3, b3⟩
  have ft1x0_3 := ft1x0_2.below b3 (.inl (Nat.le_refl _)); clear ft1x0_2
  have z3 := b3.size
  have B3 := B2.trans (b3.mono B2.size); clear b3 B2
  go_wp2_with fail
  refine (toIntS_any _ _ _ x3 _ (h3.below B3 (Nat.le_refl _)) (by omega)).mono ?_
  rintro e w4 ⟨Tt3x3, rfl, ft3x3_4, b4⟩
  have ft1x0_4 := ft1x0_3.below b4 (.inl (Nat.le_refl _)); clear ft1x0_3
  have ft2x2_4 := ft2x2_3.below b4 (.inl (Nat.le_refl _)); clear ft2x2_3
  have z4 := b4.size
  have B4 := B3.trans (b4.mono B3.size); clear b4 B3
  go_wp2_with fail
  refine (spec_CandidatesFor_any _ _ _ _ _ _ _ _ _ x0 a1 x2 x3 _ ft1x0_4.reads (by omega) (Nat.le_refl _) hsh0 ft2x2_4.reads (by omega) ft3x3_4.reads (by omega) ).mono ?_
  rintro e w5 ⟨Aw0, Cw0, rfl, fw0_5, b5⟩
  have ft1x0_5 := ft1x0_4.below b5 (.inl (Nat.le_refl _)); clear ft1x0_4
  have ft2x2_5 := ft2x2_4.below b5 (.inl (Nat.le_refl _)); clear ft2x2_4
  have ft3x3_5 := ft3x3_4.below b5 (.inl (Nat.le_refl _)); clear ft3x3_4
  have z5 := b5.size
  have B5 := B4.trans (b5.mono B4.size); clear b5 B4
  clear ft1x0_5
  clear ft2x2_5
  clear ft3x3_5
  go_wp2_with fail
  refine (toLineS_any _ _ _ x0 _ (h0.below B5 (Nat.le_refl _)) (by omega) hsh0).mono ?_
  rintro e w6 ⟨Tx0, rfl, fx0_6, b6⟩
  have fw0_6 := fw0_5.below b6 (.inl (Nat.le_refl _)); clear fw0_5
  have z6 := b6.size
  have B6 := B5.trans (b6.mono B5.size); clear b6 B5
  go_wp2_with fail
  refine (toIntS_any _ _ _ x2 _ (h2.below B6 (Nat.le_refl _)) (by omega)).mono ?_
  rintro e w7 ⟨Tx2, rfl, fx2_7, b7⟩
  have fw0_7 := fw0_6.below b7 (.inl (Nat.le_refl _)); clear fw0_6
  have fx0_7 := fx0_6.below b7 (.inl (Nat.le_refl _)); clear fx0_6
  have z7 := b7.size
  have B7 := B6.trans (b7.mono B6.size); clear b7 B6
  go_wp2_with fail
  refine (toIntS_any _ _ _ x3 _ (h3.below B7 (Nat.le_refl _)) (by omega)).mono ?_
  rintro e w8 ⟨Tx3, rfl, fx3_8, b8⟩
  have fw0_8 := fw0_7.below b8 (.inl (Nat.le_refl _)); clear fw0_7
  have fx0_8 := fx0_7.below b8 (.inl (Nat.le_refl _)); clear fx0_7
  have fx2_8 := fx2_7.below b8 (.inl (Nat.le_refl _)); clear fx2_7
  have z8 := b8.size
  have B8 := B7.trans (b8.mono B7.size); clear b8 B7
  go_wp2_with fail
  refine (CandidatesFor_any _ _ _ _ _ _ _ _ _ x0 a1 x2 x3 _ fx0_8.reads (by omega) (Nat.le_refl _) hsh0 fx2_8.reads (by omega) fx3_8.reads (by omega) ).mono ?_
  rintro e w9 ⟨Ag0, Cg0, rfl, fg0_9, b9⟩
  have fw0_9 := fw0_8.below b9 (.inl (Nat.le_refl _)); clear fw0_8
  have fx0_9 := fx0_8.below b9 (.inl (Nat.le_refl _)); clear fx0_8
  have fx2_9 := fx2_8.below b9 (.inl (Nat.le_refl _)); clear fx2_8
  have fx3_9 := fx3_8.below b9 (.inl (Nat.le_refl _)); clear fx3_8
  have z9 := b9.size
  have B9 := B8.trans (b9.mono B8.size); clear b9 B8
  go_wp2_with fail
  refine (eqIntS_b _ _ _ _ _ _ _ fg0_9.reads fw0_9.reads (by omega)).mono ?_
  rintro e w10 ⟨rfl, b10⟩
  have fw0_10 := fw0_9.below b10 (.inl (Nat.le_refl _)); clear fw0_9
  have fx0_10 := fx0_9.below b10 (.inl (Nat.le_refl _)); clear fx0_9
  have fx2_10 := fx2_9.below b10 (.inl (Nat.le_refl _)); clear fx2_9
  have fx3_10 := fx3_9.below b10 (.inl (Nat.le_refl _)); clear fx3_9
  have fg0_10 := fg0_9.below b10 (.inl (Nat.le_refl _)); clear fg0_9
  have z10 := b10.size
  have B10 := B9.trans (b10.mono B9.size); clear b10 B9
  go_wp2_with fail
  refine (toLineS_any _ _ _ x0 _ (h0.below B10 (Nat.le_refl _)) (by omega) hsh0).mono ?_
  rintro e w11 ⟨Ty10, rfl, fy10_11, b11⟩
  have fw0_11 := fw0_10.below b11 (.inl (Nat.le_refl _)); clear fw0_10
  have fx0_11 := fx0_10.below b11 (.inl (Nat.le_refl _)); clear fx0_10
  have fx2_11 := fx2_10.below b11 (.inl (Nat.le_refl _)); clear fx2_10
  have fx3_11 := fx3_10.below b11 (.inl (Nat.le_refl _)); clear fx3_10
  have fg0_11 := fg0_10.below b11 (.inl (Nat.le_refl _)); clear fg0_10
  have z11 := b11.size
  have B11 := B10.trans (b11.mono B10.size); clear b11 B10
  go_wp2_with fail
  refine (eqLineS_b _ _ _ _ _ _ _ fx0_11.reads fy10_11.reads (by omega) hsh0).mono ?_
  rintro e w12 ⟨rfl, b12⟩
  have fw0_12 := fw0_11.below b12 (.inl (Nat.le_refl _)); clear fw0_11
  have fx0_12 := fx0_11.below b12 (.inl (Nat.le_refl _)); clear fx0_11
  have fx2_12 := fx2_11.below b12 (.inl (Nat.le_refl _)); clear fx2_11
  have fx3_12 := fx3_11.below b12 (.inl (Nat.le_refl _)); clear fx3_11
  have fg0_12 := fg0_11.below b12 (.inl (Nat.le_refl _)); clear fg0_11
  have fy10_12 := fy10_11.below b12 (.inl (Nat.le_refl _)); clear fy10_11
  have z12 := b12.size
  have B12 := B11.trans (b12.mono B11.size); clear b12 B11
  clear fy10_12
  go_wp2_with fail
  refine (toIntS_any _ _ _ x2 _ (h2.below B12 (Nat.le_refl _)) (by omega)).mono ?_
  rintro e w13 ⟨Ty12, rfl, fy12_13, b13⟩
  have fw0_13 := fw0_12.below b13 (.inl (Nat.le_refl _)); clear fw0_12
  have fx0_13 := fx0_12.below b13 (.inl (Nat.le_refl _)); clear fx0_12
  have fx2_13 := fx2_12.below b13 (.inl (Nat.le_refl _)); clear fx2_12
  have fx3_13 := fx3_12.below b13 (.inl (Nat.le_refl _)); clear fx3_12
  have fg0_13 := fg0_12.below b13 (.inl (Nat.le_refl _)); clear fg0_12
  have z13 := b13.size
  have B13 := B12.trans (b13.mono B12.size); clear b13 B12
  go_wp2_with fail
  refine (eqIntS_b _ _ _ _ _ _ _ fx2_13.reads fy12_13.reads (by omega)).mono ?_
  rintro e w14 ⟨rfl, b14⟩
  have fw0_14 := fw0_13.below b14 (.inl (Nat.le_refl _)); clear fw0_13
  have fx0_14 := fx0_13.below b14 (.inl (Nat.le_refl _)); clear fx0_13
  have fx2_14 := fx2_13.below b14 (.inl (Nat.le_refl _)); clear fx2_13
  have fx3_14 := fx3_13.below b14 (.inl (Nat.le_refl _)); clear fx3_13
  have fg0_14 := fg0_13.below b14 (.inl (Nat.le_refl _)); clear fg0_13
  have fy12_14 := fy12_13.below b14 (.inl (Nat.le_refl _)); clear fy12_13
  have z14 := b14.size
  have B14 := B13.trans (b14.mono B13.size); clear b14 B13
  clear fy12_14
  go_wp2_with fail
  refine (toIntS_any _ _ _ x3 _ (h3.below B14 (Nat.le_refl _)) (by omega)).mono ?_
  rintro e w15 ⟨Ty14, rfl, fy14_15, b15⟩
  have fw0_15 := fw0_14.below b15 (.inl (Nat.le_refl _)); clear fw0_14
  have fx0_15 := fx0_14.below b15 (.inl (Nat.le_refl _)); clear fx0_14
  have fx2_15 := fx2_14.below b15 (.inl (Nat.le_refl _)); clear fx2_14
  have fx3_15 := fx3_14.below b15 (.inl (Nat.le_refl _)); clear fx3_14
  have fg0_15 := fg0_14.below b15 (.inl (Nat.le_refl _)); clear fg0_14
  have z15 := b15.size
  have B15 := B14.trans (b15.mono B14.size); clear b15 B14
  go_wp2_with fail
  refine (eqIntS_b _ _ _ _ _ _ _ fx3_15.reads fy14_15.reads (by omega)).mono ?_
  rintro e w16 ⟨rfl, b16⟩
  have fw0_16 := fw0_15.below b16 (.inl (Nat.le_refl _)); clear fw0_15
  have fx0_16 := fx0_15.below b16 (.inl (Nat.le_refl _)); clear fx0_15
  have fx2_16 := fx2_15.below b16 (.inl (Nat.le_refl _)); clear fx2_15
  have fx3_16 := fx3_15.below b16 (.inl (Nat.le_refl _)); clear fx3_15
  have fg0_16 := fg0_15.below b16 (.inl (Nat.le_refl _)); clear fg0_15
  have fy14_16 := fy14_15.below b16 (.inl (Nat.le_refl _)); clear fy14_15
  have z16 := b16.size
  have B16 := B15.trans (b16.mono B15.size); clear b16 B15
  clear fy14_16
  go_wp2_with fail
  refine (markLineS_c _ _ _ _ _ _ _ _ fx0_16 (by omega) hsh0 htp0 (by omega) (by omega)).mono ?_
  rintro e w17 ⟨rfl, g17⟩
  have fw0_17 := fw0_16.chg g17 (.inl (by omega)); clear fw0_16
  have fx2_17 := fx2_16.chg g17 (.inr (by omega)); clear fx2_16
  have fx3_17 := fx3_16.chg g17 (.inr (by omega)); clear fx3_16
  have fg0_17 := fg0_16.chg g17 (.inr (by omega)); clear fg0_16
  have z17 := g17.size
  have B17 := g17.below_ B16 (by omega) B16.size; clear B16 fx0_16 g17
  go_wp2_with fail
  refine (markIntS_c _ _ _ _ _ _ _ _ fx2_17 (by omega) (by omega) (by omega)).mono ?_
  rintro e w18 ⟨rfl, fx2_18, g18⟩
  have fw0_18 := fw0_17.chg g18 (.inl (by omega)); clear fw0_17
  have fx3_18 := fx3_17.chg g18 (.inr (by omega)); clear fx3_17
  have fg0_18 := fg0_17.chg g18 (.inr (by omega)); clear fg0_17
  have z18 := g18.size
  have B18 := g18.below_ B17 (by omega) B17.size; clear B17 fx2_17 g18
  go_wp2_with fail
  refine (markIntS_c _ _ _ _ _ _ _ _ fx3_18 (by omega) (by omega) (by omega)).mono ?_
  rintro e w19 ⟨rfl, fx3_19, g19⟩
  have fw0_19 := fw0_18.chg g19 (.inl (by omega)); clear fw0_18
  have fx2_19 := fx2_18.chg g19 (.inl (by omega)); clear fx2_18
  have fg0_19 := fg0_18.chg g19 (.inr (by omega)); clear fg0_18
  have z19 := g19.size
  have B19 := g19.below_ B18 (by omega) B18.size; clear B18 fx3_18 g19
  go_wp2_with fail
  refine (eqIntS_b _ _ _ _ _ _ _ fg0_19.reads fw0_19.reads (by omega)).mono ?_
  rintro e w20 ⟨rfl, b20⟩
  have fw0_20 := fw0_19.below b20 (.inl (Nat.le_refl _)); clear fw0_19
  have fx2_20 := fx2_19.below b20 (.inl (Nat.le_refl _)); clear fx2_19
  have fx3_20 := fx3_19.below b20 (.inl (Nat.le_refl _)); clear fx3_19
  have fg0_20 := fg0_19.below b20 (.inl (Nat.le_refl _)); clear fg0_19
  have z20 := b20.size
  have B20 := B19.trans (b20.mono B19.size); clear b20 B19
  go_wp2_with fail
  refine (markIntS_c _ _ _ _ _ _ _ _ fg0_20 (by omega) (by omega) (by omega)).mono ?_
  rintro e w21 ⟨rfl, fg0_21, g21⟩
  have fw0_21 := fw0_20.chg g21 (.inl (by omega)); clear fw0_20
  have fx2_21 := fx2_20.chg g21 (.inl (by omega)); clear fx2_20
  have fx3_21 := fx3_20.chg g21 (.inl (by omega)); clear fx3_20
  have z21 := g21.size
  have B21 := g21.below_ B20 (by omega) B20.size; clear B20 fg0_20 g21
  go_wp2_with fail
  refine (heldIntS_b _ _ _ _ _ fg0_21.reads (by omega) (by omega) (by omega)).mono ?_
  rintro e w22 ⟨rfl, b22⟩
  have fw0_22 := fw0_21.below b22 (.inl (Nat.le_refl _)); clear fw0_21
  have fx2_22 := fx2_21.below b22 (.inl (Nat.le_refl _)); clear fx2_21
  have fx3_22 := fx3_21.below b22 (.inl (Nat.le_refl _)); clear fx3_21
  have fg0_22 := fg0_21.below b22 (.inl (Nat.le_refl _)); clear fg0_21
  have z22 := b22.size
  have B22 := B21.trans (b22.mono B21.size); clear b22 B21
  go_wp2_with fail
  refine (toLineS_any _ _ _ x0 _ (h0.below B22 (Nat.le_refl _)) (by omega) hsh0).mono ?_
  rintro e w23 ⟨Tt22x0, rfl, ft22x0_23, b23⟩
  have fw0_23 := fw0_22.below b23 (.inl (Nat.le_refl _)); clear fw0_22
  have fx2_23 := fx2_22.below b23 (.inl (Nat.le_refl _)); clear fx2_22
  have fx3_23 := fx3_22.below b23 (.inl (Nat.le_refl _)); clear fx3_22
  have fg0_23 := fg0_22.below b23 (.inl (Nat.le_refl _)); clear fg0_22
  have z23 := b23.size
  have B23 := B22.trans (b23.mono B22.size); clear b23 B22
  go_wp2_with fail
  refine (toIntS_any _ _ _ x2 _ (h2.below B23 (Nat.le_refl _)) (by omega)).mono ?_
  rintro e w24 ⟨Tt23x2, rfl, ft23x2_24, b24⟩
  have fw0_24 := fw0_23.below b24 (.inl (Nat.le_refl _)); clear fw0_23
  have fx2_24 := fx2_23.below b24 (.inl (Nat.le_refl _)); clear fx2_23
  have fx3_24 := fx3_23.below b24 (.inl (Nat.le_refl _)); clear fx3_23
  have fg0_24 := fg0_23.below b24 (.inl (Nat.le_refl _)); clear fg0_23
  have ft22x0_24 := ft22x0_23.below b24 (.inl (Nat.le_refl _)); clear ft22x0_23
  have z24 := b24.size
  have B24 := B23.trans (b24.mono B23.size); clear b24 B23
  go_wp2_with fail
  refine (toIntS_any _ _ _ x3 _ (h3.below B24 (Nat.le_refl _)) (by omega)).mono ?_
  rintro e w25 ⟨Tt24x3, rfl, ft24x3_25, b25⟩
  have fw0_25 := fw0_24.below b25 (.inl (Nat.le_refl _)); clear fw0_24
  have fx2_25 := fx2_24.below b25 (.inl (Nat.le_refl _)); clear fx2_24
  have fx3_25 := fx3_24.below b25 (.inl (Nat.le_refl _)); clear fx3_24
  have fg0_25 := fg0_24.below b25 (.inl (Nat.le_refl _)); clear fg0_24
  have ft22x0_25 := ft22x0_24.below b25 (.inl (Nat.le_refl _)); clear ft22x0_24
  have ft23x2_25 := ft23x2_24.below b25 (.inl (Nat.le_refl _)); clear ft23x2_24
  have z25 := b25.size
  have B25 := B24.trans (b25.mono B24.size); clear b25 B24
  go_wp2_with fail
  refine (CandidatesFor_any _ _ _ _ _ _ _ _ _ x0 a1 x2 x3 _ ft22x0_25.reads (by omega) (Nat.le_refl _) hsh0 ft23x2_25.reads (by omega) ft24x3_25.reads (by omega) ).mono ?_
  rintro e w26 ⟨Ah0, Ch0, rfl, fh0_26, b26⟩
  have fw0_26 := fw0_25.below b26 (.inl (Nat.le_refl _)); clear fw0_25
  have fx2_26 := fx2_25.below b26 (.inl (Nat.le_refl _)); clear fx2_25
  have fx3_26 := fx3_25.below b26 (.inl (Nat.le_refl _)); clear fx3_25
  have fg0_26 := fg0_25.below b26 (.inl (Nat.le_refl _)); clear fg0_25
  have ft22x0_26 := ft22x0_25.below b26 (.inl (Nat.le_refl _)); clear ft22x0_25
  have ft23x2_26 := ft23x2_25.below b26 (.inl (Nat.le_refl _)); clear ft23x2_25
  have ft24x3_26 := ft24x3_25.below b26 (.inl (Nat.le_refl _)); clear ft24x3_25
  have z26 := b26.size
  have B26 := B25.trans (b26.mono B25.size); clear b26 B25
  clear ft22x0_26
  clear ft23x2_26
  clear ft24x3_26
  go_wp2_with fail
  refine (eqIntS_b _ _ _ _ _ _ _ fh0_26.reads fw0_26.reads (by omega)).mono ?_
  rintro e w27 ⟨rfl, b27⟩
  have fw0_27 := fw0_26.below b27 (.inl (Nat.le_refl _)); clear fw0_26
  have fx2_27 := fx2_26.below b27 (.inl (Nat.le_refl _)); clear fx2_26
  have fx3_27 := fx3_26.below b27 (.inl (Nat.le_refl _)); clear fx3_26
  have fg0_27 := fg0_26.below b27 (.inl (Nat.le_refl _)); clear fg0_26
  have fh0_27 := fh0_26.below b27 (.inl (Nat.le_refl _)); clear fh0_26
  have z27 := b27.size
  have B27 := B26.trans (b27.mono B26.size); clear b27 B26
  go_wp2_with fail
  refine (heldIntS_b _ _ _ _ _ fg0_27.reads (by omega) (by omega) (by omega)).mono ?_
  rintro e w28 ⟨rfl, b28⟩
  have fw0_28 := fw0_27.below b28 (.inl (Nat.le_refl _)); clear fw0_27
  have fx2_28 := fx2_27.below b28 (.inl (Nat.le_refl _)); clear fx2_27
  have fx3_28 := fx3_27.below b28 (.inl (Nat.le_refl _)); clear fx3_27
  have fg0_28 := fg0_27.below b28 (.inl (Nat.le_refl _)); clear fg0_27
  have fh0_28 := fh0_27.below b28 (.inl (Nat.le_refl _)); clear fh0_27
  have z28 := b28.size
  have B28 := B27.trans (b28.mono B27.size); clear b28 B27
  go_wp2
  go_ret
  exact ⟨rfl, B28⟩
end Go.Proofs.YtjjphaiomaiilaaGreat.lawCandidatesFor
