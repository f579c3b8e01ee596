/- The contract of the program's CountInputsFor. Texts below 2^21 bytes. -/
import Derived.Test.YtjjphaiomaiilaaGreatQXFi4
import Derived.Test.YtjjphaiomaiilaaGreatQA
namespace Go.Proofs.YtjjphaiomaiilaaGreat
open Go.RowKit
set_option linter.unusedVariables false
set_option linter.unusedSimpArgs false
theorem same_num {ws ns bits : List Int} (hw : ∀ z ∈ ws, 1 ≤ z ∧ z ≤ 10) (hf : fitB ws ns = true) (hb : allB 0 1 bits = true) (hs : bits.length = offs ws ws.length) : sameB (numK ws bits ws.length) ns = sameB bits (bitsK ws ns ws.length) := by
  obtain ⟨h1, h2⟩ := fitB_at hf
  have h := num_bits hw h1 h2 hb hs
  unfold sameB
  exact decide_eq_decide.2 h
def hitB (l : List Ln) (rs bits : List Int) : Bool := sameB (runB l bits) (bitsK (outsL l) rs (outsL l).length)
def cfF (l : List Ln) (rs : List Int) : Option Int :=
  if coB l = true ∧ fitB (outsL l) rs = true ∧ sumI (insL l 0) + sumI (insL l 1) ≤ 10 then some (cntN (fun n => hitB l rs (bitsN n (sumI (insL l 0) + sumI (insL l 1)).toNat)) (2 ^ (sumI (insL l 0) + sumI (insL l 1)).toNat)) else none
set_option maxRecDepth 100000 in
set_option maxHeartbeats 3200000 in
theorem CountInputsFor_any (A B : Option Addr) (n c m d : Nat) (l : List Ln) (rs : List Int) (w : World) (ha : RLn w A n l) (hn : n ≤ 2097152) (hcap : n ≤ c) (hsh : ∀ x ∈ l, shortL x) (hb : RI w B m rs) (hm : m ≤ 2097152) :
    Calls Tryz.prog 36 #[.slice A n c, .slice B m d] w fun e w' => e = .returned (.tuple #[.int .i64 ((cfF l rs).getD 0), .bool (cfF l rs).isSome]) ∧ Below w.heap.size w w' := by
  cases hg : coB l with
  | false =>
    have HR : Hid (cfF l rs = none) := Lib.hid (if_neg (fun h => by rw [hg] at h; cases h.1))
    go_enter Tryz.func36, Tryz.ntmps36
    go_wp2_with fail
    refine (compileValid_no A n c l _ ha hn hcap hsh hg).mono ?_
    rintro e w1 ⟨rfl, hb1⟩
    have hB := hb1.alloc hb1.size (.cells #[.int .i64 0, .int .i64 0, .slice none 0 0, .slice none 0 0, .slice none 0 0, .slice none 0 0] 71)
    clear hg
    go_wp2
    go_ret2
    exact ⟨by rw [HR.out]; rfl, hB⟩
  | true =>
    have H0 := Lib.hid hg
    have hD := Lib.hid (coB_data hg)
    have hgd := (coB_good hg).1
    have hl := ha.len
    subst hl
    have hx0 := hD.out.x
    have hy0 := hD.out.y
    go_enter Tryz.func36, Tryz.ntmps36
    go_wp2_with fail
    refine (compileValid_ok A l.length c l _ ha hn hcap hsh hg).mono ?_
    rintro e w1 hT
    obtain ⟨Ag, cg, Oa, oc, Ea, ec, Wa, wc, bl, rfl, hC, hE, hW, hb1⟩ := hT
    have al1 : Below w1.heap.size w1 (w1.alloc (.cells #[.int .i64 (sumI (insL l 0)), .int .i64 (sumI (insL l 1)), .slice Ag (cc l).g.length cg, .slice Oa (cc l).os.length oc, .slice Wa l.length wc, .slice Ea l.length ec] 71)) := (Below.refl _ _).alloc (Nat.le_refl _) _
    have hx : Bx6 (w1.alloc (.cells #[.int .i64 (sumI (insL l 0)), .int .i64 (sumI (insL l 1)), .slice Ag (cc l).g.length cg, .slice Oa (cc l).os.length oc, .slice Wa l.length wc, .slice Ea l.length ec] 71)) w1.heap.size _ _ _ _ _ _ := Bx6.new w1 (.int .i64 (sumI (insL l 0))) (.int .i64 (sumI (insL l 1))) (.slice Ag (cc l).g.length cg) (.slice Oa (cc l).os.length oc) (.slice Wa l.length wc) (.slice Ea l.length ec) 71
    have hB := hb1.trans (al1.mono hb1.size)
    have hG1 := hC.1.reads.below al1 (Nat.le_refl _)
    have hO1 := hC.2.1.reads.below al1 (Nat.le_refl _)
    clear hg hC hE hW
    have hq := hx; obtain ⟨k0, k1, k2, k3, _, _⟩ := hq
    go_wp2_with fail
    refine (Circuit_inputs_any (sumI (insL l 0)) (sumI (insL l 1)) Ag (cc l).g.length cg Oa (cc l).os.length oc _ hx0 hy0).mono ?_
    rintro e w2 ⟨rfl, hb2⟩
    have hB2 := hB.trans (hb2.mono hB.size)
    clear k0 k1 k2 k3
    by_cases h10 : sumI (insL l 0) + sumI (insL l 1) ≤ 10
    · have hw2 := outsL_bd hgd.2.1
      have hL2 := outs10 hgd
      have ho2 : byO (fun x => decide (x.kind = 6)) l = some (outsL l) := by rw [byO_out, if_pos hgd]
      have hq2 := OutWidths_any A l.length c l w2 (ha.below hB2 (Nat.le_refl _)) hn hcap hsh
      rw [ho2] at hq2
      go_wp2_with fail
      refine (hq2).mono ?_
      rintro e w3 hT
      obtain ⟨A3, c3, rfl, p3, hb3⟩ := RetO.open_some hT rfl
      have hB3 := hB2.trans (hb3.mono hB2.size)
      have rb := hb.below hB3 (Nat.le_refl _)
      clear hT hq2 ho2
      cases hf : fitB (outsL l) rs with
      | false =>
        have HR : Hid (cfF l rs = none) := Lib.hid (if_neg (fun h => by rw [hf] at h; cases h.2.1))
        have HF := Lib.hid hf
        clear hf
        go_wp2_with fail
        refine (fitWidths_any A3 B (outsL l).length c3 m d (outsL l) rs _ p3.reads rb (by omega) hm (fun z hz => hw2 z hz)).mono ?_
        rintro e w4 ⟨rfl, rfl⟩
        rw [HF.out]
        go_wp2
        go_ret2
        exact ⟨by rw [HR.out]; rfl, hB3⟩
      | true =>
        have HF := Lib.hid hf
        have HR : Hid (cfF l rs = some (cntN (fun n => hitB l rs (bitsN n (sumI (insL l 0) + sumI (insL l 1)).toNat)) (2 ^ (sumI (insL l 0) + sumI (insL l 1)).toNat))) := Lib.hid (if_pos ⟨H0.out, hf, h10⟩)
        obtain ⟨X, hX⟩ := Int.eq_ofNat_of_zero_le (show 0 ≤ sumI (insL l 0) + sumI (insL l 1) by omega)
        have hX10 : X ≤ 10 := by omega
        obtain ⟨N, hN⟩ : ∃ N, N = 2 ^ X := ⟨_, rfl⟩
        obtain ⟨hN1, hsh2⟩ := pow_wrap hN hX10
        rw [hX] at HR
        simp only [Int.toNat_natCast] at HR
        rw [← hN] at HR
        have hgat := hD.out.gat X hX.symm
        have hout := hD.out.out X hX.symm
        have hofs := hD.out.offs
        have hng := hD.out.ng
        have hno := hD.out.no
        have hrun := Lib.hid (fun k => runB_bd hD.out (bitsN_bd k X) (by rw [bitsN_len]; exact hX.symm))
        have hrl := Lib.hid (fun k => runB_len l (bitsN k X))
        have hrb := Lib.hid (fun k => show pick (vals (cc l).g (bitsN k X) (cc l).g.length) (cc l).os = runB l (bitsN k X) from rfl)
        have hvl := Lib.hid (fun k => show (vals (cc l).g (bitsN k X) (cc l).g.length).length = X + (cc l).g.length by rw [vals_len, bitsN_len])
        have hhit := Lib.hid (fun k => show sameB (numK (outsL l) (runB l (bitsN k X)) (outsL l).length) rs = hitB l rs (bitsN k X) from same_num hw2 hf (runB_bd hD.out (bitsN_bd k X) (by rw [bitsN_len]; exact hX.symm)) (by rw [runB_len]; exact hofs.symm))
        have hcn := Lib.hid (fun k => show cntN (fun n => hitB l rs (bitsN n X)) (k + 1) = cntN (fun n => hitB l rs (bitsN n X)) k + if hitB l rs (bitsN k X) = true then 1 else 0 from rfl)
        have hcb := Lib.hid (fun k => cntN_bd (fun n => hitB l rs (bitsN n X)) k)
        have hc0 : Hid (cntN (fun n => hitB l rs (bitsN n X)) 0 = 0) := Lib.hid rfl
        clear hf hN
        go_wp2_with fail
        refine (fitWidths_any A3 B (outsL l).length c3 m d (outsL l) rs _ p3.reads rb (by omega) hm (fun z hz => hw2 z hz)).mono ?_
        rintro e w4 ⟨rfl, rfl⟩
        rw [HF.out]
        have hbx := hb2.trans (hb3.mono hb2.size)
        have hx3 := hx.below hbx
        have g3 := hG1.below hbx (Nat.le_refl _)
        have o3 := hO1.below hbx (Nat.le_refl _)
        have r3 := p3.reads
        have hlt1 : w1.heap.size < w3.heap.size := by have := hbx.size; simp at this; omega
        clear hbx hb2 hb3 hb1 hB hB2 hx hG1 hO1 al1 p3 ha hsh hb hD
        obtain ⟨x, hxx⟩ : ∃ x, Hid (sumI (insL l 0) = x) := ⟨_, Lib.hid rfl⟩
        obtain ⟨y, hyy⟩ : ∃ y, Hid (sumI (insL l 1) = y) := ⟨_, Lib.hid rfl⟩
        rw [hxx.out] at hX hx3 hx0 h10 ⊢
        rw [hyy.out] at hX hx3 hy0 h10 ⊢
        obtain ⟨ng, hngl⟩ : ∃ ng, Hid ((cc l).g.length = ng) := ⟨_, Lib.hid rfl⟩
        obtain ⟨no, hnol⟩ : ∃ no, Hid ((cc l).os.length = no) := ⟨_, Lib.hid rfl⟩
        rw [hngl.out] at hx3 g3 hgat hout hng hvl hrb ⊢
        rw [hnol.out] at hx3 o3 hofs hno hrl ⊢
        obtain ⟨K, hK⟩ : ∃ K, Hid ((outsL l).length = K) := ⟨_, Lib.hid rfl⟩
        rw [hK.out] at hL2 hofs hhit r3 ⊢
        generalize hWS : cntN (fun n => hitB l rs (bitsN n X)) = S at *
        clear hWS
        obtain ⟨k0, k1, k2, k3, _, _⟩ := hx3
        have hq := And.intro k0 (And.intro k1 (And.intro k2 k3))
        go_wp2_with fail
        refine (Circuit_inputs_any x y Ag ng cg Oa no oc _ hx0 hy0).mono ?_
        rintro e w5 ⟨rfl, hb5⟩
        rw [hX]
        obtain ⟨k0, k1, k2, k3⟩ := hq
        have k0 := cell_bel k0 hb5
        have k1 := cell_bel k1 hb5
        have k2 := cell_bel k2 hb5
        have k3 := cell_bel k3 hb5
        have g5 := g3.below hb5 (Nat.le_refl _)
        have o5 := o3.below hb5 (Nat.le_refl _)
        have r5 := r3.below hb5 (Nat.le_refl _)
        have rb5 := rb.below hb5 (Nat.le_refl _)
        have hB5 := hB3.trans (hb5.mono hB3.size)
        have hlt5 := Nat.lt_of_lt_of_le hlt1 hb5.size
        have hXh := Lib.hid hX
        clear hb5 g3 o3 r3 rb hB3 hlt1 hX
        go_wp2_with fail
        rw [hsh2]
        go_loopw [10, 40] (fun v i wr => ∃ k : Nat, k ≤ N ∧ i = .int .i64 k ∧ v = .int .i64 (S k) ∧ Below w5.heap.size w5 wr) (fun _ i _ => N - (intOf i).toNat)
        case atStart => exact ⟨0, Nat.zero_le _, rfl, by rw [hc0.out], Below.refl _ _⟩
        case round =>
          obtain ⟨k, hk, rfl, rfl, hbw⟩ := hrel
          have q0 := cell_bel k0 hbw
          have q1 := cell_bel k1 hbw
          have q2 := cell_bel k2 hbw
          have q3 := cell_bel k3 hbw
          by_cases hlt : k < N
          · have gw := g5.below hbw (Nat.le_refl _)
            have ow := o5.below hbw (Nat.le_refl _)
            have rw5 := r5.below hbw (Nat.le_refl _)
            have rbw := rb5.below hbw (Nat.le_refl _)
            have hrk := hrun.out k
            have hrlk := hrl.out k
            have hrbk := Lib.hid (hrb.out k)
            have hvk := hvl.out k
            have hhk := Lib.hid (hhit.out k)
            have hck := hcn.out k
            have hbk := hcb.out k
            have hbk1 := hcb.out (k + 1)
            have hz := hbw.size
            obtain ⟨O, hO⟩ : ∃ O, Hid (runB l (bitsN k X) = O) := ⟨_, Lib.hid rfl⟩
            rw [hO.out] at hrk hrlk hrbk hhk
            obtain ⟨b, hb⟩ : ∃ b, Hid (hitB l rs (bitsN k X) = b) := ⟨_, Lib.hid rfl⟩
            rw [hb.out] at hhk hck
            go_wp2_with fail
            go_region_held3 (fun w' => w'.cell? ⟨w1.heap.size, 0, none⟩ = some (.int .i64 x) ∧ w'.cell? ⟨w1.heap.size, 1, none⟩ = some (.int .i64 y) ∧ w'.cell? ⟨w1.heap.size, 2, none⟩ = some (.slice Ag ng cg) ∧ w'.cell? ⟨w1.heap.size, 3, none⟩ = some (.slice Oa no oc))
              (first | go_keep | (go_split_ands; exact ⟨cell_below (by assumption) i8, cell_below (by assumption) i8, cell_below (by assumption) i8, cell_below (by assumption) i8⟩) | (go_split_ands; exact ⟨cell_below (by assumption) i7, cell_below (by assumption) i7, cell_below (by assumption) i7, cell_below (by assumption) i7⟩) | (go_split_ands; exact ⟨cell_below (by assumption) i6, cell_below (by assumption) i6, cell_below (by assumption) i6, cell_below (by assumption) i6⟩) | ((try dsimp only); (repeat' apply And.intro) <;> go_keep))
              (first | (go_at_call 79; refine (Circuit_inputs_any x y Ag ng cg Oa no oc _ hx0 hy0).mono ?_; rintro e w6 ⟨rfl, i6⟩; rw [hXh.out]) | (go_at_call 81; refine (bitsOf_any k X _ (by omega) (by omega)).mono ?_; rintro e w7 hT7; obtain ⟨A7, c7, rfl, p7, i7⟩ := RetI.open_ hT7 (bitsN_len _ _)) | (go_at_call 80; refine (Circuit_values_any x y Ag ng cg Oa no oc A7 X c7 (cc l).g (bitsN k X) _ (((show RG (wr.drewN 1) Ag ng (cc l).g from gw).below i6 (Nat.le_refl _)).below i7 (Nat.le_refl _)) p7.reads (bitsN_bd _ _) hgat hng (by omega)).mono ?_; rintro e w8 hT8; obtain ⟨A8, c8, rfl, p8, i8⟩ := RetI.open_ hT8 hvk))
            have j8 : Below wr.heap.size wr w8 := bnext (bnext (bnext (below_of_drewN 1) i6) i7) i8
            have q3 := cell_bel q3 j8
            have o8 := ow.below j8 (Nat.le_refl _)
            have r8 := rw5.below j8 (Nat.le_refl _)
            have rb8 := rbw.below j8 (Nat.le_refl _)
            have hB8 := hbw.trans (j8.mono hz)
            clear i6 i7 i8 j8 q0 q1 q2 gw ow rw5 rbw p7
            go_wp2_with fail
            refine (at_any A8 Oa (X + ng) c8 no oc (vals (cc l).g (bitsN k X) ng) (cc l).os _ p8.reads o8 (by omega) (by omega) hout).mono ?_
            rintro e w10 hT
            rw [hrbk.out] at hT
            obtain ⟨A10, c10, rfl, p10, i10⟩ := RetI.open_ hT hrlk
            have hcap10 := p10.cap
            go_wp2_with fail
            refine (numbersOf_any A3 A10 K c3 no c10 (outsL l) O _ (r8.below i10 (Nat.le_refl _)) p10.reads (by omega) (by omega) hcap10 hw2 hrk hofs).mono ?_
            rintro e w11 hT2
            obtain ⟨A11, c11, rfl, p11, i11⟩ := RetI.open_ hT2 (numK_len _ _ _)
            have hB10 := hB8.trans (i10.mono hB8.size)
            have hB11 := hB10.trans (i11.mono hB10.size)
            have rb11 := (rb8.below i10 (Nat.le_refl _)).below i11 (Nat.le_refl _)
            clear hT hT2 hB8 hB10 i10 hcap10 q3 o8 r8 rb8
            go_wp2_with fail
            refine (Equal_any A11 B K c11 m d (numK (outsL l) O K) rs _ p11.reads rb11 (by omega) hm).mono ?_
            rintro e w12 ⟨rfl, jj, rfl⟩
            rw [hhk.out]
            have hB12 := below_drewN hB11 jj
            clear hB11 rb11 p11 i11 p10 p8 hbw
            cases b with
            | true =>
              have hck2 : Hid (S (k + 1) = S k + 1) := Lib.hid (by rw [hck, if_pos rfl])
              clear hck
              obtain ⟨z, hz1⟩ : ∃ z, Hid (S k = z) := ⟨_, Lib.hid rfl⟩
              rw [hz1.out] at hck2 hbk ⊢
              go_wp2
              go_roundw
              case rel => exact ⟨k + 1, by omega, by go_num, by rw [hck2.out], hB12⟩
              case measure => simp [intOf]; omega
            | false =>
              have hck2 : Hid (S (k + 1) = S k) := Lib.hid (by rw [hck, if_neg (by decide), Int.add_zero])
              clear hck
              obtain ⟨z, hz1⟩ : ∃ z, Hid (S k = z) := ⟨_, Lib.hid rfl⟩
              rw [hz1.out] at hck2 hbk ⊢
              go_wp2
              go_roundw
              case rel => exact ⟨k + 1, by omega, by go_num, by rw [hck2.out], hB12⟩
              case measure => simp [intOf]; omega
          · obtain rfl : N = k := by omega
            go_wp2
            go_ret2
            exact ⟨by rw [HR.out]; rfl, hB5.trans (hbw.mono hB5.size)⟩
    · have HR : Hid (cfF l rs = none) := Lib.hid (if_neg (fun h => h10 h.2.2))
      go_wp2
      go_ret2
      exact ⟨by rw [HR.out]; rfl, hB2⟩
end Go.Proofs.YtjjphaiomaiilaaGreat
