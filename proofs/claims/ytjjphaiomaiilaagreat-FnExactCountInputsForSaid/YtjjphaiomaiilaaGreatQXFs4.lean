/- The contract of the reference's CountInputsFor. Texts below 2^21 bytes. -/
import Derived.Test.YtjjphaiomaiilaaGreatQXFs3
import Derived.Test.YtjjphaiomaiilaaGreatQXFi5
namespace Go.Proofs.YtjjphaiomaiilaaGreat
open Go.RowKit
set_option linter.unusedVariables false
set_option linter.unusedSimpArgs false
set_option maxRecDepth 100000 in
set_option maxHeartbeats 3200000 in
theorem spec_CountInputsFor_any (A B : Option Addr) (n c m d : Nat) (l : List Ln) (rs : List Int) (w : World) (ha : RLn w A n l) (hn : n ≤ 2097152) (hcap : n ≤ c) (hsh : ∀ x ∈ l, shortL x) (hb : RI w B m rs) (hm : m ≤ 2097152) :
    Calls Tryz.prog 35 #[.slice A n c, .slice B m d] w fun e w' => e = .returned (.tuple #[.int .i64 ((cfF l rs).getD 0), .bool (cfF l rs).isSome]) ∧ Below w.heap.size w w' := by
  cases hg : coB l with
  | false =>
    have HR : Hid (cfF l rs = none) := Lib.hid (if_neg (fun h => by rw [hg] at h; cases h.1))
    have H0 := Lib.hid hg
    clear hg
    go_enter Tryz.func35, Tryz.ntmps35
    go_wp2_with fail
    refine (coGood_any A n c l _ ha hn hcap hsh).mono ?_
    rintro e w1 ⟨rfl, hb1⟩
    rw [H0.out]
    go_wp2
    go_ret2
    exact ⟨by rw [HR.out]; rfl, hb1⟩
  | true =>
    have H0 := Lib.hid hg
    have hD := Lib.hid (coB_data hg)
    have hgd := (coB_good hg).1
    have hl := ha.len
    subst hl
    have hx0 := hD.out.x
    have hy0 := hD.out.y
    have hw2 := outsL_bd hgd.2.1
    have hL2 := outs10 hgd
    clear hg
    go_enter Tryz.func35, Tryz.ntmps35
    go_wp2_with fail
    refine (coGood_any A l.length c l _ ha hn hcap hsh).mono ?_
    rintro e w1 ⟨rfl, hb1⟩
    rw [H0.out]
    go_wp2_with fail
    refine (laOuts_any A l.length c l _ (ha.below hb1 (Nat.le_refl _)) hn hcap hsh).mono ?_
    rintro e w2 hT
    obtain ⟨A2, c2, rfl, p2, hb2⟩ := hT
    have hB2 := hb1.trans (hb2.mono hb1.size)
    cases hf : fitB (outsL l) rs with
    | false =>
      have HR : Hid (cfF l rs = none) := Lib.hid (if_neg (fun h => by rw [hf] at h; cases h.2.1))
      have HF := Lib.hid hf
      clear hf
      go_wp2_with fail
      refine (laFit_any A2 B (outsL l).length c2 m d (outsL l) rs _ p2.reads (hb.below hB2 (Nat.le_refl _)) (by omega) hm (fun z hz => hw2 z hz)).mono ?_
      rintro e w4 ⟨rfl, rfl⟩
      rw [HF.out]
      go_wp2
      go_ret2
      exact ⟨by rw [HR.out]; rfl, hB2⟩
    | true =>
      have HF := Lib.hid hf
      obtain ⟨e0, f0⟩ := fit_1023 hf hw2
      obtain rfl : m = (outsL l).length := by rw [e0, hb.len]
      clear e0
      go_wp2_with fail
      refine (laFit_any A2 B (outsL l).length c2 (outsL l).length d (outsL l) rs _ p2.reads (hb.below hB2 (Nat.le_refl _)) (by omega) hm (fun z hz => hw2 z hz)).mono ?_
      rintro e w4 ⟨rfl, rfl⟩
      rw [HF.out]
      go_wp2_with fail
      refine (coCircuit_any A l.length c l _ (ha.below hB2 (Nat.le_refl _)) hcap hsh hgd).mono ?_
      rintro e w3 ⟨Ag, cg, Oa, oc, rfl, hC, hb3⟩
      have hB3 := hB2.trans (hb3.mono hB2.size)
      have al3 : Below w3.heap.size w3 (w3.alloc (.cells #[.int .i64 (sumI (insL l 0)), .int .i64 (sumI (insL l 1)), .slice Ag (cc l).g.length cg, .slice Oa (cc l).os.length oc] 46)) := (Below.refl _ _).alloc (Nat.le_refl _) _
      have hB4 := hB3.trans (al3.mono hB3.size)
      have hx : BxC (w3.alloc (.cells #[.int .i64 (sumI (insL l 0)), .int .i64 (sumI (insL l 1)), .slice Ag (cc l).g.length cg, .slice Oa (cc l).os.length oc] 46)) w3.heap.size (sumI (insL l 0)) (sumI (insL l 1)) Ag (cc l).g.length cg Oa (cc l).os.length oc := BxC.new _ _
      have g4 := hC.reads.1.below al3 (Nat.le_refl _)
      have o4 := hC.reads.2.below al3 (Nat.le_refl _)
      clear hC hb1 hb2 hb3 hB2 hB3 al3 p2
      go_wp2_with fail
      refine (ciInputs_any (sumI (insL l 0)) (sumI (insL l 1)) Ag (cc l).g.length cg Oa (cc l).os.length oc _ hx0 hy0).mono ?_
      rintro e w5 ⟨rfl, hb5⟩
      have hB5 := hB4.trans (hb5.mono hB4.size)
      by_cases h10 : sumI (insL l 0) + sumI (insL l 1) ≤ 10
      · have HR : Hid (cfF l rs = some (cntN (fun n => hitB l rs (bitsN n (sumI (insL l 0) + sumI (insL l 1)).toNat)) (2 ^ (sumI (insL l 0) + sumI (insL l 1)).toNat))) := Lib.hid (if_pos ⟨H0.out, hf, h10⟩)
        obtain ⟨X, hX⟩ := Int.eq_ofNat_of_zero_le (show 0 ≤ sumI (insL l 0) + sumI (insL l 1) by omega)
        have hX10 : X ≤ 10 := by omega
        obtain ⟨N, hN⟩ : ∃ N, N = 2 ^ X := ⟨_, rfl⟩
        obtain ⟨hN1, hsh2⟩ := pow_wrap hN hX10
        rw [hX] at HR
        simp only [Int.toNat_natCast] at HR
        rw [← hN] at HR
        have hgat := hD.out.gat X hX.symm
        have hout := hD.out.out X hX.symm
        have hng := hD.out.ng
        have hno := hD.out.no
        have hofs := hD.out.offs
        have hrl := Lib.hid (fun k => runB_len l (bitsN k X))
        have hrb := Lib.hid (fun k => show pick (vals (cc l).g (bitsN k X) (cc l).g.length) (cc l).os = runB l (bitsN k X) from rfl)
        have hhit := Lib.hid (fun k => show sameB (runB l (bitsN k X)) (bitsK (outsL l) rs (outsL l).length) = hitB l rs (bitsN k X) from rfl)
        have hcn := Lib.hid (fun k => show cntN (fun n => hitB l rs (bitsN n X)) (k + 1) = cntN (fun n => hitB l rs (bitsN n X)) k + if hitB l rs (bitsN k X) = true then 1 else 0 from rfl)
        have hcb := Lib.hid (fun k => cntN_bd (fun n => hitB l rs (bitsN n X)) k)
        have hc0 : Hid (cntN (fun n => hitB l rs (bitsN n X)) 0 = 0) := Lib.hid rfl
        have hbl := bitsK_len hw2 rs (outsL l).length (Nat.le_refl _)
        rw [hofs] at hbl
        clear hf hN hofs
        go_wp2_with fail
        refine (laOuts_any A l.length c l _ (ha.below hB5 (Nat.le_refl _)) hn hcap hsh).mono ?_
        rintro e w6 hT
        obtain ⟨A6, c6, rfl, p6, hb6⟩ := hT
        have hB6 := hB5.trans (hb6.mono hB5.size)
        go_wp2_with fail
        refine (coBits_any A6 B (outsL l).length c6 (outsL l).length d (outsL l) rs _ p6.reads (hb.below hB6 (Nat.le_refl _)) (by omega) hw2 f0).mono ?_
        rintro e w7 hT
        obtain ⟨KB, hKB⟩ : ∃ KB, Hid (bitsK (outsL l) rs (outsL l).length = KB) := ⟨_, Lib.hid rfl⟩
        rw [hKB.out] at hT hbl hhit
        obtain ⟨A7, c7, rfl, p7, hb7⟩ := RetI.open_ hT hbl
        have hB7 := hB6.trans (hb7.mono hB6.size)
        have h57 := (hb5.trans (hb6.mono hb5.size)).trans (hb7.mono (hb5.trans (hb6.mono hb5.size)).size)
        have hx7 := hx.below h57
        have g7 := g4.below h57 (Nat.le_refl _)
        have o7 := o4.below h57 (Nat.le_refl _)
        have r7 := p7.reads
        clear hT hb5 hb6 hb7 h57 hx g4 o4 p6 p7 hB4 hB5 hB6 ha hsh hb hD f0
        obtain ⟨x, hxx⟩ : ∃ x, Hid (sumI (insL l 0) = x) := ⟨_, Lib.hid rfl⟩
        obtain ⟨y, hyy⟩ : ∃ y, Hid (sumI (insL l 1) = y) := ⟨_, Lib.hid rfl⟩
        rw [hxx.out] at hX hx7 hx0 h10 ⊢
        rw [hyy.out] at hX hx7 hy0 h10 ⊢
        obtain ⟨ng, hngl⟩ : ∃ ng, Hid ((cc l).g.length = ng) := ⟨_, Lib.hid rfl⟩
        obtain ⟨no, hnol⟩ : ∃ no, Hid ((cc l).os.length = no) := ⟨_, Lib.hid rfl⟩
        rw [hngl.out] at hx7 g7 hgat hout hng hrb ⊢
        rw [hnol.out] at hx7 o7 hno hrl hbl r7 ⊢
        generalize hWS : cntN (fun n => hitB l rs (bitsN n X)) = S at *
        clear hWS
        obtain ⟨k0, k1, k2, k3⟩ := hx7
        have hXh := Lib.hid hX
        clear hX
        go_wp2
        go_loopw [8, 9] (fun v i wr => ∃ k : Nat, k ≤ N ∧ i = .int .i64 k ∧ v = .int .i64 (S k) ∧ Below w7.heap.size w7 wr) (fun _ i _ => N - (intOf i).toNat)
        case atStart => exact ⟨0, Nat.zero_le _, rfl, by rw [hc0.out], Below.refl _ _⟩
        case round =>
          obtain ⟨k, hk, rfl, rfl, hbw⟩ := hrel
          have q0 := cell_bel k0 hbw
          have q1 := cell_bel k1 hbw
          have q2 := cell_bel k2 hbw
          have q3 := cell_bel k3 hbw
          go_wp2_with fail
          refine (ciInputs_any x y Ag ng cg Oa no oc _ hx0 hy0).mono ?_
          rintro e w8 ⟨rfl, hb8⟩
          rw [hXh.out]
          have hbw8 := hbw.trans (hb8.mono hbw.size)
          clear q0 q1 q2 q3 hbw hb8
          have q0 := cell_bel k0 hbw8
          have q1 := cell_bel k1 hbw8
          have q2 := cell_bel k2 hbw8
          have q3 := cell_bel k3 hbw8
          by_cases hlt : k < N
          · have hlt' : (k : Int) < wrap64 (2 ^ X) := by rw [hsh2]; omega
            have gw := g7.below hbw8 (Nat.le_refl _)
            have ow := o7.below hbw8 (Nat.le_refl _)
            have rw7 := r7.below hbw8 (Nat.le_refl _)
            have hrlk := hrl.out k
            have hrbk := Lib.hid (hrb.out k)
            have hhk := Lib.hid (hhit.out k)
            have hck := hcn.out k
            have hbk := hcb.out k
            have hbk1 := hcb.out (k + 1)
            have hz := hbw8.size
            obtain ⟨O, hO⟩ : ∃ O, Hid (runB l (bitsN k X) = O) := ⟨_, Lib.hid rfl⟩
            rw [hO.out] at hrlk hrbk hhk
            obtain ⟨b, hb⟩ : ∃ b, Hid (hitB l rs (bitsN k X) = b) := ⟨_, Lib.hid rfl⟩
            rw [hb.out] at hhk hck
            go_wp2_with fail
            go_region_held3 (fun w' => w'.cell? ⟨w3.heap.size, 0, none⟩ = some (.int .i64 x) ∧ w'.cell? ⟨w3.heap.size, 1, none⟩ = some (.int .i64 y) ∧ w'.cell? ⟨w3.heap.size, 2, none⟩ = some (.slice Ag ng cg) ∧ w'.cell? ⟨w3.heap.size, 3, none⟩ = some (.slice Oa no oc))
              (first | go_keep | (go_split_ands; exact ⟨cell_below (by assumption) i10, cell_below (by assumption) i10, cell_below (by assumption) i10, cell_below (by assumption) i10⟩) | (go_split_ands; exact ⟨cell_below (by assumption) i9, cell_below (by assumption) i9, cell_below (by assumption) i9, cell_below (by assumption) i9⟩) | (go_split_ands; exact ⟨cell_below (by assumption) i6, cell_below (by assumption) i6, cell_below (by assumption) i6, cell_below (by assumption) i6⟩) | ((try dsimp only); (repeat' apply And.intro) <;> go_keep))
              (first | (go_at_call 75; refine (ciInputs_any x y Ag ng cg Oa no oc _ hx0 hy0).mono ?_; rintro e w9 ⟨rfl, i6⟩; rw [hXh.out]) | (go_at_call 78; refine (btOf_any k X _ (by omega) (by omega)).mono ?_; rintro e w10 hT7; obtain ⟨A9, c9, rfl, p9, i9⟩ := RetI.open_ hT7 (bitsN_len _ _)) | (go_at_call 77; refine (ciOuts_any x y Ag ng cg Oa no oc A9 X c9 (cc l).g (cc l).os (bitsN k X) _ ⟨((show RG (w8.drewN 1) Ag ng (cc l).g from gw).below i6 (Nat.le_refl _)).below i9 (Nat.le_refl _), ((ow.drewN 1).below i6 (Nat.le_refl _)).below i9 (Nat.le_refl _)⟩ p9.reads (bitsN_bd _ _) hgat hout hng hno (by omega)).mono ?_; rintro e w11 hT8; rw [hrbk.out] at hT8; obtain ⟨A10, c10, rfl, p10, i10⟩ := RetI.open_ hT8 hrlk) | (go_at_call 76; refine (l1Same_any A10 A7 no c10 no c7 O KB _ p10.reads ((((rw7.drewN 1).below i6 (Nat.le_refl _)).below i9 (Nat.le_refl _)).below i10 (Nat.le_refl _)) (by omega) (by omega)).mono ?_; rintro e w12 ⟨he, jj, rfl⟩; rw [hhk.out] at he; obtain rfl := he))
            have j11 : Below w8.heap.size w8 w11 := bnext (bnext (bnext (below_of_drewN 1) i6) i9) i10
            have hB12 := below_drewN (hbw8.trans (j11.mono hz)) jj
            clear i6 i9 i10 j11 q0 q1 q2 q3 gw ow rw7 p9 p10 hbw8
            cases b with
            | true =>
              have hck2 : Hid (S (k + 1) = S k + 1) := Lib.hid (by rw [hck, if_pos rfl])
              clear hck
              obtain ⟨z, hz1⟩ : ∃ z, Hid (S k = z) := ⟨_, Lib.hid rfl⟩
              rw [hz1.out] at hck2 hbk ⊢
              go_wp2
              go_roundw
              case rel => exact ⟨k + 1, by omega, by go_num, by rw [hck2.out], hB12⟩
              case measure => simp [intOf]; omega
            | false =>
              have hck2 : Hid (S (k + 1) = S k) := Lib.hid (by rw [hck, if_neg (by decide), Int.add_zero])
              clear hck
              obtain ⟨z, hz1⟩ : ∃ z, Hid (S k = z) := ⟨_, Lib.hid rfl⟩
              rw [hz1.out] at hck2 hbk ⊢
              go_wp2
              go_roundw
              case rel => exact ⟨k + 1, by omega, by go_num, by rw [hck2.out], hB12⟩
              case measure => simp [intOf]; omega
          · have hlt' : ¬ (k : Int) < wrap64 (2 ^ X) := by rw [hsh2]; omega
            obtain hkN : N = k := by omega
            rw [hkN] at HR
            go_wp2
            go_ret2
            exact ⟨by rw [HR.out]; rfl, hB7.trans (hbw8.mono hB7.size)⟩
      · have HR : Hid (cfF l rs = none) := Lib.hid (if_neg (fun h => h10 h.2.2))
        go_wp2
        go_ret2
        exact ⟨by rw [HR.out]; rfl, hB5⟩
end Go.Proofs.YtjjphaiomaiilaaGreat
