/- The contract of the program's values of lines. Texts below 2^21 bytes. -/
import Derived.Test.YtenknpcbbcbciaaGreatQR43
namespace Go.Proofs.YtenknpcbbcbciaaGreat
open Go.RowKit
set_option linter.unusedVariables false
set_option linter.unusedSimpArgs false
attribute [local go_sem] sepAt sepUpon pureAt pureUpon
set_option maxRecDepth 100000 in
set_option maxHeartbeats 8000000 in
theorem valuesIn_any (A B C : Option Addr) (n c m d r q0 : Nat) (l : List Ln) (xs ys : List Int) (w : World) (ha : RLn w A n l) (hcap : n ≤ c) (hsh : ∀ x ∈ l, shortL x) (hg : goodP l) (hb : RI w B m xs) (hc : RI w C r ys) (f0 : fitB (insL l 0) xs = true) (f1 : fitB (insL l 1) ys = true) :
 Calls Tryz.prog 116 #[.slice A n c, .slice B m d, .slice C r q0] w (RetI w (valK l xs ys n)) := by
 have hl := ha.len
 have hn : n ≤ 30 := by have := hg.1; omega
 have hfind : Hid (∀ nm, iFind l nm = sFind l nm) := zH (fun nm => (find_same (allW_ok hg.2.1) nm).symm)
 have hxl := fitB_lenV f0
 have hyl := fitB_lenV f1
 have hbl := hb.len
 have hcl := hc.len
 have hvlen := valK_len l xs ys
 have hbdA := zH (fun k (hk : k ≤ l.length) j (hj : j < k) => valK_1023 hg f0 f1 hk hj)
 have hbdB := zH (fun k (hk : k ≤ l.length) j (hj : j < k) => valK_bd hg f0 f1 hk hj)
 have hfit := zH (fun k (hk : k < l.length) => line_fit hg.2.1 hk)
 go_enter Tryz.func116, Tryz.ntmps116
 go_wp2_with fail
 refine (widths_any A n c l _ ha (by omega) hcap hsh).mono ?_
 rintro e w1 ⟨WA, wn, wc, rfl, hW, b1⟩
 obtain ⟨hk, hoW⟩ := hW hg
 rw [decide_eq_true hg]
 rw [hl] at hk
 subst hk
 have hWr := hoW.reads
 have ha1 := ha.below b1 lR
 have hb1' := hb.below b1 lR
 have hc1' := hc.below b1 lR
 have hT0 : Two ((w1.alloc (.cells #[] 3)).alloc (.cells #[.int .i64 0, .int .i64 0] 121)) (w1.heap.size + 1) 0 0 := by
  have hs1 : (w1.alloc (.cells #[] 3)).heap.size = w1.heap.size + 1 := by simp
  rw [← hs1]
  exact ⟨Zae _ _ 0 _ rfl, Zae _ _ 1 _ rfl, Fz.new _ _ _, by simp⟩
 have hO0 := (Zbo w1 w1.heap.size lR).alloc (.cells #[.int .i64 0, .int .i64 0] 121)
 have hB0 : Below w1.heap.size w1 ((w1.alloc (.cells #[] 3)).alloc (.cells #[.int .i64 0, .int .i64 0] 121)) := (bA).alloc (by simp) _
 clear hoW hW ha hb hc f0 f1
 go_wp2_with fail
 generalize (w1.alloc (.cells #[] 3)).alloc (.cells #[.int .i64 0, .int .i64 0] 121) = w2 at *
 go_loopw [9, 29] (fun r i wr => ∃ (k : Nat) (O : Option Addr) (oc t0 t1 : Nat), k ≤ wn ∧ i = .int .i64 k ∧ r = .slice O k oc ∧ Own wr w1.heap.size wr.heap.size (.slice O k oc) k (valK l xs ys k) ∧ Two wr (w1.heap.size + 1) t0 t1 ∧ Hid ((Value.slice O k oc).ownBlock ≠ some (w1.heap.size + 1)) ∧ Hid (t0 = cntI l 0 k) ∧ Hid (t1 = cntI l 1 k) ∧ Below w1.heap.size w1 wr) (fun _ i _ => wn - (intOf i).toNat)
 case atStart => exact ⟨0, _, _, 0, 0, Nat.zero_le _, rfl, rfl, hO0.now, hT0, zH (by simp [Value.ownBlock]), zH rfl, zH rfl, hB0⟩
 case round =>
  obtain ⟨k, O, oc, t0, t1, hk, rfl, rfl, hO, hT, hOT, ht0, ht1, hbw⟩ := hrel
  clear hT0 hO0 hB0
  have hzw := hbw.size
  by_cases hlt : k < wn
  ·have hvl := hvlen k
   have hbd1 := zH (fun j (hj : j < k) => hbdA.out k (by omega) j hj)
   have hbd2 := zH (fun j (hj : j < k) => hbdB.out k (by omega) j hj)
   obtain ⟨hfd, hf⟩ := hfit.out k (by omega)
   have hs0 := cntI_succ (l := l) 0 (show k < l.length by omega)
   have hs1 := cntI_succ (l := l) 1 (show k < l.length by omega)
   have hc0 := cntI_lt (l := l) (p := 0) (show k < l.length by omega)
   have hc1 := cntI_lt (l := l) (p := 1) (show k < l.length by omega)
   have hle0 := cntI_le l 0 k
   have hle1 := cntI_le l 1 k
   have hvs : Hid (valK l xs ys (k + 1) = valK l xs ys k ++ [stepV l xs ys k (valK l xs ys k)]) := zH rfl
   have hv1 := fun h => stepV_1 (l := l) (xs := xs) (ys := ys) (k := k) (vs := valK l xs ys k) h
   have hvo := fun h => stepV_o (l := l) (xs := xs) (ys := ys) (k := k) (vs := valK l xs ys k) h
   rw [← ht0.out] at hs0 hc0 hle0 hv1
   rw [← ht1.out] at hs1 hc1 hle1 hv1
   clear ht0 ht1
   obtain ⟨V, hV⟩ := lT (stepV l xs ys k (valK l xs ys k))
   rw [hV.out] at hvs hv1 hvo
   obtain ⟨vs, hvs2⟩ := lT (valK l xs ys k)
   rw [hvs2.out] at hO hbd1 hbd2 hvs hvo hvl
   have hrl := ha1.below hbw lR
   obtain ⟨pb, po, P, q, hA, hpbB, hat, hxr⟩ := hrl.at_ hlt
   obtain ⟨X, hX⟩ := lT (lx l k)
   rw [hX.out] at hat hxr hfd hf hs0 hs1 hc0 hc1 hv1 hvo
   have hpl3 : X.parts.length ≤ 3 := by unfold LFit at hf; omega
   have al : Below wr.heap.size wr (wr.alloc (.cells #[.int .i64 X.kind, .string (bs X.name), .string (bs X.op), .slice P X.parts.length q, .int .i64 X.party, .int .i64 X.width, .int .i64 X.value] 89)) := bA
   have al3 : Below wr.heap.size wr (((wr.alloc (.cells #[.int .i64 X.kind, .string (bs X.name), .string (bs X.op), .slice P X.parts.length q, .int .i64 X.party, .int .i64 X.width, .int .i64 X.value] 89)).alloc (.cells #[] 3)).alloc (.cells #[] 3)) := (al.alloc (by simp) _).alloc (by simp; omega) _
   have hone : LnAt (((wr.alloc (.cells #[.int .i64 X.kind, .string (bs X.name), .string (bs X.op), .slice P X.parts.length q, .int .i64 X.party, .int .i64 X.width, .int .i64 X.value] 89)).alloc (.cells #[] 3)).alloc (.cells #[] 3)) wr.heap.size 0 X P q := (LnAt.new wr X P q 89).below (B := wr.heap.size + 1) (((Below.refl _ _).alloc (by simp) _).alloc (by simp) _) (by omega)
   have hszb : (((wr.alloc (.cells #[.int .i64 X.kind, .string (bs X.name), .string (bs X.op), .slice P X.parts.length q, .int .i64 X.party, .int .i64 X.width, .int .i64 X.value] 89)).alloc (.cells #[] 3)).alloc (.cells #[] 3)).heap.size = wr.heap.size + 3 := by simp
   have hs1' : (wr.alloc (.cells #[.int .i64 X.kind, .string (bs X.name), .string (bs X.op), .slice P X.parts.length q, .int .i64 X.party, .int .i64 X.width, .int .i64 X.value] 89)).heap.size = wr.heap.size + 1 := by simp
   have hs2' : ((wr.alloc (.cells #[.int .i64 X.kind, .string (bs X.name), .string (bs X.op), .slice P X.parts.length q, .int .i64 X.party, .int .i64 X.width, .int .i64 X.value] 89)).alloc (.cells #[] 3)).heap.size = wr.heap.size + 1 + 1 := by simp
   have hP0 : Own (((wr.alloc (.cells #[.int .i64 X.kind, .string (bs X.name), .string (bs X.op), .slice P X.parts.length q, .int .i64 X.party, .int .i64 X.width, .int .i64 X.value] 89)).alloc (.cells #[] 3)).alloc (.cells #[] 3)) (wr.heap.size + 1) (wr.heap.size + 3) (.slice (some ⟨wr.heap.size + 1, 0, none⟩) 0 0) 0 [] := by
    have h := (Zbo (wr.alloc (.cells #[.int .i64 X.kind, .string (bs X.name), .string (bs X.op), .slice P X.parts.length q, .int .i64 X.party, .int .i64 X.width, .int .i64 X.value] 89)) (wr.heap.size + 1) (by omega)).alloc (.cells #[] 3)
    rw [hs1'] at h
    exact h.now.hi_ (by omega)
   have hV0 : Own (((wr.alloc (.cells #[.int .i64 X.kind, .string (bs X.name), .string (bs X.op), .slice P X.parts.length q, .int .i64 X.party, .int .i64 X.width, .int .i64 X.value] 89)).alloc (.cells #[] 3)).alloc (.cells #[] 3)) (wr.heap.size + 1) (wr.heap.size + 3) (.slice (some ⟨wr.heap.size + 1 + 1, 0, none⟩) 0 0) 0 [] := by
    have h := Zbo ((wr.alloc (.cells #[.int .i64 X.kind, .string (bs X.name), .string (bs X.op), .slice P X.parts.length q, .int .i64 X.party, .int .i64 X.width, .int .i64 X.value] 89)).alloc (.cells #[] 3)) (wr.heap.size + 1) (by omega)
    rw [hs2'] at h
    exact h
   subst hA
   obtain ⟨c0, c1, c2, c3, c4, c5, c6⟩ := hat
   go_wp2_with fail
   clear c0 c1 c2 c3 c4 c5 c6
   generalize hwb : ((wr.alloc (.cells #[.int .i64 X.kind, .string (bs X.name), .string (bs X.op), .slice P X.parts.length q, .int .i64 X.party, .int .i64 X.width, .int .i64 X.value] 89)).alloc (.cells #[] 3)).alloc (.cells #[] 3) = wb at *
   clear hwb al
   generalize hS0 : wr.heap.size = S0 at *
   have hSz := zH hS0
   have hCle := Nat.le_of_eq hS0
   clear hS0
   go_loopw [13, 14, 38] (fun p v i w3 => ∃ (j : Nat) (PA : Option Addr) (pc : Nat) (VA : Option Addr) (vc : Nat), j ≤ X.parts.length ∧ i = .int .i64 j ∧ p = .slice PA j pc ∧ v = .slice VA j vc ∧ Own w3 (S0 + 1) w3.heap.size (.slice PA j pc) j ((pvsL l vs X).take j) ∧ Own w3 (S0 + 1) w3.heap.size (.slice VA j vc) j ((pvsL l (wids sW l) X).take j) ∧ Hid (∀ g, (Value.slice PA j pc).ownBlock = some g → (Value.slice VA j vc).ownBlock ≠ some g) ∧ Below (S0 + 1) wb w3) (fun _ _ i _ => X.parts.length - (intOf i).toNat)
   case atStart => exact ⟨0, _, _, _, _, Nat.zero_le _, rfl, rfl, rfl, hP0.now, hV0.now, zH (fun g h1 h2 => by simp [Value.ownBlock] at h1 h2; omega), (Below.refl _ _)⟩
   case round =>
    obtain ⟨j, PA, pc, VA, vc, hj, rfl, rfl, rfl, hP, hVr, hPV, hb4⟩ := hrel
    generalize wr = w3 at *
    clear hP0 hV0
    have hz4 := hb4.size
    have alq := al3.trans (hb4.mono (by omega))
    have hrl4 := hrl.below alq hCle
    have hO4 := hO.below alq (.inl hCle)
    have hW4 := (hWr.below hbw lR).below alq hCle
    by_cases hjl : j < X.parts.length
    ·obtain ⟨nb, no, hPq, hnb, hnc⟩ := (hxr.below alq hCle).at_ hjl
     subst hPq
     have hfj := hfd _ (sx_memV hjl)
     have hsn : Hid ((pvsL l vs X).take (j + 1) = (pvsL l vs X).take j ++ [gi vs (sFind l (sx X.parts j)).toNat]) := zH (pvsL_take hjl)
     have hsw : Hid ((pvsL l (wids sW l) X).take (j + 1) = (pvsL l (wids sW l) X).take j ++ [gi (wids sW l) (sFind l (sx X.parts j)).toNat]) := zH (pvsL_take hjl)
     obtain ⟨nm, hnm⟩ := lT (sx X.parts j)
     rw [hnm.out] at hnc hfj hsn hsw
     obtain ⟨F, hF⟩ := Int.eq_ofNat_of_zero_le hfj.1
     have hFk : F < k := by omega
     have hF2 : Hid (iFind l nm = (F : Int)) := zH (by rw [hfind.out, hF])
     rw [show (sFind l nm).toNat = F by omega] at hsn hsw
     clear hF hfj
     go_wp2_with fail
     refine (lineOf_any (some ⟨pb, po, none⟩) wn c l nm _ hrl4 (by omega)).mono ?_
     rintro e w5 ⟨he5, hb5⟩
     rw [hF2.out] at he5
     obtain rfl := he5
     have hO5 := hO4.below hb5 (.inl lR)
     have hW5 := hW4.below hb5 lR
     have hP5 := hP.below hb5 (.inl lR)
     have hV5 := hVr.below hb5 (.inl lR)
     have hz5 := hb5.size
     obtain ⟨og, oo, hOA, hog, e1⟩ := hO5.reads.at_ hFk
     obtain ⟨wg, wo, hWAe, hwg, e2⟩ := hW5.at_ (show F < wn by omega)
     have hogS : og < S0 := Nat.lt_of_lt_of_le (hO.lt og (by rw [hOA]; simp [Value.ownBlock])).2.2 hCle
     have hwgS : wg < S0 := by
      obtain ⟨b9, o9, h9, h10, _⟩ := (hWr.below hbw lR).at_ (show F < wn by omega)
      rw [hWAe] at h9
      simp only [Option.some.injEq, Addr.mk.injEq, and_true] at h9
      omega
     obtain ⟨u, hu⟩ := lT (gi vs F)
     obtain ⟨z, hz⟩ := lT (gi (wids sW l) F)
     rw [hu.out] at e1 hsn
     rw [hz.out] at e2 hsw
     obtain ⟨Pj, hPj⟩ := lT ((pvsL l vs X).take j)
     obtain ⟨Vj, hVj⟩ := lT ((pvsL l (wids sW l) X).take j)
     rw [hPj.out] at hP5 hsn
     rw [hVj.out] at hV5 hsw
     have hlo5 : S0 + 1 ≤ w5.heap.size := by omega
     have hFi : (F : Int) < (k : Int) := by omega
     have hFw : (F : Int) < (wn : Int) := by omega
     have hF0 : (0 : Int) ≤ (F : Int) := by omega
     have hFn : F < wn := by omega
     have hPlt := zH (fun g hg => hP5.lt g hg)
     have hVlt := zH (fun g hg => hV5.lt g hg)
     clear hP hVr hrl4 hO4 hW4
     subst hOA
     subst hWAe
     go_wp2_with fail
     refine Zbx (16) ((fun b => (Value.slice PA j pc).ownBlock = some b ∨ (Value.slice VA j vc).ownBlock = some b)) [(⟨og, oo + F, none⟩, .int .i64 u), (⟨wg, wo + F, none⟩, .int .i64 z)] [(5, [], []), (6, [100, 5], [100]), (12, [], []), (13, [101, 12], [101])] [100, 101] [6, 13] [(100, Res.row (S0 + 1) j Pj), (101, Res.row (S0 + 1) j Vj), (5, Res.row (S0 + 1) 1 [u]), (6, Res.row (S0 + 1) (j + 1) (Pj ++ [u])), (12, Res.row (S0 + 1) 1 [z]), (13, Res.row (S0 + 1) (j + 1) (Vj ++ [z]))] ((upd (upd (fun _ => undef) 100 (.slice PA j pc)) 101 (.slice VA j vc))) (by kernel_rfl) (by kernel_rfl) (by kernel_rfl) (by simp only [cD, cC, and_true]; repeat (any_goals (apply And.intro)); all_goals (first | assumption | go_simp)) (fun q9 hq9 => by simp only [List.mem_cons, List.not_mem_nil, or_false] at hq9; rcases hq9 with rfl | rfl <;> rintro (h | h) <;> first | (have := hPlt.out _ h; dsimp only at this; omega) | (have := hVlt.out _ h; dsimp only at this; omega)) (⟨⟨hP5.now, fun i hi => ⟨.inr (.inl hi), (hPlt.out i hi).2.2⟩⟩, ⟨hV5.now, fun i hi => ⟨.inr (.inr hi), (hVlt.out i hi).2.2⟩⟩, trivial⟩) ((fun d hd d' hd' hn c hc hc' => by simp only [List.mem_cons, List.not_mem_nil, or_false] at hd hd'; rcases hd with rfl | rfl <;> rcases hd' with rfl | rfl <;> first | exact hn rfl | exact hPV.out c hc hc' | exact hPV.out c hc' hc)) ?_
     simp only [List.take_succ_cons, List.take_zero, List.drop_succ_cons, List.drop_zero, List.take_nil, List.drop_nil, List.take, List.drop]
     repeat (first
      | ((first
       | ((with_reducible refine Zal ?_ ?_ ?_)
          ·exact rfl
          ·exact rfl)
       | ((with_reducible refine Zap ?_ ?_ ?_)
          ·exact rfl
          ·exact Zab rfl rfl rfl rfl))
         intro K hK
         apply Exists.intro
         refine ⟨fun w3 hw3 => ?_, ?_⟩
         ·have hcs := hw3
          simp only [cD, cC, and_true] at hcs
          clear hw3
          go_simp
          first | done | exact ⟨rfl, rfl⟩ | rfl
         refine hK _ ?_
         clear hK K
         try simp only [pA, pB, sA, sB, sC])
      | ((with_reducible refine Zao ?_ ?_ ?_)
         ·exact rfl
         ·exact Zai rfl rfl rfl rfl
         simp only [pA, pB, sA, sB, sC]))
     focus
      (with_reducible refine Zey (S0 + 1) 1 [u] ?_ ?_ ?_ ?_ ?_ (hw := ?_))
      ·exact rfl
      ·exact rfl
      ·omega
      ·intro w3 hw3 hc3 hp3
       have hcs := hc3
       simp only [cD, cC, and_true] at hcs
       (go_simp; exact postRow.new1 _ _)
      rotate_left
      ·first | exact Zam rfl | exact Zab rfl rfl rfl rfl
      intro A7 c7
      try simp only [pA, pB, sA, sB, sC]
     refine mem_appI 100 (S0 + 1) j 1 Pj [u] PA pc A7 c7 (.tmp 45) (.tmp 50) (by rfl) (by rfl) hlo5 (by rfl) (by rfl) (by decide) (by rfl) (by rfl) (by rfl) (by rfl) (by omega) (fun w6 hw6 hc6 hp6 => ?_) (fun A8 c8 => ?_)
     ·have h7 : Own w6 (S0 + 1) w6.heap.size (.slice A7 1 c7) 1 [u] := (Zcb (d := 5) (by decide) hp6 (by rfl) (by rfl)).1
      exact h7.reads
     try simp only [pA, pB, sA, sB, sC]
     repeat (first
      | ((first
       | ((with_reducible refine Zal ?_ ?_ ?_)
          ·exact rfl
          ·exact rfl)
       | ((with_reducible refine Zap ?_ ?_ ?_)
          ·exact rfl
          ·exact Zab rfl rfl rfl rfl))
         intro K hK
         apply Exists.intro
         refine ⟨fun w3 hw3 => ?_, ?_⟩
         ·have hcs := hw3
          simp only [cD, cC, and_true] at hcs
          clear hw3
          go_simp
          first | done | exact ⟨rfl, rfl⟩ | rfl
         refine hK _ ?_
         clear hK K
         try simp only [pA, pB, sA, sB, sC])
      | ((with_reducible refine Zao ?_ ?_ ?_)
         ·exact rfl
         ·exact Zai rfl rfl rfl rfl
         simp only [pA, pB, sA, sB, sC]))
     focus
      (with_reducible refine Zey (S0 + 1) 1 [z] ?_ ?_ ?_ ?_ ?_ (hw := ?_))
      ·exact rfl
      ·exact rfl
      ·omega
      ·intro w3 hw3 hc3 hp3
       have hcs := hc3
       simp only [cD, cC, and_true] at hcs
       (go_simp; exact postRow.new1 _ _)
      rotate_left
      ·first | exact Zam rfl | exact Zab rfl rfl rfl rfl
      intro A9 c9
      try simp only [pA, pB, sA, sB, sC]
     refine mem_appI 101 (S0 + 1) j 1 Vj [z] VA vc A9 c9 (.tmp 52) (.tmp 57) (by rfl) (by rfl) hlo5 (by rfl) (by rfl) (by decide) (by rfl) (by rfl) (by rfl) (by rfl) (by omega) (fun w6 hw6 hc6 hp6 => ?_) (fun A10 c10 => ?_)
     ·have h7 : Own w6 (S0 + 1) w6.heap.size (.slice A9 1 c9) 1 [z] := (Zcb (d := 12) (by decide) hp6 (by rfl) (by rfl)).1
      exact h7.reads
     try simp only [pA, pB, sA, sB, sC]
     repeat (first
      | ((first
       | ((with_reducible refine Zal ?_ ?_ ?_)
          ·exact rfl
          ·exact rfl)
       | ((with_reducible refine Zap ?_ ?_ ?_)
          ·exact rfl
          ·exact Zab rfl rfl rfl rfl))
         intro K hK
         apply Exists.intro
         refine ⟨fun w3 hw3 => ?_, ?_⟩
         ·have hcs := hw3
          simp only [cD, cC, and_true] at hcs
          clear hw3
          go_simp
          first | done | exact ⟨rfl, rfl⟩ | rfl
         refine hK _ ?_
         clear hK K
         try simp only [pA, pB, sA, sB, sC])
      | ((with_reducible refine Zao ?_ ?_ ?_)
         ·exact rfl
         ·exact Zai rfl rfl rfl rfl
         simp only [pA, pB, sA, sB, sC]))
     refine Zbj ?_
     intro wy hwy hcy hfin hap
     have hP6 : Own wy (S0 + 1) wy.heap.size (.slice A8 (j + 1) c8) (j + 1) (Pj ++ [u]) := hfin.1.1
     have hV6 : Own wy (S0 + 1) wy.heap.size (.slice A10 (j + 1) c10) (j + 1) (Vj ++ [z]) := hfin.2.1.1
     have hPV6 : Hid (∀ g, (Value.slice A8 (j + 1) c8).ownBlock = some g → (Value.slice A10 (j + 1) c10).ownBlock ≠ some g) := zH (fun g hg hc => hap 6 (by decide) 13 (by decide) (by decide) g hg hc)
     have hb6 := (hb4.trans (hb5.mono (by omega))).trans (hwy.below_ (B := S0 + 1) (by omega) (fun i hi ho => ho.elim (fun h => by omega) (fun h => h.elim (fun h => by have := hPlt.out i h; omega) (fun h => by have := hVlt.out i h; omega))))
     clear hfin hap hcy hwy hP5 hV5 e1 e2
     go_wp2
     go_roundw
     case rel => exact ⟨j + 1, A8, c8, A10, c10, by omega, by go_num, rfl, rfl, by rw [hsn.out]; exact hP6, by rw [hsw.out]; exact hV6, hPV6, hb6⟩
     case measure => simp [intOf]; omega
    ·obtain rfl : j = X.parts.length := by omega
     rw [List.take_of_length_le (by rw [pvsL_len]; omega)] at hP hVr
     have hone4 := hone.below hb4 (by show S0 < S0 + 1; omega)
     have hT4 := hT.below alq hCle
     have hB4 := hbw.trans (alq.mono (by omega))
     have hb4r := hb1'.below hB4 lR
     have hc4r := hc1'.below hB4 lR
     have hpv := fun j (hj : j < X.parts.length) => pvsL_at (l := l) (vs := vs) (x := X) hj
     have hpw := fun j (hj : j < X.parts.length) => pvsL_at (l := l) (vs := wids sW l) (x := X) hj
     have hpl := pvsL_len l vs X
     have hpwk : ∀ j, j < X.parts.length → gi (pvsL l (wids sW l) X) j = pwK l X j := fun j hj => hpw j hj
     have hpb : ∀ j, j < X.parts.length → 0 ≤ gi (pvsL l vs X) j ∧ gi (pvsL l vs X) j ≤ 1023 := fun j hj => by rw [hpv j hj]; exact hbd1.out _ (by have := hfd _ (sx_memV hj); omega)
     have hp1 : pwK l X 0 = 1 → 0 < X.parts.length → gi (pvsL l vs X) 0 = 0 ∨ gi (pvsL l vs X) 0 = 1 := fun hw hj => by
      have h9 := hbd2.out (sFind l (sx X.parts 0)).toNat (by have := hfd _ (sx_memV hj); omega)
      rw [show gi (wids sW l) (sFind l (sx X.parts 0)).toNat = 1 from hw] at h9
      rw [hpv 0 hj]
      have : (2 : Int) ^ (1 : Int).toNat = 2 := by decide
      omega
     obtain ⟨ps, hps⟩ := lT (pvsL l vs X)
     rw [hps.out] at hP hpb hp1 hvo hpl
     obtain ⟨ws, hws⟩ := lT (pvsL l (wids sW l) X)
     rw [hws.out] at hVr hpwk
     have hPr := hP.reads
     have hWw := hVr.reads
     have hlo4 : S0 + 1 ≤ w3.heap.size := by omega
     have hOlt := zH (fun g hg => hO4.lt g hg)
     have hlo1 : w1.heap.size ≤ S0 := by omega
     clear hP hVr hone hb4 hrl hxr al3 hfd hpv hpw hbd1 hbd2 hrl4 hW4 hPV alq hT hO
     obtain ⟨e0, e1, e2, e3, e4, e5, e6⟩ := hone4
     simp only [Nat.zero_add] at e1 e2 e3 e4 e5 e6
     rcases hf with ⟨k1, hpt, hp⟩ | ⟨k1, hpt, hv0, hvm⟩ | ⟨k1, hp2, hw1, hw2, hwe, hop⟩ | ⟨k1, hp1l, hw1, hw2⟩ | ⟨k1, hp3, hw0⟩ | ⟨k1, hp1l⟩
     ·have hv2 := hv1 k1
      clear hvo hv1
      rcases hp with hp | hp
      ·rw [hp] at e4
       rw [if_pos hp] at hv2
       have q1 : (X.kind == 1) = true := by rw [k1]; decide
       have q2 : (X.kind == 2) = false := by rw [k1]; decide
       have q3 : (X.kind == 3) = false := by rw [k1]; decide
       have q4 : (X.kind == 4) = false := by rw [k1]; decide
       have q5 : (X.kind == 5) = false := by rw [k1]; decide
       have q6 : (X.kind == 6) = false := by rw [k1]; decide
       have hin := hc0 k1 hp
       obtain ⟨bb, bo, hBe, hbB, cb⟩ := hb4r.at_ (k := t0) (by omega)
       rw [← hv2] at cb
       clear hv2
       have hwt : IntKind.i64.wrap ((t0 : Int) + 1) = (t0 : Int) + 1 := by rw [IntKind.wrap_i64] <;> omega
       have hT4q := hT4; obtain ⟨d0, d1, dz, dl⟩ := hT4q
       have dzp := dz 0
       have hti : (t0 : Int) < (m : Int) := by omega
       have hti0 : (0 : Int) ≤ (t0 : Int) := by omega
       have kS : Alt (fun i => i = w1.heap.size + 1) w3 (w3.setCell ⟨w1.heap.size + 1, 0, none⟩ (.int .i64 ((t0 : Int) + 1))) := (Alt.refl_ _ w3).set_ _ _ (fun _ => rfl)
       have hO5 := (hO4.alt kS (fun g hg e => hOT.out (e ▸ hg))).now
       have hB5 := hB4.setCell (p := ⟨w1.heap.size + 1, 0, none⟩) (by show w1.heap.size ≤ w1.heap.size + 1; omega) (.int .i64 ((t0 : Int) + 1))
       have hT5 : Two (w3.setCell ⟨w1.heap.size + 1, 0, none⟩ (.int .i64 ((t0 : Int) + 1))) (w1.heap.size + 1) ((t0 + 1 : Nat) : Int) t1 := ⟨by rw [Int.natCast_add]; exact World.cell?_setCell_same _ _ _ d0, (World.cell?_setCell_other _ _ _ _ (by simp)).trans d1, dz.set _ _, by simpa using dl⟩
       subst hBe
       have hoA := hO5.alloc (.cells #[.int .i64 V] 3)
       have hBA := hB5.alloc hB5.size (.cells #[.int .i64 V] 3)
       have hTA := hT5.alt (Alt.of_new (S := fun _ => False) ((Below.refl (w3.setCell ⟨w1.heap.size + 1, 0, none⟩ (.int .i64 ((t0 : Int) + 1))).heap.size (w3.setCell ⟨w1.heap.size + 1, 0, none⟩ (.int .i64 ((t0 : Int) + 1)))).alloc lR (.cells #[.int .i64 V] 3))) (fun h => h)
       have N0 := zH (show (t0 + 1) = cntI l 0 (k + 1) from by rw [hs0, if_pos ⟨k1, hp⟩])
       have N1 := zH (show t1 = cntI l 1 (k + 1) from by rw [hs1, if_neg (by rintro ⟨_, h⟩; omega)]; rfl)
       clear hs0 hs1 hc0 hc1 hpb hp1 hpwk hT4 hO4 hB4 
       go_wp2_with (at_builtin; refine Zaq _ rfl _ _ rfl rfl hoA rfl (Zak _ _ _ _ (by simp)) (by omega) oM ?_; intro A5 c5 w5 hown5 hg5 hat5)
       have hb5 := Zah hBA hoA hg5 (by simp; omega) lR
       have hT5 := hTA.alt (Alt.of_grown (S := fun i => (Value.slice O k oc).ownBlock = some i) hg5 (fun i h => h)) hOT.out
       have hOT5 : Hid ((Value.slice A5 (k + 1) c5).ownBlock ≠ some (w1.heap.size + 1)) := zH (fun hc => by
        rcases hat5 with h | h
        ·exact hOT.out (h.symm.trans hc)
        ·rw [hc] at h; have := hTA.lt; simp only [Option.some.injEq] at h; omega)
       rw [← hvs.out] at hown5
       clear hoA hBA hTA hg5 hat5
       go_wp2
       go_roundw
       case rel => exact ⟨k + 1, A5, c5, (t0 + 1), t1, by omega, by go_num, rfl, hown5, hT5, hOT5, N0, N1, hb5⟩
       case measure => simp [intOf]; omega
      ·rw [hp] at e4
       rw [if_neg (by omega)] at hv2
       have q1 : (X.kind == 1) = true := by rw [k1]; decide
       have q2 : (X.kind == 2) = false := by rw [k1]; decide
       have q3 : (X.kind == 3) = false := by rw [k1]; decide
       have q4 : (X.kind == 4) = false := by rw [k1]; decide
       have q5 : (X.kind == 5) = false := by rw [k1]; decide
       have q6 : (X.kind == 6) = false := by rw [k1]; decide
       have hin := hc1 k1 hp
       obtain ⟨bb, bo, hBe, hbB, cb⟩ := hc4r.at_ (k := t1) (by omega)
       rw [← hv2] at cb
       clear hv2
       have hwt : IntKind.i64.wrap ((t1 : Int) + 1) = (t1 : Int) + 1 := by rw [IntKind.wrap_i64] <;> omega
       have hT4q := hT4; obtain ⟨d0, d1, dz, dl⟩ := hT4q
       have dzp := dz 1
       have hti : (t1 : Int) < (r : Int) := by omega
       have hti0 : (0 : Int) ≤ (t1 : Int) := by omega
       have kS : Alt (fun i => i = w1.heap.size + 1) w3 (w3.setCell ⟨w1.heap.size + 1, 1, none⟩ (.int .i64 ((t1 : Int) + 1))) := (Alt.refl_ _ w3).set_ _ _ (fun _ => rfl)
       have hO5 := (hO4.alt kS (fun g hg e => hOT.out (e ▸ hg))).now
       have hB5 := hB4.setCell (p := ⟨w1.heap.size + 1, 1, none⟩) (by show w1.heap.size ≤ w1.heap.size + 1; omega) (.int .i64 ((t1 : Int) + 1))
       have hT5 : Two (w3.setCell ⟨w1.heap.size + 1, 1, none⟩ (.int .i64 ((t1 : Int) + 1))) (w1.heap.size + 1) t0 ((t1 + 1 : Nat) : Int) := ⟨(World.cell?_setCell_other _ _ _ _ (by simp)).trans d0, by rw [Int.natCast_add]; exact World.cell?_setCell_same _ _ _ d1, dz.set _ _, by simpa using dl⟩
       subst hBe
       have hoA := hO5.alloc (.cells #[.int .i64 V] 3)
       have hBA := hB5.alloc hB5.size (.cells #[.int .i64 V] 3)
       have hTA := hT5.alt (Alt.of_new (S := fun _ => False) ((Below.refl (w3.setCell ⟨w1.heap.size + 1, 1, none⟩ (.int .i64 ((t1 : Int) + 1))).heap.size (w3.setCell ⟨w1.heap.size + 1, 1, none⟩ (.int .i64 ((t1 : Int) + 1)))).alloc lR (.cells #[.int .i64 V] 3))) (fun h => h)
       have N0 := zH (show t0 = cntI l 0 (k + 1) from by rw [hs0, if_neg (by rintro ⟨_, h⟩; omega)]; rfl)
       have N1 := zH (show (t1 + 1) = cntI l 1 (k + 1) from by rw [hs1, if_pos ⟨k1, hp⟩])
       clear hs0 hs1 hc0 hc1 hpb hp1 hpwk hT4 hO4 hB4 
       go_wp2_with (at_builtin; refine Zaq _ rfl _ _ rfl rfl hoA rfl (Zak _ _ _ _ (by simp)) (by omega) oM ?_; intro A5 c5 w5 hown5 hg5 hat5)
       have hb5 := Zah hBA hoA hg5 (by simp; omega) lR
       have hT5 := hTA.alt (Alt.of_grown (S := fun i => (Value.slice O k oc).ownBlock = some i) hg5 (fun i h => h)) hOT.out
       have hOT5 : Hid ((Value.slice A5 (k + 1) c5).ownBlock ≠ some (w1.heap.size + 1)) := zH (fun hc => by
        rcases hat5 with h | h
        ·exact hOT.out (h.symm.trans hc)
        ·rw [hc] at h; have := hTA.lt; simp only [Option.some.injEq] at h; omega)
       rw [← hvs.out] at hown5
       clear hoA hBA hTA hg5 hat5
       go_wp2
       go_roundw
       case rel => exact ⟨k + 1, A5, c5, t0, (t1 + 1), by omega, by go_num, rfl, hown5, hT5, hOT5, N0, N1, hb5⟩
       case measure => simp [intOf]; omega
     ·have hv2 := hvo (by omega)
      clear hvo hv1
      rw [lineV_2 k1] at hv2
      have q1 : (X.kind == 1) = false := by rw [k1]; decide
      have q2 : (X.kind == 2) = true := by rw [k1]; decide
      have q3 : (X.kind == 3) = false := by rw [k1]; decide
      have q4 : (X.kind == 4) = false := by rw [k1]; decide
      have q5 : (X.kind == 5) = false := by rw [k1]; decide
      have q6 : (X.kind == 6) = false := by rw [k1]; decide
      rw [← hv2] at e6
      clear hv2
      have hoA := hO4.alloc (.cells #[.int .i64 V] 3)
      have hBA := hB4.alloc hB4.size (.cells #[.int .i64 V] 3)
      have hTA := hT4.alt (Alt.of_new (S := fun _ => False) ((Below.refl w3.heap.size w3).alloc lR (.cells #[.int .i64 V] 3))) (fun h => h)
      have N0 := zH (show t0 = cntI l 0 (k + 1) from by rw [hs0, if_neg (by rintro ⟨h, _⟩; omega)]; rfl)
      have N1 := zH (show t1 = cntI l 1 (k + 1) from by rw [hs1, if_neg (by rintro ⟨h, _⟩; omega)]; rfl)
      clear hs0 hs1 hc0 hc1 hpb hp1 hpwk hT4 hO4 hB4 
      go_wp2_with (at_builtin; refine Zaq _ rfl _ _ rfl rfl hoA rfl (Zak _ _ _ _ (by simp)) (by omega) oM ?_; intro A5 c5 w5 hown5 hg5 hat5)
      have hb5 := Zah hBA hoA hg5 (by simp; omega) lR
      have hT5 := hTA.alt (Alt.of_grown (S := fun i => (Value.slice O k oc).ownBlock = some i) hg5 (fun i h => h)) hOT.out
      have hOT5 : Hid ((Value.slice A5 (k + 1) c5).ownBlock ≠ some (w1.heap.size + 1)) := zH (fun hc => by
       rcases hat5 with h | h
       ·exact hOT.out (h.symm.trans hc)
       ·rw [hc] at h; have := hTA.lt; simp only [Option.some.injEq] at h; omega)
      rw [← hvs.out] at hown5
      clear hoA hBA hTA hg5 hat5
      go_wp2
      go_roundw
      case rel => exact ⟨k + 1, A5, c5, t0, t1, by omega, by go_num, rfl, hown5, hT5, hOT5, N0, N1, hb5⟩
      case measure => simp [intOf]; omega
     ·have hv2 := hvo (by omega)
      clear hvo hv1
      rw [lineV_3 k1] at hv2
      have q1 : (X.kind == 1) = false := by rw [k1]; decide
      have q2 : (X.kind == 2) = false := by rw [k1]; decide
      have q3 : (X.kind == 3) = true := by rw [k1]; decide
      have q4 : (X.kind == 4) = false := by rw [k1]; decide
      have q5 : (X.kind == 5) = false := by rw [k1]; decide
      have q6 : (X.kind == 6) = false := by rw [k1]; decide
      have h0 := hpb 0 (by omega)
      have h1 := hpb 1 (by omega)
      have hw0 := hpwk 0 (by omega)
      obtain ⟨W, hWw2⟩ : ∃ W : Nat, pwK l X 0 = W := ⟨(pwK l X 0).toNat, by omega⟩
      rw [hWw2] at hw0 hw1 hw2 hv2
      simp only [Int.toNat_natCast] at hv2
      obtain ⟨pg, pq, hPe, hpg, hpc⟩ := hPr.2 (by omega)
      obtain ⟨vg, vq, hVe, hvg, hvc⟩ := hWw.2 (by omega)
      have g0 := hpc 0 (by omega)
      have g1 := hpc 1 (by omega)
      have g2 := hvc 0 (by omega)
      rw [hw0] at g2
      subst hPe
      subst hVe
      generalize gi ps 0 = a0 at *
      generalize gi ps 1 = a1 at *
      have hlp : (1 : Int) < (X.parts.length : Int) := by omega
      have hlp0 : (0 : Int) < (X.parts.length : Int) := by omega
      have hlpn : 1 < X.parts.length := by omega
      simp only [Nat.add_zero] at g0 g2
      have Hv := zH hv2
      have HW1 : 1 ≤ W := by omega
      have HW2 : W ≤ 10 := by omega
      clear hv2 hw0 hw1 hw2 hwe hWw2 hpc hvc
      go_wp2_with fail
      refine Zbk (13) [(⟨S0, 2, none⟩, .string (bs X.op)), (⟨vg, vq, none⟩, .int .i64 (W : Int)), (⟨pg, pq, none⟩, .int .i64 a0), (⟨pg, pq + 1, none⟩, .int .i64 a1)] [(11, [], [])] [] [(11, Res.plain (.int .i64 V))] (by kernel_rfl) (by kernel_rfl) (by kernel_rfl) (by simp only [cD, cC, and_true]; repeat (any_goals (apply And.intro)); all_goals (first | assumption | go_simp)) ?_
      simp only [List.take_succ_cons, List.take_zero, List.drop_succ_cons, List.drop_zero, List.take_nil, List.drop_nil, List.take, List.drop]
      repeat (first
       | ((first
        | ((with_reducible refine Zal ?_ ?_ ?_)
           ·exact rfl
           ·exact rfl)
        | ((with_reducible refine Zap ?_ ?_ ?_)
           ·exact rfl
           ·exact Zab rfl rfl rfl rfl))
          intro K hK
          apply Exists.intro
          refine ⟨fun w3 hw3 => ?_, ?_⟩
          ·have hcs := hw3
           simp only [cD, cC, and_true] at hcs
           clear hw3
           go_simp
           first | done | exact ⟨rfl, rfl⟩ | rfl
          refine hK _ ?_
          clear hK K
          try simp only [pA, pB, sA, sB, sC])
       | ((with_reducible refine Zao ?_ ?_ ?_)
          ·exact rfl
          ·exact Zai rfl rfl rfl rfl
          simp only [pA, pB, sA, sB, sC]))
      focus
       (with_reducible refine mem_plain (.int .i64 V) ?_ ?_ ?_ ?_ (hw := ?_))
       ·exact rfl
       ·exact rfl
       ·intro w3 hw3 hc3 hp3
        have hcs := hc3
        simp only [cD, cC, and_true] at hcs
        (go_simp; refine (operate_any X.op W a0 a1 _ hop HW1 HW2 h0 h1).mono ?_; rintro e w4 ⟨rfl, rfl⟩; rw [← Hv.out]; exact retPost.mk_ (postPlain.mk_ (Below.refl _ _)))
       rotate_left
       ·first | exact Zam rfl | exact Zab rfl rfl rfl rfl
       try simp only [pA, pB, sA, sB, sC]
      repeat (first
       | ((first
        | ((with_reducible refine Zal ?_ ?_ ?_)
           ·exact rfl
           ·exact rfl)
        | ((with_reducible refine Zap ?_ ?_ ?_)
           ·exact rfl
           ·exact Zab rfl rfl rfl rfl))
          intro K hK
          apply Exists.intro
          refine ⟨fun w3 hw3 => ?_, ?_⟩
          ·have hcs := hw3
           simp only [cD, cC, and_true] at hcs
           clear hw3
           go_simp
           first | done | exact ⟨rfl, rfl⟩ | rfl
          refine hK _ ?_
          clear hK K
          try simp only [pA, pB, sA, sB, sC])
       | ((with_reducible refine Zao ?_ ?_ ?_)
          ·exact rfl
          ·exact Zai rfl rfl rfl rfl
          simp only [pA, pB, sA, sB, sC]))
      refine Zbj ?_
      intro wy hwy hcy hfin hap
      have bwy := Zcm hwy
      have zwy := bwy.size
      have hloy : w1.heap.size ≤ wy.heap.size := by omega
      have hO6 := (hO4.below bwy (.inl lR)).now
      have hT6 := hT4.alt (Alt.of_new (S := fun _ => False) bwy) (fun h => h)
      have hB6 := hB4.trans (bwy.mono (by omega))
      clear hfin hap hcy hwy bwy g0 g1 g2
      have hoA := hO6.alloc (.cells #[.int .i64 V] 3)
      have hBA := hB6.alloc hB6.size (.cells #[.int .i64 V] 3)
      have hTA := hT6.alt (Alt.of_new (S := fun _ => False) ((Below.refl wy.heap.size wy).alloc lR (.cells #[.int .i64 V] 3))) (fun h => h)
      have N0 := zH (show t0 = cntI l 0 (k + 1) from by rw [hs0, if_neg (by rintro ⟨h, _⟩; omega)]; rfl)
      have N1 := zH (show t1 = cntI l 1 (k + 1) from by rw [hs1, if_neg (by rintro ⟨h, _⟩; omega)]; rfl)
      clear hs0 hs1 hc0 hc1 hpb hp1 hpwk hT4 hO4 hB4 
      go_wp2_with (at_builtin; refine Zaq _ rfl _ _ rfl rfl hoA rfl (Zak _ _ _ _ (by simp)) (by omega) oM ?_; intro A5 c5 w5 hown5 hg5 hat5)
      have hb5 := Zah hBA hoA hg5 (by simp; omega) lR
      have hT5 := hTA.alt (Alt.of_grown (S := fun i => (Value.slice O k oc).ownBlock = some i) hg5 (fun i h => h)) hOT.out
      have hOT5 : Hid ((Value.slice A5 (k + 1) c5).ownBlock ≠ some (w1.heap.size + 1)) := zH (fun hc => by
       rcases hat5 with h | h
       ·exact hOT.out (h.symm.trans hc)
       ·rw [hc] at h; have := hTA.lt; simp only [Option.some.injEq] at h; omega)
      rw [← hvs.out] at hown5
      clear hoA hBA hTA hg5 hat5
      go_wp2
      go_roundw
      case rel => exact ⟨k + 1, A5, c5, t0, t1, by omega, by go_num, rfl, hown5, hT5, hOT5, N0, N1, hb5⟩
      case measure => simp [intOf]; omega
     ·have hv2 := hvo (by omega)
      clear hvo hv1
      rw [lineV_4 k1] at hv2
      have q1 : (X.kind == 1) = false := by rw [k1]; decide
      have q2 : (X.kind == 2) = false := by rw [k1]; decide
      have q3 : (X.kind == 3) = false := by rw [k1]; decide
      have q4 : (X.kind == 4) = true := by rw [k1]; decide
      have q5 : (X.kind == 5) = false := by rw [k1]; decide
      have q6 : (X.kind == 6) = false := by rw [k1]; decide
      have h0 := hpb 0 (by omega)
      have hw0 := hpwk 0 (by omega)
      obtain ⟨W, hWw2⟩ : ∃ W : Nat, pwK l X 0 = W := ⟨(pwK l X 0).toNat, by omega⟩
      rw [hWw2] at hw0 hw1 hw2 hv2
      simp only [Int.toNat_natCast] at hv2
      obtain ⟨pg, pq, hPe, hpg, hpc⟩ := hPr.2 (by omega)
      obtain ⟨vg, vq, hVe, hvg, hvc⟩ := hWw.2 (by omega)
      have g0 := hpc 0 (by omega)
      have g2 := hvc 0 (by omega)
      rw [hw0] at g2
      subst hPe
      subst hVe
      generalize gi ps 0 = a0 at *
      have hlp0 : (0 : Int) < (X.parts.length : Int) := by omega
      have hlpn : 0 < X.parts.length := by omega
      simp only [Nat.add_zero] at g0 g2
      obtain ⟨N2, hN⟩ : ∃ N2, Hid (N2 = 2 ^ W) := ⟨_, zH rfl⟩
      have hN2 : Hid ((2 : Int) ^ W = (N2 : Int)) := zH (by rw [hN.out, Int.natCast_pow]; rfl)
      have hNb := (Zcc hN.out (by omega)).1
      rw [hN2.out] at hv2
      have Hv := zH hv2
      have hwa : IntKind.i64.wrap ((N2 : Int) - 1) = N2 - 1 := by rw [IntKind.wrap_i64] <;> omega
      have hwb : IntKind.i64.wrap ((N2 : Int) - 1 - a0) = N2 - 1 - a0 := by rw [IntKind.wrap_i64] <;> omega
      clear hv2 hw0 hpc hvc hWw2 hN
      have hs := hN2.out
      have hs2 : ((W : Nat) : Int).toNat = W := by omega
      go_wp2_with fail
      refine Zbk (11) [(⟨vg, vq, none⟩, .int .i64 (W : Int)), (⟨pg, pq, none⟩, .int .i64 a0)] [] [] [] (by kernel_rfl) (by kernel_rfl) (by kernel_rfl) (by simp only [cD, cC, and_true]; repeat (any_goals (apply And.intro)); all_goals (first | assumption | go_simp)) ?_
      simp only [List.take_succ_cons, List.take_zero, List.drop_succ_cons, List.drop_zero, List.take_nil, List.drop_nil, List.take, List.drop]
      repeat (first
       | ((first
        | ((with_reducible refine Zal ?_ ?_ ?_)
           ·exact rfl
           ·exact rfl)
        | ((with_reducible refine Zap ?_ ?_ ?_)
           ·exact rfl
           ·exact Zab rfl rfl rfl rfl))
          intro K hK
          apply Exists.intro
          refine ⟨fun w3 hw3 => ?_, ?_⟩
          ·have hcs := hw3
           simp only [cD, cC, and_true] at hcs
           clear hw3
           go_simp
           first | done | exact ⟨rfl, rfl⟩ | rfl
          refine hK _ ?_
          clear hK K
          try simp only [pA, pB, sA, sB, sC])
       | ((with_reducible refine Zao ?_ ?_ ?_)
          ·exact rfl
          ·exact Zai rfl rfl rfl rfl
          simp only [pA, pB, sA, sB, sC]))
      refine Zbj ?_
      intro wy hwy hcy hfin hap
      have hZ : IntKind.i64.wrap (IntKind.i64.wrap (IntKind.i64.wrap (2 ^ min (IntKind.u64.wrap (W : Int)).toNat 64) - 1) - a0) = (N2 : Int) - 1 - a0 := by
       rw [IntWalk.u64_in (W : Int) (by omega), hs2, Nat.min_eq_left (by omega), hs, IntWalk.i64_in (N2 : Int) (by omega), hwa, hwb]
      rw [hZ]
      clear hs hs2 hZ
      rw [Hv.out] at hvs
      have bwy := Zcm hwy
      have zwy := bwy.size
      have hloy : w1.heap.size ≤ wy.heap.size := by omega
      have hO6 := (hO4.below bwy (.inl lR)).now
      have hT6 := hT4.alt (Alt.of_new (S := fun _ => False) bwy) (fun h => h)
      have hB6 := hB4.trans (bwy.mono (by omega))
      clear hfin hap hcy hwy bwy g0 g2
      have hoA := hO6.alloc (.cells #[.int .i64 ((N2 : Int) - 1 - a0)] 3)
      have hBA := hB6.alloc hB6.size (.cells #[.int .i64 ((N2 : Int) - 1 - a0)] 3)
      have hTA := hT6.alt (Alt.of_new (S := fun _ => False) ((Below.refl wy.heap.size wy).alloc lR (.cells #[.int .i64 ((N2 : Int) - 1 - a0)] 3))) (fun h => h)
      have N0 := zH (show t0 = cntI l 0 (k + 1) from by rw [hs0, if_neg (by rintro ⟨h, _⟩; omega)]; rfl)
      have N1 := zH (show t1 = cntI l 1 (k + 1) from by rw [hs1, if_neg (by rintro ⟨h, _⟩; omega)]; rfl)
      clear hs0 hs1 hc0 hc1 hpb hp1 hpwk hT4 hO4 hB4 
      go_wp2_with (at_builtin; refine Zaq _ rfl _ _ rfl rfl hoA rfl (Zak _ _ _ _ (by simp)) (by omega) oM ?_; intro A5 c5 w5 hown5 hg5 hat5)
      have hb5 := Zah hBA hoA hg5 (by simp; omega) lR
      have hT5 := hTA.alt (Alt.of_grown (S := fun i => (Value.slice O k oc).ownBlock = some i) hg5 (fun i h => h)) hOT.out
      have hOT5 : Hid ((Value.slice A5 (k + 1) c5).ownBlock ≠ some (w1.heap.size + 1)) := zH (fun hc => by
       rcases hat5 with h | h
       ·exact hOT.out (h.symm.trans hc)
       ·rw [hc] at h; have := hTA.lt; simp only [Option.some.injEq] at h; omega)
      rw [← hvs.out] at hown5
      clear hoA hBA hTA hg5 hat5
      go_wp2
      go_roundw
      case rel => exact ⟨k + 1, A5, c5, t0, t1, by omega, by go_num, rfl, hown5, hT5, hOT5, N0, N1, hb5⟩
      case measure => simp [intOf]; omega
     ·have hv2 := hvo (by omega)
      clear hvo hv1
      rw [lineV_5 k1] at hv2
      have q1 : (X.kind == 1) = false := by rw [k1]; decide
      have q2 : (X.kind == 2) = false := by rw [k1]; decide
      have q3 : (X.kind == 3) = false := by rw [k1]; decide
      have q4 : (X.kind == 4) = false := by rw [k1]; decide
      have q5 : (X.kind == 5) = true := by rw [k1]; decide
      have q6 : (X.kind == 6) = false := by rw [k1]; decide
      have hsel := hp1 hw0 (by omega)
      obtain ⟨pg, pq, hPe, hpg, hpc⟩ := hPr.2 (by omega)
      have g0 := hpc 0 (by omega)
      have g1 := hpc 1 (by omega)
      have g2 := hpc 2 (by omega)
      subst hPe
      simp only [Nat.add_zero] at g0
      have hlp : (2 : Int) < (X.parts.length : Int) := by omega
      have hlp1 : (1 : Int) < (X.parts.length : Int) := by omega
      have hlp0 : (0 : Int) < (X.parts.length : Int) := by omega
      have hlpn : 2 < X.parts.length := by omega
      rcases hsel with hz | hz
      ·rw [hz] at g0 hv2
       rw [show ((2 : Int) - 0).toNat = 2 by decide] at hv2
       rw [← hv2] at g2
       clear hpc hz hv2
       have hoA := hO4.alloc (.cells #[.int .i64 V] 3)
       have hBA := hB4.alloc hB4.size (.cells #[.int .i64 V] 3)
       have hTA := hT4.alt (Alt.of_new (S := fun _ => False) ((Below.refl w3.heap.size w3).alloc lR (.cells #[.int .i64 V] 3))) (fun h => h)
       have N0 := zH (show t0 = cntI l 0 (k + 1) from by rw [hs0, if_neg (by rintro ⟨h, _⟩; omega)]; rfl)
       have N1 := zH (show t1 = cntI l 1 (k + 1) from by rw [hs1, if_neg (by rintro ⟨h, _⟩; omega)]; rfl)
       clear hs0 hs1 hc0 hc1 hpb hp1 hpwk hT4 hO4 hB4 
       go_wp2_with (at_builtin; refine Zaq _ rfl _ _ rfl rfl hoA rfl (Zak _ _ _ _ (by simp)) (by omega) oM ?_; intro A5 c5 w5 hown5 hg5 hat5)
       have hb5 := Zah hBA hoA hg5 (by simp; omega) lR
       have hT5 := hTA.alt (Alt.of_grown (S := fun i => (Value.slice O k oc).ownBlock = some i) hg5 (fun i h => h)) hOT.out
       have hOT5 : Hid ((Value.slice A5 (k + 1) c5).ownBlock ≠ some (w1.heap.size + 1)) := zH (fun hc => by
        rcases hat5 with h | h
        ·exact hOT.out (h.symm.trans hc)
        ·rw [hc] at h; have := hTA.lt; simp only [Option.some.injEq] at h; omega)
       rw [← hvs.out] at hown5
       clear hoA hBA hTA hg5 hat5
       go_wp2
       go_roundw
       case rel => exact ⟨k + 1, A5, c5, t0, t1, by omega, by go_num, rfl, hown5, hT5, hOT5, N0, N1, hb5⟩
       case measure => simp [intOf]; omega
      ·rw [hz] at g0 hv2
       rw [show ((2 : Int) - 1).toNat = 1 by decide] at hv2
       rw [← hv2] at g1
       clear hpc hz hv2
       have hoA := hO4.alloc (.cells #[.int .i64 V] 3)
       have hBA := hB4.alloc hB4.size (.cells #[.int .i64 V] 3)
       have hTA := hT4.alt (Alt.of_new (S := fun _ => False) ((Below.refl w3.heap.size w3).alloc lR (.cells #[.int .i64 V] 3))) (fun h => h)
       have N0 := zH (show t0 = cntI l 0 (k + 1) from by rw [hs0, if_neg (by rintro ⟨h, _⟩; omega)]; rfl)
       have N1 := zH (show t1 = cntI l 1 (k + 1) from by rw [hs1, if_neg (by rintro ⟨h, _⟩; omega)]; rfl)
       clear hs0 hs1 hc0 hc1 hpb hp1 hpwk hT4 hO4 hB4 
       go_wp2_with (at_builtin; refine Zaq _ rfl _ _ rfl rfl hoA rfl (Zak _ _ _ _ (by simp)) (by omega) oM ?_; intro A5 c5 w5 hown5 hg5 hat5)
       have hb5 := Zah hBA hoA hg5 (by simp; omega) lR
       have hT5 := hTA.alt (Alt.of_grown (S := fun i => (Value.slice O k oc).ownBlock = some i) hg5 (fun i h => h)) hOT.out
       have hOT5 : Hid ((Value.slice A5 (k + 1) c5).ownBlock ≠ some (w1.heap.size + 1)) := zH (fun hc => by
        rcases hat5 with h | h
        ·exact hOT.out (h.symm.trans hc)
        ·rw [hc] at h; have := hTA.lt; simp only [Option.some.injEq] at h; omega)
       rw [← hvs.out] at hown5
       clear hoA hBA hTA hg5 hat5
       go_wp2
       go_roundw
       case rel => exact ⟨k + 1, A5, c5, t0, t1, by omega, by go_num, rfl, hown5, hT5, hOT5, N0, N1, hb5⟩
       case measure => simp [intOf]; omega
     ·have hv2 := hvo (by omega)
      clear hvo hv1
      rw [lineV_6 k1] at hv2
      have q1 : (X.kind == 1) = false := by rw [k1]; decide
      have q2 : (X.kind == 2) = false := by rw [k1]; decide
      have q3 : (X.kind == 3) = false := by rw [k1]; decide
      have q4 : (X.kind == 4) = false := by rw [k1]; decide
      have q5 : (X.kind == 5) = false := by rw [k1]; decide
      have q6 : (X.kind == 6) = true := by rw [k1]; decide
      obtain ⟨pg, pq, hPe, hpg, hpc⟩ := hPr.2 (by omega)
      have g0 := hpc 0 (by omega)
      subst hPe
      simp only [Nat.add_zero] at g0
      have hlp0 : (0 : Int) < (X.parts.length : Int) := by omega
      have hlpn : 0 < X.parts.length := by omega
      rw [← hv2] at g0
      clear hpc hv2
      have hoA := hO4.alloc (.cells #[.int .i64 V] 3)
      have hBA := hB4.alloc hB4.size (.cells #[.int .i64 V] 3)
      have hTA := hT4.alt (Alt.of_new (S := fun _ => False) ((Below.refl w3.heap.size w3).alloc lR (.cells #[.int .i64 V] 3))) (fun h => h)
      have N0 := zH (show t0 = cntI l 0 (k + 1) from by rw [hs0, if_neg (by rintro ⟨h, _⟩; omega)]; rfl)
      have N1 := zH (show t1 = cntI l 1 (k + 1) from by rw [hs1, if_neg (by rintro ⟨h, _⟩; omega)]; rfl)
      clear hs0 hs1 hc0 hc1 hpb hp1 hpwk hT4 hO4 hB4 
      go_wp2_with (at_builtin; refine Zaq _ rfl _ _ rfl rfl hoA rfl (Zak _ _ _ _ (by simp)) (by omega) oM ?_; intro A5 c5 w5 hown5 hg5 hat5)
      have hb5 := Zah hBA hoA hg5 (by simp; omega) lR
      have hT5 := hTA.alt (Alt.of_grown (S := fun i => (Value.slice O k oc).ownBlock = some i) hg5 (fun i h => h)) hOT.out
      have hOT5 : Hid ((Value.slice A5 (k + 1) c5).ownBlock ≠ some (w1.heap.size + 1)) := zH (fun hc => by
       rcases hat5 with h | h
       ·exact hOT.out (h.symm.trans hc)
       ·rw [hc] at h; have := hTA.lt; simp only [Option.some.injEq] at h; omega)
      rw [← hvs.out] at hown5
      clear hoA hBA hTA hg5 hat5
      go_wp2
      go_roundw
      case rel => exact ⟨k + 1, A5, c5, t0, t1, by omega, by go_num, rfl, hown5, hT5, hOT5, N0, N1, hb5⟩
      case measure => simp [intOf]; omega
  ·obtain rfl : k = wn := by omega
   have hb9 := b1.trans (hbw.mono b1.size)
   go_wp2
   go_ret
   exact RetI.mk_ (hvlen _) rfl (hO.lo_ b1.size) hb9
end Go.Proofs.YtenknpcbbcbciaaGreat
