/- Contracts: SortsAll, NeedlessSteps, PruneNetwork, the program's. Steps: 2^21 at most. -/
import Derived.Test.YtjeojnfpeppclaaQR10
namespace Go.Proofs.Ytjeojnfpeppclaa
open Go.RowKit
set_option linter.unusedVariables false
set_option linter.unusedSimpArgs false
attribute [local go_sem] sepAt sepUpon pureAt pureUpon
def RetSw (w : World) (g n m : Nat) (ys : List Int) (f : Nat → Bool) (e : Ending) (w' : World) : Prop :=
 ∃ O oc, e = .returned (.slice O m oc) ∧ Own w' w.heap.size w'.heap.size (.slice O m oc) m ys ∧ BF w' g n f ∧ Alt (fun i => i = g) w w'
set_option maxRecDepth 100000 in
set_option maxHeartbeats 4000000 in
theorem sortWith_any (A : Option Addr) (n c : Nat) (ls : List Sp) (B : Option Addr) (m d : Nat) (xs : List Int) (g : Nat) (f : Nat → Bool) (w : World) (ha : RS w A n ls) (hn : n ≤ 60) (hbad : anyBad m ls = false) (hb : RI w B m xs) (hm : m ≤ 2097152) (hM : BF w g n f) (hag : 0 < n → ∀ b o, A = some ⟨b, o, none⟩ → b ≠ g) :
 Calls Try.prog 38 #[.slice A n c, .slice B m d, .slice (some ⟨g, 0, none⟩) n n] w (RetSw w g n m (srt ls xs n) fun j => f j || (decide (j < n) && didB ls xs j)) := by
 have hl := ha.len
 have hxl := hb.len
 have hgw := hM.lt
 have hsl := srt_len ls xs
 go_enter Try.func38, Try.ntmps38
 go_wp2_with fail
 refine (Clone_any B m d xs _ hb hm).mono ?_
 rintro e w1 ⟨O, oc, rfl, hO1, b1⟩
 have k1 : Alt (fun i => i = g) w w1 := Alt.of_new b1
 have hM1 := hM.alt (Alt.of_new (S := fun _ => False) b1) (fun h => h)
 have hz1 := b1.size
 clear hM hb b1
 go_wp2
 go_loopw [14] (fun i wr => ∃ k : Nat, k ≤ n ∧ i = .int .i64 k ∧ Own wr w.heap.size w1.heap.size (.slice O m oc) m (srt ls xs k) ∧ BF wr g n (fun j => f j || (decide (j < k) && didB ls xs j)) ∧ Alt (fun i => i = g) w wr ∧ w1.heap.size ≤ wr.heap.size) (fun i _ => n - (intOf i).toNat)
 case atStart => exact ⟨0, Nat.zero_le _, rfl, hO1, hM1.congr (fun j _ => by simp), k1, Nat.le_refl _⟩
 case round =>
  obtain ⟨k, hk, rfl, hO, hM, ka, hsz⟩ := hrel
  clear hO1 hM1 k1
  generalize wr = W0 at *
  by_cases hlt : k < n
  ·have hra : RS W0 A n ls := ha.alt ka (hag (by omega))
   obtain ⟨b, o, hA, hbB, c1, c2⟩ := hra.at_ hlt
   obtain ⟨h0, h1, h2⟩ := ok_at hbad (j := k) (by omega)
   have hy := fun h => srt_yes (ls := ls) (x := xs) (k := k) h
   have hno := fun h => srt_no (ls := ls) (x := xs) (k := k) h
   have hdd : didB ls xs k = decide (gi (srt ls xs k) (ss ls k).h.toNat < gi (srt ls xs k) (ss ls k).l.toNat) := rfl
   have hskl := hsl k
   obtain ⟨L, hL⟩ := Int.eq_ofNat_of_zero_le h0
   obtain ⟨H, hH⟩ := Int.eq_ofNat_of_zero_le (show 0 ≤ (ss ls k).h by omega)
   rw [hL] at c1 hy hdd h1
   rw [hH] at c2 hy hdd h1 h2
   simp only [Int.toNat_natCast] at hy hdd
   have hLH : L < H := by omega
   have hHm : H < m := by omega
   obtain ⟨S, hS⟩ := lT (srt ls xs k)
   rw [hS.out] at hO hy hno hdd hskl
   obtain ⟨u, hu⟩ := lT (gi S L)
   obtain ⟨v, hv⟩ := lT (gi S H)
   rw [hu.out, hv.out] at hy
   have hdd : didB ls xs k = decide (v < u) := by rw [hdd]; exact decide_eq_decide.2 (by rw [hu.out, hv.out])
   have HD := zH hdd
   have HY := zH hy
   have HN := zH hno
   clear hdd hy hno h0 h1 h2 hL hH hbad
   obtain ⟨q, hOq, hq1, hq2⟩ : ∃ q, O = some ⟨q, 0, none⟩ ∧ w.heap.size ≤ q ∧ q < w1.heap.size := by
    obtain ⟨q, cap, hv, h1, h2⟩ := hO.1.form (by omega)
    simp only [Value.slice.injEq, true_and] at hv
    exact ⟨q, hv.1, h1, (hO.lt q (by rw [hv.1]; simp [Value.ownBlock])).2.1⟩
   subst hOq
   have al : Below W0.heap.size W0 (W0.alloc (.cells #[.int .i64 L, .int .i64 H] 54)) := bA
   have kal : Alt (fun _ => False) W0 (W0.alloc (.cells #[.int .i64 L, .int .i64 H] 54)) := Alt.of_new al
   have s0 := Zaa W0 #[.int .i64 L, .int .i64 H] (T := 54) 0 (.int .i64 L) rfl
   have s1 := Zaa W0 #[.int .i64 L, .int .i64 H] (T := 54) 1 (.int .i64 H) rfl
   have hOA := hO.alt kal (fun _ _ h => h)
   have hMA := hM.alt kal (fun h => h)
   have kaA := ka.trans_ kal (fun _ _ h => h.elim)
   have hzA : (W0.alloc (.cells #[.int .i64 L, .int .i64 H] 54)).heap.size = W0.heap.size + 1 := by simp
   subst hA
   clear hO hM hra
   go_wp2_with fail
   clear c1 c2
   obtain ⟨WA, hWA⟩ := lT (W0.alloc (.cells #[.int .i64 L, .int .i64 H] 54))
   rw [hWA.out] at s0 s1 hOA hMA kaA hzA ⊢
   have hSz : W0.heap.size < WA.heap.size := by omega
   have hWl : w1.heap.size ≤ W0.heap.size := hsz
   obtain ⟨S0, hS0⟩ := lT (W0.heap.size)
   rw [hS0.out] at s0 s1 hSz hWl ⊢
   clear al kal hzA hWA ka
   have eL := (hOA.cellAt (k := L) (by omega)).1
   have eH := (hOA.cellAt (k := H) hHm).1
   rw [hu.out] at eL
   rw [hv.out] at eH
   have iL : (L : Int) < (m : Int) := by omega
   have iH : (H : Int) < (m : Int) := by omega
   have jL : L < m := by omega
   go_wp2_with fail
   refine Zau (11) [(⟨S0, 0, none⟩, .int .i64 (L : Int)), (⟨S0, 1, none⟩, .int .i64 (H : Int)), (⟨q, L, none⟩, .int .i64 u), (⟨q, H, none⟩, .int .i64 v)] [] [] [] (by kernel_rfl) (by kernel_rfl) (by kernel_rfl) (by simp only [cD, cC, and_true]; repeat (any_goals (apply And.intro)); all_goals (first | assumption | go_simp)) ?_
   simp only [List.take_succ_cons, List.take_zero, List.drop_succ_cons, List.drop_zero, List.take_nil, List.drop_nil, List.take, List.drop]
   repeat (first
    | ((first
     | ((with_reducible refine Zam ?_ ?_ ?_)
        ·exact rfl
        ·exact rfl)
     | ((with_reducible refine Zar ?_ ?_ ?_)
        ·exact rfl
        ·exact Zab rfl rfl rfl rfl))
       intro K hK
       apply Exists.intro
       refine ⟨fun w3 hw3 => ?_, ?_⟩
       ·have hcs := hw3
        simp only [cD, cC, and_true] at hcs
        clear hw3
        go_simp
        first | done | exact ⟨rfl, rfl⟩ | rfl
       refine hK _ ?_
       clear hK K
       try simp only [pA, pB, sA, sB, sC])
    | ((with_reducible refine Zaq ?_ ?_ ?_)
       ·exact rfl
       ·exact Zah rfl rfl rfl rfl
       simp only [pA, pB, sA, sB, sC]))
   refine Zbj ?_
   intro wy hwy hcy hfin hap
   have bwy := Zbh hwy
   have kwy : Alt (fun _ => False) WA wy := Alt.of_new bwy
   have hOy := hOA.alt kwy (fun _ _ h => h)
   have hMy := hMA.alt kwy (fun h => h)
   have kay := kaA.trans_ kwy (fun _ _ h => h.elim)
   have t0 := kwy.cell_ s0 (fun h => h)
   have t1 := kwy.cell_ s1 (fun h => h)
   have hzy := bwy.size
   clear hfin hap hcy hwy bwy kwy hOA hMA kaA s0 s1 eL eH
   by_cases hlt2 : v < u
   ·have hd : decide (v < u) = true := decide_eq_true hlt2
    have hdB : didB ls xs k = true := by rw [HD.out]; exact hd
    have HS2 := zH (HY.out hdB)
    have HM2 : Hid (∀ j, j < n → ((f j || (decide (j < k) && didB ls xs j)) || decide (j = k)) = (f j || (decide (j < k + 1) && didB ls xs j))) := zH (fun j _ => by
     by_cases hj : j = k
     ·subst hj; rw [hdB]; simp
     ·have e1 : decide (j = k) = false := decide_eq_false hj
      have e2 : decide (j < k + 1) = decide (j < k) := decide_eq_decide.2 (by omega)
      rw [e1, e2, Bool.or_false])
    have hng : q ≠ g := by omega
    have ngS : ¬ S0 = q := by omega
    have ngS2 : ¬ q = S0 := by omega
    have hqy : q < wy.heap.size := by omega
    clear hdB HD HY HN
    go_wp2_with fail
    refine wp_region_mem (20) ((fun i => i = q)) [(⟨S0, 0, none⟩, .int .i64 (L : Int)), (⟨S0, 1, none⟩, .int .i64 (H : Int))] [(10, [101], []), (15, [101], []), (17, [101], [101]), (19, [17], [17])] [101] [19] [(101, Res.orow w.heap.size w1.heap.size q m oc S), (10, Res.plain (.int .i64 v)), (15, Res.plain (.int .i64 u)), (17, Res.orow w.heap.size w1.heap.size q m oc (S.set L v)), (19, Res.orow w.heap.size w1.heap.size q m oc ((S.set L v).set H u))] ((upd (fun _ => undef) 101 undef)) (by kernel_rfl) (by kernel_rfl) (by kernel_rfl) (by simp only [cD, cC, and_true]; repeat (any_goals (apply And.intro)); all_goals (first | assumption | go_simp)) (fun q9 hq9 => by simp only [List.mem_cons, List.not_mem_nil, or_false] at hq9; rcases hq9 with rfl | rfl <;> intro hc <;> exact ngS hc) (⟨⟨hOy, fun b9 hb9 => ⟨.inr hb9, by have hb8 : b9 = q := hb9; rw [hb8]; exact hqy⟩⟩, trivial⟩) ((fun d hd d' hd' hn => absurd ((List.mem_singleton.1 hd).trans (List.mem_singleton.1 hd').symm) hn)) ?_
    simp only [List.take_succ_cons, List.take_zero, List.drop_succ_cons, List.drop_zero, List.take_nil, List.drop_nil, List.take, List.drop]
    repeat (first
     | ((first
      | ((with_reducible refine Zam ?_ ?_ ?_)
         ·exact rfl
         ·exact rfl)
      | ((with_reducible refine Zar ?_ ?_ ?_)
         ·exact rfl
         ·exact Zab rfl rfl rfl rfl))
        intro K hK
        apply Exists.intro
        refine ⟨fun w3 hw3 => ?_, ?_⟩
        ·have hcs := hw3
         simp only [cD, cC, and_true] at hcs
         clear hw3
         go_simp
         first | done | exact ⟨rfl, rfl⟩ | rfl
        refine hK _ ?_
        clear hK K
        try simp only [pA, pB, sA, sB, sC])
     | ((with_reducible refine Zaq ?_ ?_ ?_)
        ·exact rfl
        ·exact Zah rfl rfl rfl rfl
        simp only [pA, pB, sA, sB, sC]))
    focus
     (with_reducible refine mem_plain (.int .i64 v) ?_ ?_ ?_ ?_ (hw := ?_))
     ·exact rfl
     ·exact rfl
     ·intro w3 hw3 hc3 hp3
      have hcs := hc3
      simp only [cD, cC, and_true] at hcs
      (have hh : Own w3 w.heap.size w1.heap.size (Value.slice (some ⟨q, 0, none⟩) m oc) m S := hp3.1.1.1; obtain ⟨cc9, _⟩ := hh.cellAt (k := H) (by omega); rw [hv.out] at cc9; go_simp; exact postPlain.mk_ (Below.refl _ _))
     rotate_left
     ·first | exact Zaj rfl | exact Zab rfl rfl rfl rfl
     try simp only [pA, pB, sA, sB, sC]
    repeat (first
     | ((first
      | ((with_reducible refine Zam ?_ ?_ ?_)
         ·exact rfl
         ·exact rfl)
      | ((with_reducible refine Zar ?_ ?_ ?_)
         ·exact rfl
         ·exact Zab rfl rfl rfl rfl))
        intro K hK
        apply Exists.intro
        refine ⟨fun w3 hw3 => ?_, ?_⟩
        ·have hcs := hw3
         simp only [cD, cC, and_true] at hcs
         clear hw3
         go_simp
         first | done | exact ⟨rfl, rfl⟩ | rfl
        refine hK _ ?_
        clear hK K
        try simp only [pA, pB, sA, sB, sC])
     | ((with_reducible refine Zaq ?_ ?_ ?_)
        ·exact rfl
        ·exact Zah rfl rfl rfl rfl
        simp only [pA, pB, sA, sB, sC]))
    focus
     (with_reducible refine mem_plain (.int .i64 u) ?_ ?_ ?_ ?_ (hw := ?_))
     ·exact rfl
     ·exact rfl
     ·intro w3 hw3 hc3 hp3
      have hcs := hc3
      simp only [cD, cC, and_true] at hcs
      (have hh : Own w3 w.heap.size w1.heap.size (Value.slice (some ⟨q, 0, none⟩) m oc) m S := hp3.1.1.1; obtain ⟨cc9, _⟩ := hh.cellAt (k := L) (by omega); rw [hu.out] at cc9; go_simp; exact postPlain.mk_ (Below.refl _ _))
     rotate_left
     ·first | exact Zaj rfl | exact Zab rfl rfl rfl rfl
     try simp only [pA, pB, sA, sB, sC]
    repeat (first
     | ((first
      | ((with_reducible refine Zam ?_ ?_ ?_)
         ·exact rfl
         ·exact rfl)
      | ((with_reducible refine Zar ?_ ?_ ?_)
         ·exact rfl
         ·exact Zab rfl rfl rfl rfl))
        intro K hK
        apply Exists.intro
        refine ⟨fun w3 hw3 => ?_, ?_⟩
        ·have hcs := hw3
         simp only [cD, cC, and_true] at hcs
         clear hw3
         go_simp
         first | done | exact ⟨rfl, rfl⟩ | rfl
        refine hK _ ?_
        clear hK K
        try simp only [pA, pB, sA, sB, sC])
     | ((with_reducible refine Zaq ?_ ?_ ?_)
        ·exact rfl
        ·exact Zah rfl rfl rfl rfl
        simp only [pA, pB, sA, sB, sC]))
    refine mem_so 101 w.heap.size w1.heap.size q m oc S L v undef (by rfl) (by rfl) (by rfl) (by rfl) (by decide) (by rfl) (fun w3 hw3 hc3 hh => ?_) ?_
    ·obtain ⟨cc9, ff9⟩ := hh.cellAt (k := L) (by omega)
     rw [hu.out] at cc9
     go_simp
     first | done | exact ⟨rfl, rfl⟩ | rfl
    try simp only [pA, pB, sA, sB, sC]
    repeat (first
     | ((first
      | ((with_reducible refine Zam ?_ ?_ ?_)
         ·exact rfl
         ·exact rfl)
      | ((with_reducible refine Zar ?_ ?_ ?_)
         ·exact rfl
         ·exact Zab rfl rfl rfl rfl))
        intro K hK
        apply Exists.intro
        refine ⟨fun w3 hw3 => ?_, ?_⟩
        ·have hcs := hw3
         simp only [cD, cC, and_true] at hcs
         clear hw3
         go_simp
         first | done | exact ⟨rfl, rfl⟩ | rfl
        refine hK _ ?_
        clear hK K
        try simp only [pA, pB, sA, sB, sC])
     | ((with_reducible refine Zaq ?_ ?_ ?_)
        ·exact rfl
        ·exact Zah rfl rfl rfl rfl
        simp only [pA, pB, sA, sB, sC]))
    refine mem_so 17 w.heap.size w1.heap.size q m oc (S.set L v) H u undef (by rfl) (by rfl) (by rfl) (by rfl) (by decide) (by rfl) (fun w3 hw3 hc3 hh => ?_) ?_
    ·obtain ⟨cc9, ff9⟩ := hh.cellAt (k := H) (by omega)
     rw [gi_setI _ (by omega), if_neg (by omega), hv.out] at cc9
     go_simp
     first | done | exact ⟨rfl, rfl⟩ | rfl
    try simp only [pA, pB, sA, sB, sC]
    repeat (first
     | ((first
      | ((with_reducible refine Zam ?_ ?_ ?_)
         ·exact rfl
         ·exact rfl)
      | ((with_reducible refine Zar ?_ ?_ ?_)
         ·exact rfl
         ·exact Zab rfl rfl rfl rfl))
        intro K hK
        apply Exists.intro
        refine ⟨fun w3 hw3 => ?_, ?_⟩
        ·have hcs := hw3
         simp only [cD, cC, and_true] at hcs
         clear hw3
         go_simp
         first | done | exact ⟨rfl, rfl⟩ | rfl
        refine hK _ ?_
        clear hK K
        try simp only [pA, pB, sA, sB, sC])
     | ((with_reducible refine Zaq ?_ ?_ ?_)
        ·exact rfl
        ·exact Zah rfl rfl rfl rfl
        simp only [pA, pB, sA, sB, sC]))
    refine Zbj ?_
    intro wz hwz hcz hfin hap
    have hOz : Own wz w.heap.size w1.heap.size (Value.slice (some ⟨q, 0, none⟩) m oc) m ((S.set L v).set H u) := hfin.1.1
    have kz : Alt (fun i => i = q) wy wz := hwz.mono_ (fun i hi h => h.elim (fun h => by omega) (fun h => h))
    have hMz := hMy.alt kz (fun e => hng e.symm)
    have kaz := kay.trans_ kz (fun i hi e => by omega)
    have hzz := kz.size
    clear hfin hap hcz hwz kz hOy hMy kay t0 t1
    have mk := hMz.at_ k hlt
    have mf := hMz.fz k
    have hput := (hMz.put hlt).congr HM2.out
    have ks := (Alt.refl_ (fun i => i = g) wz).set_ ⟨g, k, none⟩ (.bool true) (fun _ => rfl)
    have hO9 := hOz.alt ks (fun q9 hq9 e => hng ((own_at hq9).symm.trans e))
    have ka9 := kaz.trans_ ks (fun _ _ h => h)
    have hz9 : w1.heap.size ≤ (wz.setCell ⟨g, k, none⟩ (.bool true)).heap.size := by simp; omega
    have hki : (k : Int) < (n : Int) := by omega
    clear ks hMz hOz kaz
    go_wp2
    go_roundw
    case rel => exact ⟨k + 1, by omega, by go_num, by rw [HS2.out]; exact hO9, hput, ka9, hz9⟩
    case measure => simp [intOf]; omega
   ·have hd : decide (v < u) = false := decide_eq_false hlt2
    have hdB : didB ls xs k = false := by rw [HD.out]; exact hd
    have HS2 := zH (HN.out hdB)
    have hM2 := hMy.congr (f' := fun j => f j || (decide (j < k + 1) && didB ls xs j)) (fun j _ => by
     by_cases hj : j = k
     ·subst hj; rw [hdB]; simp
     ·have e2 : decide (j < k + 1) = decide (j < k) := decide_eq_decide.2 (by omega)
      rw [e2])
    have hz9 : w1.heap.size ≤ wy.heap.size := by omega
    clear hdB HD HY HN hMy t0 t1
    go_wp2
    go_roundw
    case rel => exact ⟨k + 1, by omega, by go_num, by rw [HS2.out]; exact hOy, hM2, kay, hz9⟩
    case measure => simp [intOf]; omega
  ·obtain rfl : n = k := by omega
   go_wp2
   go_ret
   exact ⟨O, oc, rfl, hO.now, hM, ka⟩
end Go.Proofs.Ytjeojnfpeppclaa
namespace Go.Proofs.Ytjeojnfpeppclaa
open Go.RowKit
set_option linter.unusedVariables false
set_option linter.unusedSimpArgs false
theorem or_shift {z x : Int} {i : Nat} (hz : 0 ≤ z ∧ z < 2 ^ i) (hx : 0 ≤ x ∧ x ≤ 1) (hi : i < 40) : bits .or .i64 z (wrap64 (x * 2 ^ i)) = z + x * 2 ^ i := by
 obtain ⟨Z, rfl⟩ := Int.eq_ofNat_of_zero_le hz.1
 obtain ⟨X, rfl⟩ := Int.eq_ofNat_of_zero_le hx.1
 have hX : X ≤ 1 := by omega
 have h1 : Z < 2 ^ i := by have := hz.2; exact_mod_cast this
 have h2 : 2 ^ i ≤ 2 ^ 40 := Nat.pow_le_pow_right (by omega) (by omega)
 have h3 : (2 : Nat) ^ 40 = 1099511627776 := by decide
 have h5 : X * 2 ^ i ≤ 1 * 2 ^ i := Nat.mul_le_mul_right _ hX
 have h4 : ((X : Int) * 2 ^ i) = ((X * 2 ^ i : Nat) : Int) := by rw [Int.natCast_mul, Int.natCast_pow]; rfl
 have h6 : wrap64 ((X : Int) * 2 ^ i) = ((X * 2 ^ i : Nat) : Int) := by rw [h4]; exact IntWalk.wrap64_in ((X * 2 ^ i : Nat) : Int) (by omega)
 rw [h6, h4, bor_nat (by omega) (by omega), or_place h1]; omega
theorem btOf_any (n k : Nat) (w : World) (hn : n ≤ 1099511627776) (hk : k ≤ 1000000) : Calls Try.prog 60 #[.int .i64 n, .int .i64 k] w (RetI w (bitsN n k)) := by
 go_enter Try.func60, Try.ntmps60
 go_wp2
 go_loopw [5, 0, 1] (fun v a b wr => ∃ (i : Nat) (A' : Option Addr) (c' : Nat), i ≤ k ∧ b = .int .i64 ((k - i : Nat) : Int) ∧ a = .int .i64 ((n / 2 ^ i : Nat) : Int) ∧ v = .slice A' i c' ∧ Own wr w.heap.size wr.heap.size (.slice A' i c') i (bitsN n i) ∧ Below w.heap.size w wr) (fun _ _ b _ => (intOf b).toNat)
 case atStart => exact ⟨0, _, _, Nat.zero_le _, rfl, by simp, rfl, Own.none_ _ _ _, Below.refl _ _⟩
 case round =>
  obtain ⟨i, A', c', hi, rfl, rfl, rfl, hown, hbw⟩ := hrel
  by_cases hlt : i < k
  ·have hsn : Hid (bitsN n (i + 1) = bitsN n i ++ [((n / 2 ^ i % 2 : Nat) : Int)]) := zH (bitsN_snoc n i)
   have hdv : Hid (n / 2 ^ (i + 1) = n / 2 ^ i / 2) := zH (by rw [Nat.pow_succ, Nat.div_div_eq_div_mul])
   have hle : n / 2 ^ i ≤ n := Nat.div_le_self _ _
   generalize n / 2 ^ i = z at *
   have hz := hbw.size
   rw [Int.natCast_emod] at hsn
   have hownA := hown.alloc (.cells #[.int .i64 ((z : Int) % 2)] 3)
   have hbA := hbw.alloc hz (.cells #[.int .i64 ((z : Int) % 2)] 3)
   go_wp2_with (at_builtin; refine Zao _ rfl _ _ rfl rfl hownA rfl (Zbb _ _ _ _ (by simp)) (by omega) oM ?_; intro A5 c5 w5 hown5 hg5 hat5)
   have hb5 := Zaf hbA hownA hg5 (by simp; omega) lR
   rw [show [(z : Int) % ((2 : Nat) : Int)] = [(z : Int) % 2] from rfl] at hsn
   rw [← hsn.out] at hown5
   clear hbA hownA hg5 hat5 hown hbw
   go_wp2
   go_roundw
   case rel => exact ⟨i + 1, _, _, by omega, by go_num, by rw [hdv.out]; go_num, rfl, hown5, hb5⟩
   case measure => simp [intOf]; omega
  ·obtain rfl : i = k := by omega
   go_wp2
   go_ret
   exact RetI.mk_ (Zat _ _) rfl hown hbw
theorem bitsOf_any (n k : Nat) (w : World) (hn : n ≤ 1099511627776) (hk : k ≤ 40) : Calls Try.prog 51 #[.int .i64 n, .int .i64 k] w (RetI w (bitsN n k)) := by
 go_enter Try.func51, Try.ntmps51
 go_wp2
 go_loopw [5, 9] (fun v b wr => ∃ (i : Nat) (A' : Option Addr) (c' : Nat), i ≤ k ∧ b = .int .i64 i ∧ v = .slice A' i c' ∧ Own wr w.heap.size wr.heap.size (.slice A' i c') i (bitsN n i) ∧ Below w.heap.size w wr) (fun _ b _ => k - (intOf b).toNat)
 case atStart => exact ⟨0, _, _, Nat.zero_le _, rfl, rfl, by simpa [bitsN, tab_zero] using Zcc w w.heap.size lR, bA⟩
 case round =>
  obtain ⟨i, A', c', hi, rfl, rfl, hown, hbw⟩ := hrel
  by_cases hlt : i < k
  ·have hsn : Hid (bitsN n (i + 1) = bitsN n i ++ [((n / 2 ^ i % 2 : Nat) : Int)]) := zH (bitsN_snoc n i)
   have hz := hbw.size
   have hle : n / 2 ^ i ≤ n := Nat.div_le_self _ _
   have hq : Hid (bits .and .i64 ((n : Int) / 2 ^ i) 1 = ((n / 2 ^ i % 2 : Nat) : Int)) := zH (by
    have h1 := band_nat (a := n / 2 ^ i) (b := 1) (by omega) (by omega)
    rw [and_one] at h1
    rw [← h1]; simp [Int.natCast_ediv, Int.natCast_pow])
   rw [← hq.out] at hsn
   have hownA := hown.alloc (.cells #[.int .i64 (bits .and .i64 ((n : Int) / 2 ^ i) 1)] 3)
   have hbA := hbw.alloc hz (.cells #[.int .i64 (bits .and .i64 ((n : Int) / 2 ^ i) 1)] 3)
   go_wp2_with (at_builtin; refine Zao _ rfl _ _ rfl rfl hownA rfl (Zbb _ _ _ _ (by simp)) (by omega) oM ?_; intro A5 c5 w5 hown5 hg5 hat5)
   have hb5 := Zaf hbA hownA hg5 (by simp; omega) lR
   rw [← hsn.out] at hown5
   clear hbA hownA hg5 hat5 hown hbw
   go_wp2
   go_roundw
   case rel => exact ⟨i + 1, _, _, by omega, by go_num, rfl, hown5, hb5⟩
   case measure => simp [intOf]; omega
  ·obtain rfl : i = k := by omega
   go_wp2
   go_ret
   exact RetI.mk_ (Zat _ _) rfl hown hbw
theorem number_any (A : Option Addr) (n c : Nat) (xs : List Int) (w : World) (ha : RI w A n xs) (hn : n ≤ 40) (hx : allB 0 1 xs = true) : Calls Try.prog 55 #[.slice A n c] w fun e w' => e = .returned (.int .i64 (numN xs)) ∧ w = w' := by
 have hl := ha.len
 have HB := zH fun i => numN_bd (allB_take_ hx i)
 go_enter Try.func55, Try.ntmps55
 go_wp2
 go_loop [3, 8] (fun v b => ∃ i : Nat, i ≤ n ∧ b = .int .i64 i ∧ v = .int .i64 (numN (xs.take i))) (fun _ b => n - (intOf b).toNat)
 case atStart => exact ⟨0, Nat.zero_le _, rfl, rfl⟩
 case round =>
  obtain ⟨i, hi, rfl, rfl⟩ := hrel
  by_cases hlt : i < n
  ·obtain ⟨b, o, rfl, hbB, e1⟩ := ha.at_ (k := i) hlt
   clear ha
   obtain ⟨c1, c2⟩ := Zbk hx (j := i) (by omega)
   obtain ⟨b1, b2⟩ := HB.out i
   have hs : Hid (numN (xs.take (i + 1)) = numN (xs.take i) + gi xs i * 2 ^ i) := zH (by
    rw [Zbo (by omega), numN_snoc, List.length_take, Nat.min_eq_left (by omega)])
   have hln : (xs.take i).length = i := by simp; omega
   rw [hln] at b2
   generalize numN (xs.take i) = z at *
   generalize gi xs i = x at *
   have hq : Hid (bits .or .i64 z (wrap64 (x * 2 ^ i)) = z + x * 2 ^ i) := zH (or_shift ⟨b1, b2⟩ ⟨c1, c2⟩ (by omega))
   clear b1 b2
   go_wp2
   go_round
   case rel => exact ⟨i + 1, by omega, by go_num, by rw [hs.out, hq.out]⟩
   case measure => simp [intOf]; omega
  ·obtain rfl : i = n := by omega
   have ht : Hid (numN (xs.take i) = numN xs) := zH (by rw [List.take_of_length_le (by omega)])
   go_wp2
   go_ret
   exact ⟨by rw [← ht.out]; rfl, rfl⟩
def sameB (xs ys : List Int) : Bool := decide (xs = ys)
theorem sameB_len {xs ys : List Int} (h : xs.length ≠ ys.length) : sameB xs ys = false := by
 simp only [sameB, decide_eq_false_iff_not]; intro hc; exact h (by rw [hc])
theorem sameB_at {xs ys : List Int} {k : Nat} (h : gi xs k ≠ gi ys k) : sameB xs ys = false := by
 simp only [sameB, decide_eq_false_iff_not]; intro hc; exact h (by rw [hc])
theorem sameB_all {xs ys : List Int} (h : xs.length = ys.length) (hg : ∀ j, j < xs.length → gi xs j = gi ys j) : sameB xs ys = true := by
 simp only [sameB, decide_eq_true_eq]; exact gi_eq h hg
attribute [local go_sem] sepAt sepUpon pureAt pureUpon
def Res.bn (lo n : Nat) : Res :=
 ⟨fun _ v => ∃ g, v = .slice (some ⟨g, 0, none⟩) n n, fun _ v w => ∀ g, v = .slice (some ⟨g, 0, none⟩) n n → lo ≤ g ∧ BF w g n (fun _ => false), fun _ v b => v = .slice (some ⟨b, 0, none⟩) n n, fun _ => ⟨.slice (some ⟨0, 0, none⟩) n n, 0, rfl⟩,
  fun _ v w w' S h k hb g hv => ⟨(h g hv).1, (h g hv).2.alt k (hb g hv).1⟩⟩
def postBn (w : World) (n : Nat) (v : Value) (w' : World) : Prop := ∃ g, v = .slice (some ⟨g, 0, none⟩) n n ∧ w.heap.size ≤ g ∧ BF w' g n (fun _ => false) ∧ Below w.heap.size w w'
section
variable {P : Program} {W : World} {own : Nat → Prop} {cs : List (Addr × Value)} {sk : List (Nat × List Nat × List Nat)} {ini fi : List Nat} {rs : List (Nat × Res)} {ops : Array Oper} {L : Act → (Nat → Value) → Prop} {k : Nat} {o : Oper} {rest : List Oper} {a : Act} {ρ : Nat → Value}
theorem mem_bn (lo n : Nat) (hr : resAt rs k = Res.bn lo n) (he : effB sk k = true) (hlo : lo ≤ W.heap.size) (hx : ∀ w, Alt (okB W own) W w → CellsL w cs → sepAt P o a (postBn w n) w)
 (h : ∀ g, wpSep (mkSep W own cs sk ini fi rs) P ops L (k + 1) rest (a.put o.dst (.slice (some ⟨g, 0, none⟩) n n)) (upd ρ k (.slice (some ⟨g, 0, none⟩) n n))) (hw : Region.wanted o (yielded ops a.tmps) = true := by first | exact Zaj rfl | exact Zab rfl rfl rfl rfl) : wpSep (mkSep W own cs sk ini fi rs) P ops L k (o :: rest) a ρ :=
 mem_eff (hw := hw) _ hr he (fun w hw hc hp => Zbu (hx w hw hc) fun v w' ⟨g, h1, h2, h3, h4⟩ => by
  subst h1
  refine ⟨⟨g, rfl⟩, fun g' hg' => ?_, Alt.of_new h4, fun g' hg' => ?_⟩
  ·simp only [Value.slice.injEq, Option.some.injEq, Addr.mk.injEq, and_true] at hg'
   subst hg'
   exact ⟨Nat.le_trans hlo (Nat.le_trans hw.size h2), h3⟩
  ·have hg'' : Value.slice (some ⟨g, 0, none⟩) n n = .slice (some ⟨g', 0, none⟩) n n := hg'
   simp only [Value.slice.injEq, Option.some.injEq, Addr.mk.injEq, and_true] at hg''
   subst hg''
   exact ⟨h3.lt, .inl h2⟩) fun v hv => by
  obtain ⟨g, rfl⟩ := hv
  exact h g
end
theorem sep_makeB {o : Oper} {a : Act} (l c : Operand) (ho : o.op = .makeSlice 57 l c) (N : Nat) (hl : a.eval l = .int .i64 (N : Int)) (hc : a.eval c = .int .i64 (N : Int)) (hN : N ≤ 4194304) (w : World) : sepAt Try.prog o a (postBn w N) w := by
 obtain ⟨i0, hi, hz0, hz1, hz2⟩ := info_parts info_boolF
 obtain ⟨w', hrun, r1, r2⟩ := run_make_full (P := Try.prog) w w.heap.size 57 4 i0 (.bool false) 1 Try.underlying57 hi hz0 hz1 .i64 .i64 N (by rw [hz2]; omega) (by unfold maxLen; omega) lR
 simp [sepAt, execOp, ho, hl, hc, hrun, sepUpon]
 exact ⟨_, rfl, Nat.le_refl _, BF.made r1 (r1.lt w.heap.size (by simp [Value.ownBlock])).2, Zax r2⟩
theorem pow_wrapS {X N : Nat} (hN : N = 2 ^ X) (h : X ≤ 12) : N ≤ 4096 ∧ wrap64 ((2 : Int) ^ X) = N := by
 have h1 : 2 ^ X ≤ 2 ^ 12 := Nat.pow_le_pow_right (n := 2) (by omega) h
 have h2 : (2 : Int) ^ X = (N : Int) := by rw [hN, Int.natCast_pow]; rfl
 rw [h2]
 exact ⟨by omega, IntWalk.wrap64_in _ (by omega)⟩
def RetZo (w : World) (N m : Nat) (ls : List Sp) (e : Ending) (w' : World) : Prop :=
 ∃ (V : Int) (g : Nat), e = .returned (.tuple #[.int .i64 V, .slice (some ⟨g, 0, none⟩) m m]) ∧ decide (V < 0) = allK N ls (2 ^ N) ∧ BF w' g m (usedB N ls) ∧ w.heap.size ≤ g ∧ Below w.heap.size w w'
set_option maxRecDepth 100000 in
set_option maxHeartbeats 4000000 in
theorem zeroOnes_any (N : Nat) (A : Option Addr) (m c : Nat) (ls : List Sp) (w : World) (ha : RS w A m ls) (hm : m ≤ 60) (hN : N ≤ 12) (hbad : anyBad N ls = false) :
 Calls Try.prog 31 #[.int .i64 N, .slice A m c] w (RetZo w N m ls) := by
 have hl := ha.len
 obtain ⟨P, hP⟩ : ∃ P, P = 2 ^ N := ⟨_, rfl⟩
 obtain ⟨hP1, hsh⟩ := pow_wrapS hP hN
 have HP := zH hP
 clear hP
 go_enter Try.func31, Try.ntmps31
 go_wp2_with fail
 refine Zau (5) [] [(2, [], [])] [2] [(2, Res.bn w.heap.size m)] (by kernel_rfl) (by kernel_rfl) (by kernel_rfl) (by simp only [cD, cC, and_true]; repeat (any_goals (apply And.intro)); all_goals (first | assumption | go_simp)) ?_
 simp only [List.take_succ_cons, List.take_zero, List.drop_succ_cons, List.drop_zero, List.take_nil, List.drop_nil, List.take, List.drop]
 repeat (first
  | ((first
   | ((with_reducible refine Zam ?_ ?_ ?_)
      ·exact rfl
      ·exact rfl)
   | ((with_reducible refine Zar ?_ ?_ ?_)
      ·exact rfl
      ·exact Zab rfl rfl rfl rfl))
     intro K hK
     apply Exists.intro
     refine ⟨fun w3 hw3 => ?_, ?_⟩
     ·have hcs := hw3
      simp only [cD, cC, and_true] at hcs
      clear hw3
      go_simp
      first | done | exact ⟨rfl, rfl⟩ | rfl
     refine hK _ ?_
     clear hK K
     try simp only [pA, pB, sA, sB, sC])
  | ((with_reducible refine Zaq ?_ ?_ ?_)
     ·exact rfl
     ·exact Zah rfl rfl rfl rfl
     simp only [pA, pB, sA, sB, sC]))
 (with_reducible refine mem_bn w.heap.size m ?_ ?_ ?_ ?_ ?_ (hw := ?_))
 ·exact rfl
 ·exact rfl
 ·omega
 ·intro w3 hw3 hc3; exact sep_makeB _ _ rfl m rfl rfl (by omega) _
 rotate_left
 ·first | exact Zaj rfl | exact Zab rfl rfl rfl rfl
 intro g
 try simp only [pA, pB, sA, sB, sC]
 repeat (first
  | ((first
   | ((with_reducible refine Zam ?_ ?_ ?_)
      ·exact rfl
      ·exact rfl)
   | ((with_reducible refine Zar ?_ ?_ ?_)
      ·exact rfl
      ·exact Zab rfl rfl rfl rfl))
     intro K hK
     apply Exists.intro
     refine ⟨fun w3 hw3 => ?_, ?_⟩
     ·have hcs := hw3
      simp only [cD, cC, and_true] at hcs
      clear hw3
      go_simp
      first | done | exact ⟨rfl, rfl⟩ | rfl
     refine hK _ ?_
     clear hK K
     try simp only [pA, pB, sA, sB, sC])
  | ((with_reducible refine Zaq ?_ ?_ ?_)
     ·exact rfl
     ·exact Zah rfl rfl rfl rfl
     simp only [pA, pB, sA, sB, sC]))
 refine Zbj ?_
 intro wy hwy hcy hfin hap
 have bwy := Zbh hwy
 obtain ⟨hg, hM0⟩ := hfin.1.1 g rfl
 clear hfin hap hcy hwy
 go_wp2_with fail
 rw [hsh]
 go_loopw [6, 15] (fun v i wr => ∃ (k : Nat) (V : Int), k ≤ P ∧ i = .int .i64 k ∧ v = .int .i64 V ∧ Hid (decide (V < 0) = allK N ls k) ∧ BF wr g m (anyK N ls k) ∧ Below w.heap.size w wr) (fun _ i _ => P - (intOf i).toNat)
 case atStart => exact ⟨0, -1, Nat.zero_le _, rfl, rfl, zH rfl, hM0.congr (fun j _ => (anyK_zero N ls j).symm), bwy⟩
 case round =>
  obtain ⟨k, V, hk, rfl, rfl, hV, hM, hb⟩ := hrel
  clear hM0 bwy
  have hz := hb.size
  by_cases hlt : k < P
  ·have hlt' : (k : Int) < (P : Int) := by omega
   obtain ⟨S, hS⟩ := lT (srt ls (bitsN k N) m)
   obtain ⟨u, hu⟩ := lT (upB S)
   have hsa : Hid (allK N ls (k + 1) = (allK N ls k && u)) := zH (by rw [allK_succ, hl, hS.out, hu.out])
   have hma : Hid (∀ j, j < m → (anyK N ls k j || (decide (j < m) && didB ls (bitsN k N) j)) = anyK N ls (k + 1) j) := zH (fun j hj => by rw [anyK_succ, decide_eq_true hj, Bool.true_and])
   go_wp2_with fail
   refine (bitsOf_any k N _ (by omega) (by omega)).mono ?_
   rintro e w1 hT1
   obtain ⟨B, bc, rfl, ho1, hb1⟩ := RetI.open_ hT1 (Zat _ _)
   have hM1 := hM.alt (Alt.of_new (S := fun _ => False) hb1) (fun h => h)
   have hB1 := hb.trans (hb1.mono hz)
   clear hT1 hM hb hb1
   go_wp2_with fail
   refine (sortWith_any A m c ls B N bc (bitsN k N) g (anyK N ls k) _ (ha.below hB1 lR) hm hbad ho1.reads (by omega) hM1 (fun hn b o hA => by obtain ⟨b', o', hA', hb', _⟩ := ha.2 hn; rw [hA] at hA'; simp only [Option.some.injEq, Addr.mk.injEq, and_true] at hA'; omega)).mono ?_
   rintro e w2 ⟨O, oc, rfl, hO2, hM2, k2⟩
   have hB2 := hB1.trans (k2.below_ hB1.size (fun i hi e => by omega))
   rw [hS.out] at hO2
   clear ho1 hM1 hB1 k2
   go_wp2_with fail
   refine (IsSorted_any O N oc S _ hO2.reads (by omega)).mono ?_
   rintro e w3 ⟨rfl, hb3⟩
   have hM3 := (hM2.alt (Alt.of_new (S := fun _ => False) hb3) (fun h => h)).congr hma.out
   have hB3 := hB2.trans (hb3.mono hB2.size)
   rw [hu.out]
   clear hM2 hB2 hb3 hO2
   cases u with
   | true =>
    have HV : Hid (decide (V < 0) = allK N ls (k + 1)) := zH (by rw [hsa.out, Bool.and_true]; exact hV.out)
    go_wp2
    go_roundw
    case rel => exact ⟨k + 1, V, by omega, by go_num, rfl, HV, hM3, hB3⟩
    case measure => simp [intOf]; omega
   | false =>
    by_cases hv : V < 0
    ·have HV : Hid (decide ((k : Int) < 0) = allK N ls (k + 1)) := zH (by rw [hsa.out, Bool.and_false]; exact decide_eq_false (by omega))
     go_wp2
     go_roundw
     case rel => exact ⟨k + 1, k, by omega, by go_num, rfl, HV, hM3, hB3⟩
     case measure => simp [intOf]; omega
    ·have HV : Hid (decide (V < 0) = allK N ls (k + 1)) := zH (by rw [hsa.out, Bool.and_false]; exact decide_eq_false hv)
     go_wp2
     go_roundw
     case rel => exact ⟨k + 1, V, by omega, by go_num, rfl, HV, hM3, hB3⟩
     case measure => simp [intOf]; omega
  ·obtain rfl : P = k := by omega
   have HV := hV.out
   rw [HP.out] at HV
   have HM : BF wr g m (usedB N ls) := hM.congr (fun j _ => by rw [HP.out]; exact anyK_all N ls j)
   go_wp2
   go_ret2
   exact ⟨V, g, rfl, HV, HM, hg, hb⟩
end Go.Proofs.Ytjeojnfpeppclaa
namespace Go.Proofs.Ytjeojnfpeppclaa
open Go.RowKit
set_option linter.unusedVariables false
set_option linter.unusedSimpArgs false
attribute [local go_sem] sepAt sepUpon pureAt pureUpon
theorem Zbf {n : Int} {ls : List Sp} (h : netB n ls = true) : ∃ N : Nat, n = N ∧ 1 ≤ N ∧ N ≤ 12 ∧ ls.length ≤ 60 ∧ anyBad N ls = false := by
 simp only [netB, Bool.and_eq_true, decide_eq_true_eq, Bool.not_eq_true'] at h
 have b1 := inB_iff.1 h.1
 refine ⟨n.toNat, by omega, by omega, by omega, h.2.1, ?_⟩
 rw [show ((n.toNat : Nat) : Int) = n by omega]; exact h.2.2
def ndF (n : Int) (ls : List Sp) : Option (List Int) := if netB n ls then some (idles (usedB n.toNat ls) ls.length) else none
def prF (n : Int) (ls : List Sp) : Option (List Sp) := if netB n ls then some (kept ls (usedB n.toNat ls) ls.length) else none
def RetOS (w : World) (o : Option (List Sp)) (e : Ending) (w' : World) : Prop :=
 ∃ A c, e = .returned (.tuple #[.slice A (o.getD []).length c, .bool o.isSome]) ∧ OwnS w' w.heap.size w'.heap.size (.slice A (o.getD []).length c) (o.getD []).length (o.getD []) ∧ Below w.heap.size w w'
theorem RetOS.none_ {w w' : World} {o : Option (List Sp)} (h : o = none) (hb : Below w.heap.size w w') : RetOS w o (.returned (.tuple #[.slice none 0 0, .bool false])) w' := by
 subst h; exact ⟨none, 0, rfl, OwnS.none_ _ _ _, hb⟩
theorem RetOS.some_ {w w' : World} {o : Option (List Sp)} {ls : List Sp} {n c : Nat} {A : Option Addr} (h : o = some ls) (hn : ls.length = n) (ho : OwnS w' w.heap.size w'.heap.size (.slice A n c) n ls) (hb : Below w.heap.size w w') : RetOS w o (.returned (.tuple #[.slice A n c, .bool true])) w' := by
 subst h; subst hn; exact ⟨A, c, rfl, ho, hb⟩
theorem SortsAll_any (n : Int) (A : Option Addr) (m c : Nat) (ls : List Sp) (w : World) (ha : RS w A m ls) (hm : m ≤ 2097152) :
 Calls Try.prog 11 #[.int .i64 n, .slice A m c] w fun e w' => e = .returned (.tuple #[.bool (netB n ls && allK n.toNat ls (2 ^ n.toNat)), .bool (netB n ls)]) ∧ Below w.heap.size w w' := by
 have hl := ha.len
 cases h1 : netB n ls with
 | false =>
  have H1 := zH h1; clear h1
  go_enter Try.func11, Try.ntmps11
  go_wp2_with fail
  refine (Zag n A m c ls _ ha hm).mono ?_
  rintro e v1 ⟨rfl, hb1⟩
  rw [H1.out]
  go_wp2
  go_ret2
  exact ⟨rfl, hb1⟩
 | true =>
  obtain ⟨N, rfl, hN1, hN, h60, hbad⟩ := Zbf h1
  have H1 := zH h1; clear h1
  go_enter Try.func11, Try.ntmps11
  go_wp2_with fail
  refine (Zag N A m c ls _ ha hm).mono ?_
  rintro e v1 ⟨rfl, hb1⟩
  rw [H1.out]
  go_wp2_with fail
  refine (zeroOnes_any N A m c ls _ (ha.below hb1 lR) (by omega) hN hbad).mono ?_
  rintro e v2 ⟨V, g, rfl, hV, hM, hg, hb2⟩
  have HV := zH hV
  clear hV hM
  go_wp2
  go_ret2
  exact ⟨by rw [Int.toNat_natCast, ← HV.out]; rfl, hb1.trans (hb2.mono hb1.size)⟩
set_option maxRecDepth 100000 in
set_option maxHeartbeats 2000000 in
theorem NeedlessSteps_any (n : Int) (A : Option Addr) (m c : Nat) (ls : List Sp) (w : World) (ha : RS w A m ls) (hm : m ≤ 2097152) :
 Calls Try.prog 15 #[.int .i64 n, .slice A m c] w (RetO w (ndF n ls)) := by
 have hl := ha.len
 cases h1 : netB n ls with
 | false =>
  have HR : Hid (ndF n ls = none) := zH (by simp [ndF, h1])
  have H1 := zH h1; clear h1
  go_enter Try.func15, Try.ntmps15
  go_wp2_with fail
  refine (Zag n A m c ls _ ha hm).mono ?_
  rintro e v1 ⟨rfl, hb1⟩
  rw [H1.out]
  go_wp2
  go_ret2
  exact RetO.none_ hb1 HR.out rfl
 | true =>
  obtain ⟨N, rfl, hN1, hN, h60, hbad⟩ := Zbf h1
  have HR : Hid (ndF N ls = some (idles (usedB N ls) m)) := zH (by simp [ndF, h1, hl])
  have H1 := zH h1; clear h1
  go_enter Try.func15, Try.ntmps15
  go_wp2_with fail
  refine (Zag N A m c ls _ ha hm).mono ?_
  rintro e v1 ⟨rfl, hb1⟩
  rw [H1.out]
  have hE0 := Zcc v1 w.heap.size hb1.size
  have hB1 := hb1.alloc hb1.size (.cells #[] 3)
  have hz1 := hb1.size
  have hz2 : (v1.alloc (.cells #[] 3)).heap.size = v1.heap.size + 1 := by simp
  go_wp2_with fail
  refine (zeroOnes_any N A m c ls _ (ha.below hB1 lR) (by omega) hN hbad).mono ?_
  rintro e v2 ⟨V, g, rfl, hV, hM, hg, hb2⟩
  rw [hz2] at hg
  have hE2 := hE0.below hb2 (.inr (by rw [hz2]; exact Nat.le_refl _))
  have hB2 := hB1.trans (hb2.mono hB1.size)
  have hV2 := hb2.size
  rw [hz2] at hV2
  generalize usedB N ls = f at *
  clear hV hE0 hB1 hb2 hb1 hbad
  go_wp2_with fail
  go_loopw [6, 24] (fun v i wr => ∃ (k : Nat) (A' : Option Addr) (c' : Nat), k ≤ m ∧ i = .int .i64 k ∧ v = .slice A' (idles f k).length c' ∧ Own wr w.heap.size wr.heap.size (.slice A' (idles f k).length c') (idles f k).length (idles f k) ∧ (∀ b, (Value.slice A' (idles f k).length c').ownBlock = some b → b ≠ g) ∧ BF wr g m f ∧ Below w.heap.size w wr) (fun _ i _ => m - (intOf i).toNat)
  case atStart => exact ⟨0, _, _, Nat.zero_le _, rfl, rfl, hE2.now, fun b hb => by simp [Value.ownBlock] at hb; omega, hM, hB2⟩
  case round =>
   clear hE2 hM hB2
   obtain ⟨k, A', c', hk, rfl, rfl, ho, hne, hR, hb⟩ := hrel
   have hz := hb.size
   have hlen := idles_len f k
   by_cases hlt : k < m
   ·have hcb := hR.at_ k hlt
    have hglt := hR.lt
    cases hu : f k with
    | false =>
     have hsn : Hid (idles f (k + 1) = idles f k ++ [(k : Int)]) := zH (by rw [idles, hu]; rfl)
     rw [hu] at hcb
     generalize hM : idles f k = M at *
     have hM2 := zH hM; clear hM hu
     obtain ⟨q, hq⟩ : ∃ q, M.length = q := ⟨_, rfl⟩
     rw [hq] at ho hne hlen ⊢
     have hq2 := zH hq; clear hq
     have hoA := ho.alloc (.cells #[.int .i64 (k : Int)] 3)
     have hbA := hb.alloc hz (.cells #[.int .i64 (k : Int)] 3)
     have hRA := hR.alt (Alt.of_new (S := fun _ => False) ((Below.refl wr.heap.size wr).alloc lR (.cells #[.int .i64 (k : Int)] 3))) (fun h => h)
     go_wp2_with (at_builtin; refine Zao _ rfl _ _ rfl rfl hoA rfl (Zbb _ _ _ _ (by simp)) (by omega) oM ?_; intro A5 c5 w5 hown5 hg5 hat5)
     have hb5 := Zaf hbA hoA hg5 (by simp; omega) (by omega)
     have hR5 := hRA.alt (Alt.of_grown (S := fun i => (Value.slice A' q c').ownBlock = some i) hg5 (fun i hi => hi)) (fun hc => hne g hc rfl)
     have hne5 : ∀ b, (Value.slice A5 (q + 1) c5).ownBlock = some b → b ≠ g := fun b hb9 => by
      rcases hat5 with h | h
      ·exact hne b (h.symm.trans hb9)
      ·rw [hb9] at h; injection h with h; simp at h; omega
     rw [← hsn.out] at hown5
     have hl5 : Hid ((idles f (k + 1)).length = q + 1) := zH (by rw [hsn.out]; simp [hq2.out])
     clear ho hb hoA hbA hg5 hat5 hRA hR hne
     go_wp2
     go_roundw
     case rel => exact ⟨k + 1, A5, c5, by omega, by go_num, by rw [hl5.out], by rw [hl5.out]; exact hown5, by rw [hl5.out]; exact hne5, hR5, hb5⟩
     case measure => simp [intOf]; omega
    | true =>
     have hsn : Hid (idles f (k + 1) = idles f k) := zH (by rw [idles, if_pos hu])
     rw [hu] at hcb
     clear hu
     go_wp2
     go_roundw
     case rel => exact ⟨k + 1, A', c', by omega, by go_num, by rw [hsn.out], by rw [hsn.out]; exact ho, by rw [hsn.out]; exact hne, hR, hb⟩
     case measure => simp [intOf]; omega
   ·obtain rfl : m = k := Nat.le_antisymm (Nat.le_of_not_lt hlt) hk
    go_wp2
    go_ret2
    exact RetO.some_ hb HR.out rfl rfl ho
set_option maxRecDepth 100000 in
set_option maxHeartbeats 2000000 in
theorem PruneNetwork_any (n : Int) (A : Option Addr) (m c : Nat) (ls : List Sp) (w : World) (ha : RS w A m ls) (hm : m ≤ 2097152) :
 Calls Try.prog 13 #[.int .i64 n, .slice A m c] w (RetOS w (prF n ls)) := by
 have hl := ha.len
 cases h1 : netB n ls with
 | false =>
  have HR : Hid (prF n ls = none) := zH (by simp [prF, h1])
  have H1 := zH h1; clear h1
  go_enter Try.func13, Try.ntmps13
  go_wp2_with fail
  refine (Zag n A m c ls _ ha hm).mono ?_
  rintro e v1 ⟨rfl, hb1⟩
  rw [H1.out]
  go_wp2
  go_ret2
  exact RetOS.none_ HR.out hb1
 | true =>
  obtain ⟨N, rfl, hN1, hN, h60, hbad⟩ := Zbf h1
  have HR : Hid (prF N ls = some (kept ls (usedB N ls) m)) := zH (by simp [prF, h1, hl])
  have H1 := zH h1; clear h1
  go_enter Try.func13, Try.ntmps13
  go_wp2_with fail
  refine (Zag N A m c ls _ ha hm).mono ?_
  rintro e v1 ⟨rfl, hb1⟩
  rw [H1.out]
  have hE0 := OwnS.new0 v1 w.heap.size hb1.size
  have hB1 := hb1.alloc hb1.size (.cells #[] 54)
  have hz1 := hb1.size
  have hz2 : (v1.alloc (.cells #[] 54)).heap.size = v1.heap.size + 1 := by simp
  go_wp2_with fail
  refine (zeroOnes_any N A m c ls _ (ha.below hB1 lR) (by omega) hN hbad).mono ?_
  rintro e v2 ⟨V, g, rfl, hV, hM, hg, hb2⟩
  rw [hz2] at hg
  have hE2 := hE0.below hb2 (.inr (by rw [hz2]; exact Nat.le_refl _))
  have hB2 := hB1.trans (hb2.mono hB1.size)
  have hV2 := hb2.size
  rw [hz2] at hV2
  generalize usedB N ls = f at *
  clear hV hE0 hB1 hb2 hb1 hbad
  go_wp2_with fail
  go_loopw [6, 24] (fun v i wr => ∃ (k : Nat) (A' : Option Addr) (c' : Nat), k ≤ m ∧ i = .int .i64 k ∧ v = .slice A' (kept ls f k).length c' ∧ OwnS wr w.heap.size wr.heap.size (.slice A' (kept ls f k).length c') (kept ls f k).length (kept ls f k) ∧ (∀ b, (Value.slice A' (kept ls f k).length c').ownBlock = some b → b ≠ g) ∧ BF wr g m f ∧ Below w.heap.size w wr) (fun _ i _ => m - (intOf i).toNat)
  case atStart => exact ⟨0, _, _, Nat.zero_le _, rfl, rfl, hE2.now, fun b hb => by simp [Value.ownBlock] at hb; omega, hM, hB2⟩
  case round =>
   clear hE2 hM hB2
   obtain ⟨k, A', c', hk, rfl, rfl, ho, hne, hR, hb⟩ := hrel
   have hz := hb.size
   have hlen := kept_len ls f k
   by_cases hlt : k < m
   ·obtain ⟨b, o, hA, hbB, c1, c2⟩ := (ha.below hb lR).at_ hlt
    subst hA
    obtain ⟨s, hs⟩ := lT (ss ls k)
    rw [hs.out] at c1 c2
    obtain ⟨sl, sh⟩ := s
    dsimp only at c1 c2
    have al : Below wr.heap.size wr (wr.alloc (.cells #[.int .i64 sl, .int .i64 sh] 54)) := bA
    have hoA := ho.alloc (.cells #[.int .i64 sl, .int .i64 sh] 54)
    have hbA := hb.alloc hz (.cells #[.int .i64 sl, .int .i64 sh] 54)
    have hRA := hR.alt (Alt.of_new (S := fun _ => False) al) (fun h => h)
    have s0 := Zaa wr #[.int .i64 sl, .int .i64 sh] (T := 54) 0 (.int .i64 sl) rfl
    have s1 := Zaa wr #[.int .i64 sl, .int .i64 sh] (T := 54) 1 (.int .i64 sh) rfl
    have hcb := hRA.at_ k hlt
    have hglt := hR.lt
    have hzA : (wr.alloc (.cells #[.int .i64 sl, .int .i64 sh] 54)).heap.size = wr.heap.size + 1 := by simp
    clear al ha
    cases hu : f k with
    | true =>
     have hsn : Hid (kept ls f (k + 1) = kept ls f k ++ [⟨sl, sh⟩]) := zH (by rw [kept, if_pos hu, hs.out])
     rw [hu] at hcb
     generalize hM : kept ls f k = M at *
     have hM2 := zH hM; clear hM hu
     obtain ⟨q, hq⟩ : ∃ q, M.length = q := ⟨_, rfl⟩
     rw [hq] at ho hne hlen hoA ⊢
     have hq2 := zH hq; clear hq
     have hoB := hoA.alloc (.cells #[.int .i64 sl, .int .i64 sh] 54)
     have hbB2 := hbA.alloc hbA.size (.cells #[.int .i64 sl, .int .i64 sh] 54)
     have hRB := hRA.alt (Alt.of_new (S := fun _ => False) ((Below.refl (wr.alloc (.cells #[.int .i64 sl, .int .i64 sh] 54)).heap.size (wr.alloc (.cells #[.int .i64 sl, .int .i64 sh] 54))).alloc lR (.cells #[.int .i64 sl, .int .i64 sh] 54))) (fun h => h)
     have t0 := Zaa (wr.alloc (.cells #[.int .i64 sl, .int .i64 sh] 54)) #[.int .i64 sl, .int .i64 sh] (T := 54) 0 (.int .i64 sl) rfl
     have t1 := Zaa (wr.alloc (.cells #[.int .i64 sl, .int .i64 sh] 54)) #[.int .i64 sl, .int .i64 sh] (T := 54) 1 (.int .i64 sh) rfl
     rw [hzA] at t0 t1
     go_wp2_with (at_builtin; refine Zal (p := ⟨sl, sh⟩) rfl _ _ rfl rfl hoB rfl t0 t1 (by omega) oM ?_; intro A5 c5 w5 hown5 hg5 hat5)
     have hb5 := Zbg hbB2 hoB hg5 (by simp; omega) (by omega)
     have hR5 := hRB.alt (Alt.of_grown (S := fun i => (Value.slice A' q c').ownBlock = some i) hg5 (fun i hi => hi)) (fun hc => hne g hc rfl)
     have hne5 : ∀ b, (Value.slice A5 (q + 1) c5).ownBlock = some b → b ≠ g := fun b hb9 => by
      rcases hat5 with h | h
      ·exact hne b (h.symm.trans hb9)
      ·rw [hb9] at h; injection h with h; simp at h; omega
     rw [← hsn.out] at hown5
     have hl5 : Hid ((kept ls f (k + 1)).length = q + 1) := zH (by rw [hsn.out]; simp [hq2.out])
     clear t0 t1 ho hb hoA hbA hoB hbB2 hg5 hat5 hRA hRB hR hne
     go_wp2
     go_roundw
     case rel => exact ⟨k + 1, A5, c5, by omega, by go_num, by rw [hl5.out], by rw [hl5.out]; exact hown5, by rw [hl5.out]; exact hne5, hR5, hb5⟩
     case measure => simp [intOf]; omega
    | false =>
     have hsn : Hid (kept ls f (k + 1) = kept ls f k) := zH (by rw [kept, hu]; rfl)
     rw [hu] at hcb
     clear hu
     go_wp2
     go_roundw
     case rel => exact ⟨k + 1, A', c', by omega, by go_num, by rw [hsn.out], by rw [hsn.out]; exact hoA.now, by rw [hsn.out]; exact hne, hRA, hbA⟩
     case measure => simp [intOf]; omega
   ·obtain rfl : m = k := Nat.le_antisymm (Nat.le_of_not_lt hlt) hk
    go_wp2
    go_ret2
    exact RetOS.some_ HR.out rfl ho hb
end Go.Proofs.Ytjeojnfpeppclaa
