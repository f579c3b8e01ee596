/- Contracts: InsertionNetwork, both hands. -/
import Derived.Test.YtjeojnfpeppclaaQR11
namespace Go.Proofs.Ytjeojnfpeppclaa
open Go.RowKit
set_option linter.unusedVariables false
set_option linter.unusedSimpArgs false
attribute [local go_sem] sepAt sepUpon pureAt pureUpon
def RetSow (w : World) (n m : Nat) (ys : List Int) (f : Nat → Bool) (e : Ending) (w' : World) : Prop :=
 ∃ O oc g, e = .returned (.tuple #[.slice O m oc, .slice (some ⟨g, 0, none⟩) n n]) ∧ Own w' w.heap.size w'.heap.size (.slice O m oc) m ys ∧ BF w' g n f ∧ w.heap.size ≤ g ∧ Below w.heap.size w w'
set_option maxRecDepth 100000 in
set_option maxHeartbeats 4000000 in
theorem soWith_any (A : Option Addr) (n c : Nat) (ls : List Sp) (B : Option Addr) (m d : Nat) (xs : List Int) (w : World) (ha : RS w A n ls) (hn : n ≤ 60) (hbad : anyBad m ls = false) (hb : RI w B m xs) (hm : m ≤ 2097152) :
 Calls Try.prog 59 #[.slice A n c, .slice B m d] w (RetSow w n m (srt ls xs n) fun j => decide (j < n) && didB ls xs j) := by
 have hl := ha.len
 have hxl := hb.len
 have hsl := srt_len ls xs
 obtain ⟨i0, hi, hz0, hz1, hz2⟩ := info_parts info_boolF
 go_enter Try.func59, Try.ntmps59
 go_wp2_with fail
 refine (l1Own_any B m d xs _ hb hm).mono ?_
 rintro e w1 ⟨O, oc, rfl, hO1, b1⟩
 have hz9 := b1.size
 go_wp2_with (at_make; refine wpList_make_full _ rfl _ _ 57 rfl w1.heap.size 4 i0 (.bool false) 1 Try.underlying57 hi hz0 hz1 _ _ _ _ n rfl rfl rfl rfl (by rw [hz2]; omega) (by unfold maxLen; omega) lR ?_; intro w2 hown hgrow)
 obtain ⟨g, hg⟩ : ∃ g, w1.heap.size = g := ⟨_, rfl⟩
 have hM1 : BF w2 w1.heap.size n (fun _ => false) := BF.made hown (hown.lt w1.heap.size (by simp [Value.ownBlock])).2
 have b2 := Zax hgrow
 have hO2 := hO1.below b2 (.inl lR)
 have hB2 := b1.trans (b2.mono hz9)
 have hgw := hM1.lt
 clear hown hgrow hO1 b2 b1 hb
 rw [hg] at hM1 hO2 hz9 hgw ⊢
 clear hg
 have hw2 : g ≤ w2.heap.size := by omega
 go_loopw [19] (fun i wr => ∃ k : Nat, k ≤ n ∧ i = .int .i64 k ∧ Own wr w.heap.size g (.slice O m oc) m (srt ls xs k) ∧ BF wr g n (fun j => decide (j < k) && didB ls xs j) ∧ Below w.heap.size w wr) (fun i _ => n - (intOf i).toNat)
 case atStart => exact ⟨0, Nat.zero_le _, rfl, hO2, hM1.congr (fun j _ => by simp), hB2⟩
 case round =>
  obtain ⟨k, hk, rfl, hO, hM, hB⟩ := hrel
  clear hO2 hM1 hB2 hgw
  have hgw := hM.lt
  have hz := hB.size
  generalize wr = W0 at *
  by_cases hlt : k < n
  ·have hra : RS W0 A n ls := ha.below hB lR
   obtain ⟨b, o, hA, hbB, c1, c2⟩ := hra.at_ hlt
   obtain ⟨h0, h1, h2⟩ := ok_at hbad (j := k) (by omega)
   have hy := fun h => srt_yes (ls := ls) (x := xs) (k := k) h
   have hno := fun h => srt_no (ls := ls) (x := xs) (k := k) h
   have hdd : didB ls xs k = decide (gi (srt ls xs k) (ss ls k).h.toNat < gi (srt ls xs k) (ss ls k).l.toNat) := rfl
   have hskl := hsl k
   obtain ⟨L, hL⟩ := Int.eq_ofNat_of_zero_le h0
   obtain ⟨H, hH⟩ := Int.eq_ofNat_of_zero_le (show 0 ≤ (ss ls k).h by omega)
   rw [hL] at c1 hy hdd h1
   rw [hH] at c2 hy hdd h1 h2
   simp only [Int.toNat_natCast] at hy hdd
   have hLH : L < H := by omega
   have hHm : H < m := by omega
   obtain ⟨S, hS⟩ := lT (srt ls xs k)
   rw [hS.out] at hO hy hno hdd hskl
   obtain ⟨u, hu⟩ := lT (gi S L)
   obtain ⟨v, hv⟩ := lT (gi S H)
   rw [hu.out, hv.out] at hy
   have hdd : didB ls xs k = decide (v < u) := by rw [hdd]; exact decide_eq_decide.2 (by rw [hu.out, hv.out])
   have HD := zH hdd
   have HY := zH hy
   have HN := zH hno
   clear hdd hy hno h0 h1 h2 hL hH hbad
   obtain ⟨q, hOq, hq1, hq2⟩ : ∃ q, O = some ⟨q, 0, none⟩ ∧ w.heap.size ≤ q ∧ q < g := by
    obtain ⟨q, cap, hv, h1, h2⟩ := hO.1.form (by omega)
    simp only [Value.slice.injEq, true_and] at hv
    exact ⟨q, hv.1, h1, (hO.lt q (by rw [hv.1]; simp [Value.ownBlock])).2.1⟩
   subst hOq
   have al : Below W0.heap.size W0 (W0.alloc (.cells #[.int .i64 L, .int .i64 H] 54)) := bA
   have kal : Alt (fun _ => False) W0 (W0.alloc (.cells #[.int .i64 L, .int .i64 H] 54)) := Alt.of_new al
   have s0 := Zaa W0 #[.int .i64 L, .int .i64 H] (T := 54) 0 (.int .i64 L) rfl
   have s1 := Zaa W0 #[.int .i64 L, .int .i64 H] (T := 54) 1 (.int .i64 H) rfl
   have hOA := hO.alt kal (fun _ _ h => h)
   have hMA := hM.alt kal (fun h => h)
   have hBA := hB.alloc hz (.cells #[.int .i64 L, .int .i64 H] 54)
   have hzA : (W0.alloc (.cells #[.int .i64 L, .int .i64 H] 54)).heap.size = W0.heap.size + 1 := by simp
   subst hA
   clear hO hM hra hB ha
   go_wp2_with fail
   clear c1 c2
   obtain ⟨WA, hWA⟩ := lT (W0.alloc (.cells #[.int .i64 L, .int .i64 H] 54))
   rw [hWA.out] at s0 s1 hOA hMA hBA hzA ⊢
   have hSz : W0.heap.size < WA.heap.size := by omega
   have hWl : g < W0.heap.size := hgw
   obtain ⟨S0, hS0⟩ := lT (W0.heap.size)
   rw [hS0.out] at s0 s1 hSz hWl ⊢
   clear al kal hzA hWA hgw
   have eL := (hOA.cellAt (k := L) (by omega)).1
   have eH := (hOA.cellAt (k := H) hHm).1
   rw [hu.out] at eL
   rw [hv.out] at eH
   have iL : (L : Int) < (m : Int) := by omega
   have iH : (H : Int) < (m : Int) := by omega
   have jL : L < m := by omega
   go_wp2_with fail
   refine Zau (12) [(⟨S0, 0, none⟩, .int .i64 (L : Int)), (⟨S0, 1, none⟩, .int .i64 (H : Int)), (⟨q, L, none⟩, .int .i64 u), (⟨q, H, none⟩, .int .i64 v)] [] [] [] (by kernel_rfl) (by kernel_rfl) (by kernel_rfl) (by simp only [cD, cC, and_true]; repeat (any_goals (apply And.intro)); all_goals (first | assumption | go_simp)) ?_
   simp only [List.take_succ_cons, List.take_zero, List.drop_succ_cons, List.drop_zero, List.take_nil, List.drop_nil, List.take, List.drop]
   repeat (first
    | ((first
     | ((with_reducible refine Zam ?_ ?_ ?_)
        ·exact rfl
        ·exact rfl)
     | ((with_reducible refine Zar ?_ ?_ ?_)
        ·exact rfl
        ·exact Zab rfl rfl rfl rfl))
       intro K hK
       apply Exists.intro
       refine ⟨fun w3 hw3 => ?_, ?_⟩
       ·have hcs := hw3
        simp only [cD, cC, and_true] at hcs
        clear hw3
        go_simp
        first | done | exact ⟨rfl, rfl⟩ | rfl
       refine hK _ ?_
       clear hK K
       try simp only [pA, pB, sA, sB, sC])
    | ((with_reducible refine Zaq ?_ ?_ ?_)
       ·exact rfl
       ·exact Zah rfl rfl rfl rfl
       simp only [pA, pB, sA, sB, sC]))
   refine Zbj ?_
   intro wy hwy hcy hfin hap
   have bwy := Zbh hwy
   have kwy : Alt (fun _ => False) WA wy := Alt.of_new bwy
   have hOy := hOA.alt kwy (fun _ _ h => h)
   have hMy := hMA.alt kwy (fun h => h)
   have hBy := hBA.trans (bwy.mono hBA.size)
   have t0 := kwy.cell_ s0 (fun h => h)
   have t1 := kwy.cell_ s1 (fun h => h)
   have hzy := bwy.size
   clear hfin hap hcy hwy bwy kwy hOA hMA hBA s0 s1 eL eH
   by_cases hlt2 : v < u
   ·have hd : decide (v < u) = true := decide_eq_true hlt2
    have hdB : didB ls xs k = true := by rw [HD.out]; exact hd
    have HS2 := zH (HY.out hdB)
    have HM2 : Hid (∀ j, j < n → ((decide (j < k) && didB ls xs j) || decide (j = k)) = (decide (j < k + 1) && didB ls xs j)) := zH (fun j _ => by
     by_cases hj : j = k
     ·subst hj; rw [hdB]; simp
     ·have e1 : decide (j = k) = false := decide_eq_false hj
      have e2 : decide (j < k + 1) = decide (j < k) := decide_eq_decide.2 (by omega)
      rw [e1, e2, Bool.or_false])
    have hng : q ≠ g := by omega
    have ngS : ¬ S0 = q := by omega
    have ngS2 : ¬ q = S0 := by omega
    have hqy : q < wy.heap.size := by omega
    clear hdB HD HY HN
    obtain ⟨cL, fL⟩ := hOy.cellAt (k := L) (by omega)
    have st1 := hOy.stored L v
    have hO7 := st1.1
    have hM7 := hMy.alt (Alt.of_grown (S := fun i => i = q) st1.2 (fun i hi => (Option.some.inj hi).symm)) (fun e => hng e.symm)
    have hB7 := hBy.grown st1.2 (by omega) (fun z hz => by have := Option.some.inj hz; omega)
    obtain ⟨cH, fH⟩ := hO7.cellAt (k := H) (by omega)
    have st2 := hO7.stored H u
    have hO8 := st2.1
    have hM8 := hM7.alt (Alt.of_grown (S := fun i => i = q) st2.2 (fun i hi => (Option.some.inj hi).symm)) (fun e => hng e.symm)
    have hB8 := hB7.grown st2.2 (by simp; omega) (fun z hz => by have := Option.some.inj hz; omega)
    have t1b : (wy.setCell ⟨q, L, none⟩ (.int .i64 v)).cell? ⟨S0, 1, none⟩ = some (.int .i64 (H : Int)) := by rw [World.cell?_setCell_other _ _ _ _ (by first | (simp; done) | (simp; omega))]; exact t1
    have mk := hM8.at_ k hlt
    have mf := hM8.fz k
    have hput := (hM8.put hlt).congr HM2.out
    have ks := (Alt.refl_ (fun i => i = g) ((wy.setCell ⟨q, L, none⟩ (.int .i64 v)).setCell ⟨q, H, none⟩ (.int .i64 u))).set_ ⟨g, k, none⟩ (.bool true) (fun _ => rfl)
    have hO9 := hO8.alt ks (fun q9 hq9 e => hng ((own_at hq9).symm.trans e))
    have hB9 := hB8.trans (ks.below_ hB8.size (fun i hi e => by omega))
    clear ks st1 st2 hO7 hO8 hM7 hM8 hB7 hB8 hOy hMy hBy
    go_wp2
    go_roundw
    case rel => exact ⟨k + 1, by omega, by go_num, by rw [HS2.out]; exact hO9, hput, hB9⟩
    case measure => simp [intOf]; omega
   ·have hd : decide (v < u) = false := decide_eq_false hlt2
    have hdB : didB ls xs k = false := by rw [HD.out]; exact hd
    have HS2 := zH (HN.out hdB)
    have hM2 := hMy.congr (f' := fun j => (decide (j < k + 1) && didB ls xs j)) (fun j _ => by
     by_cases hj : j = k
     ·subst hj; rw [hdB]; simp
     ·have e2 : decide (j < k + 1) = decide (j < k) := decide_eq_decide.2 (by omega)
      rw [e2])
    clear hdB HD HY HN hMy t0 t1
    go_wp2
    go_roundw
    case rel => exact ⟨k + 1, by omega, by go_num, by rw [HS2.out]; exact hOy, hM2, hBy⟩
    case measure => simp [intOf]; omega
  ·obtain rfl : n = k := by omega
   go_wp2
   go_ret2
   exact ⟨O, oc, g, rfl, ⟨hO.1, fun q hq => (hO.lt q hq).2.2⟩, hM, hz9, hB⟩
end Go.Proofs.Ytjeojnfpeppclaa
namespace Go.Proofs.Ytjeojnfpeppclaa
open Go.RowKit
set_option linter.unusedVariables false
set_option linter.unusedSimpArgs false
attribute [local go_sem] sepAt sepUpon pureAt pureUpon
theorem BF.set_ {w : World} {g n : Nat} {f : Nat → Bool} {v : Nat} (h : BF w g n f) (hv : v < n) (b : Bool) : BF (w.setCell ⟨g, v, none⟩ (.bool b)) g n (fun j => if j = v then b else f j) := by
 refine ⟨by simpa using h.lt, fun j hj => ?_, h.fz.set _ _⟩
 by_cases he : j = v
 ·subst he
  rw [World.cell?_setCell_same _ _ _ (h.at_ j hj)]
  simp
 ·rw [World.cell?_setCell_other _ _ _ _ (by first | (simp; done) | (simp; omega)), h.at_ j hj]
  simp [he]
theorem any_step {a f : Nat → Bool} {q : Nat} {b : Bool} (hb : b = (a q || f q)) (j : Nat) : (if j = q then b else (a j || (decide (j < q) && f j))) = (a j || (decide (j < q + 1) && f j)) := by
 by_cases h : j = q
 ·subst h; rw [if_pos rfl, hb]; simp
 ·have e2 : decide (j < q + 1) = decide (j < q) := decide_eq_decide.2 (by omega)
  rw [if_neg h, e2]
set_option maxRecDepth 100000 in
set_option maxHeartbeats 4000000 in
theorem soNeedless_any (N : Nat) (A : Option Addr) (m c : Nat) (ls : List Sp) (w : World) (ha : RS w A m ls) (hm : m ≤ 60) (hN : N ≤ 12) (hbad : anyBad N ls = false) :
 Calls Try.prog 34 #[.int .i64 N, .slice A m c] w (RetI w (idles (usedB N ls) m)) := by
 have hl := ha.len
 obtain ⟨P, hP⟩ : ∃ P, P = 2 ^ N := ⟨_, rfl⟩
 obtain ⟨hP1, hsh⟩ := pow_wrapS hP hN
 have HP := zH hP
 clear hP
 obtain ⟨i0, hi, hz0, hz1, hz2⟩ := info_parts info_boolF
 go_enter Try.func34, Try.ntmps34
 go_wp2_with (at_make; refine wpList_make_full _ rfl _ _ 57 rfl w.heap.size 4 i0 (.bool false) 1 Try.underlying57 hi hz0 hz1 _ _ _ _ m rfl rfl rfl rfl (by rw [hz2]; omega) (by unfold maxLen; omega) lR ?_; intro w1 hown hgrow)
 have hM0 : BF w1 w.heap.size m (fun _ => false) := BF.made hown (hown.lt w.heap.size (by simp [Value.ownBlock])).2
 have hB0 := Zax hgrow
 clear hown hgrow
 go_loopw [6] (fun i wr => ∃ k : Nat, k ≤ P ∧ i = .int .i64 k ∧ BF wr w.heap.size m (anyK N ls k) ∧ Below w.heap.size w wr) (fun i _ => P - (intOf i).toNat)
 case atStart => exact ⟨0, Nat.zero_le _, rfl, hM0.congr (fun j _ => (anyK_zero N ls j).symm), hB0⟩
 case round =>
  obtain ⟨k, hk, rfl, hM, hB⟩ := hrel
  clear hM0 hB0
  have hz := hB.size
  by_cases hlt : k < P
  ·have hlt' : (k : Int) < wrap64 (2 ^ N) := by rw [hsh]; omega
   have hma : Hid (∀ j, j < m → (anyK N ls k j || (decide (j < m) && didB ls (bitsN k N) j)) = anyK N ls (k + 1) j) := zH (fun j hj => by rw [anyK_succ, decide_eq_true hj, Bool.true_and])
   go_wp2_with fail
   refine (btOf_any k N _ (by omega) (by omega)).mono ?_
   rintro e w2 hT1
   obtain ⟨B, bc, rfl, ho1, hb1⟩ := RetI.open_ hT1 (Zat _ _)
   have hM1 := hM.alt (Alt.of_new (S := fun _ => False) hb1) (fun h => h)
   have hB1 := hB.trans (hb1.mono hz)
   clear hT1 hM hB hb1
   go_wp2_with fail
   refine (soWith_any A m c ls B N bc (bitsN k N) _ (ha.below hB1 lR) hm hbad ho1.reads (by omega)).mono ?_
   rintro e w3 ⟨O, oc, h, rfl, hO, hF, hh, hb2⟩
   have hM2 := hM1.alt (Alt.of_new (S := fun _ => False) hb2) (fun h => h)
   have hB2 := hB1.trans (hb2.mono hB1.size)
   have hgw := hM1.lt
   have hne : ¬ h = w.heap.size := by omega
   clear ho1 hM1 hB1 hb2 hO hlt'
   go_wp2_with fail
   go_loopw [34] (fun j wr => ∃ q : Nat, q ≤ m ∧ j = .int .i64 q ∧ BF wr w.heap.size m (fun j => anyK N ls k j || (decide (j < q) && didB ls (bitsN k N) j)) ∧ BF wr h m (fun j => decide (j < m) && didB ls (bitsN k N) j) ∧ Below w.heap.size w wr) (fun j _ => m - (intOf j).toNat)
   case atStart => exact ⟨0, Nat.zero_le _, rfl, hM2.congr (fun j _ => by simp), hF, hB2⟩
   case round =>
    obtain ⟨q, hq, rfl, hM3, hF3, hB3⟩ := hrel
    clear hM2 hF hB2
    by_cases hlq : q < m
    ·have e1 := hF3.at_ q hlq
     have e2 := hM3.at_ q hlq
     have f2 := hM3.fz q
     have g2 := hM3.lt
     have E1 : (decide (q < m) && didB ls (bitsN k N) q) = didB ls (bitsN k N) q := by rw [decide_eq_true hlq, Bool.true_and]
     have E2 : (anyK N ls k q || (decide (q < q) && didB ls (bitsN k N) q)) = anyK N ls k q := by simp
     rw [E1] at e1
     rw [E2] at e2
     clear E1 E2
     obtain ⟨d, hd⟩ := lT (didB ls (bitsN k N) q)
     rw [hd.out] at e1
     cases hA : anyK N ls k q with
     | true =>
      have hput := (hM3.set_ hlq true).congr (fun j _ => any_step (a := anyK N ls k) (f := didB ls (bitsN k N)) (by rw [hA]; rfl) j)
      have ks := (Alt.refl_ (fun i => i = w.heap.size) wr).set_ ⟨w.heap.size, q, none⟩ (.bool true) (fun _ => rfl)
      have hF4 := hF3.alt ks hne
      have hB4 := hB3.trans (ks.below_ hB3.size (fun i hi e => by omega))
      rw [hA] at e2
      clear hM3 hF3 hB3 ks hA
      go_wp2
      go_roundw
      case rel => exact ⟨q + 1, by omega, by go_num, hput, hF4, hB4⟩
      case measure => simp [intOf]; omega
     | false =>
      have hput := (hM3.set_ hlq d).congr (fun j _ => any_step (a := anyK N ls k) (f := didB ls (bitsN k N)) (by rw [hA, hd.out]; rfl) j)
      have ks := (Alt.refl_ (fun i => i = w.heap.size) wr).set_ ⟨w.heap.size, q, none⟩ (.bool d) (fun _ => rfl)
      have hF4 := hF3.alt ks hne
      have hB4 := hB3.trans (ks.below_ hB3.size (fun i hi e => by omega))
      rw [hA] at e2
      clear hM3 hF3 hB3 ks hA
      go_wp2
      go_roundw
      case rel => exact ⟨q + 1, by omega, by go_num, hput, hF4, hB4⟩
      case measure => simp [intOf]; omega
    ·obtain rfl : m = q := by omega
     have hM4 := hM3.congr hma.out
     clear hM3 hF3
     go_wp2
     go_roundw
     case rel => exact ⟨k + 1, by omega, by go_num, hM4, hB3⟩
     case measure => simp [intOf]; omega
  ·obtain rfl : P = k := by omega
   have hlt' : ¬ (P : Int) < wrap64 (2 ^ N) := by rw [hsh]; omega
   have hM1 : BF wr w.heap.size m (usedB N ls) := hM.congr (fun j _ => by rw [HP.out]; exact anyK_all N ls j)
   have hE2 := Own.none_ wr w.heap.size wr.heap.size
   generalize usedB N ls = f at *
   clear hM hbad ha
   go_wp2_with fail
   go_loopw [11, 52] (fun v i wr => ∃ (k : Nat) (A' : Option Addr) (c' : Nat), k ≤ m ∧ i = .int .i64 k ∧ v = .slice A' (idles f k).length c' ∧ Own wr w.heap.size wr.heap.size (.slice A' (idles f k).length c') (idles f k).length (idles f k) ∧ (∀ b, (Value.slice A' (idles f k).length c').ownBlock = some b → b ≠ w.heap.size) ∧ BF wr w.heap.size m f ∧ Below w.heap.size w wr) (fun _ i _ => m - (intOf i).toNat)
   case atStart => exact ⟨0, _, _, Nat.zero_le _, rfl, rfl, hE2, fun b hb => by simp [Value.ownBlock] at hb, hM1, hB⟩
   case round =>
    clear hE2 hM1 hB
    obtain ⟨k, A', c', hk, rfl, rfl, ho, hne, hR, hb⟩ := hrel
    have hz := hb.size
    have hlen := idles_len f k
    by_cases hlt : k < m
    ·have hcb := hR.at_ k hlt
     have hglt := hR.lt
     cases hu : f k with
     | false =>
      have hsn : Hid (idles f (k + 1) = idles f k ++ [(k : Int)]) := zH (by rw [idles, hu]; rfl)
      rw [hu] at hcb
      generalize hM : idles f k = M at *
      have hM2 := zH hM; clear hM hu
      obtain ⟨q, hq⟩ : ∃ q, M.length = q := ⟨_, rfl⟩
      rw [hq] at ho hne hlen ⊢
      have hq2 := zH hq; clear hq
      have hoA := ho.alloc (.cells #[.int .i64 (k : Int)] 3)
      have hbA := hb.alloc hz (.cells #[.int .i64 (k : Int)] 3)
      have hRA := hR.alt (Alt.of_new (S := fun _ => False) ((Below.refl wr.heap.size wr).alloc lR (.cells #[.int .i64 (k : Int)] 3))) (fun h => h)
      go_wp2_with (at_builtin; refine Zao _ rfl _ _ rfl rfl hoA rfl (Zbb _ _ _ _ (by simp)) (by omega) oM ?_; intro A5 c5 w5 hown5 hg5 hat5)
      have hb5 := Zaf hbA hoA hg5 (by simp; omega) (by omega)
      have hR5 := hRA.alt (Alt.of_grown (S := fun i => (Value.slice A' q c').ownBlock = some i) hg5 (fun i hi => hi)) (fun hc => hne _ hc rfl)
      have hne5 : ∀ b, (Value.slice A5 (q + 1) c5).ownBlock = some b → b ≠ w.heap.size := fun b hb9 => by
       rcases hat5 with h | h
       ·exact hne b (h.symm.trans hb9)
       ·rw [hb9] at h; injection h with h; simp at h; omega
      rw [← hsn.out] at hown5
      have hl5 : Hid ((idles f (k + 1)).length = q + 1) := zH (by rw [hsn.out]; simp [hq2.out])
      clear ho hb hoA hbA hg5 hat5 hRA hR hne
      go_wp2
      go_roundw
      case rel => exact ⟨k + 1, A5, c5, by omega, by go_num, by rw [hl5.out], by rw [hl5.out]; exact hown5, by rw [hl5.out]; exact hne5, hR5, hb5⟩
      case measure => simp [intOf]; omega
     | true =>
      have hsn : Hid (idles f (k + 1) = idles f k) := zH (by rw [idles, if_pos hu])
      rw [hu] at hcb
      clear hu
      go_wp2
      go_roundw
      case rel => exact ⟨k + 1, A', c', by omega, by go_num, by rw [hsn.out], by rw [hsn.out]; exact ho, by rw [hsn.out]; exact hne, hR, hb⟩
      case measure => simp [intOf]; omega
    ·obtain rfl : m = k := Nat.le_antisymm (Nat.le_of_not_lt hlt) hk
     go_wp2
     go_ret
     exact RetI.mk_ rfl rfl ho hb
end Go.Proofs.Ytjeojnfpeppclaa
namespace Go.Proofs.Ytjeojnfpeppclaa
open Go.RowKit
set_option linter.unusedVariables false
set_option linter.unusedSimpArgs false
attribute [local go_sem] sepAt sepUpon pureAt pureUpon
theorem l1HasS_any (A : Option Addr) (n c : Nat) (xs : List Int) (v : Int) (w : World) (ha : RI w A n xs) (hn : n ≤ 2097152) :
 Calls Try.prog 35 #[.slice A n c, .int .i64 v] w fun e w' => e = .returned (.bool (decide (v ∈ xs))) ∧ w = w' := by
 have hl := ha.len
 go_enter Try.func35, Try.ntmps35
 go_wp2
 go_loop [9] (fun i => ∃ k : Nat, k ≤ n ∧ i = .int .i64 k ∧ Hid (∀ j, j < k → gi xs j ≠ v)) (fun i => n - (intOf i).toNat)
 case atStart => exact ⟨0, Nat.zero_le _, rfl, zH (fun j hj => by omega)⟩
 case round =>
  obtain ⟨k, hk, rfl, hq⟩ := hrel
  by_cases hlt : k < n
  ·obtain ⟨b, o, rfl, hbB, c1⟩ := ha.at_ hlt
   clear ha
   by_cases he : gi xs k = v
   ·have HR : Hid (decide (v ∈ xs) = true) := zH (decide_eq_true (by have := gi_mem (xs := xs) (j := k) (by omega); rwa [he] at this))
    rw [he] at c1
    clear he
    have hee : (v == v) = true := by simp
    go_wp2
    go_ret
    exact ⟨by rw [HR.out]; rfl, rfl⟩
   ·have hq' : Hid (∀ j, j < k + 1 → gi xs j ≠ v) := zH fun j hj => by
     rcases Nat.lt_or_ge j k with h | h
     ·exact hq.out j h
     ·obtain rfl : j = k := by omega
      exact he
    have hee : (gi xs k == v) = false := by simpa using he
    clear he
    generalize gi xs k = Y at *
    go_wp2
    go_round
    case rel => exact ⟨k + 1, by omega, by go_num, hq'⟩
    case measure => simp [intOf]; omega
  ·obtain rfl : k = n := Nat.le_antisymm hk (Nat.le_of_not_lt hlt)
   have HR : Hid (decide (v ∈ xs) = false) := zH (decide_eq_false (fun hc => by
    obtain ⟨j, hj, he⟩ := List.getElem_of_mem hc
    refine hq.out j (by omega) ?_
    unfold gi
    rw [List.getD_eq_getElem?_getD, List.getElem?_eq_getElem hj, he]; rfl))
   go_wp2
   go_ret
   exact ⟨by rw [HR.out]; rfl, rfl⟩
theorem spec_NeedlessSteps_any (n : Int) (A : Option Addr) (m c : Nat) (ls : List Sp) (w : World) (ha : RS w A m ls) (hm : m ≤ 2097152) :
 Calls Try.prog 16 #[.int .i64 n, .slice A m c] w (RetO w (ndF n ls)) := by
 have hl := ha.len
 cases h1 : netB n ls with
 | false =>
  have HR : Hid (ndF n ls = none) := zH (by simp [ndF, h1])
  have H1 := zH h1; clear h1
  go_enter Try.func16, Try.ntmps16
  go_wp2_with fail
  refine (Zaz n A m c ls _ ha hm).mono ?_
  rintro e v1 ⟨rfl, hb1⟩
  rw [H1.out]
  go_wp2
  go_ret2
  exact RetO.none_ hb1 HR.out rfl
 | true =>
  obtain ⟨N, rfl, hN1, hN, h60, hbad⟩ := Zbf h1
  have HR : Hid (ndF N ls = some (idles (usedB N ls) m)) := zH (by simp [ndF, h1, hl])
  have H1 := zH h1; clear h1
  go_enter Try.func16, Try.ntmps16
  go_wp2_with fail
  refine (Zaz N A m c ls _ ha hm).mono ?_
  rintro e v1 ⟨rfl, hb1⟩
  rw [H1.out]
  go_wp2_with fail
  refine (soNeedless_any N A m c ls _ (ha.below hb1 lR) (by omega) hN hbad).mono ?_
  rintro e v2 ⟨D, dc, rfl, hD, hb2⟩
  go_wp2
  go_ret2
  exact RetO.some_ (hb1.trans (hb2.mono hb1.size)) HR.out rfl rfl (hD.lo_ hb1.size)
set_option maxRecDepth 100000 in
set_option maxHeartbeats 2000000 in
theorem spec_PruneNetwork_any (n : Int) (A : Option Addr) (m c : Nat) (ls : List Sp) (w : World) (ha : RS w A m ls) (hm : m ≤ 2097152) :
 Calls Try.prog 14 #[.int .i64 n, .slice A m c] w (RetOS w (prF n ls)) := by
 have hl := ha.len
 cases h1 : netB n ls with
 | false =>
  have HR : Hid (prF n ls = none) := zH (by simp [prF, h1])
  have H1 := zH h1; clear h1
  go_enter Try.func14, Try.ntmps14
  go_wp2_with fail
  refine (Zaz n A m c ls _ ha hm).mono ?_
  rintro e v1 ⟨rfl, hb1⟩
  rw [H1.out]
  go_wp2
  go_ret2
  exact RetOS.none_ HR.out hb1
 | true =>
  obtain ⟨N, rfl, hN1, hN, h60, hbad⟩ := Zbf h1
  have HR : Hid (prF N ls = some (kept ls (usedB N ls) m)) := zH (by simp [prF, h1, hl])
  have H1 := zH h1; clear h1
  go_enter Try.func14, Try.ntmps14
  go_wp2_with fail
  refine (Zaz N A m c ls _ ha hm).mono ?_
  rintro e v1 ⟨rfl, hb1⟩
  rw [H1.out]
  go_wp2_with fail
  refine (soNeedless_any N A m c ls _ (ha.below hb1 lR) (by omega) hN hbad).mono ?_
  rintro e v2 ⟨D, dc, rfl, hD, hb2⟩
  have hB2 := hb1.trans (hb2.mono hb1.size)
  have hr := hD.reads
  have hdl := idles_len (usedB N ls) m
  have hmem := zH (fun k (hk : k < m) => show decide ((k : Int) ∈ idles (usedB N ls) m) = !(usedB N ls k) by
   have h9 := idles_mem (usedB N ls) m k
   cases hu : usedB N ls k with
   | true => rw [hu] at h9; exact decide_eq_false (fun h => by have := (h9.1 h).2; simp at this)
   | false => rw [hu] at h9; exact decide_eq_true (h9.2 ⟨hk, rfl⟩))
  have ha2 := ha.below hB2 lR
  have hz2 := hB2.size
  generalize usedB N ls = f at *
  obtain ⟨D1, hD1⟩ := lT (idles f m)
  rw [hD1.out] at hr hdl hmem ⊢
  clear hbad hb1 hb2 hD
  obtain ⟨dl, hdle⟩ : ∃ dl, D1.length = dl := ⟨_, rfl⟩
  rw [hdle] at hr hdl ⊢
  clear hdle
  go_wp2_with fail
  go_loopw [7, 19] (fun v i wr => ∃ (k : Nat) (A' : Option Addr) (c' : Nat), k ≤ m ∧ i = .int .i64 k ∧ v = .slice A' (kept ls f k).length c' ∧ OwnS wr v2.heap.size wr.heap.size (.slice A' (kept ls f k).length c') (kept ls f k).length (kept ls f k) ∧ Below v2.heap.size v2 wr) (fun _ i _ => m - (intOf i).toNat)
  case atStart => exact ⟨0, _, _, Nat.zero_le _, rfl, rfl, OwnS.none_ _ _ _, Below.refl _ _⟩
  case round =>
   obtain ⟨k, A', c', hk, rfl, rfl, ho, hb⟩ := hrel
   have hz := hb.size
   have hlen := kept_len ls f k
   by_cases hlt : k < m
   ·obtain ⟨b, o, hA, hbB, c1, c2⟩ := (ha2.below hb lR).at_ hlt
    subst hA
    obtain ⟨s, hs⟩ := lT (ss ls k)
    rw [hs.out] at c1 c2
    obtain ⟨sl, sh⟩ := s
    dsimp only at c1 c2
    have hoA := ho.alloc (.cells #[.int .i64 sl, .int .i64 sh] 54)
    have hbA := hb.alloc hz (.cells #[.int .i64 sl, .int .i64 sh] 54)
    have s0 := Zaa wr #[.int .i64 sl, .int .i64 sh] (T := 54) 0 (.int .i64 sl) rfl
    have s1 := Zaa wr #[.int .i64 sl, .int .i64 sh] (T := 54) 1 (.int .i64 sh) rfl
    have hzA : (wr.alloc (.cells #[.int .i64 sl, .int .i64 sh] 54)).heap.size = wr.heap.size + 1 := by simp
    have hmk := zH (hmem.out k hlt)
    clear ha ha2
    go_wp2_with fail
    refine (l1HasS_any D dl dc D1 k _ (hr.below hbA lR) (by omega)).mono ?_
    rintro e w5 ⟨rfl, rfl⟩
    rw [hmk.out]
    cases hu : f k with
    | true =>
     have hsn : Hid (kept ls f (k + 1) = kept ls f k ++ [⟨sl, sh⟩]) := zH (by rw [kept, if_pos hu, hs.out])
     generalize hM : kept ls f k = M at *
     have hM2 := zH hM; clear hM hu hmk
     obtain ⟨q, hq⟩ : ∃ q, M.length = q := ⟨_, rfl⟩
     rw [hq] at ho hlen hoA ⊢
     have hq2 := zH hq; clear hq
     have hoB := hoA.alloc (.cells #[.int .i64 sl, .int .i64 sh] 54)
     have hbB2 := hbA.alloc hbA.size (.cells #[.int .i64 sl, .int .i64 sh] 54)
     have t0 := Zaa (wr.alloc (.cells #[.int .i64 sl, .int .i64 sh] 54)) #[.int .i64 sl, .int .i64 sh] (T := 54) 0 (.int .i64 sl) rfl
     have t1 := Zaa (wr.alloc (.cells #[.int .i64 sl, .int .i64 sh] 54)) #[.int .i64 sl, .int .i64 sh] (T := 54) 1 (.int .i64 sh) rfl
     rw [hzA] at t0 t1
     go_wp2_with (at_builtin; refine Zal (p := ⟨sl, sh⟩) rfl _ _ rfl rfl hoB rfl t0 t1 (by omega) oM ?_; intro A5 c5 w5 hown5 hg5 hat5)
     have hb5 := Zbg hbB2 hoB hg5 (by simp; omega) (by omega)
     rw [← hsn.out] at hown5
     have hl5 : Hid ((kept ls f (k + 1)).length = q + 1) := zH (by rw [hsn.out]; simp [hq2.out])
     clear t0 t1 ho hb hoA hbA hoB hbB2 hg5 hat5
     go_wp2
     go_roundw
     case rel => exact ⟨k + 1, A5, c5, by omega, by go_num, by rw [hl5.out], by rw [hl5.out]; exact hown5, hb5⟩
     case measure => simp [intOf]; omega
    | false =>
     have hsn : Hid (kept ls f (k + 1) = kept ls f k) := zH (by rw [kept, hu]; rfl)
     clear hu hmk
     go_wp2
     go_roundw
     case rel => exact ⟨k + 1, A', c', by omega, by go_num, by rw [hsn.out], by rw [hsn.out]; exact hoA.now, hbA⟩
     case measure => simp [intOf]; omega
   ·obtain rfl : m = k := Nat.le_antisymm (Nat.le_of_not_lt hlt) hk
    go_wp2
    go_ret2
    exact RetOS.some_ HR.out rfl (ho.lo_ hz2) (hB2.trans (hb.mono hz2))
theorem SortWith_1_any (x : Int) (w : World) : Calls Try.prog 37 #[.int .i64 x] w fun e w' => e = .returned (.bool (inB (-1000000) 1000000 x)) ∧ w = w' := by
 cases h1 : inB (-1000000) 1000000 x with
 | false =>
  go_enter Try.func37, Try.ntmps37
  go_wp2_with fail
  refine (Zac x (-1000000) 1000000 _ h1 _).mono ?_
  rintro e w1 ⟨rfl, rfl⟩
  go_wp2
  go_ret
  exact ⟨rfl, rfl⟩
 | true =>
  go_enter Try.func37, Try.ntmps37
  go_wp2_with fail
  refine (Zac x (-1000000) 1000000 _ h1 _).mono ?_
  rintro e w1 ⟨rfl, rfl⟩
  go_wp2
  go_ret
  exact ⟨rfl, rfl⟩
set_option maxHeartbeats 1000000 in
theorem SortWith_ok (N : Nat) (A : Option Addr) (m c : Nat) (ls : List Sp) (B : Option Addr) (d : Nat) (xs : List Int) (w : World) (ha : RS w A m ls) (hn : netB N ls = true) (hb : RI w B N xs) (hx : xs.all (inB (-1000000) 1000000) = true) :
 Calls Try.prog 18 #[.int .i64 N, .slice A m c, .slice B N d] w (RetO w (some (srt ls xs m))) := by
 have hl := ha.len
 obtain ⟨N', hN', hN1, hN, h60, hbad⟩ := Zbf hn
 obtain rfl : N = N' := by omega
 have H1 := zH hn; clear hn hN'
 have HX := zH hx; clear hx
 obtain ⟨i0, hi, hz0, hz1, hz2⟩ := info_parts info_boolF
 go_enter Try.func18, Try.ntmps18
 go_wp2_with fail
 refine (Zag N A m c ls _ ha (by omega)).mono ?_
 rintro e v1 ⟨rfl, hb1⟩
 rw [H1.out]
 have hz := hb1.size
 go_wp2_with fail
 refine (areAll_any 37 Try.call37 #[] (inB (-1000000) 1000000) B N d xs _ (hb.below hb1 lR) (by omega) (zH fun x _ w1 _ => (SortWith_1_any x w1).mono fun e w' ⟨h1, h2⟩ => ⟨h1, by subst h2; exact Below.refl _ _⟩)).mono ?_
 rintro e v2 ⟨rfl, hb2⟩
 rw [HX.out]
 have hB2 := hb1.trans (hb2.mono hz)
 have hz3 := hB2.size
 clear hb1 hb2
 go_wp2_with (at_make; refine wpList_make_full _ rfl _ _ 57 rfl v2.heap.size 4 i0 (.bool false) 1 Try.underlying57 hi hz0 hz1 _ _ _ _ m rfl rfl rfl rfl (by rw [hz2]; omega) (by unfold maxLen; omega) lR ?_; intro w3 hown hgrow)
 have hM0 : BF w3 v2.heap.size m (fun _ => false) := BF.made hown (hown.lt v2.heap.size (by simp [Value.ownBlock])).2
 have hb3 := Zax hgrow
 have hB3 := hB2.trans (hb3.mono hz3)
 have hra := ha.below hB3 lR
 have hrb := hb.below hB3 lR
 have hag : 0 < m → ∀ b o, A = some ⟨b, o, none⟩ → b ≠ v2.heap.size := fun hm b o hA => by
  obtain ⟨b', o', hA', hb', _⟩ := (ha.below hB2 lR).2 hm
  rw [hA] at hA'; simp only [Option.some.injEq, Addr.mk.injEq, and_true] at hA'; omega
 clear hown hgrow ha hb
 go_wp2_with fail
 refine (sortWith_any A m c ls B N d xs v2.heap.size (fun _ => false) _ hra (by omega) hbad hrb (by omega) hM0 hag).mono ?_
 rintro e w4 ⟨O, oc, rfl, hO, hM, k4⟩
 go_wp2
 go_ret2
 exact RetO.some_ (hB3.trans (k4.below_ hB3.size (fun i hi e => by omega))) rfl hO.len rfl (hO.lo_ hB3.size)
end Go.Proofs.Ytjeojnfpeppclaa
namespace Go.Proofs.Ytjeojnfpeppclaa
open Go.RowKit
set_option linter.unusedVariables false
set_option linter.unusedSimpArgs false
attribute [local go_sem] sepAt sepUpon pureAt pureUpon
theorem ins_len {N : Nat} (h1 : 1 ≤ N) (h : N ≤ 12) : (ins N).length ≤ 100 := by
 have hc : ∀ N, N ≤ 12 → (ins N).length ≤ 100 := by decide
 exact hc N h
theorem iFr_pos {J : Nat} (h : 1 ≤ J) : iFr J = ⟨(J : Int) - 1, (J : Int)⟩ :: iFr (J - 1) := by
 obtain ⟨j, rfl⟩ : ∃ j, J = j + 1 := ⟨J - 1, by omega⟩
 rw [iFr]
 simp
theorem iAll_pos {k N : Nat} (h : k < N) : iAll k (N - k) = iFr k ++ iAll (k + 1) (N - (k + 1)) := by
 rw [show N - k = (N - (k + 1)) + 1 by omega, iAll]
theorem snoc_app {α : Type} (L : List α) (p : α) (r : List α) : (L ++ [p]) ++ r = L ++ p :: r := by simp
set_option maxRecDepth 100000 in
set_option maxHeartbeats 2000000 in
theorem InsertionNetwork_any (n : Int) (w : World) : Calls Try.prog 8 #[.int .i64 n] w (RetOS w (insF n)) := by
 cases h1 : inB 1 12 n with
 | false =>
  have HR : Hid (insF n = none) := zH (by simp [insF, h1])
  go_enter Try.func8, Try.ntmps8
  go_wp2_with fail
  refine (Zac n 1 12 _ h1 _).mono ?_
  rintro e w1 ⟨rfl, rfl⟩
  go_wp2
  go_ret2
  exact RetOS.none_ HR.out (bA)
 | true =>
  have hn := inB_iff.1 h1
  obtain ⟨N, rfl⟩ : ∃ N : Nat, n = N := ⟨n.toNat, by omega⟩
  have hR : insF N = if (ins N).length ≤ 60 then some (ins N) else none := by
   unfold insF
   rw [h1, Int.toNat_natCast]
   by_cases h : (ins N).length ≤ 60 <;> simp [h]
  have HR := zH hR; clear hR
  have hil := ins_len (N := N) (by omega) (by omega)
  have hN1 : 1 ≤ N := by omega
  have hN : N ≤ 12 := by omega
  clear hn
  go_enter Try.func8, Try.ntmps8
  go_wp2_with fail
  refine (Zac N 1 12 _ h1 _).mono ?_
  rintro e w1 ⟨rfl, rfl⟩
  clear h1
  have hE0 : OwnS (w.alloc (.cells #[] 54)) w.heap.size (w.alloc (.cells #[] 54)).heap.size (.slice (some ⟨w.heap.size, 0, none⟩) 0 0) 0 [] := (OwnS.new0 w w.heap.size lR).now
  have hB0 : Below w.heap.size w (w.alloc (.cells #[] 54)) := bA
  go_wp2_with fail
  go_loopw [4, 5] (fun v i wr => ∃ (k : Nat) (L : List Sp) (A' : Option Addr) (c' : Nat), 1 ≤ k ∧ k ≤ N ∧ i = .int .i64 k ∧ v = .slice A' L.length c' ∧ OwnS wr w.heap.size wr.heap.size (.slice A' L.length c') L.length L ∧ Hid (L ++ iAll k (N - k) = ins N) ∧ Below w.heap.size w wr) (fun _ i _ => N - (intOf i).toNat)
  case atStart => exact ⟨1, [], _, _, Nat.le_refl _, hN1, rfl, rfl, hE0, zH rfl, hB0⟩
  case round =>
   clear hE0 hB0
   obtain ⟨k, L, A', c', hk1, hk, rfl, rfl, ho, hL, hb⟩ := hrel
   have hz := hb.size
   by_cases hlt : k < N
   ·have hL2 : Hid (L ++ (iFr k ++ iAll (k + 1) (N - (k + 1))) = ins N) := zH (by rw [← iAll_pos hlt]; exact hL.out)
    clear hL
    go_wp2_with fail
    go_loopw [4, 6] (fun v j wr => ∃ (J : Nat) (L : List Sp) (A' : Option Addr) (c' : Nat), J ≤ k ∧ j = .int .i64 J ∧ v = .slice A' L.length c' ∧ OwnS wr w.heap.size wr.heap.size (.slice A' L.length c') L.length L ∧ Hid (L ++ (iFr J ++ iAll (k + 1) (N - (k + 1))) = ins N) ∧ Below w.heap.size w wr) (fun _ j _ => (intOf j).toNat)
    case atStart => exact ⟨k, L, _, _, Nat.le_refl _, rfl, rfl, ho, hL2, hb⟩
    case round =>
     clear ho hL2 hb
     obtain ⟨J, M, A2, c2, hJ, rfl, rfl, ho, hM, hb⟩ := hrel
     have hz := hb.size
     have hlen : M.length ≤ 100 := by have h := congrArg List.length hM.out; rw [List.length_append] at h; omega
     by_cases hj : 1 ≤ J
     ·have hj' : (1 : Int) ≤ (J : Int) := by omega
      have hM2 : Hid ((M ++ [⟨(J : Int) - 1, (J : Int)⟩]) ++ (iFr (J - 1) ++ iAll (k + 1) (N - (k + 1))) = ins N) := zH (by rw [snoc_app, ← List.cons_append, ← iFr_pos hj]; exact hM.out)
      have hl5 : Hid ((M ++ [(⟨(J : Int) - 1, (J : Int)⟩ : Sp)]).length = M.length + 1) := zH (by simp)
      obtain ⟨q, hq⟩ : ∃ q, M.length = q := ⟨_, rfl⟩
      rw [hq] at ho hlen hl5 ⊢
      clear hq hM
      have hoA := ho.alloc (.cells #[.int .i64 ((J : Int) - 1), .int .i64 (J : Int)] 54)
      have hbA := hb.alloc hz (.cells #[.int .i64 ((J : Int) - 1), .int .i64 (J : Int)] 54)
      have t0 := Zaa wr #[.int .i64 ((J : Int) - 1), .int .i64 (J : Int)] (T := 54) 0 (.int .i64 ((J : Int) - 1)) rfl
      have t1 := Zaa wr #[.int .i64 ((J : Int) - 1), .int .i64 (J : Int)] (T := 54) 1 (.int .i64 (J : Int)) rfl
      have hw1 : IntKind.i64.wrap ((J : Int) - 1) = (J : Int) - 1 := by rw [IntKind.wrap_i64] <;> omega
      go_wp2_with (at_builtin; refine Zal (p := ⟨(J : Int) - 1, (J : Int)⟩) rfl _ _ rfl rfl hoA rfl t0 t1 (by omega) oM ?_; intro A5 c5 w5 hown5 hg5 hat5)
      have hb5 := Zbg hbA hoA hg5 (by simp; omega) (by omega)
      clear t0 t1 ho hb hoA hbA hg5 hat5
      go_wp2
      go_roundw
      case rel => exact ⟨J - 1, _, A5, c5, by omega, congrArg (Value.int .i64) (by omega), by rw [hl5.out], by rw [hl5.out]; exact hown5, hM2, hb5⟩
      case measure => simp [intOf] <;> omega
     ·obtain rfl : J = 0 := by omega
      have hj' : ¬ (1 : Int) ≤ ((0 : Nat) : Int) := by omega
      have hM2 : Hid (M ++ iAll (k + 1) (N - (k + 1)) = ins N) := hM
      clear hM
      go_wp2
      go_roundw
      case rel => exact ⟨k + 1, M, A2, c2, by omega, by omega, by go_num, rfl, ho, hM2, hb⟩
      case measure => simp [intOf]; omega
   ·obtain rfl : N = k := by omega
    have hM2 : L = ins N := by have := hL.out; rwa [Nat.sub_self, iAll, List.append_nil] at this
    subst hM2
    by_cases h60 : (ins N).length ≤ 60
    ·have HR2 := zH (HR.out.trans (if_pos h60))
     clear HR hL
     obtain ⟨q, hq⟩ : ∃ q, (ins N).length = q := ⟨_, rfl⟩
     rw [hq] at ho h60 ⊢
     have hq2 := zH hq; clear hq
     have h61 : ¬ (60 : Int) < (q : Int) := by omega
     go_wp2
     go_ret2
     exact RetOS.some_ HR2.out hq2.out ho hb
    ·have HR2 := zH (HR.out.trans (if_neg h60))
     clear HR hL
     obtain ⟨q, hq⟩ : ∃ q, (ins N).length = q := ⟨_, rfl⟩
     rw [hq] at ho h60 ⊢
     clear hq
     have h61 : (60 : Int) < (q : Int) := by omega
     go_wp2
     go_ret2
     exact RetOS.none_ HR2.out hb
set_option maxRecDepth 100000 in
set_option maxHeartbeats 2000000 in
theorem Zaw (n : Int) (w : World) : Calls Try.prog 9 #[.int .i64 n] w (RetOS w (insF n)) := by
 cases h1 : inB 1 12 n with
 | false =>
  have HR : Hid (insF n = none) := zH (by simp [insF, h1])
  go_enter Try.func9, Try.ntmps9
  go_wp2_with fail
  refine (Zad n 1 12 _ h1 _).mono ?_
  rintro e w1 ⟨rfl, rfl⟩
  go_wp2
  go_ret2
  exact RetOS.none_ HR.out (Below.refl _ _)
 | true =>
  have hn := inB_iff.1 h1
  obtain ⟨N, rfl⟩ : ∃ N : Nat, n = N := ⟨n.toNat, by omega⟩
  have hR : insF N = if (ins N).length ≤ 60 then some (ins N) else none := by
   unfold insF
   rw [h1, Int.toNat_natCast]
   by_cases h : (ins N).length ≤ 60 <;> simp [h]
  have HR := zH hR; clear hR
  have hil := ins_len (N := N) (by omega) (by omega)
  have hN1 : 1 ≤ N := by omega
  have hN : N ≤ 12 := by omega
  clear hn
  go_enter Try.func9, Try.ntmps9
  go_wp2_with fail
  refine (Zad N 1 12 _ h1 _).mono ?_
  rintro e w1 ⟨rfl, rfl⟩
  clear h1
  have hE0 : OwnS w w.heap.size w.heap.size (.slice none 0 0) 0 [] := OwnS.none_ _ _ _
  have hB0 : Below w.heap.size w w := Below.refl _ _
  go_wp2_with fail
  go_loopw [4, 5] (fun v i wr => ∃ (k : Nat) (L : List Sp) (A' : Option Addr) (c' : Nat), 1 ≤ k ∧ k ≤ N ∧ i = .int .i64 k ∧ v = .slice A' L.length c' ∧ OwnS wr w.heap.size wr.heap.size (.slice A' L.length c') L.length L ∧ Hid (L ++ iAll k (N - k) = ins N) ∧ Below w.heap.size w wr) (fun _ i _ => N - (intOf i).toNat)
  case atStart => exact ⟨1, [], _, _, Nat.le_refl _, hN1, rfl, rfl, hE0, zH rfl, hB0⟩
  case round =>
   clear hE0 hB0
   obtain ⟨k, L, A', c', hk1, hk, rfl, rfl, ho, hL, hb⟩ := hrel
   have hz := hb.size
   by_cases hlt : k < N
   ·have hL2 : Hid (L ++ (iFr k ++ iAll (k + 1) (N - (k + 1))) = ins N) := zH (by rw [← iAll_pos hlt]; exact hL.out)
    clear hL
    go_wp2_with fail
    go_loopw [4, 6] (fun v j wr => ∃ (J : Nat) (L : List Sp) (A' : Option Addr) (c' : Nat), J ≤ k ∧ j = .int .i64 J ∧ v = .slice A' L.length c' ∧ OwnS wr w.heap.size wr.heap.size (.slice A' L.length c') L.length L ∧ Hid (L ++ (iFr J ++ iAll (k + 1) (N - (k + 1))) = ins N) ∧ Below w.heap.size w wr) (fun _ j _ => (intOf j).toNat)
    case atStart => exact ⟨k, L, _, _, Nat.le_refl _, rfl, rfl, ho, hL2, hb⟩
    case round =>
     clear ho hL2 hb
     obtain ⟨J, M, A2, c2, hJ, rfl, rfl, ho, hM, hb⟩ := hrel
     have hz := hb.size
     have hlen : M.length ≤ 100 := by have h := congrArg List.length hM.out; rw [List.length_append] at h; omega
     by_cases hj : 1 ≤ J
     ·have hj' : (1 : Int) ≤ (J : Int) := by omega
      have hM2 : Hid ((M ++ [⟨(J : Int) - 1, (J : Int)⟩]) ++ (iFr (J - 1) ++ iAll (k + 1) (N - (k + 1))) = ins N) := zH (by rw [snoc_app, ← List.cons_append, ← iFr_pos hj]; exact hM.out)
      have hl5 : Hid ((M ++ [(⟨(J : Int) - 1, (J : Int)⟩ : Sp)]).length = M.length + 1) := zH (by simp)
      obtain ⟨q, hq⟩ : ∃ q, M.length = q := ⟨_, rfl⟩
      rw [hq] at ho hlen hl5 ⊢
      clear hq hM
      have hoA := ho.alloc (.cells #[.int .i64 ((J : Int) - 1), .int .i64 (J : Int)] 54)
      have hbA := hb.alloc hz (.cells #[.int .i64 ((J : Int) - 1), .int .i64 (J : Int)] 54)
      have t0 := Zaa wr #[.int .i64 ((J : Int) - 1), .int .i64 (J : Int)] (T := 54) 0 (.int .i64 ((J : Int) - 1)) rfl
      have t1 := Zaa wr #[.int .i64 ((J : Int) - 1), .int .i64 (J : Int)] (T := 54) 1 (.int .i64 (J : Int)) rfl
      have hw1 : IntKind.i64.wrap ((J : Int) - 1) = (J : Int) - 1 := by rw [IntKind.wrap_i64] <;> omega
      go_wp2_with (at_builtin; refine Zal (p := ⟨(J : Int) - 1, (J : Int)⟩) rfl _ _ rfl rfl hoA rfl t0 t1 (by omega) oM ?_; intro A5 c5 w5 hown5 hg5 hat5)
      have hb5 := Zbg hbA hoA hg5 (by simp; omega) (by omega)
      clear t0 t1 ho hb hoA hbA hg5 hat5
      go_wp2
      go_roundw
      case rel => exact ⟨J - 1, _, A5, c5, by omega, congrArg (Value.int .i64) (by omega), by rw [hl5.out], by rw [hl5.out]; exact hown5, hM2, hb5⟩
      case measure => simp [intOf] <;> omega
     ·obtain rfl : J = 0 := by omega
      have hj' : ¬ (1 : Int) ≤ ((0 : Nat) : Int) := by omega
      have hM2 : Hid (M ++ iAll (k + 1) (N - (k + 1)) = ins N) := hM
      clear hM
      go_wp2
      go_roundw
      case rel => exact ⟨k + 1, M, A2, c2, by omega, by omega, by go_num, rfl, ho, hM2, hb⟩
      case measure => simp [intOf]; omega
   ·obtain rfl : N = k := by omega
    have hM2 : L = ins N := by have := hL.out; rwa [Nat.sub_self, iAll, List.append_nil] at this
    subst hM2
    by_cases h60 : (ins N).length ≤ 60
    ·have HR2 := zH (HR.out.trans (if_pos h60))
     clear HR hL
     obtain ⟨q, hq⟩ : ∃ q, (ins N).length = q := ⟨_, rfl⟩
     rw [hq] at ho h60 ⊢
     have hq2 := zH hq; clear hq
     have h61 : ¬ (60 : Int) < (q : Int) := by omega
     go_wp2
     go_ret2
     exact RetOS.some_ HR2.out hq2.out ho hb
    ·have HR2 := zH (HR.out.trans (if_neg h60))
     clear HR hL
     obtain ⟨q, hq⟩ : ∃ q, (ins N).length = q := ⟨_, rfl⟩
     rw [hq] at ho h60 ⊢
     clear hq
     have h61 : (60 : Int) < (q : Int) := by omega
     go_wp2
     go_ret2
     exact RetOS.none_ HR2.out hb
end Go.Proofs.Ytjeojnfpeppclaa
