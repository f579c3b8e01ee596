/- The contract of the reference's coMake. Thirty lines at most, texts below 2^21 bytes. -/
import Derived.Deep.CutBlock
import Derived.Test.YtenknpcbbcbciaaGreatQS46
import Derived.Test.YtenknpcbbcbciaaGreatQS38
namespace Go.Proofs.YtenknpcbbcbciaaGreat
open Go.RowKit
set_option linter.unusedVariables false
set_option linter.unusedSimpArgs false
attribute [local go_sem] sepAt sepUpon pureAt pureUpon
set_option maxRecDepth 100000 in
set_option maxHeartbeats 8000000 in
theorem coMake_any (A : Option Addr) (n c : Nat) (l : List Ln) (w : World) (ha : RLn w A n l) (hcap : n ≤ c) (hsh : ∀ x ∈ l, shortL x) (hg : goodP l) :
 Calls Tryz.prog 86 #[.slice A n c] w (RetCs w l) := by
 have hl := ha.len
 have hn : n ≤ 30 := by have := hg.1; omega
 have hsums := goodP_sums hg
 have hi0 := Zbz hg.2.1 0
 have hi1 := Zbz hg.2.1 1
 have hL0 := Zbx l 0
 have hL1 := Zbx l 1
 have hret : Hid (∀ e w', (∃ B Ag cg Oa oc Ea ec Wa wc bl, e = .returned (.agg #[.pointer (some ⟨B, 0, none⟩), .slice Wa n wc, .slice Ea n ec]) ∧
  BxC w' B (sumI (insL l 0)) (sumI (insL l 1)) Ag (cS l (sumI (insL l 0)) (sumI (insL l 1)) n).g.length cg Oa (cS l (sumI (insL l 0)) (sumI (insL l 1)) n).os.length oc ∧ B < w'.heap.size ∧ w.heap.size ≤ B ∧
  OwnC w' w.heap.size w'.heap.size Ag (cS l (sumI (insL l 0)) (sumI (insL l 1)) n).g.length cg Oa (cS l (sumI (insL l 0)) (sumI (insL l 1)) n).os.length oc (cS l (sumI (insL l 0)) (sumI (insL l 1)) n).g (cS l (sumI (insL l 0)) (sumI (insL l 1)) n).os ∧
  Own w' w.heap.size w'.heap.size (.slice Ea n ec) n (cS l (sumI (insL l 0)) (sumI (insL l 1)) n).es ∧ Wi w' w.heap.size false bl Wa wc n (cS l (sumI (insL l 0)) (sumI (insL l 1)) n).ws ∧ Below w.heap.size w w') → RetCs w l e w') := zH (fun e w' h => by unfold RetCs; rw [hl]; exact h)
 obtain ⟨x, hx⟩ := lT (sumI (insL l 0))
 obtain ⟨y, hy⟩ := lT (sumI (insL l 1))
 rw [hx.out, hy.out] at hret hsums
 obtain ⟨hxb, hyb⟩ := hsums
 have al0 : Below w.heap.size w (w.alloc (.cells #[.pointer none, .slice none 0 0, .slice none 0 0] 99)) := bA
 have hp0 : ∀ z ∈ insL l 0, 0 ≤ z ∧ z ≤ ((1024 : Nat) : Int) := fun z hz => by have := hi0 z hz; omega
 have hp1 : ∀ z ∈ insL l 1, 0 ≤ z ∧ z ≤ ((1024 : Nat) : Int) := fun z hz => by have := hi1 z hz; omega
 go_enter Tryz.func86, Tryz.ntmps86
 go_wp2_with fail
 refine (Zbc A n c 0 l _ (ha.below al0 lR) (by omega)).mono ?_
 rintro e w1 hT1
 obtain ⟨A1, c1, rfl, hw1, hb1⟩ := hT1
 have hB1 := al0.trans (hb1.mono al0.size)
 go_wp2_with fail
 refine (Zds A1 _ c1 (insL l 0) _ hw1.reads (by omega) hp0).mono ?_
 rintro e w3 ⟨rfl, rfl⟩
 rw [hx.out]
 go_wp2_with fail
 refine (Zbc A n c 1 l _ (ha.below hB1 lR) (by omega)).mono ?_
 rintro e w2 hT2
 obtain ⟨A2, c2, rfl, hw2, hb2⟩ := hT2
 have hB2 := hB1.trans (hb2.mono hB1.size)
 have ha2 := ha.below hB2 lR
 have hZ2 : Below (w.alloc (.cells #[.pointer none, .slice none 0 0, .slice none 0 0] 99)).heap.size (w.alloc (.cells #[.pointer none, .slice none 0 0, .slice none 0 0] 99)) w2 := hb1.trans (hb2.mono hb1.size)
 go_wp2_with fail
 refine (Zds A2 _ c2 (insL l 1) _ hw2.reads (by omega) hp1).mono ?_
 rintro e w3 ⟨rfl, rfl⟩
 rw [hy.out]
 have hzb := hB2.size
 clear hw1 hw2 hb1 hb2 hB1 al0 ha hi0 hi1 hp0 hp1
 go_wp2_with fail
 refine (ciNew_any x y w2).mono ?_
 rintro e w3 ⟨rfl, rfl⟩
 have alm : Below w2.heap.size w2 (w2.alloc (.cells #[.int .i64 x, .int .i64 y, .slice none 0 0, .slice none 0 0] 106)) := bA
 have hsz3 : (((w2.alloc (.cells #[.int .i64 x, .int .i64 y, .slice none 0 0, .slice none 0 0] 106)).alloc (.cells #[.pointer (some ⟨w2.heap.size, 0, none⟩), .slice none 0 0, .slice none 0 0] 99)).alloc (.cells #[.int .i64 0, .int .i64 x] 3)).heap.size = w2.heap.size + 3 := by simp
 have hb3 : Below w2.heap.size w2 (((w2.alloc (.cells #[.int .i64 x, .int .i64 y, .slice none 0 0, .slice none 0 0] 106)).alloc (.cells #[.pointer (some ⟨w2.heap.size, 0, none⟩), .slice none 0 0, .slice none 0 0] 99)).alloc (.cells #[.int .i64 0, .int .i64 x] 3)) := (alm.alloc (by simp) _).alloc (by simp; omega) _
 have hC0 : Cp false [.pointer (some ⟨w2.heap.size, 0, none⟩)] (((w2.alloc (.cells #[.int .i64 x, .int .i64 y, .slice none 0 0, .slice none 0 0] 106)).alloc (.cells #[.pointer (some ⟨w2.heap.size, 0, none⟩), .slice none 0 0, .slice none 0 0] 99)).alloc (.cells #[.int .i64 0, .int .i64 x] 3)) w2.heap.size w2.heap.size (w2.heap.size + 1) (w2.heap.size + 1 + 1) x y 0 x ⟨[], [], [], []⟩ 0 none none 0 none 0 none 0 := by
  refine Cp.start hsz3 ?_ ?_ ?_ ?_
  ·exact ((MkO.new w2 w2.heap.size x y 106).alloc_ _).alloc_ _
  ·have hs1 : (w2.alloc (.cells #[.int .i64 x, .int .i64 y, .slice none 0 0, .slice none 0 0] 106)).heap.size = w2.heap.size + 1 := by simp
   have k : ∀ (i : Nat) (v : Value), (w2.alloc (.cells #[.int .i64 x, .int .i64 y, .slice none 0 0, .slice none 0 0] 106)).alloc (.cells #[.pointer (some ⟨w2.heap.size, 0, none⟩), .slice none 0 0, .slice none 0 0] 99) |>.cell? ⟨(w2.alloc (.cells #[.int .i64 x, .int .i64 y, .slice none 0 0, .slice none 0 0] 106)).heap.size, i, none⟩ |> fun o => o = some v → (((w2.alloc (.cells #[.int .i64 x, .int .i64 y, .slice none 0 0, .slice none 0 0] 106)).alloc (.cells #[.pointer (some ⟨w2.heap.size, 0, none⟩), .slice none 0 0, .slice none 0 0] 99)).alloc (.cells #[.int .i64 0, .int .i64 x] 3)).cell? ⟨w2.heap.size + 1, i, none⟩ = some v := fun i v h => by
    rw [hs1] at h
    exact Zdj (bA) h lR
   exact ⟨k 0 _ (Zaf _ _ 0 _ rfl), k 1 _ (Zaf _ _ 1 _ rfl), k 2 _ (Zaf _ _ 2 _ rfl), trivial⟩
  ·have hs1 : (w2.alloc (.cells #[.int .i64 x, .int .i64 y, .slice none 0 0, .slice none 0 0] 106)).heap.size = w2.heap.size + 1 := by simp
   have h := (Fz.new (w2.alloc (.cells #[.int .i64 x, .int .i64 y, .slice none 0 0, .slice none 0 0] 106)) #[.pointer (some ⟨w2.heap.size, 0, none⟩), .slice none 0 0, .slice none 0 0] 99).below ((Below.refl _ _).alloc lR (.cells #[.int .i64 0, .int .i64 x] 3)) (by simp)
   rw [hs1] at h
   exact h
  ·have hs2 : ((w2.alloc (.cells #[.int .i64 x, .int .i64 y, .slice none 0 0, .slice none 0 0] 106)).alloc (.cells #[.pointer (some ⟨w2.heap.size, 0, none⟩), .slice none 0 0, .slice none 0 0] 99)).heap.size = w2.heap.size + 2 := by simp
   rw [← hs2]
   exact ⟨Zaf _ _ 0 _ rfl, Zaf _ _ 1 _ rfl, Fz.new _ _ _, by simp⟩
 clear alm
 go_wp2_with fail
 generalize hW3 : (((w2.alloc (.cells #[.int .i64 x, .int .i64 y, .slice none 0 0, .slice none 0 0] 106)).alloc (.cells #[.pointer (some ⟨w2.heap.size, 0, none⟩), .slice none 0 0, .slice none 0 0] 99)).alloc (.cells #[.int .i64 0, .int .i64 x] 3)) = W3 at *
 clear hW3
 go_loopw [32] (fun i wr => ∃ (k : Nat) (G : Option Nat) (Oa : Option Addr) (oc : Nat) (Ea : Option Addr) (ec : Nat) (Wa : Option Addr) (wk : Nat) (n0 n1 : Int), k ≤ n ∧ i = .int .i64 k ∧ Cp false [.pointer (some ⟨w2.heap.size, 0, none⟩)] wr w2.heap.size w2.heap.size (w2.heap.size + 1) (w2.heap.size + 1 + 1) x y n0 n1 (cS l x y k) k G Oa oc Ea ec Wa wk ∧ Hid (n0 = nxt l x 0 k) ∧ Hid (n1 = nxt l x 1 k) ∧ Below w2.heap.size w2 wr) (fun i _ => n - (intOf i).toNat)
 case atStart => exact ⟨0, _, _, _, _, _, _, _, _, _, Nat.zero_le _, rfl, hC0, zH (by simp [nxt, insL, sumI]), zH (by simp [nxt, insL, sumI]), hb3⟩
 case round =>
  obtain ⟨k, G, Oa, oc, Ea, ec, Wa, wk, n0, n1, hk, rfl, hC, hn0, hn1, hb⟩ := hrel
  clear hC0 hb3
  by_cases hlt : k < n
  ·have hfitAll := Zev (x + y) hg.2.1 (by omega : k < l.length) (cS_inv x y hg.2.1 k (by omega))
   have hinv := cS_inv x y hg.2.1 k (by omega)
   have hnx : Hid (∀ p, nxt l x p (k + 1) = nxt l x p k + if (lx l k).kind = 1 ∧ (lx l k).party = p then (lx l k).width else 0) := zH (fun p => by unfold nxt; rw [insL_sum_step (by omega)]; omega)
   have hstep : Hid (∀ r : Go2, stepG l x y k (cS l x y k) = r → cS l x y (k + 1) = ⟨r.g, if (lx l k).kind = 6 then (cS l x y k).os ++ r.o else (cS l x y k).os, (cS l x y k).ws ++ [r.o], (cS l x y k).es ++ [(r.g.length : Int)]⟩) := zH (fun r h => by show stepC l (stepG l x y k (cS l x y k)) k (cS l x y k) = _; rw [h]; rfl)
   have hsG : Hid (stepG l x y k (cS l x y k) = if (lx l k).kind = 1 then ⟨(cS l x y k).g, spn (nxt l x (lx l k).party k) (lx l k).width.toNat⟩ else lineG (x + y) (lx l k) (psL l (cS l x y k).ws (lx l k)) (cS l x y k).g) := zH rfl
   have hnb0 := nxt_bd hg (p := 0) (k := k) hxb (by omega)
   have hnb1 := nxt_bd hg (p := 1) (k := k) hxb (by omega)
   rw [← hn0.out] at hnb0
   rw [← hn1.out] at hnb1
   have hshx := hsh (lx l k) (by rw [lx_lt (by omega)]; exact List.getElem_mem _)
   obtain ⟨s, hs⟩ := lT (cS l x y k)
   rw [hs.out] at hC hinv hfitAll hstep hsG
   have hrl := ha2.below hb lR
   obtain ⟨pb, po, P, q, hA, hpbB, hat, hxr⟩ := hrl.at_ hlt
   obtain ⟨X, hX⟩ := lT (lx l k)
   rw [hX.out] at hat hxr hfitAll hstep hsG hshx hnx
   obtain ⟨hfit, hfd, hlen, hwidX, hwk1, hwk2⟩ := hfitAll
   have hgb := hinv.g
   have hob := hinv.os
   obtain ⟨hs1, hs2, hs3, hs4⟩ := hshx
   have al : Below wr.heap.size wr (wr.alloc (.cells #[.int .i64 X.kind, .string (bs X.name), .string (bs X.op), .slice P X.parts.length q, .int .i64 X.party, .int .i64 X.width, .int .i64 X.value] 89)) := bA
   have hone : LnAt (wr.alloc (.cells #[.int .i64 X.kind, .string (bs X.name), .string (bs X.op), .slice P X.parts.length q, .int .i64 X.party, .int .i64 X.width, .int .i64 X.value] 89)) wr.heap.size 0 X P q := LnAt.new wr X P q 89
   have hPt0 : Pt (wr.alloc (.cells #[.int .i64 X.kind, .string (bs X.name), .string (bs X.op), .slice P X.parts.length q, .int .i64 X.party, .int .i64 X.width, .int .i64 X.value] 89)) (wr.heap.size + 1) [some w2.heap.size, some (w2.heap.size + 1), some (w2.heap.size + 1 + 1), G, ob Oa, ob Ea, ob Wa] w2.heap.size none 0 0 [] := ⟨[], World.ownsRow_nil _ _ _ _, rfl, fun j hj => by omega⟩
   have hszb : (wr.alloc (.cells #[.int .i64 X.kind, .string (bs X.name), .string (bs X.op), .slice P X.parts.length q, .int .i64 X.party, .int .i64 X.width, .int .i64 X.value] 89)).heap.size = wr.heap.size + 1 := by simp
   have hzw := hb.size
   have hbc := hC.lb.2.2.2
   subst hA
   obtain ⟨c0, c1, c2, c3, c4, c5, c6⟩ := hat
   go_wp2_with fail
   clear c0 c1 c2 c3 c4 c5 c6
   generalize hwb : wr.alloc (.cells #[.int .i64 X.kind, .string (bs X.name), .string (bs X.op), .slice P X.parts.length q, .int .i64 X.party, .int .i64 X.width, .int .i64 X.value] 89) = wb at *
   generalize hS0 : wr.heap.size = S0 at *
   have hSz := zH hS0
   have hCle := Nat.le_of_eq hS0
   clear hS0 hwb
   go_loopw [10, 39] (fun r i w3 => ∃ (j : Nat) (PA : Option Addr) (pc : Nat), j ≤ X.parts.length ∧ i = .int .i64 j ∧ r = .slice PA j pc ∧ Pt w3 (S0 + 1) [some w2.heap.size, some (w2.heap.size + 1), some (w2.heap.size + 1 + 1), G, ob Oa, ob Ea, ob Wa] w2.heap.size PA pc j ((psL l s.ws X).take j) ∧ Below (S0 + 1) wb w3) (fun _ i _ => X.parts.length - (intOf i).toNat)
   case atStart => exact ⟨0, _, _, Nat.zero_le _, rfl, rfl, hPt0, (Below.refl _ _)⟩
   case round =>
    obtain ⟨j, PA, pc, hj, rfl, rfl, hPt, hb4⟩ := hrel
    clear hPt0
    have hz4 := hb4.size
    have alq := al.trans (hb4.mono (by omega))
    have hC4 := hC.below alq hCle
    by_cases hjl : j < X.parts.length
    ·obtain ⟨nb, no, hP, hnb, hnc⟩ := (hxr.below alq hCle).at_ hjl
     subst hP
     have hrl4 := hrl.below alq hCle
     have hfj := hfd _ (sx_memW hjl)
     have hsn : Hid ((psL l s.ws X).take (j + 1) = (psL l s.ws X).take j ++ [gl s.ws (sFind l (sx X.parts j)).toNat]) := zH (psL_take hjl)
     obtain ⟨nm, hnm⟩ := lT (sx X.parts j)
     rw [hnm.out] at hnc hfj hsn
     obtain ⟨F, hF⟩ := Int.eq_ofNat_of_zero_le hfj.1
     have hFk : F < k := by omega
     have hF2 : Hid (sFind l nm = (F : Int)) := zH hF
     rw [show (sFind l nm).toNat = F by omega] at hsn
     obtain ⟨wg, A1, d1, hWa, hwc, hwr1, hwgs, hwA⟩ := hC.wireL hFk
     have e4 : wr.cell? ⟨w2.heap.size + 1, 1, none⟩ = some (.slice (some ⟨wg, 0, none⟩) k wk) := by rw [← hWa]; exact hC4.cs.2.1
     have eF := Zdj alq hwc hCle
     have hwr2 := hwr1.below alq hCle
     obtain ⟨xs, hxs⟩ := lT (gl s.ws F)
     rw [hxs.out] at hsn eF hwr2
     have hpne : ∀ r, r < S0 + 1 → (Value.slice PA j pc).ownBlock ≠ some r := fun r hr hc => by obtain ⟨_, q1, _, _⟩ := hPt; have := (q1.lt r hc).1; omega
     have hbs : w2.heap.size < S0 := by have := hC.mq.1; omega
     have hwg2 : wg < S0 := by omega
     have hwA2 : ∀ q o, A1 = some ⟨q, o, none⟩ → some q ∉ ([some w2.heap.size, some (w2.heap.size + 1), some (w2.heap.size + 1 + 1), G, ob Oa, ob Ea, ob Wa] : List (Option Nat)) ∧ q < S0 + 1 ∧ w2.heap.size ≤ q := fun q o hq => ⟨(hwA q o hq).1, by have := (hwA q o hq).2.1; omega, (hwA q o hq).2.2⟩
     clear hF hfj hwc hwr1 hwA hCle hWa
     go_wp2_with fail
     go_region_held3 (fun w' => w'.cell? ⟨w2.heap.size + 1, 1, none⟩ = some (.slice (some ⟨wg, 0, none⟩) k wk) ∧ w'.cell? ⟨wg, F, none⟩ = some (.slice A1 xs.length d1))
      (first | (go_keep; done) | (go_split_ands; exact ⟨Zab (by assumption) hb5, Zab (by assumption) hb5⟩) | (go_split_ands; exact ⟨Zep (by assumption) hg6 (hpne _ (by show w2.heap.size + 1 < S0 + 1; omega)), Zep (by assumption) hg6 (hpne _ (by show wg < S0 + 1; omega))⟩))
      (first | (go_at_call 85; refine (Zbe (some ⟨pb, po, none⟩) n c l nm _ (hrl4.below (Zai 1) lR) (by omega)).mono ?_; rintro e w5 ⟨he5, hb5⟩; rw [hF2.out] at he5; obtain rfl := he5; have hs5 : wr.heap.size ≤ w5.heap.size := hb5.size) | (have hPq := ((hPt.below (Zai 1) lR).below hb5 lR).below ((Below.refl _ _).alloc lR (.cells #[.slice A1 xs.length d1] 24)) lR; obtain ⟨pvals, p1, p2, p3⟩ := hPq; refine step_appV (by rfl) _ _ (by rfl) (by rfl) p1 (by rfl) (Zaf _ _ 0 _ rfl) (by rfl) (by omega) (by simp; omega) ?_; intro A6 c6 w6 hN6 hg6))
     have hb45 : Below wr.heap.size wr w5 := (Zai 1).trans (hb5.mono lR)
     have hb6 : Below (S0 + 1) wb w6 := (((hb4.trans (hb45.mono (by omega))).alloc (by omega) (.cells #[.slice A1 xs.length d1] 24)).grown hg6 (by simp; omega) (fun g hg => (p1.lt g hg).1))
     have hr6 : RI (w5.alloc (.cells #[.slice A1 xs.length d1] 24)) A1 xs.length xs := ((hwr2.below (Zai 1) lR).below hb5 lR).below (bA) lR
     have hPn := Pt.app p1 p2 p3 hN6 hg6 hr6 hwA2
     go_wp2
     go_roundw
     case rel => exact ⟨j + 1, A6, c6, by omega, by go_num, rfl, by rw [hsn.out]; exact hPn, hb6⟩
     case measure => simp [intOf]; omega
    ·obtain rfl : j = X.parts.length := by omega
     have hpl : (psL l s.ws X).length = X.parts.length := by simp [psL]
     rw [List.take_of_length_le (by omega)] at hPt
     have hone4 := hone.below hb4 (by show S0 < S0 + 1; omega)
     have hB4 := hb.trans (alq.mono (by omega))
     have hltC : ∀ g, some g ∈ ([some w2.heap.size, some (w2.heap.size + 1), some (w2.heap.size + 1 + 1), G, ob Oa, ob Ea, ob Wa] : List (Option Nat)) → w2.heap.size ≤ g ∧ g < S0 := fun g hg => by have := hC.lt g hg; omega
     obtain ⟨ps, hps⟩ := lT (psL l s.ws X)
     rw [hps.out] at hfit hPt hsG hlen hpl
     have hzS : S0 < wr.heap.size := by omega
     have hlo4 : w2.heap.size ≤ wr.heap.size := by omega
     clear hC hone hb4 hrl hxr al hfd
     obtain ⟨e0, e1, e2, e3, e4, e5, e6⟩ := hone4
     simp only [Nat.zero_add] at e1 e2 e3 e4 e5 e6
     go_upto_block 4 with (fail)
     go_cut [13, 15, 32] from 32 to 158 (fun v u i9 wx => i9 = .int .i64 k ∧ ∃ (g1 : List G3) (os1 : List Int) (r : List Int) (G1 : Option Nat) (Oa1 : Option Addr) (oc1 : Nat) (R : Option Addr) (rc : Nat) (m0 m1 : Int), v = .slice R r.length rc ∧ Cp false [.pointer (some ⟨w2.heap.size, 0, none⟩)] wx w2.heap.size w2.heap.size (w2.heap.size + 1) (w2.heap.size + 1 + 1) x y m0 m1 ⟨g1, os1, s.ws, s.es⟩ k G1 Oa1 oc1 Ea ec Wa wk ∧ Lst false wx w2.heap.size [some w2.heap.size, some (w2.heap.size + 1), some (w2.heap.size + 1 + 1), G1, ob Oa1, ob Ea, ob Wa] R rc r ∧ Below w2.heap.size w2 wx ∧ Hid (cS l x y (k + 1) = ⟨g1, os1, s.ws ++ [r], s.es ++ [(g1.length : Int)]⟩) ∧ Hid (m0 = nxt l x 0 (k + 1)) ∧ Hid (m1 = nxt l x 1 (k + 1)))
     case first =>
      rcases hfit with ⟨hk1, hpt, hw1, hw2, _⟩ | ⟨hk1, hw1, hw2, hv1, hv2, _⟩ | ⟨hk1, hp2, hb0, he, ho, h5⟩ | ⟨hk1, hp1, hb0⟩ | ⟨hk1, hp3, h0, hb0, he⟩ | ⟨hk1, hp1, hb0⟩
      ·obtain ⟨M, hM⟩ := Int.eq_ofNat_of_zero_le (show 0 ≤ X.width by omega)
       rw [hM] at e5
       have hM2 : M ≤ 10 := by omega
       rcases hpt with hp | hp
       ·rw [hp] at e4
        have hst : Hid (stepG l x y k s = ⟨s.g, spn n0 M⟩) := zH (by rw [hsG.out, if_pos hk1, hp, ← hn0.out, hM]; rfl)
        have hcs1 : Hid (cS l x y (k + 1) = ⟨s.g, s.os, s.ws ++ [spn n0 M], s.es ++ [(s.g.length : Int)]⟩) := zH (by rw [hstep.out _ hst.out]; simp [hk1])
        have hx0 : Hid (n0 + M = nxt l x 0 (k + 1)) := zH (by rw [hnx.out, ← hn0.out]; simp [hk1, hp, hM])
        have hx1 : Hid (n1 + 0 = nxt l x 1 (k + 1)) := zH (by rw [hnx.out, ← hn1.out]; simp [hk1, hp, hM])
        have t1 : (X.kind == 1) = true := by rw [hk1]; decide
        have hltB : ∀ g, some g ∈ ([some w2.heap.size, some (w2.heap.size + 1), some (w2.heap.size + 1 + 1), G, ob Oa, ob Ea, ob Wa] : List (Option Nat)) → g < wr.heap.size := fun g hg => by have := (hltC g hg).2; omega
        have ht4 := hC4.tw
        obtain ⟨b0, b1, bz, bl⟩ := ht4
        have hnS : S0 ≠ w2.heap.size + 1 + 1 := by have := (hltC (w2.heap.size + 1 + 1) (by simp)).2; omega
        clear hk1 hp hM hsG hstep hnx hst hltC hPt hlen
        go_wp2_with fail
        refine Zbu (9) [(⟨S0, 4, none⟩, .int .i64 0), (⟨S0, 5, none⟩, .int .i64 (M : Int)), (⟨w2.heap.size + 1 + 1, 0, none⟩, .int .i64 n0)] [(7, [], [])] [7] [(7, Res.row wr.heap.size M (spn n0 M))] (by kernel_rfl) (by kernel_rfl) (by kernel_rfl) (by simp only [cD, cC, and_true]; repeat (any_goals (apply And.intro)); all_goals (first | assumption | go_simp)) ?_
        simp only [List.take_succ_cons, List.take_zero, List.drop_succ_cons, List.drop_zero, List.take_nil, List.drop_nil, List.take, List.drop]
        repeat (first
         | ((first
          | ((with_reducible refine Zan ?_ ?_ ?_)
             ·exact rfl
             ·exact rfl)
          | ((with_reducible refine Zas ?_ ?_ ?_)
             ·exact rfl
             ·exact Zad rfl rfl rfl rfl))
            intro K hK
            apply Exists.intro
            refine ⟨fun w3 hw3 => ?_, ?_⟩
            ·have hcs := hw3
             simp only [cD, cC, and_true] at hcs
             clear hw3
             go_simp
             first | done | exact ⟨rfl, rfl⟩ | rfl
            refine hK _ ?_
            clear hK K
            try simp only [pA, pB, sA, sB, sC])
         | ((with_reducible refine Zar ?_ ?_ ?_)
            ·exact rfl
            ·exact Zak rfl rfl rfl rfl
            simp only [pA, pB, sA, sB, sC]))
        focus
         (with_reducible refine mem_row wr.heap.size M (spn n0 M) ?_ ?_ ?_ ?_ ?_ (hw := ?_))
         ·exact rfl
         ·exact rfl
         ·omega
         ·intro w3 hw3 hc3 hp3
          have hcs := hc3
          simp only [cD, cC, and_true] at hcs
          (go_simp; refine (gdRange_any n0 M _ (by omega) (by omega)).mono ?_; rintro e w4 hT; obtain ⟨A4, c4, rfl, ho4, hb4⟩ := hT.open_ (Zck _ _); exact retPost.mk_ ⟨A4, c4, rfl, ho4, hb4⟩)
         rotate_left
         ·first | exact Zao rfl | exact Zad rfl rfl rfl rfl
         intro A7 c7
         try simp only [pA, pB, sA, sB, sC]
        repeat (first
         | ((first
          | ((with_reducible refine Zan ?_ ?_ ?_)
             ·exact rfl
             ·exact rfl)
          | ((with_reducible refine Zas ?_ ?_ ?_)
             ·exact rfl
             ·exact Zad rfl rfl rfl rfl))
            intro K hK
            apply Exists.intro
            refine ⟨fun w3 hw3 => ?_, ?_⟩
            ·have hcs := hw3
             simp only [cD, cC, and_true] at hcs
             clear hw3
             go_simp
             first | done | exact ⟨rfl, rfl⟩ | rfl
            refine hK _ ?_
            clear hK K
            try simp only [pA, pB, sA, sB, sC])
         | ((with_reducible refine Zar ?_ ?_ ?_)
            ·exact rfl
            ·exact Zak rfl rfl rfl rfl
            simp only [pA, pB, sA, sB, sC]))
        refine Zbs ?_
        intro wy hwy hcy hfin hap
        have hb7y := Zco hwy
        have hb7 := Zaa hb7y 1
        have ho7y : Own wy wr.heap.size wy.heap.size (.slice A7 M c7) M (spn n0 M) := hfin.1.1
        have ho7 : Own (wy.drewN 1) wr.heap.size (wy.drewN 1).heap.size (.slice A7 M c7) M (spn n0 M) := ho7y.drewN 1
        have hC7y := hC4.below hb7y lR
        have hC7 := hC4.below hb7 lR
        have f4 := Zdj hb7y e4 lR
        have f5 := Zdj hb7y e5 lR
        have ht7 := hC7y.tw
        obtain ⟨g0, g1, gz, gl⟩ := ht7
        have gzp := gz 0
        have hwrap : IntKind.i64.wrap (n0 + (M : Int)) = n0 + M := by rw [IntKind.wrap_i64] <;> omega
        have hC8 := hC7.next (p := 0) (v := n0 + M) (m0 := n0 + M) (m1 := n1) (.inl ⟨rfl, rfl, rfl⟩)
        have ka8 := (Alt.refl_ (fun i => i = w2.heap.size + 1 + 1) (wy.drewN 1)).set_ ⟨w2.heap.size + 1 + 1, 0, none⟩ (.int .i64 (n0 + M)) (fun _ => rfl)
        have hbl : w2.heap.size + 1 + 1 < wr.heap.size := hltB _ (by simp)
        have ho8 := (ho7.alt ka8 (fun g hg hc => by have := ho7.lt g hg; omega)).now
        have hL8 : Lst false ((wy.drewN 1).setCell ⟨w2.heap.size + 1 + 1, 0, none⟩ (.int .i64 (n0 + M))) w2.heap.size [some w2.heap.size, some (w2.heap.size + 1), some (w2.heap.size + 1 + 1), G, ob Oa, ob Ea, ob Wa] A7 c7 (spn n0 M) := Lst.ofOwn ho8 hltB hlo4
        have hB8 := (hB4.trans (hb7.mono hlo4)).setCell (p := ⟨w2.heap.size + 1 + 1, 0, none⟩) (by show w2.heap.size ≤ w2.heap.size + 1 + 1; omega) (.int .i64 (n0 + M))
        have hsl := Zck n0 M
        clear hC4 hB4 hwy hcy hfin hap ho7 ho7y hb7 hb7y hC7 hC7y ka8 ho8 hltB b0 b1 bz bl e0 e1 e2 e3 e4 e5 e6
        go_wp2_with fail
        refine wp_region_tail 9 (by kernel_rfl) (by kernel_rfl) ?_
        simp only [List.take_succ_cons, List.take_zero, List.drop_succ_cons, List.drop_zero]
        repeat still_step
        try refine wpStill_nil ?_
        go_wp2
        go_meet
        exact ⟨rfl, s.g, s.os, spn n0 M, G, Oa, oc, A7, c7, n0 + M, n1, by rw [hsl], hC8, hL8, hB8, hcs1, hx0, zH (by have := hx1.out; omega)⟩
       ·rw [hp] at e4
        have hst : Hid (stepG l x y k s = ⟨s.g, spn n1 M⟩) := zH (by rw [hsG.out, if_pos hk1, hp, ← hn1.out, hM]; rfl)
        have hcs1 : Hid (cS l x y (k + 1) = ⟨s.g, s.os, s.ws ++ [spn n1 M], s.es ++ [(s.g.length : Int)]⟩) := zH (by rw [hstep.out _ hst.out]; simp [hk1])
        have hx0 : Hid (n0 + 0 = nxt l x 0 (k + 1)) := zH (by rw [hnx.out, ← hn0.out]; simp [hk1, hp, hM])
        have hx1 : Hid (n1 + M = nxt l x 1 (k + 1)) := zH (by rw [hnx.out, ← hn1.out]; simp [hk1, hp, hM])
        have t1 : (X.kind == 1) = true := by rw [hk1]; decide
        have hltB : ∀ g, some g ∈ ([some w2.heap.size, some (w2.heap.size + 1), some (w2.heap.size + 1 + 1), G, ob Oa, ob Ea, ob Wa] : List (Option Nat)) → g < wr.heap.size := fun g hg => by have := (hltC g hg).2; omega
        have ht4 := hC4.tw
        obtain ⟨b0, b1, bz, bl⟩ := ht4
        have hnS : S0 ≠ w2.heap.size + 1 + 1 := by have := (hltC (w2.heap.size + 1 + 1) (by simp)).2; omega
        clear hk1 hp hM hsG hstep hnx hst hltC hPt hlen
        go_wp2_with fail
        refine Zbu (9) [(⟨S0, 4, none⟩, .int .i64 1), (⟨S0, 5, none⟩, .int .i64 (M : Int)), (⟨w2.heap.size + 1 + 1, 1, none⟩, .int .i64 n1)] [(7, [], [])] [7] [(7, Res.row wr.heap.size M (spn n1 M))] (by kernel_rfl) (by kernel_rfl) (by kernel_rfl) (by simp only [cD, cC, and_true]; repeat (any_goals (apply And.intro)); all_goals (first | assumption | go_simp)) ?_
        simp only [List.take_succ_cons, List.take_zero, List.drop_succ_cons, List.drop_zero, List.take_nil, List.drop_nil, List.take, List.drop]
        repeat (first
         | ((first
          | ((with_reducible refine Zan ?_ ?_ ?_)
             ·exact rfl
             ·exact rfl)
          | ((with_reducible refine Zas ?_ ?_ ?_)
             ·exact rfl
             ·exact Zad rfl rfl rfl rfl))
            intro K hK
            apply Exists.intro
            refine ⟨fun w3 hw3 => ?_, ?_⟩
            ·have hcs := hw3
             simp only [cD, cC, and_true] at hcs
             clear hw3
             go_simp
             first | done | exact ⟨rfl, rfl⟩ | rfl
            refine hK _ ?_
            clear hK K
            try simp only [pA, pB, sA, sB, sC])
         | ((with_reducible refine Zar ?_ ?_ ?_)
            ·exact rfl
            ·exact Zak rfl rfl rfl rfl
            simp only [pA, pB, sA, sB, sC]))
        focus
         (with_reducible refine mem_row wr.heap.size M (spn n1 M) ?_ ?_ ?_ ?_ ?_ (hw := ?_))
         ·exact rfl
         ·exact rfl
         ·omega
         ·intro w3 hw3 hc3 hp3
          have hcs := hc3
          simp only [cD, cC, and_true] at hcs
          (go_simp; refine (gdRange_any n1 M _ (by omega) (by omega)).mono ?_; rintro e w4 hT; obtain ⟨A4, c4, rfl, ho4, hb4⟩ := hT.open_ (Zck _ _); exact retPost.mk_ ⟨A4, c4, rfl, ho4, hb4⟩)
         rotate_left
         ·first | exact Zao rfl | exact Zad rfl rfl rfl rfl
         intro A7 c7
         try simp only [pA, pB, sA, sB, sC]
        repeat (first
         | ((first
          | ((with_reducible refine Zan ?_ ?_ ?_)
             ·exact rfl
             ·exact rfl)
          | ((with_reducible refine Zas ?_ ?_ ?_)
             ·exact rfl
             ·exact Zad rfl rfl rfl rfl))
            intro K hK
            apply Exists.intro
            refine ⟨fun w3 hw3 => ?_, ?_⟩
            ·have hcs := hw3
             simp only [cD, cC, and_true] at hcs
             clear hw3
             go_simp
             first | done | exact ⟨rfl, rfl⟩ | rfl
            refine hK _ ?_
            clear hK K
            try simp only [pA, pB, sA, sB, sC])
         | ((with_reducible refine Zar ?_ ?_ ?_)
            ·exact rfl
            ·exact Zak rfl rfl rfl rfl
            simp only [pA, pB, sA, sB, sC]))
        refine Zbs ?_
        intro wy hwy hcy hfin hap
        have hb7y := Zco hwy
        have hb7 := Zaa hb7y 1
        have ho7y : Own wy wr.heap.size wy.heap.size (.slice A7 M c7) M (spn n1 M) := hfin.1.1
        have ho7 : Own (wy.drewN 1) wr.heap.size (wy.drewN 1).heap.size (.slice A7 M c7) M (spn n1 M) := ho7y.drewN 1
        have hC7y := hC4.below hb7y lR
        have hC7 := hC4.below hb7 lR
        have f4 := Zdj hb7y e4 lR
        have f5 := Zdj hb7y e5 lR
        have ht7 := hC7y.tw
        obtain ⟨g0, g1, gz, gl⟩ := ht7
        have gzp := gz 1
        have hwrap : IntKind.i64.wrap (n1 + (M : Int)) = n1 + M := by rw [IntKind.wrap_i64] <;> omega
        have hC8 := hC7.next (p := 1) (v := n1 + M) (m0 := n0) (m1 := n1 + M) (.inr ⟨rfl, rfl, rfl⟩)
        have ka8 := (Alt.refl_ (fun i => i = w2.heap.size + 1 + 1) (wy.drewN 1)).set_ ⟨w2.heap.size + 1 + 1, 1, none⟩ (.int .i64 (n1 + M)) (fun _ => rfl)
        have hbl : w2.heap.size + 1 + 1 < wr.heap.size := hltB _ (by simp)
        have ho8 := (ho7.alt ka8 (fun g hg hc => by have := ho7.lt g hg; omega)).now
        have hL8 : Lst false ((wy.drewN 1).setCell ⟨w2.heap.size + 1 + 1, 1, none⟩ (.int .i64 (n1 + M))) w2.heap.size [some w2.heap.size, some (w2.heap.size + 1), some (w2.heap.size + 1 + 1), G, ob Oa, ob Ea, ob Wa] A7 c7 (spn n1 M) := Lst.ofOwn ho8 hltB hlo4
        have hB8 := (hB4.trans (hb7.mono hlo4)).setCell (p := ⟨w2.heap.size + 1 + 1, 1, none⟩) (by show w2.heap.size ≤ w2.heap.size + 1 + 1; omega) (.int .i64 (n1 + M))
        have hsl := Zck n1 M
        clear hC4 hB4 hwy hcy hfin hap ho7 ho7y hb7 hb7y hC7 hC7y ka8 ho8 hltB b0 b1 bz bl e0 e1 e2 e3 e4 e5 e6
        go_wp2_with fail
        refine wp_region_tail 9 (by kernel_rfl) (by kernel_rfl) ?_
        simp only [List.take_succ_cons, List.take_zero, List.drop_succ_cons, List.drop_zero]
        repeat still_step
        try refine wpStill_nil ?_
        go_wp2
        go_meet
        exact ⟨rfl, s.g, s.os, spn n1 M, G, Oa, oc, A7, c7, n0, n1 + M, by rw [hsl], hC8, hL8, hB8, hcs1, zH (by have := hx0.out; omega), hx1⟩
      ·obtain ⟨LG, LO, hLL⟩ : ∃ LG LO, Hid (lineG (x + y) X ps s.g = ⟨LG, LO⟩) := ⟨_, _, zH rfl⟩
       have hln := hlen (by rw [hk1]; decide)
       rw [hLL.out] at hln
       dsimp only at hln
       have hst : Hid (stepG l x y k s = ⟨LG, LO⟩) := zH (by rw [hsG.out, if_neg (by rw [hk1]; decide)]; exact hLL.out)
       have hx0 : Hid (n0 = nxt l x 0 (k + 1)) := zH (by rw [hnx.out, ← hn0.out]; simp [hk1])
       have hx1 : Hid (n1 = nxt l x 1 (k + 1)) := zH (by rw [hnx.out, ← hn1.out]; simp [hk1])
       have hLOl : LO.length ≤ 10 := by have := hln.2; omega
       have hLO1 : 1 ≤ LO.length := by have := hln.2; omega
       have hcs1 : Hid (cS l x y (k + 1) = ⟨LG, s.os, s.ws ++ [LO], s.es ++ [(LG.length : Int)]⟩) := zH (by rw [hstep.out _ hst.out]; simp [hk1])
       have hb0S : w2.heap.size < S0 := (hltC w2.heap.size (by simp)).2
       have hob1 : OffB w2.heap.size G S0 := ⟨by omega, fun hc => by have := hltC S0 (by simp [hc]); omega⟩
       have hGlo : ∀ g, G = some g → w2.heap.size ≤ g := fun g hg => (hltC g (by simp [hg])).1
       have hBR : ∀ g, some g ∈ ([some w2.heap.size, some (w2.heap.size + 1), some (w2.heap.size + 1 + 1), none, ob Oa, ob Ea, ob Wa] : List (Option Nat)) → g < wr.heap.size := fun g hg => by
        have hg' : some g ∈ ([some w2.heap.size, some (w2.heap.size + 1), some (w2.heap.size + 1 + 1), G, ob Oa, ob Ea, ob Wa] : List (Option Nat)) := by
         simp only [List.mem_cons, List.not_mem_nil, or_false] at hg ⊢
         rcases hg with h | h | h | h | h | h | h
         ·exact .inl h
         ·exact .inr (.inl h)
         ·exact .inr (.inr (.inl h))
         ·cases h
         ·exact .inr (.inr (.inr (.inr (.inl h))))
         ·exact .inr (.inr (.inr (.inr (.inr (.inl h)))))
         ·exact .inr (.inr (.inr (.inr (.inr (.inr h)))))
        have := (hltC g hg').2; omega
       have t1 : (X.kind == 1) = false := by rw [hk1]; decide
       have t2 : (X.kind == 2) = true := by rw [hk1]; decide
       have t3 : (X.kind == 3) = false := by rw [hk1]; decide
       have t4 : (X.kind == 4) = false := by rw [hk1]; decide
       have t5 : (X.kind == 5) = false := by rw [hk1]; decide
       clear hln hst hsG hnx hstep hlen
       obtain ⟨V, hV⟩ := Int.eq_ofNat_of_zero_le hv1
       obtain ⟨M, hM⟩ := Int.eq_ofNat_of_zero_le (show 0 ≤ X.width by omega)
       have hcall := gdConst_any (Qo := ⟨Oa, s.os.length, oc⟩) w2.heap.size w2.heap.size x y s.g G V M wr hC4.mq hxb hyb (by omega) (by omega) (by omega) (by omega) hlo4
       have hLe : constS (x + y) (bitsN V M) s.g = ⟨LG, LO⟩ := by rw [← hLL.out]; unfold lineG; rw [if_pos hk1, hV, hM]; rfl
       rw [hLe] at hcall
       dsimp only at hcall
       rw [hV] at e6
       rw [hM] at e5
       clear hLe hV hM hk1
       go_wp2_with fail
       refine (hcall).mono ?_
       rintro e w7 hT
       obtain ⟨G7, R, rc, rfl, hm7, hv7, ho7, hk7⟩ := hT
       clear hcall
       have hC7 := hC4.mv hm7 hv7
       have hB7 : Below w2.heap.size w2 w7 := hv7.toBelow hB4 lR hGlo hlo4
       have hL7 : Lst false w7 w2.heap.size [some w2.heap.size, some (w2.heap.size + 1), some (w2.heap.size + 1 + 1), G7, ob Oa, ob Ea, ob Wa] R rc LO := Lst.ofRd ho7 (fun q o hq => hk7 q o hq) hBR hlo4 hLO1
       clear hC4 hPt hB4 hltC hm7 hv7 ho7 hLL hBR hob1 hGlo e0 e1 e2 e3 e4 e5 e6
       go_wp2
       go_meet
       exact ⟨rfl, LG, s.os, LO, G7, Oa, oc, R, rc, n0, n1, rfl, hC7, hL7, hB7, hcs1, hx0, hx1⟩
      ·obtain ⟨LG, LO, hLL⟩ : ∃ LG LO, Hid (lineG (x + y) X ps s.g = ⟨LG, LO⟩) := ⟨_, _, zH rfl⟩
       have hln := hlen (by rw [hk1]; decide)
       rw [hLL.out] at hln
       dsimp only at hln
       have hst : Hid (stepG l x y k s = ⟨LG, LO⟩) := zH (by rw [hsG.out, if_neg (by rw [hk1]; decide)]; exact hLL.out)
       have hx0 : Hid (n0 = nxt l x 0 (k + 1)) := zH (by rw [hnx.out, ← hn0.out]; simp [hk1])
       have hx1 : Hid (n1 = nxt l x 1 (k + 1)) := zH (by rw [hnx.out, ← hn1.out]; simp [hk1])
       have hLOl : LO.length ≤ 10 := by have := hln.2; omega
       have hLO1 : 1 ≤ LO.length := by have := hln.2; omega
       have hcs1 : Hid (cS l x y (k + 1) = ⟨LG, s.os, s.ws ++ [LO], s.es ++ [(LG.length : Int)]⟩) := zH (by rw [hstep.out _ hst.out]; simp [hk1])
       have hb0S : w2.heap.size < S0 := (hltC w2.heap.size (by simp)).2
       have hob1 : OffB w2.heap.size G S0 := ⟨by omega, fun hc => by have := hltC S0 (by simp [hc]); omega⟩
       have hGlo : ∀ g, G = some g → w2.heap.size ≤ g := fun g hg => (hltC g (by simp [hg])).1
       have hBR : ∀ g, some g ∈ ([some w2.heap.size, some (w2.heap.size + 1), some (w2.heap.size + 1 + 1), none, ob Oa, ob Ea, ob Wa] : List (Option Nat)) → g < wr.heap.size := fun g hg => by
        have hg' : some g ∈ ([some w2.heap.size, some (w2.heap.size + 1), some (w2.heap.size + 1 + 1), G, ob Oa, ob Ea, ob Wa] : List (Option Nat)) := by
         simp only [List.mem_cons, List.not_mem_nil, or_false] at hg ⊢
         rcases hg with h | h | h | h | h | h | h
         ·exact .inl h
         ·exact .inr (.inl h)
         ·exact .inr (.inr (.inl h))
         ·cases h
         ·exact .inr (.inr (.inr (.inr (.inl h))))
         ·exact .inr (.inr (.inr (.inr (.inr (.inl h)))))
         ·exact .inr (.inr (.inr (.inr (.inr (.inr h)))))
        have := (hltC g hg').2; omega
       have t1 : (X.kind == 1) = false := by rw [hk1]; decide
       have t2 : (X.kind == 2) = false := by rw [hk1]; decide
       have t3 : (X.kind == 3) = true := by rw [hk1]; decide
       have t4 : (X.kind == 4) = false := by rw [hk1]; decide
       have t5 : (X.kind == 5) = false := by rw [hk1]; decide
       clear hln hst hsG hnx hstep hlen
       obtain ⟨pg, A0, d0, hPA0, hpg1, hpg2, q0, r0i, r0o⟩ := hPt.part (k := 0) (by omega)
       obtain ⟨pg1, A1, d1, hPA1, _, _, q1, r1i, r1o⟩ := hPt.part (k := 1) (by omega)
       rw [hPA0] at hPA1
       simp only [Option.some.injEq, Addr.mk.injEq, and_true] at hPA1
       subst hPA1
       subst hPA0
       have ng : OffB w2.heap.size G pg := ⟨by omega, fun hc => by have := hltC pg (by simp [hc]); omega⟩
       have r0 := Pt.rm r0i r0o
       have r1 := Pt.rm r1i r1o
       obtain ⟨us, hus⟩ := lT (gl ps 0)
       obtain ⟨vs, hvs⟩ := lT (gl ps 1)
       rw [hus.out] at hb0 he h5 q0 r0
       rw [hvs.out] at he q1 r1
       obtain ⟨m, hm⟩ := lT (us.length)
       obtain ⟨hb1, hb2⟩ := hb0
       rw [he] at q1 r1
       rw [hm.out] at hb1 hb2 h5 q0 q1 r0 r1
       have hLe : twoS (x + y) X.op us vs s.g m = ⟨LG, LO⟩ := by rw [← hLL.out]; unfold lineG; rw [if_neg (by rw [hk1]; decide), if_pos hk1, hus.out, hvs.out, hm.out]
       have hcall := fun w3 a1 a2 a3 a4 => coTwo_any (Qo := ⟨Oa, s.os.length, oc⟩) w2.heap.size w2.heap.size x y s.g G A0 A1 m d0 d1 us vs w3 a1 a2 a3 hxb hyb (by omega) hb1 hb2 a4 X.op ho h5
       simp only [hLe] at hcall
       have hi0 : (0 : Int) < (X.parts.length : Int) := by omega
       have hi0n : 0 < X.parts.length := by omega
       have hi1 : (1 : Int) < (X.parts.length : Int) := by omega
       clear hLe hk1 he ho h5 r0i r1i r0o r1o
       go_wp2_with fail
       go_region_held3 (fun w' => w'.cell? ⟨S0, 2, none⟩ = some (.string (bs X.op)) ∧ w'.cell? ⟨pg, 0, none⟩ = some (.slice A0 m d0) ∧ w'.cell? ⟨pg, 1, none⟩ = some (.slice A1 m d1))
        (first | (go_keep; done) | (go_split_ands; exact ⟨hv7_.cellF (by assumption) hob1, hv7_.cellF (by assumption) ng, hv7_.cellF (by assumption) ng⟩) | (go_split_ands; (repeat' apply And.intro) <;> (repeat (refine (World.cell?_setCell_other _ _ _ _ (by first | (simp; done) | (simp; omega))).trans ?_)) <;> assumption))
        (first | (go_at_call 124; refine (hcall _ (hC4.mq.drewN_ 1) (r0.below_ (Zai 1) lR) (r1.below_ (Zai 1) lR) (Nat.le_trans hlo4 lR)).mono ?_; rintro e w7 ⟨G7, R, rc, rfl, hm7, hv7_, ho7, hk7⟩; have hv7 := ((Mv.refl_ w2.heap.size G wr).drewN_ 1).trans_ hv7_))
       clear hcall r0 r1 q0 q1
       have hC7 := hC4.mv hm7 hv7
       have hB7 : Below w2.heap.size w2 w7 := hv7.toBelow hB4 lR hGlo hlo4
       have hL7 : Lst false w7 w2.heap.size [some w2.heap.size, some (w2.heap.size + 1), some (w2.heap.size + 1 + 1), G7, ob Oa, ob Ea, ob Wa] R rc LO := Lst.ofRd ho7 (fun q o hq => hk7 q o hq) hBR hlo4 hLO1
       clear hC4 hPt hB4 hltC hm7 hv7 ho7 hLL hBR hob1 hGlo e0 e1 e2 e3 e4 e5 e6
       go_wp2
       go_meet
       exact ⟨rfl, LG, s.os, LO, G7, Oa, oc, R, rc, n0, n1, rfl, hC7, hL7, hB7, hcs1, hx0, hx1⟩
      ·obtain ⟨LG, LO, hLL⟩ : ∃ LG LO, Hid (lineG (x + y) X ps s.g = ⟨LG, LO⟩) := ⟨_, _, zH rfl⟩
       have hln := hlen (by rw [hk1]; decide)
       rw [hLL.out] at hln
       dsimp only at hln
       have hst : Hid (stepG l x y k s = ⟨LG, LO⟩) := zH (by rw [hsG.out, if_neg (by rw [hk1]; decide)]; exact hLL.out)
       have hx0 : Hid (n0 = nxt l x 0 (k + 1)) := zH (by rw [hnx.out, ← hn0.out]; simp [hk1])
       have hx1 : Hid (n1 = nxt l x 1 (k + 1)) := zH (by rw [hnx.out, ← hn1.out]; simp [hk1])
       have hLOl : LO.length ≤ 10 := by have := hln.2; omega
       have hLO1 : 1 ≤ LO.length := by have := hln.2; omega
       have hcs1 : Hid (cS l x y (k + 1) = ⟨LG, s.os, s.ws ++ [LO], s.es ++ [(LG.length : Int)]⟩) := zH (by rw [hstep.out _ hst.out]; simp [hk1])
       have hb0S : w2.heap.size < S0 := (hltC w2.heap.size (by simp)).2
       have hob1 : OffB w2.heap.size G S0 := ⟨by omega, fun hc => by have := hltC S0 (by simp [hc]); omega⟩
       have hGlo : ∀ g, G = some g → w2.heap.size ≤ g := fun g hg => (hltC g (by simp [hg])).1
       have hBR : ∀ g, some g ∈ ([some w2.heap.size, some (w2.heap.size + 1), some (w2.heap.size + 1 + 1), none, ob Oa, ob Ea, ob Wa] : List (Option Nat)) → g < wr.heap.size := fun g hg => by
        have hg' : some g ∈ ([some w2.heap.size, some (w2.heap.size + 1), some (w2.heap.size + 1 + 1), G, ob Oa, ob Ea, ob Wa] : List (Option Nat)) := by
         simp only [List.mem_cons, List.not_mem_nil, or_false] at hg ⊢
         rcases hg with h | h | h | h | h | h | h
         ·exact .inl h
         ·exact .inr (.inl h)
         ·exact .inr (.inr (.inl h))
         ·cases h
         ·exact .inr (.inr (.inr (.inr (.inl h))))
         ·exact .inr (.inr (.inr (.inr (.inr (.inl h)))))
         ·exact .inr (.inr (.inr (.inr (.inr (.inr h)))))
        have := (hltC g hg').2; omega
       have t1 : (X.kind == 1) = false := by rw [hk1]; decide
       have t2 : (X.kind == 2) = false := by rw [hk1]; decide
       have t3 : (X.kind == 3) = false := by rw [hk1]; decide
       have t4 : (X.kind == 4) = true := by rw [hk1]; decide
       have t5 : (X.kind == 5) = false := by rw [hk1]; decide
       clear hln hst hsG hnx hstep hlen
       obtain ⟨pg, A0, d0, hPA0, hpg1, hpg2, q0, r0i, r0o⟩ := hPt.part (k := 0) (by omega)
       subst hPA0
       have ng : OffB w2.heap.size G pg := ⟨by omega, fun hc => by have := hltC pg (by simp [hc]); omega⟩
       have r0 := Pt.rm r0i r0o
       obtain ⟨us, hus⟩ := lT (gl ps 0)
       rw [hus.out] at hb0 q0 r0
       obtain ⟨m, hm⟩ := lT (us.length)
       obtain ⟨hb1, hb2⟩ := hb0
       rw [hm.out] at hb1 hb2 q0 r0
       have hLe : nots (x + y) us s.g m = ⟨LG, LO⟩ := by rw [← hLL.out]; unfold lineG; rw [if_neg (by rw [hk1]; decide), if_neg (by rw [hk1]; decide), if_pos hk1, hus.out, hm.out]
       have hgl0 := hgb
       have HG : Hid (∀ i, (nots (x + y) us s.g i).g.length = s.g.length + i) := zH (nots_g (x + y) us s.g)
       have H0 : Hid (nots (x + y) us s.g 0 = ⟨s.g, []⟩) := zH rfl
       have HS : Hid (∀ i, nots (x + y) us s.g (i + 1) = ⟨(nots (x + y) us s.g i).g ++ [⟨2, gi us i, 0⟩], (nots (x + y) us s.g i).o ++ [x + y + (nots (x + y) us s.g i).g.length]⟩) := zH fun i => rfl
       generalize nots (x + y) us s.g = S at *
       have hLe := zH hLe
       clear hk1 r0i r0o
       have hst0 : MkQ ⟨Oa, s.os.length, oc⟩ wr w2.heap.size w2.heap.size x y (S 0).g G ∧ OM wr w2.heap.size G wr.heap.size (.slice none 0 0) 0 (S 0).o := by
        rw [H0.out]; exact ⟨hC4.mq, Own.none_ _ _ _, fun g hg => by cases hg⟩
       obtain ⟨hm0, ho0⟩ := hst0
       have hv0 := Mv.refl_ w2.heap.size G wr
       have hb10 : s.g.length ≤ 9000 := by omega
       go_wp2_with fail
       try simp only [t1, t2, t3, t4]
       generalize hW : wr = W at *
       clear hW
       go_loopw [13, 115] (fun o i w7 => ∃ (j : Nat) (O : Option Addr) (oc7 : Nat) (G1 : Option Nat), j ≤ m ∧ i = .int .i64 j ∧ o = .slice O j oc7 ∧ MkQ ⟨Oa, s.os.length, oc⟩ w7 w2.heap.size w2.heap.size x y (S j).g G1 ∧ OM w7 w2.heap.size G1 W.heap.size (.slice O j oc7) j (S j).o ∧ Mv w2.heap.size G G1 W w7) (fun _ i _ => m - (intOf i).toNat)
       case atStart => exact ⟨0, _, _, _, Nat.zero_le _, rfl, rfl, hm0, ho0, hv0⟩
       case round =>
        obtain ⟨j, O, oc7, G1, hj, rfl, rfl, hm1, ho1, hv1⟩ := hrel
        clear hm0 ho0 hv0
        have hz1 := hv1.size
        by_cases hjm : j < m
        ·obtain ⟨ka, oa, hA0, hka, ca⟩ := r0.1.at_ hjm
         subst hA0
         obtain ⟨va, hva⟩ := lT (gi us j)
         have hgl := HG.out j
         obtain ⟨SG, SO, hSk⟩ : ∃ SG SO, Hid (S j = ⟨SG, SO⟩) := ⟨_, _, zH rfl⟩
         have hS := zH (HS.out j)
         rw [hSk.out] at hm1 ho1 hgl
         rw [hva.out, hSk.out] at hS
         dsimp only at hm1 ho1 hgl hS
         obtain ⟨N, hN⟩ := lT (x + y + (SG.length : Int))
         rw [hN.out] at hS
         clear ca hka
         obtain ⟨ca, na, hka0⟩ := r0.cellV hv1 hjm hva
         go_wp2_with fail
         refine (Zbw w2.heap.size w2.heap.size x y SG G1 va N _ hm1 hxb hyb oN (by omega) (by have := hN.out; first | omega | (simp; omega))).mono ?_
         rintro e w8 ⟨G2, rfl, hm2, hv2_⟩
         have hv2 := hv1.trans_ hv2_; have ho2 := ho1.mv hv2_; have hz2 := hv2.size; clear hv1 ho1 hm1 hv2_
         have hoA := ho2.alloc_ (.cells #[.int .i64 N] 3); have hmA := hm2.alloc_ (.cells #[.int .i64 N] 3); have hvA := hv2.alloc_ (.cells #[.int .i64 N] 3)
         go_wp2_with (at_builtin; refine Zae _ rfl _ _ rfl rfl hoA.1 rfl (Zaj _ _ _ _ (by simp)) (by omega) oM ?_; intro A5 c5 w5 hown5 hg5 hat5 hk5)
         have ho5 := hoA.appQ hmA hown5 hat5; have hm5 := hmA.app hoA hg5; have hv5 := hvA.app hoA hg5; clear hoA hmA hvA hown5 hg5 hat5 hk5 hv2 ho2 hm2
         have hS1 : Hid (S (j + 1) = ⟨SG ++ [⟨2, va, 0⟩], SO ++ [N]⟩) := zH (by rw [hS.out])
         have hrel1 : MkQ ⟨Oa, s.os.length, oc⟩ w5 w2.heap.size w2.heap.size x y (S (j + 1)).g G2 ∧ OM w5 w2.heap.size G2 W.heap.size (.slice A5 (j + 1) c5) (j + 1) (S (j + 1)).o := by rw [hS1.out]; exact ⟨hm5, ho5⟩
         clear hm5 ho5 hS hS1 hSk hgl hN hva
         go_wp2
         go_roundw
         case rel => exact ⟨j + 1, _, _, _, by omega, by go_num, rfl, hrel1.1, hrel1.2, hv5⟩
         case measure => simp [intOf]; omega
        ·obtain rfl : m = j := Nat.le_antisymm (Nat.le_of_not_lt hjm) hj
         rw [hLe.out] at hm1 ho1
         dsimp only at hm1 ho1
         have hnl := ho1.1.len
         have hC7 := hC4.mv hm1 hv1
         have hB7 : Below w2.heap.size w2 wr := hv1.toBelow hB4 lR hGlo hlo4
         rw [← hnl] at ho1
         have hL7 : Lst false wr w2.heap.size [some w2.heap.size, some (w2.heap.size + 1), some (w2.heap.size + 1 + 1), G1, ob Oa, ob Ea, ob Wa] O oc7 LO := Lst.ofOM ho1 hBR hlo4
         clear hC4 hPt hB4 hltC hm1 hv1 ho1 hLL hBR hob1 hGlo e0 e1 e2 e3 e4 e5 e6
         go_wp2
         go_meet
         exact ⟨rfl, LG, s.os, LO, G1, Oa, oc, O, oc7, n0, n1, by rw [hnl], hC7, hL7, hB7, hcs1, hx0, hx1⟩
      ·obtain ⟨LG, LO, hLL⟩ : ∃ LG LO, Hid (lineG (x + y) X ps s.g = ⟨LG, LO⟩) := ⟨_, _, zH rfl⟩
       have hln := hlen (by rw [hk1]; decide)
       rw [hLL.out] at hln
       dsimp only at hln
       have hst : Hid (stepG l x y k s = ⟨LG, LO⟩) := zH (by rw [hsG.out, if_neg (by rw [hk1]; decide)]; exact hLL.out)
       have hx0 : Hid (n0 = nxt l x 0 (k + 1)) := zH (by rw [hnx.out, ← hn0.out]; simp [hk1])
       have hx1 : Hid (n1 = nxt l x 1 (k + 1)) := zH (by rw [hnx.out, ← hn1.out]; simp [hk1])
       have hLOl : LO.length ≤ 10 := by have := hln.2; omega
       have hLO1 : 1 ≤ LO.length := by have := hln.2; omega
       have hcs1 : Hid (cS l x y (k + 1) = ⟨LG, s.os, s.ws ++ [LO], s.es ++ [(LG.length : Int)]⟩) := zH (by rw [hstep.out _ hst.out]; simp [hk1])
       have hb0S : w2.heap.size < S0 := (hltC w2.heap.size (by simp)).2
       have hob1 : OffB w2.heap.size G S0 := ⟨by omega, fun hc => by have := hltC S0 (by simp [hc]); omega⟩
       have hGlo : ∀ g, G = some g → w2.heap.size ≤ g := fun g hg => (hltC g (by simp [hg])).1
       have hBR : ∀ g, some g ∈ ([some w2.heap.size, some (w2.heap.size + 1), some (w2.heap.size + 1 + 1), none, ob Oa, ob Ea, ob Wa] : List (Option Nat)) → g < wr.heap.size := fun g hg => by
        have hg' : some g ∈ ([some w2.heap.size, some (w2.heap.size + 1), some (w2.heap.size + 1 + 1), G, ob Oa, ob Ea, ob Wa] : List (Option Nat)) := by
         simp only [List.mem_cons, List.not_mem_nil, or_false] at hg ⊢
         rcases hg with h | h | h | h | h | h | h
         ·exact .inl h
         ·exact .inr (.inl h)
         ·exact .inr (.inr (.inl h))
         ·cases h
         ·exact .inr (.inr (.inr (.inr (.inl h))))
         ·exact .inr (.inr (.inr (.inr (.inr (.inl h)))))
         ·exact .inr (.inr (.inr (.inr (.inr (.inr h)))))
        have := (hltC g hg').2; omega
       have t1 : (X.kind == 1) = false := by rw [hk1]; decide
       have t2 : (X.kind == 2) = false := by rw [hk1]; decide
       have t3 : (X.kind == 3) = false := by rw [hk1]; decide
       have t4 : (X.kind == 4) = false := by rw [hk1]; decide
       have t5 : (X.kind == 5) = true := by rw [hk1]; decide
       clear hln hst hsG hnx hstep hlen
       obtain ⟨pg, A0, d0, hPA0, hpg1, hpg2, q0, r0i, r0o⟩ := hPt.part (k := 0) (by omega)
       obtain ⟨pg1, A1, d1, hPA1, _, _, q1, r1i, r1o⟩ := hPt.part (k := 1) (by omega)
       rw [hPA0] at hPA1
       simp only [Option.some.injEq, Addr.mk.injEq, and_true] at hPA1
       subst hPA1
       obtain ⟨pg2, A2, d2, hPA2, _, _, q2, r2i, r2o⟩ := hPt.part (k := 2) (by omega)
       rw [hPA0] at hPA2
       simp only [Option.some.injEq, Addr.mk.injEq, and_true] at hPA2
       subst hPA2
       subst hPA0
       have ng : OffB w2.heap.size G pg := ⟨by omega, fun hc => by have := hltC pg (by simp [hc]); omega⟩
       have r0 := Pt.rm r0i r0o
       have r1 := Pt.rm r1i r1o
       have r2 := Pt.rm r2i r2o
       rw [h0] at q0 r0i
       obtain ⟨sb, so, hA0, hsb, s0⟩ := r0i.at_ (k := 0) (by omega)
       subst hA0
       have nsb : OffB w2.heap.size G sb := (Pt.rm r0i r0o).2 (by omega) _ _ rfl
       obtain ⟨sv, hsv⟩ := lT (gi (gl ps 0) 0)
       rw [hsv.out, Nat.add_zero] at s0
       obtain ⟨us, hus⟩ := lT (gl ps 1)
       obtain ⟨vs, hvs⟩ := lT (gl ps 2)
       rw [hus.out] at hb0 he q1 r1
       rw [hvs.out] at he q2 r2
       obtain ⟨m, hm⟩ := lT (us.length)
       obtain ⟨hb1, hb2⟩ := hb0
       rw [he] at q2 r2
       rw [hm.out] at hb1 hb2 q1 q2 r1 r2
       have hLe : chs (x + y) s.g sv us vs m = ⟨LG, LO⟩ := by rw [← hLL.out]; unfold lineG; rw [if_neg (by rw [hk1]; decide), if_neg (by rw [hk1]; decide), if_neg (by rw [hk1]; decide), if_pos hk1, hsv.out, hus.out, hvs.out, hm.out]
       have hcall := fun w3 a1 a2 a3 a4 => gdPickQ_any (Qo := ⟨Oa, s.os.length, oc⟩) w2.heap.size w2.heap.size x y s.g G A1 A2 m d1 d2 sv us vs w3 a1 a2 a3 hxb hyb (by omega) (by omega) a4
       simp only [hLe] at hcall
       have hi0 : (0 : Int) < (X.parts.length : Int) := by omega
       have hi0n : 0 < X.parts.length := by omega
       have hi1 : (1 : Int) < (X.parts.length : Int) := by omega
       have hi2 : (2 : Int) < (X.parts.length : Int) := by omega
       clear hLe hk1 he h0 r0i r1i r2i r0o r1o r2o r0
       go_wp2_with fail
       go_region_held3 (fun w' => w'.cell? ⟨pg, 0, none⟩ = some (.slice (some ⟨sb, so, none⟩) 1 d0) ∧ w'.cell? ⟨sb, so, none⟩ = some (.int .i64 sv) ∧ w'.cell? ⟨pg, 1, none⟩ = some (.slice A1 m d1) ∧ w'.cell? ⟨pg, 2, none⟩ = some (.slice A2 m d2))
        (first | (go_keep; done) | (go_split_ands; exact ⟨hv7_.cellF (by assumption) ng, hv7_.cellF (by assumption) nsb, hv7_.cellF (by assumption) ng, hv7_.cellF (by assumption) ng⟩) | (go_split_ands; (repeat' apply And.intro) <;> (repeat (refine (World.cell?_setCell_other _ _ _ _ (by first | (simp; done) | (simp; omega))).trans ?_)) <;> assumption))
        (first | (go_at_call 126; refine (hcall _ (hC4.mq.drewN_ 1) (r1.below_ (Zai 1) lR) (r2.below_ (Zai 1) lR) (Nat.le_trans hlo4 lR)).mono ?_; rintro e w7 ⟨G7, R, rc, rfl, hm7, hv7_, ho7⟩; have hv7 := ((Mv.refl_ w2.heap.size G wr).drewN_ 1).trans_ hv7_))
       clear hcall r1 r2 q0 q1 q2 s0
       have hC7 := hC4.mv hm7 hv7
       have hB7 : Below w2.heap.size w2 w7 := hv7.toBelow hB4 lR hGlo hlo4
       have hL7 : Lst false w7 w2.heap.size [some w2.heap.size, some (w2.heap.size + 1), some (w2.heap.size + 1 + 1), G7, ob Oa, ob Ea, ob Wa] R rc LO := Lst.ofOM ho7 hBR hlo4
       clear hC4 hPt hB4 hltC hm7 hv7 ho7 hLL hBR hob1 hGlo e0 e1 e2 e3 e4 e5 e6
       go_wp2
       go_meet
       exact ⟨rfl, LG, s.os, LO, G7, Oa, oc, R, rc, n0, n1, rfl, hC7, hL7, hB7, hcs1, hx0, hx1⟩
      ·obtain ⟨LG, LO, hLL⟩ : ∃ LG LO, Hid (lineG (x + y) X ps s.g = ⟨LG, LO⟩) := ⟨_, _, zH rfl⟩
       have hln := hlen (by rw [hk1]; decide)
       rw [hLL.out] at hln
       dsimp only at hln
       have hst : Hid (stepG l x y k s = ⟨LG, LO⟩) := zH (by rw [hsG.out, if_neg (by rw [hk1]; decide)]; exact hLL.out)
       have hx0 : Hid (n0 = nxt l x 0 (k + 1)) := zH (by rw [hnx.out, ← hn0.out]; simp [hk1])
       have hx1 : Hid (n1 = nxt l x 1 (k + 1)) := zH (by rw [hnx.out, ← hn1.out]; simp [hk1])
       have hLOl : LO.length ≤ 10 := by have := hln.2; omega
       have hLO1 : 1 ≤ LO.length := by have := hln.2; omega
       have hcs1 : Hid (cS l x y (k + 1) = ⟨LG, s.os ++ LO, s.ws ++ [LO], s.es ++ [(LG.length : Int)]⟩) := zH (by rw [hstep.out _ hst.out]; simp [hk1])
       have hb0S : w2.heap.size < S0 := (hltC w2.heap.size (by simp)).2
       have hob1 : OffB w2.heap.size G S0 := ⟨by omega, fun hc => by have := hltC S0 (by simp [hc]); omega⟩
       have hGlo : ∀ g, G = some g → w2.heap.size ≤ g := fun g hg => (hltC g (by simp [hg])).1
       have hBR : ∀ g, some g ∈ ([some w2.heap.size, some (w2.heap.size + 1), some (w2.heap.size + 1 + 1), none, ob Oa, ob Ea, ob Wa] : List (Option Nat)) → g < wr.heap.size := fun g hg => by
        have hg' : some g ∈ ([some w2.heap.size, some (w2.heap.size + 1), some (w2.heap.size + 1 + 1), G, ob Oa, ob Ea, ob Wa] : List (Option Nat)) := by
         simp only [List.mem_cons, List.not_mem_nil, or_false] at hg ⊢
         rcases hg with h | h | h | h | h | h | h
         ·exact .inl h
         ·exact .inr (.inl h)
         ·exact .inr (.inr (.inl h))
         ·cases h
         ·exact .inr (.inr (.inr (.inr (.inl h))))
         ·exact .inr (.inr (.inr (.inr (.inr (.inl h)))))
         ·exact .inr (.inr (.inr (.inr (.inr (.inr h)))))
        have := (hltC g hg').2; omega
       have t1 : (X.kind == 1) = false := by rw [hk1]; decide
       have t2 : (X.kind == 2) = false := by rw [hk1]; decide
       have t3 : (X.kind == 3) = false := by rw [hk1]; decide
       have t4 : (X.kind == 4) = false := by rw [hk1]; decide
       have t5 : (X.kind == 5) = false := by rw [hk1]; decide
       clear hln hst hsG hnx hstep hlen
       obtain ⟨pg, A0, d0, hPA0, hpg1, hpg2, q0, r0i, r0o⟩ := hPt.part (k := 0) (by omega)
       subst hPA0
       have ng : OffB w2.heap.size G pg := ⟨by omega, fun hc => by have := hltC pg (by simp [hc]); omega⟩
       have r0 := Pt.rm r0i r0o
       obtain ⟨us, hus⟩ := lT (gl ps 0)
       rw [hus.out] at hb0 q0 r0 r0i
       obtain ⟨hb1, hb2⟩ := hb0
       have hLe : (⟨s.g, us⟩ : Go2) = ⟨LG, LO⟩ := by rw [← hLL.out]; unfold lineG; rw [if_neg (by rw [hk1]; decide), if_neg (by rw [hk1]; decide), if_neg (by rw [hk1]; decide), if_neg (by rw [hk1]; decide), hus.out]
       injection hLe with hLe1 hLe2
       subst hLe1 hLe2
       have hL7 : Lst false wr w2.heap.size [some w2.heap.size, some (w2.heap.size + 1), some (w2.heap.size + 1 + 1), G, ob Oa, ob Ea, ob Wa] A0 d0 us := ⟨r0i, fun q o hq => ⟨(r0o q o hq).1, by have := (r0o q o hq).2.1; omega⟩, (fun h => by cases h), fun q o hq => (r0o q o hq).2.2⟩
       clear hk1 r0 hLL hLOl hLO1
       obtain ⟨o3, z3⟩ := hC4.cell3
       have hou := hC4.ou
       go_wp2_with (at_builtin; refine Zae _ rfl _ _ rfl rfl hou rfl r0i (by omega) oM ?_; intro A8 c8 w8 hown8 hg8 hat8 hk8; obtain ⟨o38, z38⟩ := hC4.cell3_grown hg8; have o39 : w8.cell? ⟨w2.heap.size, 3, none⟩ = some (.slice Oa s.os.length oc) := o38; have z39 : w8.frozen? ⟨w2.heap.size, 3, none⟩ = false := z38; clear o38 z38)
       have hC8 := hC4.outs hown8 hg8 hat8
       have hL8 := hL7.outs (s := s) hg8 hat8 (.slice A8 (s.os.length + us.length) c8)
       have hB8 := (hB4.grown hg8 (by omega) (fun g hg => (hou.lt g hg).1)).setCell (p := ⟨w2.heap.size, 3, none⟩) lR (.slice A8 (s.os.length + us.length) c8)
       clear hC4 hPt hB4 hltC hL7 hBR hob1 hGlo hou o3 z3 hown8 hg8 hat8 hk8 e0 e1 e2 e3 e4 e5 e6 r0i r0o q0
       go_meet
       exact ⟨rfl, s.g, s.os ++ us, us, G, A8, c8, A0, d0, n0, n1, rfl, hC8, hL8, hB8, hcs1, hx0, hx1⟩
     case rest =>
      obtain ⟨rfl, g1, os1, r, G1, Oa1, oc1, R, rc, m0, m1, rfl, hC9, hL9, hB9, hk1c, hx0, hx1⟩ := hcut
      have hz9 := hB9.size
      clear hC4 hPt hB4 hltC hfit e0 e1 e2 e3 e4 e5 e6 hn0 hn1 hsG hnx hstep hlen
      obtain ⟨WC, hWC⟩ := lT (wc)
      have hcs := hC9.cs
      have f1 : wc.cell? ⟨w2.heap.size + 1, 1, none⟩ = some (.slice Wa k wk) := hcs.2.1
      have hfz := hC9.fz
      obtain ⟨Ag, cg, f2⟩ := hC9.cell2
      obtain ⟨nWc, nWb, nEc, nEb, nWE, nbc⟩ := hC9.ne
      have hltw := hC9.lt
      have hWlt : ∀ g, ob Wa = some g → w2.heap.size ≤ g ∧ g < wc.heap.size := fun g hg => hltw g (by rw [← hg]; simp)
      have hElt : ∀ g, ob Ea = some g → w2.heap.size ≤ g ∧ g < wc.heap.size := fun g hg => hltw g (by rw [← hg]; simp)
      obtain ⟨vals, hrow, hwlen, hlists⟩ := hC9.wi
      have hlists := zH hlists
      have hen := hC9.en
      have hbcl := hC9.lb.2.2.2
      have hB0l := hC9.mq.1
      have hloW : w2.heap.size ≤ wc.heap.size := by omega
      obtain ⟨ng, hng⟩ := lT (g1.length)
      dsimp only at f2 hrow hen hwlen
      rw [hng.out] at f2
      have hkl := hn
      have hal : Below wc.heap.size wc (wc.alloc (.cells #[.slice R r.length rc] 24)) := bA
      have hrowA : (wc.alloc (.cells #[.slice R r.length rc] 24)).ownsRow w2.heap.size 24 1 (.slice Wa k wk) k vals := Zav hrow (Alt.of_below hal (fun _ _ h => h)) (fun g hg hc => by have := (hrow.lt g hg).2; omega)
      have hsA : (wc.alloc (.cells #[.slice R r.length rc] 24)).heap.size = wc.heap.size + 1 := by simp
      go_wp2_with (at_builtin; refine wpList_appV (by rfl) _ _ (by rfl) (by rfl) hrowA (by rfl) (Zaf _ _ 0 _ rfl) (by rfl) (by omega) (by simp; omega) ?_; intro W8 c8 w8 hW8 hg8 hat8; have kg : Alt (fun i => ob Wa = some i ∨ wc.heap.size ≤ i) wc w8 := ((Alt.refl_ _ wc).alloc_ (.cells #[.slice R r.length rc] 24)).grow_ hg8 (fun i _ h => .inl (by rw [← ob_eq Wa k wk]; exact h)); have hnb : ¬ (ob Wa = some (w2.heap.size + 1) ∨ wc.heap.size ≤ w2.heap.size + 1) := (fun hc => hc.elim nWc (fun h => absurd hbcl (Nat.not_lt.2 h))); have cs8 := hcs.alt kg hnb; have fz8 := hfz.alt kg hbcl hnb; have f18 : w8.cell? ⟨w2.heap.size + 1, 1, none⟩ = some (.slice Wa k wk) := cs8.2.1; have z18 := fz8 1)
      have k8 : Alt (fun i => i = w2.heap.size + 1 ∨ ob Wa = some i ∨ wc.heap.size ≤ i) wc (w8.setCell ⟨w2.heap.size + 1, 1, none⟩ (.slice W8 (k + 1) c8)) := (kg.mono_ (fun i _ h => .inr h)).set_ ⟨w2.heap.size + 1, 1, none⟩ (.slice W8 (k + 1) c8) (fun _ => .inl rfl)
      have cs8' := cs_setW cs8 (.slice W8 (k + 1) c8)
      have fz8' := fz8.set ⟨w2.heap.size + 1, 1, none⟩ (.slice W8 (k + 1) c8)
      have kb8 := (Alt.refl_ (fun i => i = w2.heap.size + 1) w8).set_ ⟨w2.heap.size + 1, 1, none⟩ (.slice W8 (k + 1) c8) (fun _ => rfl)
      have hW8at : ∀ g, ob W8 = some g → ob Wa = some g ∨ g = wc.heap.size + 1 := fun g hg => by
       rw [ob_eq, ob_eq] at hat8
       rcases hat8 with h | h
       ·exact .inl (h ▸ hg)
       ·rw [h] at hg; injection hg with hg; exact .inr (by omega)
      have hW8c : ∀ g, ob W8 = some g → ¬ (g = w2.heap.size + 1) := fun g hg hc => by
       subst hc
       rcases hW8at _ hg with h | h
       ·exact nWc h
       ·omega
      have hrow8 := Zav hW8 kb8 (fun g hg => hW8c g (by rw [← hg, ob_eq]))
      have hen8 := (hen.alt k8 (fun g hg hc => by
       rw [ob_eq] at hg
       rcases hc with hc | hc | hc
       ·subst hc; exact nEc hg
       ·exact nWE g hc hg
       ·have := hElt g hg; omega)).now
      have f28 := k8.cell_ f2 (fun hc => by
       rcases hc with hc | hc | hc
       ·exact nbc hc
       ·exact nWb hc
       ·have h9 : wc.heap.size ≤ w2.heap.size := hc; omega)
      have f58 : (w8.setCell ⟨w2.heap.size + 1, 1, none⟩ (.slice W8 (k + 1) c8)).cell? ⟨w2.heap.size + 1, 2, none⟩ = some (.slice Ea k ec) := cs8'.2.2.1
      have hW8l : ∀ g, ob W8 = some g → g < w8.heap.size := fun g hg => (hW8.lt g (by rw [ob_eq]; exact hg)).2
      have hsz8 := k8.size
      have hlo8 : w2.heap.size ≤ w8.heap.size := by rw [World.size_setCell] at hsz8; omega
      have hzz : (w8.setCell ⟨w2.heap.size + 1, 1, none⟩ (.slice W8 (k + 1) c8)).heap.size = w8.heap.size := World.size_setCell _ _ _
      generalize w8.setCell ⟨w2.heap.size + 1, 1, none⟩ (.slice W8 (k + 1) c8) = V8 at *
      have hlo9 : w2.heap.size ≤ V8.heap.size := by omega
      have hwcV : wc.heap.size ≤ V8.heap.size := by omega
      clear hrowA hal hW8 hg8 hat8 kg cs8 fz8 f18 z18 kb8 hnb hcs hfz f1 f2 hen
      go_wp2_with fail
      refine Zch (11) ((fun i => ob Ea = some i)) [(⟨w2.heap.size + 1, 2, none⟩, .slice Ea k ec), (⟨w2.heap.size, 2, none⟩, .slice Ag ng cg)] [(8, [], []), (9, [101, 8], [101])] [101] [9] [(101, Res.row w2.heap.size k s.es), (8, Res.row w2.heap.size 1 [(ng : Int)]), (9, Res.row w2.heap.size (k + 1) (s.es ++ [(ng : Int)]))] ((upd (fun _ => undef) 101 (.slice Ea k ec))) (by kernel_rfl) (by kernel_rfl) (by kernel_rfl) (by simp only [cD, cC, and_true]; repeat (any_goals (apply And.intro)); all_goals (first | assumption | go_simp)) (fun q9 hq9 => by simp only [List.mem_cons, List.not_mem_nil, or_false] at hq9; rcases hq9 with rfl | rfl <;> intro h <;> first | exact nEc h | exact nEb h) (⟨⟨hen8, fun i hi => by have hi' : ob Ea = some i := (ob_eq Ea k ec).symm.trans hi; exact ⟨.inr hi', Nat.lt_of_lt_of_le (hElt i hi').2 hwcV⟩⟩, trivial⟩) ((fun d hd d' hd' hn' c hc hc' => by simp only [List.mem_cons, List.not_mem_nil, or_false] at hd hd'; subst hd; subst hd'; exact hn' rfl)) ?_
      simp only [List.take_succ_cons, List.take_zero, List.drop_succ_cons, List.drop_zero, List.take_nil, List.drop_nil, List.take, List.drop]
      repeat (first
       | ((first
        | ((with_reducible refine Zan ?_ ?_ ?_)
           ·exact rfl
           ·exact rfl)
        | ((with_reducible refine Zas ?_ ?_ ?_)
           ·exact rfl
           ·exact Zad rfl rfl rfl rfl))
          intro K hK
          apply Exists.intro
          refine ⟨fun w3 hw3 => ?_, ?_⟩
          ·have hcs := hw3
           simp only [cD, cC, and_true] at hcs
           clear hw3
           go_simp
           first | done | exact ⟨rfl, rfl⟩ | rfl
          refine hK _ ?_
          clear hK K
          try simp only [pA, pB, sA, sB, sC])
       | ((with_reducible refine Zar ?_ ?_ ?_)
          ·exact rfl
          ·exact Zak rfl rfl rfl rfl
          simp only [pA, pB, sA, sB, sC]))
      focus
       (with_reducible refine mem_row w2.heap.size 1 [(ng : Int)] ?_ ?_ ?_ ?_ ?_ (hw := ?_))
       ·exact rfl
       ·exact rfl
       ·omega
       ·intro w3 hw3 hc3 hp3
        have hcs := hc3
        simp only [cD, cC, and_true] at hcs
        (go_simp; exact postRow.new1 _ _)
       rotate_left
       ·first | exact Zao rfl | exact Zad rfl rfl rfl rfl
       intro A9 c9
       try simp only [pA, pB, sA, sB, sC]
      refine mem_appI 101 w2.heap.size k 1 s.es [(ng : Int)] Ea ec A9 c9 (.tmp 148) (.tmp 155) (by rfl) (by rfl) hlo9 (by rfl) (by rfl) (by decide) (by rfl) (by rfl) (by rfl) (by rfl) (by omega) (fun w3 hw3 hc3 hp3 => ?_) (fun E8 d8 => ?_)
      ·have h9 : Own w3 w2.heap.size w3.heap.size (.slice A9 1 c9) 1 [(ng : Int)] := (Zcl (d := 8) (by decide) hp3 (by rfl) (by rfl)).1
       exact h9.reads
      try simp only [pA, pB, sA, sB, sC]
      repeat (first
       | ((first
        | ((with_reducible refine Zan ?_ ?_ ?_)
           ·exact rfl
           ·exact rfl)
        | ((with_reducible refine Zas ?_ ?_ ?_)
           ·exact rfl
           ·exact Zad rfl rfl rfl rfl))
          intro K hK
          apply Exists.intro
          refine ⟨fun w3 hw3 => ?_, ?_⟩
          ·have hcs := hw3
           simp only [cD, cC, and_true] at hcs
           clear hw3
           go_simp
           first | done | exact ⟨rfl, rfl⟩ | rfl
          refine hK _ ?_
          clear hK K
          try simp only [pA, pB, sA, sB, sC])
       | ((with_reducible refine Zar ?_ ?_ ?_)
          ·exact rfl
          ·exact Zak rfl rfl rfl rfl
          simp only [pA, pB, sA, sB, sC]))
      refine Zbs ?_
      intro wy hwy hcy hfin hap
      have henY : Own wy w2.heap.size wy.heap.size (.slice E8 (k + 1) d8) (k + 1) (s.es ++ [(ng : Int)]) := hfin.1.1
      have hokE : ∀ g, ob E8 = some g → ob Ea = some g ∨ V8.heap.size ≤ g := fun g hg => by
       rcases (hfin.1.2 g (show (Value.slice E8 (k + 1) d8).ownBlock = some g by rw [ob_eq]; exact hg)).1 with h2 | h2
       ·exact .inr h2
       ·exact .inl h2
      have hEW : ∀ g, ob E8 = some g → ob W8 ≠ some g := fun g hg hc => by
       have h3 := hW8l g hc
       rcases hokE g hg with h2 | h2
       ·rcases hW8at g hc with h4 | h4
        ·exact nWE g h4 h2
        ·have := hElt g h2; omega
       ·omega
      have hnok : ¬ okB V8 (fun i => ob Ea = some i) (w2.heap.size + 1) := fun hc => by
       rcases hc with h2 | h2
       ·omega
       ·exact nEc h2
      have hcsY := cs8'.alt hwy hnok
      have hfzY := fz8'.alt hwy (by omega) hnok
      have hnE : ∀ g, ob E8 = some g → ¬ (g = w2.heap.size + 1) := fun g hg hc => by
       subst hc
       rcases hokE _ hg with h2 | h2
       ·exact nEc h2
       ·omega
      have hrowY := Zav hrow8 hwy (fun g hg hc => by
       rw [ob_eq] at hg
       rcases hc with h2 | h2
       ·have := hW8l g hg; omega
       ·rcases hW8at g hg with h4 | h4
        ·exact nWE g h4 h2
        ·have := hElt g h2; omega)
      have kb := (Alt.refl_ (fun i => i = w2.heap.size + 1) wy).set_ ⟨w2.heap.size + 1, 2, none⟩ (.slice E8 (k + 1) d8) (fun _ => rfl)
      have ka1 := (k8.mono_ (T := fun i => i = w2.heap.size + 1 ∨ ob Ea = some i ∨ ob Wa = some i) (fun i hi h => by
       rcases h with h2 | h2 | h2
       ·exact .inl h2
       ·exact .inr (.inr h2)
       ·omega)).trans_ hwy (fun i hi h => by
       rcases h with h2 | h2
       ·omega
       ·exact .inr (.inl h2))
      have ka := ka1.set_ ⟨w2.heap.size + 1, 2, none⟩ (.slice E8 (k + 1) d8) (fun _ => .inl rfl)
      have henZ := (henY.alt kb (fun g hg => hnE g (by rw [← hg, ob_eq]))).now
      have hrowZ := Zav hrowY kb (fun g hg => hW8c g (by rw [← hg, ob_eq]))
      have hcsZ := cs_setE hcsY (.slice E8 (k + 1) d8)
      have hfzZ : Fz _ (w2.heap.size + 1) := hfzY.set ⟨w2.heap.size + 1, 2, none⟩ (.slice E8 (k + 1) d8)
      have hCn := hC9.done hrow (fun j hj => by obtain ⟨P9, d9, g4, g5, g6, g7, g8⟩ := hlists.out j hj; exact ⟨P9, d9, g4, g5, g6, fun h => (by cases h), g8⟩) ka henZ hrowZ hcsZ hfzZ (fun g hg => (hokE g hg).elim (fun h => .inr (.inl h)) (fun h => .inr (.inr (by omega)))) (fun g hg => (hW8at g hg).elim (fun h => .inl h) (fun h => .inr (.inr (by omega)))) hEW hL9.rd hL9.off (fun h => by cases h) hL9.low
      have hBn : Below w2.heap.size w2 (wy.setCell ⟨w2.heap.size + 1, 2, none⟩ (.slice E8 (k + 1) d8)) := hB9.trans (ka.below_ hloW (fun i hi hc => by
       rcases hc with hc | hc | hc
       ·omega
       ·have := hElt i hc; omega
       ·have := hWlt i hc; omega))
      have q5 : wy.cell? ⟨w2.heap.size + 1, 2, none⟩ = some (.slice Ea k ec) := hcsY.2.2.1
      have z5 := hfzY 2
      clear hfin hap hcy hwy hcsY hfzY kb ka ka1 henZ hrowZ hcsZ hfzZ hrowY henY hrow hlists cs8' fz8' hrow8 hen8 f28 f58 k8
      go_wp2
      go_roundw
      case rel => exact ⟨k + 1, _, _, _, _, _, _, _, _, _, by omega, by go_num, by rw [hk1c.out, hng.out]; exact hCn, hx0, hx1, hBn⟩
      case measure => simp [intOf]; omega
  ·obtain rfl : n = k := by omega
   obtain ⟨s, hs⟩ := lT (cS l x y n)
   rw [hs.out] at hC hret
   obtain ⟨ng, hng⟩ := lT (s.g.length)
   obtain ⟨no, hno⟩ := lT (s.os.length)
   have hCC := hC
   obtain ⟨h1, h2, hf, Ag, cg, hbx, ho, he⟩ := hC.mq
   obtain ⟨q0, q1, q2, _⟩ := hC.cs
   simp only [Nat.zero_add, Nat.reduceAdd] at q0 q1 q2
   have hzb2 := hb.size
   have hZr : Below (w.heap.size + 1) (w.alloc (.cells #[.pointer none, .slice none 0 0, .slice none 0 0] 99)) wr := by
    have := hZ2.trans (hb.mono hZ2.size)
    rwa [World.size_alloc] at this
   have rr : ∀ (i : Nat) (v : Value), (w.alloc (.cells #[.pointer none, .slice none 0 0, .slice none 0 0] 99)).cell? ⟨w.heap.size, i, none⟩ = some v → wr.cell? ⟨w.heap.size, i, none⟩ = some v := fun i v h => (hZr.cell (p := ⟨w.heap.size, i, none⟩) (by show w.heap.size < w.heap.size + 1; omega)).trans h
   have r0 := rr 0 _ (Zaf _ _ 0 _ rfl)
   have r1 := rr 1 _ (Zaf _ _ 1 _ rfl)
   have r2 := rr 2 _ (Zaf _ _ 2 _ rfl)
   have hfr : Fz wr w.heap.size := (Fz.new w #[.pointer none, .slice none 0 0, .slice none 0 0] 99).below hZr (by omega)
   have f0 := hfr 0; have f1 := hfr 1; have f2 := hfr 2
   have hww : w.heap.size < w2.heap.size := by have := hZ2.size; simp at this; omega
   have fin : Hid (∀ wf, Alt (fun i => i = w.heap.size) wr wf → RetCs w l (.returned (.agg #[.pointer (some ⟨w2.heap.size, 0, none⟩), .slice Wa n wk, .slice Ea n ec])) wf) := zH (fun wf ka => by
    have hl := hCC.lt
    have off : ∀ g, some g ∈ ([some w2.heap.size, some (w2.heap.size + 1), some (w2.heap.size + 1 + 1), G, ob Oa, ob Ea, ob Wa] : List (Option Nat)) → ¬ (g = w.heap.size) := fun g hp hc => by have := hl g hp; omega
    refine hret.out _ _ ⟨w2.heap.size, Ag, cg, Oa, oc, Ea, ec, Wa, wk, [some w2.heap.size, some (w2.heap.size + 1), some (w2.heap.size + 1 + 1), G, ob Oa, ob Ea, ob Wa], rfl, ?_, Nat.lt_of_lt_of_le h1 ka.size, by omega, ⟨?_, ?_, ?_⟩, ?_, ?_, ?_⟩
    ·exact hbx.alt ka (off _ (by simp))
    ·exact ((ho.alt ka (fun g hg => off g (by rw [he] at hg; rw [hg]; simp))).now).lo_ (by omega)
    ·exact ((hCC.ou.alt ka (fun g hg => off g (by rw [← hg, ob_eq]; simp))).now).lo_ (by omega)
    ·exact fun g hg hc => hCC.dj 4 3 g (by decide) (by rw [← hc, ob_eq]; rfl) (by rw [he] at hg; rw [hg]; rfl)
    ·exact ((hCC.en.alt ka (fun g hg => off g (by rw [← hg, ob_eq]; simp))).now).lo_ (by omega)
    ·exact (hCC.wi.alt2 (ka.mono_ (T := fun i => i = w2.heap.size + 1 ∨ i = w.heap.size) (fun i _ h => .inr h)) (fun g hg hc => by have := hl g (by rw [← hg]; simp); rcases hc with hc | hc; (exact hCC.ne.1 (hc ▸ hg)); omega) (by simp) hww).lo_ (by omega)
    ·exact hB2.trans ((hb.mono (by omega)).trans (ka.below_ (by omega) (fun i hi hc => by have hc' : i = w.heap.size := hc; omega))))
   clear hC hCC hn0 hn1 h1 h2 hf hbx ho he hfr rr hret hZ2 hZr hb hsh hg
   have V := zH (set3_cells r0 r1 r2 (.pointer (some ⟨w2.heap.size, 0, none⟩)) (.slice Wa n wk) (.slice Ea n ec))
   go_wp2
   obtain ⟨t0, t1, t2⟩ := V.out
   refine bodyPost_ret (v := .agg #[.pointer (some ⟨w2.heap.size, 0, none⟩), .slice Wa n wk, .slice Ea n ec]) (by simp [results, Tryz.results86, go_sem, t0, t1, t2]) rfl ?_
   have hAl := (((Alt.refl_ (fun i => i = w.heap.size) wr).set_ ⟨w.heap.size, 0, none⟩ (.pointer (some ⟨w2.heap.size, 0, none⟩)) (fun _ => rfl)).set_ ⟨w.heap.size, 1, none⟩ (.slice Wa n wk) (fun _ => rfl)).set_ ⟨w.heap.size, 2, none⟩ (.slice Ea n ec) (fun _ => rfl)
   exact fin.out _ hAl
end Go.Proofs.YtenknpcbbcbciaaGreat
