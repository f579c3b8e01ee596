/- What the walk of the law of networks asks: letters for what is returned, what a network's circuit answers. No condition. -/
import Derived.Test.YtjeojnfpeppclaaQR15
namespace Go.Proofs.Ytjeojnfpeppclaa
open Go.RowKit
set_option linter.unusedVariables false
set_option linter.unusedSimpArgs false
def RetSo (V : Nat) (P : Int) (D : List G3) (L : List (List Int)) (O : Option Addr) (N oc : Nat) (w : World) (e : Ending) (w' : World) : Prop :=
 ∃ G', e = .returned (.slice O N oc) ∧ Mk w' V V P 0 D G' ∧ NL w' V G' V (.slice O N oc) N L ∧ Below V w w'
set_option maxRecDepth 100000 in
set_option maxHeartbeats 4000000 in
theorem soCircuit_any (V P N W : Nat) (ls : List Sp) (A : Option Addr) (m c : Nat) (O : Option Addr) (oc : Nat) (w0 w : World) (ha : RS w0 A m ls) (hw0 : Below w0.heap.size w0 w) (hV : w0.heap.size ≤ V) (hl60 : m ≤ 60) (hN12 : N ≤ 12) (hW4 : W ≤ 4) (hW1 : 1 ≤ W) (h3 : P ≤ 20) (hab : anyBad N ls = false)
 (hmk : Mk w V V (P : Int) 0 [] none) (hnl : NL w V none V (.slice O N oc) N (linesN N W)) (D : List G3) (L9 : List (List Int)) (hD : Hid (netN ((P : Int) + 0) W (linesN N W) ls m = (D, L9))) :
 Calls Try.prog 48 #[.pointer (some ⟨V, 0, none⟩), .slice A m c, .slice O N oc] w (RetSo V P D L9 O N oc w) := by
 have hl := ha.len
 have HOK := zH (netN_ok (X := (P : Int) + 0) (N := N) (W := W) (L := linesN N W) (ls := ls) (Zbv N W) (fun j hj => linesN_row hj) hab)
 have HST := zH (fun k (hk : k < m) => ok_at hab (j := k) (by omega))
 have hVw : V < w.heap.size := hmk.1
 have hVle : V ≤ w.heap.size := by omega
 clear hab
 go_enter Try.func48, Try.ntmps48
 go_wp2
 go_loopw [14] (fun i wr => ∃ (k : Nat) (G : Option Nat), k ≤ m ∧ i = .int .i64 k ∧ Mk wr V V (P : Int) 0 (netN ((P : Int) + 0) W (linesN N W) ls k).1 G ∧ NL wr V G V (.slice O N oc) N (netN ((P : Int) + 0) W (linesN N W) ls k).2 ∧ Below V w wr) (fun i _ => m - (intOf i).toNat)
 case atStart => exact ⟨0, none, Nat.zero_le _, rfl, hmk, hnl, Below.refl _ _⟩
 case round =>
  clear hmk hnl
  obtain ⟨k, G, hk, rfl, hmk, hnl, hb⟩ := hrel
  have hzr : V ≤ wr.heap.size := by have := hb.size; omega
  have hBr := hw0.trans (hb.mono hV)
  by_cases hlt : k < m
  ·obtain ⟨bs, os, rfl, hbs, s1, s2⟩ := (ha.below hBr lR).at_ hlt
   obtain ⟨hs0, hs1, hs2⟩ := HST.out k hlt
   obtain ⟨SG, SL, hSk⟩ : ∃ SG SL, Hid (netN ((P : Int) + 0) W (linesN N W) ls k = (SG, SL)) := ⟨_, _, zH rfl⟩
   have hok := HOK.out k (by omega)
   have hS1 : Hid (netN ((P : Int) + 0) W (linesN N W) ls (k + 1) = stepN ((P : Int) + 0) W (SG, SL) (ss ls k)) := zH (by simp only [netN]; rw [hSk.out])
   rw [hSk.out] at hmk hnl hok
   obtain ⟨hle, hlen, hrow⟩ := hok
   dsimp only at hmk hnl hle hlen hrow
   have hle' : SG.length ≤ 3000 := by have := Nat.mul_le_mul (Nat.mul_le_mul (Nat.le_refl 12) hW4) (show k ≤ 60 by omega); omega
   obtain ⟨sp, hsp⟩ : ∃ s, s = ss ls k := ⟨_, rfl⟩
   rw [← hsp] at s1 s2 hs0 hs1 hs2 hS1
   clear hsp hle
   obtain ⟨sl, sh⟩ := sp
   dsimp only at s1 s2 hs0 hs1 hs2
   obtain ⟨a1, rfl⟩ : ∃ a : Nat, sl = a := ⟨sl.toNat, by omega⟩
   obtain ⟨a2, rfl⟩ : ∃ a : Nat, sh = a := ⟨sh.toNat, by omega⟩
   have ha1 : a1 < N := by omega
   have ha2 : a2 < N := by omega
   obtain ⟨g, A1, q1, c1, hO, hg1, hg2, hce1, hfz1, hrm1, hd1⟩ := hnl.at_ (k := a1) ha1
   obtain ⟨g', A2, q2, c2, hO2, _, _, hce2, hfz2, hrm2, hd2⟩ := hnl.at_ (k := a2) ha2
   obtain rfl : g = g' := by rw [hO] at hO2; injection hO2 with h; injection h
   obtain rfl : q1 = W := by rw [← hrm1.len]; exact hrow a1 ha1
   obtain rfl : q2 = q1 := by rw [← hrm2.len]; exact hrow a2 ha2
   subst hO
   obtain ⟨us, hus⟩ := lT (gl SL a1)
   obtain ⟨vs, hvs⟩ := lT (gl SL a2)
   rw [hus.out] at hrm1
   rw [hvs.out] at hrm2
   have hbA : Below wr.heap.size wr (wr.alloc (.cells #[.int .i64 (a1 : Int), .int .i64 (a2 : Int)] 54)) := bA
   have e0 := Zaa wr #[.int .i64 (a1 : Int), .int .i64 (a2 : Int)] (T := 54) 0 (.int .i64 (a1 : Int)) rfl
   have e1 := Zaa wr #[.int .i64 (a1 : Int), .int .i64 (a2 : Int)] (T := 54) 1 (.int .i64 (a2 : Int)) rfl
   have off : OffB V G wr.heap.size := ⟨by have := hmk.1; omega, fun hc => by have := (hmk.lt _ hc).2; omega⟩
   have hgo : OffB V G g := ⟨(hnl.lt g (by simp [Value.ownBlock])).2.2.1, (hnl.lt g (by simp [Value.ownBlock])).2.2.2⟩
   have hsbl := subS_g ((P : Int) + 0) SG us vs q2
   have hsb0 := subS_o ((P : Int) + 0) SG us vs q2
   obtain ⟨B0, BO, BC, hsb⟩ : ∃ a b c, Hid (subS ((P : Int) + 0) SG us vs q2 = ⟨a, b, c⟩) := ⟨_, _, _, zH rfl⟩
   rw [hsb.out] at hsbl hsb0
   dsimp only at hsbl hsb0
   have hc1l := chs_g ((P : Int) + 0) B0 BC us vs q2
   have hc1o := chs_o ((P : Int) + 0) B0 BC us vs q2
   obtain ⟨C0, CO, hc1⟩ : ∃ a b, Hid (chs ((P : Int) + 0) B0 BC us vs q2 = ⟨a, b⟩) := ⟨_, _, zH rfl⟩
   rw [hc1.out] at hc1l hc1o
   dsimp only at hc1l hc1o
   have hc2o := chs_o ((P : Int) + 0) C0 BC vs us q2
   obtain ⟨D0, DO, hc2⟩ : ∃ a b, Hid (chs ((P : Int) + 0) C0 BC vs us q2 = ⟨a, b⟩) := ⟨_, _, zH rfl⟩
   rw [hc2.out] at hc2o
   dsimp only at hc2o
   have hS2 : Hid (netN ((P : Int) + 0) q2 (linesN N q2) ls (k + 1) = (D0, (SL.set a1 CO).set a2 DO)) := zH (by
    rw [hS1.out]; unfold stepN; dsimp only
    rw [Int.toNat_natCast, Int.toNat_natCast, hus.out, hvs.out, hsb.out]; dsimp only; rw [hc1.out]; dsimp only; rw [hc2.out])
   have hK0 := fun (W' : World) h1 h2 h3 h4 => gdSub_any V V (P : Int) 0 SG G A1 A2 q2 c1 c2 us vs W' h1 h2 h3 (by omega) (by omega) (by omega) (by omega) h4
   rw [hsb.out] at hK0
   dsimp only at hK0
   have hK1 := fun (W' : World) G' h1 h2 h3 h4 => gdPick_any V V (P : Int) 0 B0 G' A1 A2 q2 c1 c2 BC us vs W' h1 h2 h3 (by omega) (by omega) (by omega) (by omega) h4
   rw [hc1.out] at hK1
   have hK2 := fun (W' : World) G' h1 h2 h3 h4 => gdPick_any V V (P : Int) 0 C0 G' A2 A1 q2 c2 c1 BC vs us W' h1 h2 h3 (by omega) (by omega) (by omega) (by omega) h4
   rw [hc2.out] at hK2
   dsimp only at hK1 hK2
   have HK0 := zH hK0; have HK1 := zH hK1; have HK2 := zH hK2
   clear hK0 hK1 hK2 hS1
   go_wp2_with fail
   go_quiet (fail)
   go_wp2_with fail
   have hmA := (hmk.alloc_ (.cells #[.int .i64 (a1 : Int), .int .i64 (a2 : Int)] 54)).drewN_ nq
   have hnA := (hnl.alloc_ (.cells #[.int .i64 (a1 : Int), .int .i64 (a2 : Int)] 54)).drewN_ nq
   have hbQ := Zak hbA nq
   have e0q : ((wr.alloc (.cells #[.int .i64 (a1 : Int), .int .i64 (a2 : Int)] 54)).drewN nq).cell? ⟨wr.heap.size, 0, none⟩ = some (.int .i64 (a1 : Int)) := e0
   have e1q : ((wr.alloc (.cells #[.int .i64 (a1 : Int), .int .i64 (a2 : Int)] 54)).drewN nq).cell? ⟨wr.heap.size, 1, none⟩ = some (.int .i64 (a2 : Int)) := e1
   have r1A := hrm1.below_ hbQ lR
   have r2A := hrm2.below_ hbQ lR
   have hbb := hb.trans (hbQ.mono hzr)
   have hzQ := Nat.le_trans hVle hbb.size
   have hsQ : ((wr.alloc (.cells #[.int .i64 (a1 : Int), .int .i64 (a2 : Int)] 54)).drewN nq).heap.size = wr.heap.size + 1 := by simp
   refine (HK0.out _ hmA r1A r2A hzQ).mono ?_
   rintro e w5 hT5
   obtain ⟨G5, O5, oc5, rfl, hm5, hv5, ho5⟩ := hT5.open_ (show (BO ++ [BC]).length = q2 + 1 by simp [hsb0])
   obtain ⟨g5, hO5, _⟩ := ho5.1.some_ (by omega)
   subst hO5
   have hbc := (ho5.1.cellAt (k := q2) (by omega)).1
   have hgi : gi (BO ++ [BC]) q2 = BC := by have h := gi_append_r BO BC; rwa [hsb0] at h
   rw [hgi] at hbc
   have hq21 : (q2 : Int) < (q2 : Int) + 1 := by omega
   have hq22 : (q2 : Int) < ((q2 + 1 : Nat) : Int) := by omega
   have hz5 := hv5.size
   have e05 := hv5.cellF e0q off
   have e15 := hv5.cellF e1q off
   have off5 := hv5.offF (by omega) off
   have hgo5 := hv5.offF (by omega) hgo
   have hn5 := hnA.mv hv5
   have r15 := r1A.mv hv5
   have r25 := r2A.mv hv5
   have hb5 := hv5.toBelow hbb lR (fun g hg => (hmA.lt g hg).1) hzQ
   clear hmA hnA r1A r2A e0q e1q e0 e1 hv5 ho5 hgi
   have ng0 : ∀ q q' : Nat, (⟨g, q, none⟩ : Addr) ≠ ⟨wr.heap.size, q', none⟩ := fun q q' h9 => by have h8 := congrArg Addr.block h9; dsimp only at h8; omega
   have e05d : (w5.drewN 1).cell? ⟨wr.heap.size, 0, none⟩ = some (.int .i64 (a1 : Int)) := e05
   have e05e : (World.drew w5).cell? ⟨wr.heap.size, 0, none⟩ = some (.int .i64 (a1 : Int)) := e05
   have r15d : RM (w5.drewN 1) V G5 A1 q2 us := r15
   have r25d : RM (w5.drewN 1) V G5 A2 q2 vs := r25
   have e15d : (w5.drewN 1).cell? ⟨wr.heap.size, 1, none⟩ = some (.int .i64 (a2 : Int)) := e15
   have hl5 : V ≤ (w5.drewN 1).heap.size := Nat.le_trans hVle hb5.size
   have hg5 : g < (w5.drewN 1).heap.size := by show g < w5.heap.size; omega
   have hq5 : wr.heap.size < (w5.drewN 1).heap.size := by show wr.heap.size < w5.heap.size; omega
   go_wp2_with fail
   go_region_held3 (fun w' => w'.cell? ⟨wr.heap.size, 0, none⟩ = some (.int .i64 (a1 : Int))) (first | (with_reducible exact e05e) | (with_reducible exact e05d) | (with_reducible exact hv6.cellF e05d off5) | (exact (World.cell?_setCell_other _ _ _ _ (ng0 _ _)).trans (hv6.cellF e05d off5)) | go_keep) (first | (go_at_call 73; refine (HK1.out _ G5 (hm5.drewN_ 1) r15d r25d hl5).mono ?_; rintro e w6 hT6; obtain ⟨G6, O6, oc6, rfl, hm6, hv6, ho6⟩ := hT6.open_ hc1o; have hn6 := (hn5.drewN_ 1).mv hv6; have hq6 := hn6.at_ ha1; obtain ⟨g6, A6', m6', c6', hO6, _, _, hce6, hfz6, _, _⟩ := hq6; injection hO6 with hO6; injection hO6 with hO6; subst hO6))
   have hd6 : ∀ q o, O6 = some ⟨q, o, none⟩ → q ≠ g ∧ q < w6.heap.size := fun q o hA => by
    obtain ⟨g9, h1, h2, h3, h4⟩ := ho6.1.some_ (by omega)
    rw [hA] at h1; injection h1 with h1; injection h1 with h1 _
    subst h1
    exact ⟨by omega, h4⟩
   have hgo6 := hv6.offF hg5 hgo5
   have off6 := hv6.offF hq5 off5
   have hn7 := hn6.stored (c' := oc6) ha1 ho6.reads hd6
   have hm7 : Mk (w6.setCell ⟨g, a1, none⟩ (.slice O6 q2 oc6)) V V (P : Int) 0 C0 G6 := (show MkO w6 V V (P : Int) 0 none 0 0 C0 G6 from hm6).set_ ⟨g, a1, none⟩ _ (And.left hgo6) (And.right hgo6)
   have k7 : Alt (fun i => i = g) w6 (w6.setCell ⟨g, a1, none⟩ (.slice O6 q2 oc6)) := (Alt.refl_ _ w6).set_ _ _ (fun _ => rfl)
   have r17 := (r15d.mv hv6).alt k7 (fun q o hA => (hd1 q o hA).1)
   have r27 := (r25d.mv hv6).alt k7 (fun q o hA => (hd2 q o hA).1)
   have e17 := (World.cell?_setCell_other w6 _ _ (.slice O6 q2 oc6) (ng0 a1 1)).trans (hv6.cellF e15d off5)
   have hb6 := hv6.toBelow (Zak hb5 1) lR (fun g hg => (hm5.lt g hg).1) hl5
   have hb7 := hb6.setCell (p := ⟨g, a1, none⟩) hg1 (.slice O6 q2 oc6)
   have hz6 := hv6.size
   obtain ⟨w7, hw7⟩ : ∃ w7, w7 = w6.setCell ⟨g, a1, none⟩ (.slice O6 q2 oc6) := ⟨_, rfl⟩
   have hs7 : w7.heap.size = w6.heap.size := by rw [hw7]; simp
   rw [← hw7] at hn7 hm7 r17 r27 e17 hb7
   have HW7 := zH hw7; clear hw7
   have e17d : (w7.drewN 1).cell? ⟨wr.heap.size, 1, none⟩ = some (.int .i64 (a2 : Int)) := e17
   have e17e : (World.drew w7).cell? ⟨wr.heap.size, 1, none⟩ = some (.int .i64 (a2 : Int)) := e17
   have r17d : RM (w7.drewN 1) V G6 A1 q2 us := r17
   have r27d : RM (w7.drewN 1) V G6 A2 q2 vs := r27
   have hl7 : V ≤ (w7.drewN 1).heap.size := Nat.le_trans hVle hb7.size
   have hg7 : g < (w7.drewN 1).heap.size := by show g < w7.heap.size; have : g < w5.heap.size := hg5; have : w5.heap.size ≤ w6.heap.size := hz6; omega
   have hq7 : wr.heap.size < (w7.drewN 1).heap.size := by show wr.heap.size < w7.heap.size; have : w5.heap.size ≤ w6.heap.size := hz6; omega
   clear hs7 hn6 hm6 hm5 hv6 hn5 ho6 hd6 hb6 hb5 hz6 e05 e05d e05e e15 e15d r15 r25 r15d r25d hfz6 hce6 k7
   go_wp2_with fail
   rw [← HW7.out]
   go_region_held3 (fun w' => w'.cell? ⟨wr.heap.size, 1, none⟩ = some (.int .i64 (a2 : Int))) (first | (with_reducible exact e17e) | (with_reducible exact e17d) | (with_reducible exact hv8.cellF e17d off6) | (exact (World.cell?_setCell_other _ _ _ _ (ng0 _ _)).trans (hv8.cellF e17d off6)) | go_keep) (first | (go_at_call 73; refine (HK2.out _ G6 (hm7.drewN_ 1) r27d r17d hl7).mono ?_; rintro e w8 hT8; obtain ⟨G8, O8, oc8, rfl, hm8, hv8, ho8⟩ := hT8.open_ hc2o; have hn8 := (hn7.drewN_ 1).mv hv8; have hq8 := hn8.at_ ha2; obtain ⟨g8, A8', m8', c8', hO8, _, _, hce8, hfz8, _, _⟩ := hq8; injection hO8 with hO8; injection hO8 with hO8; subst hO8))
   have hd8 : ∀ q o, O8 = some ⟨q, o, none⟩ → q ≠ g ∧ q < w8.heap.size := fun q o hA => by
    obtain ⟨g9, h1, h2, h3, h4⟩ := ho8.1.some_ (by omega)
    rw [hA] at h1; injection h1 with h1; injection h1 with h1 _
    subst h1
    exact ⟨by omega, h4⟩
   have hgo8 := hv8.offF hg7 hgo6
   have hn9 := hn8.stored (c' := oc8) ha2 ho8.reads hd8
   have hm9 : Mk (w8.setCell ⟨g, a2, none⟩ (.slice O8 q2 oc8)) V V (P : Int) 0 D0 G8 := (show MkO w8 V V (P : Int) 0 none 0 0 D0 G8 from hm8).set_ ⟨g, a2, none⟩ _ (And.left hgo8) (And.right hgo8)
   have hb8 := hv8.toBelow (Zak hb7 1) lR (fun g hg => (hm7.lt g hg).1) hl7
   have hb9 := hb8.setCell (p := ⟨g, a2, none⟩) hg1 (.slice O8 q2 oc8)
   have hrel1 : Mk (w8.setCell ⟨g, a2, none⟩ (.slice O8 q2 oc8)) V V (P : Int) 0 (netN ((P : Int) + 0) q2 (linesN N q2) ls (k + 1)).1 G8 ∧ NL (w8.setCell ⟨g, a2, none⟩ (.slice O8 q2 oc8)) V G8 V (.slice (some ⟨g, 0, none⟩) N oc) N (netN ((P : Int) + 0) q2 (linesN N q2) ls (k + 1)).2 := by rw [hS2.out]; exact ⟨hm9, hn9⟩
   clear hm9 hn9 hm8 hn8 hb8 hn7 hm7 r17 r27 e17 hb7 e17d e17e r17d r27d hS2 hmk hnl hb
   go_wp2
   go_roundw
   case rel => exact ⟨k + 1, _, by omega, by go_num, hrel1.1, hrel1.2, hb9⟩
   case measure => simp [intOf]; omega
  ·obtain rfl : m = k := Nat.le_antisymm (Nat.le_of_not_lt hlt) hk
   rw [hD.out] at hmk hnl
   dsimp only at hmk hnl
   go_wp2
   go_ret
   exact ⟨G, rfl, hmk, hnl, hb⟩
set_option maxRecDepth 100000 in
set_option maxHeartbeats 4000000 in
theorem Zbc (n : Int) (A : Option Addr) (m c : Nat) (ls : List Sp) (wd : Int) (w : World) (ha : RS w A m ls) (hm : m ≤ 2097152) :
 Calls Try.prog 21 #[.int .i64 n, .slice A m c, .int .i64 wd] w (RetC w (netF n ls wd)) := by
 have hl := ha.len
 have hB : Below w.heap.size w (w.alloc (.cells #[.int .i64 0, .int .i64 0, .slice none 0 0, .slice none 0 0] 43)) := bA
 have hx0 : BxC (w.alloc (.cells #[.int .i64 0, .int .i64 0, .slice none 0 0, .slice none 0 0] 43)) w.heap.size 0 0 none 0 0 none 0 0 := BxC.new w _
 have f0 : Fz (w.alloc (.cells #[.int .i64 0, .int .i64 0, .slice none 0 0, .slice none 0 0] 43)) w.heap.size := Fz.new w _ _
 cases h1 : netB n ls with
 | false =>
  have HR : Hid (netF n ls wd = none) := zH (by simp [netF, h1])
  have H1 := zH h1; clear h1
  go_enter Try.func21, Try.ntmps21
  go_wp2_with fail
  refine (Zaz n A m c ls _ (ha.below hB lR) hm).mono ?_
  rintro e v1 ⟨rfl, hb1⟩
  rw [H1.out]
  have hr1 := hx0.below hb1
  have f1 := f0.below hb1 (by simp)
  have hBv := hB.trans (hb1.mono hB.size)
  clear hx0 f0 hb1 hB
  have hq := hr1; obtain ⟨r0, r1, r2, r3⟩ := hq
  have g0 := f1 0; have g1 := f1 1; have g2 := f1 2; have g3 := f1 3
  go_wp2
  have hq9 := BxC.set4 (hr1) 0 0 none 0 0 none 0 0
  obtain ⟨q0, q1, q2, q3⟩ := hq9
  refine bodyPost_ret (v := .tuple #[.agg #[.int .i64 0, .int .i64 0, .slice none 0 0, .slice none 0 0], .bool false]) (by simp [results, Try.results21, go_sem, q0, q1, q2, q3]) rfl ?_
  exact RetC.none_ (Zai hBv (by omega) _ _ _ _ _ _ _ _) HR.out rfl
 | true =>
  cases h2 : inB 1 4 wd with
  | false =>
   have HR : Hid (netF n ls wd = none) := zH (by simp [netF, h1, h2])
   have H1 := zH h1; clear h1
   go_enter Try.func21, Try.ntmps21
   go_wp2_with fail
   refine (Zaz n A m c ls _ (ha.below hB lR) hm).mono ?_
   rintro e v1 ⟨rfl, hb1⟩
   rw [H1.out]
   go_wp2_with fail
   refine (Zad wd 1 4 _ h2 _).mono ?_
   rintro e v2 ⟨rfl, rfl⟩
   have hr1 := hx0.below hb1
   have f1 := f0.below hb1 (by simp)
   have hBv := hB.trans (hb1.mono hB.size)
   clear hx0 f0 hb1 hB
   have hq := hr1; obtain ⟨r0, r1, r2, r3⟩ := hq
   have g0 := f1 0; have g1 := f1 1; have g2 := f1 2; have g3 := f1 3
   go_wp2
   have hq9 := BxC.set4 (hr1) 0 0 none 0 0 none 0 0
   obtain ⟨q0, q1, q2, q3⟩ := hq9
   refine bodyPost_ret (v := .tuple #[.agg #[.int .i64 0, .int .i64 0, .slice none 0 0, .slice none 0 0], .bool false]) (by simp [results, Try.results21, go_sem, q0, q1, q2, q3]) rfl ?_
   exact RetC.none_ (Zai hBv (by omega) _ _ _ _ _ _ _ _) HR.out rfl
  | true =>
   obtain ⟨N, W, P, hnN, hwW, hN12, hN1, hW4, hW1, hl60, hab, hP, hPN, hkW⟩ := net_bd h1 h2
   have hP48 : P ≤ 48 := by have := Nat.mul_le_mul hN12 hW4; omega
   subst hnN
   subst hwW
   have hwm : IntKind.i64.wrap ((N : Int) * (W : Int)) = (P : Int) := by rw [hP]; exact IntWalk.i64_in _ (by omega)
   by_cases h3 : P ≤ 20
   ·have h3' : (P : Int) ≤ 20 := by omega
    rw [hl] at hl60
    have hok := netN_ok (X := (P : Int) + 0) (N := N) (W := W) (L := linesN N W) (ls := ls) (Zbv N W) (fun j hj => linesN_row hj) hab
    have hst := fun k (hk : k < m) => ok_at hab (j := k) (by omega)
    obtain ⟨D, L9, hD⟩ : ∃ D L, Hid (netN ((P : Int) + 0) W (linesN N W) ls m = (D, L)) := ⟨_, _, zH rfl⟩
    have HF1 : Hid (circB (P : Int) 0 D L9.flatten = true → netF (N : Int) ls (W : Int) = some ⟨(P : Int), 0, D, L9.flatten⟩) := zH fun h => by
     unfold netF; rw [h1, h2, hP, Int.toNat_natCast, Int.toNat_natCast, hl, hD.out]; simp [h, h3']
    have HF0 : Hid (circB (P : Int) 0 D L9.flatten = false → netF (N : Int) ls (W : Int) = none) := zH fun h => by
     unfold netF; rw [h1, h2, hP, Int.toNat_natCast, Int.toNat_natCast, hl, hD.out]; simp [h, h3']
    have HAB := zH hab; have H1 := zH h1; have HOK := zH hok; have HST := zH hst; have HKW := zH hkW
    have HP := zH hP
    clear h1 hok hst hkW hab hP hPN
    go_enter Try.func21, Try.ntmps21
    go_wp2_with fail
    refine (Zaz N A m c ls _ (ha.below hB lR) hm).mono ?_
    rintro e v1 ⟨rfl, hb1⟩
    rw [H1.out]
    go_wp2_with fail
    refine (Zad W 1 4 _ h2 _).mono ?_
    rintro e v2 ⟨rfl, rfl⟩
    have hr1 := hx0.below hb1
    have f1 := f0.below hb1 (by simp)
    have hBv := hB.trans (hb1.mono hB.size)
    have hzv : w.heap.size + 1 ≤ v1.heap.size := by have := hb1.size; simpa using this
    clear hx0 f0 hb1 hB
    go_wp2_with fail
    refine (ciNew_any (P : Int) 0 _).mono ?_
    rintro e v2 ⟨rfl, hv2⟩
    have hm0 := Mk.new v1 v1.heap.size (P : Int) 0 86
    have hn0 := NL.none_ (v1.alloc (.cells #[.int .i64 (P : Int), .int .i64 0, .slice none 0 0, .slice none 0 0] 86)) v1.heap.size none v1.heap.size
    have hb0 : Below v1.heap.size v1 (v1.alloc (.cells #[.int .i64 (P : Int), .int .i64 0, .slice none 0 0, .slice none 0 0] 86)) := bA
    rw [hv2] at hm0 hn0 hb0
    clear hv2
    go_wp2
    go_loopw [9, 10] (fun o i wr => ∃ (k : Nat) (O : Option Addr) (oc : Nat), k ≤ N ∧ i = .int .i64 k ∧ o = .slice O k oc ∧ Mk wr v1.heap.size v1.heap.size (P : Int) 0 [] none ∧ NL wr v1.heap.size none v1.heap.size (.slice O k oc) k (linesN k W) ∧ Below v1.heap.size v1 wr) (fun _ i _ => N - (intOf i).toNat)
    case atStart => exact ⟨0, _, _, Nat.zero_le _, rfl, rfl, hm0, hn0, hb0⟩
    case round =>
     clear hm0 hn0 hb0
     obtain ⟨k, O, oc, hk, rfl, rfl, hmk, hnl, hb⟩ := hrel
     have hzr := hb.size
     by_cases hlt : k < N
     ·obtain ⟨hk1, hk0⟩ := HKW.out k hlt
      have hwk : IntKind.i64.wrap ((k : Int) * (W : Int)) = (k : Int) * W := IntWalk.i64_in _ (by omega)
      go_wp2_with fail
      refine (gdRange_any ((k : Int) * W) W _ ⟨hk0, by omega⟩ (by omega)).mono ?_
      rintro e w3 hT
      obtain ⟨A3, c3, rfl, hown3, hb3⟩ := hT.open_ (spn_len _ W)
      have hz3 := hb3.size
      have hrm := (RM.ofOwn (b := v1.heap.size) hown3 (by have := hmk.1; omega)).below_ ((Below.refl w3.heap.size w3).alloc lR (.cells #[.slice A3 W c3] 34)) lR
      have hm3 := (hmk.below_ hb3 lR).alloc_ (.cells #[.slice A3 W c3] 34)
      have hn3 := (hnl.below_ hb3 lR).alloc_ (.cells #[.slice A3 W c3] 34)
      have hbA := (hb.trans (hb3.mono hzr)).alloc (by omega) (.cells #[.slice A3 W c3] 34)
      have hcc := Zaa w3 #[.slice A3 W c3] (T := 34) 0 (.slice A3 W c3) rfl
      have hd3 : ∀ q o, A3 = some ⟨q, o, none⟩ → (Value.slice O k oc).ownBlock ≠ some q ∧ q < (w3.alloc (.cells #[.slice A3 W c3] 34)).heap.size := fun q o hA => by
       obtain ⟨g, hg, h1, h2, h3⟩ := hown3.some_ (by omega)
       rw [hA] at hg; injection hg with hg; injection hg with hg1 hg2
       subst hg1
       exact ⟨fun hc => by have := (hnl.lt _ hc).2.1; omega, by simp; omega⟩
      go_wp2_with (at_builtin; refine wpList_appN _ rfl _ _ rfl rfl hn3 rfl hrm hd3 hcc (by omega) (by simp; omega) (by simp; omega) (fun g hg => by cases hg) ?_; intro A5 c5 w5 hn5 hg5)
      have hm5 := hm3.grown_ hg5 (fun hc => (hn3.lt _ hc).2.2.1 rfl) (fun g hc => by simp)
      have hb5 := below_grown hbA hg5 (by simp; omega) (fun j hj => (hn3.lt j hj).1)
      rw [← linesN_snoc] at hn5
      clear hrm hm3 hn3 hbA hcc hd3 hg5 hmk hnl hb hown3 hb3
      go_wp2
      go_roundw
      case rel => exact ⟨k + 1, _, _, by omega, by go_num, rfl, hm5, hn5, hb5⟩
      case measure => simp [intOf]; omega
     ·obtain rfl : N = k := Nat.le_antisymm (Nat.le_of_not_lt hlt) hk
      have hO := fun D' L' hD' => soCircuit_any v1.heap.size P N W ls A m c O oc w wr ha (hBv.trans (hb.mono hBv.size)) (by omega) hl60 hN12 hW4 hW1 h3 HAB.out hmk hnl D' L' hD'
      have hO2 := zH (hO D L9 hD); clear hO
      go_wp2_with fail
      refine (hO2.out).mono ?_
      rintro e w4 ⟨G, rfl, hmk4, hnl4, hb4⟩
      have hbl4 := hb.trans (hb4.mono lR)
      have hok := HOK.out m (by omega)
      rw [hD.out] at hok
      obtain ⟨hle, hlen, hrow⟩ := hok
      dsimp only at hle hlen hrow
      have hle' : D.length ≤ 3000 := by have := Nat.mul_le_mul (Nat.mul_le_mul (Nat.le_refl 12) hW4) hl60; omega
      have hfl := zH (flat_le (xss := L9) (M := 4) (fun j hj => by rw [hrow j (by omega)]; exact hW4))
      have hts : Hid (∀ k, k < N → (L9.take (k + 1)).flatten = (L9.take k).flatten ++ gl L9 k) := zH (fun k hk => gl_take_succ (by omega))
      have htn : Hid ((L9.take N).flatten = L9.flatten) := zH (by rw [← hlen, List.take_length])
      have hm4 : MkO w4 v1.heap.size v1.heap.size (P : Int) 0 none 0 0 D G := hmk4
      clear hO2 hmk hnl hb hb4 hmk4 hle
      go_wp2
      go_loopw [51] (fun i wr => ∃ (k : Nat) (U : Option Addr) (u uc : Nat), k ≤ N ∧ i = .int .i64 k ∧ MkO wr v1.heap.size v1.heap.size (P : Int) 0 U u uc D G ∧ OM wr v1.heap.size G v1.heap.size (.slice U u uc) u (L9.take k).flatten ∧ NL wr v1.heap.size G v1.heap.size (.slice O N oc) N L9 ∧ Below v1.heap.size v1 wr) (fun i _ => N - (intOf i).toNat)
      case atStart => exact ⟨0, none, 0, 0, Nat.zero_le _, rfl, hm4, by simpa using OM.none_ w4 v1.heap.size G v1.heap.size, hnl4, hbl4⟩
      case round =>
       clear hm4 hnl4 hbl4
       obtain ⟨k, U, u, uc, hk, rfl, hmk, hu, hnl, hb⟩ := hrel
       have hzr := hb.size
       have hul := hu.len
       have hfk := hfl.out k (by omega)
       by_cases hlt : k < N
       ·obtain ⟨g, A1, q1, c1, hO, hg1, hg2, hce1, hfz1, hrm1, hd1⟩ := hnl.at_ hlt
        obtain rfl : q1 = W := by rw [← hrm1.len]; exact hrow k hlt
        subst hO
        have hq := hmk; obtain ⟨t1, t2, tf, Ag, cg, hbx, hbo, hbe⟩ := hq
        have hq := hbx; obtain ⟨p0, p1, p2, p3⟩ := hq
        have hS := zH (hts.out k hlt)
        have hjl : ((L9.take k).flatten ++ gl L9 k).length = u + q1 := by rw [List.length_append, hul, hrm1.len]
        go_wp2_with fail
        refine (ciJoin_any U A1 u uc q1 c1 (L9.take k).flatten (gl L9 k) _ hu.1.reads hrm1.1 (by omega) (by omega)).mono ?_
        rintro e w5 hT
        obtain ⟨A5, c5, rfl, ho5, hb5⟩ := hT
        have hz5 := hb5.size
        have hm5 := hmk.below_ hb5 lR
        have hn5 := hnl.below_ hb5 lR
        have hb5' := hb.trans (hb5.mono hzr)
        have hou : OM w5 v1.heap.size G v1.heap.size (.slice A5 (u + q1) c5) (u + q1) ((L9.take k).flatten ++ gl L9 k) := ⟨ho5.lo_ hzr, fun g9 hg9 => ⟨by have := ho5.lt g9 hg9; have := hmk.1; omega, fun hc => by have := ho5.lt g9 hg9; have := (hmk.lt _ hc).2; omega⟩⟩
        have hm6 := hm5.outs A5 (u + q1) c5
        have hou6 : OM (w5.setCell ⟨v1.heap.size, 3, none⟩ (.slice A5 (u + q1) c5)) v1.heap.size G v1.heap.size (.slice A5 (u + q1) c5) (u + q1) ((L9.take k).flatten ++ gl L9 k) := ⟨(hou.1.alt ((Alt.refl_ (fun i => i = v1.heap.size) w5).set_ ⟨v1.heap.size, 3, none⟩ _ (fun _ => rfl)) (fun g9 hg9 hc => (hou.2 g9 hg9).1 hc)).now, hou.2⟩
        have hn6 : NL (w5.setCell ⟨v1.heap.size, 3, none⟩ (.slice A5 (u + q1) c5)) v1.heap.size G v1.heap.size (.slice (some ⟨g, 0, none⟩) N oc) N L9 := hn5.mv ((Mv.refl_ v1.heap.size G w5).outs _ 3)
        have hb6 := hb5'.setCell (p := ⟨v1.heap.size, 3, none⟩) lR (.slice A5 (u + q1) c5)
        rw [← hS.out] at hou6
        have hq := hm5; obtain ⟨_, _, tf5, Ag5, cg5, hbx5, _, _⟩ := hq
        have hq := hbx5; obtain ⟨y0, y1, y2, y3⟩ := hq
        have e3 := tf5 3
        clear p0 p1 p2 p3 hbx hbo tf hu hmk hnl hb hou hm5 hn5 hb5'
        go_wp2
        go_roundw
        case rel => exact ⟨k + 1, _, _, _, by omega, by go_num, hm6, hou6, hn6, hb6⟩
        case measure => simp [intOf]; omega
       ·obtain rfl : N = k := Nat.le_antisymm (Nat.le_of_not_lt hlt) hk
        rw [htn.out] at hu hul hfk
        have hBl := hBv.trans (hb.mono hBv.size)
        have hr7 := hr1.below hb
        have f7 := f1.below hb hr1.lt
        obtain ⟨t1, t2, tf, Ag, cg, hbx, hbo, hbe⟩ := hmk
        have hq := hbx; obtain ⟨p0, p1, p2, p3⟩ := hq
        have hC7 : OwnC wr v1.heap.size wr.heap.size Ag D.length cg U u uc D L9.flatten := ⟨hbo, hu.1, fun g h1 h2 => (hu.2 g h2).2 (hbe ▸ h1)⟩
        cases h9 : circB (P : Int) 0 D L9.flatten with
        | true =>
         have HF := zH (HF1.out h9)
         go_wp2_with fail
         refine (ciIf_t (P : Int) 0 Ag D.length cg U u uc D L9.flatten _ hC7.reads.1 hC7.reads.2 (by omega) (by omega) h9).mono ?_
         rintro e w9 ⟨rfl, hb9⟩
         have hr9 := hr7.below hb9
         have f9 := f7.below hb9 hr7.lt
         have hB9 := hBl.trans (hb9.mono hBl.size)
         have hC9 := hC7.below hb9 (.inl lR)
         have hz9 := hb9.size
         have hq := hr9; obtain ⟨r0, r1, r2, r3⟩ := hq
         have g0 := f9 0; have g1 := f9 1; have g2 := f9 2; have g3 := f9 3
         go_wp2
         have hq9 := BxC.set4 (hr9) (P : Int) 0 Ag D.length cg U u uc
         obtain ⟨q0, q1, q2, q3⟩ := hq9
         refine bodyPost_ret (v := .tuple #[.agg #[.int .i64 (P : Int), .int .i64 0, .slice Ag D.length cg, .slice U u uc], .bool true]) (by simp [results, Try.results21, go_sem, q0, q1, q2, q3]) rfl ?_
         exact RetC.some_ (Zai hB9 (by omega) _ _ _ _ _ _ _ _) HF.out rfl hul rfl (by rw [set4_size]; exact ((hC9.set4 (.inl (by omega)) _ _ _ _ _ _ _ _).lo_ (by omega)) |> fun h => h.hi_ (by omega))
        | false =>
         have HF := zH (HF0.out h9)
         go_wp2_with fail
         refine (ciIf_f (P : Int) 0 Ag D.length cg U u uc D L9.flatten _ hC7.reads.1 hC7.reads.2 (by omega) (by omega) h9).mono ?_
         rintro e w9 ⟨rfl, hb9⟩
         have hr9 := hr7.below hb9
         have f9 := f7.below hb9 hr7.lt
         have hB9 := hBl.trans (hb9.mono hBl.size)
         have hq := hr9; obtain ⟨r0, r1, r2, r3⟩ := hq
         have g0 := f9 0; have g1 := f9 1; have g2 := f9 2; have g3 := f9 3
         go_wp2
         have hq9 := BxC.set4 (hr9) 0 0 none 0 0 none 0 0
         obtain ⟨q0, q1, q2, q3⟩ := hq9
         refine bodyPost_ret (v := .tuple #[.agg #[.int .i64 0, .int .i64 0, .slice none 0 0, .slice none 0 0], .bool false]) (by simp [results, Try.results21, go_sem, q0, q1, q2, q3]) rfl ?_
         exact RetC.none_ (Zai hB9 (by omega) _ _ _ _ _ _ _ _) HF.out rfl
   ·have h3' : ¬ (P : Int) ≤ 20 := by omega
    have HR : Hid (netF (N : Int) ls (W : Int) = none) := zH (by unfold netF; rw [h1, h2, hP]; simp; omega)
    have H1 := zH h1
    have HP := zH hP
    clear h1 hkW hab hP hPN
    go_enter Try.func21, Try.ntmps21
    go_wp2_with fail
    refine (Zaz N A m c ls _ (ha.below hB lR) hm).mono ?_
    rintro e v1 ⟨rfl, hb1⟩
    rw [H1.out]
    go_wp2_with fail
    refine (Zad W 1 4 _ h2 _).mono ?_
    rintro e v2 ⟨rfl, rfl⟩
    have hr1 := hx0.below hb1
    have f1 := f0.below hb1 (by simp)
    have hBv := hB.trans (hb1.mono hB.size)
    clear hx0 f0 hb1 hB
    have hq := hr1; obtain ⟨r0, r1, r2, r3⟩ := hq
    have g0 := f1 0; have g1 := f1 1; have g2 := f1 2; have g3 := f1 3
    go_wp2
    have hq9 := BxC.set4 (hr1) 0 0 none 0 0 none 0 0
    obtain ⟨q0, q1, q2, q3⟩ := hq9
    refine bodyPost_ret (v := .tuple #[.agg #[.int .i64 0, .int .i64 0, .slice none 0 0, .slice none 0 0], .bool false]) (by simp [results, Try.results21, go_sem, q0, q1, q2, q3]) rfl ?_
    exact RetC.none_ (Zai hBv (by omega) _ _ _ _ _ _ _ _) HR.out rfl
set_option maxHeartbeats 400000 in
theorem sameInts_any (A B : Option Addr) (n c m d : Nat) (xs ys : List Int) (w : World) (ha : RI w A n xs) (hb : RI w B m ys) (hn : n ≤ 2097152) (hm : m ≤ 2097152) :
 Calls Try.prog 17 #[.slice A n c, .slice B m d] w fun e w' => e = .returned (.bool (sameB xs ys)) ∧ ∃ j, w' = w.drewN j := by
 have hl := ha.len
 have hm' := hb.len
 by_cases h0 : n = m
 ·subst h0
  have hne : ((n : Int) != n) = false := by simp
  go_enter Try.func17, Try.ntmps17
  go_wp2
  go_loopw [13] (fun i wr => ∃ k j : Nat, k ≤ n ∧ i = .int .i64 k ∧ wr = w.drewN j ∧ Hid (∀ q, q < k → gi xs q = gi ys q)) (fun i _ => n - (intOf i).toNat)
  case atStart => exact ⟨0, 0, Nat.zero_le _, rfl, rfl, zH fun q hq => absurd hq (by omega)⟩
  case round =>
   obtain ⟨k, j, hk, rfl, rfl, hq⟩ := hrel
   by_cases hlt : k < n
   ·obtain ⟨b, o, rfl, hbB, e1⟩ := ha.at_ hlt
    obtain ⟨b', o', rfl, hbB', e2⟩ := hb.at_ hlt
    by_cases h1 : gi xs k = gi ys k
    ·have H1 := zH h1
     rw [← h1] at e2
     clear h1
     have hnx : (gi xs k != gi xs k) = false := by simp
     generalize hX : gi xs k = X at *
     clear ha hb
     go_wp2_with fail
     go_quiet (fail)
     go_wp2
     go_roundw
     case rel => exact ⟨k + 1, _, by omega, by go_num, by first | rfl | exact World.drewN_drewN _ _ _, zH fun q hq' => by
      rcases Nat.lt_or_ge q k with h | h
      ·exact hq.out q h
      ·obtain rfl : q = k := by omega
       exact hX.trans H1.out⟩
     case measure => simp [intOf]; omega
    ·have H1 := zH h1
     have hnx : (gi xs k != gi ys k) = true := by simpa using h1
     clear h1
     have HR : Hid (sameB xs ys = false) := zH (sameB_at H1.out)
     generalize gi xs k = X at *
     generalize gi ys k = Y at *
     clear ha hb
     go_wp2_with fail
     go_quiet (fail)
     go_wp2
     go_ret
     exact ⟨by rw [HR.out]; rfl, _, by first | rfl | exact World.drewN_drewN _ _ _⟩
   ·obtain rfl : k = n := by omega
    have HR : Hid (sameB xs ys = true) := zH (sameB_all (by omega) fun q hq' => hq.out q (by omega))
    go_wp2
    go_ret
    exact ⟨by rw [HR.out]; rfl, _, rfl⟩
 ·have h1 : ((n : Int) != m) = true := by simp; omega
  have HR : Hid (sameB xs ys = false) := zH (sameB_len (by omega))
  go_enter Try.func17, Try.ntmps17
  go_wp2
  go_ret
  exact ⟨by rw [HR.out]; rfl, 0, rfl⟩
def bigB (n m : Nat) : Bool := decide (1048576 < n + m)
theorem big_any (Y Z : Option Addr) (n c m d : Nat) (w : World) (hn : n ≤ 140737488355328) (hm : m ≤ 140737488355328) :
 Calls Try.prog 4 #[.slice Y n c, .slice Z m d] w fun e w' => e = .returned (.bool (bigB n m)) ∧ w = w' := by
 by_cases h1 : 1048576 < n
 ·have h2 : (1048576 : Int) < (n : Int) := by omega
  have HR : Hid (bigB n m = true) := zH (by unfold bigB; exact decide_eq_true (by omega))
  go_enter Try.func4, Try.ntmps4
  go_wp2
  go_ret
  exact ⟨by rw [HR.out]; rfl, rfl⟩
 ·have h2 : ¬ (1048576 : Int) < (n : Int) := by omega
  have hw : IntKind.i64.wrap (1048576 - (n : Int)) = 1048576 - (n : Int) := by rw [IntKind.wrap_i64] <;> omega
  by_cases h3 : (1048576 : Int) - n < m
  ·have HR : Hid (bigB n m = true) := zH (by unfold bigB; exact decide_eq_true (by omega))
   go_enter Try.func4, Try.ntmps4
   go_wp2
   go_ret
   exact ⟨by rw [HR.out]; simp [h3], rfl⟩
  ·have HR : Hid (bigB n m = false) := zH (by unfold bigB; exact decide_eq_false (by omega))
   go_enter Try.func4, Try.ntmps4
   go_wp2
   go_ret
   exact ⟨by rw [HR.out]; first | (simp; done) | (simp; omega), rfl⟩
theorem sameB_refl' (xs : List Int) : sameB xs xs = true := sameB_all rfl fun _ _ => rfl
set_option maxRecDepth 100000 in
set_option maxHeartbeats 2000000 in
theorem pSameCircuit_any (x y : Int) (Ag Bg : Option Addr) (ng cg dg : Nat) (Ao Bo : Option Addr) (no co do_ : Nat) (gs : List G3) (os : List Int) (w : World) (hr : RG w Ag ng gs ∧ RI w Ao no os) (hs : RG w Bg ng gs ∧ RI w Bo no os) (hng : ng ≤ 2097152) (hno : no ≤ 2097152) :
 Calls Try.prog 22 #[.agg #[.int .i64 x, .int .i64 y, .slice Ag ng cg, .slice Ao no co], .agg #[.int .i64 x, .int .i64 y, .slice Bg ng dg, .slice Bo no do_]] w fun e w' => e = .returned (.bool true) ∧ Below w.heap.size w w' := by
 have hB : Below w.heap.size w ((w.alloc (.cells #[.int .i64 x, .int .i64 y, .slice Ag ng cg, .slice Ao no co] 43)).alloc (.cells #[.int .i64 x, .int .i64 y, .slice Bg ng dg, .slice Bo no do_] 43)) := (bA).alloc (by simp) _
 have al1 : Below (w.alloc (.cells #[.int .i64 x, .int .i64 y, .slice Ag ng cg, .slice Ao no co] 43)).heap.size (w.alloc (.cells #[.int .i64 x, .int .i64 y, .slice Ag ng cg, .slice Ao no co] 43)) ((w.alloc (.cells #[.int .i64 x, .int .i64 y, .slice Ag ng cg, .slice Ao no co] 43)).alloc (.cells #[.int .i64 x, .int .i64 y, .slice Bg ng dg, .slice Bo no do_] 43)) := bA
 have p0 : BxC ((w.alloc (.cells #[.int .i64 x, .int .i64 y, .slice Ag ng cg, .slice Ao no co] 43)).alloc (.cells #[.int .i64 x, .int .i64 y, .slice Bg ng dg, .slice Bo no do_] 43)) w.heap.size x y Ag ng cg Ao no co := (BxC.new w _).below al1
 have p1 : BxC ((w.alloc (.cells #[.int .i64 x, .int .i64 y, .slice Ag ng cg, .slice Ao no co] 43)).alloc (.cells #[.int .i64 x, .int .i64 y, .slice Bg ng dg, .slice Bo no do_] 43)) (w.heap.size + 1) x y Bg ng dg Bo no do_ := by simpa using BxC.new (x := x) (y := y) (Ag := Bg) (ng := ng) (cg := dg) (Ao := Bo) (no := no) (co := do_) (w.alloc (.cells #[.int .i64 x, .int .i64 y, .slice Ag ng cg, .slice Ao no co] 43)) 43
 have n1 : (x != x) = false := by simp
 have n2 : (y != y) = false := by simp
 have n3 : ((ng : Int) != ng) = false := by simp
 have hq := p0; obtain ⟨k0, k1, k2, k3⟩ := hq
 have hq := p1; obtain ⟨m0, m1, m2, m3⟩ := hq
 go_enter Try.func22, Try.ntmps22
 go_wp2_with fail
 refine (sameInts_any Ao Bo no co no do_ os os _ (hr.2.below hB lR) (hs.2.below hB lR) hno hno).mono ?_
 rintro e a1 ⟨rfl, j, rfl⟩
 rw [sameB_refl']
 have hB1 := Zak hB j
 have q0 : BxC (((w.alloc (.cells #[.int .i64 x, .int .i64 y, .slice Ag ng cg, .slice Ao no co] 43)).alloc (.cells #[.int .i64 x, .int .i64 y, .slice Bg ng dg, .slice Bo no do_] 43)).drewN j) w.heap.size x y Ag ng cg Ao no co := p0
 have q1 : BxC (((w.alloc (.cells #[.int .i64 x, .int .i64 y, .slice Ag ng cg, .slice Ao no co] 43)).alloc (.cells #[.int .i64 x, .int .i64 y, .slice Bg ng dg, .slice Bo no do_] 43)).drewN j) (w.heap.size + 1) x y Bg ng dg Bo no do_ := p1
 clear k0 k1 k2 k3 m0 m1 m2 m3 p0 p1 al1 hB
 generalize ((w.alloc (.cells #[.int .i64 x, .int .i64 y, .slice Ag ng cg, .slice Ao no co] 43)).alloc (.cells #[.int .i64 x, .int .i64 y, .slice Bg ng dg, .slice Bo no do_] 43)).drewN j = a1 at *
 have hq := q0; obtain ⟨k0, k1, k2, k3⟩ := hq
 have hq := q1; obtain ⟨m0, m1, m2, m3⟩ := hq
 go_wp2
 clear k0 k1 k2 k3 m0 m1 m2 m3
 go_loopw [38] (fun i wr => ∃ k j : Nat, k ≤ ng ∧ i = .int .i64 k ∧ wr = a1.drewN j) (fun i _ => ng - (intOf i).toNat)
 case atStart => exact ⟨0, 0, Nat.zero_le _, rfl, rfl⟩
 case round =>
  obtain ⟨k, j, hk, rfl, rfl⟩ := hrel
  have hB2 := Zak hB1 j
  obtain ⟨k0, k1, k2, k3⟩ := q0
  obtain ⟨m0, m1, m2, m3⟩ := q1
  by_cases hlt : k < ng
  ·obtain ⟨kb, ob, rfl, hkb, d1, d2, d3⟩ := (hr.1.below hB1 lR).at_ hlt
   obtain ⟨kc, oc, rfl, hkc, f1, f2, f3⟩ := (hs.1.below hB1 lR).at_ hlt
   generalize gg gs k = GG at *
   go_wp2_with fail
   go_quiet (fail)
   clear k0 k1 k2 k3 m0 m1 m2 m3
   go_wp2
   go_roundw
   case rel => exact ⟨k + 1, _, by omega, by go_num, by first | rfl | exact World.drewN_drewN _ _ _⟩
   case measure => simp [intOf]; omega
  ·obtain rfl : ng = k := Nat.le_antisymm (Nat.le_of_not_lt hlt) hk
   go_wp2
   go_ret
   exact ⟨rfl, hB2⟩
theorem RetOS.letters {w w' : World} {o : Option (List Sp)} {P : List Sp} {t : Bool} {e : Ending} (hv : o.getD [] = P) (ht : o.isSome = t) (h : RetOS w o e w') :
 ∃ A c, e = .returned (.tuple #[.slice A P.length c, .bool t]) ∧ RS w' A P.length P ∧ Below w.heap.size w w' := by
 subst hv; subst ht
 obtain ⟨A, c, h1, h2, h3⟩ := h
 exact ⟨A, c, h1, h2.reads, h3⟩
theorem RetO.lettersS {w w' : World} {o : Option (List Int)} {vs : List Int} {t : Bool} {e : Ending} (hv : o.getD [] = vs) (ht : o.isSome = t) (h : RetO w o e w') :
 ∃ A c, e = .returned (.tuple #[.slice A vs.length c, .bool t]) ∧ RI w' A vs.length vs ∧ Below w.heap.size w w' := by
 subst hv; subst ht
 obtain ⟨A, c, h1, h2, h3⟩ := h
 exact ⟨A, c, h1, h2.reads, h3⟩
theorem RetO.openS {w w' : World} {U : List Int} {n : Nat} {e : Ending} (h : RetO w (some U) e w') (hn : U.length = n) : ∃ A c, e = .returned (.tuple #[.slice A n c, .bool true]) ∧ Own w' w.heap.size w'.heap.size (.slice A n c) n U ∧ Below w.heap.size w w' := by subst hn; exact h
theorem Zbm {α : Type} {o : Option α} {d v : α} (hv : o.getD d = v) (ht : o.isSome = true) : o = some v := by
 cases o with
 | none => simp at ht
 | some x => rw [Option.getD_some] at hv; rw [hv]
theorem mgnF_len (x : Int) : ((mgnF x).getD []).length ≤ 200 := by
 cases h : mgnF x with
 | none => simp
 | some l => obtain ⟨_, _, _, _, _, _, h60, _⟩ := mgn_law h; simp only [Option.getD_some]; omega
theorem insF_lenS (x : Int) : ((insF x).getD []).length ≤ 200 := by have := insF_len x; omega
theorem prF_len (n : Int) (ls : List Sp) : ((prF n ls).getD []).length ≤ ls.length := by
 unfold prF
 split
 ·simp only [Option.getD_some]; exact kept_len _ _ _
 ·simp
theorem ndF_len (n : Int) (ls : List Sp) : ((ndF n ls).getD []).length ≤ ls.length := by
 unfold ndF
 split
 ·simp only [Option.getD_some]; exact idles_len _ _
 ·simp
theorem mgn_sorts {x : Int} {M : List Sp} (h : mgnF x = some M) : netB x M = true ∧ (netB x M && allK x.toNat M (2 ^ x.toNat)) = true := by
 obtain ⟨N, rfl, _, _, _, hb, _, hk⟩ := mgn_law h
 rw [Int.toNat_natCast, hb, allK_all hk]
 exact ⟨rfl, rfl⟩
theorem ins_sorts {x : Int} {M : List Sp} (h : insF x = some M) : netB x M = true ∧ (netB x M && allK x.toNat M (2 ^ x.toNat)) = true := by
 obtain ⟨N, rfl, _, _, _, hb, _, hk⟩ := ins_law h
 rw [Int.toNat_natCast, hb, allK_all hk]
 exact ⟨rfl, rfl⟩
theorem pr_law {n : Int} {ls P Q : List Sp} {q : List Int} (h : prF n ls = some P) (hq : (ndF n ls).getD [] = q) : ∃ N : Nat, n = N ∧ 1 ≤ N ∧ N ≤ 12 ∧ ls.length ≤ 60 ∧ P.length ≤ 60 ∧ P.length + q.length = ls.length ∧ netB n ls = true ∧ netB n P = true ∧
 ∀ xs : List Int, xs.length = N → srt P xs P.length = srt ls xs ls.length := by
 unfold prF at h
 split at h
 ·rename_i hn
  injection h with h
  obtain ⟨N, rfl, h1, h2, h3, hbad⟩ := Zbf hn
  rw [Int.toNat_natCast] at h
  unfold ndF at hq
  rw [if_pos hn, Option.getD_some, Int.toNat_natCast] at hq
  subst h; subst hq
  have hk := kept_len ls (usedB N ls) ls.length
  refine ⟨N, rfl, h1, h2, h3, by omega, kept_idles _ _ _, hn, ?_, fun xs hx => prune_same hbad hx⟩
  have hkb := (kept_bad (usedB N ls) hbad ls.length lR).1
  unfold netB
  rw [inB_iff.2 (show (1 : Int) ≤ (N : Int) ∧ (N : Int) ≤ 12 by omega), decide_eq_true (show (kept ls (usedB N ls) ls.length).length ≤ 60 by omega), hkb]
  rfl
 ·cases h
def iL (vs : List Nat) : List Int := vs.map Int.ofNat
theorem iL_len (vs : List Nat) : (iL vs).length = vs.length := by simp [iL]
theorem iL_snoc (vs : List Nat) (v : Nat) : iL (vs ++ [v]) = iL vs ++ [(v : Int)] := by simp [iL]
theorem iL_all {vs : List Nat} {B : Nat} (hB : B ≤ 4096) (h : ∀ v ∈ vs, v < B) : (iL vs).all (inB (-1000000) 1000000) = true := by
 rw [List.all_eq_true]
 intro z hz
 unfold iL at hz
 obtain ⟨v, hv, rfl⟩ := List.mem_map.1 hz
 have := h v hv
 exact inB_iff.2 ⟨by simp only [Int.ofNat_eq_natCast]; omega, by simp only [Int.ofNat_eq_natCast]; omega⟩
theorem net_fin {q : Int} {ls : List Sp} {wd : Int} {cx cy : Int} {cg : List G3} {co : List Int} (h : netF q ls wd = some ⟨cx, cy, cg, co⟩) : ∃ N W T : Nat, q = N ∧ wd = W ∧ cx = T ∧ cy = 0 ∧ T = N * W ∧ 1 ≤ N ∧ N ≤ 12 ∧ 1 ≤ W ∧ W ≤ 4 ∧ T ≤ 20 ∧ netB q ls = true ∧ circB cx cy cg co = true ∧ co.length = T ∧ cg.length ≤ 300 ∧
 ∀ vs : List Nat, vs.length = N → (∀ v ∈ vs, v < 2 ^ W) → (∀ j, j < N → numN (((pick (vals cg (inpK vs W ++ []) cg.length) co).drop (j * W)).take W) = gi (srt ls (iL vs) ls.length) j) ∧ (pick (vals cg (inpK vs W ++ []) cg.length) co).length = T ∧ (srt ls (iL vs) ls.length).length = N ∧ allB 0 1 (pick (vals cg (inpK vs W ++ []) cg.length) co) = true := by
 obtain ⟨N, W, rfl, rfl, h1, h2, h3, h4, h5, hn, hx, hy, hc, ho, hl⟩ := net_law h
 dsimp only at hx hy hc ho hl
 obtain ⟨b0, b1, hg3, ho3, hgb, hao⟩ := circB_bd hc
 refine ⟨N, W, N * W, rfl, rfl, hx, hy, rfl, h1, h2, h3, h4, h5, hn, hc, ho, hg3, fun vs hv hb => ?_⟩
 obtain ⟨hi1, hi2⟩ := inpK_law hb
 rw [hv] at hi1 hi2
 have hil : (inpK vs W).length = N * W := by rw [inpK_len, hv]
 rw [List.append_nil]
 refine ⟨hl (inpK vs W) (iL vs) hil hi1 (by rw [iL_len, hv]) hi2, by rw [pick_len, ho], by rw [srt_len, iL_len, hv], ?_⟩
 have hvb := vals_bd (gs := cg) (inp := inpK vs W) (n := cx + cy) (by rw [hil, hx, hy]; omega) (inpK_bd vs W) cg.length cg.length lR hgb
 have hvl := Zbz cg (inpK vs W) cg.length
 refine pick_bd hvb ?_
 rw [hvl, hil]
 have e : cx + cy + (cg.length : Int) - 1 = ((N * W + cg.length : Nat) : Int) - 1 := by rw [hx, hy]; omega
 rw [e] at hao
 exact hao
theorem Own.capLeS {w : World} {lo hi n c : Nat} {A : Option Addr} {xs : List Int} (h : Own w lo hi (.slice A n c) n xs) : n ≤ c := by
 rcases h.1.2 with ⟨h1, h2⟩ | ⟨g, cap, cur, hv, _, _, hc, _⟩
 ·omega
 ·simp only [Value.slice.injEq] at hv; omega
theorem slice_lh (q o n d L W : Nat) (h : L + W ≤ n) (hm : n ≤ d) (h1 : 1 ≤ W) : ∀ K : World, (Instr.slice 34 (.slice (some ⟨q, o, none⟩) n d) (some (.int .i64 (L : Int))) (some (.int .i64 ((L + W : Nat) : Int))) none).run Try.prog K = .ok (.slice (some ⟨q, o + L, none⟩) W (d - L)) K := by
 have hu : Try.prog.elem 34 = 3 := by kernel_rfl
 intro K
 rw [run_slice_lh K 34 _ _ _ (by rw [hu]; exact Try.underlying34) .i64 .i64 (L : Int) ((L + W : Nat) : Int) (by omega) (by omega) (by omega)]
 go_simp
 exact ⟨fun _ => by omega, by omega⟩
end Go.Proofs.Ytjeojnfpeppclaa
