/- ParseCircuit of the reference: it answers what the plain reader answers. Texts below 2^21 bytes. -/
import Derived.Test.YtnhmfedegfcflaaGreatDoorQR22
namespace Go.Proofs.YtnhmfedegfcflaaGreatDoor
open Go.RowKit
set_option linter.unusedVariables false
set_option linter.unusedSimpArgs false
attribute [local go_sem] sepAt sepUpon pureAt pureUpon
def kU (wd : List UInt8) : Nat → Int
 | 0 => -1
 | i + 1 => if gwL i = wd then (i : Int) else kU wd i
theorem kU_four (wd : List UInt8) : kU wd 4 = kindW wd := by
 simp only [kU, kindW]
 by_cases h0 : wd = gwL 0
 ·subst h0; decide
 ·by_cases h1 : wd = gwL 1
  ·subst h1; decide
  ·by_cases h2 : wd = gwL 2
   ·subst h2; decide
   ·by_cases h3 : wd = gwL 3
    ·subst h3; decide
    ·simp [h0, h1, h2, h3, eq_comm]
theorem kindW_range (wd : List UInt8) : -1 ≤ kindW wd ∧ kindW wd ≤ 3 := by unfold kindW; (repeat' split) <;> omega
def PS (b : Nat) (C : Ci) (A : Option Addr) (ca : Nat) (O : Option Addr) (co : Nat) : Nat → Prop := fun i => i = b ∨ (Value.slice A C.gs.length ca).ownBlock = some i ∨ (Value.slice O C.os.length co).ownBlock = some i
def RetL (lo b : Nat) (C : Ci) (A : Option Addr) (ca : Nat) (O : Option Addr) (co : Nat) (D : Ci) (w : World) (e : Ending) (w' : World) : Prop :=
 ∃ A' ca' O' co', e = .returned (.tuple #[]) ∧ PX w' lo b D A' ca' O' co' ∧ Alt (PS b C A ca O co) w w' ∧ (∀ g, (Value.slice A' D.gs.length ca').ownBlock = some g → (Value.slice A C.gs.length ca).ownBlock = some g ∨ w.heap.size ≤ g) ∧ (∀ g, (Value.slice O' D.os.length co').ownBlock = some g → (Value.slice O C.os.length co).ownBlock = some g ∨ w.heap.size ≤ g)
set_option maxRecDepth 100000 in
set_option maxHeartbeats 8000000 in
theorem ciLine_any (lo b : Nat) (C : Ci) (A : Option Addr) (ca : Nat) (O : Option Addr) (co : Nat) (q n c : Nat) (ws : List (List UInt8)) (w : World) (hp : PX w lo b C A ca O co) (hlo : lo ≤ w.heap.size) (hX : RX w (some ⟨q, 0, none⟩) n ws) (hn : 1 ≤ n) (hnc : n ≤ c) (hn2 : n ≤ 2097153) (hz : ∀ x ∈ ws, x.length ≤ 2097152)
 (hqS : ¬ PS b C A ca O co q) (hgl : C.gs.length ≤ 4000000) (hol : C.os.length + n ≤ 4194304) :
 Calls Tryz.prog 91 #[.pointer (some ⟨b, 0, none⟩), .slice (some ⟨q, 0, none⟩) n c] w (RetL lo b C A ca O co (stepS C ws) w) := by
 have hlX := hX.len
 have hqb : q ≠ b := fun h => hqS (.inl h)
 have hqA : ¬ (Value.slice A C.gs.length ca).ownBlock = some q := fun h => hqS (.inr (.inl h))
 have hqO : ¬ (Value.slice O C.os.length co).ownBlock = some q := fun h => hqS (.inr (.inr h))
 have hA1 : Below w.heap.size w (w.alloc (.cells #[.string ⟨#[120, 111, 114]⟩, .string ⟨#[97, 110, 100]⟩, .string ⟨#[110, 111, 116]⟩, .string ⟨#[111, 110, 101]⟩] 9)) := bA
 have hX1 := hX.below hA1 lR
 have hp1 := hp.below hA1 lR
 have hk1 : Alt (PS b C A ca O co) w (w.alloc (.cells #[.string ⟨#[120, 111, 114]⟩, .string ⟨#[97, 110, 100]⟩, .string ⟨#[110, 111, 116]⟩, .string ⟨#[111, 110, 101]⟩] 9)) := Alt.of_new hA1
 obtain ⟨wd, hwd⟩ := lT (sx ws 0)
 have hws : Hid (ws.headD [] = wd) := zH (by rw [← sx_head (by omega)]; exact hwd.out)
 have hcell : ∀ j, j < n → (w.alloc (.cells #[.string ⟨#[120, 111, 114]⟩, .string ⟨#[97, 110, 100]⟩, .string ⟨#[110, 111, 116]⟩, .string ⟨#[111, 110, 101]⟩] 9)).cell? ⟨q, j, none⟩ = some (.string (bs (sx ws j))) := fun j hj => by
  obtain ⟨b', o', h1, h2, h3⟩ := hX1.at_ hj
  simp only [Option.some.injEq, Addr.mk.injEq, and_true] at h1
  obtain ⟨rfl, rfl⟩ := h1
  rw [Nat.zero_add] at h3; exact h3
 have d0 := hcell 0 hn
 rw [hwd.out] at d0
 have hkr := kindW_range wd
 have hgt : ∀ i, i ≤ 3 → (w.alloc (.cells #[.string ⟨#[120, 111, 114]⟩, .string ⟨#[97, 110, 100]⟩, .string ⟨#[110, 111, 116]⟩, .string ⟨#[111, 110, 101]⟩] 9)).cell? ⟨w.heap.size, i, none⟩ = some (.string (bs (gwL i))) := fun i hi => Zal _ _ _ _ (gw_at hi)
 have hsz1 := hk1.size
 have hlo1 : lo ≤ (w.alloc (.cells #[.string ⟨#[120, 111, 114]⟩, .string ⟨#[97, 110, 100]⟩, .string ⟨#[110, 111, 116]⟩, .string ⟨#[111, 110, 101]⟩] 9)).heap.size := Nat.le_trans hlo hsz1
 go_enter Tryz.func91, Tryz.ntmps91
 go_wp2
 generalize hw1e : w.alloc (.cells #[.string ⟨#[120, 111, 114]⟩, .string ⟨#[97, 110, 100]⟩, .string ⟨#[110, 111, 116]⟩, .string ⟨#[111, 110, 101]⟩] 9) = w1 at *
 clear hw1e
 go_loopw [4, 11] (fun k i wr => ∃ j : Nat, j ≤ 4 ∧ i = .int .i64 j ∧ k = .int .i64 (kU wd j) ∧ wr = w1) (fun _ i _ => 4 - (intOf i).toNat)
 case atStart => exact ⟨0, by omega, rfl, rfl, rfl⟩
 case round =>
  obtain ⟨j, hj, rfl, rfl, rfl⟩ := hrel
  by_cases hlt : j < 4
  ·have hlt4 : (j : Int) < 4 := by omega
   have hgj := hgt j (by omega)
   clear hgt
   by_cases he : gwL j = wd
   ·have t1 : ((bs (gwL j)).toList == (bs wd).toList) = true := by rw [Zbu, Zbu, he]; simp
    have hku : Hid (kU wd (j + 1) = (j : Int)) := zH (by rw [kU, if_pos he])
    go_wp2
    go_roundw
    case rel => exact ⟨j + 1, by omega, by go_num, by rw [hku.out], trivial⟩
    case measure => simp [intOf]; omega
   ·have t1 : ((bs (gwL j)).toList == (bs wd).toList) = false := by rw [Zbu, Zbu]; simp [he]
    have hku : Hid (kU wd (j + 1) = kU wd j) := zH (by rw [kU, if_neg he])
    go_wp2
    go_roundw
    case rel => exact ⟨j + 1, by omega, by go_num, by rw [hku.out], trivial⟩
    case measure => simp [intOf]; omega
  ·obtain rfl : j = 4 := by omega
   rw [kU_four]
   clear hgt
   have hq1 := hp1.bx; obtain ⟨m0, m1, m2, m3⟩ := hq1
   have f0 := hp1.fz 0; have f1 := hp1.fz 1; have f2 := hp1.fz 2; have f3 := hp1.fz 3
   have hnbA : ¬ (Value.slice A C.gs.length ca).ownBlock = some b := hp1.ox.2.1
   have hnbO : ¬ (Value.slice O C.os.length co).ownBlock = some b := hp1.ox.2.2
   obtain ⟨K, hKK⟩ := lT (kindW wd)
   have hKr : -1 ≤ K ∧ K ≤ 3 := by rw [← hKK.out]; exact hkr
   rw [hKK.out]
   clear hkr
   have hst' := trivial
   by_cases hc : wd = cirW
   ·have t1 : ((bs wd).toList == [99, 105, 114, 99, 117, 105, 116]) = true := bs_is hc
    by_cases hn3 : n = 3
    ·subst hn3
     have hst : Hid (stepS C ws = { C with i0 := readS (sx ws 1), i1 := readS (sx ws 2) }) := zH (by rw [stepS, hws.out, if_pos ⟨hc, hlX⟩]; rfl)
     have d1 := hcell 1 (by omega)
     have d2 := hcell 2 (by omega)
     have d2' : ∀ u, (wr.setCell ⟨b, 0, none⟩ u).cell? ⟨q, 2, none⟩ = some (.string (bs (sx ws 2))) := fun u => (World.cell?_setCell_other _ _ _ _ (by simp [hqb])).trans d2
     have hz1 := hz _ (sx_mem (l := ws) (j := 1) (by omega))
     have hz2 := hz _ (sx_mem (l := ws) (j := 2) (by omega))
     have p1 := (hp1.set0 (readS (sx ws 1))).set1 (readS (sx ws 2))
     have k1 := (hk1.set_ ⟨b, 0, none⟩ (.int .i64 (readS (sx ws 1))) (fun _ => .inl rfl)).set_ ⟨b, 1, none⟩ (.int .i64 (readS (sx ws 2))) (fun _ => .inl rfl)
     clear hc hcell hX1 hwd hws hz
     go_wp2_with fail
     refine (Zcb (sx ws 1) _ hz1).mono ?_
     rintro e w4 ⟨rfl, rfl⟩
     go_wp2_with fail
     refine (Zcb (sx ws 2) _ hz2).mono ?_
     rintro e w5 ⟨rfl, rfl⟩
     go_wp2
     go_end0
     exact ⟨A, ca, O, co, rfl, by rw [hst.out]; exact p1, k1, by rw [hst.out]; exact fun g hg => .inl hg, by rw [hst.out]; exact fun g hg => .inl hg⟩
    ·have tn : ((n : Int) == 3) = false := by simp; omega
     have hK1 : K = -1 := by rw [← hKK.out, hc]; decide
     subst hK1
     have t2 : ((bs wd).toList == [111, 117, 116, 115]) = false := bs_not (by rw [hc]; decide)
     have hin : inB 0 1 (-1) = false := by decide
     have hst : Hid (stepS C ws = C) := zH (by rw [stepS, hws.out, if_neg (fun h => hn3 (hlX ▸ h.2)), if_neg (by rw [hc]; decide), hKK.out, if_neg (fun h => by omega), if_neg (fun h => by omega), if_neg (by omega)])
     clear hc hcell hX1 hwd hws hz hKK
     go_wp2_with fail
     refine (Zaq (-1) 0 1 _ hin _).mono ?_
     rintro e w4 ⟨rfl, rfl⟩
     go_wp2
     go_end0
     exact ⟨A, ca, O, co, rfl, by rw [hst.out]; exact hp1, hk1, by rw [hst.out]; exact fun g hg => .inl hg, by rw [hst.out]; exact fun g hg => .inl hg⟩
   ·have t1 : ((bs wd).toList == [99, 105, 114, 99, 117, 105, 116]) = false := bs_not hc
    by_cases ho : wd = outW
    ·have t2 : ((bs wd).toList == [111, 117, 116, 115]) = true := bs_is ho
     have hin := trivial
     obtain ⟨m, rfl⟩ : ∃ m, n = m + 1 := ⟨n - 1, by omega⟩
     obtain ⟨TA, hTA, hTq, hsl⟩ := slice_tail q m c hnc
     have hXw := hTA w ws hX
     have hst : Hid (stepS C ws = { C with os := C.os ++ ws.tail.map readS }) := zH (by rw [stepS, hws.out, if_neg (fun h => hc h.1), if_pos ho])
     have hlt0 : ws.tail.length = m := by simp [hlX]
     have hzt : ∀ x ∈ ws.tail, x.length ≤ 2097152 := fun x hx => hz x (List.mem_of_mem_tail hx)
     clear hc ho hcell hX1 hwd hws hz hin hKK hst'
     go_wp2
     go_loopw [55] (fun i w5 => ∃ (j : Nat) (O' : Option Addr) (co' : Nat), j ≤ m ∧ i = .int .i64 j ∧ PX w5 lo b { C with os := C.os ++ (ws.tail.take j).map readS } A ca O' co' ∧ Alt (PS b C A ca O co) w w5 ∧ (∀ g, (Value.slice O' (C.os ++ (ws.tail.take j).map readS).length co').ownBlock = some g → (Value.slice O C.os.length co).ownBlock = some g ∨ w.heap.size ≤ g)) (fun i _ => m - (intOf i).toNat)
     case atStart => exact ⟨0, O, co, Nat.zero_le _, rfl, by simpa using hp1, hk1, by simpa using fun g hg => Or.inl hg⟩
     case round =>
      clear hp1 hk1 m0 m1 m2 m3 f0 f1 f2 f3 hsz1 hlo1 d0 hA1
      obtain ⟨j, O', co', hj, rfl, hp5, hk5, hgO⟩ := hrel
      have hsz5 := hk5.size
      by_cases hlt : j < m
      ·have hX5 := hXw.alt hk5 (fun b' o' h => by rw [hTq b' o' h]; exact hqS)
       obtain ⟨tb, tof, rfl, htb, td⟩ := hX5.at_ hlt
       have hzj := hzt _ (sx_mem (l := ws.tail) (j := j) (by omega))
       have hsn : Hid ((ws.tail.take (j + 1)).map readS = (ws.tail.take j).map readS ++ [readS (sx ws.tail j)]) := zH (by
        rw [List.take_succ_eq_append_getElem (show j < ws.tail.length by omega), List.map_append]
        show _ = _ ++ [readS (sx ws.tail j)]
        rw [show sx ws.tail j = ws.tail[j] by simp [sx, List.getD, List.getElem?_eq_getElem (show j < ws.tail.length by omega)]]
        rfl)
       obtain ⟨X, hXe⟩ := lT (C.os ++ (ws.tail.take j).map readS)
       have hXl : X.length ≤ 4194304 := by rw [← hXe.out]; simp; omega
       have hsn2 : Hid (C.os ++ (ws.tail.take (j + 1)).map readS = X ++ [readS (sx ws.tail j)]) := zH (by rw [hsn.out, ← List.append_assoc, hXe.out])
       rw [hXe.out] at hp5 hgO
       obtain ⟨tw, htw⟩ := lT (sx ws.tail j)
       rw [htw.out] at hsn2 td hzj
       have hlt7 : ∀ g, (Value.slice O' X.length co').ownBlock = some g → g < wr.heap.size := fun g hg => (hp5.ox.1.2.1.lt g hg).2.2
       have hnb5 : ¬ (Value.slice O' X.length co').ownBlock = some b := hp5.ox.2.2
       have hq := hp5.bx; obtain ⟨m0, m1, m2, m3⟩ := hq
       have hown5 : Own wr lo wr.heap.size (.slice O' X.length co') X.length X := hp5.ox.1.2.1
       dsimp only at m0 m1 m2 m3
       have hlo5 : lo ≤ wr.heap.size := Nat.le_trans hlo hsz5
       clear hsn hTA hTq hsl hXw hX5
       go_wp2_with fail
       go_wp2_with fail
       refine Zau (9) ((fun i => (Value.slice O' X.length co').ownBlock = some i)) [(⟨b, 3, none⟩, .slice O' X.length co'), (⟨b, 3, none⟩, .slice O' X.length co')] [(6, [], []), (7, [], []), (8, [100, 7], [100])] [100] [8] [(100, Res.row lo X.length X), (6, Res.plain (.int .i64 (readS tw))), (7, Res.row lo 1 [readS tw]), (8, Res.row lo (X.length + 1) (X ++ [readS tw]))] ((upd (fun _ => undef) 100 (.slice O' X.length co'))) (by kernel_rfl) (by kernel_rfl) (by kernel_rfl) (by simp only [cD, cC, and_true]; repeat (any_goals (apply And.intro)); all_goals (first | assumption | go_simp)) (fun q9 hq9 => by simp only [List.mem_cons, List.not_mem_nil, or_false] at hq9; rcases hq9 with rfl | rfl <;> exact hnb5) (⟨⟨hown5, fun i hi => ⟨.inr hi, hlt7 i hi⟩⟩, trivial⟩) (Zca) ?_
       simp only [List.take_succ_cons, List.take_zero, List.drop_succ_cons, List.drop_zero, List.take_nil, List.drop_nil, List.take, List.drop]
       repeat (first
        | ((first
         | ((with_reducible refine Zad ?_ ?_ ?_)
            ·exact rfl
            ·exact rfl)
         | ((with_reducible refine Zag ?_ ?_ ?_)
            ·exact rfl
            ·exact Zaa rfl rfl rfl rfl))
           intro K hK
           apply Exists.intro
           refine ⟨fun w3 hw3 => ?_, ?_⟩
           ·have hcs := hw3
            simp only [cD, cC, and_true] at hcs
            clear hw3
            go_simp
            first | done | exact ⟨rfl, rfl⟩ | rfl
           refine hK _ ?_
           clear hK K
           try simp only [pA, pB, sA, sB, sC])
        | ((with_reducible refine Zaf ?_ ?_ ?_)
           ·exact rfl
           ·exact Zab rfl rfl rfl rfl
           simp only [pA, pB, sA, sB, sC]))
       focus
        (with_reducible refine Zbc (.int .i64 (readS tw)) ?_ ?_ ?_ ?_ (hw := ?_))
        ·exact rfl
        ·exact rfl
        ·intro w3 hw3 hc3 hp3
         have hcs := hc3
         simp only [cD, cC, and_true] at hcs
         (go_simp; refine (Zcb tw _ hzj).mono ?_; rintro e w4 ⟨rfl, rfl⟩; exact retPost.mk_ (postPlain.mk_ (Below.refl _ _)))
        rotate_left
        ·first | exact Zac rfl | exact Zaa rfl rfl rfl rfl
        try simp only [pA, pB, sA, sB, sC]
       repeat (first
        | ((first
         | ((with_reducible refine Zad ?_ ?_ ?_)
            ·exact rfl
            ·exact rfl)
         | ((with_reducible refine Zag ?_ ?_ ?_)
            ·exact rfl
            ·exact Zaa rfl rfl rfl rfl))
           intro K hK
           apply Exists.intro
           refine ⟨fun w3 hw3 => ?_, ?_⟩
           ·have hcs := hw3
            simp only [cD, cC, and_true] at hcs
            clear hw3
            go_simp
            first | done | exact ⟨rfl, rfl⟩ | rfl
           refine hK _ ?_
           clear hK K
           try simp only [pA, pB, sA, sB, sC])
        | ((with_reducible refine Zaf ?_ ?_ ?_)
           ·exact rfl
           ·exact Zab rfl rfl rfl rfl
           simp only [pA, pB, sA, sB, sC]))
       focus
        (with_reducible refine Zbt lo 1 [readS tw] ?_ ?_ ?_ ?_ ?_ (hw := ?_))
        ·exact rfl
        ·exact rfl
        ·omega
        ·intro w3 hw3 hc3 hp3
         have hcs := hc3
         simp only [cD, cC, and_true] at hcs
         (go_simp; exact postRow.new1 _ _)
        rotate_left
        ·first | exact Zac rfl | exact Zaa rfl rfl rfl rfl
        intro A3 c3'
        try simp only [pA, pB, sA, sB, sC]
       repeat (first
        | ((first
         | ((with_reducible refine Zad ?_ ?_ ?_)
            ·exact rfl
            ·exact rfl)
         | ((with_reducible refine Zag ?_ ?_ ?_)
            ·exact rfl
            ·exact Zaa rfl rfl rfl rfl))
           intro K hK
           apply Exists.intro
           refine ⟨fun w3 hw3 => ?_, ?_⟩
           ·have hcs := hw3
            simp only [cD, cC, and_true] at hcs
            clear hw3
            go_simp
            first | done | exact ⟨rfl, rfl⟩ | rfl
           refine hK _ ?_
           clear hK K
           try simp only [pA, pB, sA, sB, sC])
        | ((with_reducible refine Zaf ?_ ?_ ?_)
           ·exact rfl
           ·exact Zab rfl rfl rfl rfl
           simp only [pA, pB, sA, sB, sC]))
       refine mem_appI 100 lo X.length 1 X [readS tw] O' co' A3 c3' (.tmp 63) (.tmp 66) (by rfl) (by rfl) (by omega) (by rfl) (by rfl) (by decide) (by rfl) (by rfl) (by rfl) (by rfl) (by omega) (fun w3 hw3 hc3 hp3 => ?_) (fun G' cG' => ?_)
       ·have h3 : Own w3 lo w3.heap.size (.slice A3 1 c3') 1 [readS tw] := hp3.1.2.1.1
        exact h3.reads
       try simp only [pA, pB, sA, sB, sC]
       repeat (first
        | ((first
         | ((with_reducible refine Zad ?_ ?_ ?_)
            ·exact rfl
            ·exact rfl)
         | ((with_reducible refine Zag ?_ ?_ ?_)
            ·exact rfl
            ·exact Zaa rfl rfl rfl rfl))
           intro K hK
           apply Exists.intro
           refine ⟨fun w3 hw3 => ?_, ?_⟩
           ·have hcs := hw3
            simp only [cD, cC, and_true] at hcs
            clear hw3
            go_simp
            first | done | exact ⟨rfl, rfl⟩ | rfl
           refine hK _ ?_
           clear hK K
           try simp only [pA, pB, sA, sB, sC])
        | ((with_reducible refine Zaf ?_ ?_ ?_)
           ·exact rfl
           ·exact Zab rfl rfl rfl rfl
           simp only [pA, pB, sA, sB, sC]))
       refine Zat ?_
       intro wy hwy hcy hfin hap
       have hG4 : Own wy lo wy.heap.size (.slice G' (X.length + 1) cG') (X.length + 1) (X ++ [readS tw]) := hfin.1.1
       have hokG : ∀ b, (Value.slice G' (X.length + 1) cG').ownBlock = some b → okB wr (fun i => (Value.slice O' X.length co').ownBlock = some i) b := fun b hb => (hfin.1.2 b hb).1
       have p1 := hp5.out hwy hG4 hokG
       have k0 : Alt (PS b C A ca O co) w wy := hk5.trans_ hwy (fun i hi hT => hT.elim (fun h => by omega) (fun h => (hgO i h).elim (fun h => .inr (.inr h)) (fun h => by omega)))
       have k1 := k0.set_ ⟨b, 3, none⟩ (.slice G' (X.length + 1) cG') (fun _ => .inl rfl)
       have hgA1 : ∀ g, (Value.slice G' (X ++ [readS tw]).length cG').ownBlock = some g → (Value.slice O C.os.length co).ownBlock = some g ∨ w.heap.size ≤ g := fun g hg => by
        have h8 := hokG g (by simpa [Value.ownBlock] using hg)
        rcases h8 with h8 | h8
        ·right; omega
        ·exact hgO g h8
       have hbS : ¬ okB wr (fun i => (Value.slice O' X.length co').ownBlock = some i) b := fun hc => hc.elim (fun h => by have := hp5.lt; omega) hnb5
       have hq := hp5.bx.alt hwy hbS; obtain ⟨m0, m1, m2, m3⟩ := hq
       have f3 := (hp5.fz.alt hwy hp5.lt hbS) 3
       dsimp only at m0 m1 m2 m3
       clear hfin hap hcy hwy hG4 hokG
       go_wp2
       go_roundw
       case rel => exact ⟨j + 1, G', cG', by omega, by go_num, by rw [hsn2.out]; exact p1, k1, by rw [hsn2.out]; exact hgA1⟩
       case measure => simp [intOf]; omega
      ·obtain rfl : j = m := by omega
       rw [List.take_of_length_le (by omega)] at hp5 hgO
       go_wp2
       go_end0
       exact ⟨A, ca, O', co', rfl, by rw [hst.out]; exact hp5, hk5, by rw [hst.out]; exact fun g hg => .inl hg, by rw [hst.out]; exact hgO⟩
    ·have t2 : ((bs wd).toList == [111, 117, 116, 115]) = false := bs_not ho
     cases hin : inB 0 1 K with
     | true =>
      have hKb := inB_iff.1 hin
      have k2 : (K == 2) = false := by simp; omega
      have k3 : (K == 3) = false := by simp; omega
      by_cases hn3 : n = 3
      ·skip
       obtain rfl : n = 3 := hn3
       have hst : Hid (stepS C ws = { C with gs := C.gs ++ [⟨K, readS (sx ws 1), readS (sx ws 2)⟩] }) := zH (by rw [stepS, hws.out, if_neg (fun h => hc h.1), if_neg ho, hKK.out, if_pos ⟨inB_iff.1 hin, hlX⟩]; rfl)
       have d1 := hcell 1 (by omega)
       have d2 := hcell 2 (by omega)
       have hz1 := hz _ (sx_mem (l := ws) (j := 1) (by omega))
       have hz2 := hz _ (sx_mem (l := ws) (j := 2) (by omega))
       clear hc ho hcell hX1 hwd hws hz hst' hKK
       go_wp2_with fail
       refine (Zaq K 0 1 _ hin _).mono ?_
       rintro e w4 ⟨rfl, rfl⟩
       have hlt7 : ∀ g, (Value.slice A C.gs.length ca).ownBlock = some g → g < wr.heap.size := fun g hg => (hp1.ox.1.1.lt g hg).2.2
       go_wp2_with fail
       go_wp2_with fail
       refine Zau (17) ((fun i => (Value.slice A C.gs.length ca).ownBlock = some i)) [(⟨b, 2, none⟩, .slice A C.gs.length ca), (⟨q, 1, none⟩, .string (bs (sx ws 1))), (⟨q, 2, none⟩, .string (bs (sx ws 2)))] [(9, [], []), (13, [], []), (15, [], []), (16, [100, 15], [100])] [100] [16] [(100, Res.rowG lo C.gs.length C.gs), (9, Res.plain (.int .i64 (readS (sx ws 1)))), (13, Res.plain (.int .i64 (readS (sx ws 2)))), (15, Res.rowG lo 1 [⟨K, readS (sx ws 1), readS (sx ws 2)⟩]), (16, Res.rowG lo (C.gs.length + 1) (C.gs ++ [⟨K, readS (sx ws 1), readS (sx ws 2)⟩]))] ((upd (fun _ => undef) 100 (.slice A C.gs.length ca))) (by kernel_rfl) (by kernel_rfl) (by kernel_rfl) (by simp only [cD, cC, and_true]; repeat (any_goals (apply And.intro)); all_goals (first | assumption | go_simp)) (fun q9 hq9 => by simp only [List.mem_cons, List.not_mem_nil, or_false] at hq9; rcases hq9 with rfl | rfl | rfl <;> first | exact hnbA | exact hqA) (⟨⟨hp1.ox.1.1, fun i hi => ⟨.inr hi, hlt7 i hi⟩⟩, trivial⟩) (Zca) ?_
       simp only [List.take_succ_cons, List.take_zero, List.drop_succ_cons, List.drop_zero, List.take_nil, List.drop_nil, List.take, List.drop]
       repeat (first
        | ((first
         | ((with_reducible refine Zad ?_ ?_ ?_)
            ·exact rfl
            ·exact rfl)
         | ((with_reducible refine Zag ?_ ?_ ?_)
            ·exact rfl
            ·exact Zaa rfl rfl rfl rfl))
           intro K hK
           apply Exists.intro
           refine ⟨fun w3 hw3 => ?_, ?_⟩
           ·have hcs := hw3
            simp only [cD, cC, and_true] at hcs
            clear hw3
            go_simp
            first | done | exact ⟨rfl, rfl⟩ | rfl
           refine hK _ ?_
           clear hK K
           try simp only [pA, pB, sA, sB, sC])
        | ((with_reducible refine Zaf ?_ ?_ ?_)
           ·exact rfl
           ·exact Zab rfl rfl rfl rfl
           simp only [pA, pB, sA, sB, sC]))
       focus
        (with_reducible refine Zbc (.int .i64 (readS (sx ws 1))) ?_ ?_ ?_ ?_ (hw := ?_))
        ·exact rfl
        ·exact rfl
        ·intro w3 hw3 hc3 hp3
         have hcs := hc3
         simp only [cD, cC, and_true] at hcs
         (go_simp; refine (Zcb (sx ws 1) _ hz1).mono ?_; rintro e w4 ⟨rfl, rfl⟩; exact retPost.mk_ (postPlain.mk_ (Below.refl _ _)))
        rotate_left
        ·first | exact Zac rfl | exact Zaa rfl rfl rfl rfl
        try simp only [pA, pB, sA, sB, sC]
       repeat (first
        | ((first
         | ((with_reducible refine Zad ?_ ?_ ?_)
            ·exact rfl
            ·exact rfl)
         | ((with_reducible refine Zag ?_ ?_ ?_)
            ·exact rfl
            ·exact Zaa rfl rfl rfl rfl))
           intro K hK
           apply Exists.intro
           refine ⟨fun w3 hw3 => ?_, ?_⟩
           ·have hcs := hw3
            simp only [cD, cC, and_true] at hcs
            clear hw3
            go_simp
            first | done | exact ⟨rfl, rfl⟩ | rfl
           refine hK _ ?_
           clear hK K
           try simp only [pA, pB, sA, sB, sC])
        | ((with_reducible refine Zaf ?_ ?_ ?_)
           ·exact rfl
           ·exact Zab rfl rfl rfl rfl
           simp only [pA, pB, sA, sB, sC]))
       focus
        (with_reducible refine Zbc (.int .i64 (readS (sx ws 2))) ?_ ?_ ?_ ?_ (hw := ?_))
        ·exact rfl
        ·exact rfl
        ·intro w3 hw3 hc3 hp3
         have hcs := hc3
         simp only [cD, cC, and_true] at hcs
         (go_simp; refine (Zcb (sx ws 2) _ hz2).mono ?_; rintro e w4 ⟨rfl, rfl⟩; exact retPost.mk_ (postPlain.mk_ (Below.refl _ _)))
        rotate_left
        ·first | exact Zac rfl | exact Zaa rfl rfl rfl rfl
        try simp only [pA, pB, sA, sB, sC]
       repeat (first
        | ((first
         | ((with_reducible refine Zad ?_ ?_ ?_)
            ·exact rfl
            ·exact rfl)
         | ((with_reducible refine Zag ?_ ?_ ?_)
            ·exact rfl
            ·exact Zaa rfl rfl rfl rfl))
           intro K hK
           apply Exists.intro
           refine ⟨fun w3 hw3 => ?_, ?_⟩
           ·have hcs := hw3
            simp only [cD, cC, and_true] at hcs
            clear hw3
            go_simp
            first | done | exact ⟨rfl, rfl⟩ | rfl
           refine hK _ ?_
           clear hK K
           try simp only [pA, pB, sA, sB, sC])
        | ((with_reducible refine Zaf ?_ ?_ ?_)
           ·exact rfl
           ·exact Zab rfl rfl rfl rfl
           simp only [pA, pB, sA, sB, sC]))
       focus
        (with_reducible refine mem_rowG lo 1 [⟨K, readS (sx ws 1), readS (sx ws 2)⟩] ?_ ?_ ?_ ?_ ?_ (hw := ?_))
        ·exact rfl
        ·exact rfl
        ·omega
        ·intro w3 hw3 hc3 hp3
         have hcs := hc3
         simp only [cD, cC, and_true] at hcs
         (go_simp; exact postRowG_one _ ⟨K, readS (sx ws 1), readS (sx ws 2)⟩)
        rotate_left
        ·first | exact Zac rfl | exact Zaa rfl rfl rfl rfl
        intro A3 c3'
        try simp only [pA, pB, sA, sB, sC]
       repeat (first
        | ((first
         | ((with_reducible refine Zad ?_ ?_ ?_)
            ·exact rfl
            ·exact rfl)
         | ((with_reducible refine Zag ?_ ?_ ?_)
            ·exact rfl
            ·exact Zaa rfl rfl rfl rfl))
           intro K hK
           apply Exists.intro
           refine ⟨fun w3 hw3 => ?_, ?_⟩
           ·have hcs := hw3
            simp only [cD, cC, and_true] at hcs
            clear hw3
            go_simp
            first | done | exact ⟨rfl, rfl⟩ | rfl
           refine hK _ ?_
           clear hK K
           try simp only [pA, pB, sA, sB, sC])
        | ((with_reducible refine Zaf ?_ ?_ ?_)
           ·exact rfl
           ·exact Zab rfl rfl rfl rfl
           simp only [pA, pB, sA, sB, sC]))
       refine mem_appG 100 lo C.gs.length 1 C.gs [⟨K, readS (sx ws 1), readS (sx ws 2)⟩] A ca A3 c3' (.tmp 83) (.tmp 94) (by rfl) (by rfl) (by omega) (by rfl) (by rfl) (by decide) (by rfl) (by rfl) (by rfl) (by rfl) (by omega) (fun w3 hw3 hc3 hp3 => ?_) (fun G' cG' => ?_)
       ·have h3 : OwnG w3 lo w3.heap.size (.slice A3 1 c3') 1 [⟨K, readS (sx ws 1), readS (sx ws 2)⟩] := hp3.1.2.1.1
        exact h3.reads
       try simp only [pA, pB, sA, sB, sC]
       repeat (first
        | ((first
         | ((with_reducible refine Zad ?_ ?_ ?_)
            ·exact rfl
            ·exact rfl)
         | ((with_reducible refine Zag ?_ ?_ ?_)
            ·exact rfl
            ·exact Zaa rfl rfl rfl rfl))
           intro K hK
           apply Exists.intro
           refine ⟨fun w3 hw3 => ?_, ?_⟩
           ·have hcs := hw3
            simp only [cD, cC, and_true] at hcs
            clear hw3
            go_simp
            first | done | exact ⟨rfl, rfl⟩ | rfl
           refine hK _ ?_
           clear hK K
           try simp only [pA, pB, sA, sB, sC])
        | ((with_reducible refine Zaf ?_ ?_ ?_)
           ·exact rfl
           ·exact Zab rfl rfl rfl rfl
           simp only [pA, pB, sA, sB, sC]))
       refine Zat ?_
       intro wy hwy hcy hfin hap
       have hG4 : OwnG wy lo wy.heap.size (.slice G' (C.gs.length + 1) cG') (C.gs.length + 1) (C.gs ++ [⟨K, readS (sx ws 1), readS (sx ws 2)⟩]) := hfin.1.1
       have hokG : ∀ b, (Value.slice G' (C.gs.length + 1) cG').ownBlock = some b → okB wr (fun i => (Value.slice A C.gs.length ca).ownBlock = some i) b := fun b hb => (hfin.1.2 b hb).1
       have p1 := hp1.gate hwy hG4 hokG
       have k0 : Alt (PS b C A ca O co) w wy := hk1.trans_ hwy (fun i hi hT => hT.elim (fun h => by omega) (fun h => .inr (.inl h)))
       have k1 := k0.set_ ⟨b, 2, none⟩ (.slice G' (C.gs.length + 1) cG') (fun _ => .inl rfl)
       have hgA1 : ∀ g, (Value.slice G' (C.gs ++ [(⟨K, readS (sx ws 1), readS (sx ws 2)⟩ : G3)]).length cG').ownBlock = some g → (Value.slice A C.gs.length ca).ownBlock = some g ∨ w.heap.size ≤ g := fun g hg => by
        have h8 := hokG g (by simpa [Value.ownBlock] using hg)
        rcases h8 with h8 | h8
        ·right; omega
        ·exact .inl h8
       have hbS : ¬ okB wr (fun i => (Value.slice A C.gs.length ca).ownBlock = some i) b := fun hc => hc.elim (fun h => by have := hp1.lt; omega) hnbA
       have hq := hp1.bx.alt hwy hbS; obtain ⟨m0, m1, m2, m3⟩ := hq
       have f2 := (hp1.fz.alt hwy hp1.lt hbS) 2
       go_wp2
       go_end0
       exact ⟨G', cG', O, co, rfl, by rw [hst.out]; exact p1, k1, by rw [hst.out]; exact hgA1, by rw [hst.out]; exact fun g hg => .inl hg⟩
      ·have tn : ((n : Int) == 3) = false := by simp; omega
       have hst : Hid (stepS C ws = C) := zH (by rw [stepS, hws.out, if_neg (fun h => hc h.1), if_neg ho, hKK.out, if_neg (fun h => hn3 (hlX ▸ h.2)), if_neg (fun h => by omega), if_neg (by omega)])
       clear hc ho hcell hX1 hwd hws hz hKK
       go_wp2_with fail
       refine (Zaq K 0 1 _ hin _).mono ?_
       rintro e w4 ⟨rfl, rfl⟩
       go_wp2
       go_end0
       exact ⟨A, ca, O, co, rfl, by rw [hst.out]; exact hp1, hk1, by rw [hst.out]; exact fun g hg => .inl hg, by rw [hst.out]; exact fun g hg => .inl hg⟩
     | false =>
      have hKo : K = -1 ∨ K = 2 ∨ K = 3 := by
       have : ¬ (0 ≤ K ∧ K ≤ 1) := fun h => by rw [inB_iff.2 h] at hin; cases hin
       omega
      rcases hKo with rfl | rfl | rfl
      ·have hst : Hid (stepS C ws = C) := zH (by rw [stepS, hws.out, if_neg (fun h => hc h.1), if_neg ho, hKK.out, if_neg (fun h => by omega), if_neg (fun h => by omega), if_neg (by omega)])
       clear hc ho hcell hX1 hwd hws hz hKK
       go_wp2_with fail
       refine (Zaq (-1) 0 1 _ hin _).mono ?_
       rintro e w4 ⟨rfl, rfl⟩
       go_wp2
       go_end0
       exact ⟨A, ca, O, co, rfl, by rw [hst.out]; exact hp1, hk1, by rw [hst.out]; exact fun g hg => .inl hg, by rw [hst.out]; exact fun g hg => .inl hg⟩
      ·by_cases hn2' : n = 2
       ·skip
        obtain rfl : n = 2 := hn2'
        have hst : Hid (stepS C ws = { C with gs := C.gs ++ [⟨2, readS (sx ws 1), 0⟩] }) := zH (by rw [stepS, hws.out, if_neg (fun h => hc h.1), if_neg ho, hKK.out, if_neg (fun h => by omega), if_pos ⟨rfl, hlX⟩]; rfl)
        have d1 := hcell 1 (by omega)
        have hz1 := hz _ (sx_mem (l := ws) (j := 1) (by omega))
        clear hc ho hcell hX1 hwd hws hz hst' hKK
        go_wp2_with fail
        refine (Zaq 2 0 1 _ hin _).mono ?_
        rintro e w4 ⟨rfl, rfl⟩
        have hlt7 : ∀ g, (Value.slice A C.gs.length ca).ownBlock = some g → g < wr.heap.size := fun g hg => (hp1.ox.1.1.lt g hg).2.2
        go_wp2_with fail
        go_wp2_with fail
        refine Zau (13) ((fun i => (Value.slice A C.gs.length ca).ownBlock = some i)) [(⟨b, 2, none⟩, .slice A C.gs.length ca), (⟨q, 1, none⟩, .string (bs (sx ws 1)))] [(9, [], []), (11, [], []), (12, [100, 11], [100])] [100] [12] [(100, Res.rowG lo C.gs.length C.gs), (9, Res.plain (.int .i64 (readS (sx ws 1)))), (11, Res.rowG lo 1 [⟨2, readS (sx ws 1), 0⟩]), (12, Res.rowG lo (C.gs.length + 1) (C.gs ++ [⟨2, readS (sx ws 1), 0⟩]))] ((upd (fun _ => undef) 100 (.slice A C.gs.length ca))) (by kernel_rfl) (by kernel_rfl) (by kernel_rfl) (by simp only [cD, cC, and_true]; repeat (any_goals (apply And.intro)); all_goals (first | assumption | go_simp)) (fun q9 hq9 => by simp only [List.mem_cons, List.not_mem_nil, or_false] at hq9; rcases hq9 with rfl | rfl <;> first | exact hnbA | exact hqA) (⟨⟨hp1.ox.1.1, fun i hi => ⟨.inr hi, hlt7 i hi⟩⟩, trivial⟩) (Zca) ?_
        simp only [List.take_succ_cons, List.take_zero, List.drop_succ_cons, List.drop_zero, List.take_nil, List.drop_nil, List.take, List.drop]
        repeat (first
         | ((first
          | ((with_reducible refine Zad ?_ ?_ ?_)
             ·exact rfl
             ·exact rfl)
          | ((with_reducible refine Zag ?_ ?_ ?_)
             ·exact rfl
             ·exact Zaa rfl rfl rfl rfl))
            intro K hK
            apply Exists.intro
            refine ⟨fun w3 hw3 => ?_, ?_⟩
            ·have hcs := hw3
             simp only [cD, cC, and_true] at hcs
             clear hw3
             go_simp
             first | done | exact ⟨rfl, rfl⟩ | rfl
            refine hK _ ?_
            clear hK K
            try simp only [pA, pB, sA, sB, sC])
         | ((with_reducible refine Zaf ?_ ?_ ?_)
            ·exact rfl
            ·exact Zab rfl rfl rfl rfl
            simp only [pA, pB, sA, sB, sC]))
        focus
         (with_reducible refine Zbc (.int .i64 (readS (sx ws 1))) ?_ ?_ ?_ ?_ (hw := ?_))
         ·exact rfl
         ·exact rfl
         ·intro w3 hw3 hc3 hp3
          have hcs := hc3
          simp only [cD, cC, and_true] at hcs
          (go_simp; refine (Zcb (sx ws 1) _ hz1).mono ?_; rintro e w4 ⟨rfl, rfl⟩; exact retPost.mk_ (postPlain.mk_ (Below.refl _ _)))
         rotate_left
         ·first | exact Zac rfl | exact Zaa rfl rfl rfl rfl
         try simp only [pA, pB, sA, sB, sC]
        repeat (first
         | ((first
          | ((with_reducible refine Zad ?_ ?_ ?_)
             ·exact rfl
             ·exact rfl)
          | ((with_reducible refine Zag ?_ ?_ ?_)
             ·exact rfl
             ·exact Zaa rfl rfl rfl rfl))
            intro K hK
            apply Exists.intro
            refine ⟨fun w3 hw3 => ?_, ?_⟩
            ·have hcs := hw3
             simp only [cD, cC, and_true] at hcs
             clear hw3
             go_simp
             first | done | exact ⟨rfl, rfl⟩ | rfl
            refine hK _ ?_
            clear hK K
            try simp only [pA, pB, sA, sB, sC])
         | ((with_reducible refine Zaf ?_ ?_ ?_)
            ·exact rfl
            ·exact Zab rfl rfl rfl rfl
            simp only [pA, pB, sA, sB, sC]))
        focus
         (with_reducible refine mem_rowG lo 1 [⟨2, readS (sx ws 1), 0⟩] ?_ ?_ ?_ ?_ ?_ (hw := ?_))
         ·exact rfl
         ·exact rfl
         ·omega
         ·intro w3 hw3 hc3 hp3
          have hcs := hc3
          simp only [cD, cC, and_true] at hcs
          (go_simp; exact postRowG_one _ ⟨2, readS (sx ws 1), 0⟩)
         rotate_left
         ·first | exact Zac rfl | exact Zaa rfl rfl rfl rfl
         intro A3 c3'
         try simp only [pA, pB, sA, sB, sC]
        repeat (first
         | ((first
          | ((with_reducible refine Zad ?_ ?_ ?_)
             ·exact rfl
             ·exact rfl)
          | ((with_reducible refine Zag ?_ ?_ ?_)
             ·exact rfl
             ·exact Zaa rfl rfl rfl rfl))
            intro K hK
            apply Exists.intro
            refine ⟨fun w3 hw3 => ?_, ?_⟩
            ·have hcs := hw3
             simp only [cD, cC, and_true] at hcs
             clear hw3
             go_simp
             first | done | exact ⟨rfl, rfl⟩ | rfl
            refine hK _ ?_
            clear hK K
            try simp only [pA, pB, sA, sB, sC])
         | ((with_reducible refine Zaf ?_ ?_ ?_)
            ·exact rfl
            ·exact Zab rfl rfl rfl rfl
            simp only [pA, pB, sA, sB, sC]))
        refine mem_appG 100 lo C.gs.length 1 C.gs [⟨2, readS (sx ws 1), 0⟩] A ca A3 c3' (.tmp 110) (.tmp 117) (by rfl) (by rfl) (by omega) (by rfl) (by rfl) (by decide) (by rfl) (by rfl) (by rfl) (by rfl) (by omega) (fun w3 hw3 hc3 hp3 => ?_) (fun G' cG' => ?_)
        ·have h3 : OwnG w3 lo w3.heap.size (.slice A3 1 c3') 1 [⟨2, readS (sx ws 1), 0⟩] := hp3.1.2.1.1
         exact h3.reads
        try simp only [pA, pB, sA, sB, sC]
        repeat (first
         | ((first
          | ((with_reducible refine Zad ?_ ?_ ?_)
             ·exact rfl
             ·exact rfl)
          | ((with_reducible refine Zag ?_ ?_ ?_)
             ·exact rfl
             ·exact Zaa rfl rfl rfl rfl))
            intro K hK
            apply Exists.intro
            refine ⟨fun w3 hw3 => ?_, ?_⟩
            ·have hcs := hw3
             simp only [cD, cC, and_true] at hcs
             clear hw3
             go_simp
             first | done | exact ⟨rfl, rfl⟩ | rfl
            refine hK _ ?_
            clear hK K
            try simp only [pA, pB, sA, sB, sC])
         | ((with_reducible refine Zaf ?_ ?_ ?_)
            ·exact rfl
            ·exact Zab rfl rfl rfl rfl
            simp only [pA, pB, sA, sB, sC]))
        refine Zat ?_
        intro wy hwy hcy hfin hap
        have hG4 : OwnG wy lo wy.heap.size (.slice G' (C.gs.length + 1) cG') (C.gs.length + 1) (C.gs ++ [⟨2, readS (sx ws 1), 0⟩]) := hfin.1.1
        have hokG : ∀ b, (Value.slice G' (C.gs.length + 1) cG').ownBlock = some b → okB wr (fun i => (Value.slice A C.gs.length ca).ownBlock = some i) b := fun b hb => (hfin.1.2 b hb).1
        have p1 := hp1.gate hwy hG4 hokG
        have k0 : Alt (PS b C A ca O co) w wy := hk1.trans_ hwy (fun i hi hT => hT.elim (fun h => by omega) (fun h => .inr (.inl h)))
        have k1 := k0.set_ ⟨b, 2, none⟩ (.slice G' (C.gs.length + 1) cG') (fun _ => .inl rfl)
        have hgA1 : ∀ g, (Value.slice G' (C.gs ++ [(⟨2, readS (sx ws 1), 0⟩ : G3)]).length cG').ownBlock = some g → (Value.slice A C.gs.length ca).ownBlock = some g ∨ w.heap.size ≤ g := fun g hg => by
         have h8 := hokG g (by simpa [Value.ownBlock] using hg)
         rcases h8 with h8 | h8
         ·right; omega
         ·exact .inl h8
        have hbS : ¬ okB wr (fun i => (Value.slice A C.gs.length ca).ownBlock = some i) b := fun hc => hc.elim (fun h => by have := hp1.lt; omega) hnbA
        have hq := hp1.bx.alt hwy hbS; obtain ⟨m0, m1, m2, m3⟩ := hq
        have f2 := (hp1.fz.alt hwy hp1.lt hbS) 2
        go_wp2
        go_end0
        exact ⟨G', cG', O, co, rfl, by rw [hst.out]; exact p1, k1, by rw [hst.out]; exact hgA1, by rw [hst.out]; exact fun g hg => .inl hg⟩
       ·have tn : ((n : Int) == 2) = false := by simp; omega
        have hst : Hid (stepS C ws = C) := zH (by rw [stepS, hws.out, if_neg (fun h => hc h.1), if_neg ho, hKK.out, if_neg (fun h => by omega), if_neg (fun h => hn2' (hlX ▸ h.2)), if_neg (by omega)])
        clear hc ho hcell hX1 hwd hws hz hKK
        go_wp2_with fail
        refine (Zaq 2 0 1 _ hin _).mono ?_
        rintro e w4 ⟨rfl, rfl⟩
        go_wp2
        go_end0
        exact ⟨A, ca, O, co, rfl, by rw [hst.out]; exact hp1, hk1, by rw [hst.out]; exact fun g hg => .inl hg, by rw [hst.out]; exact fun g hg => .inl hg⟩
      ·skip
       have hst : Hid (stepS C ws = { C with gs := C.gs ++ [⟨3, 0, 0⟩] }) := zH (by rw [stepS, hws.out, if_neg (fun h => hc h.1), if_neg ho, hKK.out]; simp)
       have hal : Below wr.heap.size wr (wr.alloc (.cells #[.int .i64 3, .int .i64 0, .int .i64 0] 49)) := bA
       have hp2 := hp1.below hal lR
       have hownA := hp2.ox.1.1
       have hkA := hk1.new_ hal
       clear hc ho hcell hX1 hwd hws hz hst' hKK
       go_wp2_with fail
       refine (Zaq 3 0 1 _ hin _).mono ?_
       rintro e w4 ⟨rfl, rfl⟩
       go_wp2_with (at_builtin; refine Zbi _ rfl _ _ rfl rfl hownA rfl (RG_new1 _ _ _ _ _) (by omega) (by simp; omega) ?_; intro G' cG' wy hG4 hg5 hat5 hk5; have hwy : Alt (okB (wr.alloc (.cells #[.int .i64 3, .int .i64 0, .int .i64 0] 49)) (fun i => (Value.slice A C.gs.length ca).ownBlock = some i)) _ wy := Alt.of_grown hg5 (fun i h => .inr h); have hokG : ∀ b, (Value.slice G' (C.gs.length + 1) cG').ownBlock = some b → okB (wr.alloc (.cells #[.int .i64 3, .int .i64 0, .int .i64 0] 49)) (fun i => (Value.slice A C.gs.length ca).ownBlock = some i) b := (fun b hb => hat5.elim (fun h => .inr (h ▸ hb)) (fun h => .inl (by rw [h] at hb; injection hb with hb; omega))); have hbS : ¬ okB (wr.alloc (.cells #[.int .i64 3, .int .i64 0, .int .i64 0] 49)) (fun i => (Value.slice A C.gs.length ca).ownBlock = some i) b := (fun hc => hc.elim (fun h => by have := hp2.lt; omega) hnbA); have hq := hp2.bx.alt hwy hbS; obtain ⟨j0, j1, j2, j3⟩ := hq; have f2 := (hp2.fz.alt hwy hp2.lt hbS) 2)
       have p1 := hp2.gate hwy hG4 hokG
       have k0 : Alt (PS b C A ca O co) w wy := hkA.trans_ hwy (fun i hi hT => hT.elim (fun h => by simp at h; omega) (fun h => .inr (.inl h)))
       have k1 := k0.set_ ⟨b, 2, none⟩ (.slice G' (C.gs.length + 1) cG') (fun _ => .inl rfl)
       have hgA1 : ∀ g, (Value.slice G' (C.gs ++ [(⟨3, 0, 0⟩ : G3)]).length cG').ownBlock = some g → (Value.slice A C.gs.length ca).ownBlock = some g ∨ w.heap.size ≤ g := fun g hg => by
        have h8 := hokG g (by simpa [Value.ownBlock] using hg)
        rcases h8 with h8 | h8
        ·right; simp at h8; omega
        ·exact .inl h8
       go_wp2
       go_end0
       exact ⟨G', cG', O, co, rfl, by rw [hst.out]; exact p1, k1, by rw [hst.out]; exact hgA1, by rw [hst.out]; exact fun g hg => .inl hg⟩
def partS (L : List (List UInt8)) (j : Nat) : Ci := (L.take j).foldl (fun c l => stepS c (splitS 32 l)) ⟨0, 0, [], []⟩
theorem partS_succ {L : List (List UInt8)} {j : Nat} (h : j < L.length) : partS L (j + 1) = stepS (partS L j) (splitS 32 (sx L j)) := by
 have e : sx L j = L[j] := by simp [sx, List.getD, List.getElem?_eq_getElem h]
 rw [partS, partS, List.take_succ_eq_append_getElem h, List.foldl_append, e]; rfl
theorem splitS_sum (c : UInt8) (s : List UInt8) : ((splitS c s).map List.length).sum ≤ s.length := by
 induction s with
 | nil => simp [splitS]
 | cons b l ih =>
  simp only [splitS]
  split
  ·simp only [List.map_cons, List.sum_cons, List.length_nil, List.length_cons]; omega
  ·cases h : splitS c l with
   | nil => exact absurd h (splitS_ne c l)
   | cons p ps => rw [h] at ih; simp only [List.map_cons, List.sum_cons, List.length_cons, List.headD_cons, List.tail_cons] at ih ⊢; omega
theorem splitS_small {c : UInt8} {s x : List UInt8} (h : x ∈ splitS c s) : x.length ≤ s.length := by
 have h1 := splitS_sum c s
 have h2 : ∀ l : List (List UInt8), x ∈ l → x.length ≤ (l.map List.length).sum := by
  intro l
  induction l with
  | nil => intro h; cases h
  | cons y l ih =>
   intro h
   simp only [List.map_cons, List.sum_cons]
   rcases List.mem_cons.1 h with rfl | h
   ·omega
   ·have := ih h; omega
 have := h2 _ h
 omega
theorem stepS_len (c : Ci) (ws : List (List UInt8)) : (stepS c ws).gs.length ≤ c.gs.length + 1 ∧ (stepS c ws).os.length ≤ c.os.length + ws.tail.length := by
 unfold stepS
 (repeat' split) <;> simp
theorem take_sum (L : List (List UInt8)) : ∀ j, j ≤ L.length → ((L.take j).map List.length).sum ≤ (L.map List.length).sum := by
 induction L with
 | nil => intro j _; simp
 | cons x L ih =>
  intro j hj
  cases j with
  | zero => simp
  | succ j => have := ih j (by simpa using hj); simp only [List.take_succ_cons, List.map_cons, List.sum_cons]; omega
theorem partS_len (L : List (List UInt8)) : ∀ j, j ≤ L.length → (partS L j).gs.length ≤ j ∧ (partS L j).os.length ≤ ((L.take j).map List.length).sum := by
 intro j
 induction j with
 | zero => intro _; simp [partS]
 | succ j ih =>
  intro hj
  have h1 := ih (by omega)
  have h2 := stepS_len (partS L j) (splitS 32 (sx L j))
  have h3 := Zcp 32 (sx L j)
  have h4 := List.length_pos_iff.2 (splitS_ne 32 (sx L j))
  have e : sx L j = L[j] := by simp [sx, List.getD, List.getElem?_eq_getElem (show j < L.length by omega)]
  have e2 : ((L.take (j + 1)).map List.length).sum = ((L.take j).map List.length).sum + (sx L j).length := by
   rw [List.take_succ_eq_append_getElem (show j < L.length by omega), List.map_append, List.sum_append, e]
   show _ + (L[j].length + 0) = _
   rfl
  rw [partS_succ (by omega), e2]
  rw [List.length_tail] at h2
  omega
set_option maxRecDepth 100000 in
set_option maxHeartbeats 4000000 in
theorem ciParse_any (s : List UInt8) (w : World) (hs : s.length ≤ 1048576) :
 Calls Tryz.prog 63 #[.string (bs s)] w (RetC w (ansC (parseS s) s)) := by
 have hA1 : Below w.heap.size w (w.alloc (.cells #[.int .i64 0, .int .i64 0, .slice none 0 0, .slice none 0 0] 27)) := bA
 have hr0 : BxC (w.alloc (.cells #[.int .i64 0, .int .i64 0, .slice none 0 0, .slice none 0 0] 27)) w.heap.size 0 0 none 0 0 none 0 0 := BxC.new w _
 have hA2 : Below (w.heap.size + 1) (w.alloc (.cells #[.int .i64 0, .int .i64 0, .slice none 0 0, .slice none 0 0] 27)) ((w.alloc (.cells #[.int .i64 0, .int .i64 0, .slice none 0 0, .slice none 0 0] 27)).alloc (.cells #[.int .i64 0, .int .i64 0, .slice none 0 0, .slice none 0 0] 27)) := (Below.refl _ _).alloc (by simp) _
 have hx0 : PX ((w.alloc (.cells #[.int .i64 0, .int .i64 0, .slice none 0 0, .slice none 0 0] 27)).alloc (.cells #[.int .i64 0, .int .i64 0, .slice none 0 0, .slice none 0 0] 27)) (w.heap.size + 2) (w.heap.size + 1) ⟨0, 0, [], []⟩ none 0 none 0 := by simpa using PX.new (w.alloc (.cells #[.int .i64 0, .int .i64 0, .slice none 0 0, .slice none 0 0] 27)) (w.heap.size + 2) 27
 have hB2 : Below w.heap.size w ((w.alloc (.cells #[.int .i64 0, .int .i64 0, .slice none 0 0, .slice none 0 0] 27)).alloc (.cells #[.int .i64 0, .int .i64 0, .slice none 0 0, .slice none 0 0] 27)) := hA1.trans (hA2.mono (by omega))
 have hsz2 : ((w.alloc (.cells #[.int .i64 0, .int .i64 0, .slice none 0 0, .slice none 0 0] 27)).alloc (.cells #[.int .i64 0, .int .i64 0, .slice none 0 0, .slice none 0 0] 27)).heap.size = w.heap.size + 2 := by simp
 have hrz : BxC ((w.alloc (.cells #[.int .i64 0, .int .i64 0, .slice none 0 0, .slice none 0 0] 27)).alloc (.cells #[.int .i64 0, .int .i64 0, .slice none 0 0, .slice none 0 0] 27)) w.heap.size 0 0 none 0 0 none 0 0 := hr0.below (hA2.mono (by simp))
 have fz0 : Fz ((w.alloc (.cells #[.int .i64 0, .int .i64 0, .slice none 0 0, .slice none 0 0] 27)).alloc (.cells #[.int .i64 0, .int .i64 0, .slice none 0 0, .slice none 0 0] 27)) w.heap.size := (Fz.new w _ _).below hA2 (by omega)
 obtain ⟨L, hL⟩ := lT (splitS 10 s)
 have hLl := Zcp 10 s
 have hLp := List.length_pos_iff.2 (splitS_ne 10 s)
 have hLs : ∀ x ∈ splitS 10 s, x.length ≤ s.length := fun x hx => splitS_small hx
 have hLm := splitS_sum 10 s
 have hsp := fun w' => l1Split_any s 10 w' (by omega)
 rw [hL.out] at hLl hLs hLp hLm
 rw [hL.out] at hsp
 have hpI : Hid (partS L L.length = parseS s) := zH (by rw [parseS, hL.out, partS, List.take_length])
 clear hr0 hA2
 go_enter Tryz.func63, Tryz.ntmps63
 go_wp2_with fail
 refine (hsp _).mono ?_
 rintro e v2 ⟨Aq, cq, rfl, hX, hb2⟩
 clear hsp
 have hXr2 := hX.reads
 have hz2 := hb2.size
 rw [hsz2] at hz2
 have hXlt : ∀ b o, Aq = some ⟨b, o, none⟩ → w.heap.size + 2 ≤ b := fun b o h => by have := hX.lt b (by rw [h]; simp [Value.ownBlock]); rw [hsz2] at this; omega
 have hXlt2 : ∀ b o, Aq = some ⟨b, o, none⟩ → b < v2.heap.size := fun b o h => by have := hX.lt b (by rw [h]; simp [Value.ownBlock]); omega
 have hx2 := hx0.below hb2 lR
 have hr2 := hrz.below hb2
 have fz2 := fz0.below hb2 (by rw [hsz2]; omega)
 have hB3 := hB2.trans (hb2.mono (by rw [hsz2]; omega))
 clear hx0 hrz fz0 hb2 hB2 hA1 hsz2 hX
 go_wp2
 go_loopw [12] (fun i wr => ∃ (j : Nat) (A : Option Addr) (ca : Nat) (O : Option Addr) (co : Nat), j ≤ L.length ∧ i = .int .i64 j ∧ PX wr (w.heap.size + 2) (w.heap.size + 1) (partS L j) A ca O co ∧ (∀ g, (Value.slice A (partS L j).gs.length ca).ownBlock = some g → v2.heap.size ≤ g) ∧ (∀ g, (Value.slice O (partS L j).os.length co).ownBlock = some g → v2.heap.size ≤ g) ∧ Alt (fun i => i = w.heap.size + 1) v2 wr) (fun i _ => L.length - (intOf i).toNat)
 case atStart => exact ⟨0, none, 0, none, 0, Nat.zero_le _, rfl, hx2, by simp [Value.ownBlock], by simp [Value.ownBlock], Alt.refl_ _ _⟩
 case round =>
  clear hx2
  obtain ⟨j, A, ca, O, co, hj, rfl, hp, hgA, hgO, hk⟩ := hrel
  have hXr := hXr2.alt hk (fun b o hbo hc => by have := hXlt b o hbo; omega)
  have hBr : Below w.heap.size w wr := hB3.trans (hk.below_ (by omega) (fun i hi hc => by omega))
  by_cases hlt : j < L.length
  ·have hpn := partS_succ hlt
   have hplen := partS_len L j hj
   have htk := take_sum L j hj
   obtain ⟨b1, o1, hqo, hb1, d1⟩ := hXr.at_ hlt
   have hq1 := hXlt2 b1 o1 hqo
   have hq0 := hXlt b1 o1 hqo
   subst hqo
   have hls := hLs _ (sx_mem (l := L) (j := j) hlt)
   obtain ⟨ln, hln⟩ := lT (sx L j)
   rw [hln.out] at d1 hls hpn
   obtain ⟨C, hC⟩ := lT (partS L j)
   rw [hC.out] at hp hgA hgO hpn hplen
   have hW1 := Zcp 32 ln
   have hW0 := List.length_pos_iff.2 (splitS_ne 32 ln)
   have hWs : ∀ x ∈ splitS 32 ln, x.length ≤ ln.length := fun x hx => splitS_small hx
   obtain ⟨W, hW⟩ := lT (splitS 32 ln)
   have hspl := fun w' => l1Split_any ln 32 w' (by omega)
   rw [hW.out] at hW1 hW0 hWs hpn
   rw [hW.out] at hspl
   clear hXlt hXlt2
   go_wp2_with fail
   refine (hspl _).mono ?_
   rintro e v3 ⟨Aw, cw, rfl, hX3, hb3⟩
   obtain ⟨q3, cap3, hv3, hq3, hq3b⟩ := hX3.1.form hW0
   simp only [Value.slice.injEq, true_and] at hv3
   obtain ⟨rfl, rfl⟩ := hv3
   have hp3 := hp.below hb3 lR
   have hk3 := hk.new_ hb3
   have hz3 := hb3.size
   have hqS : ¬ PS (w.heap.size + 1) C A ca O co q3 := fun h => by
    rcases h with h | h | h
    ·have := hp.lt; omega
    ·have := (hp.ox.1.1.lt q3 h).2.2; omega
    ·have := (hp.ox.1.2.1.lt q3 h).2.2; omega
   have hz3w := hk3.size
   go_wp2_with fail
   refine (ciLine_any (w.heap.size + 2) (w.heap.size + 1) C A ca O co q3 W.length _ W v3 hp3 (by omega) hX3.reads hW0 hX3.cap (by omega) (fun x hx => by have := hWs x hx; omega) hqS (by omega) (by omega)).mono ?_
   rintro e v4 ⟨A', ca', O', co', rfl, hp4, hk4, hgA4, hgO4⟩
   have HPN := zH hpn
   have k5 : Alt (fun i => i = w.heap.size + 1) v2 v4 := hk3.trans_ hk4 (fun i hi hT => by
    rcases hT with h | h | h
    ·exact h
    ·have := hgA i h; omega
    ·have := hgO i h; omega)
   have hgA5 : ∀ g, (Value.slice A' (stepS C W).gs.length ca').ownBlock = some g → v2.heap.size ≤ g := fun g hg => (hgA4 g hg).elim (fun h => hgA g h) (fun h => by omega)
   have hgO5 : ∀ g, (Value.slice O' (stepS C W).os.length co').ownBlock = some g → v2.heap.size ≤ g := fun g hg => (hgO4 g hg).elim (fun h => hgO g h) (fun h => by omega)
   clear hpn hp hk hp3 hk3 hX3 hk4 hgA4 hgO4 hspl hqS
   go_wp2
   go_roundw
   case rel => exact ⟨j + 1, A', ca', O', co', by omega, by go_num, by rw [HPN.out]; exact hp4, by rw [HPN.out]; exact hgA5, by rw [HPN.out]; exact hgO5, k5⟩
   case measure => simp [intOf]; omega
  ·obtain rfl : j = L.length := by omega
   have hpb := partS_len L L.length lR
   rw [List.take_length] at hpb
   rw [hpI.out] at hp hgA hgO hpb
   obtain ⟨C, hC⟩ := lT (parseS s)
   rw [hC.out] at hp hgA hgO hpb
   have hrr := hr2.alt hk (by omega)
   have fzr := fz2.alt hk (by omega) (by omega)
   have hq := hp.bx; obtain ⟨m0, m1, m2, m3⟩ := hq
   have hrd := hp.ox.1.reads
   cases hcb : circB C.i0 C.i1 C.gs C.os with
   | false =>
    have HF : Hid (ansC (parseS s) s = none) := zH (by rw [hC.out]; simp [ansC, hcb])
    have HB := zH hcb; clear hcb
    go_wp2_with fail
    refine (Zap C.i0 C.i1 A C.gs.length ca O C.os.length co C.gs C.os _ hrd.1 hrd.2 (by omega) (by omega)).mono ?_
    rintro e v5 ⟨rfl, hb5⟩
    rw [HB.out]
    have hr5 := hrr.below hb5
    have fz5 := fzr.below hb5 (by have := hrr.lt; omega)
    have hB5 := hBr.trans (hb5.mono hBr.size)
    have f0 := fz5 0; have f1 := fz5 1; have f2 := fz5 2; have f3 := fz5 3
    have hr6 := hr5; obtain ⟨r0, r1, r2, r3⟩ := hr6
    go_wp2
    have hq9 := BxC.set4 (hr5) 0 0 none 0 0 none 0 0
    obtain ⟨q0, q1, q2, q3⟩ := hq9
    refine bodyPost_ret (v := .tuple #[.agg #[.int .i64 0, .int .i64 0, .slice none 0 0, .slice none 0 0], .bool false]) (by simp [results, Tryz.results63, go_sem, q0, q1, q2, q3]) rfl ?_
    exact RetC.none_ (Zan hB5 (by omega) _ _ _ _ _ _ _ _) HF.out rfl
   | true =>
    have HB := zH hcb
    have hct := fun w' hr' => ciText_any C.i0 C.i1 A C.gs.length ca O C.os.length co C.gs C.os w' hr' hcb
    clear hcb
    go_wp2_with fail
    refine (Zap C.i0 C.i1 A C.gs.length ca O C.os.length co C.gs C.os _ hrd.1 hrd.2 (by omega) (by omega)).mono ?_
    rintro e v4 ⟨rfl, hb4⟩
    rw [HB.out]
    have hr4 := hrr.below hb4
    have fz4 := fzr.below hb4 (by have := hrr.lt; omega)
    have hp4 := hp.below hb4 lR
    have hB4 := hBr.trans (hb4.mono hBr.size)
    have hq := hp4.bx; obtain ⟨m0, m1, m2, m3⟩ := hq
    clear hrr fzr hp hb4 hk hXr hrd
    go_wp2_with fail
    refine (hct _ hp4.ox.1.reads).mono ?_
    rintro e v5 ⟨rfl, hb5⟩
    have hr5 := hr4.below hb5
    have fz5 := fz4.below hb5 (by have := hr4.lt; omega)
    have hp5 := hp4.below hb5 lR
    have hB5 := hB4.trans (hb5.mono hB4.size)
    clear hr4 fz4 hp4 hb5 hB4 m0 m1 m2 m3 hct
    have f0 := fz5 0; have f1 := fz5 1; have f2 := fz5 2; have f3 := fz5 3
    have hr6 := hr5; obtain ⟨r0, r1, r2, r3⟩ := hr6
    by_cases hts : circT C.i0 C.i1 C.gs C.os = s
    ·have t1 : ((bs (circT C.i0 C.i1 C.gs C.os)).toList == (bs s).toList) = true := by rw [Zbu, Zbu, hts]; simp
     have HF : Hid (ansC (parseS s) s = some ⟨C.i0, C.i1, C.gs, C.os⟩) := zH (by rw [hC.out, ansC, if_pos ⟨HB.out, hts⟩])
     have hq := hp5.bx; obtain ⟨m0, m1, m2, m3⟩ := hq
     have hC9 := hp5.ox.1
     clear hts HB
     go_wp2
     have hq9 := BxC.set4 (hr5) C.i0 C.i1 A C.gs.length ca O C.os.length co
     obtain ⟨q0, q1, q2, q3⟩ := hq9
     refine bodyPost_ret (v := .tuple #[.agg #[.int .i64 C.i0, .int .i64 C.i1, .slice A C.gs.length ca, .slice O C.os.length co], .bool true]) (by simp [results, Tryz.results63, go_sem, q0, q1, q2, q3]) rfl ?_
     exact RetC.some_ (Zan hB5 (by omega) _ _ _ _ _ _ _ _) HF.out rfl rfl rfl (by rw [Zbr]; exact ((hC9.set4 (.inl (by omega)) _ _ _ _ _ _ _ _).lo_ (by omega)))
    ·have t1 : ((bs (circT C.i0 C.i1 C.gs C.os)).toList == (bs s).toList) = false := by rw [Zbu, Zbu]; simp [hts]
     have HF : Hid (ansC (parseS s) s = none) := zH (by rw [hC.out, ansC, if_neg (fun h => hts h.2)])
     clear hts HB
     go_wp2
     have hq9 := BxC.set4 (hr5) 0 0 none 0 0 none 0 0
     obtain ⟨q0, q1, q2, q3⟩ := hq9
     refine bodyPost_ret (v := .tuple #[.agg #[.int .i64 0, .int .i64 0, .slice none 0 0, .slice none 0 0], .bool false]) (by simp [results, Tryz.results63, go_sem, q0, q1, q2, q3]) rfl ?_
     exact RetC.none_ (Zan hB5 (by omega) _ _ _ _ _ _ _ _) HF.out rfl
set_option maxRecDepth 100000 in
theorem spec_ParseCircuit_any (s : List UInt8) (w : World) (hs : s.length ≤ 1048576) :
 Calls Tryz.prog 21 #[.string (bs s)] w (RetC w (ansC (parseI s) s)) := by
 rw [ans_same]
 have hA1 : Below w.heap.size w (w.alloc (.cells #[.int .i64 0, .int .i64 0, .slice none 0 0, .slice none 0 0] 27)) := bA
 have hr0 : BxC (w.alloc (.cells #[.int .i64 0, .int .i64 0, .slice none 0 0, .slice none 0 0] 27)) w.heap.size 0 0 none 0 0 none 0 0 := BxC.new w _
 have fz0 : Fz (w.alloc (.cells #[.int .i64 0, .int .i64 0, .slice none 0 0, .slice none 0 0] 27)) w.heap.size := Fz.new w _ _
 have hcp := fun w' => ciParse_any s w' hs
 obtain ⟨F, hF⟩ := lT (ansC (parseS s) s)
 rw [hF.out] at hcp ⊢
 go_enter Tryz.func21, Tryz.ntmps21
 go_wp2_with fail
 refine (hcp _).mono ?_
 rintro e v5 ⟨A4, c4, O4, o4, rfl, hw, hb5⟩
 have hr5 := hr0.below hb5
 have fz5 := fz0.below hb5 (by simp)
 have hB5 := hA1.trans (hb5.mono hA1.size)
 have f0 := fz5 0; have f1 := fz5 1; have f2 := fz5 2; have f3 := fz5 3
 have hr6 := hr5; obtain ⟨r0, r1, r2, r3⟩ := hr6
 have hzA : (w.alloc (.cells #[.int .i64 0, .int .i64 0, .slice none 0 0, .slice none 0 0] 27)).heap.size = w.heap.size + 1 := by simp
 rw [hzA] at hw
 clear hcp hzA
 go_wp2
 have hq9 := BxC.set4 (hr5) (F.getD ⟨0, 0, [], []⟩).i0 (F.getD ⟨0, 0, [], []⟩).i1 A4 (F.getD ⟨0, 0, [], []⟩).gs.length c4 O4 (F.getD ⟨0, 0, [], []⟩).os.length o4
 obtain ⟨q0, q1, q2, q3⟩ := hq9
 refine bodyPost_ret (v := .tuple #[.agg #[.int .i64 (F.getD ⟨0, 0, [], []⟩).i0, .int .i64 (F.getD ⟨0, 0, [], []⟩).i1, .slice A4 (F.getD ⟨0, 0, [], []⟩).gs.length c4, .slice O4 (F.getD ⟨0, 0, [], []⟩).os.length o4], .bool F.isSome]) (by simp [results, Tryz.results21, go_sem, q0, q1, q2, q3]) rfl ?_
 exact ⟨A4, c4, O4, o4, rfl, by rw [Zbr]; exact ((hw.set4 (.inl (by omega)) _ _ _ _ _ _ _ _).lo_ (by omega)), Zan hB5 (by omega) _ _ _ _ _ _ _ _⟩
end Go.Proofs.YtnhmfedegfcflaaGreatDoor
