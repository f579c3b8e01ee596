/- A maker whose outs are any slice. Lengths below 2^21. -/
import Derived.Deep.CutRange
import Derived.Deep.CutBlock
import Derived.Test.YtjeojnfpeppclaaQR13
import Derived.Lib.AppendZerosOnto
namespace Go.Proofs.Ytjeojnfpeppclaa
open Go.RowKit
set_option linter.unusedVariables false
set_option linter.unusedSimpArgs false
attribute [local go_sem] sepAt sepUpon pureAt pureUpon
theorem insF_len (n : Int) : ((insF n).getD []).length ≤ 100 := by
 unfold insF
 split
 ·rename_i h
  simp only [Bool.and_eq_true, decide_eq_true_eq] at h
  simp only [Option.getD_some]; omega
 ·simp
theorem mgn_len {N : Nat} (h1 : 1 ≤ N) (h : N ≤ 12) : (mgn N).length ≤ 60 := by
 have hR : mgnF N = some (mgn N) := by simp [mgnF, inB_iff.2 (show (1 : Int) ≤ (N : Int) ∧ (N : Int) ≤ 12 by omega)]
 obtain ⟨_, _, _, _, _, _, h60, _⟩ := mgn_law hR; exact h60
theorem RS.takeK {w : World} {A : Option Addr} {n k : Nat} {ls : List Sp} (h : RS w A n ls) (hk : k ≤ n) : RS w A k (ls.take k) := by
 refine ⟨by rw [List.length_take, h.1]; omega, fun h0 => ?_⟩
 obtain ⟨b, o, hA, hb, hc⟩ := h.2 (by omega)
 refine ⟨b, o, hA, hb, fun j hj => ?_⟩
 have e : ss (ls.take k) j = ss ls j := by unfold ss; rw [List.getD_eq_getElem?_getD, List.getD_eq_getElem?_getD, List.getElem?_take_of_lt hj]
 rw [e]; exact hc j (by omega)
theorem OwnS.capLe {w : World} {lo hi n c : Nat} {A : Option Addr} {ls : List Sp} (h : OwnS w lo hi (.slice A n c) n ls) : n ≤ c := by
 rcases h.1.2 with ⟨h1, h2⟩ | ⟨g, cap, cur, hv, _, _, hc, _⟩
 ·omega
 ·simp only [Value.slice.injEq] at hv; omega
def NoB (A : Option Addr) (b : Nat) : Prop := ∀ g o, A = some ⟨g, o, none⟩ → g ≠ b
theorem OwnS.noB {w : World} {lo hi n c b : Nat} {A : Option Addr} {ls : List Sp} (h : OwnS w lo hi (.slice A n c) n ls) (hb : b < lo) : NoB A b := fun g o e => by
 have := (h.lt g (by rw [e]; rfl)).1; omega
def RetNw (w : World) (b : Nat) (R : Nat → Prop) (T : Nat) (e : Ending) (w' : World) : Prop :=
 ∃ (N : Int) (A : Option Addr) (m c : Nat) (ls : List Sp), e = .returned (.tuple #[.int .i64 N, .slice A m c]) ∧ RS w' A m ls ∧ NoB A b ∧ m ≤ 200 ∧ (0 ≤ N ∧ N ≤ 13) ∧ Cur w' b R T ∧ Alt (fun i => i = b) w w'
set_option maxRecDepth 100000 in
set_option maxHeartbeats 4000000 in
theorem network_any (b : Nat) (R : Nat → Prop) (T : Nat) (w : World) (h : Cur w b R T) (hT : T < 800000000) (hR : ∀ i, R i → i < w.heap.size) (hRb : ¬ R b) :
 Calls Try.prog 39 #[.pointer (some ⟨b, 0, none⟩)] w (RetNw w b R (T + 60)) := by
 have hb := h.lt
 go_enter Try.func39, Try.ntmps39
 go_wp2_with fail
 refine (Zap 6 b R T _ h (by omega) (by omega)).mono ?_
 rintro e a1 ⟨x, h1, h2, rfl, c1, k1, z1⟩
 have hx : x ≤ 5 := by omega
 clear h1 h2
 have hw1 : IntKind.i64.wrap (1 + (x : Int)) = 1 + (x : Int) := by rw [IntKind.wrap_i64] <;> omega
 go_wp2_with fail
 refine (Zap 6 b R (T + 2) _ c1 (by omega) (by omega)).mono ?_
 rintro e a2 ⟨y, h1, h2, rfl, c2, k2, z2⟩
 have hy : y ≤ 5 := by omega
 clear h1 h2
 have k := k1.trans_ k2 (fun _ _ h => h)
 have hz : a2.heap.size = w.heap.size := by omega
 clear k1 k2 c1 z1 z2 h hw1
 go_upto_block 0 with (fail)
 generalize hNe : 1 + (x : Int) = V
 have hV : 1 ≤ V ∧ V ≤ 6 := by omega
 clear hNe
 obtain ⟨N, rfl⟩ : ∃ N : Nat, V = N := ⟨V.toNat, by omega⟩
 have hN1 : 1 ≤ N := by omega
 have hN6 : N ≤ 6 := by omega
 clear hV hx
 go_cut [5, 6, 7] from 13 to 54 (fun v u1 u2 wx => ∃ (L : List Sp) (A' : Option Addr) (c' : Nat), v = .slice A' L.length c' ∧ L.length ≤ 100 ∧ OwnS wx w.heap.size wx.heap.size (.slice A' L.length c') L.length L ∧ Cur wx b R (T + 40) ∧ Alt (fun i => i = b) w wx)
 case first =>
  by_cases hy1 : y ≤ 1
  ·have hm := mgn_len hN1 (by omega)
   have hyc : y = 0 ∨ y = 1 := by omega
   rcases hyc with rfl | rfl
   ·go_wp2_with fail
    refine (soMerge_any N hN1 (by omega) hm _).mono ?_
    rintro e a3 ⟨A, c, rfl, ho, hb3⟩
    go_wp2
    go_meet
    exact ⟨mgn N, A, c, rfl, by omega, ho.lo_ (by omega), (c2.alt (Alt.of_new (S := fun _ => False) hb3) (fun h => h) (fun _ _ h => h)).mono (by omega), k.new_ hb3⟩
   ·go_wp2_with fail
    refine (soMerge_any N hN1 (by omega) hm _).mono ?_
    rintro e a3 ⟨A, c, rfl, ho, hb3⟩
    go_wp2
    go_meet
    exact ⟨mgn N, A, c, rfl, by omega, ho.lo_ (by omega), (c2.alt (Alt.of_new (S := fun _ => False) hb3) (fun h => h) (fun _ _ h => h)).mono (by omega), k.new_ hb3⟩
  ·by_cases hy2 : y = 2
   ·subst hy2
    go_wp2_with fail
    refine (Zaw N _).mono ?_
    rintro e a3 ⟨A, c, rfl, ho, hb3⟩
    go_wp2
    go_meet
    exact ⟨(insF N).getD [], A, c, rfl, insF_len _, ho.lo_ (by omega), (c2.alt (Alt.of_new (S := fun _ => False) hb3) (fun h => h) (fun _ _ h => h)).mono (by omega), k.new_ hb3⟩
   ·have hy3 : 3 ≤ y := by omega
    have ty0 : ((y : Int) == 0) = false := by simp; omega
    have ty1 : ((y : Int) == 1) = false := by simp; omega
    have ty2 : ((y : Int) == 2) = false := by simp; omega
    go_wp2_with fail
    refine (Zap 9 b R (T + 2 + 2) _ c2 (by omega) (by omega)).mono ?_
    rintro e a3 ⟨C, h1, h2, rfl, c3, k3, z3⟩
    have hC : C ≤ 8 := by omega
    have kk := k.trans_ k3 (fun _ _ h => h)
    clear h1 h2 z3 k3 k c2 ty0 ty1 ty2 hz
    go_wp2_with fail
    go_loopw [5, 6] (fun v c0 wr => ∃ (C : Nat) (L : List Sp) (A' : Option Addr) (c' : Nat), L.length + C ≤ 8 ∧ c0 = .int .i64 C ∧ v = .slice A' L.length c' ∧ OwnS wr w.heap.size wr.heap.size (.slice A' L.length c') L.length L ∧ Cur wr b R (T + 40 - 4 * C) ∧ Alt (fun i => i = b) w wr) (fun _ c0 _ => (intOf c0).toNat)
    case atStart => exact ⟨C, [], none, 0, by simp; omega, rfl, rfl, OwnS.none_ _ _ _, c3.mono (by omega), kk⟩
    case round =>
     clear c3 kk hC
     obtain ⟨C, L, A', c', hLC, rfl, rfl, ho, hc, hk⟩ := hrel
     by_cases hC0 : (0 : Int) < (C : Int)
     ·by_cases hN2 : (1 : Int) < (N : Int)
      ·have hw1 : IntKind.i64.wrap ((N : Int) - 1) = (N : Int) - 1 := by rw [IntKind.wrap_i64] <;> omega
       have hzr := hk.size
       go_wp2_with fail
       refine (Zap ((N : Int) - 1) b R (T + 40 - 4 * C) _ hc (by omega) (by omega)).mono ?_
       rintro e a4 ⟨u, h1, h2, rfl, c4, k4, z4⟩
       have hu : u ≤ 6 := by omega
       have kk := hk.trans_ k4 (fun _ _ h => h)
       have ho4 := ho.alt k4 (fun g hg e => by have := (ho.lt g hg).1; omega)
       clear h1 h2 hc hk ho k4
       have hw2 : IntKind.i64.wrap ((u : Int) + 1) = (u : Int) + 1 := by rw [IntKind.wrap_i64] <;> omega
       have hw3 : IntKind.i64.wrap ((N : Int) - 1 - (u : Int)) = (N : Int) - 1 - (u : Int) := by rw [IntKind.wrap_i64] <;> omega
       go_wp2_with fail
       refine (Zap ((N : Int) - 1 - (u : Int)) b R (T + 40 - 4 * C + 2) _ c4 (by omega) (by omega)).mono ?_
       rintro e a5 ⟨z, h1, h2, rfl, c5, k5, z5⟩
       have hzz : z ≤ 6 := by omega
       have kk5 := kk.trans_ k5 (fun _ _ h => h)
       have ho5 := ho4.alt k5 (fun g hg e => by have := (ho4.lt g hg).1; omega)
       clear h1 h2 c4 kk ho4 k5
       have hzs : w.heap.size ≤ a5.heap.size := by omega
       have hw4 : IntKind.i64.wrap ((u : Int) + 1 + (z : Int)) = (u : Int) + 1 + (z : Int) := by rw [IntKind.wrap_i64] <;> omega
       have al : Below a5.heap.size a5 (a5.alloc (.cells #[.int .i64 (u : Int), .int .i64 ((u : Int) + 1 + (z : Int))] 54)) := bA
       have c6 := c5.alt (Alt.of_new (S := fun _ => False) al) (fun h => h) (fun _ _ h => h)
       have kk6 := kk5.new_ al
       have ho6 := ho5.alloc (.cells #[.int .i64 (u : Int), .int .i64 ((u : Int) + 1 + (z : Int))] 54)
       have t0 := Zaa a5 #[.int .i64 (u : Int), .int .i64 ((u : Int) + 1 + (z : Int))] (T := 54) 0 (.int .i64 (u : Int)) rfl
       have t1 := Zaa a5 #[.int .i64 (u : Int), .int .i64 ((u : Int) + 1 + (z : Int))] (T := 54) 1 (.int .i64 ((u : Int) + 1 + (z : Int))) rfl
       have hl5 : Hid ((L ++ [(⟨(u : Int), (u : Int) + 1 + (z : Int)⟩ : Sp)]).length = L.length + 1) := zH (by simp)
       obtain ⟨q, hq⟩ : ∃ q, L.length = q := ⟨_, rfl⟩
       rw [hq] at ho6 hLC hl5 ⊢
       clear hq al c5 kk5 ho5 z4 z5
       go_wp2_with (at_builtin; refine Zal (p := ⟨(u : Int), (u : Int) + 1 + (z : Int)⟩) rfl _ _ rfl rfl ho6 rfl t0 t1 (by omega) oM ?_; intro A5 c9 w5 hown5 hg5 hat5)
       have kg := Alt.of_grown (S := fun i => (Value.slice A' q c').ownBlock = some i) hg5 (fun i hi => hi)
       have c7 := (c6.alt kg (fun e => by have := (ho6.lt b e).1; omega) (fun i hi e => by have := (ho6.lt i e).1; have := hR i hi; omega)).mono (U := T + 40 - 4 * (C - 1)) (by omega)
       have kk7 := kk6.trans_ kg (fun i hi e => by have := (ho6.lt i e).1; omega)
       clear t0 t1 hg5 hat5 kg c6 kk6 ho6
       go_wp2
       go_roundw
       case rel => exact ⟨C - 1, _, A5, c9, by rw [hl5.out]; omega, congrArg (Value.int .i64) (by omega), by rw [hl5.out], by rw [hl5.out]; exact hown5, c7, kk7⟩
       case measure => simp [intOf] <;> omega
      ·go_wp2
       go_meet
       exact ⟨L, A', c', rfl, by omega, ho, hc.mono (by omega), hk⟩
     ·go_wp2
      go_meet
      exact ⟨L, A', c', rfl, by omega, ho, hc.mono (by omega), hk⟩
 case rest =>
  obtain ⟨L, A', c', rfl, hL, ho, hc, hk⟩ := hcut
  clear k c2 hz
  have hzr := hk.size
  go_wp2_with fail
  refine (Zap 16 b R (T + 40) _ hc (by omega) (by omega)).mono ?_
  rintro e a3 ⟨y, h1, h2, rfl, c3, k3, z3⟩
  have hy : y ≤ 15 := by omega
  have kk := hk.trans_ k3 (fun _ _ h => h)
  have ho3 := ho.alt k3 (fun g hg e => by have := (ho.lt g hg).1; omega)
  clear h1 h2 hc hk ho k3
  by_cases h5 : 5 ≤ y
  ·have ty0 : ((y : Int) == 0) = false := by simp; omega
   have ty1 : ((y : Int) == 1) = false := by simp; omega
   have ty2 : ((y : Int) == 2) = false := by simp; omega
   have ty3 : ((y : Int) == 3) = false := by simp; omega
   have ty4 : ((y : Int) == 4) = false := by simp; omega
   go_wp2
   go_ret2
   exact ⟨N, A', L.length, c', L, rfl, ho3.reads, ho3.noB hb, by omega, by omega, c3.mono (by omega), kk⟩
  ·have hy4 : y = 0 ∨ y = 1 ∨ y = 2 ∨ y = 3 ∨ y = 4 := by omega
   obtain ⟨q, hq⟩ : ∃ q, L.length = q := ⟨_, rfl⟩
   rw [hq] at ho3 hL ⊢
   have hls := ho3.reads.len
   clear hy h5 z3
   rcases hy4 with rfl | rfl | rfl | rfl | rfl
   ·clear hq
    by_cases hq0 : q = 0
    ·subst hq0
     go_wp2
     go_ret2
     exact ⟨N, A', 0, c', L, rfl, ho3.reads, ho3.noB hb, by omega, by omega, c3.mono (by omega), kk⟩
    ·have hq1 : (0 : Int) < (q : Int) := by omega
     have hcap := ho3.capLe
     have hnb := ho3.noB hb
     have hr := ho3.reads.takeK (k := q - 1) (by omega)
     obtain ⟨g, o, rfl, _, _, _⟩ := ho3.reads.at_ (k := 0) (by omega)
     have hw1 : IntKind.i64.wrap ((q : Int) - 1) = (q : Int) - 1 := by rw [IntKind.wrap_i64] <;> omega
     have hn1 : ((q : Int) - 1).toNat = q - 1 := by omega
     clear hls
     go_wp2
     go_ret2
     exact ⟨N, _, q - 1, c', L.take (q - 1), rfl, hr, hnb, by omega, by omega, c3.mono (by omega), kk⟩
   ·by_cases hq0 : q = 0
    ·subst hq0
     clear hq
     go_wp2
     go_ret2
     exact ⟨N, A', 0, c', L, rfl, ho3.reads, ho3.noB hb, by omega, by omega, c3.mono (by omega), kk⟩
    ·have hq1 : (0 : Int) < (q : Int) := by omega
     go_wp2_with fail
     refine (Zap (q : Int) b R (T + 40 + 2) _ c3 (by omega) (by omega)).mono ?_
     rintro e a4 ⟨v, h1, h2, rfl, c4, k4, z4⟩
     have hv : v < q := by omega
     have kk4 := kk.trans_ k4 (fun _ _ h => h)
     have ho4 := ho3.alt k4 (fun g hg e => by have := (ho3.lt g hg).1; omega)
     clear h1 h2 c3 ho3 k4 kk z4
     have hz4 : w.heap.size ≤ a4.heap.size := kk4.size
     obtain ⟨g, o, hA, hgb, d1, d2⟩ := ho4.reads.at_ hv
     obtain ⟨sl, hsl⟩ : ∃ z, (ss L v).l = z := ⟨_, rfl⟩
     obtain ⟨sh, hsh⟩ : ∃ z, (ss L v).h = z := ⟨_, rfl⟩
     rw [hsl] at d1; rw [hsh] at d2
     clear hsl hsh
     subst hA
     have hl5 : Hid ((L ++ [(⟨sl, sh⟩ : Sp)]).length = q + 1) := zH (by rw [List.length_append, hq]; rfl)
     clear hq hls
     have al : Below a4.heap.size a4 (a4.alloc (.cells #[.int .i64 sl, .int .i64 sh] 54)) := bA
     have c6 := c4.alt (Alt.of_new (S := fun _ => False) al) (fun h => h) (fun _ _ h => h)
     have kk6 := kk4.new_ al
     have ho6 := ho4.alloc (.cells #[.int .i64 sl, .int .i64 sh] 54)
     have t0 := Zaa a4 #[.int .i64 sl, .int .i64 sh] (T := 54) 0 (.int .i64 sl) rfl
     have t1 := Zaa a4 #[.int .i64 sl, .int .i64 sh] (T := 54) 1 (.int .i64 sh) rfl
     clear al
     go_wp2_with (at_builtin; go_loud (refine Zal (p := ⟨sl, sh⟩) rfl _ _ rfl rfl ho6 rfl t0 t1 (by omega) oM ?_); intro A5 c9 w5 hown5 hg5 hat5)
     have kg := Alt.of_grown (S := fun i => (Value.slice (some ⟨g, o, none⟩) q c').ownBlock = some i) hg5 (fun i hi => hi)
     have c7 := (c6.alt kg (fun e => by have := (ho6.lt b e).1; omega) (fun i hi e => by have := (ho6.lt i e).1; have := hR i hi; omega)).mono (U := T + 60) (by omega)
     have kk7 := kk6.trans_ kg (fun i hi e => by have := (ho6.lt i e).1; omega)
     clear t0 t1 hg5 hat5 kg c6 kk6 ho6
     go_wp2
     go_ret2
     exact ⟨N, A5, q + 1, c9, _, rfl, hown5.reads, hown5.noB hb, by omega, by omega, c7, kk7⟩
   ·have hw5 : IntKind.i64.wrap ((N : Int) + 1) = (N : Int) + 1 := by rw [IntKind.wrap_i64] <;> omega
    go_wp2_with fail
    refine (Zap (N : Int) b R (T + 40 + 2) _ c3 (by omega) (by omega)).mono ?_
    rintro e a4 ⟨u, h1, h2, rfl, c4, k4, z4⟩
    have hu : u ≤ 6 := by omega
    have kk4 := kk.trans_ k4 (fun _ _ h => h)
    have ho4 := ho3.alt k4 (fun g hg e => by have := (ho3.lt g hg).1; omega)
    clear h1 h2 c3 ho3 k4 kk z4
    go_wp2_with fail
    refine (Zap ((N : Int) + 1) b R (T + 40 + 2 + 2) _ c4 (by omega) (by omega)).mono ?_
    rintro e a5 ⟨z, h1, h2, rfl, c5, k5, z5⟩
    have hzz : z ≤ 7 := by omega
    have kk5 := kk4.trans_ k5 (fun _ _ h => h)
    have ho5 := ho4.alt k5 (fun g hg e => by have := (ho4.lt g hg).1; omega)
    clear h1 h2 c4 ho4 k5 kk4 z5
    have hz5 : w.heap.size ≤ a5.heap.size := kk5.size
    have hl5 : Hid ((L ++ [(⟨(u : Int), (z : Int)⟩ : Sp)]).length = q + 1) := zH (by rw [List.length_append, hq]; rfl)
    clear hq hls
    have al : Below a5.heap.size a5 (a5.alloc (.cells #[.int .i64 (u : Int), .int .i64 (z : Int)] 54)) := bA
    have c6 := c5.alt (Alt.of_new (S := fun _ => False) al) (fun h => h) (fun _ _ h => h)
    have kk6 := kk5.new_ al
    have ho6 := ho5.alloc (.cells #[.int .i64 (u : Int), .int .i64 (z : Int)] 54)
    have t0 := Zaa a5 #[.int .i64 (u : Int), .int .i64 (z : Int)] (T := 54) 0 (.int .i64 (u : Int)) rfl
    have t1 := Zaa a5 #[.int .i64 (u : Int), .int .i64 (z : Int)] (T := 54) 1 (.int .i64 (z : Int)) rfl
    clear al
    go_wp2_with (at_builtin; go_loud (refine Zal (p := ⟨(u : Int), (z : Int)⟩) rfl _ _ rfl rfl ho6 rfl t0 t1 (by omega) oM ?_); intro A5 c9 w5 hown5 hg5 hat5)
    have kg := Alt.of_grown (S := fun i => (Value.slice A' q c').ownBlock = some i) hg5 (fun i hi => hi)
    have c7 := (c6.alt kg (fun e => by have := (ho6.lt b e).1; omega) (fun i hi e => by have := (ho6.lt i e).1; have := hR i hi; omega)).mono (U := T + 60) (by omega)
    have kk7 := kk6.trans_ kg (fun i hi e => by have := (ho6.lt i e).1; omega)
    clear t0 t1 hg5 hat5 kg c6 kk6 ho6
    go_wp2
    go_ret2
    exact ⟨N, A5, q + 1, c9, _, rfl, hown5.reads, hown5.noB hb, by omega, by omega, c7, kk7⟩
   ·clear hq hls
    have al : Below a3.heap.size a3 (a3.alloc (.cells #[.int .i64 0, .int .i64 12, .int .i64 13, .int .i64 (N : Int)] 3)) := bA
    have hr : RI (a3.alloc (.cells #[.int .i64 0, .int .i64 12, .int .i64 13, .int .i64 (N : Int)] 3)) (some ⟨a3.heap.size, 0, none⟩) 4 [0, 12, 13, (N : Int)] := RI_new a3 [0, 12, 13, (N : Int)] _ 4 rfl
    have c4 := c3.alt (Alt.of_new (S := fun _ => False) al) (fun h => h) (fun _ _ h => h)
    have kk4 := kk.new_ al
    have ho4 := ho3.alloc (.cells #[.int .i64 0, .int .i64 12, .int .i64 13, .int .i64 (N : Int)] 3)
    have hbs : b < a3.heap.size := c3.lt
    clear al c3 kk ho3
    go_wp2_with fail
    refine (among_any _ 4 4 [0, 12, 13, (N : Int)] b R _ _ c4 (by omega) hr (by omega) (by omega) (fun q o e => by simp only [Option.some.injEq, Addr.mk.injEq, and_true] at e; omega)).mono ?_
    rintro e a4 ⟨x, hx, rfl, c5, k5, z5⟩
    have hx13 : 0 ≤ x ∧ x ≤ 13 := by
     simp only [List.mem_cons, List.not_mem_nil, or_false] at hx
     omega
    have ho5 := ho4.alt k5 (fun g hg e => by have := (ho4.lt g hg).1; omega)
    have kk5 := kk4.trans_ k5 (fun _ _ h => h)
    clear c4 hr k5 ho4 kk4 z5
    go_wp2
    go_ret2
    exact ⟨x, A', q, c', L, rfl, ho5.reads, ho5.noB hb, by omega, hx13, c5.mono (by omega), kk5⟩
   ·by_cases hN2 : (1 : Int) < (N : Int)
    ·go_wp2_with fail
     refine (one_any 3 b R (T + 40 + 2) _ c3 (by omega) (by omega)).mono ?_
     rintro e a4 ⟨t, rfl, c4, k4, z4⟩
     have kk4 := kk.trans_ k4 (fun _ _ h => h)
     have ho4 := ho3.alt k4 (fun g hg e => by have := (ho3.lt g hg).1; omega)
     clear c3 ho3 k4 kk
     cases t with
     | false =>
      clear hq hls
      go_wp2
      go_ret2
      exact ⟨N, A', q, c', L, rfl, ho4.reads, ho4.noB hb, by omega, by omega, c4.mono (by omega), kk4⟩
     | true =>
      go_wp2_with fail
      refine (Zap 2 b R (T + 40 + 2 + 2) _ c4 (by omega) (by omega)).mono ?_
      rintro e a5 ⟨u, h1, h2, rfl, c5, k5, z5⟩
      have hu : u ≤ 1 := by omega
      have kk5 := kk4.trans_ k5 (fun _ _ h => h)
      have ho5 := (ho4.alt k5 (fun g hg e => by have := (ho4.lt g hg).1; omega)).now
      clear h1 h2 c4 ho4 k5 kk4 z4 z5
      have hw6 : IntKind.i64.wrap (60 + (u : Int)) = 60 + (u : Int) := by rw [IntKind.wrap_i64] <;> omega
      go_wp2_with fail
      go_loopg [5] (60 + u) (fun g v wr => ∃ (L : List Sp) (A' : Option Addr) (c' q : Nat), v = .slice A' q c' ∧ q ≤ 100 ∧ 60 + u ≤ q + g ∧ L.length = q ∧ OwnS wr w.heap.size wr.heap.size (.slice A' q c') q L ∧ Cur wr b R (T + 60) ∧ Alt (fun i => i = b) w wr)
      case atStart => exact ⟨L, A', c', q, rfl, hL, by omega, hq, ho5, c5.mono (by omega), kk5⟩
      case round =>
       clear c5 kk5 ho5 hq hls hL
       obtain ⟨L, A', c', q, rfl, hL, hqg, hq, ho, hc, hk⟩ := hrel
       generalize wr = W0 at *
       generalize gk = gK at *
       have hqg := zH hqg
       by_cases hlt : (q : Int) < 60 + (u : Int)
       ·have hz5 : w.heap.size ≤ W0.heap.size := hk.size
        have al : Below W0.heap.size W0 (W0.alloc (.cells #[.int .i64 0, .int .i64 1] 54)) := bA
        have c6 := hc.alt (Alt.of_new (S := fun _ => False) al) (fun h => h) (fun _ _ h => h)
        have kk6 := hk.new_ al
        have ho6 := ho.alloc (.cells #[.int .i64 0, .int .i64 1] 54)
        have t0 := Zaa W0 #[.int .i64 0, .int .i64 1] (T := 54) 0 (.int .i64 0) rfl
        have t1 := Zaa W0 #[.int .i64 0, .int .i64 1] (T := 54) 1 (.int .i64 1) rfl
        clear al
        go_wp2_with (at_builtin; go_loud (refine Zal (p := ⟨0, 1⟩) rfl _ _ rfl rfl ho6 rfl t0 t1 (by omega) oM ?_); intro A5 c9 w5 hown5 hg5 hat5)
        have kg := Alt.of_grown (S := fun i => (Value.slice A' q c').ownBlock = some i) hg5 (fun i hi => hi)
        have c7 := (c6.alt kg (fun e => by have := (ho6.lt b e).1; omega) (fun i hi e => by have := (ho6.lt i e).1; have := hR i hi; omega)).mono (U := T + 60) (by omega)
        have kk7 := kk6.trans_ kg (fun i hi e => by have := (ho6.lt i e).1; omega)
        clear t0 t1 hg5 hat5 kg c6 kk6 ho6
        have hl5 : Hid ((L ++ [(⟨0, 1⟩ : Sp)]).length = q + 1) := zH (by rw [List.length_append, hq]; rfl)
        have hqg9 := hqg.out
        clear hq
        go_wp2
        go_roundg (gK - 1)
        case rel => exact ⟨_, A5, c9, q + 1, rfl, by omega, by omega, hl5.out, hown5, c7, kk7⟩
        case measure => omega
       ·clear hq
        go_wp2
        go_ret2
        exact ⟨N, A', q, c', L, rfl, ho.reads, ho.noB hb, by omega, by omega, hc, hk⟩
    ·clear hq hls
     go_wp2
     go_ret2
     exact ⟨N, A', q, c', L, rfl, ho3.reads, ho3.noB hb, by omega, by omega, c3.mono (by omega), kk⟩
end Go.Proofs.Ytjeojnfpeppclaa
namespace Go.Proofs.Ytjeojnfpeppclaa
open Go.RowKit
set_option linter.unusedVariables false
set_option linter.unusedSimpArgs false
attribute [local go_sem] sepAt sepUpon pureAt pureUpon
def RetNi (w : World) (e : Ending) (w' : World) : Prop :=
 ∃ (N : Int) (A : Option Addr) (m c : Nat) (ls : List Sp), e = .returned (.tuple #[.int .i64 N, .slice A m c]) ∧ RS w' A m ls ∧ m ≤ 200 ∧ (0 ≤ N ∧ N ≤ 13) ∧ Below w.heap.size w w'
def RetNj (w : World) (e : Ending) (w' : World) : Prop :=
 ∃ (N : Int) (A : Option Addr) (m c : Nat) (ls : List Sp) (W : Int), e = .returned (.tuple #[.int .i64 N, .slice A m c, .int .i64 W]) ∧ RS w' A m ls ∧ m ≤ 200 ∧ (0 ≤ N ∧ N ≤ 13) ∧ (0 ≤ W ∧ W ≤ 5) ∧ Below w.heap.size w w'
set_option maxRecDepth 100000 in
set_option maxHeartbeats 1000000 in
theorem DrawIsNetwork_any (Y : Option Addr) (n c : Nat) (w : World) (hY : RY w Y n) :
 Calls Try.prog 32 #[.slice Y n c] w (RetNi w) := by
 have hc0 := Cur.newW (c := c) hY
 have hA2 : Below w.heap.size w (w.alloc (.cells #[.slice Y n c, .int .i64 0, .int .u64 0] 68)) := bA
 have hR : ∀ i, tblkW Y n i → i < w.heap.size := tblkW_lt hY
 have hRb : ¬ tblkW Y n w.heap.size := fun h => by have := hR _ h; omega
 generalize tblkW Y n = R at hc0 hR hRb
 have hRs : ∀ i, R i → i < (w.alloc (.cells #[.slice Y n c, .int .i64 0, .int .u64 0] 68)).heap.size := fun i h => Nat.lt_of_lt_of_le (hR i h) hA2.size
 go_enter Try.func32, Try.ntmps32
 go_wp2_with fail
 refine (network_any w.heap.size R 0 _ hc0 (by omega) hRs hRb).mono ?_
 rintro e a1 ⟨N, A, m, d, ls, rfl, hr, hq, hm, hN, c1, k1⟩
 have kw : Alt (fun i => i = w.heap.size) w a1 := (Alt.of_new (S := fun i => i = w.heap.size) hA2).trans_ k1 (fun _ _ h => h)
 have hB := kw.below_ lR (fun i hi e => by omega)
 clear hc0 c1 k1 kw hA2
 go_wp2
 go_ret2
 exact ⟨N, A, m, d, ls, rfl, hr, hm, hN, hB⟩
theorem DrawPruneNetwork_any (Y : Option Addr) (n c : Nat) (w : World) (hY : RY w Y n) :
 Calls Try.prog 12 #[.slice Y n c] w (RetNi w) := by
 go_enter Try.func12, Try.ntmps12
 go_wp2_with fail
 refine (DrawIsNetwork_any Y n c w hY).mono ?_
 rintro e a1 ⟨N, A, m, d, ls, rfl, hr, hm, hN, hB⟩
 go_wp2
 go_ret2
 exact ⟨N, A, m, d, ls, rfl, hr, hm, hN, hB⟩
set_option maxRecDepth 100000 in
set_option maxHeartbeats 1000000 in
theorem DrawNetworkCircuit_any (Y : Option Addr) (n c : Nat) (w : World) (hY : RY w Y n) :
 Calls Try.prog 19 #[.slice Y n c] w (RetNj w) := by
 have hc0 := Cur.newW (c := c) hY
 have hA2 : Below w.heap.size w (w.alloc (.cells #[.slice Y n c, .int .i64 0, .int .u64 0] 68)) := bA
 have hR : ∀ i, tblkW Y n i → i < w.heap.size := tblkW_lt hY
 have hRb : ¬ tblkW Y n w.heap.size := fun h => by have := hR _ h; omega
 generalize tblkW Y n = R at hc0 hR hRb
 have hRs : ∀ i, R i → i < (w.alloc (.cells #[.slice Y n c, .int .i64 0, .int .u64 0] 68)).heap.size := fun i h => Nat.lt_of_lt_of_le (hR i h) hA2.size
 go_enter Try.func19, Try.ntmps19
 go_wp2_with fail
 refine (network_any w.heap.size R 0 _ hc0 (by omega) hRs hRb).mono ?_
 rintro e a1 ⟨N, A, m, d, ls, rfl, hr, hq, hm, hN, c1, k1⟩
 have kw : Alt (fun i => i = w.heap.size) w a1 := (Alt.of_new (S := fun i => i = w.heap.size) hA2).trans_ k1 (fun _ _ h => h)
 have hz1 : w.heap.size ≤ a1.heap.size := kw.size
 clear hc0 k1 hA2
 go_wp2_with fail
 refine (Zap 5 w.heap.size R _ _ c1 (by omega) (by omega)).mono ?_
 rintro e a2 ⟨u, h1, h2, rfl, c2, k2, z2⟩
 have hu : u ≤ 4 := by omega
 have kw2 := kw.trans_ k2 (fun _ _ h => h)
 have hr2 := hr.alt (S := fun i => i = w.heap.size) k2 (fun g o e => hq g o e)
 clear h1 h2 z2 kw hr c1 k2
 go_wp2_with fail
 refine (Zap 24 w.heap.size R _ _ c2 (by omega) (by omega)).mono ?_
 rintro e a3 ⟨v, h1, h2, rfl, c3, k3, z3⟩
 have hv : v ≤ 23 := by omega
 have kw3 := kw2.trans_ k3 (fun _ _ h => h)
 have hr3 := hr2.alt (S := fun i => i = w.heap.size) k3 (fun g o e => hq g o e)
 have hB := kw3.below_ lR (fun i hi e => by omega)
 clear h1 h2 z3 kw2 kw3 hr2 c2 c3 k3
 obtain ⟨x, hx, hx1⟩ : ∃ x : Int, (v : Int) / 23 = x ∧ 0 ≤ x ∧ x ≤ 1 := ⟨_, rfl, by omega⟩
 have hwr : IntKind.i64.wrap ((u : Int) + (v : Int) / 23) = (u : Int) + (v : Int) / 23 := by rw [IntKind.wrap_i64] <;> omega
 go_wp2
 go_ret3
 exact ⟨N, A, m, d, ls, _, rfl, hr3, hm, hN, by omega, hB⟩
end Go.Proofs.Ytjeojnfpeppclaa
namespace Go.Proofs.Ytjeojnfpeppclaa
open Go.RowKit
set_option linter.unusedVariables false
set_option linter.unusedSimpArgs false
set_option maxHeartbeats 2000000 in
theorem Grow0_any (n : Nat) (w : World) (hn : n ≤ 1000000) :
 Calls Try.prog 70 #[.slice none 0 0, .int .i64 n] w fun e w' => ∃ A c, e = .returned (.slice A 0 c) ∧ Own w' w.heap.size w'.heap.size (.slice A 0 c) 0 [] ∧ Below w.heap.size w w' := by
 by_cases h0 : n = 0
 ·subst h0
  go_enter Try.func70, Try.ntmps70
  go_wp2
  go_ret
  exact ⟨none, 0, rfl, Own.none_ _ _ _, Below.refl _ _⟩
 ·obtain ⟨i, hi0, hz0, hz1, hz2⟩ := info_parts info_int
  have hold : (Builtin.firstCells i.size 0 (.slice none 0 0)).run Try.prog w.drew = .ok ([] : List Value).toArray w.drew := run_firstCells_none w.drew i.size 0 0 0
  have hrz : ∀ ty, (Builtin.append_ #[34, 3] ty #[.slice none 0 0, .int .i64 n]).run Try.prog w =
   .ok (.slice (some ⟨w.heap.size, 0, none⟩) n (grownCap w n 0 3)) (w.drew.alloc (.cells (([] : List Value).toArray ++ Builtin.zeroCells (Value.int .i64 0).cells n ++ Builtin.zeroCells (Value.int .i64 0).cells (grownCap w n 0 3 - n)) 3)) := fun ty => by
   have h := Lib.run_append_grow_zeros w 34 3 ty 3 i (.int .i64 0) .i64 .i64 Try.underlying34 Try.underlying3 hi0 hz0 none 0 0 [] hold n (by omega) (by rw [hz1]; decide) (by omega) (by omega)
    (by rw [hz2]; omega)
    (by rw [Nat.zero_add]; exact growslice_fits (by omega) (by rw [hz2]; omega))
   rw [Nat.zero_add] at h
   exact h
  have hGn : n ≤ grownCap w n 0 3 := grownCap_ge w _ _ _
  obtain ⟨G, hG⟩ : ∃ G, G = grownCap w n 0 3 := ⟨_, rfl⟩
  rw [← hG] at hrz hGn
  have hGm : G ≤ maxLen := by rw [hG]; exact grownCap_le_maxLen w n 0 3 (by unfold maxLen; omega)
  have hG63 : G ≤ 9223372036854775807 := by unfold maxLen at hGm; omega
  obtain ⟨C, hC⟩ : ∃ C, C = (([] : List Value).toArray ++ Builtin.zeroCells (Value.int .i64 0).cells n ++ Builtin.zeroCells (Value.int .i64 0).cells (G - n)) := ⟨_, rfl⟩
  rw [← hC] at hrz
  have hCs : C.size = G * 1 := by
   rw [hC]; simp [Builtin.zeroCells, Value.cells]; omega
  have hown : Own (w.drew.alloc (.cells C 3)) w.heap.size (w.drew.alloc (.cells C 3)).heap.size (.slice (some ⟨w.heap.size, 0, none⟩) 0 G) 0 [] := by
   refine ⟨⟨rfl, .inr ⟨w.heap.size, G, C, rfl, Nat.le_refl _, heap_alloc_new w.drew _, Nat.zero_le _, hGm, hCs, by simp⟩⟩, fun g hg => ?_⟩
   have hg' : w.heap.size = g := by simpa [Value.ownBlock] using hg
   subst hg'
   show w.drew.heap.size < _
   simp
  have hb : Below w.heap.size w (w.drew.alloc (.cells C 3)) := (Zak (Below.refl w.heap.size w) 1).alloc lR _
  have h1 : 0 < n := by omega
  clear hold hG hC hCs hi0 hz0 hz1 hz2 i hGm
  go_enter Try.func70, Try.ntmps70
  go_wp2_with (at_builtin; refine Lib.wpList_append_run _ rfl _ _ _ _ rfl _ _ rfl rfl _ _ (hrz _) ?_)
  all_goals (go_ret; exact ⟨_, _, rfl, hown, hb⟩)
theorem gl_take_succ {xss : List (List Int)} {k : Nat} (h : k < xss.length) : (xss.take (k + 1)).flatten = (xss.take k).flatten ++ gl xss k := by
 have hg : gl xss k = xss[k] := by simp [gl, h]
 rw [hg, List.take_succ_eq_append_getElem h, List.flatten_append, List.flatten_cons, List.flatten_nil, List.append_nil]
theorem flat_le {xss : List (List Int)} {M : Nat} (h : ∀ j, j < xss.length → (gl xss j).length ≤ M) : ∀ k, k ≤ xss.length → (xss.take k).flatten.length ≤ M * k := by
 intro k
 induction k with
 | zero => intro _; simp
 | succ k ih =>
  intro hk
  rw [gl_take_succ (by omega), List.length_append, Nat.mul_succ]
  have := ih (by omega)
  have := h k (by omega)
  omega
set_option maxHeartbeats 2000000 in
theorem Concat_any (A : Option Addr) (n c : Nat) (xss : List (List Int)) (w : World) (ha : RII w A n xss) (hn : n ≤ 1000) (hm : ∀ j, j < n → (gl xss j).length ≤ 1000) :
 Calls Try.prog 44 #[.slice A n c] w (RetI w xss.flatten) := by
 have hl := ha.len
 have hfl : Hid (∀ k, k ≤ n → (xss.take k).flatten.length ≤ 1000 * k) := zH (by rw [← hl]; exact flat_le (by rw [hl]; exact hm))
 have hts : Hid (∀ k, k < n → (xss.take (k + 1)).flatten = (xss.take k).flatten ++ gl xss k) := zH (fun k hk => gl_take_succ (by omega))
 have htn : Hid ((xss.take n).flatten = xss.flatten) := zH (by rw [← hl, List.take_length])
 clear hm
 go_enter Try.func44, Try.ntmps44
 go_wp2
 go_loopw [3, 11] (fun s i wr => ∃ k : Nat, k ≤ n ∧ i = .int .i64 k ∧ s = .int .i64 ((xss.take k).flatten.length : Nat) ∧ Below w.heap.size w wr) (fun _ i _ => n - (intOf i).toNat)
 case atStart => exact ⟨0, Nat.zero_le _, rfl, by simp, Below.refl _ _⟩
 case round =>
  obtain ⟨k, hk, rfl, rfl, hb⟩ := hrel
  have hlk := hfl.out k hk
  by_cases hlt : k < n
  ·obtain ⟨b, o, A', m, c', rfl, hbB, hc, hr⟩ := (ha.below hb lR).at_ hlt
   have hrl := hr.len
   have hlk1 := hfl.out (k + 1) hlt
   have hS := zH (hts.out k hlt)
   have hSl : (xss.take (k + 1)).flatten.length = (xss.take k).flatten.length + m := by rw [hS.out, List.length_append, hrl]
   obtain ⟨F, hF⟩ : ∃ F, (xss.take k).flatten.length = F := ⟨_, rfl⟩
   rw [hF] at hlk hSl ⊢
   have HSl : Hid ((xss.take (k + 1)).flatten.length = F + m) := zH hSl
   have hFm : F + m ≤ 1000 * (k + 1) := by rw [hSl] at hlk1; exact hlk1
   clear hSl hF hlk1
   go_wp2
   go_roundw
   case rel => exact ⟨k + 1, by omega, by go_num, by rw [HSl.out]; go_num, hb⟩
   case measure => simp [intOf]; omega
  ·obtain rfl : n = k := Nat.le_antisymm (Nat.le_of_not_lt hlt) hk
   obtain ⟨F, hF⟩ : ∃ F, (xss.take n).flatten.length = F := ⟨_, rfl⟩
   rw [hF] at hlk ⊢
   clear hF
   go_wp2_with fail
   refine (Grow0_any F _ (by omega)).mono ?_
   rintro e w1 ⟨A1, c1, rfl, hown1, hb1⟩
   have hz := hb.size
   have hbx := hb.trans (hb1.mono hz)
   have ho1 := hown1.lo_ hz
   go_wp2
   go_loopw [6, 27] (fun v i wr => ∃ (k : Nat) (O : Option Addr) (m oc : Nat), k ≤ n ∧ i = .int .i64 k ∧ v = .slice O m oc ∧ Own wr w.heap.size wr.heap.size (.slice O m oc) m (xss.take k).flatten ∧ Below w.heap.size w wr) (fun _ i _ => n - (intOf i).toNat)
   case atStart => exact ⟨0, _, _, _, Nat.zero_le _, rfl, rfl, by simpa using ho1.now, hbx⟩
   case round =>
    clear hown1 hb1 hbx ho1 hz hlk
    obtain ⟨k, O, m, oc, hk, rfl, rfl, hown, hb⟩ := hrel
    have hlk := hfl.out k hk
    have hol := hown.len
    have hz := hb.size
    by_cases hlt : k < n
    ·obtain ⟨b, o, A', q, c', rfl, hbB, hc, hr⟩ := (ha.below hb lR).at_ hlt
     have hrl := hr.len
     have hlk1 := hfl.out (k + 1) hlt
     have hS := zH (hts.out k hlt)
     have hSl : (xss.take (k + 1)).flatten.length = (xss.take k).flatten.length + q := by rw [hS.out, List.length_append, hrl]
     rw [hSl, hol] at hlk1
     clear hSl
     go_wp2_with (at_builtin; refine Zae _ rfl _ _ rfl rfl hown rfl hr (by omega) oM ?_; intro A5 c5 w5 hown5 hg5 hat5 hk5)
     have hb5 := Zaf hb hown hg5 hz lR
     rw [← hS.out] at hown5
     clear hown hg5 hat5 hk5 hS hr hc
     go_wp2
     go_roundw
     case rel => exact ⟨k + 1, _, _, _, by omega, by go_num, rfl, hown5, hb5⟩
     case measure => simp [intOf]; omega
    ·obtain rfl : n = k := Nat.le_antisymm (Nat.le_of_not_lt hlt) hk
     rw [htn.out] at hown
     go_wp2
     go_ret
     exact RetI.mk_ hown.len rfl hown hb
def sameG (o g : G3) : Bool := (o.k == g.k) && (((o.a == g.a) && (o.b == g.b)) || (((o.k == 0) || (o.k == 1)) && ((o.a == g.b) && (o.b == g.a))))
def same1 (hs : List G3) (g : G3) : Nat := hs.findIdx fun o => sameG o g
theorem gi_append_r (xs : List Int) (v : Int) : gi (xs ++ [v]) xs.length = v := by
 unfold gi; simp
theorem RI.takeK_ {w : World} {A : Option Addr} {n : Nat} {xs : List Int} (h : RI w A n xs) (k : Nat) (hk : k ≤ n) : RI w A k (xs.take k) := by
 have hl := h.len
 refine ⟨by simp; omega, fun hn => ?_⟩
 obtain ⟨b, o, hA, hlt, hc⟩ := h.2 (by omega)
 refine ⟨b, o, hA, hlt, fun j hj => ?_⟩
 rw [hc j (by omega)]
 congr 2
 unfold gi; rw [List.getD_eq_getElem?_getD, List.getD_eq_getElem?_getD, List.getElem?_take_of_lt hj]
theorem RI.dropK_ {w : World} {b o n : Nat} {xs : List Int} (h : RI w (some ⟨b, o, none⟩) n xs) (k : Nat) (hk : k ≤ n) : RI w (some ⟨b, o + k, none⟩) (n - k) (xs.drop k) := by
 have hl := h.len
 refine ⟨by simp; omega, fun hn => ?_⟩
 obtain ⟨b', o', hA, hlt, hc⟩ := h.2 (by omega)
 injection hA with hA
 injection hA with h1 h2
 subst h1; subst h2
 refine ⟨b, o + k, rfl, hlt, fun j hj => ?_⟩
 rw [show o + k + j = o + (k + j) from by omega, hc (k + j) (by omega)]
 congr 2
 unfold gi; rw [List.getD_eq_getElem?_getD, List.getD_eq_getElem?_getD, List.getElem?_drop]
structure Tb where
 c : Bool
 w : Int
 t : Bool
def onceG (gs : List G3) (g : G3) : List G3 := if same1 gs g < gs.length then gs else gs ++ [g]
def onceW (X : Nat) (gs : List G3) (g : G3) : Int := (X : Int) + (same1 gs g : Nat)
def made1 (X : Nat) (gs : List G3) (x : Tb) : List G3 × Int := if x.c then (onceG gs ⟨3, 0, 0⟩, onceW X gs ⟨3, 0, 0⟩) else (gs, x.w)
def made2 (X : Nat) (s : List G3 × Int) (t : Bool) : List G3 × Int := if t then (onceG s.1 ⟨2, s.2, 0⟩, onceW X s.1 ⟨2, s.2, 0⟩) else s
def made (X : Nat) (gs : List G3) (x : Tb) : List G3 × Int := made2 X (made1 X gs x) x.t
def MkO (w : World) (lo b : Nat) (x y : Int) (Ao : Option Addr) (no co : Nat) (gs : List G3) (G : Option Nat) : Prop :=
 b < w.heap.size ∧ G ≠ some b ∧ (∀ q, w.frozen? ⟨b, q, none⟩ = false) ∧ ∃ Ag cg, BxC w b x y Ag gs.length cg Ao no co ∧ OwnG w lo w.heap.size (.slice Ag gs.length cg) gs.length gs ∧ (Value.slice Ag gs.length cg).ownBlock = G
section
variable {w w' : World} {lo b : Nat} {x y : Int} {Ao : Option Addr} {no co : Nat} {gs : List G3} {G : Option Nat}
theorem MkO.lt (h : MkO w lo b x y Ao no co gs G) : ∀ g, G = some g → lo ≤ g ∧ g < w.heap.size := by
 obtain ⟨_, _, _, Ag, cg, _, ho, he⟩ := h
 intro g hg; have := ho.lt g (he.trans hg); omega
theorem MkO.below_ {B : Nat} (h : MkO w lo b x y Ao no co gs G) (k : Below B w w') (hB : w.heap.size ≤ B) : MkO w' lo b x y Ao no co gs G := by
 obtain ⟨h1, h2, hf, Ag, cg, hx, ho, he⟩ := h
 exact ⟨Nat.lt_of_lt_of_le h1 k.size, h2, fun q => (k.frozen (p := ⟨b, q, none⟩) (by show b < B; omega)).trans (hf q), Ag, cg, hx.below (k.mono hB), (ho.below k (.inl hB)).now, he⟩
theorem MkO.outs (h : MkO w lo b x y Ao no co gs G) (A' : Option Addr) (n' c' : Nat) : MkO (w.setCell ⟨b, 3, none⟩ (.slice A' n' c')) lo b x y A' n' c' gs G := by
 obtain ⟨h1, h2, hf, Ag, cg, hx, ho, he⟩ := h
 refine ⟨by simpa using h1, h2, fun q => (World.frozen?_setCell _ _ _ _).trans (hf q), Ag, cg, hx.setO _ _ _, ?_, he⟩
 simpa using ho.far1 ⟨b, 3, none⟩ (.slice A' n' c') (he ▸ h2)
theorem Mv.outs {W : World} {G1 : Option Nat} (h : Mv b G G1 W w) (v : Value) (q : Nat) : Mv b G G1 W (w.setCell ⟨b, q, none⟩ v) :=
 ⟨h.os, h.tape, h.output, by simpa using h.size, fun k hk hkb hkG => by rw [Below.heap_setCell _ _ _ _ hkb]; exact h.block k hk hkb hkG, h.own⟩
end
end Go.Proofs.Ytjeojnfpeppclaa
