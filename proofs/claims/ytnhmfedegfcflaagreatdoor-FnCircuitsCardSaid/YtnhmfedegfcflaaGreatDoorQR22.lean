/- ParseCircuit of the program: it answers what the plain reader answers. Texts below 2^21 bytes. -/
import Derived.Test.YtnhmfedegfcflaaGreatDoorQR15
namespace Go.Proofs.YtnhmfedegfcflaaGreatDoor
open Go.RowKit
set_option linter.unusedVariables false
set_option linter.unusedSimpArgs false
theorem slice_tail (q n c : Nat) (hc : n + 1 ≤ c) : ∃ TA : Option Addr, (∀ (w : World) (l : List (List UInt8)), RX w (some ⟨q, 0, none⟩) (n + 1) l → RX w TA n l.tail) ∧ (∀ b o, TA = some ⟨b, o, none⟩ → b = q) ∧
 ∀ W : World, (Instr.slice 77 (.slice (some ⟨q, 0, none⟩) (n + 1) c) (some (.int .i64 1)) none none).run Tryz.prog W = .ok (.slice TA n (c - 1)) W := by
 by_cases h : c = 1
 ·subst h
  obtain rfl : n = 0 := by omega
  refine ⟨some ⟨q, 0, none⟩, fun w l h => ⟨by have := h.1; simp; omega, fun h => absurd h (by omega)⟩, fun b o h => by simp only [Option.some.injEq, Addr.mk.injEq] at h; exact h.1.symm, fun W => ?_⟩
  have hu : Tryz.prog.elem 77 = 9 := by kernel_rfl
  rw [run_slice_l W 77 _ _ _ (by rw [hu]; exact Tryz.underlying77) .i64 1 (by omega) (by simp)]
  go_simp
 ·refine ⟨some ⟨q, 1, none⟩, fun w l h => by simpa using h.tail_, fun b o h => by simp only [Option.some.injEq, Addr.mk.injEq] at h; exact h.1.symm, fun W => ?_⟩
  have hu : Tryz.prog.elem 77 = 9 := by kernel_rfl
  rw [run_slice_l W 77 _ _ _ (by rw [hu]; exact Tryz.underlying77) .i64 1 (by omega) (by omega)]
  go_simp
attribute [local go_sem] sepAt sepUpon pureAt pureUpon
theorem sx_head {l : List (List UInt8)} (h : 1 ≤ l.length) : sx l 0 = l.headD [] := by
 cases l with
 | nil => simp at h
 | cons x l => rfl
def partI (L : List (List UInt8)) (j : Nat) : Ci := (L.take j).foldl (fun c l => stepI c (pcs 42 32 l)) ⟨0, 0, [], []⟩
theorem partI_succ {L : List (List UInt8)} {j : Nat} (h : j < L.length) : partI L (j + 1) = stepI (partI L j) (pcs 42 32 (sx L j)) := by
 have e : sx L j = L[j] := by simp [sx, List.getD, List.getElem?_eq_getElem h]
 rw [partI, partI, List.take_succ_eq_append_getElem h, List.foldl_append, e]; rfl
theorem stepI_len (c : Ci) (ws : List (List UInt8)) : (stepI c ws).gs.length ≤ c.gs.length + 1 ∧ ((stepI c ws).os.length ≤ c.os.length ∨ (stepI c ws).os.length ≤ ws.length) := by
 unfold stepI
 split
 ·exact ⟨Nat.le_succ _, .inl lR⟩
 ·split
  ·exact ⟨Nat.le_succ _, .inr (by simp)⟩
  ·split
   ·exact ⟨by simp, .inl lR⟩
   ·exact ⟨Nat.le_succ _, .inl lR⟩
theorem partI_len (L : List (List UInt8)) : ∀ j, j ≤ L.length → (partI L j).gs.length ≤ j ∧ (partI L j).os.length ≤ 42 := by
 intro j
 induction j with
 | zero => intro _; simp [partI]
 | succ j ih =>
  intro hj
  have h1 := ih (by omega)
  have h2 := stepI_len (partI L j) (pcs 42 32 (sx L j))
  have h3 := pcs_len 42 32 (sx L j) (by omega)
  rw [partI_succ (by omega)]
  omega
set_option maxRecDepth 100000 in
set_option maxHeartbeats 4000000 in
theorem ParseCircuit_any (s : List UInt8) (w : World) (hs : s.length ≤ 2097152) (hG : GWs w) (hT : PT w) (hM : ML w) (hE : EV w) :
 Calls Tryz.prog 20 #[.string (bs s)] w (RetC w (ansC (parseI s) s)) := by
 have hA1 : Below w.heap.size w (w.alloc (.cells #[.int .i64 0, .int .i64 0, .slice none 0 0, .slice none 0 0] 27)) := bA
 have hr0 : BxC (w.alloc (.cells #[.int .i64 0, .int .i64 0, .slice none 0 0, .slice none 0 0] 27)) w.heap.size 0 0 none 0 0 none 0 0 := BxC.new w _
 have hA2 : Below (w.heap.size + 1) (w.alloc (.cells #[.int .i64 0, .int .i64 0, .slice none 0 0, .slice none 0 0] 27)) ((w.alloc (.cells #[.int .i64 0, .int .i64 0, .slice none 0 0, .slice none 0 0] 27)).alloc (.cells #[.int .i64 0, .int .i64 0, .slice none 0 0, .slice none 0 0] 27)) := (Below.refl _ _).alloc (by simp) _
 have hx0 : PX ((w.alloc (.cells #[.int .i64 0, .int .i64 0, .slice none 0 0, .slice none 0 0] 27)).alloc (.cells #[.int .i64 0, .int .i64 0, .slice none 0 0, .slice none 0 0] 27)) (w.heap.size + 2) (w.heap.size + 1) ⟨0, 0, [], []⟩ none 0 none 0 := by simpa using PX.new (w.alloc (.cells #[.int .i64 0, .int .i64 0, .slice none 0 0, .slice none 0 0] 27)) (w.heap.size + 2) 27
 have hB2 : Below w.heap.size w ((w.alloc (.cells #[.int .i64 0, .int .i64 0, .slice none 0 0, .slice none 0 0] 27)).alloc (.cells #[.int .i64 0, .int .i64 0, .slice none 0 0, .slice none 0 0] 27)) := hA1.trans (hA2.mono (by omega))
 have hsz2 : ((w.alloc (.cells #[.int .i64 0, .int .i64 0, .slice none 0 0, .slice none 0 0] 27)).alloc (.cells #[.int .i64 0, .int .i64 0, .slice none 0 0, .slice none 0 0] 27)).heap.size = w.heap.size + 2 := by simp
 have hrz : BxC ((w.alloc (.cells #[.int .i64 0, .int .i64 0, .slice none 0 0, .slice none 0 0] 27)).alloc (.cells #[.int .i64 0, .int .i64 0, .slice none 0 0, .slice none 0 0] 27)) w.heap.size 0 0 none 0 0 none 0 0 := hr0.below (hA2.mono (by simp))
 have fz0 : Fz ((w.alloc (.cells #[.int .i64 0, .int .i64 0, .slice none 0 0, .slice none 0 0] 27)).alloc (.cells #[.int .i64 0, .int .i64 0, .slice none 0 0, .slice none 0 0] 27)) w.heap.size := (Fz.new w _ _).below hA2 (by omega)
 obtain ⟨L, hL⟩ := lT (pcs 304 10 s)
 have hLl := pcs_len 304 10 s (by omega)
 have hLs : ∀ x ∈ pcs 304 10 s, x.length ≤ s.length := fun x hx => pcs_small hx
 have hsp := fun w' h => SplitN_any s 10 304 w' hs (by omega) (by omega) h
 rw [hL.out] at hLl hLs
 rw [hL.out] at hsp
 have hpI : Hid (partI L L.length = parseI s) := zH (by rw [parseI, hL.out, partI, List.take_length])
 clear hr0 hA2
 go_enter Tryz.func20, Tryz.ntmps20
 go_wp2_with fail
 refine (hsp _ (hM.below hB2 lR)).mono ?_
 rintro e v2 ⟨q, cq, rfl, hcq, hq, hX, hb2⟩
 clear hsp
 have hq2 : q < v2.heap.size := by
  obtain ⟨b', o', h1, h2, _⟩ := hX.2 (by omega)
  simp only [Option.some.injEq, Addr.mk.injEq, and_true] at h1
  rw [h1.1]; exact h2
 rw [hsz2] at hq
 have hz2 := hb2.size
 rw [hsz2] at hz2
 have hx2 := hx0.below hb2 lR
 have hr2 := hrz.below hb2
 have fz2 := fz0.below hb2 (by rw [hsz2]; omega)
 have hB3 := hB2.trans (hb2.mono (by rw [hsz2]; omega))
 clear hx0 hrz fz0 hb2 hB2 hA1 hsz2
 go_wp2
 go_loopw [19] (fun i wr => ∃ (j : Nat) (A : Option Addr) (ca : Nat) (O : Option Addr) (co : Nat), j ≤ L.length ∧ i = .int .i64 j ∧ PX wr (w.heap.size + 2) (w.heap.size + 1) (partI L j) A ca O co ∧ (∀ g, (Value.slice A (partI L j).gs.length ca).ownBlock = some g → v2.heap.size ≤ g) ∧ (∀ g, (Value.slice O (partI L j).os.length co).ownBlock = some g → v2.heap.size ≤ g) ∧ Alt (fun i => i = w.heap.size + 1) v2 wr) (fun i _ => L.length - (intOf i).toNat)
 case atStart => exact ⟨0, none, 0, none, 0, Nat.zero_le _, rfl, hx2, by simp [Value.ownBlock], by simp [Value.ownBlock], Alt.refl_ _ _⟩
 case round =>
  clear hx2
  obtain ⟨j, A, ca, O, co, hj, rfl, hp, hgA, hgO, hk⟩ := hrel
  have hXr := hX.alt hk (fun b o hbo => by simp only [Option.some.injEq, Addr.mk.injEq, and_true] at hbo; omega)
  have hBr : Below w.heap.size w wr := hB3.trans (hk.below_ (by omega) (fun i hi hc => by omega))
  by_cases hlt : j < L.length
  ·have hpn := partI_succ hlt
   have hplen := partI_len L j hj
   obtain ⟨b1, o1, hqo, hb1, d1⟩ := hXr.at_ hlt
   simp only [Option.some.injEq, Addr.mk.injEq, and_true] at hqo
   obtain ⟨rfl, rfl⟩ := hqo
   rw [Nat.zero_add] at d1
   have hls := hLs _ (sx_mem (l := L) (j := j) hlt)
   obtain ⟨ln, hln⟩ := lT (sx L j)
   rw [hln.out] at d1 hls hpn
   obtain ⟨C, hC⟩ := lT (partI L j)
   rw [hC.out] at hp hgA hgO hpn hplen
   have hW1 := pcs_len 42 32 ln (by omega)
   have hWs : ∀ x ∈ pcs 42 32 ln, x.length ≤ ln.length := fun x hx => pcs_small hx
   obtain ⟨W, hW⟩ := lT (pcs 42 32 ln)
   have hspl := fun w' h => SplitN_any ln 32 42 w' (by omega) (by omega) (by omega) h
   rw [hW.out] at hW1 hWs hpn
   rw [hW.out] at hspl
   go_wp2_with fail
   refine (hspl _ (hM.below hBr lR)).mono ?_
   rintro e v3 ⟨q3, c3, rfl, hc3, hq3, hX3, hb3⟩
   obtain ⟨b4, o4, hqo, hb4, d4⟩ := hX3.at_ (k := 0) (by omega)
   simp only [Option.some.injEq, Addr.mk.injEq, and_true] at hqo
   obtain ⟨rfl, rfl⟩ := hqo
   rw [Nat.zero_add] at d4
   obtain ⟨n, hn⟩ : ∃ n, W.length = n + 1 := ⟨W.length - 1, by omega⟩
   simp only [hn] at hX3 hc3 ⊢
   obtain ⟨TA, hTA, hTq, hsl⟩ := slice_tail q3 n c3 hc3
   have hXt := hTA v3 W hX3
   have hB3r := hBr.trans (hb3.mono hBr.size)
   have hWt : ∀ x ∈ W.tail, x.length ≤ 2097152 := fun x hx => by have := hWs x (List.mem_of_mem_tail hx); omega
   go_wp2_with fail
   have hni := numbersIn_any TA n (c3 - 1) W.tail v3 hXt hWt (by omega) (hE.below hB3r lR)
   have htl : (W.tail.map atoiV).length = n := by simp [hn]
   refine hni.mono ?_
   rintro e v4 hT4
   obtain ⟨A4, c4, rfl, ho4, hb4⟩ := hT4.open_ htl
   clear hni
   obtain ⟨wd, hwd⟩ := lT (sx W 0)
   rw [hwd.out] at d4
   have d5 := Zae d4 hb4
   have hB4r := hB3r.trans (hb4.mono hB3r.size)
   obtain ⟨l, hl⟩ := lT (W.tail.map atoiV)
   rw [hl.out] at ho4 htl
   go_wp2_with fail
   refine Zai (v4.heap.size) (v4) [(⟨q3, 0, none⟩, .string (bs wd)), (⟨q3, 0, none⟩, .string (bs wd))] (by kernel_rfl) (by kernel_rfl) (by simp only [List.mem_cons, forall_eq_or_imp, List.not_mem_nil, false_implies, implies_true, and_true]; repeat (any_goals (apply And.intro)); all_goals (first | assumption | go_simp)) ?_
   repeat (first
    | go_big_quiet_skip
    | (go_big_quiet_want
       apply Exists.intro
       refine ⟨fun w3 hw3 => ?_, ?_⟩
       ·have hcs := hw3.2
        simp only [List.mem_cons, forall_eq_or_imp, List.not_mem_nil, false_implies, implies_true, and_true] at hcs
        simp only [Oper.quietAt]
        go_simp
        first | done | exact ⟨rfl, rfl⟩ | rfl | (refine (Index_any wd _ (hG.below (hB4r.trans (hw3.1.mono hB4r.size)) lR)).mono ?_; rintro e w5 ⟨rfl, rfl⟩; exact ⟨rfl, hw3⟩)
       go_big_quiet_on
       try simp only [pA, pB, sA, sB, sC]))
   refine wpQuiet_nil ?_
   intro wq hwq
   have hbq := hwq.1
   have d6 := Zae d5 hbq
   have ho6 := ho4.below hbq (.inl lR)
   have hB6 := hB4r.trans (hbq.mono hB4r.size)
   have hz46 := hbq.size
   have hz34 := hb4.size
   have hz3 := hb3.size
   clear hwq d4 d5 hspl hX3 hXt hTA hTq hT4 hsl ho4 d1
   have hAw : Below wq.heap.size wq (wq.alloc (.cells #[.int .i64 0, .int .i64 0] 3)) := bA
   go_wp2_with fail
   refine (with_any A4 _ n c4 2 2 l [0, 0] _ ((ho6.below hAw (.inl lR)).reads) (RI_new2 wq 0 0 _) (by omega) (by omega)).mono ?_
   rintro e v7 ⟨A7, c7, rfl, ho7, hb7⟩
   have d7 := Zae (Zae d6 hAw) hb7
   have ho8 := (ho6.below hAw (.inl lR)).below hb7 (.inl lR)
   have hz67 : wq.heap.size ≤ v7.heap.size := Nat.le_trans hAw.size hb7.size
   have hb37 : Below wr.heap.size wr v7 := hb3.trans ((hb4.trans ((hbq.trans ((hAw.trans (hb7.mono hAw.size)).mono hz46)).mono hz34)).mono hz3)
   have hp7 := hp.below hb37 lR
   have hk7 := hk.new_ hb37
   obtain ⟨kb, ob, rfl, hkb, hcs⟩ := ho7.reads.2 (by omega)
   have e0 := hcs 0 (by omega)
   have e1 := hcs 1 (by omega)
   rw [Nat.add_zero] at e0
   obtain ⟨za, hza⟩ := lT (gi (l ++ [0, 0]) 0)
   obtain ⟨zb, hzb⟩ := lT (gi (l ++ [0, 0]) 1)
   rw [hza.out] at e0
   rw [hzb.out] at e1
   have hzr := hp7.lt
   have hwd' : Hid (W.headD [] = wd) := zH (by rw [← sx_head (by omega)]; exact hwd.out)
   have hgAw : ∀ g, (Value.slice A C.gs.length ca).ownBlock = some g → g < wr.heap.size := fun g hg => (hp.ox.1.1.lt g hg).2.2
   have hbw := hp.lt
   have hzk := hk.size
   clear hb3 hb4 hbq hAw hb7 d6 ho6 hp hk hcs hwd
   have hq := hp7.bx; obtain ⟨m0, m1, m2, m3⟩ := hq
   have f0 := hp7.fz 0; have f1 := hp7.fz 1; have f2 := hp7.fz 2; have f3 := hp7.fz 3
   by_cases h1 : wd = cirW
   ·have hst : Hid (stepI C W = { C with i0 := za, i1 := zb }) := zH (by
     rw [stepI, hwd'.out, if_pos h1, hl.out, hza.out, hzb.out])
    have t1 : ((bs wd).toList == [99, 105, 114, 99, 117, 105, 116]) = true := bs_is h1
    rw [hst.out] at hpn
    have HPN := zH hpn
    clear hpn hst h1 hwd'
    have hkb2 : kb ≠ w.heap.size + 1 := by have := ho7.lt kb (by simp [Value.ownBlock]); simp at this; omega
    have e0' : ∀ u, (v7.setCell ⟨w.heap.size + 1, 1, none⟩ u).cell? ⟨kb, ob, none⟩ = some (.int .i64 za) := fun u => (World.cell?_setCell_other _ _ _ _ (by first | (simp; done) | (simp; omega))).trans e0
    have e1' : ∀ u, (v7.setCell ⟨w.heap.size + 1, 0, none⟩ u).cell? ⟨kb, ob + 1, none⟩ = some (.int .i64 zb) := fun u => (World.cell?_setCell_other _ _ _ _ (by first | (simp; done) | (simp; omega))).trans e1
    have p1 := (hp7.set0 za).set1 zb
    have p2 := (hp7.set1 zb).set0 za
    have k1 := (hk7.set_ ⟨w.heap.size + 1, 0, none⟩ (.int .i64 za) (fun _ => rfl)).set_ ⟨w.heap.size + 1, 1, none⟩ (.int .i64 zb) (fun _ => rfl)
    have k2 := (hk7.set_ ⟨w.heap.size + 1, 1, none⟩ (.int .i64 zb) (fun _ => rfl)).set_ ⟨w.heap.size + 1, 0, none⟩ (.int .i64 za) (fun _ => rfl)
    go_wp2_with fail
    go_region
    all_goals
     go_wp2
     go_roundw
     case rel =>
      first
       | exact ⟨j + 1, A, ca, O, co, by omega, by go_num, by rw [HPN.out]; exact p1.below (Below.refl _ _).drew lR, by rw [HPN.out]; exact hgA, by rw [HPN.out]; exact hgO, k1.new_ (Below.refl _ _).drew⟩
       | exact ⟨j + 1, A, ca, O, co, by omega, by go_num, by rw [HPN.out]; exact p2.below (Below.refl _ _).drew lR, by rw [HPN.out]; exact hgA, by rw [HPN.out]; exact hgO, k2.new_ (Below.refl _ _).drew⟩
     case measure => simp [intOf]; omega
   ·by_cases h2 : wd = outW
    ·have hst : Hid (stepI C W = { C with os := l }) := zH (by
      rw [stepI, hwd'.out, if_neg h1, if_pos h2, hl.out])
     have t1 : ((bs wd).toList == [99, 105, 114, 99, 117, 105, 116]) = false := bs_not h1
     have t2 : ((bs wd).toList == [111, 117, 116, 115]) = true := bs_is h2
     rw [hst.out] at hpn
     have HPN := zH hpn
     have p1 := hp7.outs ho8.now (by omega) (fun g hg => by have := hgAw g hg; omega) (by omega)
     have k1 := hk7.set_ ⟨w.heap.size + 1, 3, none⟩ (.slice A4 n c4) (fun _ => rfl)
     have hgO1 : ∀ g, (Value.slice A4 l.length c4).ownBlock = some g → v2.heap.size ≤ g := fun g hg => by
      rw [htl] at hg
      have := ho8.lt g hg
      omega
     clear hpn hst h1 h2 hwd' ho8
     go_wp2
     go_roundw
     case rel => exact ⟨j + 1, A, ca, A4, c4, by omega, by go_num, by rw [HPN.out]; exact p1, by rw [HPN.out]; exact hgA, by rw [HPN.out]; exact hgO1, k1⟩
     case measure => simp [intOf]; omega
    ·by_cases h3 : 0 ≤ kindW wd
     ·have hst : Hid (stepI C W = { C with gs := C.gs ++ [⟨kindW wd, za, zb⟩] }) := zH (by
       rw [stepI, hwd'.out, if_neg h1, if_neg h2, if_pos h3, hl.out, hza.out, hzb.out])
      have t1 : ((bs wd).toList == [99, 105, 114, 99, 117, 105, 116]) = false := bs_not h1
      have t2 : ((bs wd).toList == [111, 117, 116, 115]) = false := bs_not h2
      rw [hst.out] at hpn
      have HPN := zH hpn
      have hlt7 : ∀ g, (Value.slice A C.gs.length ca).ownBlock = some g → g < v7.heap.size := fun g hg => (hp7.ox.1.1.lt g hg).2.2
      have hnb : ¬ (Value.slice A C.gs.length ca).ownBlock = some (w.heap.size + 1) := hp7.ox.2.1
      have hnk : ¬ (Value.slice A C.gs.length ca).ownBlock = some kb := fun hc => by
       have h8 := hgAw kb hc
       have h9 := ho7.lt kb (by simp [Value.ownBlock])
       simp at h9; omega
      obtain ⟨K, hK⟩ := lT (kindW wd)
      have h3' : 0 ≤ K := by rw [← hK.out]; exact h3
      rw [hK.out] at HPN h3
      rw [hK.out]
      have i0 : (0 : Int) < (n : Int) + 2 := by omega
      have i1 : (1 : Int) < (n : Int) + 2 := by omega
      have i2 : (0 : Int) < ((n + 2 : Nat) : Int) := by omega
      have i3 : (1 : Int) < ((n + 2 : Nat) : Int) := by omega
      clear hpn hst h1 h2 hwd' ho8 h3
      go_wp2_with fail
      go_wp2_with fail
      refine Zau (12) ((fun i => (Value.slice A C.gs.length ca).ownBlock = some i)) [(⟨w.heap.size + 1, 2, none⟩, .slice A C.gs.length ca), (⟨kb, ob, none⟩, .int .i64 za), (⟨kb, ob + 1, none⟩, .int .i64 zb)] [(10, [], []), (11, [100, 10], [100])] [100] [11] [(100, Res.rowG (w.heap.size + 2) C.gs.length C.gs), (10, Res.rowG (w.heap.size + 2) 1 [⟨K, za, zb⟩]), (11, Res.rowG (w.heap.size + 2) (C.gs.length + 1) (C.gs ++ [⟨K, za, zb⟩]))] ((upd (fun _ => undef) 100 (.slice A C.gs.length ca))) (by kernel_rfl) (by kernel_rfl) (by kernel_rfl) (by simp only [cD, cC, and_true]; repeat (any_goals (apply And.intro)); all_goals (first | assumption | go_simp)) (fun q9 hq9 => by simp only [List.mem_cons, List.not_mem_nil, or_false] at hq9; rcases hq9 with rfl | rfl | rfl <;> first | exact hnb | exact hnk) (⟨⟨hp7.ox.1.1, fun i hi => ⟨.inr hi, hlt7 i hi⟩⟩, trivial⟩) (Zca) ?_
      simp only [List.take_succ_cons, List.take_zero, List.drop_succ_cons, List.drop_zero, List.take_nil, List.drop_nil, List.take, List.drop]
      repeat (first
       | ((first
        | ((with_reducible refine Zad ?_ ?_ ?_)
           ·exact rfl
           ·exact rfl)
        | ((with_reducible refine Zag ?_ ?_ ?_)
           ·exact rfl
           ·exact Zaa rfl rfl rfl rfl))
          intro K hK
          apply Exists.intro
          refine ⟨fun w3 hw3 => ?_, ?_⟩
          ·have hcs := hw3
           simp only [cD, cC, and_true] at hcs
           clear hw3
           go_simp
           first | done | exact ⟨rfl, rfl⟩ | rfl
          refine hK _ ?_
          clear hK K
          try simp only [pA, pB, sA, sB, sC])
       | ((with_reducible refine Zaf ?_ ?_ ?_)
          ·exact rfl
          ·exact Zab rfl rfl rfl rfl
          simp only [pA, pB, sA, sB, sC]))
      focus
       (with_reducible refine mem_rowG (w.heap.size + 2) 1 [⟨K, za, zb⟩] ?_ ?_ ?_ ?_ ?_ (hw := ?_))
       ·exact rfl
       ·exact rfl
       ·omega
       ·intro w3 hw3 hc3 hp3
        have hcs := hc3
        simp only [cD, cC, and_true] at hcs
        (go_simp; exact postRowG_one _ ⟨K, za, zb⟩)
       rotate_left
       ·first | exact Zac rfl | exact Zaa rfl rfl rfl rfl
       intro A3 c3'
       try simp only [pA, pB, sA, sB, sC]
      repeat (first
       | ((first
        | ((with_reducible refine Zad ?_ ?_ ?_)
           ·exact rfl
           ·exact rfl)
        | ((with_reducible refine Zag ?_ ?_ ?_)
           ·exact rfl
           ·exact Zaa rfl rfl rfl rfl))
          intro K hK
          apply Exists.intro
          refine ⟨fun w3 hw3 => ?_, ?_⟩
          ·have hcs := hw3
           simp only [cD, cC, and_true] at hcs
           clear hw3
           go_simp
           first | done | exact ⟨rfl, rfl⟩ | rfl
          refine hK _ ?_
          clear hK K
          try simp only [pA, pB, sA, sB, sC])
       | ((with_reducible refine Zaf ?_ ?_ ?_)
          ·exact rfl
          ·exact Zab rfl rfl rfl rfl
          simp only [pA, pB, sA, sB, sC]))
      refine mem_appG 100 (w.heap.size + 2) C.gs.length 1 C.gs [⟨K, za, zb⟩] A ca A3 c3' (.tmp 60) (.tmp 69) (by rfl) (by rfl) (by omega) (by rfl) (by rfl) (by decide) (by rfl) (by rfl) (by rfl) (by rfl) (by omega) (fun w3 hw3 hc3 hp3 => ?_) (fun G' cG' => ?_)
      ·have h3 : OwnG w3 (w.heap.size + 2) w3.heap.size (.slice A3 1 c3') 1 [⟨K, za, zb⟩] := hp3.1.2.1.1
       exact h3.reads
      try simp only [pA, pB, sA, sB, sC]
      repeat (first
       | ((first
        | ((with_reducible refine Zad ?_ ?_ ?_)
           ·exact rfl
           ·exact rfl)
        | ((with_reducible refine Zag ?_ ?_ ?_)
           ·exact rfl
           ·exact Zaa rfl rfl rfl rfl))
          intro K hK
          apply Exists.intro
          refine ⟨fun w3 hw3 => ?_, ?_⟩
          ·have hcs := hw3
           simp only [cD, cC, and_true] at hcs
           clear hw3
           go_simp
           first | done | exact ⟨rfl, rfl⟩ | rfl
          refine hK _ ?_
          clear hK K
          try simp only [pA, pB, sA, sB, sC])
       | ((with_reducible refine Zaf ?_ ?_ ?_)
          ·exact rfl
          ·exact Zab rfl rfl rfl rfl
          simp only [pA, pB, sA, sB, sC]))
      refine Zat ?_
      intro wy hwy hcy hfin hap
      have hG4 : OwnG wy (w.heap.size + 2) wy.heap.size (.slice G' (C.gs.length + 1) cG') (C.gs.length + 1) (C.gs ++ [⟨K, za, zb⟩]) := hfin.1.1
      have hokG : ∀ b, (Value.slice G' (C.gs.length + 1) cG').ownBlock = some b → okB v7 (fun i => (Value.slice A C.gs.length ca).ownBlock = some i) b := fun b hb => (hfin.1.2 b hb).1
      have p1 := hp7.gate hwy hG4 hokG
      have k0 : Alt (fun i => i = w.heap.size + 1) v2 wy := hk7.via hwy hgA
      have k1 := k0.set_ ⟨w.heap.size + 1, 2, none⟩ (.slice G' (C.gs.length + 1) cG') (fun _ => rfl)
      have hgA1 : ∀ g, (Value.slice G' (C.gs ++ [(⟨K, za, zb⟩ : G3)]).length cG').ownBlock = some g → v2.heap.size ≤ g := fun g hg => by
       have h8 := hokG g (by simpa [Value.ownBlock] using hg)
       rcases h8 with h8 | h8
       ·have := hk7.size; omega
       ·exact hgA g h8
      have hbS : ¬ okB v7 (fun i => (Value.slice A C.gs.length ca).ownBlock = some i) (w.heap.size + 1) := fun hc => hc.elim (fun h => by omega) hnb
      have hq := hp7.bx.alt hwy hbS; obtain ⟨m0, m1, m2, m3⟩ := hq
      have f2 := (hp7.fz.alt hwy hzr hbS) 2
      clear hfin hap hcy hwy hG4 hokG
      go_wp2
      go_roundw
      case rel => exact ⟨j + 1, G', cG', O, co, by omega, by go_num, by rw [HPN.out]; exact p1, by rw [HPN.out]; exact hgA1, by rw [HPN.out]; exact hgO, k1⟩
      case measure => simp [intOf]; omega
     ·have hst : Hid (stepI C W = C) := zH (by
       rw [stepI, hwd'.out, if_neg h1, if_neg h2, if_neg h3])
      have t1 : ((bs wd).toList == [99, 105, 114, 99, 117, 105, 116]) = false := bs_not h1
      have t2 : ((bs wd).toList == [111, 117, 116, 115]) = false := bs_not h2
      rw [hst.out] at hpn
      have HPN := zH hpn
      clear hpn hst h1 h2 hwd'
      go_wp2
      go_roundw
      case rel => exact ⟨j + 1, A, ca, O, co, by omega, by go_num, by rw [HPN.out]; exact hp7, by rw [HPN.out]; exact hgA, by rw [HPN.out]; exact hgO, hk7⟩
      case measure => simp [intOf]; omega
  ·obtain rfl : j = L.length := by omega
   have hpb := partI_len L L.length lR
   rw [hpI.out] at hp hgA hgO hpb
   obtain ⟨C, hC⟩ := lT (parseI s)
   rw [hC.out] at hp hgA hgO hpb
   have hrr := hr2.alt hk (by omega)
   have fzr := fz2.alt hk (by omega) (by omega)
   have hq := hp.bx; obtain ⟨m0, m1, m2, m3⟩ := hq
   have hrd := hp.ox.1.reads
   go_wp2_with fail
   refine (CircuitText_any C.i0 C.i1 A C.gs.length ca O C.os.length co C.gs C.os _ hrd (by omega) (by omega) (hT.below hBr lR) (hG.below hBr lR)).mono ?_
   rintro e v5 ⟨rfl, hb5⟩
   have hr5 := hrr.below hb5
   have fz5 := fzr.below hb5 (by have := hrr.lt; omega)
   have hp5 := hp.below hb5 lR
   have hB5 := hBr.trans (hb5.mono hBr.size)
   clear hrr fzr hp hb5 m0 m1 m2 m3 hk hXr
   have f0 := fz5 0; have f1 := fz5 1; have f2 := fz5 2; have f3 := fz5 3
   have hr6 := hr5; obtain ⟨r0, r1, r2, r3⟩ := hr6
   cases hcb : circB C.i0 C.i1 C.gs C.os with
   | false =>
    have HF : Hid (ansC (parseI s) s = none) := zH (by rw [hC.out]; simp [ansC, hcb])
    go_wp2
    have hq9 := BxC.set4 (hr5) 0 0 none 0 0 none 0 0
    obtain ⟨q0, q1, q2, q3⟩ := hq9
    refine bodyPost_ret (v := .tuple #[.agg #[.int .i64 0, .int .i64 0, .slice none 0 0, .slice none 0 0], .bool false]) (by simp [results, Tryz.results20, go_sem, q0, q1, q2, q3]) rfl ?_
    exact RetC.none_ (Zan hB5 (by omega) _ _ _ _ _ _ _ _) HF.out rfl
   | true =>
    have hct : Hid (ctF C.i0 C.i1 C.gs C.os = circT C.i0 C.i1 C.gs C.os) := zH (by simp [ctF, hcb])
    rw [hct.out]
    by_cases hts : circT C.i0 C.i1 C.gs C.os = s
    ·have t1 : ((bs (circT C.i0 C.i1 C.gs C.os)).toList == (bs s).toList) = true := by rw [Zbu, Zbu, hts]; simp
     have HF : Hid (ansC (parseI s) s = some ⟨C.i0, C.i1, C.gs, C.os⟩) := zH (by rw [hC.out, ansC, if_pos ⟨hcb, hts⟩])
     have hq := hp5.bx; obtain ⟨m0, m1, m2, m3⟩ := hq
     have hC9 := hp5.ox.1
     clear hts hcb hct
     go_wp2
     have hq9 := BxC.set4 (hr5) C.i0 C.i1 A C.gs.length ca O C.os.length co
     obtain ⟨q0, q1, q2, q3⟩ := hq9
     refine bodyPost_ret (v := .tuple #[.agg #[.int .i64 C.i0, .int .i64 C.i1, .slice A C.gs.length ca, .slice O C.os.length co], .bool true]) (by simp [results, Tryz.results20, go_sem, q0, q1, q2, q3]) rfl ?_
     exact RetC.some_ (Zan hB5 (by omega) _ _ _ _ _ _ _ _) HF.out rfl rfl rfl (by rw [Zbr]; exact ((hC9.set4 (.inl (by omega)) _ _ _ _ _ _ _ _).lo_ (by omega)))
    ·have t1 : ((bs (circT C.i0 C.i1 C.gs C.os)).toList == (bs s).toList) = false := by rw [Zbu, Zbu]; simp [hts]
     have HF : Hid (ansC (parseI s) s = none) := zH (by rw [hC.out, ansC, if_neg (fun h => hts h.2)])
     clear hts hcb hct
     go_wp2
     have hq9 := BxC.set4 (hr5) 0 0 none 0 0 none 0 0
     obtain ⟨q0, q1, q2, q3⟩ := hq9
     refine bodyPost_ret (v := .tuple #[.agg #[.int .i64 0, .int .i64 0, .slice none 0 0, .slice none 0 0], .bool false]) (by simp [results, Tryz.results20, go_sem, q0, q1, q2, q3]) rfl ?_
     exact RetC.none_ (Zan hB5 (by omega) _ _ _ _ _ _ _ _) HF.out rfl
end Go.Proofs.YtnhmfedegfcflaaGreatDoor
