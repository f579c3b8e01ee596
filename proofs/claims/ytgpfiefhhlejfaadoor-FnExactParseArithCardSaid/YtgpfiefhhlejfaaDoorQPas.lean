/- ParseArith of the reference: it answers what the plain reader answers. Texts below 2^21 bytes. -/
import Derived.Test.YtgpfiefhhlejfaaDoorQPra
import Derived.Test.YtgpfiefhhlejfaaDoorQPcs
namespace Go.Proofs.YtgpfiefhhlejfaaDoor
open Go.RowKit
set_option linter.unusedVariables false
set_option linter.unusedSimpArgs false
attribute [local go_sem] sepAt sepUpon pureAt pureUpon

/-- The kind found among the first i words. -/
def kUA (wd : List UInt8) : Nat → Int
  | 0 => -1
  | i + 1 => if awL i = wd then (i : Int) else kUA wd i
/-- The circuit behind the search among the first i words. -/
def dA (C : Ai) (wd : List UInt8) (za zb : Int) (i : Nat) : Ai := if kUA wd i = -1 then C else { C with gs := C.gs ++ [⟨kUA wd i, za, zb⟩] }
theorem kUA_three (wd : List UInt8) : kUA wd 3 = if 0 ≤ kindA wd ∧ kindA wd ≤ 2 then kindA wd else -1 := by
  simp only [kUA, kindA]
  by_cases h0 : wd = awL 0
  · subst h0; decide
  · by_cases h1 : wd = awL 1
    · subst h1; decide
    · by_cases h2 : wd = awL 2
      · subst h2; decide
      · by_cases h3 : wd = awL 3
        · subst h3; decide
        · simp [h0, h1, h2, h3, eq_comm]
theorem kUA_none {wd : List UInt8} {i : Nat} (h : awL i = wd) (hi : i ≤ 2) : kUA wd i = -1 := by
  have h4 : i = 0 ∨ i = 1 ∨ i = 2 := by omega
  rcases h4 with rfl | rfl | rfl
  · rfl
  · subst h; decide
  · subst h; decide
theorem dA_hit {C : Ai} {wd : List UInt8} {za zb : Int} {i : Nat} (h : awL i = wd) : dA C wd za zb (i + 1) = { C with gs := C.gs ++ [⟨(i : Int), za, zb⟩] } := by
  have e : kUA wd (i + 1) = (i : Int) := by rw [kUA, if_pos h]
  rw [dA, e, if_neg (by omega)]
theorem dA_miss {C : Ai} {wd : List UInt8} {za zb : Int} {i : Nat} (h : ¬ awL i = wd) : dA C wd za zb (i + 1) = dA C wd za zb i := by
  have e : kUA wd (i + 1) = kUA wd i := by rw [kUA, if_neg h]
  rw [dA, dA, e]
theorem dA_at {C : Ai} {wd : List UInt8} {za zb : Int} {i : Nat} (h : awL i = wd) (hi : i ≤ 2) : dA C wd za zb i = C := by rw [dA, if_pos (kUA_none h hi)]
theorem stepAS_rest {C : Ai} {ws : List (List UInt8)} {wd : List UInt8} (hw : ws.headD [] = wd) (h1 : ¬ (wd = ariW ∧ ws.length = 4)) (h2 : ¬ wd = outW) (h3 : ¬ (wd = awL 3 ∧ ws.length = 2)) :
    stepAS C ws = if ws.length = 3 then dA C wd (gi (ws.tail.map readS) 0) (gi (ws.tail.map readS) 1) 3 else C := by
  rw [stepAS, hw, if_neg h1, if_neg h2, if_neg h3, dA, kUA_three]
  by_cases hl : ws.length = 3
  · rw [if_pos hl]
    by_cases hk : 0 ≤ kindA wd ∧ kindA wd ≤ 2
    · rw [if_pos ⟨hl, hk⟩, if_pos hk, if_neg (by omega)]
    · rw [if_neg (fun h => hk h.2), if_neg hk, if_pos rfl]
  · rw [if_neg hl, if_neg (fun h => hl h.1)]
/-- The circuit after so many lines. -/
def partAS (L : List (List UInt8)) (j : Nat) : Ai := (L.take j).foldl (fun c l => stepAS c (splitS 32 l)) ⟨0, 0, 0, [], []⟩
theorem partAS_succ {L : List (List UInt8)} {j : Nat} (h : j < L.length) : partAS L (j + 1) = stepAS (partAS L j) (splitS 32 (sx L j)) := by
  have e : sx L j = L[j] := by simp [sx, List.getD, List.getElem?_eq_getElem h]
  rw [partAS, partAS, List.take_succ_eq_append_getElem h, List.foldl_append, e]; rfl
theorem stepAS_len (c : Ai) (ws : List (List UInt8)) : (stepAS c ws).gs.length ≤ c.gs.length + 1 ∧ ((stepAS c ws).os.length ≤ c.os.length ∨ (stepAS c ws).os.length ≤ ws.length) := by
  unfold stepAS
  (repeat' split) <;> simp
theorem partAS_len (L : List (List UInt8)) (B : Nat) (hB : ∀ x ∈ L, x.length ≤ B) : ∀ j, j ≤ L.length → (partAS L j).gs.length ≤ j ∧ (partAS L j).os.length ≤ B + 1 := by
  intro j
  induction j with
  | zero => intro _; simp [partAS]
  | succ j ih =>
    intro hj
    have h1 := ih (by omega)
    have h2 := stepAS_len (partAS L j) (splitS 32 (sx L j))
    have h3 := splitS_length 32 (sx L j)
    have h4 := hB _ (sx_mem (l := L) (j := j) (by omega))
    rw [partAS_succ (by omega)]
    omega

set_option maxRecDepth 100000 in
set_option maxHeartbeats 4000000 in
theorem spec_ParseArith_any (s : List UInt8) (w : World) (hs : s.length ≤ 1048576) :
    Calls Tryd.prog 21 #[.string (bs s)] w (RetA w (ansA (parseAI s) s)) := by
  rw [aans_same]
  have hA1 : Below w.heap.size w (w.alloc (.cells #[.int .i64 0, .int .i64 0, .int .i64 0, .slice none 0 0, .slice none 0 0] 40)) := (Below.refl _ _).alloc (Nat.le_refl _) _
  have hr0 : BxA (w.alloc (.cells #[.int .i64 0, .int .i64 0, .int .i64 0, .slice none 0 0, .slice none 0 0] 40)) w.heap.size 0 0 0 none 0 0 none 0 0 := BxA.new w _
  have hA2 : Below (w.heap.size + 1) (w.alloc (.cells #[.int .i64 0, .int .i64 0, .int .i64 0, .slice none 0 0, .slice none 0 0] 40)) ((w.alloc (.cells #[.int .i64 0, .int .i64 0, .int .i64 0, .slice none 0 0, .slice none 0 0] 40)).alloc (.cells #[.int .i64 0, .int .i64 0, .int .i64 0, .slice none 0 0, .slice none 0 0] 40)) := (Below.refl _ _).alloc (by simp) _
  have hx0 : PA ((w.alloc (.cells #[.int .i64 0, .int .i64 0, .int .i64 0, .slice none 0 0, .slice none 0 0] 40)).alloc (.cells #[.int .i64 0, .int .i64 0, .int .i64 0, .slice none 0 0, .slice none 0 0] 40)) (w.heap.size + 2) (w.heap.size + 1) ⟨0, 0, 0, [], []⟩ none 0 none 0 := by simpa using PA.new (w.alloc (.cells #[.int .i64 0, .int .i64 0, .int .i64 0, .slice none 0 0, .slice none 0 0] 40)) (w.heap.size + 2) 40
  have hB2 : Below w.heap.size w ((w.alloc (.cells #[.int .i64 0, .int .i64 0, .int .i64 0, .slice none 0 0, .slice none 0 0] 40)).alloc (.cells #[.int .i64 0, .int .i64 0, .int .i64 0, .slice none 0 0, .slice none 0 0] 40)) := hA1.trans (hA2.mono (by omega))
  have hsz2 : ((w.alloc (.cells #[.int .i64 0, .int .i64 0, .int .i64 0, .slice none 0 0, .slice none 0 0] 40)).alloc (.cells #[.int .i64 0, .int .i64 0, .int .i64 0, .slice none 0 0, .slice none 0 0] 40)).heap.size = w.heap.size + 2 := by simp
  have hrz : BxA ((w.alloc (.cells #[.int .i64 0, .int .i64 0, .int .i64 0, .slice none 0 0, .slice none 0 0] 40)).alloc (.cells #[.int .i64 0, .int .i64 0, .int .i64 0, .slice none 0 0, .slice none 0 0] 40)) w.heap.size 0 0 0 none 0 0 none 0 0 := hr0.below (hA2.mono (by simp))
  have fz0 : Fz ((w.alloc (.cells #[.int .i64 0, .int .i64 0, .int .i64 0, .slice none 0 0, .slice none 0 0] 40)).alloc (.cells #[.int .i64 0, .int .i64 0, .int .i64 0, .slice none 0 0, .slice none 0 0] 40)) w.heap.size := (Fz.new w _ _).below hA2 (by omega)
  obtain ⟨L, hL⟩ : ∃ L, Hid (splitS 10 s = L) := ⟨_, Lib.hid rfl⟩
  have hLl := splitS_length 10 s
  have hLp := List.length_pos_iff.2 (splitS_ne 10 s)
  have hLs : ∀ x ∈ splitS 10 s, x.length ≤ s.length := fun x hx => splitS_small hx
  have hLm := splitS_sum 10 s
  have hsp := fun w' => l1Split_any s 10 w' (by omega)
  rw [hL.out] at hLl hLs hLp hLm
  rw [hL.out] at hsp
  have hpI : Hid (partAS L L.length = parseAS s) := Lib.hid (by rw [parseAS, hL.out, partAS, List.take_length])
  clear hr0 hA2
  go_enter Tryd.func21, Tryd.ntmps21
  go_wp2_with fail
  refine (hsp _).mono ?_
  rintro e v2 ⟨Aq, cq, rfl, hX, hb2⟩
  clear hsp
  have hXr2 := hX.reads
  have hz2 := hb2.size
  rw [hsz2] at hz2
  have hXlt : ∀ b o, Aq = some ⟨b, o, none⟩ → w.heap.size + 2 ≤ b := fun b o h => by have := hX.lt b (by rw [h]; simp [Value.ownBlock]); rw [hsz2] at this; omega
  have hXlt2 : ∀ b o, Aq = some ⟨b, o, none⟩ → b < v2.heap.size := fun b o h => by have := hX.lt b (by rw [h]; simp [Value.ownBlock]); omega
  have hx2 := hx0.below hb2 (Nat.le_refl _)
  have hr2 := hrz.below hb2
  have fz2 := fz0.below hb2 (by rw [hsz2]; omega)
  have hB3 := hB2.trans (hb2.mono (by rw [hsz2]; omega))
  clear hx0 hrz fz0 hb2 hB2 hA1 hsz2 hX
  go_wp2
  go_loopw [17] (fun i wr => ∃ (j : Nat) (A : Option Addr) (ca : Nat) (O : Option Addr) (co : Nat), j ≤ L.length ∧ i = .int .i64 j ∧ PA wr (w.heap.size + 2) (w.heap.size + 1) (partAS L j) A ca O co ∧ (∀ g, (Value.slice A (partAS L j).gs.length ca).ownBlock = some g → v2.heap.size ≤ g) ∧ (∀ g, (Value.slice O (partAS L j).os.length co).ownBlock = some g → v2.heap.size ≤ g) ∧ Alt (fun i => i = w.heap.size + 1) v2 wr) (fun i _ => L.length - (intOf i).toNat)
  case atStart => exact ⟨0, none, 0, none, 0, Nat.zero_le _, rfl, hx2, by simp [Value.ownBlock], by simp [Value.ownBlock], Alt.refl_ _ _⟩
  case round =>
    clear hx2
    obtain ⟨j, A, ca, O, co, hj, rfl, hp, hgA, hgO, hk⟩ := hrel
    have hXr := hXr2.alt hk (fun b o hbo hc => by have := hXlt b o hbo; omega)
    have hBr : Below w.heap.size w wr := hB3.trans (hk.below_ (by omega) (fun i hi hc => by omega))
    by_cases hlt : j < L.length
    · have hpn := partAS_succ hlt
      have hplen := partAS_len L s.length hLs j hj
      obtain ⟨b1, o1, hqo, hb1, d1⟩ := hXr.at_ hlt
      have hq1 := hXlt2 b1 o1 hqo
      have hq0 := hXlt b1 o1 hqo
      subst hqo
      have hls := hLs _ (sx_mem (l := L) (j := j) hlt)
      obtain ⟨ln, hln⟩ : ∃ ln, Hid (sx L j = ln) := ⟨_, Lib.hid rfl⟩
      rw [hln.out] at d1 hls hpn
      obtain ⟨C, hC⟩ : ∃ C, Hid (partAS L j = C) := ⟨_, Lib.hid rfl⟩
      rw [hC.out] at hp hgA hgO hpn hplen
      have hW1 := splitS_length 32 ln
      have hW0 := List.length_pos_iff.2 (splitS_ne 32 ln)
      have hWs : ∀ x ∈ splitS 32 ln, x.length ≤ ln.length := fun x hx => splitS_small hx
      obtain ⟨W, hW⟩ : ∃ W, Hid (splitS 32 ln = W) := ⟨_, Lib.hid rfl⟩
      have hspl := fun w' => l1Split_any ln 32 w' (by omega)
      rw [hW.out] at hW1 hW0 hWs hpn
      rw [hW.out] at hspl
      clear hXlt hXlt2
      go_wp2_with fail
      refine (hspl _).mono ?_
      rintro e v3 ⟨Aw, cw, rfl, hX3, hb3⟩
      obtain ⟨q3, cap3, hv3, hq3, hq3b⟩ := hX3.1.form hW0
      simp only [Value.slice.injEq, true_and] at hv3
      obtain ⟨rfl, rfl⟩ := hv3
      have hp3 := hp.below hb3 (Nat.le_refl _)
      have hk3 := hk.new_ hb3
      have hz3 := hb3.size
      have hcap := hX3.cap
      have hXW := hX3.reads
      have hgAw3 : ∀ g, (Value.slice A C.gs.length ca).ownBlock = some g → g < wr.heap.size := fun g hg => (hp.ox.1.1.lt g hg).2.2
      have hqA : Hid (¬ (Value.slice A C.gs.length ca).ownBlock = some q3) := Lib.hid (fun h => by have := hgAw3 q3 h; omega)
      have hbw := hp.lt
      have hqb : Hid (q3 ≠ (w.heap.size + 1)) := Lib.hid (by omega)
      have hloV : Hid ((w.heap.size + 2) ≤ v3.heap.size) := Lib.hid (by have := hk3.size; omega)
      have hbv3 : (w.heap.size + 1) < v3.heap.size := by omega
      have hgAw : ∀ g, (Value.slice A C.gs.length ca).ownBlock = some g → g < v3.heap.size := fun g hg => Nat.lt_of_lt_of_le (hgAw3 g hg) hz3
      have hkz := hk3.size
      obtain ⟨m, hm⟩ : ∃ m, W.length = m + 1 := ⟨W.length - 1, by omega⟩
      simp only [hm] at hXW hcap ⊢
      obtain ⟨TA, hTA, hTq, hsl⟩ := slice_tail q3 m cw hcap
      have hXt := hTA v3 W hXW
      obtain ⟨_, _, hqo, _, d3⟩ := hXW.at_ (k := 0) (by omega)
      simp only [Option.some.injEq, Addr.mk.injEq, and_true] at hqo
      obtain ⟨rfl, rfl⟩ := hqo
      rw [Nat.zero_add] at d3
      obtain ⟨wd, hwd⟩ : ∃ wd, Hid (sx W 0 = wd) := ⟨_, Lib.hid rfl⟩
      have hws : Hid (W.headD [] = wd) := Lib.hid (by rw [← sx_head (by omega)]; exact hwd.out)
      rw [hwd.out] at d3
      have hWt : ∀ x ∈ W.tail, x.length ≤ 2097152 := fun x hx => by have := hWs x (List.mem_of_mem_tail hx); omega
      have hWl : W.tail.length = m := by simp [hm]
      obtain ⟨WT, hWT⟩ : ∃ WT, Hid (WT = W.tail) := ⟨_, Lib.hid rfl⟩
      rw [← hWT.out] at hXt hWt hWl
      clear hp hk hX3 hb3 hspl hTA hTq hwd hgAw3 hXr d1 hb1 hq1 hq0
      go_wp2
      go_loopw [8, 26] (fun v i w5 => ∃ (k : Nat) (N : Option Addr) (nc : Nat), k ≤ m ∧ i = .int .i64 k ∧ v = .slice N k nc ∧ Own w5 v3.heap.size w5.heap.size (.slice N k nc) k ((WT.take k).map readS) ∧ Below v3.heap.size v3 w5) (fun _ i _ => m - (intOf i).toNat)
      case atStart => exact ⟨0, none, 0, Nat.zero_le _, rfl, rfl, by simpa using Own.none_ v3 v3.heap.size v3.heap.size, Below.refl _ _⟩
      case round =>
        obtain ⟨k, N, nc, hkm, rfl, rfl, hN, hbI⟩ := hrel
        have hzI := hbI.size
        by_cases hltk : k < m
        · obtain ⟨tb, tof, rfl, htb, td⟩ := (hXt.below hbI (Nat.le_refl _)).at_ hltk
          have hzj := hWt _ (sx_mem (l := WT) (j := k) (by omega))
          have hsn : Hid ((WT.take (k + 1)).map readS = (WT.take k).map readS ++ [readS (sx WT k)]) := Lib.hid (by
            rw [List.take_succ_eq_append_getElem (show k < WT.length by omega), List.map_append]
            show _ = _ ++ [readS (sx WT k)]
            rw [show sx WT k = WT[k] by simp [sx, List.getD, List.getElem?_eq_getElem (show k < WT.length by omega)]]
            rfl)
          have hlen2 := hN.len
          clear hsl hXt hXW hp3 hk3 hpn
          go_wp2_with fail
          refine (l1Read_any (sx WT k) _ hzj).mono ?_
          rintro e w9 ⟨rfl, rfl⟩
          generalize readS (sx WT k) = z at *
          have hownA := hN.alloc (.cells #[.int .i64 z] 3)
          have hbA := hbI.alloc hzI (.cells #[.int .i64 z] 3)
          go_wp2_with (at_builtin; refine wpList_app _ rfl _ _ rfl rfl hownA rfl (RI_one _ _ _ _ (by simp)) (by omega) (by first | omega | (simp; done) | (simp; omega)) ?_; intro A5 c5 w5 hown5 hg5 hat5)
          have hb5 := below_app hbA hownA hg5 (by simp; omega) (Nat.le_refl _)
          rw [← hsn.out] at hown5
          clear hbA hownA hg5 hat5 hN hbI td
          go_wp2
          go_roundw
          case rel => exact ⟨k + 1, _, _, by omega, by go_num, rfl, hown5, hb5⟩
          case measure => simp [intOf]; omega
        · obtain rfl : k = m := Nat.le_antisymm hkm (Nat.le_of_not_lt hltk)
          rw [List.take_of_length_le (by omega), hWT.out] at hN
          obtain ⟨l, hl⟩ : ∃ l, Hid (W.tail.map readS = l) := ⟨_, Lib.hid rfl⟩
          rw [hl.out] at hN
          have hp1 := hp3.below hbI (Nat.le_refl _)
          have hk1 := hk3.new_ hbI
          have d6 := cell_below d3 hbI
          have hloW : Hid ((w.heap.size + 2) ≤ wr.heap.size) := Lib.hid (Nat.le_trans hloV.out hzI)
          have hq := hp1.bx; obtain ⟨m0, m1, m2, m3, m4⟩ := hq
          have f0 := hp1.fz 0; have f1 := hp1.fz 1; have f2 := hp1.fz 2; have f3 := hp1.fz 3; have f4 := hp1.fz 4
          clear hsl hXt hp3 hk3 d3 hWT hWt hWl
          by_cases h1 : wd = ariW
          · have t1 : ((bs wd).toList == [97, 114, 105, 116, 104]) = true := bs_is h1
            by_cases hm3 : k = 3
            · subst hm3
              obtain ⟨kb, ob, rfl, hkb, hcs⟩ := hN.reads.2 (by omega)
              have e0 := hcs 0 (by omega)
              have e1 := hcs 1 (by omega)
              have e2 := hcs 2 (by omega)
              rw [Nat.add_zero] at e0
              obtain ⟨za, hza⟩ : ∃ za, Hid (gi l 0 = za) := ⟨_, Lib.hid rfl⟩
              obtain ⟨zb, hzb⟩ : ∃ zb, Hid (gi l 1 = zb) := ⟨_, Lib.hid rfl⟩
              obtain ⟨zc, hzc⟩ : ∃ zc, Hid (gi l 2 = zc) := ⟨_, Lib.hid rfl⟩
              have hst : Hid (stepAS C W = { C with p := za, i0 := zb, i1 := zc }) := Lib.hid (by rw [stepAS, hws.out, if_pos ⟨h1, by omega⟩, hl.out, hza.out, hzb.out, hzc.out])
              have HPN := Lib.hid (hpn.trans hst.out)
              rw [hza.out] at e0
              rw [hzb.out] at e1
              rw [hzc.out] at e2
              have hkb2 : kb ≠ (w.heap.size + 1) := by have := hN.lt kb (by simp [Value.ownBlock]); omega
              have x1 : ∀ u, (wr.setCell ⟨(w.heap.size + 1), 0, none⟩ u).cell? ⟨kb, ob + 1, none⟩ = some (.int .i64 zb) := fun u => (World.cell?_setCell_other _ _ _ _ (by simp [hkb2.symm])).trans e1
              have x2 : ∀ u t, ((wr.setCell ⟨(w.heap.size + 1), 0, none⟩ u).setCell ⟨(w.heap.size + 1), 1, none⟩ t).cell? ⟨kb, ob + 2, none⟩ = some (.int .i64 zc) := fun u t => (World.cell?_setCell_other _ _ _ _ (by simp [hkb2.symm])).trans ((World.cell?_setCell_other _ _ _ _ (by simp [hkb2.symm])).trans e2)
              have p1 := ((hp1.setP za).setX zb).setY zc
              have k1 := ((hk1.set_ ⟨(w.heap.size + 1), 0, none⟩ (.int .i64 za) (fun _ => rfl)).set_ ⟨(w.heap.size + 1), 1, none⟩ (.int .i64 zb) (fun _ => rfl)).set_ ⟨(w.heap.size + 1), 2, none⟩ (.int .i64 zc) (fun _ => rfl)
              clear hpn hst h1 hws hcs hXW hN
              go_wp2
              go_roundw
              case rel => exact ⟨j + 1, A, ca, O, co, by omega, by go_num, by rw [HPN.out]; exact p1, by rw [HPN.out]; exact hgA, by rw [HPN.out]; exact hgO, k1⟩
              case measure => simp [intOf]; omega
            · have tm3 : ((k : Int) == 3) = false := by simp; omega
              have t2 : ((bs wd).toList == [111, 117, 116, 115]) = false := bs_not (by rw [h1]; decide)
              have t3 : ((bs wd).toList == [99, 111, 110, 115, 116]) = false := bs_not (by rw [h1]; decide)
              have H1 : ¬ (wd = ariW ∧ W.length = 4) := fun h => by omega
              have H2 : ¬ wd = outW := by rw [h1]; decide
              have H3 : ¬ (wd = awL 3 ∧ W.length = 2) := fun h => by rw [h1] at h; exact absurd h.1 (by decide)
              clear h1
              by_cases hm2 : k = 2
              · subst hm2
                obtain ⟨kb, ob, rfl, hkb, hcs⟩ := hN.reads.2 (by omega)
                have e0 := hcs 0 (by omega)
                have e1 := hcs 1 (by omega)
                rw [Nat.add_zero] at e0
                obtain ⟨za, hza⟩ : ∃ za, Hid (gi l 0 = za) := ⟨_, Lib.hid rfl⟩
                obtain ⟨zb, hzb⟩ : ∃ zb, Hid (gi l 1 = zb) := ⟨_, Lib.hid rfl⟩
                have hst : Hid (stepAS C W = dA C wd za zb 3) := Lib.hid (by rw [stepAS_rest hws.out H1 H2 H3, if_pos (by omega), hl.out, hza.out, hzb.out])
                have HPN := Lib.hid (hpn.trans hst.out)
                rw [hza.out] at e0
                rw [hzb.out] at e1
                have hnkA : ¬ (Value.slice A C.gs.length ca).ownBlock = some kb := fun hc => by
                  have := hN.lt kb (by simp [Value.ownBlock]); have := hgAw kb hc; omega
                have hkbb : kb ≠ (w.heap.size + 1) := by have := hN.lt kb (by simp [Value.ownBlock]); omega
                clear hpn hst hcs
                go_wp2
                have hA8 : Below wr.heap.size wr (wr.alloc (.cells #[.string ⟨#[97, 100, 100]⟩, .string ⟨#[109, 117, 108]⟩, .string ⟨#[115, 99, 97, 108, 101]⟩] 9)) := (Below.refl _ _).alloc (Nat.le_refl _) _
                have hp8 := hp1.below hA8 (Nat.le_refl _)
                have hk8 := hk1.new_ hA8
                have d8 := cell_below d6 hA8
                have g0 := cell_below e0 hA8
                have g1 := cell_below e1 hA8
                have hgt : ∀ i, i ≤ 2 → (wr.alloc (.cells #[.string ⟨#[97, 100, 100]⟩, .string ⟨#[109, 117, 108]⟩, .string ⟨#[115, 99, 97, 108, 101]⟩] 9)).cell? ⟨wr.heap.size, i, none⟩ = some (.string (bs (awL i))) := fun i hi => by
                  have h : i = 0 ∨ i = 1 ∨ i = 2 := by omega
                  rcases h with rfl | rfl | rfl <;> exact box_cell _ _ _ _ rfl
                have hqbA : ¬ (Value.slice A C.gs.length ca).ownBlock = some q3 := hqA.out
                have hsB : wr.heap.size < (wr.alloc (.cells #[.string ⟨#[97, 100, 100]⟩, .string ⟨#[109, 117, 108]⟩, .string ⟨#[115, 99, 97, 108, 101]⟩] 9)).heap.size := by simp
                have hsbA : ¬ (Value.slice A C.gs.length ca).ownBlock = some wr.heap.size := fun hc => by have := hgAw _ hc; have := hloV.out; omega
                have hsbb : wr.heap.size ≠ (w.heap.size + 1) := by have := hp1.lt; omega
                have hlo8 : (w.heap.size + 2) ≤ (wr.alloc (.cells #[.string ⟨#[97, 100, 100]⟩, .string ⟨#[109, 117, 108]⟩, .string ⟨#[115, 99, 97, 108, 101]⟩] 9)).heap.size := Nat.le_trans hloW.out hA8.size
                generalize hsz : wr.heap.size = sB at *
                generalize hw8 : wr.alloc (.cells #[.string ⟨#[97, 100, 100]⟩, .string ⟨#[109, 117, 108]⟩, .string ⟨#[115, 99, 97, 108, 101]⟩] 9) = w8 at *
                clear H1 H2 H3 hws hXW hN hw8 e0 e1 d6 hkb
                go_loopw [90] (fun i w9 => ∃ (j3 : Nat) (A' : Option Addr) (ca' : Nat), j3 ≤ 3 ∧ i = .int .i64 j3 ∧ PA w9 (w.heap.size + 2) (w.heap.size + 1) (dA C wd za zb j3) A' ca' O co ∧ Alt (fun k => k = (w.heap.size + 1) ∨ (Value.slice A C.gs.length ca).ownBlock = some k) w8 w9 ∧ (∀ g, (Value.slice A' (dA C wd za zb j3).gs.length ca').ownBlock = some g → (Value.slice A C.gs.length ca).ownBlock = some g ∨ w8.heap.size ≤ g) ∧ (dA C wd za zb j3 = C → A' = A ∧ ca' = ca)) (fun i _ => 3 - (intOf i).toNat)
                case atStart => exact ⟨0, A, ca, by omega, rfl, hp8, Alt.refl_ _ _, fun g hg => .inl hg, fun _ => ⟨rfl, rfl⟩⟩
                case round =>
                  clear hp8 hp1 hk1 m0 m1 m2 m3 m4 f0 f1 f2 f3 f4
                  obtain ⟨j3, A', ca', hj3, rfl, hp9, hk9, hg9, hAA⟩ := hrel
                  have q6 := hk9.cell_ d8 (fun h => h.elim (fun h => hqb.out h) hqbA)
                  by_cases hlt3 : j3 < 3
                  · have q7 := hk9.cell_ (hgt j3 (by omega)) (fun h => h.elim (fun h => hsbb h) hsbA)
                    have g0' := hk9.cell_ g0 (fun h => h.elim (fun h => hkbb h) hnkA)
                    have g1' := hk9.cell_ g1 (fun h => h.elim (fun h => hkbb h) hnkA)
                    have hj4 : (j3 : Int) < 3 := by omega
                    by_cases he : awL j3 = wd
                    · have hd0 := dA_at (C := C) (za := za) (zb := zb) he (by omega)
                      have hd1 : Hid (dA C wd za zb (j3 + 1) = { C with gs := C.gs ++ [⟨(j3 : Int), za, zb⟩] }) := Lib.hid (dA_hit he)
                      obtain ⟨rfl, rfl⟩ := hAA hd0
                      rw [hd0] at hp9 hg9
                      have tq : ((bs wd).toList == (bs (awL j3)).toList) = true := by rw [bs_list, bs_list, he]; simp
                      have hp1 := hp9
                      have hloW : Hid ((w.heap.size + 2) ≤ wr.heap.size) := Lib.hid (Nat.le_trans hlo8 hk9.size)
                      have hq := hp1.bx; obtain ⟨m0, m1, m2, m3, m4⟩ := hq
                      clear hd0 hAA hgt hp9 g0 g1 d8
                      have hlt7 : ∀ g, (Value.slice A' C.gs.length ca').ownBlock = some g → g < wr.heap.size := fun g hg => (hp1.ox.1.1.lt g hg).2.2
                      have hnbA : ¬ (Value.slice A' C.gs.length ca').ownBlock = some (w.heap.size + 1) := hp1.ox.2.1
                      have hlo1 : (w.heap.size + 2) ≤ wr.heap.size := hloW.out
                      go_wp2_with fail
                      go_wp2_with fail
                      refine wp_region_mem (12) ((fun i => (Value.slice A' C.gs.length ca').ownBlock = some i)) [(⟨(w.heap.size + 1), 3, none⟩, .slice A' C.gs.length ca'), (⟨kb, ob, none⟩, .int .i64 za), (⟨kb, ob + 1, none⟩, .int .i64 zb)] [(10, [], []), (11, [100, 10], [100])] [100] [11] [(100, Res.rowG (w.heap.size + 2) C.gs.length C.gs), (10, Res.rowG (w.heap.size + 2) 1 [⟨(j3 : Int), za, zb⟩]), (11, Res.rowG (w.heap.size + 2) (C.gs.length + 1) (C.gs ++ [⟨(j3 : Int), za, zb⟩]))] ((upd (fun _ => undef) 100 (.slice A' C.gs.length ca'))) (by kernel_rfl) (by kernel_rfl) (by kernel_rfl) (by simp only [CellsL, List.mem_cons, forall_eq_or_imp, List.not_mem_nil, false_implies, implies_true, and_true]; repeat (any_goals (apply And.intro)); all_goals (first | assumption | go_simp)) (fun q9 hq9 => by simp only [List.mem_cons, List.not_mem_nil, or_false] at hq9; rcases hq9 with rfl | rfl | rfl <;> first | exact hnbA | exact hnkA) (⟨⟨hp1.ox.1.1, fun i hi => ⟨.inr hi, hlt7 i hi⟩⟩, trivial⟩) (only_apart) ?_
                      simp only [List.take_succ_cons, List.take_zero, List.drop_succ_cons, List.drop_zero, List.take_nil, List.drop_nil, List.take, List.drop]
                      repeat (first
                        | ((with_reducible refine mem_pure0 ?_ ?_ ?_)
                           · exact rfl
                           · exact rfl
                           intro K hK
                           apply Exists.intro
                           refine ⟨fun w3 hw3 => ?_, ?_⟩
                           · have hcs := hw3
                             simp only [CellsL, List.mem_cons, forall_eq_or_imp, List.not_mem_nil, false_implies, implies_true, and_true] at hcs
                             clear hw3
                             go_simp
                             first | done | exact ⟨rfl, rfl⟩ | rfl
                           refine hK _ ?_
                           clear hK K
                           try simp only [Act.put, List.setIfInBounds_toArray, List.set_cons_zero, List.set_cons_succ])
                        | ((with_reducible refine mem_skip ?_ ?_ ?_)
                           · exact rfl
                           · exact wanted_not rfl rfl rfl rfl
                           simp only [Act.put, List.setIfInBounds_toArray, List.set_cons_zero, List.set_cons_succ])
                        | ((with_reducible refine mem_pure ?_ ?_ ?_)
                           · exact rfl
                           · exact wanted_some rfl rfl rfl rfl
                           intro K hK
                           apply Exists.intro
                           refine ⟨fun w3 hw3 => ?_, ?_⟩
                           · have hcs := hw3
                             simp only [CellsL, List.mem_cons, forall_eq_or_imp, List.not_mem_nil, false_implies, implies_true, and_true] at hcs
                             clear hw3
                             go_simp
                             first | done | exact ⟨rfl, rfl⟩ | rfl
                           refine hK _ ?_
                           clear hK K
                           try simp only [Act.put, List.setIfInBounds_toArray, List.set_cons_zero, List.set_cons_succ]))
                      focus
                        (with_reducible refine mem_rowG (w.heap.size + 2) 1 [⟨(j3 : Int), za, zb⟩] ?_ ?_ ?_ ?_ ?_ (hw := ?_))
                        · exact rfl
                        · exact rfl
                        · omega
                        · intro w3 hw3 hc3 hp3
                          have hcs := hc3
                          simp only [CellsL, List.mem_cons, forall_eq_or_imp, List.not_mem_nil, false_implies, implies_true, and_true] at hcs
                          (go_simp; exact postRowG_one _ ⟨(j3 : Int), za, zb⟩)
                        rotate_left
                        · first | exact wanted_none rfl | exact wanted_some rfl rfl rfl rfl
                        intro A3 c3'
                        try simp only [Act.put, List.setIfInBounds_toArray, List.set_cons_zero, List.set_cons_succ]
                      repeat (first
                        | ((with_reducible refine mem_pure0 ?_ ?_ ?_)
                           · exact rfl
                           · exact rfl
                           intro K hK
                           apply Exists.intro
                           refine ⟨fun w3 hw3 => ?_, ?_⟩
                           · have hcs := hw3
                             simp only [CellsL, List.mem_cons, forall_eq_or_imp, List.not_mem_nil, false_implies, implies_true, and_true] at hcs
                             clear hw3
                             go_simp
                             first | done | exact ⟨rfl, rfl⟩ | rfl
                           refine hK _ ?_
                           clear hK K
                           try simp only [Act.put, List.setIfInBounds_toArray, List.set_cons_zero, List.set_cons_succ])
                        | ((with_reducible refine mem_skip ?_ ?_ ?_)
                           · exact rfl
                           · exact wanted_not rfl rfl rfl rfl
                           simp only [Act.put, List.setIfInBounds_toArray, List.set_cons_zero, List.set_cons_succ])
                        | ((with_reducible refine mem_pure ?_ ?_ ?_)
                           · exact rfl
                           · exact wanted_some rfl rfl rfl rfl
                           intro K hK
                           apply Exists.intro
                           refine ⟨fun w3 hw3 => ?_, ?_⟩
                           · have hcs := hw3
                             simp only [CellsL, List.mem_cons, forall_eq_or_imp, List.not_mem_nil, false_implies, implies_true, and_true] at hcs
                             clear hw3
                             go_simp
                             first | done | exact ⟨rfl, rfl⟩ | rfl
                           refine hK _ ?_
                           clear hK K
                           try simp only [Act.put, List.setIfInBounds_toArray, List.set_cons_zero, List.set_cons_succ]))
                      refine mem_appG 100 (w.heap.size + 2) C.gs.length 1 C.gs [⟨(j3 : Int), za, zb⟩] A' ca' A3 c3' (.tmp 101) (.tmp 110) (by rfl) (by rfl) (by omega) (by rfl) (by rfl) (by decide) (by rfl) (by rfl) (by rfl) (by rfl) (by omega) (fun w3 hw3 hc3 hp3 => ?_) (fun G' cG' => ?_)
                      · have h3 : OwnG w3 (w.heap.size + 2) w3.heap.size (.slice A3 1 c3') 1 [⟨(j3 : Int), za, zb⟩] := hp3.1.2.1.1
                        exact h3.reads
                      try simp only [Act.put, List.setIfInBounds_toArray, List.set_cons_zero, List.set_cons_succ]
                      repeat (first
                        | ((with_reducible refine mem_pure0 ?_ ?_ ?_)
                           · exact rfl
                           · exact rfl
                           intro K hK
                           apply Exists.intro
                           refine ⟨fun w3 hw3 => ?_, ?_⟩
                           · have hcs := hw3
                             simp only [CellsL, List.mem_cons, forall_eq_or_imp, List.not_mem_nil, false_implies, implies_true, and_true] at hcs
                             clear hw3
                             go_simp
                             first | done | exact ⟨rfl, rfl⟩ | rfl
                           refine hK _ ?_
                           clear hK K
                           try simp only [Act.put, List.setIfInBounds_toArray, List.set_cons_zero, List.set_cons_succ])
                        | ((with_reducible refine mem_skip ?_ ?_ ?_)
                           · exact rfl
                           · exact wanted_not rfl rfl rfl rfl
                           simp only [Act.put, List.setIfInBounds_toArray, List.set_cons_zero, List.set_cons_succ])
                        | ((with_reducible refine mem_pure ?_ ?_ ?_)
                           · exact rfl
                           · exact wanted_some rfl rfl rfl rfl
                           intro K hK
                           apply Exists.intro
                           refine ⟨fun w3 hw3 => ?_, ?_⟩
                           · have hcs := hw3
                             simp only [CellsL, List.mem_cons, forall_eq_or_imp, List.not_mem_nil, false_implies, implies_true, and_true] at hcs
                             clear hw3
                             go_simp
                             first | done | exact ⟨rfl, rfl⟩ | rfl
                           refine hK _ ?_
                           clear hK K
                           try simp only [Act.put, List.setIfInBounds_toArray, List.set_cons_zero, List.set_cons_succ]))
                      refine wpSep_end ?_
                      intro wy hwy hcy hfin hap
                      have hG4 : OwnG wy (w.heap.size + 2) wy.heap.size (.slice G' (C.gs.length + 1) cG') (C.gs.length + 1) (C.gs ++ [⟨(j3 : Int), za, zb⟩]) := hfin.1.1
                      have hokG : ∀ g, (Value.slice G' (C.gs.length + 1) cG').ownBlock = some g → okB wr (fun i => (Value.slice A' C.gs.length ca').ownBlock = some i) g := fun g hb => (hfin.1.2 g hb).1
                      have p1 := hp1.gate hwy hG4 hokG
                      have hbS : ¬ okB wr (fun i => (Value.slice A' C.gs.length ca').ownBlock = some i) (w.heap.size + 1) := fun hc => hc.elim (fun h => by have := hp1.lt; omega) hnbA
                      have hq := hp1.bx.alt hwy hbS; obtain ⟨m0, m1, m2, m3, m4⟩ := hq
                      have f3 := (hp1.fz.alt hwy hp1.lt hbS) 3
                      have k0 : Alt (fun k => k = (w.heap.size + 1) ∨ (Value.slice A' C.gs.length ca').ownBlock = some k) w8 wy := hk9.trans_ hwy (fun i hi hT => hT.elim (fun h => by have := hk9.size; omega) (fun h => .inr h))
                      have k1 := k0.set_ ⟨(w.heap.size + 1), 3, none⟩ (.slice G' (C.gs.length + 1) cG') (fun _ => .inl rfl)
                      have hgA1 : ∀ g, (Value.slice G' (C.gs ++ [(⟨(j3 : Int), za, zb⟩ : G3)]).length cG').ownBlock = some g → (Value.slice A' C.gs.length ca').ownBlock = some g ∨ w8.heap.size ≤ g := fun g hg => by
                        have h8 := hokG g (by simpa [Value.ownBlock] using hg)
                        rcases h8 with h8 | h8
                        · have := hk9.size; right; omega
                        · exact .inl h8
                      have hne : ¬ { C with gs := C.gs ++ [(⟨(j3 : Int), za, zb⟩ : G3)] } = C := fun h => by have := congrArg (fun c : Ai => c.gs.length) h; simp at this
                      clear hfin hap hcy hwy hG4 hokG
                      go_wp2
                      go_roundw
                      case rel => exact ⟨j3 + 1, G', cG', by omega, by go_num, by rw [hd1.out]; exact p1, k1, by rw [hd1.out]; exact hgA1, by rw [hd1.out]; exact fun h => absurd h hne⟩
                      case measure => simp [intOf]; omega
                    · have hd1 : Hid (dA C wd za zb (j3 + 1) = dA C wd za zb j3) := Lib.hid (dA_miss he)
                      have tq : ((bs wd).toList == (bs (awL j3)).toList) = false := by rw [bs_list, bs_list]; simp; exact fun h => he h.symm
                      clear hgt g0 g1 d8
                      go_wp2
                      go_roundw
                      case rel => exact ⟨j3 + 1, A', ca', by omega, by go_num, by rw [hd1.out]; exact hp9, hk9, by rw [hd1.out]; exact hg9, by rw [hd1.out]; exact hAA⟩
                      case measure => simp [intOf]; omega
                  · obtain rfl : j3 = 3 := by omega
                    have kk := hk8.trans_ hk9 (fun i hi hT => hT.elim (fun h => h) (fun h => by have := hgA i h; omega))
                    have hgA3 : ∀ g, (Value.slice A' (dA C wd za zb 3).gs.length ca').ownBlock = some g → v2.heap.size ≤ g := fun g hg => (hg9 g hg).elim (fun h => hgA g h) (fun h => by have := hk8.size; omega)
                    have hdo : (dA C wd za zb 3).os = C.os := by unfold dA; split <;> rfl
                    have hgO3 : ∀ g, (Value.slice O (dA C wd za zb 3).os.length co).ownBlock = some g → v2.heap.size ≤ g := by rw [hdo]; exact hgO
                    clear hgt hAA hdo
                    go_wp2
                    go_roundw
                    case rel => exact ⟨j + 1, A', ca', O, co, by omega, by go_num, by rw [HPN.out]; exact hp9, by rw [HPN.out]; exact hgA3, by rw [HPN.out]; exact hgO3, kk⟩
                    case measure => simp [intOf]; omega
              · have tm2 : ((k : Int) == 2) = false := by simp; omega
                have HPN := Lib.hid (hpn.trans ((stepAS_rest hws.out H1 H2 H3).trans (if_neg (by omega))))
                clear hpn H1 H2 H3 hws hXW hN
                go_wp2
                go_roundw
                case rel => exact ⟨j + 1, A, ca, O, co, by omega, by go_num, by rw [HPN.out]; exact hp1, by rw [HPN.out]; exact hgA, by rw [HPN.out]; exact hgO, hk1⟩
                case measure => simp [intOf]; omega
          · have t1 : ((bs wd).toList == [97, 114, 105, 116, 104]) = false := bs_not h1
            by_cases h2 : wd = outW
            · have t2 : ((bs wd).toList == [111, 117, 116, 115]) = true := bs_is h2
              have hst : Hid (stepAS C W = { C with os := l }) := Lib.hid (by rw [stepAS, hws.out, if_neg (fun h => h1 h.1), if_pos h2, hl.out])
              have HPN := Lib.hid (hpn.trans hst.out)
              have p1 := hp1.outs hN (by have := hloV.out; omega) hgAw (by omega)
              have k1 := hk1.set_ ⟨(w.heap.size + 1), 4, none⟩ (.slice N k nc) (fun _ => rfl)
              have hgO1 : ∀ g, (Value.slice N l.length nc).ownBlock = some g → v2.heap.size ≤ g := fun g hg => by
                rw [hN.len] at hg
                have := hN.lt g hg
                omega
              clear hpn hst h1 h2 hws hXW hN
              go_wp2
              go_roundw
              case rel => exact ⟨j + 1, A, ca, N, nc, by omega, by go_num, by rw [HPN.out]; exact p1, by rw [HPN.out]; exact hgA, by rw [HPN.out]; exact hgO1, k1⟩
              case measure => simp [intOf]; omega
            · have t2 : ((bs wd).toList == [111, 117, 116, 115]) = false := bs_not h2
              by_cases h3 : wd = awL 3
              · have t3 : ((bs wd).toList == [99, 111, 110, 115, 116]) = true := bs_is h3
                by_cases hm1 : k = 1
                · subst hm1
                  obtain ⟨kb, ob, rfl, hkb, hcs⟩ := hN.reads.2 (by omega)
                  have e0 := hcs 0 (by omega)
                  rw [Nat.add_zero] at e0
                  have hst : Hid (stepAS C W = { C with gs := C.gs ++ [⟨3, gi l 0, 0⟩] }) := Lib.hid (by rw [stepAS, hws.out, if_neg (fun h => h1 h.1), if_neg h2, if_pos ⟨h3, by omega⟩, hl.out])
                  have HPN := Lib.hid (hpn.trans hst.out)
                  have hnkA : ¬ (Value.slice A C.gs.length ca).ownBlock = some kb := fun hc => by
                    have := hN.lt kb (by simp [Value.ownBlock]); have := hgAw kb hc; omega
                  obtain ⟨za, hza⟩ : ∃ za, Hid (gi l 0 = za) := ⟨_, Lib.hid rfl⟩
                  rw [hza.out] at e0 HPN
                  clear hpn hst h1 h2 h3 hws hcs hXW
                  have hlt7 : ∀ g, (Value.slice A C.gs.length ca).ownBlock = some g → g < wr.heap.size := fun g hg => (hp1.ox.1.1.lt g hg).2.2
                  have hnbA : ¬ (Value.slice A C.gs.length ca).ownBlock = some (w.heap.size + 1) := hp1.ox.2.1
                  have hlo1 : (w.heap.size + 2) ≤ wr.heap.size := hloW.out
                  go_wp2_with fail
                  go_wp2_with fail
                  refine wp_region_mem (8) ((fun i => (Value.slice A C.gs.length ca).ownBlock = some i)) [(⟨(w.heap.size + 1), 3, none⟩, .slice A C.gs.length ca), (⟨kb, ob, none⟩, .int .i64 za)] [(6, [], []), (7, [100, 6], [100])] [100] [7] [(100, Res.rowG (w.heap.size + 2) C.gs.length C.gs), (6, Res.rowG (w.heap.size + 2) 1 [⟨3, za, 0⟩]), (7, Res.rowG (w.heap.size + 2) (C.gs.length + 1) (C.gs ++ [⟨3, za, 0⟩]))] ((upd (fun _ => undef) 100 (.slice A C.gs.length ca))) (by kernel_rfl) (by kernel_rfl) (by kernel_rfl) (by simp only [CellsL, List.mem_cons, forall_eq_or_imp, List.not_mem_nil, false_implies, implies_true, and_true]; repeat (any_goals (apply And.intro)); all_goals (first | assumption | go_simp)) (fun q9 hq9 => by simp only [List.mem_cons, List.not_mem_nil, or_false] at hq9; rcases hq9 with rfl | rfl <;> first | exact hnbA | exact hnkA) (⟨⟨hp1.ox.1.1, fun i hi => ⟨.inr hi, hlt7 i hi⟩⟩, trivial⟩) (only_apart) ?_
                  simp only [List.take_succ_cons, List.take_zero, List.drop_succ_cons, List.drop_zero, List.take_nil, List.drop_nil, List.take, List.drop]
                  repeat (first
                    | ((with_reducible refine mem_pure0 ?_ ?_ ?_)
                       · exact rfl
                       · exact rfl
                       intro K hK
                       apply Exists.intro
                       refine ⟨fun w3 hw3 => ?_, ?_⟩
                       · have hcs := hw3
                         simp only [CellsL, List.mem_cons, forall_eq_or_imp, List.not_mem_nil, false_implies, implies_true, and_true] at hcs
                         clear hw3
                         go_simp
                         first | done | exact ⟨rfl, rfl⟩ | rfl
                       refine hK _ ?_
                       clear hK K
                       try simp only [Act.put, List.setIfInBounds_toArray, List.set_cons_zero, List.set_cons_succ])
                    | ((with_reducible refine mem_skip ?_ ?_ ?_)
                       · exact rfl
                       · exact wanted_not rfl rfl rfl rfl
                       simp only [Act.put, List.setIfInBounds_toArray, List.set_cons_zero, List.set_cons_succ])
                    | ((with_reducible refine mem_pure ?_ ?_ ?_)
                       · exact rfl
                       · exact wanted_some rfl rfl rfl rfl
                       intro K hK
                       apply Exists.intro
                       refine ⟨fun w3 hw3 => ?_, ?_⟩
                       · have hcs := hw3
                         simp only [CellsL, List.mem_cons, forall_eq_or_imp, List.not_mem_nil, false_implies, implies_true, and_true] at hcs
                         clear hw3
                         go_simp
                         first | done | exact ⟨rfl, rfl⟩ | rfl
                       refine hK _ ?_
                       clear hK K
                       try simp only [Act.put, List.setIfInBounds_toArray, List.set_cons_zero, List.set_cons_succ]))
                  focus
                    (with_reducible refine mem_rowG (w.heap.size + 2) 1 [⟨3, za, 0⟩] ?_ ?_ ?_ ?_ ?_ (hw := ?_))
                    · exact rfl
                    · exact rfl
                    · omega
                    · intro w3 hw3 hc3 hp3
                      have hcs := hc3
                      simp only [CellsL, List.mem_cons, forall_eq_or_imp, List.not_mem_nil, false_implies, implies_true, and_true] at hcs
                      (go_simp; exact postRowG_one _ ⟨3, za, 0⟩)
                    rotate_left
                    · first | exact wanted_none rfl | exact wanted_some rfl rfl rfl rfl
                    intro A3 c3'
                    try simp only [Act.put, List.setIfInBounds_toArray, List.set_cons_zero, List.set_cons_succ]
                  repeat (first
                    | ((with_reducible refine mem_pure0 ?_ ?_ ?_)
                       · exact rfl
                       · exact rfl
                       intro K hK
                       apply Exists.intro
                       refine ⟨fun w3 hw3 => ?_, ?_⟩
                       · have hcs := hw3
                         simp only [CellsL, List.mem_cons, forall_eq_or_imp, List.not_mem_nil, false_implies, implies_true, and_true] at hcs
                         clear hw3
                         go_simp
                         first | done | exact ⟨rfl, rfl⟩ | rfl
                       refine hK _ ?_
                       clear hK K
                       try simp only [Act.put, List.setIfInBounds_toArray, List.set_cons_zero, List.set_cons_succ])
                    | ((with_reducible refine mem_skip ?_ ?_ ?_)
                       · exact rfl
                       · exact wanted_not rfl rfl rfl rfl
                       simp only [Act.put, List.setIfInBounds_toArray, List.set_cons_zero, List.set_cons_succ])
                    | ((with_reducible refine mem_pure ?_ ?_ ?_)
                       · exact rfl
                       · exact wanted_some rfl rfl rfl rfl
                       intro K hK
                       apply Exists.intro
                       refine ⟨fun w3 hw3 => ?_, ?_⟩
                       · have hcs := hw3
                         simp only [CellsL, List.mem_cons, forall_eq_or_imp, List.not_mem_nil, false_implies, implies_true, and_true] at hcs
                         clear hw3
                         go_simp
                         first | done | exact ⟨rfl, rfl⟩ | rfl
                       refine hK _ ?_
                       clear hK K
                       try simp only [Act.put, List.setIfInBounds_toArray, List.set_cons_zero, List.set_cons_succ]))
                  refine mem_appG 100 (w.heap.size + 2) C.gs.length 1 C.gs [⟨3, za, 0⟩] A ca A3 c3' (.tmp 76) (.tmp 81) (by rfl) (by rfl) (by omega) (by rfl) (by rfl) (by decide) (by rfl) (by rfl) (by rfl) (by rfl) (by omega) (fun w3 hw3 hc3 hp3 => ?_) (fun G' cG' => ?_)
                  · have h3 : OwnG w3 (w.heap.size + 2) w3.heap.size (.slice A3 1 c3') 1 [⟨3, za, 0⟩] := hp3.1.2.1.1
                    exact h3.reads
                  try simp only [Act.put, List.setIfInBounds_toArray, List.set_cons_zero, List.set_cons_succ]
                  repeat (first
                    | ((with_reducible refine mem_pure0 ?_ ?_ ?_)
                       · exact rfl
                       · exact rfl
                       intro K hK
                       apply Exists.intro
                       refine ⟨fun w3 hw3 => ?_, ?_⟩
                       · have hcs := hw3
                         simp only [CellsL, List.mem_cons, forall_eq_or_imp, List.not_mem_nil, false_implies, implies_true, and_true] at hcs
                         clear hw3
                         go_simp
                         first | done | exact ⟨rfl, rfl⟩ | rfl
                       refine hK _ ?_
                       clear hK K
                       try simp only [Act.put, List.setIfInBounds_toArray, List.set_cons_zero, List.set_cons_succ])
                    | ((with_reducible refine mem_skip ?_ ?_ ?_)
                       · exact rfl
                       · exact wanted_not rfl rfl rfl rfl
                       simp only [Act.put, List.setIfInBounds_toArray, List.set_cons_zero, List.set_cons_succ])
                    | ((with_reducible refine mem_pure ?_ ?_ ?_)
                       · exact rfl
                       · exact wanted_some rfl rfl rfl rfl
                       intro K hK
                       apply Exists.intro
                       refine ⟨fun w3 hw3 => ?_, ?_⟩
                       · have hcs := hw3
                         simp only [CellsL, List.mem_cons, forall_eq_or_imp, List.not_mem_nil, false_implies, implies_true, and_true] at hcs
                         clear hw3
                         go_simp
                         first | done | exact ⟨rfl, rfl⟩ | rfl
                       refine hK _ ?_
                       clear hK K
                       try simp only [Act.put, List.setIfInBounds_toArray, List.set_cons_zero, List.set_cons_succ]))
                  refine wpSep_end ?_
                  intro wy hwy hcy hfin hap
                  have hG4 : OwnG wy (w.heap.size + 2) wy.heap.size (.slice G' (C.gs.length + 1) cG') (C.gs.length + 1) (C.gs ++ [⟨3, za, 0⟩]) := hfin.1.1
                  have hokG : ∀ g, (Value.slice G' (C.gs.length + 1) cG').ownBlock = some g → okB wr (fun i => (Value.slice A C.gs.length ca).ownBlock = some i) g := fun g hb => (hfin.1.2 g hb).1
                  have p1 := hp1.gate hwy hG4 hokG
                  have hbS : ¬ okB wr (fun i => (Value.slice A C.gs.length ca).ownBlock = some i) (w.heap.size + 1) := fun hc => hc.elim (fun h => by have := hp1.lt; omega) hnbA
                  have hq := hp1.bx.alt hwy hbS; obtain ⟨m0, m1, m2, m3, m4⟩ := hq
                  have f3 := (hp1.fz.alt hwy hp1.lt hbS) 3
                  have k0 : Alt (fun i => i = (w.heap.size + 1)) v2 wy := hk1.via hwy hgA
                  have k1 := k0.set_ ⟨(w.heap.size + 1), 3, none⟩ (.slice G' (C.gs.length + 1) cG') (fun _ => rfl)
                  have hgA1 : ∀ g, (Value.slice G' (C.gs ++ [(⟨3, za, 0⟩ : G3)]).length cG').ownBlock = some g → v2.heap.size ≤ g := fun g hg => by
                    have h8 := hokG g (by simpa [Value.ownBlock] using hg)
                    rcases h8 with h8 | h8
                    · have := hk1.size; omega
                    · exact hgA g h8
                  clear hfin hap hcy hwy hG4 hokG
                  go_wp2
                  go_roundw
                  case rel => exact ⟨j + 1, G', cG', O, co, by omega, by go_num, by rw [HPN.out]; exact p1, by rw [HPN.out]; exact hgA1, by rw [HPN.out]; exact hgO, k1⟩
                  case measure => simp [intOf]; omega
                · have tm1 : ((k : Int) == 1) = false := by simp; omega
                  have H1 : ¬ (wd = ariW ∧ W.length = 4) := fun h => h1 h.1
                  have H2 : ¬ wd = outW := h2
                  have H3 : ¬ (wd = awL 3 ∧ W.length = 2) := fun h => by omega
                  clear h1 h2 h3
                  by_cases hm2 : k = 2
                  · subst hm2
                    obtain ⟨kb, ob, rfl, hkb, hcs⟩ := hN.reads.2 (by omega)
                    have e0 := hcs 0 (by omega)
                    have e1 := hcs 1 (by omega)
                    rw [Nat.add_zero] at e0
                    obtain ⟨za, hza⟩ : ∃ za, Hid (gi l 0 = za) := ⟨_, Lib.hid rfl⟩
                    obtain ⟨zb, hzb⟩ : ∃ zb, Hid (gi l 1 = zb) := ⟨_, Lib.hid rfl⟩
                    have hst : Hid (stepAS C W = dA C wd za zb 3) := Lib.hid (by rw [stepAS_rest hws.out H1 H2 H3, if_pos (by omega), hl.out, hza.out, hzb.out])
                    have HPN := Lib.hid (hpn.trans hst.out)
                    rw [hza.out] at e0
                    rw [hzb.out] at e1
                    have hnkA : ¬ (Value.slice A C.gs.length ca).ownBlock = some kb := fun hc => by
                      have := hN.lt kb (by simp [Value.ownBlock]); have := hgAw kb hc; omega
                    have hkbb : kb ≠ (w.heap.size + 1) := by have := hN.lt kb (by simp [Value.ownBlock]); omega
                    clear hpn hst hcs
                    go_wp2
                    have hA8 : Below wr.heap.size wr (wr.alloc (.cells #[.string ⟨#[97, 100, 100]⟩, .string ⟨#[109, 117, 108]⟩, .string ⟨#[115, 99, 97, 108, 101]⟩] 9)) := (Below.refl _ _).alloc (Nat.le_refl _) _
                    have hp8 := hp1.below hA8 (Nat.le_refl _)
                    have hk8 := hk1.new_ hA8
                    have d8 := cell_below d6 hA8
                    have g0 := cell_below e0 hA8
                    have g1 := cell_below e1 hA8
                    have hgt : ∀ i, i ≤ 2 → (wr.alloc (.cells #[.string ⟨#[97, 100, 100]⟩, .string ⟨#[109, 117, 108]⟩, .string ⟨#[115, 99, 97, 108, 101]⟩] 9)).cell? ⟨wr.heap.size, i, none⟩ = some (.string (bs (awL i))) := fun i hi => by
                      have h : i = 0 ∨ i = 1 ∨ i = 2 := by omega
                      rcases h with rfl | rfl | rfl <;> exact box_cell _ _ _ _ rfl
                    have hqbA : ¬ (Value.slice A C.gs.length ca).ownBlock = some q3 := hqA.out
                    have hsB : wr.heap.size < (wr.alloc (.cells #[.string ⟨#[97, 100, 100]⟩, .string ⟨#[109, 117, 108]⟩, .string ⟨#[115, 99, 97, 108, 101]⟩] 9)).heap.size := by simp
                    have hsbA : ¬ (Value.slice A C.gs.length ca).ownBlock = some wr.heap.size := fun hc => by have := hgAw _ hc; have := hloV.out; omega
                    have hsbb : wr.heap.size ≠ (w.heap.size + 1) := by have := hp1.lt; omega
                    have hlo8 : (w.heap.size + 2) ≤ (wr.alloc (.cells #[.string ⟨#[97, 100, 100]⟩, .string ⟨#[109, 117, 108]⟩, .string ⟨#[115, 99, 97, 108, 101]⟩] 9)).heap.size := Nat.le_trans hloW.out hA8.size
                    generalize hsz : wr.heap.size = sB at *
                    generalize hw8 : wr.alloc (.cells #[.string ⟨#[97, 100, 100]⟩, .string ⟨#[109, 117, 108]⟩, .string ⟨#[115, 99, 97, 108, 101]⟩] 9) = w8 at *
                    clear H1 H2 H3 hws hXW hN hw8 e0 e1 d6 hkb
                    go_loopw [90] (fun i w9 => ∃ (j3 : Nat) (A' : Option Addr) (ca' : Nat), j3 ≤ 3 ∧ i = .int .i64 j3 ∧ PA w9 (w.heap.size + 2) (w.heap.size + 1) (dA C wd za zb j3) A' ca' O co ∧ Alt (fun k => k = (w.heap.size + 1) ∨ (Value.slice A C.gs.length ca).ownBlock = some k) w8 w9 ∧ (∀ g, (Value.slice A' (dA C wd za zb j3).gs.length ca').ownBlock = some g → (Value.slice A C.gs.length ca).ownBlock = some g ∨ w8.heap.size ≤ g) ∧ (dA C wd za zb j3 = C → A' = A ∧ ca' = ca)) (fun i _ => 3 - (intOf i).toNat)
                    case atStart => exact ⟨0, A, ca, by omega, rfl, hp8, Alt.refl_ _ _, fun g hg => .inl hg, fun _ => ⟨rfl, rfl⟩⟩
                    case round =>
                      clear hp8 hp1 hk1 m0 m1 m2 m3 m4 f0 f1 f2 f3 f4
                      obtain ⟨j3, A', ca', hj3, rfl, hp9, hk9, hg9, hAA⟩ := hrel
                      have q6 := hk9.cell_ d8 (fun h => h.elim (fun h => hqb.out h) hqbA)
                      by_cases hlt3 : j3 < 3
                      · have q7 := hk9.cell_ (hgt j3 (by omega)) (fun h => h.elim (fun h => hsbb h) hsbA)
                        have g0' := hk9.cell_ g0 (fun h => h.elim (fun h => hkbb h) hnkA)
                        have g1' := hk9.cell_ g1 (fun h => h.elim (fun h => hkbb h) hnkA)
                        have hj4 : (j3 : Int) < 3 := by omega
                        by_cases he : awL j3 = wd
                        · have hd0 := dA_at (C := C) (za := za) (zb := zb) he (by omega)
                          have hd1 : Hid (dA C wd za zb (j3 + 1) = { C with gs := C.gs ++ [⟨(j3 : Int), za, zb⟩] }) := Lib.hid (dA_hit he)
                          obtain ⟨rfl, rfl⟩ := hAA hd0
                          rw [hd0] at hp9 hg9
                          have tq : ((bs wd).toList == (bs (awL j3)).toList) = true := by rw [bs_list, bs_list, he]; simp
                          have hp1 := hp9
                          have hloW : Hid ((w.heap.size + 2) ≤ wr.heap.size) := Lib.hid (Nat.le_trans hlo8 hk9.size)
                          have hq := hp1.bx; obtain ⟨m0, m1, m2, m3, m4⟩ := hq
                          clear hd0 hAA hgt hp9 g0 g1 d8
                          have hlt7 : ∀ g, (Value.slice A' C.gs.length ca').ownBlock = some g → g < wr.heap.size := fun g hg => (hp1.ox.1.1.lt g hg).2.2
                          have hnbA : ¬ (Value.slice A' C.gs.length ca').ownBlock = some (w.heap.size + 1) := hp1.ox.2.1
                          have hlo1 : (w.heap.size + 2) ≤ wr.heap.size := hloW.out
                          go_wp2_with fail
                          go_wp2_with fail
                          refine wp_region_mem (12) ((fun i => (Value.slice A' C.gs.length ca').ownBlock = some i)) [(⟨(w.heap.size + 1), 3, none⟩, .slice A' C.gs.length ca'), (⟨kb, ob, none⟩, .int .i64 za), (⟨kb, ob + 1, none⟩, .int .i64 zb)] [(10, [], []), (11, [100, 10], [100])] [100] [11] [(100, Res.rowG (w.heap.size + 2) C.gs.length C.gs), (10, Res.rowG (w.heap.size + 2) 1 [⟨(j3 : Int), za, zb⟩]), (11, Res.rowG (w.heap.size + 2) (C.gs.length + 1) (C.gs ++ [⟨(j3 : Int), za, zb⟩]))] ((upd (fun _ => undef) 100 (.slice A' C.gs.length ca'))) (by kernel_rfl) (by kernel_rfl) (by kernel_rfl) (by simp only [CellsL, List.mem_cons, forall_eq_or_imp, List.not_mem_nil, false_implies, implies_true, and_true]; repeat (any_goals (apply And.intro)); all_goals (first | assumption | go_simp)) (fun q9 hq9 => by simp only [List.mem_cons, List.not_mem_nil, or_false] at hq9; rcases hq9 with rfl | rfl | rfl <;> first | exact hnbA | exact hnkA) (⟨⟨hp1.ox.1.1, fun i hi => ⟨.inr hi, hlt7 i hi⟩⟩, trivial⟩) (only_apart) ?_
                          simp only [List.take_succ_cons, List.take_zero, List.drop_succ_cons, List.drop_zero, List.take_nil, List.drop_nil, List.take, List.drop]
                          repeat (first
                            | ((with_reducible refine mem_pure0 ?_ ?_ ?_)
                               · exact rfl
                               · exact rfl
                               intro K hK
                               apply Exists.intro
                               refine ⟨fun w3 hw3 => ?_, ?_⟩
                               · have hcs := hw3
                                 simp only [CellsL, List.mem_cons, forall_eq_or_imp, List.not_mem_nil, false_implies, implies_true, and_true] at hcs
                                 clear hw3
                                 go_simp
                                 first | done | exact ⟨rfl, rfl⟩ | rfl
                               refine hK _ ?_
                               clear hK K
                               try simp only [Act.put, List.setIfInBounds_toArray, List.set_cons_zero, List.set_cons_succ])
                            | ((with_reducible refine mem_skip ?_ ?_ ?_)
                               · exact rfl
                               · exact wanted_not rfl rfl rfl rfl
                               simp only [Act.put, List.setIfInBounds_toArray, List.set_cons_zero, List.set_cons_succ])
                            | ((with_reducible refine mem_pure ?_ ?_ ?_)
                               · exact rfl
                               · exact wanted_some rfl rfl rfl rfl
                               intro K hK
                               apply Exists.intro
                               refine ⟨fun w3 hw3 => ?_, ?_⟩
                               · have hcs := hw3
                                 simp only [CellsL, List.mem_cons, forall_eq_or_imp, List.not_mem_nil, false_implies, implies_true, and_true] at hcs
                                 clear hw3
                                 go_simp
                                 first | done | exact ⟨rfl, rfl⟩ | rfl
                               refine hK _ ?_
                               clear hK K
                               try simp only [Act.put, List.setIfInBounds_toArray, List.set_cons_zero, List.set_cons_succ]))
                          focus
                            (with_reducible refine mem_rowG (w.heap.size + 2) 1 [⟨(j3 : Int), za, zb⟩] ?_ ?_ ?_ ?_ ?_ (hw := ?_))
                            · exact rfl
                            · exact rfl
                            · omega
                            · intro w3 hw3 hc3 hp3
                              have hcs := hc3
                              simp only [CellsL, List.mem_cons, forall_eq_or_imp, List.not_mem_nil, false_implies, implies_true, and_true] at hcs
                              (go_simp; exact postRowG_one _ ⟨(j3 : Int), za, zb⟩)
                            rotate_left
                            · first | exact wanted_none rfl | exact wanted_some rfl rfl rfl rfl
                            intro A3 c3'
                            try simp only [Act.put, List.setIfInBounds_toArray, List.set_cons_zero, List.set_cons_succ]
                          repeat (first
                            | ((with_reducible refine mem_pure0 ?_ ?_ ?_)
                               · exact rfl
                               · exact rfl
                               intro K hK
                               apply Exists.intro
                               refine ⟨fun w3 hw3 => ?_, ?_⟩
                               · have hcs := hw3
                                 simp only [CellsL, List.mem_cons, forall_eq_or_imp, List.not_mem_nil, false_implies, implies_true, and_true] at hcs
                                 clear hw3
                                 go_simp
                                 first | done | exact ⟨rfl, rfl⟩ | rfl
                               refine hK _ ?_
                               clear hK K
                               try simp only [Act.put, List.setIfInBounds_toArray, List.set_cons_zero, List.set_cons_succ])
                            | ((with_reducible refine mem_skip ?_ ?_ ?_)
                               · exact rfl
                               · exact wanted_not rfl rfl rfl rfl
                               simp only [Act.put, List.setIfInBounds_toArray, List.set_cons_zero, List.set_cons_succ])
                            | ((with_reducible refine mem_pure ?_ ?_ ?_)
                               · exact rfl
                               · exact wanted_some rfl rfl rfl rfl
                               intro K hK
                               apply Exists.intro
                               refine ⟨fun w3 hw3 => ?_, ?_⟩
                               · have hcs := hw3
                                 simp only [CellsL, List.mem_cons, forall_eq_or_imp, List.not_mem_nil, false_implies, implies_true, and_true] at hcs
                                 clear hw3
                                 go_simp
                                 first | done | exact ⟨rfl, rfl⟩ | rfl
                               refine hK _ ?_
                               clear hK K
                               try simp only [Act.put, List.setIfInBounds_toArray, List.set_cons_zero, List.set_cons_succ]))
                          refine mem_appG 100 (w.heap.size + 2) C.gs.length 1 C.gs [⟨(j3 : Int), za, zb⟩] A' ca' A3 c3' (.tmp 101) (.tmp 110) (by rfl) (by rfl) (by omega) (by rfl) (by rfl) (by decide) (by rfl) (by rfl) (by rfl) (by rfl) (by omega) (fun w3 hw3 hc3 hp3 => ?_) (fun G' cG' => ?_)
                          · have h3 : OwnG w3 (w.heap.size + 2) w3.heap.size (.slice A3 1 c3') 1 [⟨(j3 : Int), za, zb⟩] := hp3.1.2.1.1
                            exact h3.reads
                          try simp only [Act.put, List.setIfInBounds_toArray, List.set_cons_zero, List.set_cons_succ]
                          repeat (first
                            | ((with_reducible refine mem_pure0 ?_ ?_ ?_)
                               · exact rfl
                               · exact rfl
                               intro K hK
                               apply Exists.intro
                               refine ⟨fun w3 hw3 => ?_, ?_⟩
                               · have hcs := hw3
                                 simp only [CellsL, List.mem_cons, forall_eq_or_imp, List.not_mem_nil, false_implies, implies_true, and_true] at hcs
                                 clear hw3
                                 go_simp
                                 first | done | exact ⟨rfl, rfl⟩ | rfl
                               refine hK _ ?_
                               clear hK K
                               try simp only [Act.put, List.setIfInBounds_toArray, List.set_cons_zero, List.set_cons_succ])
                            | ((with_reducible refine mem_skip ?_ ?_ ?_)
                               · exact rfl
                               · exact wanted_not rfl rfl rfl rfl
                               simp only [Act.put, List.setIfInBounds_toArray, List.set_cons_zero, List.set_cons_succ])
                            | ((with_reducible refine mem_pure ?_ ?_ ?_)
                               · exact rfl
                               · exact wanted_some rfl rfl rfl rfl
                               intro K hK
                               apply Exists.intro
                               refine ⟨fun w3 hw3 => ?_, ?_⟩
                               · have hcs := hw3
                                 simp only [CellsL, List.mem_cons, forall_eq_or_imp, List.not_mem_nil, false_implies, implies_true, and_true] at hcs
                                 clear hw3
                                 go_simp
                                 first | done | exact ⟨rfl, rfl⟩ | rfl
                               refine hK _ ?_
                               clear hK K
                               try simp only [Act.put, List.setIfInBounds_toArray, List.set_cons_zero, List.set_cons_succ]))
                          refine wpSep_end ?_
                          intro wy hwy hcy hfin hap
                          have hG4 : OwnG wy (w.heap.size + 2) wy.heap.size (.slice G' (C.gs.length + 1) cG') (C.gs.length + 1) (C.gs ++ [⟨(j3 : Int), za, zb⟩]) := hfin.1.1
                          have hokG : ∀ g, (Value.slice G' (C.gs.length + 1) cG').ownBlock = some g → okB wr (fun i => (Value.slice A' C.gs.length ca').ownBlock = some i) g := fun g hb => (hfin.1.2 g hb).1
                          have p1 := hp1.gate hwy hG4 hokG
                          have hbS : ¬ okB wr (fun i => (Value.slice A' C.gs.length ca').ownBlock = some i) (w.heap.size + 1) := fun hc => hc.elim (fun h => by have := hp1.lt; omega) hnbA
                          have hq := hp1.bx.alt hwy hbS; obtain ⟨m0, m1, m2, m3, m4⟩ := hq
                          have f3 := (hp1.fz.alt hwy hp1.lt hbS) 3
                          have k0 : Alt (fun k => k = (w.heap.size + 1) ∨ (Value.slice A' C.gs.length ca').ownBlock = some k) w8 wy := hk9.trans_ hwy (fun i hi hT => hT.elim (fun h => by have := hk9.size; omega) (fun h => .inr h))
                          have k1 := k0.set_ ⟨(w.heap.size + 1), 3, none⟩ (.slice G' (C.gs.length + 1) cG') (fun _ => .inl rfl)
                          have hgA1 : ∀ g, (Value.slice G' (C.gs ++ [(⟨(j3 : Int), za, zb⟩ : G3)]).length cG').ownBlock = some g → (Value.slice A' C.gs.length ca').ownBlock = some g ∨ w8.heap.size ≤ g := fun g hg => by
                            have h8 := hokG g (by simpa [Value.ownBlock] using hg)
                            rcases h8 with h8 | h8
                            · have := hk9.size; right; omega
                            · exact .inl h8
                          have hne : ¬ { C with gs := C.gs ++ [(⟨(j3 : Int), za, zb⟩ : G3)] } = C := fun h => by have := congrArg (fun c : Ai => c.gs.length) h; simp at this
                          clear hfin hap hcy hwy hG4 hokG
                          go_wp2
                          go_roundw
                          case rel => exact ⟨j3 + 1, G', cG', by omega, by go_num, by rw [hd1.out]; exact p1, k1, by rw [hd1.out]; exact hgA1, by rw [hd1.out]; exact fun h => absurd h hne⟩
                          case measure => simp [intOf]; omega
                        · have hd1 : Hid (dA C wd za zb (j3 + 1) = dA C wd za zb j3) := Lib.hid (dA_miss he)
                          have tq : ((bs wd).toList == (bs (awL j3)).toList) = false := by rw [bs_list, bs_list]; simp; exact fun h => he h.symm
                          clear hgt g0 g1 d8
                          go_wp2
                          go_roundw
                          case rel => exact ⟨j3 + 1, A', ca', by omega, by go_num, by rw [hd1.out]; exact hp9, hk9, by rw [hd1.out]; exact hg9, by rw [hd1.out]; exact hAA⟩
                          case measure => simp [intOf]; omega
                      · obtain rfl : j3 = 3 := by omega
                        have kk := hk8.trans_ hk9 (fun i hi hT => hT.elim (fun h => h) (fun h => by have := hgA i h; omega))
                        have hgA3 : ∀ g, (Value.slice A' (dA C wd za zb 3).gs.length ca').ownBlock = some g → v2.heap.size ≤ g := fun g hg => (hg9 g hg).elim (fun h => hgA g h) (fun h => by have := hk8.size; omega)
                        have hdo : (dA C wd za zb 3).os = C.os := by unfold dA; split <;> rfl
                        have hgO3 : ∀ g, (Value.slice O (dA C wd za zb 3).os.length co).ownBlock = some g → v2.heap.size ≤ g := by rw [hdo]; exact hgO
                        clear hgt hAA hdo
                        go_wp2
                        go_roundw
                        case rel => exact ⟨j + 1, A', ca', O, co, by omega, by go_num, by rw [HPN.out]; exact hp9, by rw [HPN.out]; exact hgA3, by rw [HPN.out]; exact hgO3, kk⟩
                        case measure => simp [intOf]; omega
                  · have tm2 : ((k : Int) == 2) = false := by simp; omega
                    have HPN := Lib.hid (hpn.trans ((stepAS_rest hws.out H1 H2 H3).trans (if_neg (by omega))))
                    clear hpn H1 H2 H3 hws hXW hN
                    go_wp2
                    go_roundw
                    case rel => exact ⟨j + 1, A, ca, O, co, by omega, by go_num, by rw [HPN.out]; exact hp1, by rw [HPN.out]; exact hgA, by rw [HPN.out]; exact hgO, hk1⟩
                    case measure => simp [intOf]; omega
              · have t3 : ((bs wd).toList == [99, 111, 110, 115, 116]) = false := bs_not h3
                have H1 : ¬ (wd = ariW ∧ W.length = 4) := fun h => h1 h.1
                have H2 : ¬ wd = outW := h2
                have H3 : ¬ (wd = awL 3 ∧ W.length = 2) := fun h => h3 h.1
                clear h1 h2 h3
                by_cases hm2 : k = 2
                · subst hm2
                  obtain ⟨kb, ob, rfl, hkb, hcs⟩ := hN.reads.2 (by omega)
                  have e0 := hcs 0 (by omega)
                  have e1 := hcs 1 (by omega)
                  rw [Nat.add_zero] at e0
                  obtain ⟨za, hza⟩ : ∃ za, Hid (gi l 0 = za) := ⟨_, Lib.hid rfl⟩
                  obtain ⟨zb, hzb⟩ : ∃ zb, Hid (gi l 1 = zb) := ⟨_, Lib.hid rfl⟩
                  have hst : Hid (stepAS C W = dA C wd za zb 3) := Lib.hid (by rw [stepAS_rest hws.out H1 H2 H3, if_pos (by omega), hl.out, hza.out, hzb.out])
                  have HPN := Lib.hid (hpn.trans hst.out)
                  rw [hza.out] at e0
                  rw [hzb.out] at e1
                  have hnkA : ¬ (Value.slice A C.gs.length ca).ownBlock = some kb := fun hc => by
                    have := hN.lt kb (by simp [Value.ownBlock]); have := hgAw kb hc; omega
                  have hkbb : kb ≠ (w.heap.size + 1) := by have := hN.lt kb (by simp [Value.ownBlock]); omega
                  clear hpn hst hcs
                  go_wp2
                  have hA8 : Below wr.heap.size wr (wr.alloc (.cells #[.string ⟨#[97, 100, 100]⟩, .string ⟨#[109, 117, 108]⟩, .string ⟨#[115, 99, 97, 108, 101]⟩] 9)) := (Below.refl _ _).alloc (Nat.le_refl _) _
                  have hp8 := hp1.below hA8 (Nat.le_refl _)
                  have hk8 := hk1.new_ hA8
                  have d8 := cell_below d6 hA8
                  have g0 := cell_below e0 hA8
                  have g1 := cell_below e1 hA8
                  have hgt : ∀ i, i ≤ 2 → (wr.alloc (.cells #[.string ⟨#[97, 100, 100]⟩, .string ⟨#[109, 117, 108]⟩, .string ⟨#[115, 99, 97, 108, 101]⟩] 9)).cell? ⟨wr.heap.size, i, none⟩ = some (.string (bs (awL i))) := fun i hi => by
                    have h : i = 0 ∨ i = 1 ∨ i = 2 := by omega
                    rcases h with rfl | rfl | rfl <;> exact box_cell _ _ _ _ rfl
                  have hqbA : ¬ (Value.slice A C.gs.length ca).ownBlock = some q3 := hqA.out
                  have hsB : wr.heap.size < (wr.alloc (.cells #[.string ⟨#[97, 100, 100]⟩, .string ⟨#[109, 117, 108]⟩, .string ⟨#[115, 99, 97, 108, 101]⟩] 9)).heap.size := by simp
                  have hsbA : ¬ (Value.slice A C.gs.length ca).ownBlock = some wr.heap.size := fun hc => by have := hgAw _ hc; have := hloV.out; omega
                  have hsbb : wr.heap.size ≠ (w.heap.size + 1) := by have := hp1.lt; omega
                  have hlo8 : (w.heap.size + 2) ≤ (wr.alloc (.cells #[.string ⟨#[97, 100, 100]⟩, .string ⟨#[109, 117, 108]⟩, .string ⟨#[115, 99, 97, 108, 101]⟩] 9)).heap.size := Nat.le_trans hloW.out hA8.size
                  generalize hsz : wr.heap.size = sB at *
                  generalize hw8 : wr.alloc (.cells #[.string ⟨#[97, 100, 100]⟩, .string ⟨#[109, 117, 108]⟩, .string ⟨#[115, 99, 97, 108, 101]⟩] 9) = w8 at *
                  clear H1 H2 H3 hws hXW hN hw8 e0 e1 d6 hkb
                  go_loopw [90] (fun i w9 => ∃ (j3 : Nat) (A' : Option Addr) (ca' : Nat), j3 ≤ 3 ∧ i = .int .i64 j3 ∧ PA w9 (w.heap.size + 2) (w.heap.size + 1) (dA C wd za zb j3) A' ca' O co ∧ Alt (fun k => k = (w.heap.size + 1) ∨ (Value.slice A C.gs.length ca).ownBlock = some k) w8 w9 ∧ (∀ g, (Value.slice A' (dA C wd za zb j3).gs.length ca').ownBlock = some g → (Value.slice A C.gs.length ca).ownBlock = some g ∨ w8.heap.size ≤ g) ∧ (dA C wd za zb j3 = C → A' = A ∧ ca' = ca)) (fun i _ => 3 - (intOf i).toNat)
                  case atStart => exact ⟨0, A, ca, by omega, rfl, hp8, Alt.refl_ _ _, fun g hg => .inl hg, fun _ => ⟨rfl, rfl⟩⟩
                  case round =>
                    clear hp8 hp1 hk1 m0 m1 m2 m3 m4 f0 f1 f2 f3 f4
                    obtain ⟨j3, A', ca', hj3, rfl, hp9, hk9, hg9, hAA⟩ := hrel
                    have q6 := hk9.cell_ d8 (fun h => h.elim (fun h => hqb.out h) hqbA)
                    by_cases hlt3 : j3 < 3
                    · have q7 := hk9.cell_ (hgt j3 (by omega)) (fun h => h.elim (fun h => hsbb h) hsbA)
                      have g0' := hk9.cell_ g0 (fun h => h.elim (fun h => hkbb h) hnkA)
                      have g1' := hk9.cell_ g1 (fun h => h.elim (fun h => hkbb h) hnkA)
                      have hj4 : (j3 : Int) < 3 := by omega
                      by_cases he : awL j3 = wd
                      · have hd0 := dA_at (C := C) (za := za) (zb := zb) he (by omega)
                        have hd1 : Hid (dA C wd za zb (j3 + 1) = { C with gs := C.gs ++ [⟨(j3 : Int), za, zb⟩] }) := Lib.hid (dA_hit he)
                        obtain ⟨rfl, rfl⟩ := hAA hd0
                        rw [hd0] at hp9 hg9
                        have tq : ((bs wd).toList == (bs (awL j3)).toList) = true := by rw [bs_list, bs_list, he]; simp
                        have hp1 := hp9
                        have hloW : Hid ((w.heap.size + 2) ≤ wr.heap.size) := Lib.hid (Nat.le_trans hlo8 hk9.size)
                        have hq := hp1.bx; obtain ⟨m0, m1, m2, m3, m4⟩ := hq
                        clear hd0 hAA hgt hp9 g0 g1 d8
                        have hlt7 : ∀ g, (Value.slice A' C.gs.length ca').ownBlock = some g → g < wr.heap.size := fun g hg => (hp1.ox.1.1.lt g hg).2.2
                        have hnbA : ¬ (Value.slice A' C.gs.length ca').ownBlock = some (w.heap.size + 1) := hp1.ox.2.1
                        have hlo1 : (w.heap.size + 2) ≤ wr.heap.size := hloW.out
                        go_wp2_with fail
                        go_wp2_with fail
                        refine wp_region_mem (12) ((fun i => (Value.slice A' C.gs.length ca').ownBlock = some i)) [(⟨(w.heap.size + 1), 3, none⟩, .slice A' C.gs.length ca'), (⟨kb, ob, none⟩, .int .i64 za), (⟨kb, ob + 1, none⟩, .int .i64 zb)] [(10, [], []), (11, [100, 10], [100])] [100] [11] [(100, Res.rowG (w.heap.size + 2) C.gs.length C.gs), (10, Res.rowG (w.heap.size + 2) 1 [⟨(j3 : Int), za, zb⟩]), (11, Res.rowG (w.heap.size + 2) (C.gs.length + 1) (C.gs ++ [⟨(j3 : Int), za, zb⟩]))] ((upd (fun _ => undef) 100 (.slice A' C.gs.length ca'))) (by kernel_rfl) (by kernel_rfl) (by kernel_rfl) (by simp only [CellsL, List.mem_cons, forall_eq_or_imp, List.not_mem_nil, false_implies, implies_true, and_true]; repeat (any_goals (apply And.intro)); all_goals (first | assumption | go_simp)) (fun q9 hq9 => by simp only [List.mem_cons, List.not_mem_nil, or_false] at hq9; rcases hq9 with rfl | rfl | rfl <;> first | exact hnbA | exact hnkA) (⟨⟨hp1.ox.1.1, fun i hi => ⟨.inr hi, hlt7 i hi⟩⟩, trivial⟩) (only_apart) ?_
                        simp only [List.take_succ_cons, List.take_zero, List.drop_succ_cons, List.drop_zero, List.take_nil, List.drop_nil, List.take, List.drop]
                        repeat (first
                          | ((with_reducible refine mem_pure0 ?_ ?_ ?_)
                             · exact rfl
                             · exact rfl
                             intro K hK
                             apply Exists.intro
                             refine ⟨fun w3 hw3 => ?_, ?_⟩
                             · have hcs := hw3
                               simp only [CellsL, List.mem_cons, forall_eq_or_imp, List.not_mem_nil, false_implies, implies_true, and_true] at hcs
                               clear hw3
                               go_simp
                               first | done | exact ⟨rfl, rfl⟩ | rfl
                             refine hK _ ?_
                             clear hK K
                             try simp only [Act.put, List.setIfInBounds_toArray, List.set_cons_zero, List.set_cons_succ])
                          | ((with_reducible refine mem_skip ?_ ?_ ?_)
                             · exact rfl
                             · exact wanted_not rfl rfl rfl rfl
                             simp only [Act.put, List.setIfInBounds_toArray, List.set_cons_zero, List.set_cons_succ])
                          | ((with_reducible refine mem_pure ?_ ?_ ?_)
                             · exact rfl
                             · exact wanted_some rfl rfl rfl rfl
                             intro K hK
                             apply Exists.intro
                             refine ⟨fun w3 hw3 => ?_, ?_⟩
                             · have hcs := hw3
                               simp only [CellsL, List.mem_cons, forall_eq_or_imp, List.not_mem_nil, false_implies, implies_true, and_true] at hcs
                               clear hw3
                               go_simp
                               first | done | exact ⟨rfl, rfl⟩ | rfl
                             refine hK _ ?_
                             clear hK K
                             try simp only [Act.put, List.setIfInBounds_toArray, List.set_cons_zero, List.set_cons_succ]))
                        focus
                          (with_reducible refine mem_rowG (w.heap.size + 2) 1 [⟨(j3 : Int), za, zb⟩] ?_ ?_ ?_ ?_ ?_ (hw := ?_))
                          · exact rfl
                          · exact rfl
                          · omega
                          · intro w3 hw3 hc3 hp3
                            have hcs := hc3
                            simp only [CellsL, List.mem_cons, forall_eq_or_imp, List.not_mem_nil, false_implies, implies_true, and_true] at hcs
                            (go_simp; exact postRowG_one _ ⟨(j3 : Int), za, zb⟩)
                          rotate_left
                          · first | exact wanted_none rfl | exact wanted_some rfl rfl rfl rfl
                          intro A3 c3'
                          try simp only [Act.put, List.setIfInBounds_toArray, List.set_cons_zero, List.set_cons_succ]
                        repeat (first
                          | ((with_reducible refine mem_pure0 ?_ ?_ ?_)
                             · exact rfl
                             · exact rfl
                             intro K hK
                             apply Exists.intro
                             refine ⟨fun w3 hw3 => ?_, ?_⟩
                             · have hcs := hw3
                               simp only [CellsL, List.mem_cons, forall_eq_or_imp, List.not_mem_nil, false_implies, implies_true, and_true] at hcs
                               clear hw3
                               go_simp
                               first | done | exact ⟨rfl, rfl⟩ | rfl
                             refine hK _ ?_
                             clear hK K
                             try simp only [Act.put, List.setIfInBounds_toArray, List.set_cons_zero, List.set_cons_succ])
                          | ((with_reducible refine mem_skip ?_ ?_ ?_)
                             · exact rfl
                             · exact wanted_not rfl rfl rfl rfl
                             simp only [Act.put, List.setIfInBounds_toArray, List.set_cons_zero, List.set_cons_succ])
                          | ((with_reducible refine mem_pure ?_ ?_ ?_)
                             · exact rfl
                             · exact wanted_some rfl rfl rfl rfl
                             intro K hK
                             apply Exists.intro
                             refine ⟨fun w3 hw3 => ?_, ?_⟩
                             · have hcs := hw3
                               simp only [CellsL, List.mem_cons, forall_eq_or_imp, List.not_mem_nil, false_implies, implies_true, and_true] at hcs
                               clear hw3
                               go_simp
                               first | done | exact ⟨rfl, rfl⟩ | rfl
                             refine hK _ ?_
                             clear hK K
                             try simp only [Act.put, List.setIfInBounds_toArray, List.set_cons_zero, List.set_cons_succ]))
                        refine mem_appG 100 (w.heap.size + 2) C.gs.length 1 C.gs [⟨(j3 : Int), za, zb⟩] A' ca' A3 c3' (.tmp 101) (.tmp 110) (by rfl) (by rfl) (by omega) (by rfl) (by rfl) (by decide) (by rfl) (by rfl) (by rfl) (by rfl) (by omega) (fun w3 hw3 hc3 hp3 => ?_) (fun G' cG' => ?_)
                        · have h3 : OwnG w3 (w.heap.size + 2) w3.heap.size (.slice A3 1 c3') 1 [⟨(j3 : Int), za, zb⟩] := hp3.1.2.1.1
                          exact h3.reads
                        try simp only [Act.put, List.setIfInBounds_toArray, List.set_cons_zero, List.set_cons_succ]
                        repeat (first
                          | ((with_reducible refine mem_pure0 ?_ ?_ ?_)
                             · exact rfl
                             · exact rfl
                             intro K hK
                             apply Exists.intro
                             refine ⟨fun w3 hw3 => ?_, ?_⟩
                             · have hcs := hw3
                               simp only [CellsL, List.mem_cons, forall_eq_or_imp, List.not_mem_nil, false_implies, implies_true, and_true] at hcs
                               clear hw3
                               go_simp
                               first | done | exact ⟨rfl, rfl⟩ | rfl
                             refine hK _ ?_
                             clear hK K
                             try simp only [Act.put, List.setIfInBounds_toArray, List.set_cons_zero, List.set_cons_succ])
                          | ((with_reducible refine mem_skip ?_ ?_ ?_)
                             · exact rfl
                             · exact wanted_not rfl rfl rfl rfl
                             simp only [Act.put, List.setIfInBounds_toArray, List.set_cons_zero, List.set_cons_succ])
                          | ((with_reducible refine mem_pure ?_ ?_ ?_)
                             · exact rfl
                             · exact wanted_some rfl rfl rfl rfl
                             intro K hK
                             apply Exists.intro
                             refine ⟨fun w3 hw3 => ?_, ?_⟩
                             · have hcs := hw3
                               simp only [CellsL, List.mem_cons, forall_eq_or_imp, List.not_mem_nil, false_implies, implies_true, and_true] at hcs
                               clear hw3
                               go_simp
                               first | done | exact ⟨rfl, rfl⟩ | rfl
                             refine hK _ ?_
                             clear hK K
                             try simp only [Act.put, List.setIfInBounds_toArray, List.set_cons_zero, List.set_cons_succ]))
                        refine wpSep_end ?_
                        intro wy hwy hcy hfin hap
                        have hG4 : OwnG wy (w.heap.size + 2) wy.heap.size (.slice G' (C.gs.length + 1) cG') (C.gs.length + 1) (C.gs ++ [⟨(j3 : Int), za, zb⟩]) := hfin.1.1
                        have hokG : ∀ g, (Value.slice G' (C.gs.length + 1) cG').ownBlock = some g → okB wr (fun i => (Value.slice A' C.gs.length ca').ownBlock = some i) g := fun g hb => (hfin.1.2 g hb).1
                        have p1 := hp1.gate hwy hG4 hokG
                        have hbS : ¬ okB wr (fun i => (Value.slice A' C.gs.length ca').ownBlock = some i) (w.heap.size + 1) := fun hc => hc.elim (fun h => by have := hp1.lt; omega) hnbA
                        have hq := hp1.bx.alt hwy hbS; obtain ⟨m0, m1, m2, m3, m4⟩ := hq
                        have f3 := (hp1.fz.alt hwy hp1.lt hbS) 3
                        have k0 : Alt (fun k => k = (w.heap.size + 1) ∨ (Value.slice A' C.gs.length ca').ownBlock = some k) w8 wy := hk9.trans_ hwy (fun i hi hT => hT.elim (fun h => by have := hk9.size; omega) (fun h => .inr h))
                        have k1 := k0.set_ ⟨(w.heap.size + 1), 3, none⟩ (.slice G' (C.gs.length + 1) cG') (fun _ => .inl rfl)
                        have hgA1 : ∀ g, (Value.slice G' (C.gs ++ [(⟨(j3 : Int), za, zb⟩ : G3)]).length cG').ownBlock = some g → (Value.slice A' C.gs.length ca').ownBlock = some g ∨ w8.heap.size ≤ g := fun g hg => by
                          have h8 := hokG g (by simpa [Value.ownBlock] using hg)
                          rcases h8 with h8 | h8
                          · have := hk9.size; right; omega
                          · exact .inl h8
                        have hne : ¬ { C with gs := C.gs ++ [(⟨(j3 : Int), za, zb⟩ : G3)] } = C := fun h => by have := congrArg (fun c : Ai => c.gs.length) h; simp at this
                        clear hfin hap hcy hwy hG4 hokG
                        go_wp2
                        go_roundw
                        case rel => exact ⟨j3 + 1, G', cG', by omega, by go_num, by rw [hd1.out]; exact p1, k1, by rw [hd1.out]; exact hgA1, by rw [hd1.out]; exact fun h => absurd h hne⟩
                        case measure => simp [intOf]; omega
                      · have hd1 : Hid (dA C wd za zb (j3 + 1) = dA C wd za zb j3) := Lib.hid (dA_miss he)
                        have tq : ((bs wd).toList == (bs (awL j3)).toList) = false := by rw [bs_list, bs_list]; simp; exact fun h => he h.symm
                        clear hgt g0 g1 d8
                        go_wp2
                        go_roundw
                        case rel => exact ⟨j3 + 1, A', ca', by omega, by go_num, by rw [hd1.out]; exact hp9, hk9, by rw [hd1.out]; exact hg9, by rw [hd1.out]; exact hAA⟩
                        case measure => simp [intOf]; omega
                    · obtain rfl : j3 = 3 := by omega
                      have kk := hk8.trans_ hk9 (fun i hi hT => hT.elim (fun h => h) (fun h => by have := hgA i h; omega))
                      have hgA3 : ∀ g, (Value.slice A' (dA C wd za zb 3).gs.length ca').ownBlock = some g → v2.heap.size ≤ g := fun g hg => (hg9 g hg).elim (fun h => hgA g h) (fun h => by have := hk8.size; omega)
                      have hdo : (dA C wd za zb 3).os = C.os := by unfold dA; split <;> rfl
                      have hgO3 : ∀ g, (Value.slice O (dA C wd za zb 3).os.length co).ownBlock = some g → v2.heap.size ≤ g := by rw [hdo]; exact hgO
                      clear hgt hAA hdo
                      go_wp2
                      go_roundw
                      case rel => exact ⟨j + 1, A', ca', O, co, by omega, by go_num, by rw [HPN.out]; exact hp9, by rw [HPN.out]; exact hgA3, by rw [HPN.out]; exact hgO3, kk⟩
                      case measure => simp [intOf]; omega
                · have tm2 : ((k : Int) == 2) = false := by simp; omega
                  have HPN := Lib.hid (hpn.trans ((stepAS_rest hws.out H1 H2 H3).trans (if_neg (by omega))))
                  clear hpn H1 H2 H3 hws hXW hN
                  go_wp2
                  go_roundw
                  case rel => exact ⟨j + 1, A, ca, O, co, by omega, by go_num, by rw [HPN.out]; exact hp1, by rw [HPN.out]; exact hgA, by rw [HPN.out]; exact hgO, hk1⟩
                  case measure => simp [intOf]; omega
    · obtain rfl : j = L.length := by omega
      have hpb := partAS_len L s.length hLs L.length (Nat.le_refl _)
      rw [hpI.out] at hp hgA hgO hpb
      obtain ⟨C, hC⟩ : ∃ C, Hid (parseAS s = C) := ⟨_, Lib.hid rfl⟩
      rw [hC.out] at hp hgA hgO hpb
      have hrr := hr2.alt hk (by omega)
      have fzr := fz2.alt hk (by omega) (by omega)
      have hq := hp.bx; obtain ⟨m0, m1, m2, m3, m4⟩ := hq
      have hrd := hp.ox.1.reads
      cases hcb : arB C.p C.i0 C.i1 C.gs C.os with
      | false =>
        have HF : Hid (ansA (parseAS s) s = none) := Lib.hid (by rw [hC.out]; simp [ansA, hcb])
        have HB := Lib.hid hcb; clear hcb
        go_wp2_with fail
        refine (arGood_any C.p C.i0 C.i1 A C.gs.length ca O C.os.length co C.gs C.os _ hrd.1 hrd.2 (by omega) (by omega)).mono ?_
        rintro e v5 ⟨rfl, hb5⟩
        rw [HB.out]
        have hr5 := hrr.below hb5
        have fz5 := fzr.below hb5 (by have := hrr.lt; omega)
        have hB5 := hBr.trans (hb5.mono hBr.size)
        have f0 := fz5 0; have f1 := fz5 1; have f2 := fz5 2; have f3 := fz5 3; have f4 := fz5 4
        have hr6 := hr5; obtain ⟨r0, r1, r2, r3, r4⟩ := hr6
        go_wp2
        have hq9 := BxA.set5 (hr5) 0 0 0 none 0 0 none 0 0
        obtain ⟨q0, q1, q2, q3, q4⟩ := hq9
        refine bodyPost_ret (v := .tuple #[.agg #[.int .i64 0, .int .i64 0, .int .i64 0, .slice none 0 0, .slice none 0 0], .bool false]) (by simp [results, Tryd.results21, go_sem, q0, q1, q2, q3, q4]) rfl ?_
        exact RetA.none_ (below_set5 hB5 (by omega) _ _ _ _ _ _ _ _ _) HF.out rfl
      | true =>
        have HB := Lib.hid hcb
        have hct := fun w' hr' => arText_any C.p C.i0 C.i1 A C.gs.length ca O C.os.length co C.gs C.os w' hr' hcb
        clear hcb
        go_wp2_with fail
        refine (arGood_any C.p C.i0 C.i1 A C.gs.length ca O C.os.length co C.gs C.os _ hrd.1 hrd.2 (by omega) (by omega)).mono ?_
        rintro e v4 ⟨rfl, hb4⟩
        rw [HB.out]
        have hr4 := hrr.below hb4
        have fz4 := fzr.below hb4 (by have := hrr.lt; omega)
        have hp4 := hp.below hb4 (Nat.le_refl _)
        have hB4 := hBr.trans (hb4.mono hBr.size)
        have hq := hp4.bx; obtain ⟨m0, m1, m2, m3, m4⟩ := hq
        clear hrr fzr hp hb4 hk hXr hrd
        go_wp2_with fail
        refine (hct _ hp4.ox.1.reads).mono ?_
        rintro e v5 ⟨rfl, hb5⟩
        have hr5 := hr4.below hb5
        have fz5 := fz4.below hb5 (by have := hr4.lt; omega)
        have hp5 := hp4.below hb5 (Nat.le_refl _)
        have hB5 := hB4.trans (hb5.mono hB4.size)
        clear hr4 fz4 hp4 hb5 hB4 m0 m1 m2 m3 m4 hct
        have f0 := fz5 0; have f1 := fz5 1; have f2 := fz5 2; have f3 := fz5 3; have f4 := fz5 4
        have hr6 := hr5; obtain ⟨r0, r1, r2, r3, r4⟩ := hr6
        by_cases hts : arithT C.p C.i0 C.i1 C.gs C.os = s
        · have t1 : ((bs (arithT C.p C.i0 C.i1 C.gs C.os)).toList == (bs s).toList) = true := by rw [bs_list, bs_list, hts]; simp
          have HF : Hid (ansA (parseAS s) s = some ⟨C.p, C.i0, C.i1, C.gs, C.os⟩) := Lib.hid (by rw [hC.out, ansA, if_pos ⟨HB.out, hts⟩])
          have hq := hp5.bx; obtain ⟨m0, m1, m2, m3, m4⟩ := hq
          have hC9 := hp5.ox.1
          clear hts HB
          go_wp2
          have hq9 := BxA.set5 (hr5) C.p C.i0 C.i1 A C.gs.length ca O C.os.length co
          obtain ⟨q0, q1, q2, q3, q4⟩ := hq9
          refine bodyPost_ret (v := .tuple #[.agg #[.int .i64 C.p, .int .i64 C.i0, .int .i64 C.i1, .slice A C.gs.length ca, .slice O C.os.length co], .bool true]) (by simp [results, Tryd.results21, go_sem, q0, q1, q2, q3, q4]) rfl ?_
          exact RetA.some_ (below_set5 hB5 (by omega) _ _ _ _ _ _ _ _ _) HF.out rfl rfl rfl (by rw [set5_size]; exact ((hC9.set5 (.inl (by omega)) _ _ _ _ _ _ _ _ _).lo_ (by omega)))
        · have t1 : ((bs (arithT C.p C.i0 C.i1 C.gs C.os)).toList == (bs s).toList) = false := by rw [bs_list, bs_list]; simp [hts]
          have HF : Hid (ansA (parseAS s) s = none) := Lib.hid (by rw [hC.out, ansA, if_neg (fun h => hts h.2)])
          clear hts HB
          go_wp2
          have hq9 := BxA.set5 (hr5) 0 0 0 none 0 0 none 0 0
          obtain ⟨q0, q1, q2, q3, q4⟩ := hq9
          refine bodyPost_ret (v := .tuple #[.agg #[.int .i64 0, .int .i64 0, .int .i64 0, .slice none 0 0, .slice none 0 0], .bool false]) (by simp [results, Tryd.results21, go_sem, q0, q1, q2, q3, q4]) rfl ?_
          exact RetA.none_ (below_set5 hB5 (by omega) _ _ _ _ _ _ _ _ _) HF.out rfl

end Go.Proofs.YtgpfiefhhlejfaaDoor
