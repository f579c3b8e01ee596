/- The contract of the program's CountInputsFor. Texts below 2^21 bytes. -/
import Derived.Test.YtenknpcbbcbciaaGreatQS43
import Derived.Test.YtenknpcbbcbciaaGreatQS40
namespace Go.Proofs.YtenknpcbbcbciaaGreat
open Go.RowKit
set_option linter.unusedVariables false
set_option linter.unusedSimpArgs false
theorem RetO.open_n {w w' : World} {U : List Int} {n : Nat} {e : Ending} (h : RetO w (some U) e w') (hn : U.length = n) : ∃ A c, e = .returned (.tuple #[.slice A n c, .bool true]) ∧ Own w' w.heap.size w'.heap.size (.slice A n c) n U ∧ Below w.heap.size w w' := by subst hn; exact h
theorem oV_le (l : List Ln) (vs : List Int) (k : Nat) : (oV l vs k).length ≤ k := by
 induction k with
 | zero => exact Nat.le_refl _
 | succ k ih =>
  rw [oV]
  split
  ·rw [List.length_append, show ([gi vs k] : List Int).length = 1 from rfl]; omega
  ·omega
set_option maxHeartbeats 1600000 in
theorem laRun_any (A B C : Option Addr) (n c m d r q0 : Nat) (l : List Ln) (xs ys : List Int) (w : World) (ha : RLn w A n l) (hcap : n ≤ c) (hsh : ∀ x ∈ l, shortL x) (hg : goodP l) (hb : RI w B m xs) (hmd : m ≤ d) (hc : RI w C r ys) (hrq : r ≤ q0) (f0 : fitB (insL l 0) xs = true) (f1 : fitB (insL l 1) ys = true) :
 Calls Tryz.prog 118 #[.slice A n c, .slice B m d, .slice C r q0] w (RetI w (rpV l xs ys)) := by
 have hl := ha.len
 have hn : n ≤ 30 := by have := hg.1; omega
 have HR : Hid (rpV l xs ys = oV l (valK l xs ys n) n) := zH (by unfold rpV; rw [hl])
 have hvl := valK_len l xs ys n
 have hq := laValues_any A B C n c m d r q0 l xs ys w ha hcap hsh hg hb hmd hc hrq f0 f1
 obtain ⟨vs, hvs⟩ := lT (valK l xs ys n)
 rw [hvs.out] at HR hvl hq
 rw [HR.out]
 have Hvl := zH hvl
 clear hvl
 go_enter Tryz.func118, Tryz.ntmps118
 go_wp2_with fail
 refine (hq).mono ?_
 rintro e w1 hT
 obtain ⟨VA, vc, rfl, hw1, hb1⟩ := hT.open_ Hvl.out
 have hr1 := hw1.reads
 have ha1 := ha.below hb1 lR
 clear hq hw1 ha hT hb hc f0 f1
 go_wp2
 go_loopw [7, 15] (fun r9 i wr => ∃ (k : Nat) (R : Option Addr) (rn rc : Nat), k ≤ n ∧ i = .int .i64 k ∧ r9 = .slice R rn rc ∧ Own wr w1.heap.size wr.heap.size (.slice R rn rc) rn (oV l vs k) ∧ rn ≤ k ∧ Below w1.heap.size w1 wr) (fun _ i _ => n - (intOf i).toNat)
 case atStart => exact ⟨0, none, 0, 0, Nat.zero_le _, rfl, rfl, Own.none_ _ _ _, Nat.le_refl _, Below.refl _ _⟩
 case round =>
  obtain ⟨k, R, rn, rc, hk, rfl, rfl, hown, hrn, hb⟩ := hrel
  have hz := hb.size
  by_cases hlt : k < n
  ·obtain ⟨b, o, P, q, rfl, hbB, ⟨c0, c1, c2, c3, c4, c5, c6⟩, hx⟩ := (ha1.below hb lR).at_ hlt
   obtain ⟨g, go, rfl, hgl, e0⟩ := (hr1.below hb lR).at_ hlt
   obtain ⟨u, hu⟩ := lT (gi vs k)
   rw [hu.out] at e0
   clear ha1 hx c1 c2 c3 c4 c5 c6
   by_cases h6 : (lx l k).kind = 6
   ·have t6 : ((lx l k).kind == 6) = true := by simp [h6]
    have HK : Hid (oV l vs (k + 1) = oV l vs k ++ [u]) := zH (by rw [oV, if_pos h6, hu.out])
    clear h6
    have hA := hown.alloc (.cells #[.int .i64 u] 3)
    go_wp2_with (at_builtin; refine Zae _ rfl _ _ rfl rfl hA rfl (Zaj _ _ _ _ (by simp)) (by omega) oM ?_; intro A7 c7 w7 hown7 hg7 hat7 hk7)
    have hb7 := Zah (hb.alloc (by omega) (.cells #[.int .i64 u] 3)) hA hg7 (by simp; omega) lR
    go_wp2
    go_roundw
    case rel => exact ⟨k + 1, A7, rn + 1, c7, by omega, by go_num, rfl, by rw [HK.out]; exact hown7, by omega, hb7⟩
    case measure => simp [intOf]; omega
   ·have t6 : ((lx l k).kind == 6) = false := by simp [h6]
    have HK : Hid (oV l vs (k + 1) = oV l vs k) := zH (by rw [oV, if_neg h6])
    clear h6
    go_wp2
    go_roundw
    case rel => exact ⟨k + 1, R, rn, rc, by omega, by go_num, rfl, by rw [HK.out]; exact hown, by omega, hb⟩
    case measure => simp [intOf]; omega
  ·obtain rfl : n = k := Nat.le_antisymm (Nat.le_of_not_lt hlt) hk
   have hrl := hown.len
   go_wp2
   go_ret
   exact RetI.mk_ hrl rfl (hown.lo_ hb1.size) (hb1.trans (hb.mono hb1.size))
attribute [local go_sem] sepAt sepUpon pureAt pureUpon
def RetRs (b : Nat) (R : Nat → Prop) (T : Nat) (w : World) (e : Ending) (w' : World) : Prop :=
 ∃ (A : Option Addr) (n c : Nat) (xs : List Int), e = .returned (.slice A n c) ∧ Own w' w.heap.size w'.heap.size (.slice A n c) n xs ∧ n ≤ 40 ∧ Cur w' b R T ∧ Alt (fun i => i = b) w w'
theorem OwnII.twoL {w : World} {lo g hi : Nat} {xss : List (List Int)} {c : Nat} (h : OwnII w lo hi (.slice (some ⟨g, 0, none⟩) 2 c) 2 xss) : ∃ A0 A1 n0 c0 n1 c1, TwoR w lo g A0 A1 n0 c0 n1 c1 (gl xss 0) (gl xss 1) := by
 have hlt := h.lt g (by simp [Value.ownBlock])
 obtain ⟨vals, h1, h2, h3, h4, h5⟩ := h
 obtain ⟨A0, n0, c0, h6, h7⟩ := h4 0 (by omega)
 obtain ⟨A1, n1, c1, h8, h9⟩ := h4 1 (by omega)
 have a0 := Zel h1 h7.1 (by decide)
 have a1 := Zel h1 h9.1 (by decide)
 exact ⟨A0, A1, n0, c0, n1, c1, by rw [h1.cellAt 0 (by omega), h6], by rw [h1.cellAt 1 (by omega), h8], h7.now, h9.now, fun q => h1.frozenAt q, fun hh => a0 g (by simp [Value.ownBlock]) hh, fun hh => a1 g (by simp [Value.ownBlock]) hh, fun q hq => h5 0 1 _ _ (by omega) h6 h8 q hq, hlt.1, hlt.2.2⟩
set_option maxRecDepth 100000 in
set_option maxHeartbeats 16000000 in
theorem results_any (A : Option Addr) (n c lo hi : Nat) (L : List Lp) (b : Nat) (R : Nat → Prop) (T : Nat) (w : World) (h : Cur w b R T) (hT : T < 600000000) (hL : OLq shortL w lo hi (.slice A n c) n L) (hhi : hi ≤ w.heap.size) (hbl : b < lo) (h1 : 1 ≤ n) (h40 : n ≤ 40) (hR : ∀ i, R i → i < w.heap.size) (hRb : ¬ R b) :
 Calls Tryz.prog 74 #[.pointer (some ⟨b, 0, none⟩), .slice A n c] w (RetRs b R (T + 400) w) := by
 have hb := h.lt
 have hLl := hL.len
 have hpb := hL.prb h1 h40
 by_cases hg : goodP (L.map Lp.x)
 rotate_left
 ·go_enter Tryz.func74, Tryz.ntmps74
  go_wp2_with fail
  refine (Zdb A n c _ _ hL.reads (by omega) hpb.cap hpb.sh).mono ?_
  rintro e a2 ⟨rfl, b2⟩
  rw [decide_eq_false hg]
  have kb2 : Alt (fun _ => False) w a2 := Alt.of_new b2
  go_wp2
  go_ret
  exact ⟨none, 0, 0, [], rfl, Own.none_ _ _ _, by omega, (h.alt kb2 (fun h => h) (fun _ _ h => h)).mono (by omega), kb2.mono_ (fun _ _ h => h.elim)⟩
 have hg2 := zH hg
 have hi0 := Zbz hg.2.1
 have hil := zH (fun p : Int => Nat.le_trans (Zbx (L.map Lp.x) p) (show (L.map Lp.x).length ≤ 30 from hg.1))
 go_enter Tryz.func74, Tryz.ntmps74
 go_wp2_with fail
 refine (Zdb A n c _ _ hL.reads (by omega) hpb.cap hpb.sh).mono ?_
 rintro e a2 ⟨rfl, b2⟩
 rw [decide_eq_true hg]
 have kb2 : Alt (fun _ => False) w a2 := Alt.of_new b2
 have hL2 := hL.alt kb2 (fun _ _ _ _ h => h)
 have c2 := h.alt kb2 (fun h => h) (fun _ _ h => h)
 have kk2 : Alt (fun i => i = b) w a2 := kb2.mono_ (fun _ _ h => h.elim)
 have hz2 : w.heap.size ≤ a2.heap.size := b2.size
 clear hL h b2 kb2 hg
 go_wp2
 go_loopg [5, 6] 2 (fun g av pv wr => ∃ (p : Nat) (G : Option Addr) (cg U : Nat) (xss : List (List Int)), p + g = 2 ∧ pv = .int .i64 p ∧ av = .slice G p cg ∧ OwnII wr a2.heap.size wr.heap.size (.slice G p cg) p xss ∧ Hid (∀ q : Nat, q < p → fitB (insL (L.map Lp.x) (q : Int)) (gl xss q) = true) ∧ xss.length = p ∧ Cur wr b R U ∧ U + 100 * g ≤ T + 300 ∧ Alt (fun i => i = b) a2 wr ∧ a2.heap.size ≤ wr.heap.size)
 case atStart => exact ⟨0, none, 0, T, [], by omega, rfl, rfl, OwnII.none_ _ _ _, zH (fun q hq => absurd hq (Nat.not_lt_zero _)), rfl, c2, by omega, Alt.refl_ _ _, Nat.le_refl _⟩
 case round =>
  obtain ⟨p, G, cg, U, xss, hpg, rfl, rfl, hG, hft, hxl, hu, hU, ha, hsz⟩ := hrel
  clear c2
  generalize wr = W0 at *
  generalize gk = gK at *
  have hpg := zH hpg
  have hxl := zH hxl
  have hLr := hL2.alt ha (fun i h1 h2 _ e => by omega)
  have hp2 : p ≤ 2 := by have := hpg.out; omega
  by_cases hg0 : gK = 0
  ·obtain rfl : p = 2 := by have := hpg.out; omega
   obtain ⟨g, rfl, hg1, _, _⟩ := hG.some_ (by omega)
   obtain ⟨A0, A1, n0, c0, n1, c1, tw⟩ := hG.twoL
   have f0 : fitB (insL (L.map Lp.x) 0) (gl xss 0) = true := hft.out 0 (by omega)
   have f1 : fitB (insL (L.map Lp.x) 1) (gl xss 1) = true := hft.out 1 (by omega)
   have hU2 : U ≤ T + 300 := by have := hpg.out; omega
   obtain ⟨xs, hxs⟩ : ∃ q, gl xss 0 = q := ⟨_, rfl⟩
   obtain ⟨ys, hys⟩ : ∃ q, gl xss 1 = q := ⟨_, rfl⟩
   rw [hxs] at tw f0
   rw [hys] at tw f1
   obtain ⟨zs, hzs⟩ := lT (rpV (L.map Lp.x) xs ys)
   obtain ⟨on, hon⟩ := lT (zs.length)
   have honb : on ≤ 40 := by
    have h9 := oV_le (L.map Lp.x) (valK (L.map Lp.x) xs ys (L.map Lp.x).length) (L.map Lp.x).length
    have h8 : rpV (L.map Lp.x) xs ys = oV (L.map Lp.x) (valK (L.map Lp.x) xs ys (L.map Lp.x).length) (L.map Lp.x).length := rfl
    rw [← h8, hzs.out, hon.out] at h9
    have := hg2.out.1
    omega
   have hcp0 := tw.o0.capLe
   have hcp1 := tw.o1.capLe
   have d0 := tw.e0
   have d1 := tw.e1
   have r0 := tw.o0.reads
   have r1 := tw.o1.reads
   have hrl := hLr.reads
   clear hG hft hxs hys
   go_wp2_with fail
   refine Zbu (9) [(⟨g, 0, none⟩, .slice A0 n0 c0), (⟨g, 1, none⟩, .slice A1 n1 c1)] [(7, [], [])] [7] [(7, Res.row W0.heap.size on zs)] (by kernel_rfl) (by kernel_rfl) (by kernel_rfl) (by simp only [cD, cC, and_true]; repeat (any_goals (apply And.intro)); all_goals (first | assumption | go_simp)) ?_
   simp only [List.take_succ_cons, List.take_zero, List.drop_succ_cons, List.drop_zero, List.take_nil, List.drop_nil, List.take, List.drop]
   repeat (first
    | ((first
     | ((with_reducible refine Zan ?_ ?_ ?_)
        ·exact rfl
        ·exact rfl)
     | ((with_reducible refine Zas ?_ ?_ ?_)
        ·exact rfl
        ·exact Zad rfl rfl rfl rfl))
       intro K hK
       apply Exists.intro
       refine ⟨fun w3 hw3 => ?_, ?_⟩
       ·have hcs := hw3
        simp only [cD, cC, and_true] at hcs
        clear hw3
        go_simp
        first | done | exact ⟨rfl, rfl⟩ | rfl
       refine hK _ ?_
       clear hK K
       try simp only [pA, pB, sA, sB, sC])
    | ((with_reducible refine Zar ?_ ?_ ?_)
       ·exact rfl
       ·exact Zak rfl rfl rfl rfl
       simp only [pA, pB, sA, sB, sC]))
   focus
    (with_reducible refine mem_row W0.heap.size on zs ?_ ?_ ?_ ?_ ?_ (hw := ?_))
    ·exact rfl
    ·exact rfl
    ·omega
    ·intro w3 hw3 hc3 hp3
     have hcs := hc3
     simp only [cD, cC, and_true] at hcs
     (go_simp; refine (laRun_any A A0 A1 n c n0 c0 n1 c1 _ xs ys _ (hrl.below (Zco hw3) lR) hpb.cap hpb.sh hg2.out (r0.below (Zco hw3) lR) hcp0 (r1.below (Zco hw3) lR) hcp1 f0 f1).mono ?_; rintro e w4 hT; rw [hzs.out] at hT; obtain ⟨A4, c4, rfl, ho4, hb4⟩ := hT.open_ hon.out; exact retPost.mk_ ⟨A4, c4, rfl, ho4, hb4⟩)
    rotate_left
    ·first | exact Zao rfl | exact Zad rfl rfl rfl rfl
    intro A7 c7
    try simp only [pA, pB, sA, sB, sC]
   repeat (first
    | ((first
     | ((with_reducible refine Zan ?_ ?_ ?_)
        ·exact rfl
        ·exact rfl)
     | ((with_reducible refine Zas ?_ ?_ ?_)
        ·exact rfl
        ·exact Zad rfl rfl rfl rfl))
       intro K hK
       apply Exists.intro
       refine ⟨fun w3 hw3 => ?_, ?_⟩
       ·have hcs := hw3
        simp only [cD, cC, and_true] at hcs
        clear hw3
        go_simp
        first | done | exact ⟨rfl, rfl⟩ | rfl
       refine hK _ ?_
       clear hK K
       try simp only [pA, pB, sA, sB, sC])
    | ((with_reducible refine Zar ?_ ?_ ?_)
       ·exact rfl
       ·exact Zak rfl rfl rfl rfl
       simp only [pA, pB, sA, sB, sC]))
   refine Zbs ?_
   intro wy hwy hcy hfin hap
   have hO7 : Own wy W0.heap.size wy.heap.size (.slice A7 on c7) on zs := hfin.1.1
   have bwy := Zco hwy
   have ky : Alt (fun _ => False) W0 wy := Alt.of_new bwy
   have u7 := hu.alt ky (fun h => h) (fun _ _ h => h)
   have a7 := (kk2.trans_ ha (fun _ _ h => h)).trans_ ky (fun _ _ h => h.elim)
   have hW0 : w.heap.size ≤ W0.heap.size := by omega
   have hzy := bwy.size
   clear hfin hap hcy hwy bwy ky hu ha hLr hL2 tw d0 d1 r0 r1 hrl
   by_cases ho0 : on = 0
   ·subst ho0
    go_wp2
    go_ret
    exact ⟨A7, 0, c7, zs, rfl, hO7.lo_ hW0, by omega, u7.mono (by omega), a7⟩
   ·have hoi : (0 : Int) < (on : Int) := by omega
    have hop : 0 < on := by omega
    go_wp2_with fail
    refine (one_any 6 b R _ _ u7 (by omega) (by omega)).mono ?_
    rintro e y1 ⟨t, rfl, v1, k1, z1⟩
    have o1 := (hO7.alt k1 (fun g hg e => by have := (hO7.lt g hg).1; omega)).now
    have a8 := a7.trans_ k1 (fun _ _ h => h)
    have hzy1 := k1.size
    clear hO7 u7 a7 k1 z1
    cases t with
    | false =>
     go_wp2
     go_ret
     exact ⟨A7, on, c7, zs, rfl, o1.lo_ hW0, honb, v1.mono (by omega), a8⟩
    | true =>
     go_wp2_with fail
     refine (Zbm on b R _ _ v1 (by omega) (by omega)).mono ?_
     rintro e y2 ⟨v, hv, hv2, rfl, v3, k2, z2⟩
     have hvn : v < on := by omega
     have o2 := (o1.alt k2 (fun g hg e => by have := (o1.lt g hg).1; omega)).now
     have a9 := a8.trans_ k2 (fun _ _ h => h)
     have hzy2 := k2.size
     have al : Below y2.heap.size y2 (y2.alloc (.cells #[.int .i64 (-1), .int .i64 0, .int .i64 1, .int .i64 1024] 3)) := bA
     have hr : RI (y2.alloc (.cells #[.int .i64 (-1), .int .i64 0, .int .i64 1, .int .i64 1024] 3)) (some ⟨y2.heap.size, 0, none⟩) 4 [-1, 0, 1, 1024] := by simpa using RI_lit y2 [-1, 0, 1, 1024] 3
     have ka : Alt (fun _ => False) y2 _ := Alt.of_new al
     have v4 := v3.alt ka (fun h => h) (fun _ _ h => h)
     have o4 := (o2.alt ka (fun _ _ h => h)).now
     have a10 := a9.trans_ ka (fun _ _ h => h.elim)
     clear o1 o2 a8 a9 v1 v3 k2 z2 hv ka al
     go_wp2_with fail
     refine (among_any _ 4 4 [-1, 0, 1, 1024] b R _ _ v4 (by omega) hr (by omega) (by omega) (fun q o e => by simp only [Option.some.injEq, Addr.mk.injEq, and_true] at e; omega)).mono ?_
     rintro e y5 ⟨x, hx, rfl, v5, k5, z5⟩
     have o5 := (o4.alt k5 (fun g hg e => by have := (o4.lt g hg).1; omega)).now
     have a11 := a10.trans_ k5 (fun _ _ h => h)
     clear o4 a10 v4 k5 z5 hr hx
     obtain ⟨q, hA7, hq1, hq2⟩ : ∃ q, A7 = some ⟨q, 0, none⟩ ∧ W0.heap.size ≤ q ∧ q < y5.heap.size := by
      obtain ⟨q, cap, hv, h1, h2⟩ := o5.1.form hop
      simp only [Value.slice.injEq, true_and] at hv
      exact ⟨q, hv.1, h1, h2⟩
     subst hA7
     obtain ⟨dq, fq⟩ := o5.cellAt hvn
     have o6 := (o5.stored v x).1
     have ks := (Alt.refl_ (fun i => i = q) y5).set_ ⟨q, v, none⟩ (.int .i64 x) (fun _ => rfl)
     have a12 := a11.trans_ ks (fun i hi e => by omega)
     have v6 := v5.alt ks (fun e => by omega) (fun i hi e => by have := hR i hi; omega)
     have hvi : (v : Int) < (on : Int) := by omega
     clear a11 v5 ks
     go_wp2
     go_ret
     exact ⟨_, on, c7, _, rfl, o6.now.lo_ hW0, honb, v6.mono (by omega), a12⟩
  ·have hp1 : p < 2 := by have := hpg.out; omega
   have hp1' : (p : Int) < 2 := by omega
   go_wp2_with fail
   refine (Zbc A n c p _ _ hLr.reads (by omega)).mono ?_
   rintro e w1 ⟨Aw, cw, rfl, hW, b1⟩
   have hk40 : (insL (L.map Lp.x) p).length ≤ 40 := by have := hil.out p; omega
   have hwb := zH (hi0 (p : Int))
   have hfn : Hid (∀ xs, fitB (insL (L.map Lp.x) p) xs = true → ∀ q : Nat, q < p + 1 → fitB (insL (L.map Lp.x) (q : Int)) (gl (xss ++ [xs]) q) = true) := zH (fun xs hx q hq => by
    rcases Nat.lt_or_ge q p with h9 | h9
    ·rw [Zeq (by rw [hxl.out]; exact h9)]; exact hft.out q h9
    ·obtain rfl : q = p := by omega
     rw [Zdu hxl.out]; exact hx)
   generalize insL (L.map Lp.x) p = ws at *
   obtain ⟨k, hk⟩ : ∃ k, ws.length = k := ⟨_, rfl⟩
   rw [hk] at hW hk40
   rw [hk]
   have hkh := zH hk
   clear hk
   have hG1 := hG.below b1 lR
   have k1 : Alt (fun _ => False) W0 w1 := Alt.of_new b1
   have u1 := hu.alt k1 (fun h => h) (fun _ _ h => h)
   have a1 := ha.trans_ k1 (fun _ _ h => h.elim)
   obtain ⟨HI, hHI⟩ := lT (w1.heap.size)
   have hHb : b < HI := by have := hHI.out; have := k1.size; omega
   have hHw : a2.heap.size ≤ HI := by have := hHI.out; have := k1.size; omega
   have hWlo : W0.heap.size ≤ HI := by have := hHI.out; have := k1.size; omega
   clear hu ha hLr hG b1 k1 hft
   go_wp2
   go_loopw [7, 22] (fun v i wr => ∃ (j : Nat) (A' : Option Addr) (c' : Nat) (xs : List Int), j ≤ k ∧ i = .int .i64 j ∧ v = .slice A' j c' ∧ Own wr HI wr.heap.size (.slice A' j c') j xs ∧ Hid (∀ i, i < j → inB 0 (2 ^ (gi ws i).toNat - 1) (gi xs i) = true) ∧ Cur wr b R (U + 2 * j) ∧ Alt (fun i => i = b) w1 wr ∧ HI ≤ wr.heap.size) (fun _ i _ => k - (intOf i).toNat)
   case atStart => exact ⟨0, none, 0, [], Nat.zero_le _, rfl, rfl, Own.none_ _ _ _, zH (fun i hi => absurd hi (Nat.not_lt_zero _)), u1.mono (by omega), Alt.refl_ _ _, Nat.le_of_eq hHI.out.symm⟩
   case round =>
    obtain ⟨j, A', c', xs, hj, rfl, rfl, ho, hin, hu, ha, hsw⟩ := hrel
    clear u1
    generalize wr = W1 at *
    have hxlen := zH ho.len
    by_cases hlt : j < k
    ·obtain ⟨q, o, rfl, hqb, e1⟩ := (hW.alt ha (fun g hg e => by have := (hW.lt g hg).1; omega)).reads.at_ hlt
     have hzb := hwb.out _ (Zbo (xs := ws) (j := j) (by have := hkh.out; omega))
     obtain ⟨V, hV⟩ : ∃ V : Nat, gi ws j = (V : Int) := ⟨(gi ws j).toNat, by omega⟩
     have hV12 : V ≤ 10 := by omega
     have hVh := zH hV
     rw [hV] at e1
     clear hV hzb
     obtain ⟨N, hN⟩ : ∃ N : Nat, 2 ^ V = N := ⟨_, rfl⟩
     have hN1 : 1 ≤ N := by rw [← hN]; exact Nat.one_le_two_pow
     have hN2 : N ≤ 4096 := by rw [← hN]; exact Nat.le_trans (Nat.pow_le_pow_right (by omega) hV12) (by decide)
     have hNi : (2 : Int) ^ V = N := by rw [← hN]; simp
     have hNh := zH hNi
     have hta : ((V : Nat) : Int).toNat = V := by simp
     go_wp2_with fail
     refine (Zbm N b R _ _ hu (by omega) (by omega)).mono ?_
     rintro e w2 ⟨v, hv, hv2, rfl, u2, k2, z2⟩
     have hvN : v < N := by omega
     have ho2 := (ho.alt k2 (fun g hg e => by have := (ho.lt g hg).1; omega)).now
     have ha2 := ha.trans_ k2 (fun _ _ h => h)
     have hz2' : HI ≤ w2.heap.size := by omega
     have hoA := ho2.alloc (.cells #[.int .i64 v] 3)
     have haA := ha2.alloc_ (.cells #[.int .i64 v] 3)
     have uA := u2.alt ((Alt.refl_ (fun _ => False) w2).alloc_ (.cells #[.int .i64 v] 3)) (fun h => h) (fun _ _ h => h)
     have hin2 : Hid (∀ i, i < j + 1 → inB 0 (2 ^ (gi ws i).toNat - 1) (gi (xs ++ [(v : Int)]) i) = true) := zH (fun i hi => by
      have hxl9 := hxlen.out
      rcases Nat.lt_or_ge i j with h9 | h9
      ·rw [Zbt (by omega)]; exact hin.out i h9
      ·obtain rfl : i = j := by omega
       rw [show gi (xs ++ [(v : Int)]) i = v by rw [← hxl9]; exact Zcg, hVh.out, Int.toNat_natCast, hNh.out, inB_iff]
       omega)
     clear ho ha hu k2 u2 ha2 z2 hN hNi hta hsw hin
     go_wp2_with (at_builtin; refine Zal _ rfl _ _ rfl rfl hoA rfl (Zaj _ _ _ _ (by simp)) (by omega) oM ?_; intro A5 c5 w5 hown5 hg5 hat5)
     have a5 := haA.trans_ (Alt.of_grown (S := fun j' => (Value.slice A' j c').ownBlock = some j') hg5 (fun j' hj => hj)) (fun j' hj h => by have := (hoA.lt j' h).1; have := hHI.out; omega)
     have u5 := uA.alt (Alt.of_grown (S := fun j' => (Value.slice A' j c').ownBlock = some j') hg5 (fun j' hj => hj)) (fun h => by have := (hoA.lt b h).1; omega) (fun j' hj h => by have := (hoA.lt j' h).1; have := hR j' hj; omega)
     have hz5 : HI ≤ w5.heap.size := by have := a5.size; have := hHI.out; omega
     clear hoA haA uA hg5 hat5 hz2'
     go_wp2
     go_roundw
     case rel => exact ⟨j + 1, _, _, _, by omega, by go_num, rfl, hown5, hin2, u5.mono (by omega), a5, hz5⟩
     case measure => simp [intOf]; omega
    ·obtain rfl : j = k := by omega
     have hG2 := hG1.alt_ ha (fun i h1 h2 e => by omega)
     have ha2 := a1.trans_ ha (fun _ _ h => h)
     have hfx : fitB ws xs = true := fitB_ok (by rw [hkh.out, hxlen.out]) (fun i hi => hin.out i (by have := hkh.out; omega))
     have hfn2 := zH (hfn.out xs hfx)
     have hxl2 : (xss ++ [xs]).length = p + 1 := by rw [List.length_append, hxl.out]; rfl
     have hxl2 := zH hxl2
     have alB : Below W1.heap.size W1 (W1.alloc (.cells #[.slice A' j c'] 24)) := bA
     have hG3 := hG2.below alB lR
     have ho3 := ho.below alB (.inl lR)
     have hWW : a2.heap.size ≤ W1.heap.size := by omega
     clear hW hG1 a1 hfx hfn hin
     go_wp2_with (at_builtin; go_loud (refine wpList_appL _ rfl _ _ rfl rfl hG3 rfl ho3 (Zaf _ _ 0 _ rfl) hWlo hHw (by omega) (by simp; omega) ?_); intro G5 cg5 w5 hG5 hgr hst)
     have ka : Alt (fun _ => False) W1 _ := Alt.of_new alB
     have kg : Alt (fun i => (Value.slice G p cg).ownBlock = some i) _ w5 := Alt.of_grown (S := fun i => (Value.slice G p cg).ownBlock = some i) hgr (fun i hi => hi)
     have a5 := (ha2.trans_ ka (fun _ _ h => h.elim)).trans_ kg (fun i hi e => by have := (hG2.lt i e).1; omega)
     have u5 := (hu.alt ka (fun h => h) (fun _ _ h => h)).alt kg (fun e => by have := (hG2.lt b e).1; omega) (fun i hi e => by have := (hG2.lt i e).1; have := hR i hi; omega)
     have hz5 : a2.heap.size ≤ w5.heap.size := by have := a5.size; omega
     clear hG2 hG3 ho ho3 ha ha2 ka kg hgr hst alB
     have hpg' := hpg.out
     have hxl3 := hxl2.out
     go_wp2
     go_roundg (gK - 1)
     case rel => exact ⟨p + 1, G5, cg5, _, _, by omega, congrArg (Value.int .i64) (by omega), rfl, hG5, hfn2, hxl3, u5, by omega, a5, hz5⟩
     case measure => omega
set_option maxRecDepth 100000 in
set_option maxHeartbeats 4000000 in
theorem DrawCountInputsFor_any (Y : Option Addr) (n c : Nat) (w : World) (hY : RY w Y n) :
 Calls Tryz.prog 21 #[.slice Y n c] w (RetPb w) := by
 have hc0 := Cur.newW (c := c) hY
 have hA2 : Below w.heap.size w (w.alloc (.cells #[.slice Y n c, .int .i64 0, .int .u64 0] 78)) := bA
 have hR : ∀ i, tblkW Y n i → i < w.heap.size := tblkW_lt hY
 have hRb : ¬ tblkW Y n w.heap.size := fun h => by have := hR _ h; omega
 have k0 : Alt (fun i => i = w.heap.size) w (w.alloc (.cells #[.slice Y n c, .int .i64 0, .int .u64 0] 78)) := Alt.of_new hA2
 have hz0 : (w.alloc (.cells #[.slice Y n c, .int .i64 0, .int .u64 0] 78)).heap.size = w.heap.size + 1 := by simp
 generalize tblkW Y n = R at hc0 hR hRb
 go_enter Tryz.func21, Tryz.ntmps21
 go_wp2_with fail
 generalize w.alloc (.cells #[.slice Y n c, .int .i64 0, .int .u64 0] 78) = a0 at *
 refine (anyProgram_any w.heap.size R 0 _ hc0 (by omega) (fun i hi => by have := hR i hi; omega) hRb).mono ?_
 rintro e a1 ⟨l, A, k, d, rfl, hL, hn1, hn40, c1, k1⟩
 have kk1 := k0.trans_ k1 (fun _ _ h => h)
 have hz1 : w.heap.size < a1.heap.size := by have := k1.size; omega
 have hpb := hL.prb hn1 hn40
 clear k0 hA2 hc0 k1
 go_wp2_with fail
 refine (results_any A k d _ _ l w.heap.size R _ _ c1 (by omega) hL lR (by omega) hn1 hn40 (fun i hi => by have := hR i hi; omega) hRb).mono ?_
 rintro e a2 ⟨A0, n0, c0, xs, rfl, o0, hn0, c2, k2⟩
 have hL2 := hL.alt k2 (fun i h1 h2 _ h => by omega)
 have kk2 := kk1.trans_ k2 (fun _ _ h => h)
 have hcp := o0.capLe
 clear hL kk1 c1 k2
 go_wp2
 go_ret2
 exact ⟨_, A, A0, k, d, n0, c0, xs, rfl, hL2.reads, hpb, o0.reads, hcp, by omega, kk2.below_ lR (fun i hi e => by omega)⟩
def RetPd (w : World) (e : Ending) (w' : World) : Prop :=
 ∃ (l : List Ln) (A A0 A1 : Option Addr) (n c n0 c0 n1 c1 : Nat) (p : Int) (xs ys : List Int), e = .returned (.tuple #[.slice A n c, .int .i64 p, .slice A0 n0 c0, .slice A1 n1 c1]) ∧ 0 ≤ p ∧ p ≤ 1 ∧ RLn w' A n l ∧ PrB n c l ∧ RI w' A0 n0 xs ∧ n0 ≤ 50 ∧ RI w' A1 n1 ys ∧ n1 ≤ 50 ∧ Below w.heap.size w w'
set_option maxRecDepth 100000 in
set_option maxHeartbeats 4000000 in
theorem DrawCandidatesFor_any (Y : Option Addr) (n c : Nat) (w : World) (hY : RY w Y n) :
 Calls Tryz.prog 24 #[.slice Y n c] w (RetPd w) := by
 have hc0 := Cur.newW (c := c) hY
 have hA2 : Below w.heap.size w (w.alloc (.cells #[.slice Y n c, .int .i64 0, .int .u64 0] 78)) := bA
 have hR : ∀ i, tblkW Y n i → i < w.heap.size := tblkW_lt hY
 have hRb : ¬ tblkW Y n w.heap.size := fun h => by have := hR _ h; omega
 have k0 : Alt (fun i => i = w.heap.size) w (w.alloc (.cells #[.slice Y n c, .int .i64 0, .int .u64 0] 78)) := Alt.of_new hA2
 have hz0 : (w.alloc (.cells #[.slice Y n c, .int .i64 0, .int .u64 0] 78)).heap.size = w.heap.size + 1 := by simp
 generalize tblkW Y n = R at hc0 hR hRb
 go_enter Tryz.func24, Tryz.ntmps24
 go_wp2_with fail
 generalize w.alloc (.cells #[.slice Y n c, .int .i64 0, .int .u64 0] 78) = a0 at *
 refine (anyProgram_any w.heap.size R 0 _ hc0 (by omega) (fun i hi => by have := hR i hi; omega) hRb).mono ?_
 rintro e a1 ⟨l, A, k, d, rfl, hL, hn1, hn40, c1, k1⟩
 have kk1 := k0.trans_ k1 (fun _ _ h => h)
 have hz1 : w.heap.size < a1.heap.size := by have := k1.size; omega
 have hpb := hL.prb hn1 hn40
 clear k0 hA2 hc0 k1
 go_wp2_with fail
 refine (Zbm 2 w.heap.size R _ _ c1 (by omega) (by omega)).mono ?_
 rintro e a9 ⟨p, hp, hp2, rfl, c9, k9, z9⟩
 have hLb := hL.alt k9 (fun i h1 h2 _ h => by omega)
 have kk9 := kk1.trans_ k9 (fun _ _ h => h)
 have hz9 : a1.heap.size ≤ a9.heap.size := k9.size
 clear kk1 hL c1 k9 z9
 go_wp2_with fail
 refine (numbers_any A k d _ _ l w.heap.size R _ _ c9 (by omega) hLb hz9 (by omega) hn40 (fun i hi => by have := hR i hi; omega) hRb).mono ?_
 rintro e a2 ⟨A0, A1, n0, c0, n1, c1', xs, ys, rfl, o0, o1, hn0, hn1', c2, k2⟩
 have hL2 := hLb.alt k2 (fun i h1 h2 _ h => by omega)
 have kk2 := kk9.trans_ k2 (fun _ _ h => h)
 have hz2 := k2.size
 clear hLb kk9 c9 k2
 have hpb2 : p = 0 ∨ p = 1 := by omega
 rcases hpb2 with rfl | rfl
 ·go_wp2_with fail
  refine (results_any A k d _ _ l w.heap.size R _ _ c2 (by omega) hL2 (by omega) (by omega) hn1 hn40 (fun i hi => by have := hR i hi; omega) hRb).mono ?_
  rintro e a3 ⟨A5, n5, c5, zs, rfl, o5, hn5, c3, k3⟩
  have hL3 := hL2.alt k3 (fun i h1 h2 _ h => by omega)
  have kk3 := kk2.trans_ k3 (fun _ _ h => h)
  have o3 := (o0.alt k3 (fun g hg e => by have := (o0.lt g hg).1; omega)).reads
  clear hL2 kk2 c2 k3 o0 o1
  go_wp2
  (try simp only [Exit.inBlock, Exit.then])
  refine bodyPost_ret (results_tmp4 rfl _ _ _) rfl ?_
  exact ⟨_, A, A0, A5, k, d, n0, c0, n5, c5, _, xs, zs, rfl, by omega, by omega, hL3.reads, hpb, o3, by omega, o5.reads, by omega, kk3.below_ lR (fun i hi e => by omega)⟩
 ·go_wp2_with fail
  refine (results_any A k d _ _ l w.heap.size R _ _ c2 (by omega) hL2 (by omega) (by omega) hn1 hn40 (fun i hi => by have := hR i hi; omega) hRb).mono ?_
  rintro e a3 ⟨A5, n5, c5, zs, rfl, o5, hn5, c3, k3⟩
  have hL3 := hL2.alt k3 (fun i h1 h2 _ h => by omega)
  have kk3 := kk2.trans_ k3 (fun _ _ h => h)
  have o3 := (o1.alt k3 (fun g hg e => by have := (o1.lt g hg).1; omega)).reads
  clear hL2 kk2 c2 k3 o0 o1
  go_wp2
  (try simp only [Exit.inBlock, Exit.then])
  refine bodyPost_ret (results_tmp4 rfl _ _ _) rfl ?_
  exact ⟨_, A, A1, A5, k, d, n1, c1', n5, c5, _, ys, zs, rfl, by omega, by omega, hL3.reads, hpb, o3, by omega, o5.reads, by omega, kk3.below_ lR (fun i hi e => by omega)⟩
end Go.Proofs.YtenknpcbbcbciaaGreat
namespace Go.Proofs.YtenknpcbbcbciaaGreat
open Go.RowKit
set_option linter.unusedVariables false
set_option linter.unusedSimpArgs false
theorem same_num {ws ns bits : List Int} (hw : ∀ z ∈ ws, 1 ≤ z ∧ z ≤ 10) (hf : fitB ws ns = true) (hb : allB 0 1 bits = true) (hs : bits.length = offs ws ws.length) : sameB (numK ws bits ws.length) ns = sameB bits (bitsK ws ns ws.length) := by
 obtain ⟨h1, h2⟩ := fitB_at hf
 have h := num_bits hw h1 h2 hb hs
 unfold sameB
 exact decide_eq_decide.2 h
def hitP (l : List Ln) (rs bits : List Int) : Bool := sameB (runB l bits) (bitsK (outsL l) rs (outsL l).length)
def cfF (l : List Ln) (rs : List Int) : Option Int :=
 if coB l = true ∧ fitB (outsL l) rs = true ∧ sumI (insL l 0) + sumI (insL l 1) ≤ 10 then some (cntN (fun n => hitP l rs (bitsN n (sumI (insL l 0) + sumI (insL l 1)).toNat)) (2 ^ (sumI (insL l 0) + sumI (insL l 1)).toNat)) else none
set_option maxRecDepth 100000 in
set_option maxHeartbeats 3200000 in
theorem CountInputsFor_any (A B : Option Addr) (n c m d : Nat) (l : List Ln) (rs : List Int) (w : World) (ha : RLn w A n l) (hn : n ≤ 2097152) (hcap : n ≤ c) (hsh : ∀ x ∈ l, shortL x) (hb : RI w B m rs) (hm : m ≤ 2097152) :
 Calls Tryz.prog 22 #[.slice A n c, .slice B m d] w fun e w' => e = .returned (.tuple #[.int .i64 ((cfF l rs).getD 0), .bool (cfF l rs).isSome]) ∧ Below w.heap.size w w' := by
 cases hg : coB l with
 | false =>
  have HR : Hid (cfF l rs = none) := zH (if_neg (fun h => by rw [hg] at h; cases h.1))
  go_enter Tryz.func22, Tryz.ntmps22
  go_wp2_with fail
  refine (compileValid_no A n c l _ ha hn hcap hsh hg).mono ?_
  rintro e w1 ⟨rfl, hb1⟩
  have hB := hb1.alloc hb1.size (.cells #[.int .i64 0, .int .i64 0, .slice none 0 0, .slice none 0 0, .slice none 0 0, .slice none 0 0] 63)
  clear hg
  go_wp2
  go_ret2
  exact ⟨by rw [HR.out]; rfl, hB⟩
 | true =>
  have H0 := zH hg
  have hD := zH (Zfi hg)
  have hgd := (Zdq hg).1
  have hl := ha.len
  subst hl
  have hx0 := hD.out.x
  have hy0 := hD.out.y
  go_enter Tryz.func22, Tryz.ntmps22
  go_wp2_with fail
  refine (Zcv A l.length c l _ ha hn hcap hsh hg).mono ?_
  rintro e w1 hT
  obtain ⟨Ag, cg, Oa, oc, Ea, ec, Wa, wc, bl, rfl, hC, hE, hW, hb1⟩ := hT
  have al1 : Below w1.heap.size w1 (w1.alloc (.cells #[.int .i64 (sumI (insL l 0)), .int .i64 (sumI (insL l 1)), .slice Ag (cc l).g.length cg, .slice Oa (cc l).os.length oc, .slice Wa l.length wc, .slice Ea l.length ec] 63)) := bA
  have hx : Bx6 (w1.alloc (.cells #[.int .i64 (sumI (insL l 0)), .int .i64 (sumI (insL l 1)), .slice Ag (cc l).g.length cg, .slice Oa (cc l).os.length oc, .slice Wa l.length wc, .slice Ea l.length ec] 63)) w1.heap.size _ _ _ _ _ _ := Bx6.new w1 (.int .i64 (sumI (insL l 0))) (.int .i64 (sumI (insL l 1))) (.slice Ag (cc l).g.length cg) (.slice Oa (cc l).os.length oc) (.slice Wa l.length wc) (.slice Ea l.length ec) 63
  have hB := hb1.trans (al1.mono hb1.size)
  have hG1 := hC.1.reads.below al1 lR
  have hO1 := hC.2.1.reads.below al1 lR
  clear hg hC hE hW
  have hq := hx; obtain ⟨k0, k1, k2, k3, _, _⟩ := hq
  go_wp2_with fail
  refine (Zay (sumI (insL l 0)) (sumI (insL l 1)) Ag (cc l).g.length cg Oa (cc l).os.length oc _ hx0 hy0).mono ?_
  rintro e w2 ⟨rfl, hb2⟩
  have hB2 := hB.trans (hb2.mono hB.size)
  clear k0 k1 k2 k3
  by_cases h10 : sumI (insL l 0) + sumI (insL l 1) ≤ 10
  ·have hw2 := Zfa hgd.2.1
   have hL2 := outs10 hgd
   have ho2 : byO (fun x => decide (x.kind = 6)) l = some (outsL l) := by rw [byO_out, if_pos hgd]
   have hq2 := Zfj A l.length c l w2 (ha.below hB2 lR) hn hcap hsh
   rw [ho2] at hq2
   go_wp2_with fail
   refine (hq2).mono ?_
   rintro e w3 hT
   obtain ⟨A3, c3, rfl, p3, hb3⟩ := RetO.open_some hT rfl
   have hB3 := hB2.trans (hb3.mono hB2.size)
   have rb := hb.below hB3 lR
   clear hT hq2 ho2
   cases hf : fitB (outsL l) rs with
   | false =>
    have HR : Hid (cfF l rs = none) := zH (if_neg (fun h => by rw [hf] at h; cases h.2.1))
    have HF := zH hf
    clear hf
    go_wp2_with fail
    refine (Zbf A3 B (outsL l).length c3 m d (outsL l) rs _ p3.reads rb (by omega) hm (fun z hz => hw2 z hz)).mono ?_
    rintro e w4 ⟨rfl, rfl⟩
    rw [HF.out]
    go_wp2
    go_ret2
    exact ⟨by rw [HR.out]; rfl, hB3⟩
   | true =>
    have HF := zH hf
    have HR : Hid (cfF l rs = some (cntN (fun n => hitP l rs (bitsN n (sumI (insL l 0) + sumI (insL l 1)).toNat)) (2 ^ (sumI (insL l 0) + sumI (insL l 1)).toNat))) := zH (if_pos ⟨H0.out, hf, h10⟩)
    obtain ⟨X, hX⟩ := Int.eq_ofNat_of_zero_le (show 0 ≤ sumI (insL l 0) + sumI (insL l 1) by omega)
    have hX10 : X ≤ 10 := by omega
    obtain ⟨N, hN⟩ : ∃ N, N = 2 ^ X := ⟨_, rfl⟩
    obtain ⟨hN1, hsh2⟩ := Zbl hN hX10
    rw [hX] at HR
    simp only [Int.toNat_natCast] at HR
    rw [← hN] at HR
    have hgat := hD.out.gat X hX.symm
    have hout := hD.out.out X hX.symm
    have hofs := hD.out.offs
    have hng := hD.out.ng
    have hno := hD.out.no
    have hrun := zH (fun k => runB_bd hD.out (Zcw k X) (by rw [Zax]; exact hX.symm))
    have hrl := zH (fun k => Zdo l (bitsN k X))
    have hrb := zH (fun k => show pick (vals (cc l).g (bitsN k X) (cc l).g.length) (cc l).os = runB l (bitsN k X) from rfl)
    have hvl := zH (fun k => show (vals (cc l).g (bitsN k X) (cc l).g.length).length = X + (cc l).g.length by rw [Zdd, Zax])
    have hhit := zH (fun k => show sameB (numK (outsL l) (runB l (bitsN k X)) (outsL l).length) rs = hitP l rs (bitsN k X) from same_num hw2 hf (runB_bd hD.out (Zcw k X) (by rw [Zax]; exact hX.symm)) (by rw [Zdo]; exact hofs.symm))
    have hcn := zH (fun k => show cntN (fun n => hitP l rs (bitsN n X)) (k + 1) = cntN (fun n => hitP l rs (bitsN n X)) k + if hitP l rs (bitsN k X) = true then 1 else 0 from rfl)
    have hcb := zH (fun k => cntN_bd (fun n => hitP l rs (bitsN n X)) k)
    have hc0 : Hid (cntN (fun n => hitP l rs (bitsN n X)) 0 = 0) := zH rfl
    clear hf hN
    go_wp2_with fail
    refine (Zbf A3 B (outsL l).length c3 m d (outsL l) rs _ p3.reads rb (by omega) hm (fun z hz => hw2 z hz)).mono ?_
    rintro e w4 ⟨rfl, rfl⟩
    rw [HF.out]
    have hbx := hb2.trans (hb3.mono hb2.size)
    have hx3 := hx.below hbx
    have g3 := hG1.below hbx lR
    have o3 := hO1.below hbx lR
    have r3 := p3.reads
    have hlt1 : w1.heap.size < w3.heap.size := by have := hbx.size; simp at this; omega
    clear hbx hb2 hb3 hb1 hB hB2 hx hG1 hO1 al1 p3 ha hsh hb hD
    obtain ⟨x, hxx⟩ := lT (sumI (insL l 0))
    obtain ⟨y, hyy⟩ := lT (sumI (insL l 1))
    rw [hxx.out] at hX hx3 hx0 h10 ⊢
    rw [hyy.out] at hX hx3 hy0 h10 ⊢
    obtain ⟨ng, hngl⟩ := lT ((cc l).g.length)
    obtain ⟨no, hnol⟩ := lT ((cc l).os.length)
    rw [hngl.out] at hx3 g3 hgat hout hng hvl hrb ⊢
    rw [hnol.out] at hx3 o3 hofs hno hrl ⊢
    obtain ⟨K, hK⟩ := lT ((outsL l).length)
    rw [hK.out] at hL2 hofs hhit r3 ⊢
    generalize hWS : cntN (fun n => hitP l rs (bitsN n X)) = S at *
    clear hWS
    obtain ⟨k0, k1, k2, k3, _, _⟩ := hx3
    have hq := And.intro k0 (And.intro k1 (And.intro k2 k3))
    go_wp2_with fail
    refine (Zay x y Ag ng cg Oa no oc _ hx0 hy0).mono ?_
    rintro e w5 ⟨rfl, hb5⟩
    rw [hX]
    obtain ⟨k0, k1, k2, k3⟩ := hq
    have k0 := Zat k0 hb5
    have k1 := Zat k1 hb5
    have k2 := Zat k2 hb5
    have k3 := Zat k3 hb5
    have g5 := g3.below hb5 lR
    have o5 := o3.below hb5 lR
    have r5 := r3.below hb5 lR
    have rb5 := rb.below hb5 lR
    have hB5 := hB3.trans (hb5.mono hB3.size)
    have hlt5 := Nat.lt_of_lt_of_le hlt1 hb5.size
    have hXh := zH hX
    clear hb5 g3 o3 r3 rb hB3 hlt1 hX
    go_wp2_with fail
    rw [hsh2]
    go_loopw [10, 40] (fun v i wr => ∃ k : Nat, k ≤ N ∧ i = .int .i64 k ∧ v = .int .i64 (S k) ∧ Below w5.heap.size w5 wr) (fun _ i _ => N - (intOf i).toNat)
    case atStart => exact ⟨0, Nat.zero_le _, rfl, by rw [hc0.out], Below.refl _ _⟩
    case round =>
     obtain ⟨k, hk, rfl, rfl, hbw⟩ := hrel
     have q0 := Zat k0 hbw
     have q1 := Zat k1 hbw
     have q2 := Zat k2 hbw
     have q3 := Zat k3 hbw
     by_cases hlt : k < N
     ·have gw := g5.below hbw lR
      have ow := o5.below hbw lR
      have rw5 := r5.below hbw lR
      have rbw := rb5.below hbw lR
      have hrk := hrun.out k
      have hrlk := hrl.out k
      have hrbk := zH (hrb.out k)
      have hvk := hvl.out k
      have hhk := zH (hhit.out k)
      have hck := hcn.out k
      have hbk := hcb.out k
      have hbk1 := hcb.out (k + 1)
      have hz := hbw.size
      obtain ⟨O, hO⟩ := lT (runB l (bitsN k X))
      rw [hO.out] at hrk hrlk hrbk hhk
      obtain ⟨b, hb⟩ := lT (hitP l rs (bitsN k X))
      rw [hb.out] at hhk hck
      go_wp2_with fail
      go_region_held3 (fun w' => w'.cell? ⟨w1.heap.size, 0, none⟩ = some (.int .i64 x) ∧ w'.cell? ⟨w1.heap.size, 1, none⟩ = some (.int .i64 y) ∧ w'.cell? ⟨w1.heap.size, 2, none⟩ = some (.slice Ag ng cg) ∧ w'.cell? ⟨w1.heap.size, 3, none⟩ = some (.slice Oa no oc))
       (first | go_keep | (go_split_ands; exact ⟨Zab (by assumption) i8, Zab (by assumption) i8, Zab (by assumption) i8, Zab (by assumption) i8⟩) | (go_split_ands; exact ⟨Zab (by assumption) i7, Zab (by assumption) i7, Zab (by assumption) i7, Zab (by assumption) i7⟩) | (go_split_ands; exact ⟨Zab (by assumption) i6, Zab (by assumption) i6, Zab (by assumption) i6, Zab (by assumption) i6⟩) | ((try dsimp only); (repeat' apply And.intro) <;> go_keep))
       (first | (go_at_call 75; refine (Zay x y Ag ng cg Oa no oc _ hx0 hy0).mono ?_; rintro e w6 ⟨rfl, i6⟩; rw [hXh.out]) | (go_at_call 76; refine (Zdx k X _ (by omega) (by omega)).mono ?_; rintro e w7 hT7; obtain ⟨A7, c7, rfl, p7, i7⟩ := RetI.open_ hT7 (Zax _ _)) | (go_at_call 45; refine (Zcx x y Ag ng cg Oa no oc A7 X c7 (cc l).g (bitsN k X) _ (((show RG (wr.drewN 1) Ag ng (cc l).g from gw).below i6 lR).below i7 lR) p7.reads (Zcw _ _) hgat hng (by omega)).mono ?_; rintro e w8 hT8; obtain ⟨A8, c8, rfl, p8, i8⟩ := RetI.open_ hT8 hvk))
      have j8 : Below wr.heap.size wr w8 := bnext (bnext (bnext (Zai 1) i6) i7) i8
      have q3 := Zat q3 j8
      have o8 := ow.below j8 lR
      have r8 := rw5.below j8 lR
      have rb8 := rbw.below j8 lR
      have hB8 := hbw.trans (j8.mono hz)
      clear i6 i7 i8 j8 q0 q1 q2 gw ow rw5 rbw p7
      go_wp2_with fail
      refine (at_any A8 Oa (X + ng) c8 no oc (vals (cc l).g (bitsN k X) ng) (cc l).os _ p8.reads o8 (by omega) (by omega) hout).mono ?_
      rintro e w10 hT
      rw [hrbk.out] at hT
      obtain ⟨A10, c10, rfl, p10, i10⟩ := RetI.open_ hT hrlk
      have hcap10 := p10.cap
      go_wp2_with fail
      refine (Zfb A3 A10 K c3 no c10 (outsL l) O _ (r8.below i10 lR) p10.reads (by omega) (by omega) hcap10 hw2 hrk hofs).mono ?_
      rintro e w11 hT2
      obtain ⟨A11, c11, rfl, p11, i11⟩ := RetI.open_ hT2 (numK_len _ _ _)
      have hB10 := hB8.trans (i10.mono hB8.size)
      have hB11 := hB10.trans (i11.mono hB10.size)
      have rb11 := (rb8.below i10 lR).below i11 lR
      clear hT hT2 hB8 hB10 i10 hcap10 q3 o8 r8 rb8
      go_wp2_with fail
      refine (Equal_any A11 B K c11 m d (numK (outsL l) O K) rs _ p11.reads rb11 (by omega) hm).mono ?_
      rintro e w12 ⟨rfl, jj, rfl⟩
      rw [hhk.out]
      have hB12 := Zaa hB11 jj
      clear hB11 rb11 p11 i11 p10 p8 hbw
      cases b with
      | true =>
       have hck2 : Hid (S (k + 1) = S k + 1) := zH (by rw [hck, if_pos rfl])
       clear hck
       obtain ⟨z, hz1⟩ := lT (S k)
       rw [hz1.out] at hck2 hbk ⊢
       go_wp2
       go_roundw
       case rel => exact ⟨k + 1, by omega, by go_num, by rw [hck2.out], hB12⟩
       case measure => simp [intOf]; omega
      | false =>
       have hck2 : Hid (S (k + 1) = S k) := zH (by rw [hck, if_neg (by decide), Int.add_zero])
       clear hck
       obtain ⟨z, hz1⟩ := lT (S k)
       rw [hz1.out] at hck2 hbk ⊢
       go_wp2
       go_roundw
       case rel => exact ⟨k + 1, by omega, by go_num, by rw [hck2.out], hB12⟩
       case measure => simp [intOf]; omega
     ·obtain rfl : N = k := by omega
      go_wp2
      go_ret2
      exact ⟨by rw [HR.out]; rfl, hB5.trans (hbw.mono hB5.size)⟩
  ·have HR : Hid (cfF l rs = none) := zH (if_neg (fun h => h10 h.2.2))
   go_wp2
   go_ret2
   exact ⟨by rw [HR.out]; rfl, hB2⟩
end Go.Proofs.YtenknpcbbcbciaaGreat
