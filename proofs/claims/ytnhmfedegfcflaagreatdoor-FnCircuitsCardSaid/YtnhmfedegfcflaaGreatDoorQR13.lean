/- Drawn circuits, one behind the other: DrawThenCircuit returns two circuits of the call's own. -/
import Derived.Deep.CutRange
import Derived.Deep.CutBlock
import Derived.Test.YtnhmfedegfcflaaGreatDoorQR12
namespace Go.Proofs.YtnhmfedegfcflaaGreatDoor
open Go.RowKit
set_option linter.unusedVariables false
set_option linter.unusedSimpArgs false
attribute [local go_sem] sepAt sepUpon pureAt pureUpon
theorem leastT_any (a b : Int) (w : World) : Calls Tryz.prog 42 #[.int .i64 a, .int .i64 b] w fun e w' => e = .returned (.int .i64 (min a b)) ∧ w = w' := by
 by_cases h : a<b
 ·have hm : Hid (min a b = a) := zH (by omega)
  go_enter Tryz.func42, Tryz.ntmps42
  go_wp2
  go_ret
  exact ⟨by rw [hm.out]; rfl, rfl⟩
 ·have hm : Hid (min a b = b) := zH (by omega)
  go_enter Tryz.func42, Tryz.ntmps42
  go_wp2
  go_ret
  exact ⟨by rw [hm.out]; rfl, rfl⟩
theorem mostT_any (a b : Int) (w : World) : Calls Tryz.prog 43 #[.int .i64 a, .int .i64 b] w fun e w' => e = .returned (.int .i64 (max a b)) ∧ w = w' := by
 by_cases h : b<a
 ·have hm : Hid (max a b = a) := zH (by omega)
  go_enter Tryz.func43, Tryz.ntmps43
  go_wp2
  go_ret
  exact ⟨by rw [hm.out]; rfl, rfl⟩
 ·have hm : Hid (max a b = b) := zH (by omega)
  go_enter Tryz.func43, Tryz.ntmps43
  go_wp2
  go_ret
  exact ⟨by rw [hm.out]; rfl, rfl⟩
theorem ciInputsT_any (x y : Int) (Ag : Option Addr) (ng cg : Nat) (Ao : Option Addr) (no co : Nat) (w : World) (hx : -1 ≤ x ∧ x ≤ 21) (hy : -1 ≤ y ∧ y ≤ 21) :
 Calls Tryz.prog 44 #[.agg #[.int .i64 x, .int .i64 y, .slice Ag ng cg, .slice Ao no co]] w fun e w' => e = .returned (.int .i64 (x + y)) ∧ Below w.heap.size w w' := by
 have hB : Below w.heap.size w (w.alloc (.cells #[.int .i64 x, .int .i64 y, .slice Ag ng cg, .slice Ao no co] 27)) := bA
 have hx0 : BxC (w.alloc (.cells #[.int .i64 x, .int .i64 y, .slice Ag ng cg, .slice Ao no co] 27)) w.heap.size x y Ag ng cg Ao no co := BxC.new w _
 have hw : IntKind.i64.wrap (x + y) = x + y := by rw [IntKind.wrap_i64] <;> omega
 obtain ⟨q0, q1, q2, q3⟩ := hx0
 go_enter Tryz.func44, Tryz.ntmps44
 go_wp2
 go_ret
 exact ⟨rfl, hB⟩
theorem alt_back2 {S own R : Nat → Prop} {b : Nat} {base wr wy : World} (hk : Alt S base wr) (h : Alt (okB wr (fun i => (i = b ∨ R i) ∨ own i)) wr wy) (hown : ∀ i, own i → base.heap.size ≤ i) (hR : ∀ i, R i → wy.heap[i]? = wr.heap[i]?) (hb : ∀ i, i = b → S i) : Alt S base wy :=
 ⟨h.os.trans hk.os, h.tape.trans hk.tape, h.output.trans hk.output, Nat.le_trans hk.size h.size, fun i hi hn => by
  have e := hk.block i hi hn
  by_cases hRi : R i
  ·exact (hR i hRi).trans e
  ·refine (h.block i (by have := hk.size; omega) (fun hc => ?_)).trans e
   rcases hc with h1 | (h1 | h1) | h1
   ·have := hk.size; omega
   ·exact hn (hb i h1)
   ·exact hRi h1
   ·have := hown i h1; omega⟩
def Res.bx (D : Nat) (us : List Value) : Res :=
 ⟨fun _ v => v = undef, fun _ _ w => D < w.heap.size ∧ CellsAt w D 0 us ∧ Fz w D, fun _ _ b => b = D, fun _ => ⟨undef, rfl⟩,
  fun _ v w w' S h k hb => ⟨Nat.lt_of_lt_of_le h.1 k.size, h.2.1.alt k (hb D rfl).1, h.2.2.alt k h.1 (hb D rfl).1⟩⟩
section
variable {P : Program} {W : World} {own : Nat → Prop} {cs : List (Addr × Value)} {sk : List (Nat × List Nat × List Nat)} {ini fi : List Nat} {rs : List (Nat × Res)} {ops : Array Oper} {L : Act → (Nat → Value) → Prop} {k : Nat} {o : Oper} {rest : List Oper} {a : Act} {ρ : Nat → Value}
theorem mem_bx (d D : Nat) (us vs : List Value) (v0 : Value) (hr : resAt rs k = Res.bx D vs) (he : effB sk k = true) (hrd : resAt rs d = Res.bx D us) (hd : consL sk k = [d]) (hdd : d ∈ depsL sk k) (hρ : ρ d = v0)
 (hx : ∀ w, Alt (okB W own) W w → CellsL w cs → D < w.heap.size → CellsAt w D 0 us → Fz w D → sepAt P o a (fun v w' => v = undef ∧ CellsAt w' D 0 vs ∧ Fz w' D ∧ Alt (fun i => i = D) w w') w)
 (h : wpSep (mkSep W own cs sk ini fi rs) P ops L (k + 1) rest (a.put o.dst undef) (upd ρ k undef)) (hw : Region.wanted o (yielded ops a.tmps) = true := by first | exact Zac rfl | exact Zaa rfl rfl rfl rfl) : wpSep (mkSep W own cs sk ini fi rs) P ops L k (o :: rest) a ρ :=
 Zbl (hw := hw) _ hr he (fun w hw hc hp => by
  have h1 : D < w.heap.size ∧ CellsAt w D 0 us ∧ Fz w D := (Zbo hdd hp hρ hrd).1
  have hh : (mkSep W own cs sk ini fi rs).hit k ρ = fun b => b = D := hit_one hd hρ hrd
  rw [hh]
  refine Zaz (hx w hw hc h1.1 h1.2.1 h1.2.2) fun v w' ⟨e1, e2, e3, e4⟩ => ⟨e1, ⟨Nat.lt_of_lt_of_le h1.1 e4.size, e2, e3⟩, e4, fun b hb => ?_⟩
  have hb' : b = D := hb
  subst hb'
  exact ⟨Nat.lt_of_lt_of_le h1.1 e4.size, .inr rfl⟩) fun v hv => by
  obtain rfl : v = undef := hv
  exact h
end
theorem bx_set4 {w : World} {D : Nat} {x0 y0 : Int} {Ag0 : Option Addr} {ng0 cg0 : Nat} {Ao0 : Option Addr} {no0 co0 : Nat} (h : BxC w D x0 y0 Ag0 ng0 cg0 Ao0 no0 co0) (hf : Fz w D) (x y : Int) (A : Option Addr) (ng ca : Nat) (O : Option Addr) (no co : Nat) :
 CellsAt ((((w.setCell ⟨D, 0, none⟩ (.int .i64 x)).setCell ⟨D, 1, none⟩ (.int .i64 y)).setCell ⟨D, 2, none⟩ (.slice A ng ca)).setCell ⟨D, 3, none⟩ (.slice O no co)) D 0 [.int .i64 x, .int .i64 y, .slice A ng ca, .slice O no co]
 ∧ Fz ((((w.setCell ⟨D, 0, none⟩ (.int .i64 x)).setCell ⟨D, 1, none⟩ (.int .i64 y)).setCell ⟨D, 2, none⟩ (.slice A ng ca)).setCell ⟨D, 3, none⟩ (.slice O no co)) D
 ∧ Alt (fun i => i = D) w ((((w.setCell ⟨D, 0, none⟩ (.int .i64 x)).setCell ⟨D, 1, none⟩ (.int .i64 y)).setCell ⟨D, 2, none⟩ (.slice A ng ca)).setCell ⟨D, 3, none⟩ (.slice O no co)) := by
 obtain ⟨c0, c1, c2, c3⟩ := h.set4 x y A ng ca O no co
 exact ⟨⟨c0, c1, c2, c3, trivial⟩, (((hf.set _ _).set _ _).set _ _).set _ _, Zbh (Alt.refl_ (fun i => i = D) w) (fun _ => rfl) _ _ _ _ _ _ _ _⟩
set_option maxRecDepth 100000 in
set_option maxHeartbeats 8000000 in
theorem DrawThenCircuit_any (Y : Option Addr) (n c : Nat) (w : World) (hY : RY w Y n) :
 Calls Tryz.prog 13 #[.slice Y n c] w (RetDb w) := by
 have hA1 : Below w.heap.size w ((w.alloc (.cells #[.int .i64 0, .int .i64 0, .slice none 0 0, .slice none 0 0] 27)).alloc (.cells #[.int .i64 0, .int .i64 0, .slice none 0 0, .slice none 0 0] 27)) := (bA).alloc (by simp) _
 have al1 : Below (w.alloc (.cells #[.int .i64 0, .int .i64 0, .slice none 0 0, .slice none 0 0] 27)).heap.size (w.alloc (.cells #[.int .i64 0, .int .i64 0, .slice none 0 0, .slice none 0 0] 27)) ((w.alloc (.cells #[.int .i64 0, .int .i64 0, .slice none 0 0, .slice none 0 0] 27)).alloc (.cells #[.int .i64 0, .int .i64 0, .slice none 0 0, .slice none 0 0] 27)) := bA
 have hr0 : BxC ((w.alloc (.cells #[.int .i64 0, .int .i64 0, .slice none 0 0, .slice none 0 0] 27)).alloc (.cells #[.int .i64 0, .int .i64 0, .slice none 0 0, .slice none 0 0] 27)) w.heap.size 0 0 none 0 0 none 0 0 := (BxC.new w _).below al1
 have hr1 : BxC ((w.alloc (.cells #[.int .i64 0, .int .i64 0, .slice none 0 0, .slice none 0 0] 27)).alloc (.cells #[.int .i64 0, .int .i64 0, .slice none 0 0, .slice none 0 0] 27)) (w.heap.size + 1) 0 0 none 0 0 none 0 0 := by simpa using BxC.new (x := 0) (y := 0) (Ag := none) (ng := 0) (cg := 0) (Ao := none) (no := 0) (co := 0) (w.alloc (.cells #[.int .i64 0, .int .i64 0, .slice none 0 0, .slice none 0 0] 27)) 27
 have hs0 : ((w.alloc (.cells #[.int .i64 0, .int .i64 0, .slice none 0 0, .slice none 0 0] 27)).alloc (.cells #[.int .i64 0, .int .i64 0, .slice none 0 0, .slice none 0 0] 27)).heap.size = w.heap.size + 2 := by simp
 have hfz : Fz ((w.alloc (.cells #[.int .i64 0, .int .i64 0, .slice none 0 0, .slice none 0 0] 27)).alloc (.cells #[.int .i64 0, .int .i64 0, .slice none 0 0, .slice none 0 0] 27)) w.heap.size := Fz.below (Fz.new w _ _) al1 (by simp)
 have hfz1 : Fz ((w.alloc (.cells #[.int .i64 0, .int .i64 0, .slice none 0 0, .slice none 0 0] 27)).alloc (.cells #[.int .i64 0, .int .i64 0, .slice none 0 0, .slice none 0 0] 27)) (w.heap.size + 1) := by simpa using Fz.new (w.alloc (.cells #[.int .i64 0, .int .i64 0, .slice none 0 0, .slice none 0 0] 27)) #[.int .i64 0, .int .i64 0, .slice none 0 0, .slice none 0 0] 27
 have hY1 := hY.alt (Alt.of_new (S := fun _ => False) hA1) (fun _ _ _ _ h => h)
 have hc0 := Cur.new (c := c) hY1
 have hA2 : Below ((w.alloc (.cells #[.int .i64 0, .int .i64 0, .slice none 0 0, .slice none 0 0] 27)).alloc (.cells #[.int .i64 0, .int .i64 0, .slice none 0 0, .slice none 0 0] 27)).heap.size ((w.alloc (.cells #[.int .i64 0, .int .i64 0, .slice none 0 0, .slice none 0 0] 27)).alloc (.cells #[.int .i64 0, .int .i64 0, .slice none 0 0, .slice none 0 0] 27)) (((w.alloc (.cells #[.int .i64 0, .int .i64 0, .slice none 0 0, .slice none 0 0] 27)).alloc (.cells #[.int .i64 0, .int .i64 0, .slice none 0 0, .slice none 0 0] 27)).alloc (.cells #[.slice Y n c, .int .i64 0, .int .u64 0] 59)) := bA
 have hR : ∀ i, tblk Y n i → i < w.heap.size := tblk_lt hY
 have hs1 : (((w.alloc (.cells #[.int .i64 0, .int .i64 0, .slice none 0 0, .slice none 0 0] 27)).alloc (.cells #[.int .i64 0, .int .i64 0, .slice none 0 0, .slice none 0 0] 27)).alloc (.cells #[.slice Y n c, .int .i64 0, .int .u64 0] 59)).heap.size = w.heap.size + 3 := by simp
 rw [hs0] at hc0
 have hRb : ¬ tblk Y n (w.heap.size + 2) := fun h => by have := hR _ h; omega
 generalize tblk Y n = R at hc0 hR hRb
 go_enter Tryz.func13, Tryz.ntmps13
 go_wp2_with fail
 refine (Zci (w.heap.size + 2) R 0 _ hc0 (by omega) (fun i hi => by have := hR i hi; omega) hRb).mono ?_
 rintro e a1 ⟨⟨x, y, gs, os⟩, A, ca, O, co, rfl, ho1, hx, hy, hng, hno, c1, k1⟩
 dsimp only at ho1 hx hy hng hno ⊢
 have hz1 := k1.size
 rw [hs1] at ho1 hz1
 have kb : Alt (fun i => i = w.heap.size + 2) ((w.alloc (.cells #[.int .i64 0, .int .i64 0, .slice none 0 0, .slice none 0 0] 27)).alloc (.cells #[.int .i64 0, .int .i64 0, .slice none 0 0, .slice none 0 0] 27)) a1 := (Alt.of_new (S := fun i => i = w.heap.size + 2) hA2).trans_ k1 (fun _ _ h => h)
 go_wp2_with fail
 refine (Zci (w.heap.size + 2) R (0 + 2000) _ c1 (by omega) (fun i hi => by have := hR i hi; omega) hRb).mono ?_
 rintro e a3 ⟨⟨u, v, hs, ps⟩, A2, ca2, O2, co2, rfl, ho3, hu, hv, hmg, hmo, c3, k3⟩
 dsimp only at ho3 hu hv hmg hmo ⊢
 have hz3 := k3.size
 have kc := kb.trans_ k3 (fun _ _ h => h)
 have kw : Alt (fun i => i = w.heap.size + 2) w a3 := (Alt.of_new (S := fun i => i = w.heap.size + 2) hA1).trans_ kc (fun _ _ h => h)
 have p1 : OwnC a3 (w.heap.size + 3) a3.heap.size A gs.length ca O os.length co gs os := ⟨(ho1.1.alt k3 (fun q hq h => by have := ho1.1.lt q hq; omega)).now, (ho1.2.1.alt k3 (fun q hq h => by have := ho1.2.1.lt q hq; omega)).now, ho1.2.2⟩
 have p2 := ho3.lo_ (show w.heap.size + 3 ≤ a1.heap.size by omega)
 have al1 : Below a3.heap.size a3 (a3.alloc (.cells #[.int .i64 x, .int .i64 y, .slice A gs.length ca, .slice O os.length co] 27)) := bA
 have al2 : Below (a3.alloc (.cells #[.int .i64 x, .int .i64 y, .slice A gs.length ca, .slice O os.length co] 27)).heap.size (a3.alloc (.cells #[.int .i64 x, .int .i64 y, .slice A gs.length ca, .slice O os.length co] 27)) ((a3.alloc (.cells #[.int .i64 x, .int .i64 y, .slice A gs.length ca, .slice O os.length co] 27)).alloc (.cells #[.int .i64 u, .int .i64 v, .slice A2 hs.length ca2, .slice O2 ps.length co2] 27)) := bA
 have hzA : (a3.alloc (.cells #[.int .i64 x, .int .i64 y, .slice A gs.length ca, .slice O os.length co] 27)).heap.size = a3.heap.size + 1 := by simp
 have hzB : ((a3.alloc (.cells #[.int .i64 x, .int .i64 y, .slice A gs.length ca, .slice O os.length co] 27)).alloc (.cells #[.int .i64 u, .int .i64 v, .slice A2 hs.length ca2, .slice O2 ps.length co2] 27)).heap.size = a3.heap.size + 2 := by simp
 have bX : BxC ((a3.alloc (.cells #[.int .i64 x, .int .i64 y, .slice A gs.length ca, .slice O os.length co] 27)).alloc (.cells #[.int .i64 u, .int .i64 v, .slice A2 hs.length ca2, .slice O2 ps.length co2] 27)) a3.heap.size x y A gs.length ca O os.length co := (BxC.new a3 _).below al2
 have bY : BxC ((a3.alloc (.cells #[.int .i64 x, .int .i64 y, .slice A gs.length ca, .slice O os.length co] 27)).alloc (.cells #[.int .i64 u, .int .i64 v, .slice A2 hs.length ca2, .slice O2 ps.length co2] 27)) (a3.heap.size + 1) u v A2 hs.length ca2 O2 ps.length co2 := by simpa using BxC.new (x := u) (y := v) (Ag := A2) (ng := hs.length) (cg := ca2) (Ao := O2) (no := ps.length) (co := co2) (a3.alloc (.cells #[.int .i64 x, .int .i64 y, .slice A gs.length ca, .slice O os.length co] 27)) 27
 have fX : Fz ((a3.alloc (.cells #[.int .i64 x, .int .i64 y, .slice A gs.length ca, .slice O os.length co] 27)).alloc (.cells #[.int .i64 u, .int .i64 v, .slice A2 hs.length ca2, .slice O2 ps.length co2] 27)) a3.heap.size := Fz.below (Fz.new a3 _ _) al2 (by simp)
 have al3 := al1.trans (al2.mono al1.size)
 have o1 := p1.below al3 (.inl lR)
 have o2 := p2.below al3 (.inl lR)
 have kx := (kc.alloc_ (.cells #[.int .i64 x, .int .i64 y, .slice A gs.length ca, .slice O os.length co] 27)).alloc_ (.cells #[.int .i64 u, .int .i64 v, .slice A2 hs.length ca2, .slice O2 ps.length co2] 27)
 have cx := c3.alt (Alt.of_new (S := fun _ => False) al3) (fun h => h) (fun _ _ h => h)
 obtain ⟨K, hK⟩ : ∃ K, a3.heap.size = K := ⟨_, rfl⟩
 rw [hK] at bX bY fX o1 o2 hzB hz3
 clear al1 al2 al3 hzA c1 c3 k1 k3 kb kc p1 p2 ho1 ho3 hc0 hA2 hY1 kw
 have hq := bX; obtain ⟨m0, m1, m2, m3⟩ := hq
 have hq := bY; obtain ⟨n0, n1, n2, n3⟩ := hq
 go_upto_region 3 with (fail)
 clear hK
 generalize (a3.alloc (.cells #[.int .i64 x, .int .i64 y, .slice A gs.length ca, .slice O os.length co] 27)).alloc (.cells #[.int .i64 u, .int .i64 v, .slice A2 hs.length ca2, .slice O2 ps.length co2] 27) = a4 at *
 have hRK : ∀ i, R i → i < a4.heap.size := fun i hi => by have := hR i hi; omega
 have hKb : ¬ K = w.heap.size + 2 := by omega
 have hKb1 : ¬ K + 1 = w.heap.size + 2 := by omega
 go_cut [26] from 15 to 26 (fun s26 wx => ∃ t : Bool, s26 = .bool t ∧ (t = true → circB x y gs os = true ∧ 0 < x + y + (gs.length : Int)) ∧ Cur wx (w.heap.size + 2) R 6000 ∧ Alt (fun i => i = w.heap.size + 2) a4 wx)
 case first =>
  have rG := o1.1.reads
  have rO := o1.2.1.reads
  go_wp2_with fail
  refine (Zap x y A gs.length ca O os.length co gs os _ rG rO (by omega) (by omega)).mono ?_
  rintro e a5 ⟨rfl, b5⟩
  have c5 := cx.alt (Alt.of_new (S := fun _ => False) b5) (fun h => h) (fun _ _ h => h)
  have k5 : Alt (fun i => i = w.heap.size + 2) a4 a5 := Alt.of_new b5
  have bX5 := bX.below b5
  clear m0 m1 m2 m3 n0 n1 n2 n3
  cases hg : circB x y gs os with
  | false =>
   go_wp2
   go_meet
   exact ⟨false, rfl, fun h => (by cases h), c5.mono (by omega), k5⟩
  | true =>
   obtain ⟨hx0, hy0, hg0, _, _, _⟩ := Zao hg
   have HG := zH hg; clear hg
   have hq := bX5; obtain ⟨m0, m1, m2, m3⟩ := hq
   go_wp2_with fail
   refine (Zba x y A gs.length ca O os.length co _ hx0 hy0 (by omega)).mono ?_
   rintro e a6 ⟨rfl, b6⟩
   have c6 := c5.alt (Alt.of_new (S := fun _ => False) b6) (fun h => h) (fun _ _ h => h)
   have k6 := k5.new_ b6
   clear m0 m1 m2 m3 c5 k5 b5 b6 bX5
   by_cases hN : 0 < x + y + (gs.length : Int)
   ·go_wp2_with fail
    refine (one_any 6 (w.heap.size + 2) R _ _ c6 (by omega) (by omega)).mono ?_
    rintro e a7 ⟨t, rfl, c7, k7, z7⟩
    have k8 := k6.trans_ k7 (fun _ _ h => h)
    clear c6 k6 k7 z7
    cases t with
    | true =>
     go_wp2
     go_meet
     exact ⟨false, rfl, fun h => (by cases h), c7.mono (by omega), k8⟩
    | false =>
     go_wp2
     go_meet
     exact ⟨true, rfl, fun _ => ⟨HG.out, hN⟩, c7.mono (by omega), k8⟩
   ·go_wp2
    go_meet
    exact ⟨false, rfl, fun h => (by cases h), c6.mono (by omega), k6⟩
 case rest =>
  obtain ⟨t, rfl, ht, c5, k5⟩ := hcut
  generalize wc = a5 at *
  have HT := zH ht
  have hz5 := k5.size
  have bX5 := bX.alt k5 hKb
  have bY5 := bY.alt k5 hKb1
  have fX5 := Fz.alt fX k5 (by omega) hKb
  have o15 : OwnC a5 (w.heap.size + 3) K A gs.length ca O os.length co gs os := ⟨o1.1.alt k5 (fun g hg h => by have := (o1.1.lt g hg).1; omega), o1.2.1.alt k5 (fun g hg h => by have := (o1.2.1.lt g hg).1; omega), o1.2.2⟩
  have o25 : OwnC a5 (w.heap.size + 3) K A2 hs.length ca2 O2 ps.length co2 hs ps := ⟨o2.1.alt k5 (fun g hg h => by have := (o2.1.lt g hg).1; omega), o2.2.1.alt k5 (fun g hg h => by have := (o2.2.1.lt g hg).1; omega), o2.2.2⟩
  have kx5 := kx.trans_ k5 (fun _ _ h => h)
  clear ht m0 m1 m2 m3 n0 n1 n2 n3 cx bX bY fX o1 o2 kx k5 hRK
  have hRK : ∀ i, R i → i < a5.heap.size := fun i hi => by have := hR i hi; omega
  go_upto_if 26 with (fail)
  go_cut [7] from 27 to 45 (fun s7 wx => ∃ (os2 : List Int) (O9 : Option Addr) (co9 : Nat), BxC wx K x y A gs.length ca O9 os2.length co9 ∧ Own wx (w.heap.size + 3) wx.heap.size (.slice O9 os2.length co9) os2.length os2 ∧ Apart (.slice A gs.length ca) (.slice O9 os2.length co9) ∧ os2.length ≤ 50 ∧ Alt (fun i => i = w.heap.size + 2 ∨ i = K) a5 wx)
  case first =>
   cases t with
   | false =>
    go_wp2
    go_meet
    exact ⟨os, O, co, bX5, o15.2.1.now, o15.2.2, by omega, Alt.refl_ _ _⟩
   | true =>
    obtain ⟨hg, hN0⟩ := HT.out rfl
    obtain ⟨hx0, hy0, hg0, _, _, _⟩ := Zao hg
    obtain ⟨N, hN⟩ : ∃ N : Nat, Hid (x + y + (gs.length : Int) = (N : Int)) := ⟨(x + y + (gs.length : Int)).toNat, zH (by omega)⟩
    have hN1 : 0 < N := by have := hN.out; omega
    have hN2 : N ≤ 400 := by have := hN.out; omega
    clear hg HT hN0
    have hq := bX5; obtain ⟨m0, m1, m2, m3⟩ := hq
    have f3 := fX5 3
    have bX6 := bX5.setO none 0 0
    have bY6 := bY5.alt ((Alt.refl_ (fun i => i = K) a5).set_ ⟨K, 3, none⟩ (.slice none 0 0) (fun _ => rfl)) (by omega)
    have c6 := c5.alt ((Alt.refl_ (fun i => i = K) a5).set_ ⟨K, 3, none⟩ (.slice none 0 0) (fun _ => rfl)) (by omega) (fun i hi h => by have := hR i hi; omega)
    have k6 : Alt (fun i => i = w.heap.size + 2 ∨ i = K) a5 (a5.setCell ⟨K, 3, none⟩ (.slice none 0 0)) := (Alt.refl_ _ _).set_ ⟨K, 3, none⟩ (.slice none 0 0) (fun _ => .inr rfl)
    have f6 : Fz (a5.setCell ⟨K, 3, none⟩ (.slice none 0 0)) K := fX5.set _ _
    have hz6 : (a5.setCell ⟨K, 3, none⟩ (.slice none 0 0)).heap.size = a5.heap.size := by simp
    have hq := bY6; obtain ⟨n0, n1, n2, n3⟩ := hq
    go_upto_region 5 with (fail)
    generalize a5.setCell ⟨K, 3, none⟩ (.slice none 0 0) = a6 at *
    clear m0 m1 m2 m3 f3
    go_wp2_with fail
    refine (ciInputsT_any u v A2 hs.length ca2 O2 ps.length co2 _ hu hv).mono ?_
    rintro e a7 ⟨rfl, b7⟩
    have c7 := c6.alt (Alt.of_new (S := fun _ => False) b7) (fun h => h) (fun _ _ h => h)
    have k7 := k6.new_ b7
    have bX7 := bX6.below b7
    have f7 := f6.below b7 (by omega)
    have hz7 := b7.size
    clear n0 n1 n2 n3 c6 k6 bX6 bY6 f6 b7
    go_wp2_with fail
    refine (mostT_any (u + v) 0 _).mono ?_
    rintro e a8 ⟨rfl, rfl⟩
    go_wp2_with fail
    refine (leastT_any (max (u + v) 0) 41 _).mono ?_
    rintro e a9 ⟨rfl, rfl⟩
    obtain ⟨M, hM, hM41⟩ : ∃ M : Nat, min (max (u + v) 0) 41 = (M : Int) ∧ M ≤ 41 := ⟨(min (max (u + v) 0) 41).toNat, by omega, by omega⟩
    rw [hM]
    clear hM
    go_wp2_with fail
    go_loopg [] M (fun g wr => ∃ (os2 : List Int) (O9 : Option Addr) (co9 : Nat), BxC wr K x y A gs.length ca O9 os2.length co9 ∧ Fz wr K ∧ Own wr a5.heap.size wr.heap.size (.slice O9 os2.length co9) os2.length os2 ∧ os2.length + g = M ∧ Cur wr (w.heap.size + 2) R (7000 - 2 * g) ∧ Alt (fun i => i = w.heap.size + 2 ∨ i = K) a5 wr)
    case atStart => exact ⟨[], none, 0, bX7, f7, Own.none_ _ _ _, by simp, c7.mono (by omega), k7⟩
    case round =>
     clear bX7 f7 c7 k7 hz7 hz6
     obtain ⟨os2, O9, co9, bX, fX, ho, hog, cu, ka⟩ := hrel
     generalize wr = W0 at *
     generalize gk = gK at *
     have hz0 := ka.size
     obtain ⟨q, hq9⟩ : ∃ q, os2.length = q := ⟨_, rfl⟩
     rw [hq9] at bX ho hog
     have HQ := zH hq9
     clear hq9
     have hog9 := zH hog
     have hq := bX; obtain ⟨m0, m1, m2, m3⟩ := hq
     by_cases hlt : (q : Int) < (M : Int)
     ·have hq40 : q ≤ 40 := by omega
      have hO : ∀ g, (Value.slice O9 q co9).ownBlock = some g → a5.heap.size ≤ g ∧ g < W0.heap.size := fun g hg => ⟨(ho.lt g hg).1, (ho.lt g hg).2.2⟩
      have hRb2 : ¬ R (w.heap.size + 2) := hRb
      clear hog
      go_wp2_with fail
      go_wp2_with fail
      refine Zau (8) ((fun i => (i = w.heap.size + 2 ∨ R i) ∨ (Value.slice O9 q co9).ownBlock = some i)) [(⟨K, 0, none⟩, .int .i64 x), (⟨K, 1, none⟩, .int .i64 y), (⟨K, 2, none⟩, .slice A gs.length ca), (⟨K, 3, none⟩, .slice O9 q co9)] [(4, [], []), (5, [101], [101]), (6, [], []), (7, [100, 6], [100])] [100, 101] [5, 7] [(100, Res.rowE a5.heap.size q), (101, Res.cur W0 (w.heap.size + 2) R (7000 - 2 * gK) 1), (4, Res.plain (.int .i64 (N : Int))), (5, Res.cur W0 (w.heap.size + 2) R (7000 - 2 * gK + 2) (N : Int)), (6, Res.rowE a5.heap.size 1), (7, Res.rowE a5.heap.size (q + 1))] ((upd (upd (fun _ => undef) 100 (.slice O9 q co9)) 101 (.int .i64 (0 : Nat)))) (by kernel_rfl) (by kernel_rfl) (by kernel_rfl) (by simp only [cD, cC, and_true]; repeat (any_goals (apply And.intro)); all_goals (first | assumption | go_simp)) (fun q9 hq9 => by simp only [List.mem_cons, List.not_mem_nil, or_false] at hq9; rcases hq9 with rfl | rfl | rfl | rfl <;> rintro ((h | h) | h) <;> first | exact hKb h | (have h' : K < w.heap.size := hR _ h; omega) | exact absurd (hO _ h).1 (by show ¬ a5.heap.size ≤ K; omega)) (⟨⟨⟨os2, ho⟩, fun i hi => ⟨.inr (.inr hi), (hO i hi).2⟩⟩, ⟨⟨cu.alt ((Alt.refl_ (fun _ => False) W0).drewN_ 1) (fun h => h) (fun _ _ h => h), fun i hi => ⟨by have := hR i hi; show i < W0.heap.size; omega, rfl⟩⟩, fun i hi => ⟨.inr (.inl hi), hi.elim (fun h => h ▸ cu.lt) (fun h => by have := hR i h; show i < W0.heap.size; omega)⟩⟩, trivial⟩) ((fun d hd d' hd' hn c hc hc' => by simp only [List.mem_cons, List.not_mem_nil, or_false] at hd hd'; rcases hd with rfl | rfl <;> rcases hd' with rfl | rfl <;> first | exact hn rfl | (have h1 := hO c hc; rcases hc' with h2 | h2; (have h3 : c = w.heap.size + 2 := h2; omega); (have h3 := hR c h2; omega)) | (have h1 := hO c hc'; rcases hc with h2 | h2; (have h3 : c = w.heap.size + 2 := h2; omega); (have h3 := hR c h2; omega)))) ?_
      simp only [List.take_succ_cons, List.take_zero, List.drop_succ_cons, List.drop_zero, List.take_nil, List.drop_nil, List.take, List.drop]
      repeat (first
       | ((first
        | ((with_reducible refine Zad ?_ ?_ ?_)
           ·exact rfl
           ·exact rfl)
        | ((with_reducible refine Zag ?_ ?_ ?_)
           ·exact rfl
           ·exact Zaa rfl rfl rfl rfl))
          intro K hK
          apply Exists.intro
          refine ⟨fun w3 hw3 => ?_, ?_⟩
          ·have hcs := hw3
           simp only [cD, cC, and_true] at hcs
           clear hw3
           go_simp
           first | done | exact ⟨rfl, rfl⟩ | rfl
          refine hK _ ?_
          clear hK K
          try simp only [pA, pB, sA, sB, sC])
       | ((with_reducible refine Zaf ?_ ?_ ?_)
          ·exact rfl
          ·exact Zab rfl rfl rfl rfl
          simp only [pA, pB, sA, sB, sC]))
      focus
       (with_reducible refine Zbc (.int .i64 (N : Int)) ?_ ?_ ?_ ?_ (hw := ?_))
       ·exact rfl
       ·exact rfl
       ·intro w3 hw3 hc3 hp3
        have hcs := hc3
        simp only [cD, cC, and_true] at hcs
        (go_simp; refine (Zba x y A gs.length ca O9 q co9 _ hx0 hy0 (by omega)).mono ?_; rintro e w4 ⟨he, hb4⟩; rw [hN.out] at he; subst he; exact retPost.mk_ (postPlain.mk_ hb4))
       rotate_left
       ·first | exact Zac rfl | exact Zaa rfl rfl rfl rfl
       try simp only [pA, pB, sA, sB, sC]
      refine mem_pick 101 (w.heap.size + 2) R (7000 - 2 * gK) (7000 - 2 * gK + 2) 1 (N : Int) W0 (.int .i64 (0 : Nat)) hRb2 (by rfl) (by rfl) (by rfl) (by rfl) (by decide) (by rfl) (fun w3 hw3 hc3 hu3 => ?_) (fun x9 hx9 => ?_)
      ·go_simp
       refine (Zaj _ (w.heap.size + 2) R _ _ hu3 (by omega) (by omega)).mono ?_
       rintro e w4 ⟨v, hv, hw, rfl, c4, k4, z4⟩
       exact retPost.mk_ ⟨v, hv, rfl, c4, k4⟩
      try simp only [pA, pB, sA, sB, sC]
      repeat (first
       | ((first
        | ((with_reducible refine Zad ?_ ?_ ?_)
           ·exact rfl
           ·exact rfl)
        | ((with_reducible refine Zag ?_ ?_ ?_)
           ·exact rfl
           ·exact Zaa rfl rfl rfl rfl))
          intro K hK
          apply Exists.intro
          refine ⟨fun w3 hw3 => ?_, ?_⟩
          ·have hcs := hw3
           simp only [cD, cC, and_true] at hcs
           clear hw3
           go_simp
           first | done | exact ⟨rfl, rfl⟩ | rfl
          refine hK _ ?_
          clear hK K
          try simp only [pA, pB, sA, sB, sC])
       | ((with_reducible refine Zaf ?_ ?_ ?_)
          ·exact rfl
          ·exact Zab rfl rfl rfl rfl
          simp only [pA, pB, sA, sB, sC]))
      refine mem_rowE a5.heap.size 1 (by rfl) (by rfl) hz0 (fun w3 hw3 hc3 hp3 => ?_) (fun A3 c3' => ?_)
      ·go_simp
       exact ⟨_, postRow.new1 _ _⟩
      try simp only [pA, pB, sA, sB, sC]
      refine mem_appE 100 6 a5.heap.size q 1 O9 co9 A3 c3' (.tmp 38) (.tmp 43) (by rfl) (by rfl) hz0 (by rfl) (by rfl) (by decide) (by rfl) (by rfl) (by decide) (by rfl) (by rfl) (by rfl) (by rfl) (by omega) (fun G' cG' => ?_)
      try simp only [pA, pB, sA, sB, sC]
      refine Zat ?_
      intro wy hwy hcy hfin hap
      obtain ⟨xs, hO4⟩ : ∃ xs, Own wy a5.heap.size wy.heap.size (.slice G' (q + 1) cG') (q + 1) xs := hfin.2.1.1
      have hC4 : Cur wy (w.heap.size + 2) R (7000 - 2 * gK + 2) ∧ ∀ i, R i → i < wy.heap.size ∧ wy.heap[i]? = W0.heap[i]? := hfin.1.1
      have hxl : xs.length = q + 1 := hO4.len
      have hSK : ¬ okB W0 (fun i => (i = w.heap.size + 2 ∨ R i) ∨ (Value.slice O9 q co9).ownBlock = some i) K := fun hc => by
       rcases hc with h1 | (h1 | h1) | h1
       ·omega
       ·omega
       ·have := hR _ h1; omega
       ·have := (hO _ h1).1; omega
      have k4 : Alt (fun i => i = w.heap.size + 2 ∨ i = K) a5 wy := alt_back2 ka hwy (fun i hi => by have := hO i hi; omega) (fun i hi => (hC4.2 i hi).2) (fun i hi => .inl hi)
      have k5 := k4.set_ ⟨K, 3, none⟩ (.slice G' (q + 1) cG') (fun _ => .inr rfl)
      have c5 := hC4.1.alt ((Alt.refl_ (fun i => i = K) wy).set_ ⟨K, 3, none⟩ (.slice G' (q + 1) cG') (fun _ => rfl)) (by omega) (fun i hi h => by have := hR i hi; omega)
      have bX4 := bX.alt hwy hSK
      have bX5 := bX4.setO G' (q + 1) cG'
      have fX4 := fX.alt hwy (by omega) hSK
      have fX5 : Fz (wy.setCell ⟨K, 3, none⟩ (.slice G' (q + 1) cG')) K := fX4.set _ _
      have hO5 : Own (wy.setCell ⟨K, 3, none⟩ (.slice G' (q + 1) cG')) a5.heap.size (wy.setCell ⟨K, 3, none⟩ (.slice G' (q + 1) cG')).heap.size (.slice G' (q + 1) cG') (q + 1) xs := (hO4.alt ((Alt.refl_ (fun i => i = K) wy).set_ ⟨K, 3, none⟩ (.slice G' (q + 1) cG') (fun _ => rfl)) (fun g hg h => by have := (hO4.lt g hg).1; omega)).now
      clear m0 m1 m2 m3
      have hq := bX4; obtain ⟨m0, m1, m2, m3⟩ := hq
      have f3 := fX4 3
      clear hfin hap hcy hwy ho bX fX cu ka hO hC4 hO4 k4 bX4 fX4
      go_wp2
      go_roundg (gK - 1)
      case rel => exact ⟨xs, G', cG', by rw [hxl]; exact bX5, fX5, by rw [hxl]; exact hO5, by rw [hxl]; have := hog9.out; omega, c5.mono (by have := hog9.out; omega), k5⟩
      case measure => have := hog9.out; omega
     ·go_wp2
      go_meet
      exact ⟨os2, O9, co9, by rw [HQ.out]; exact bX, by rw [HQ.out]; exact ho.lo_ (by omega), fun g h1 h2 => by rw [HQ.out] at h2; have e1 := (o15.1.lt g h1).2.1; have e2 := (ho.lt g h2).1; omega, by rw [HQ.out]; omega, ka⟩
  case rest =>
   obtain ⟨os2, O9, co9, bX, hO, hap9, hl50, k6⟩ := hcut
   generalize wc = a6 at *
   have hz6 := k6.size
   have hKs : ∀ i, w.heap.size + 3 ≤ i → i < K → ¬ (i = w.heap.size + 2 ∨ i = K) := fun i h1 h2 h => by omega
   have bY6 := bY5.alt k6 (by omega)
   have g1 := (o15.1.alt k6 (fun g hg => hKs g (o15.1.lt g hg).1 (o15.1.lt g hg).2.1)).now
   have o26 : OwnC a6 (w.heap.size + 3) K A2 hs.length ca2 O2 ps.length co2 hs ps := ⟨o25.1.alt k6 (fun g hg => hKs g (o25.1.lt g hg).1 (o25.1.lt g hg).2.1), o25.2.1.alt k6 (fun g hg => hKs g (o25.2.1.lt g hg).1 (o25.2.1.lt g hg).2.1), o25.2.2⟩
   have kd : Alt (fun i => i = w.heap.size + 2 ∨ i = K) ((w.alloc (.cells #[.int .i64 0, .int .i64 0, .slice none 0 0, .slice none 0 0] 27)).alloc (.cells #[.int .i64 0, .int .i64 0, .slice none 0 0, .slice none 0 0] 27)) a6 := (kx5.mono_ (fun i _ h => .inl h)).trans_ k6 (fun _ _ h => h)
   have hr8 := hr0.alt kd (by omega)
   have hr9 := hr1.alt kd (by omega)
   have hF := Fz.alt hfz kd (by omega) (by omega)
   have hF1 := Fz.alt hfz1 kd (by omega) (by omega)
   have kw : Alt (fun i => i = w.heap.size + 2 ∨ i = K) w a6 := (Alt.of_new (S := fun i => i = w.heap.size + 2 ∨ i = K) hA1).trans_ kd (fun _ _ h => h)
   clear bX5 bY5 fX5 o15 o25 kx5 c5 k6 kd hRK HT hr0 hr1 hfz hfz1
   have hq := bX; obtain ⟨m0, m1, m2, m3⟩ := hq
   have hq := bY6; obtain ⟨n0, n1, n2, n3⟩ := hq
   have hKD : ¬ K = w.heap.size := by omega
   have hKE : ¬ K = w.heap.size + 1 := by omega
   have hKD1 : ¬ K + 1 = w.heap.size := by omega
   have hKE1 : ¬ K + 1 = w.heap.size + 1 := by omega
   go_wp2_with fail
   go_wp2_with fail
   refine Zau (4) ((fun i => i = w.heap.size ∨ i = w.heap.size + 1)) [(⟨K, 0, none⟩, .int .i64 x), (⟨K, 1, none⟩, .int .i64 y), (⟨K, 2, none⟩, .slice A gs.length ca), (⟨K, 3, none⟩, .slice O9 os2.length co9), (⟨K + 1, 0, none⟩, .int .i64 u), (⟨K + 1, 1, none⟩, .int .i64 v), (⟨K + 1, 2, none⟩, .slice A2 hs.length ca2), (⟨K + 1, 3, none⟩, .slice O2 ps.length co2)] [(2, [102], [102]), (3, [103], [103])] [102, 103] [2, 3] [(102, Res.bx w.heap.size [.int .i64 0, .int .i64 0, .slice none 0 0, .slice none 0 0]), (103, Res.bx (w.heap.size + 1) [.int .i64 0, .int .i64 0, .slice none 0 0, .slice none 0 0]), (2, Res.bx w.heap.size [.int .i64 x, .int .i64 y, .slice A gs.length ca, .slice O9 os2.length co9]), (3, Res.bx (w.heap.size + 1) [.int .i64 u, .int .i64 v, .slice A2 hs.length ca2, .slice O2 ps.length co2])] ((upd (upd (fun _ => undef) 102 undef) 103 undef)) (by kernel_rfl) (by kernel_rfl) (by kernel_rfl) (by simp only [cD, cC, and_true]; repeat (any_goals (apply And.intro)); all_goals (first | assumption | go_simp)) (fun q9 hq9 => by simp only [List.mem_cons, List.not_mem_nil, or_false] at hq9; rcases hq9 with rfl | rfl | rfl | rfl | rfl | rfl | rfl | rfl <;> rintro (h | h) <;> first | exact hKD h | exact hKE h | exact hKD1 h | exact hKE1 h) (⟨⟨⟨by show w.heap.size < a6.heap.size; omega, ⟨hr8.1, hr8.2.1, hr8.2.2.1, hr8.2.2.2, trivial⟩, hF⟩, fun i hi => ⟨.inr (.inl hi), by have hi' : i = w.heap.size := hi; show i < a6.heap.size; omega⟩⟩, ⟨⟨by show w.heap.size + 1 < a6.heap.size; omega, ⟨hr9.1, hr9.2.1, hr9.2.2.1, hr9.2.2.2, trivial⟩, hF1⟩, fun i hi => ⟨.inr (.inr hi), by have hi' : i = w.heap.size + 1 := hi; show i < a6.heap.size; omega⟩⟩, trivial⟩) ((fun d hd d' hd' hn c hc hc' => by simp only [List.mem_cons, List.not_mem_nil, or_false] at hd hd'; rcases hd with rfl | rfl <;> rcases hd' with rfl | rfl <;> first | exact hn rfl | (have h1 : c = w.heap.size := hc; have h2 : c = w.heap.size + 1 := hc'; omega) | (have h1 : c = w.heap.size + 1 := hc; have h2 : c = w.heap.size := hc'; omega))) ?_
   simp only [List.take_succ_cons, List.take_zero, List.drop_succ_cons, List.drop_zero, List.take_nil, List.drop_nil, List.take, List.drop]
   repeat (first
    | ((first
     | ((with_reducible refine Zad ?_ ?_ ?_)
        ·exact rfl
        ·exact rfl)
     | ((with_reducible refine Zag ?_ ?_ ?_)
        ·exact rfl
        ·exact Zaa rfl rfl rfl rfl))
       intro K hK
       apply Exists.intro
       refine ⟨fun w3 hw3 => ?_, ?_⟩
       ·have hcs := hw3
        simp only [cD, cC, and_true] at hcs
        clear hw3
        go_simp
        first | done | exact ⟨rfl, rfl⟩ | rfl
       refine hK _ ?_
       clear hK K
       try simp only [pA, pB, sA, sB, sC])
    | ((with_reducible refine Zaf ?_ ?_ ?_)
       ·exact rfl
       ·exact Zab rfl rfl rfl rfl
       simp only [pA, pB, sA, sB, sC]))
   refine mem_bx 102 w.heap.size _ _ undef (by rfl) (by rfl) (by rfl) (by rfl) (by decide) (by rfl) (fun w3 hw3 hc3 hz3 hd3 hf3 => ?_) ?_
   ·obtain ⟨d0, d1, d2, d3, _⟩ := hd3
    have f0 := hf3 0; have f1 := hf3 1; have f2 := hf3 2; have f3 := hf3 3
    have hcs := hc3
    simp only [cD, cC, and_true] at hcs
    go_simp
    exact bx_set4 ⟨d0, d1, d2, d3⟩ hf3 _ _ _ _ _ _ _ _
   try simp only [pA, pB, sA, sB, sC]
   refine mem_bx 103 (w.heap.size + 1) _ _ undef (by rfl) (by rfl) (by rfl) (by rfl) (by decide) (by rfl) (fun w3 hw3 hc3 hz3 hd3 hf3 => ?_) ?_
   ·obtain ⟨d0, d1, d2, d3, _⟩ := hd3
    have f0 := hf3 0; have f1 := hf3 1; have f2 := hf3 2; have f3 := hf3 3
    have hcs := hc3
    simp only [cD, cC, and_true] at hcs
    go_simp
    exact bx_set4 ⟨d0, d1, d2, d3⟩ hf3 _ _ _ _ _ _ _ _
   try simp only [pA, pB, sA, sB, sC]
   refine Zat ?_
   intro wy hwy hcy hfin hap
   obtain ⟨_, ⟨q0, q1, q2, q3, _⟩, _⟩ := hfin.1.1
   obtain ⟨_, ⟨e0, e1, e2, e3, _⟩, _⟩ := hfin.2.1.1
   have hSn : ∀ i, w.heap.size + 3 ≤ i → i < a6.heap.size → ¬ okB a6 (fun i => i = w.heap.size ∨ i = w.heap.size + 1) i := fun i h1 h2 hc => by
    rcases hc with h | h | h
    ·omega
    ·have h' : i = w.heap.size := h; omega
    ·have h' : i = w.heap.size + 1 := h; omega
   have r1 : OwnC wy w.heap.size wy.heap.size A gs.length ca O9 os2.length co9 gs os2 := ⟨(g1.alt hwy (fun g hg => hSn g (g1.lt g hg).1 (g1.lt g hg).2.2)).now.lo_ (by omega), (hO.alt hwy (fun g hg => hSn g (hO.lt g hg).1 (hO.lt g hg).2.2)).now.lo_ (by omega), hap9⟩
   have r2 : OwnC wy w.heap.size wy.heap.size A2 hs.length ca2 O2 ps.length co2 hs ps := ⟨(o26.1.alt hwy (fun g hg => hSn g (o26.1.lt g hg).1 (o26.1.lt g hg).2.2)).now.lo_ (by omega), (o26.2.1.alt hwy (fun g hg => hSn g (o26.2.1.lt g hg).1 (o26.2.1.lt g hg).2.2)).now.lo_ (by omega), o26.2.2⟩
   have hB : Below w.heap.size w wy := (kw.trans_ (S := fun i => i = w.heap.size + 2 ∨ i = K) (T := okB a6 (fun i => i = w.heap.size ∨ i = w.heap.size + 1)) hwy (fun i hi h => by rcases h with h | h | h; omega; omega; omega)).below_ lR (fun i hi h => by omega)
   clear hfin hap hcy hwy m0 m1 m2 m3 n0 n1 n2 n3 hr8 hr9 hF hF1 kw
   go_wp2
   refine bodyPost_ret (v := .tuple #[.agg #[.int .i64 x, .int .i64 y, .slice A gs.length ca, .slice O9 os2.length co9], .agg #[.int .i64 u, .int .i64 v, .slice A2 hs.length ca2, .slice O2 ps.length co2]]) (by simp [results, Tryz.results13, go_sem, q0, q1, q2, q3, e0, e1, e2, e3]) rfl ?_
   exact ⟨⟨x, y, gs, os2⟩, ⟨u, v, hs, ps⟩, A, ca, O9, co9, A2, ca2, O2, co2, rfl, r1, hng, by simp; omega, r2, hmg, hmo, hB⟩
end Go.Proofs.YtnhmfedegfcflaaGreatDoor
