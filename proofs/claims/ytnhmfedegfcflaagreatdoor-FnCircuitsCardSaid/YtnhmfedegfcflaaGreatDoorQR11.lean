/- Drawn circuits of any kind: whatever the bytes are, a circuit comes back (its inputs from -1 to 21, few gates and outs) and the reader stays one. -/
import Derived.Test.YtnhmfedegfcflaaGreatDoorQR10
namespace Go.Proofs.YtnhmfedegfcflaaGreatDoor
open Go.RowKit
set_option linter.unusedVariables false
set_option linter.unusedSimpArgs false
attribute [local go_sem] sepAt sepUpon pureAt pureUpon
def RetDa (b : Nat) (R : Nat → Prop) (T : Nat) (w : World) (e : Ending) (w' : World) : Prop :=
 ∃ (C : Ci) (A : Option Addr) (ca : Nat) (O : Option Addr) (co : Nat), e = .returned (.agg #[.int .i64 C.i0, .int .i64 C.i1, .slice A C.gs.length ca, .slice O C.os.length co]) ∧ OwnC w' w.heap.size w'.heap.size A C.gs.length ca O C.os.length co C.gs C.os ∧ (-1 ≤ C.i0 ∧ C.i0 ≤ 21) ∧ (-1 ≤ C.i1 ∧ C.i1 ≤ 21) ∧ C.gs.length ≤ 310 ∧ C.os.length ≤ 50 ∧ Cur w' b R T ∧ Alt (fun i => i = b) w w'
theorem RetDa.of_ {b lo bm T U : Nat} {R : Nat → Prop} {w base w1 : World} {C : Ci} {A : Option Addr} {ca : Nat} {O : Option Addr} {co : Nat} (hp : PX w1 lo bm C A ca O co) (hlo : w.heap.size < lo) (hk : Alt (fun i => i = b) base w1) (hA : Below w.heap.size w base) (hbs : base.heap.size = w.heap.size + 1)
 (hu : Cur w1 b R U) (hU : U ≤ T) (hR : ∀ i, R i → i < w.heap.size) (hb : b < w.heap.size) (hx : -1 ≤ C.i0 ∧ C.i0 ≤ 21) (hy : -1 ≤ C.i1 ∧ C.i1 ≤ 21) (hn : C.gs.length ≤ 310) (ho : C.os.length ≤ 50) :
 RetDa b R T w (.returned (.agg #[.int .i64 C.i0, .int .i64 C.i1, .slice A C.gs.length ca, .slice O C.os.length co])) ((((w1.setCell ⟨w.heap.size, 0, none⟩ (.int .i64 C.i0)).setCell ⟨w.heap.size, 1, none⟩ (.int .i64 C.i1)).setCell ⟨w.heap.size, 2, none⟩ (.slice A C.gs.length ca)).setCell ⟨w.heap.size, 3, none⟩ (.slice O C.os.length co)) := by
 have hz := hk.size
 have h1 : Alt (fun i => i = b) w w1 := (Alt.of_new (S := fun i => i = b) hA).trans_ hk (fun _ _ h => h)
 have h2 := Zbh (Alt.refl_ (fun i => i = w.heap.size) w1) (fun _ => rfl) C.i0 C.i1 A C.gs.length ca O C.os.length co
 refine ⟨C, A, ca, O, co, rfl, ?_, hx, hy, hn, ho, (hu.mono hU).alt h2 (by omega) (fun i hi h => by have := hR i hi; omega), Zbh h1 (fun h => absurd h (by omega)) _ _ _ _ _ _ _ _⟩
 rw [Zbr]
 exact (hp.ox.1.set4 (.inl hlo) _ _ _ _ _ _ _ _).lo_ (by omega)
theorem PX.boxed {w : World} {lo : Nat} {C : Ci} {A : Option Addr} {ca : Nat} {O : Option Addr} {co : Nat} (h : OwnC w lo w.heap.size A C.gs.length ca O C.os.length co C.gs C.os) (T : TypeId) :
 PX (w.alloc (.cells #[.int .i64 C.i0, .int .i64 C.i1, .slice A C.gs.length ca, .slice O C.os.length co] T)) lo w.heap.size C A ca O co := by
 have hal : Below w.heap.size w (w.alloc (.cells #[.int .i64 C.i0, .int .i64 C.i1, .slice A C.gs.length ca, .slice O C.os.length co] T)) := bA
 refine ⟨BxC.new w T, Fz.new w _ _, ⟨⟨(h.1.below hal (.inl lR)).now, (h.2.1.below hal (.inl lR)).now, h.2.2⟩, fun hc => ?_, fun hc => ?_⟩⟩
 ·have := h.1.lt _ hc; omega
 ·have := h.2.1.lt _ hc; omega
theorem gcells_setA (x : Int) : ∀ (xs : List G3) (k : Nat), k < xs.length → (gcells xs).set (k * 3 + 1) (.int .i64 x) = gcells (xs.set k ⟨(gg xs k).k, x, (gg xs k).b⟩) := by
 intro xs
 induction xs with
 | nil => intro k hk; simp at hk
 | cons g gs ih =>
  intro j hj
  cases j with
  | zero => rfl
  | succ j =>
   have := ih j (by simpa using hj)
   have hc : gcells (g :: gs) = Value.int .i64 g.k :: .int .i64 g.a :: .int .i64 g.b :: gcells gs := rfl
   have hd : ∀ y, gcells ((g :: gs).set (j + 1) y) = Value.int .i64 g.k :: .int .i64 g.a :: .int .i64 g.b :: gcells (gs.set j y) := fun y => rfl
   have he : gg (g :: gs) (j + 1) = gg gs j := rfl
   rw [hc, hd, he, ← this, show (j + 1) * 3 + 1 = j * 3 + 1 + 1 + 1 + 1 from by omega]
   rfl
theorem gcells_setK (x : Int) : ∀ (xs : List G3) (k : Nat), k < xs.length → (gcells xs).set (k * 3) (.int .i64 x) = gcells (xs.set k ⟨x, (gg xs k).a, (gg xs k).b⟩) := by
 intro xs
 induction xs with
 | nil => intro k hk; simp at hk
 | cons g gs ih =>
  intro j hj
  cases j with
  | zero => rfl
  | succ j =>
   have := ih j (by simpa using hj)
   have hc : gcells (g :: gs) = Value.int .i64 g.k :: .int .i64 g.a :: .int .i64 g.b :: gcells gs := rfl
   have hd : ∀ y, gcells ((g :: gs).set (j + 1) y) = Value.int .i64 g.k :: .int .i64 g.a :: .int .i64 g.b :: gcells (gs.set j y) := fun y => rfl
   have he : gg (g :: gs) (j + 1) = gg gs j := rfl
   rw [hc, hd, he, ← this, show (j + 1) * 3 = j * 3 + 1 + 1 + 1 from by omega]
   rfl
theorem OwnG.storeA {w : World} {lo hi g n c : Nat} {xs : List G3} (h : OwnG w lo hi (.slice (some ⟨g, 0, none⟩) n c) n xs) {k : Nat} (hk : k < n) (x : Int) : OwnG (w.setCell ⟨g, k * 3 + 1, none⟩ (.int .i64 x)) lo hi (.slice (some ⟨g, 0, none⟩) n c) n (xs.set k ⟨(gg xs k).k, x, (gg xs k).b⟩) := by
 have hl := h.len
 obtain ⟨h1, _⟩ := h.1.stored (k * 3 + 1) (.int .i64 x)
 rw [gcells_setA x xs k (by omega)] at h1
 exact ⟨h1, h.2⟩
theorem OwnG.storeK {w : World} {lo hi g n c : Nat} {xs : List G3} (h : OwnG w lo hi (.slice (some ⟨g, 0, none⟩) n c) n xs) {k : Nat} (hk : k < n) (x : Int) : OwnG (w.setCell ⟨g, k * 3, none⟩ (.int .i64 x)) lo hi (.slice (some ⟨g, 0, none⟩) n c) n (xs.set k ⟨x, (gg xs k).a, (gg xs k).b⟩) := by
 have hl := h.len
 obtain ⟨h1, _⟩ := h.1.stored (k * 3) (.int .i64 x)
 rw [gcells_setK x xs k (by omega)] at h1
 exact ⟨h1, h.2⟩
theorem PX.storeG {w : World} {lo b g k : Nat} {C : Ci} {ca : Nat} {O : Option Addr} {co : Nat} (h : PX w lo b C (some ⟨g, 0, none⟩) ca O co) (q : Nat) (x : Int) (y : G3) (hs : OwnG (w.setCell ⟨g, q, none⟩ (.int .i64 x)) lo w.heap.size (.slice (some ⟨g, 0, none⟩) C.gs.length ca) C.gs.length (C.gs.set k y)) :
 PX (w.setCell ⟨g, q, none⟩ (.int .i64 x)) lo b { C with gs := C.gs.set k y } (some ⟨g, 0, none⟩) ca O co := by
 have ka : Alt (fun i => i = g) w (w.setCell ⟨g, q, none⟩ (.int .i64 x)) := (Alt.refl_ (fun i => i = g) w).set_ ⟨g, q, none⟩ _ (fun _ => rfl)
 have hgb : ¬ b = g := fun e => h.ox.2.1 (by rw [e]; rfl)
 have hgO : ∀ i, (Value.slice O C.os.length co).ownBlock = some i → ¬ i = g := fun i hi e => h.ox.1.2.2 g rfl (e ▸ hi)
 have hl : (C.gs.set k y).length = C.gs.length := List.length_set
 refine ⟨?_, h.fz.alt ka h.lt hgb, ?_⟩
 ·have := h.bx.alt ka hgb
  show BxC _ b C.i0 C.i1 (some ⟨g, 0, none⟩) (C.gs.set k y).length ca O C.os.length co
  rw [hl]; exact this
 ·show OwnX _ lo b (some ⟨g, 0, none⟩) (C.gs.set k y).length ca O C.os.length co (C.gs.set k y) C.os
  rw [hl]
  exact ⟨⟨by simpa using hs, (h.ox.1.2.1.alt ka hgO).now, h.ox.1.2.2⟩, h.ox.2⟩
theorem among_own {w : World} {lo hi n c b T : Nat} {A : Option Addr} {xs : List Int} {R : Nat → Prop} (h : Cur w b R T) (hT : T < 900000000) (ho : Own w lo hi (.slice A n c) n xs) (hb : b < lo) (hn : 0 < n) (hn2 : n ≤ 2147483648) :
 Calls Tryz.prog 76 #[.pointer (some ⟨b, 0, none⟩), .slice A n c] w (RetAmong w b R (T + 2) xs) :=
 among_any A n c xs b R T w h hT ho.reads hn hn2 fun q o hA e => by
  obtain ⟨A', c', hv, _⟩ := ho.form
  subst hA
  obtain ⟨b', o', h1, h2, h3⟩ := ho.reads.2 hn
  obtain ⟨g, cap, hv2, h4, h5⟩ := ho.1.form hn
  simp only [Value.slice.injEq, Option.some.injEq, Addr.mk.injEq, true_and] at hv2
  omega
def Qi (v : Value) : Prop := ∃ x : Int, v = .int .i64 x
theorem Qi.one : ∃ v, Qi v := ⟨.int .i64 0, 0, rfl⟩
def Qn (n : Int) (v : Value) : Prop := ∃ x : Nat, ((x : Int) < n ∨ x = 0) ∧ v = .int .i64 x
theorem Qn.one (n : Int) : ∃ v, Qn n v := ⟨.int .i64 (0 : Nat), 0, .inr rfl, rfl⟩
abbrev Res.curI (W : World) (b : Nat) (R : Nat → Prop) (T : Nat) : Res := Res.curQ W b R T Qi Qi.one
abbrev Res.curN (W : World) (b : Nat) (R : Nat → Prop) (T : Nat) (n : Int) : Res := Res.curQ W b R T (Qn n) (Qn.one n)
theorem postRow.new3 (w : World) (x y z : Int) : postRow w 3 [x, y, z] (.slice (some ⟨w.heap.size, 0, none⟩) 3 3) (w.alloc (.cells #[.int .i64 x, .int .i64 y, .int .i64 z] 3)) := by simpa using postRow.new w [x, y, z] 3 rfl (by omega)
theorem own_made {w : World} {lo : Nat} {v : Value} {os : List Int} {k : Nat} (hl : os.length = k) (ho : os = List.replicate k 0) (h : w.ownsRow lo 3 1 v os.length (madeCells (Value.int .i64 0).cells (os.length * 1)).toList) : Own w lo w.heap.size v os.length os := by
 refine Own.mk_ ?_
 have e : (madeCells (Value.int .i64 0).cells (os.length * 1)).toList = os.map (Value.int .i64) := by rw [hl, ho]; simp [Value.cells, toList_madeCells_one]
 rw [← e]; exact h
set_option maxRecDepth 100000 in
set_option maxHeartbeats 2000000 in
theorem Zci (b : Nat) (R : Nat → Prop) (T : Nat) (w : World) (h : Cur w b R T) (hT : T < 700000000) (hR : ∀ i, R i → i < w.heap.size) (hRb : ¬ R b) :
 Calls Tryz.prog 39 #[.pointer (some ⟨b, 0, none⟩)] w (RetDa b R (T + 2000) w) := by
 obtain ⟨i0, hi, hz0, hz1, hz2⟩ := info_parts info_int
 have hA1 : Below w.heap.size w (w.alloc (.cells #[.int .i64 0, .int .i64 0, .slice none 0 0, .slice none 0 0] 27)) := bA
 have hr0 : BxC (w.alloc (.cells #[.int .i64 0, .int .i64 0, .slice none 0 0, .slice none 0 0] 27)) w.heap.size 0 0 none 0 0 none 0 0 := BxC.new w _
 have hb := h.lt
 have hc0 := h.alt (Alt.of_new (S := fun _ => False) hA1) (fun h => h) (fun _ _ h => h)
 have hs0 : (w.alloc (.cells #[.int .i64 0, .int .i64 0, .slice none 0 0, .slice none 0 0] 27)).heap.size = w.heap.size + 1 := by simp
 have hfz : ∀ q, (w.alloc (.cells #[.int .i64 0, .int .i64 0, .slice none 0 0, .slice none 0 0] 27)).frozen? ⟨w.heap.size, q, none⟩ = false := Fz.new w _ _
 go_enter Tryz.func39, Tryz.ntmps39
 go_wp2_with fail
 refine (circuit_any b R T _ hc0 (by omega) (fun i hi => by have := hR i hi; omega) hRb).mono ?_
 rintro e a1 ⟨⟨i0', i1', gs, os⟩, A, ca, O, co, rfl, ho1, hx, hy, hng, hno, c1, k1⟩
 dsimp only at ho1 hx hy hng hno ⊢
 have hz1' := k1.size
 rw [hs0] at ho1
 have kb := k1.alloc_ (.cells #[.int .i64 i0', .int .i64 i1', .slice A gs.length ca, .slice O os.length co] 27)
 have hp0 := PX.boxed (C := ⟨i0', i1', gs, os⟩) ho1 27
 dsimp only at hp0
 have cb := c1.alt (Alt.of_new (S := fun _ => False) ((Below.refl _ _).alloc lR (.cells #[.int .i64 i0', .int .i64 i1', .slice A gs.length ca, .slice O os.length co] 27))) (fun h => h) (fun _ _ h => h)
 obtain ⟨K, hK⟩ : ∃ K, a1.heap.size = K := ⟨_, rfl⟩
 have hKs : (a1.alloc (.cells #[.int .i64 i0', .int .i64 i1', .slice A gs.length ca, .slice O os.length co] 27)).heap.size = K + 1 := by simp [hK]
 clear ho1 c1 k1
 go_wp2_with fail
 rw [hK] at hp0
 have hKw : w.heap.size + 1 ≤ K := by omega
 clear hz1'
 generalize a1.alloc (.cells #[.int .i64 i0', .int .i64 i1', .slice A gs.length ca, .slice O os.length co] 27) = a2 at *
 clear hK
 have hKb : ¬ K = b := by omega
 have hgb : ∀ g, w.heap.size + 1 ≤ g → ¬ g = b := fun g hg => by omega
 have hq := hp0.bx; obtain ⟨m0, m1, m2, m3⟩ := hq
 dsimp only at m0 m1 m2 m3
 refine (Zaj 30 b R _ _ cb (by omega) (by omega)).mono ?_
 rintro e a3 ⟨v, hv, hv2, rfl, u, ku, zu⟩
 clear m0 m1 m2 m3
 have hp := hp0.alt ku hKb hgb
 have hk := kb.trans_ ku (fun _ _ h => h)
 have hs3 : K + 1 ≤ a3.heap.size := by omega
 clear hp0 kb ku cb zu hKs
 have hq := hp.bx; obtain ⟨m0, m1, m2, m3⟩ := hq
 have f0 := hp.fz 0; have f1 := hp.fz 1; have f2 := hp.fz 2; have f3 := hp.fz 3
 dsimp only at m0 m1 m2 m3
 by_cases hv0 : v = 0
 ·subst hv0
  have al : Below a3.heap.size a3 (a3.alloc (.cells #[.int .i64 (-1), .int .i64 20, .int .i64 21] 3)) := bA
  have ua := u.alt (Alt.of_new (S := fun _ => False) al) (fun h => h) (fun _ _ h => h)
  have hra := RI_new3 a3 (-1) 20 21 3
  go_wp2_with fail
  refine (among_any _ 3 3 [-1, 20, 21] b R _ _ ua (by omega) hra (by omega) (by omega) (fun q o hA => by simp only [Option.some.injEq, Addr.mk.injEq, and_true] at hA; omega)).mono ?_
  rintro e a4 ⟨x, hxm, rfl, u4, k4, z4⟩
  have hxb : -1 ≤ x ∧ x ≤ 21 := by simp only [List.mem_cons, List.not_mem_nil, or_false] at hxm; omega
  simp only [World.size_alloc] at z4
  have hp4 := (hp.below al lR).alt k4 hKb hgb
  have hk4 := (hk.new_ al).trans_ k4 (fun _ _ h => h)
  clear hp hk u ua k4 hra al m0 m1 m2 m3 f0 f1 f2 f3
  have hp5 := hp4.set0 x
  have hk5 := hk4.set_ ⟨K, 0, none⟩ (.int .i64 x) (fun h => absurd h (by show ¬ K < _; omega))
  have u5 := u4.alt ((Alt.refl_ (fun i => i = K) a4).set_ ⟨K, 0, none⟩ (.int .i64 x) (fun _ => rfl)) (fun e => hKb e.symm) (fun i hi h => by have := hR i hi; omega)
  have hq := hp4.bx; obtain ⟨m0, m1, m2, m3⟩ := hq
  have f0 := hp4.fz 0
  dsimp only at m0 m1 m2 m3
  have hs5 : K + 1 ≤ (a4.setCell ⟨K, 0, none⟩ (.int .i64 x)).heap.size := by simp; omega
  have hr9 := hr0.alt hk5 (by omega)
  have hF : Fz _ w.heap.size := Fz.alt hfz hk5 (by omega) (by omega)
  have e0 := hF 0; have e1 := hF 1; have e2 := hF 2; have e3 := hF 3
  have hq := hr9; obtain ⟨r0, r1, r2, r3⟩ := hq
  have hq := PX.bx hp5; obtain ⟨m0, m1, m2, m3⟩ := hq
  dsimp only at m0 m1 m2 m3
  go_wp2
  have hq9 := BxC.set4 (hr9) x i1' A gs.length ca O os.length co
  obtain ⟨q0, q1, q2, q3⟩ := hq9
  refine bodyPost_ret (v := .agg #[.int .i64 x, .int .i64 i1', .slice A gs.length ca, .slice O os.length co]) (by simp [results, Tryz.results39, go_sem, q0, q1, q2, q3]) rfl ?_
  exact RetDa.of_ hp5 (by omega) hk5 hA1 hs0 u5 (by omega) hR hb hxb (by first | (simp; omega) | (simp; done)) (by first | (simp; omega) | (simp; done)) (by first | (simp; omega) | (simp; done))
 ·have g0 : ((v : Int) == 0) = false := by simp; omega
  by_cases hv1 : v = 1
  ·subst hv1
   have al : Below a3.heap.size a3 (a3.alloc (.cells #[.int .i64 (-1), .int .i64 20, .int .i64 21] 3)) := bA
   have ua := u.alt (Alt.of_new (S := fun _ => False) al) (fun h => h) (fun _ _ h => h)
   have hra := RI_new3 a3 (-1) 20 21 3
   go_wp2_with fail
   refine (among_any _ 3 3 [-1, 20, 21] b R _ _ ua (by omega) hra (by omega) (by omega) (fun q o hA => by simp only [Option.some.injEq, Addr.mk.injEq, and_true] at hA; omega)).mono ?_
   rintro e a4 ⟨x, hxm, rfl, u4, k4, z4⟩
   have hxb : -1 ≤ x ∧ x ≤ 21 := by simp only [List.mem_cons, List.not_mem_nil, or_false] at hxm; omega
   simp only [World.size_alloc] at z4
   have hp4 := (hp.below al lR).alt k4 hKb hgb
   have hk4 := (hk.new_ al).trans_ k4 (fun _ _ h => h)
   clear hp hk u ua k4 hra al m0 m1 m2 m3 f0 f1 f2 f3
   have hp5 := hp4.set1 x
   have hk5 := hk4.set_ ⟨K, 1, none⟩ (.int .i64 x) (fun h => absurd h (by show ¬ K < _; omega))
   have u5 := u4.alt ((Alt.refl_ (fun i => i = K) a4).set_ ⟨K, 1, none⟩ (.int .i64 x) (fun _ => rfl)) (fun e => hKb e.symm) (fun i hi h => by have := hR i hi; omega)
   have hq := hp4.bx; obtain ⟨m0, m1, m2, m3⟩ := hq
   have f1 := hp4.fz 1
   dsimp only at m0 m1 m2 m3
   have hs5 : K + 1 ≤ (a4.setCell ⟨K, 1, none⟩ (.int .i64 x)).heap.size := by simp; omega
   have hr9 := hr0.alt hk5 (by omega)
   have hF : Fz _ w.heap.size := Fz.alt hfz hk5 (by omega) (by omega)
   have e0 := hF 0; have e1 := hF 1; have e2 := hF 2; have e3 := hF 3
   have hq := hr9; obtain ⟨r0, r1, r2, r3⟩ := hq
   have hq := PX.bx hp5; obtain ⟨m0, m1, m2, m3⟩ := hq
   dsimp only at m0 m1 m2 m3
   go_wp2
   have hq9 := BxC.set4 (hr9) i0' x A gs.length ca O os.length co
   obtain ⟨q0, q1, q2, q3⟩ := hq9
   refine bodyPost_ret (v := .agg #[.int .i64 i0', .int .i64 x, .slice A gs.length ca, .slice O os.length co]) (by simp [results, Tryz.results39, go_sem, q0, q1, q2, q3]) rfl ?_
   exact RetDa.of_ hp5 (by omega) hk5 hA1 hs0 u5 (by omega) hR hb (by first | (simp; omega) | (simp; done)) hxb (by first | (simp; omega) | (simp; done)) (by first | (simp; omega) | (simp; done))
  ·have g1 : ((v : Int) == 1) = false := by simp; omega
   by_cases hv2 : v = 2
   ·subst hv2
    obtain ⟨N, hN⟩ : ∃ N : Nat, Hid (i0' + i1' + (gs.length : Int) = (N : Int)) := ⟨(i0' + i1' + (gs.length : Int)).toNat, zH (by omega)⟩
    have hNb : N ≤ 20 := by have := hN.out; omega
    have hO : ∀ g, (Value.slice O os.length co).ownBlock = some g → w.heap.size + 1 ≤ g ∧ g < a3.heap.size ∧ g ≠ K := fun g hg => ⟨(hp.ox.1.2.1.lt g hg).1, (hp.ox.1.2.1.lt g hg).2.2, fun h => hp.ox.2.2 (h ▸ hg)⟩
    have hlo5 : w.heap.size + 1 ≤ a3.heap.size := by omega
    go_wp2_with fail
    go_wp2_with fail
    refine Zau (9) ((fun i => (i = b ∨ R i) ∨ (Value.slice O os.length co).ownBlock = some i)) [(⟨K, 0, none⟩, .int .i64 i0'), (⟨K, 1, none⟩, .int .i64 i1'), (⟨K, 2, none⟩, .slice A gs.length ca), (⟨K, 3, none⟩, .slice O os.length co)] [(4, [], []), (5, [], []), (6, [101, 5], [101]), (7, [], []), (8, [100, 7], [100])] [100, 101] [6, 8] [(100, Res.rowE (w.heap.size + 1) os.length), (101, Res.curI a3 b R (T + 1000 + 2)), (4, Res.plain (.int .i64 N)), (5, Res.row (w.heap.size + 1) 2 [-1, (N : Int)]), (6, Res.curI a3 b R ((T + 1000 + 2) + 2)), (7, Res.rowE (w.heap.size + 1) 1), (8, Res.rowE (w.heap.size + 1) (os.length + 1))] ((upd (upd (fun _ => undef) 100 (.slice O os.length co)) 101 (.int .i64 0))) (by kernel_rfl) (by kernel_rfl) (by kernel_rfl) (by simp only [cD, cC, and_true]; repeat (any_goals (apply And.intro)); all_goals (first | assumption | go_simp)) (fun q9 hq9 => by simp only [List.mem_cons, List.not_mem_nil, or_false] at hq9; rcases hq9 with rfl | rfl | rfl | rfl <;> rintro ((h | h) | h) <;> first | exact hKb h | (have h' : K < w.heap.size := hR _ h; omega) | exact (hO _ h).2.2 rfl) (⟨⟨⟨os, hp.ox.1.2.1⟩, fun i hi => ⟨.inr (.inr hi), (hO i hi).2.1⟩⟩, ⟨⟨u.alt ((Alt.refl_ (fun _ => False) a3).drewN_ 1) (fun h => h) (fun _ _ h => h), fun i hi => ⟨by have := hR i hi; show i < a3.heap.size; omega, rfl⟩⟩, fun i hi => ⟨.inr (.inl hi), hi.elim (fun h => h ▸ u.lt) (fun h => by have := hR i h; show i < a3.heap.size; omega)⟩⟩, trivial⟩) ((fun d hd d' hd' hn c hc hc' => by simp only [List.mem_cons, List.not_mem_nil, or_false] at hd hd'; rcases hd with rfl | rfl <;> rcases hd' with rfl | rfl <;> first | exact hn rfl | (have h1 := hO c hc; rcases hc' with h2 | h2; (have h3 : c = b := h2; omega); (have h3 := hR c h2; omega)) | (have h1 := hO c hc'; rcases hc with h2 | h2; (have h3 : c = b := h2; omega); (have h3 := hR c h2; omega)))) ?_
    simp only [List.take_succ_cons, List.take_zero, List.drop_succ_cons, List.drop_zero, List.take_nil, List.drop_nil, List.take, List.drop]
    repeat (first
     | ((first
      | ((with_reducible refine Zad ?_ ?_ ?_)
         ·exact rfl
         ·exact rfl)
      | ((with_reducible refine Zag ?_ ?_ ?_)
         ·exact rfl
         ·exact Zaa rfl rfl rfl rfl))
        intro K hK
        apply Exists.intro
        refine ⟨fun w3 hw3 => ?_, ?_⟩
        ·have hcs := hw3
         simp only [cD, cC, and_true] at hcs
         clear hw3
         go_simp
         first | done | exact ⟨rfl, rfl⟩ | rfl
        refine hK _ ?_
        clear hK K
        try simp only [pA, pB, sA, sB, sC])
     | ((with_reducible refine Zaf ?_ ?_ ?_)
        ·exact rfl
        ·exact Zab rfl rfl rfl rfl
        simp only [pA, pB, sA, sB, sC]))
    focus
     (with_reducible refine Zbc (.int .i64 (N : Int)) ?_ ?_ ?_ ?_ (hw := ?_))
     ·exact rfl
     ·exact rfl
     ·intro w3 hw3 hc3 hp3
      have hcs := hc3
      simp only [cD, cC, and_true] at hcs
      (go_simp; refine (Zba i0' i1' A gs.length ca O os.length co _ (by omega) (by omega) (by omega)).mono ?_; rintro e w4 ⟨rfl, hb4⟩; rw [hN.out]; exact retPost.mk_ (postPlain.mk_ hb4))
     rotate_left
     ·first | exact Zac rfl | exact Zaa rfl rfl rfl rfl
     try simp only [pA, pB, sA, sB, sC]
    focus
     (with_reducible refine Zbt (w.heap.size + 1) 2 [-1, (N : Int)] ?_ ?_ ?_ ?_ ?_ (hw := ?_))
     ·exact rfl
     ·exact rfl
     ·omega
     ·intro w3 hw3 hc3 hp3
      have hcs := hc3
      simp only [cD, cC, and_true] at hcs
      (go_simp; exact postRow.new2 _ _ _)
     rotate_left
     ·first | exact Zac rfl | exact Zaa rfl rfl rfl rfl
     intro A3 c3
     try simp only [pA, pB, sA, sB, sC]
    refine mem_cur 101 b R (T + 1000 + 2) ((T + 1000 + 2) + 2) Qi Qi Qi.one Qi.one a3 (.int .i64 0) hRb (by rfl) (by rfl) (by rfl) (by rfl) (by decide) (by rfl) (fun w3 hw3 hc3 hp3 hu3 => ?_) (fun v9 hv9 => ?_)
    ·have h5 : Own w3 (w.heap.size + 1) w3.heap.size (.slice A3 2 c3) 2 [-1, (N : Int)] := (Zbo (d := 5) (by decide) hp3 (by rfl) (by rfl)).1
     go_simp
     refine (among_own hu3 (by omega) h5 (by omega) (by omega) (by omega)).mono ?_
     rintro e w4 ⟨x, hx, rfl, c4, k4, z4⟩
     exact retPost.mk_ ⟨⟨x, rfl⟩, c4, k4⟩
    obtain ⟨x9, rfl⟩ := hv9
    try simp only [pA, pB, sA, sB, sC]
    refine mem_rowE (w.heap.size + 1) 1 (by rfl) (by rfl) hlo5 (fun w3 hw3 hc3 hp3 => ?_) (fun A4 c4 => ?_)
    ·go_simp
     exact ⟨_, postRow.new1 _ _⟩
    try simp only [pA, pB, sA, sB, sC]
    refine mem_appE 100 7 (w.heap.size + 1) os.length 1 O co A4 c4 (.tmp 28) (.tmp 34) (by rfl) (by rfl) hlo5 (by rfl) (by rfl) (by decide) (by rfl) (by rfl) (by decide) (by rfl) (by rfl) (by rfl) (by rfl) (by omega) (fun G' cG' => ?_)
    try simp only [pA, pB, sA, sB, sC]
    refine Zat ?_
    intro wy hwy hcy hfin hap
    obtain ⟨xs, hO4⟩ : ∃ xs, Own wy (w.heap.size + 1) wy.heap.size (.slice G' (os.length + 1) cG') (os.length + 1) xs := hfin.2.1.1
    have hC4 : Cur wy b R ((T + 1000 + 2) + 2) ∧ ∀ i, R i → i < wy.heap.size ∧ wy.heap[i]? = a3.heap[i]? := hfin.1.1
    have hok : ∀ g, (Value.slice G' (os.length + 1) cG').ownBlock = some g → okB a3 (fun i => (i = b ∨ R i) ∨ (Value.slice O os.length co).ownBlock = some i) g := fun g hg => (hfin.2.1.2 g hg).1
    have k4 := alt_back hk hwy (fun i hi => by have := hO i hi; omega) (fun i hi => (hC4.2 i hi).2)
    have hxl : xs.length = os.length + 1 := hO4.len
    have hSbm : ¬ okB a3 (fun i => (i = b ∨ R i) ∨ (Value.slice O os.length co).ownBlock = some i) K := fun hc => by
     rcases hc with h1 | (h1 | h1) | h1
     ·omega
     ·omega
     ·have := hR _ h1; omega
     ·exact (hO _ h1).2.2 rfl
    have p4 := hp.outE hwy hSbm (fun g hg hc => by
     have h9 := hp.ox.1.1.lt g hg
     rcases hc with h1 | (h1 | h1) | h1
     ·omega
     ·omega
     ·have := hR _ h1; omega
     ·exact hp.ox.1.2.2 g hg h1) hO4 hok
    have k5 := k4.set_ ⟨K, 3, none⟩ (.slice G' (os.length + 1) cG') (fun h => absurd h (by show ¬ K < _; omega))
    have c5 := hC4.1.alt ((Alt.refl_ (fun i => i = K) wy).set_ ⟨K, 3, none⟩ (.slice G' (os.length + 1) cG') (fun _ => rfl)) (fun e => hKb e.symm) (fun i hi h => by have := hR i hi; omega)
    have hq := hp.bx.alt hwy hSbm; obtain ⟨m0, m1, m2, m3⟩ := hq
    have f3 := (hp.fz.alt hwy hp.lt hSbm) 3
    have hs5 : K + 1 ≤ (wy.setCell ⟨K, 3, none⟩ (.slice G' (os.length + 1) cG')).heap.size := by have := hwy.size; simp; omega
    dsimp only at m0 m1 m2 m3
    clear hfin hap hcy hwy hok f0 f1 f2 hp u hk k4
    have hxb : xs.length ≤ 50 := by omega
    rw [← hxl] at p4 k5 c5 hs5 ⊢
    clear hxl hO4
    have hr9 := hr0.alt k5 (by omega)
    have hF : Fz _ w.heap.size := Fz.alt hfz k5 (by omega) (by omega)
    have e0 := hF 0; have e1 := hF 1; have e2 := hF 2; have e3 := hF 3
    have hq := hr9; obtain ⟨r0, r1, r2, r3⟩ := hq
    have hq := PX.bx p4; obtain ⟨m0, m1, m2, m3⟩ := hq
    dsimp only at m0 m1 m2 m3
    go_wp2
    have hq9 := BxC.set4 (hr9) i0' i1' A gs.length ca G' xs.length cG'
    obtain ⟨q0, q1, q2, q3⟩ := hq9
    refine bodyPost_ret (v := .agg #[.int .i64 i0', .int .i64 i1', .slice A gs.length ca, .slice G' xs.length cG']) (by simp [results, Tryz.results39, go_sem, q0, q1, q2, q3]) rfl ?_
    exact RetDa.of_ p4 (by omega) k5 hA1 hs0 c5 (by omega) hR hb (by first | (simp; omega) | (simp; done)) (by first | (simp; omega) | (simp; done)) (by first | (simp; omega) | (simp; done)) (by first | (simp; omega) | (simp; done))
   ·have g2 : ((v : Int) == 2) = false := by simp; omega
    by_cases hv3 : v = 3
    ·subst hv3
     obtain ⟨N, hN⟩ : ∃ N : Nat, Hid (i0' + i1' + (gs.length : Int) = (N : Int)) := ⟨(i0' + i1' + (gs.length : Int)).toNat, zH (by omega)⟩
     have hNb : N ≤ 20 := by have := hN.out; omega
     by_cases hn0 : gs.length = 0
     ·obtain rfl : gs = [] := List.length_eq_zero_iff.1 hn0
      have hr9 := hr0.alt hk (by omega)
      have hF : Fz _ w.heap.size := Fz.alt hfz hk (by omega) (by omega)
      have e0 := hF 0; have e1 := hF 1; have e2 := hF 2; have e3 := hF 3
      have hq := hr9; obtain ⟨r0, r1, r2, r3⟩ := hq
      have hq := PX.bx hp; obtain ⟨m0, m1, m2, m3⟩ := hq
      dsimp only at m0 m1 m2 m3
      go_wp2
      have hq9 := BxC.set4 (hr9) i0' i1' A 0 ca O os.length co
      obtain ⟨q0, q1, q2, q3⟩ := hq9
      refine bodyPost_ret (v := .agg #[.int .i64 i0', .int .i64 i1', .slice A 0 ca, .slice O os.length co]) (by simp [results, Tryz.results39, go_sem, q0, q1, q2, q3]) rfl ?_
      exact RetDa.of_ hp (by omega) hk hA1 hs0 u (by omega) hR hb (by first | (simp; omega) | (simp; done)) (by first | (simp; omega) | (simp; done)) (by first | (simp; omega) | (simp; done)) (by first | (simp; omega) | (simp; done))
     ·obtain ⟨g, rfl⟩ : ∃ g, A = some ⟨g, 0, none⟩ := by
       obtain ⟨g, cap, hv9, _⟩ := hp.ox.1.1.1.form (Nat.pos_of_ne_zero hn0)
       simp only [Value.slice.injEq] at hv9
       exact ⟨g, hv9.1⟩
      have hgl := hp.ox.1.1.lt g rfl
      have hgK : g ≠ K := fun e => hp.ox.2.1 (by rw [e]; rfl)
      have hlo5 : w.heap.size + 1 ≤ a3.heap.size := by omega
      have hgn : (0 : Int) < gs.length := by omega
      go_wp2_with fail
      go_wp2_with fail
      refine Zau (10) ((fun i => i = b ∨ R i)) [(⟨K, 0, none⟩, .int .i64 i0'), (⟨K, 1, none⟩, .int .i64 i1'), (⟨K, 2, none⟩, .slice (some ⟨g, 0, none⟩) gs.length ca), (⟨K, 3, none⟩, .slice O os.length co)] [(4, [101], [101]), (7, [], []), (8, [], []), (9, [4, 8], [4])] [101] [9] [(101, Res.curI a3 b R (T + 1000 + 2)), (4, Res.curN a3 b R ((T + 1000 + 2) + 2) (gs.length : Int)), (7, Res.plain (.int .i64 N)), (8, Res.row (w.heap.size + 1) 3 [-1, (N : Int), 1]), (9, Res.curI a3 b R ((T + 1000 + 2) + 4))] ((upd (fun _ => undef) 101 (.int .i64 0))) (by kernel_rfl) (by kernel_rfl) (by kernel_rfl) (by simp only [cD, cC, and_true]; repeat (any_goals (apply And.intro)); all_goals (first | assumption | go_simp)) (fun q9 hq9 => by simp only [List.mem_cons, List.not_mem_nil, or_false] at hq9; rcases hq9 with rfl | rfl | rfl | rfl <;> rintro (h | h) <;> first | exact hKb h | (have h' : K < w.heap.size := hR _ h; omega)) (⟨⟨⟨u.alt ((Alt.refl_ (fun _ => False) a3).drewN_ 1) (fun h => h) (fun _ _ h => h), fun i hi => ⟨by have := hR i hi; show i < a3.heap.size; omega, rfl⟩⟩, fun i hi => ⟨.inr hi, hi.elim (fun h => h ▸ u.lt) (fun h => by have := hR i h; show i < a3.heap.size; omega)⟩⟩, trivial⟩) (Zca) ?_
      simp only [List.take_succ_cons, List.take_zero, List.drop_succ_cons, List.drop_zero, List.take_nil, List.drop_nil, List.take, List.drop]
      repeat (first
       | ((first
        | ((with_reducible refine Zad ?_ ?_ ?_)
           ·exact rfl
           ·exact rfl)
        | ((with_reducible refine Zag ?_ ?_ ?_)
           ·exact rfl
           ·exact Zaa rfl rfl rfl rfl))
          intro K hK
          apply Exists.intro
          refine ⟨fun w3 hw3 => ?_, ?_⟩
          ·have hcs := hw3
           simp only [cD, cC, and_true] at hcs
           clear hw3
           go_simp
           first | done | exact ⟨rfl, rfl⟩ | rfl
          refine hK _ ?_
          clear hK K
          try simp only [pA, pB, sA, sB, sC])
       | ((with_reducible refine Zaf ?_ ?_ ?_)
          ·exact rfl
          ·exact Zab rfl rfl rfl rfl
          simp only [pA, pB, sA, sB, sC]))
      refine mem_cur 101 b R (T + 1000 + 2) ((T + 1000 + 2) + 2) Qi (Qn (gs.length : Int)) Qi.one (Qn.one _) a3 (.int .i64 0) hRb (by rfl) (by rfl) (by rfl) (by rfl) (by decide) (by rfl) (fun w3 hw3 hc3 hp3 hu3 => ?_) (fun v9 hv9 => ?_)
      ·go_simp
       refine (Zaj _ b R _ _ hu3 (by omega) (by omega)).mono ?_
       rintro e w4 ⟨x, hx, hx2, rfl, c4, k4, z4⟩
       exact retPost.mk_ ⟨⟨x, hx, rfl⟩, c4, k4⟩
      obtain ⟨j, hj, rfl⟩ := hv9
      have hjn : j < gs.length := by omega
      try simp only [pA, pB, sA, sB, sC]
      repeat (first
       | ((first
        | ((with_reducible refine Zad ?_ ?_ ?_)
           ·exact rfl
           ·exact rfl)
        | ((with_reducible refine Zag ?_ ?_ ?_)
           ·exact rfl
           ·exact Zaa rfl rfl rfl rfl))
          intro K hK
          apply Exists.intro
          refine ⟨fun w3 hw3 => ?_, ?_⟩
          ·have hcs := hw3
           simp only [cD, cC, and_true] at hcs
           clear hw3
           go_simp
           first | done | exact ⟨rfl, rfl⟩ | rfl
          refine hK _ ?_
          clear hK K
          try simp only [pA, pB, sA, sB, sC])
       | ((with_reducible refine Zaf ?_ ?_ ?_)
          ·exact rfl
          ·exact Zab rfl rfl rfl rfl
          simp only [pA, pB, sA, sB, sC]))
      focus
       (with_reducible refine Zbc (.int .i64 (N : Int)) ?_ ?_ ?_ ?_ (hw := ?_))
       ·exact rfl
       ·exact rfl
       ·intro w3 hw3 hc3 hp3
        have hcs := hc3
        simp only [cD, cC, and_true] at hcs
        (go_simp; refine (Zba i0' i1' _ gs.length ca O os.length co _ (by omega) (by omega) (by omega)).mono ?_; rintro e w4 ⟨rfl, hb4⟩; rw [hN.out]; exact retPost.mk_ (postPlain.mk_ hb4))
       rotate_left
       ·first | exact Zac rfl | exact Zaa rfl rfl rfl rfl
       try simp only [pA, pB, sA, sB, sC]
      focus
       (with_reducible refine Zbt (w.heap.size + 1) 3 [-1, (N : Int), 1] ?_ ?_ ?_ ?_ ?_ (hw := ?_))
       ·exact rfl
       ·exact rfl
       ·omega
       ·intro w3 hw3 hc3 hp3
        have hcs := hc3
        simp only [cD, cC, and_true] at hcs
        (go_simp; exact postRow.new3 _ _ _ _)
       rotate_left
       ·first | exact Zac rfl | exact Zaa rfl rfl rfl rfl
       intro A3 c3
       try simp only [pA, pB, sA, sB, sC]
      refine mem_cur 4 b R ((T + 1000 + 2) + 2) ((T + 1000 + 2) + 4) (Qn (gs.length : Int)) Qi (Qn.one _) Qi.one a3 (.int .i64 j) hRb (by rfl) (by rfl) (by rfl) (by rfl) (by decide) (by rfl) (fun w3 hw3 hc3 hp3 hu3 => ?_) (fun v9 hv9 => ?_)
      ·have h5 : Own w3 (w.heap.size + 1) w3.heap.size (.slice A3 3 c3) 3 [-1, (N : Int), 1] := (Zbo (d := 8) (by decide) hp3 (by rfl) (by rfl)).1
       go_simp
       refine (among_own hu3 (by omega) h5 (by omega) (by omega) (by omega)).mono ?_
       rintro e w4 ⟨x, hx, rfl, c4, k4, z4⟩
       exact retPost.mk_ ⟨⟨x, rfl⟩, c4, k4⟩
      obtain ⟨x9, rfl⟩ := hv9
      try simp only [pA, pB, sA, sB, sC]
      repeat (first
       | ((first
        | ((with_reducible refine Zad ?_ ?_ ?_)
           ·exact rfl
           ·exact rfl)
        | ((with_reducible refine Zag ?_ ?_ ?_)
           ·exact rfl
           ·exact Zaa rfl rfl rfl rfl))
          intro K hK
          apply Exists.intro
          refine ⟨fun w3 hw3 => ?_, ?_⟩
          ·have hcs := hw3
           simp only [cD, cC, and_true] at hcs
           clear hw3
           go_simp
           first | done | exact ⟨rfl, rfl⟩ | rfl
          refine hK _ ?_
          clear hK K
          try simp only [pA, pB, sA, sB, sC])
       | ((with_reducible refine Zaf ?_ ?_ ?_)
          ·exact rfl
          ·exact Zab rfl rfl rfl rfl
          simp only [pA, pB, sA, sB, sC]))
      refine Zat ?_
      intro wy hwy hcy hfin hap
      have hC4 : Cur wy b R ((T + 1000 + 2) + 4) ∧ ∀ i, R i → i < wy.heap.size ∧ wy.heap[i]? = a3.heap[i]? := hfin.1.1
      have k4 := alt_back (own := fun _ => False) hk (hwy.mono_ (fun i _ hi => hi.elim .inl (fun h => .inr (.inl h)))) (fun i hi => hi.elim) (fun i hi => (hC4.2 i hi).2)
      have hSn : ∀ i, w.heap.size + 1 ≤ i → i < a3.heap.size → ¬ okB a3 (fun i => i = b ∨ R i) i := fun i h1 h2 hc => by
       rcases hc with h | h | h
       ·omega
       ·have h' : i = b := h; omega
       ·have := hR _ h; omega
      have hSK := hSn K (by omega) (by omega)
      have p4 : PX wy (w.heap.size + 1) K ⟨i0', i1', gs, os⟩ (some ⟨g, 0, none⟩) ca O co := ⟨hp.bx.alt hwy hSK, hp.fz.alt hwy hp.lt hSK, ⟨⟨(hp.ox.1.1.alt hwy (fun q hq => hSn q (hp.ox.1.1.lt q hq).1 (hp.ox.1.1.lt q hq).2.2)).now, (hp.ox.1.2.1.alt hwy (fun q hq => hSn q (hp.ox.1.2.1.lt q hq).1 (hp.ox.1.2.1.lt q hq).2.2)).now, hp.ox.1.2.2⟩, hp.ox.2⟩⟩
      have hs4 : a3.heap.size ≤ wy.heap.size := hwy.size
      have p5 := p4.storeG (j * 3 + 1) x9 _ (OwnG.storeA p4.ox.1.1 (k := j) hjn x9)
      have k5 := k4.set_ ⟨g, j * 3 + 1, none⟩ (.int .i64 x9) (fun h => absurd h (by show ¬ g < _; omega))
      have c5 := hC4.1.alt ((Alt.refl_ (fun i => i = g) wy).set_ ⟨g, j * 3 + 1, none⟩ (.int .i64 x9) (fun _ => rfl)) (by omega) (fun i hi h => by have := hR i hi; omega)
      have hfg := p4.ox.1.1.1.frozenAt (j * 3 + 1)
      have hcg : ∃ u9, wy.cell? ⟨g, j * 3 + 1, none⟩ = some u9 := by
       obtain ⟨b9, o9, h1, h2, h3⟩ := p4.ox.1.1.reads.2 (Nat.pos_of_ne_zero hn0)
       simp only [Option.some.injEq, Addr.mk.injEq, and_true] at h1
       obtain ⟨rfl, rfl⟩ := h1
       have h4 := (h3 j hjn)
       simp only [Nat.zero_add] at h4
       exact ⟨_, h4.2.1⟩
      obtain ⟨u9, hcg⟩ := hcg
      have hs5 : K + 1 ≤ (wy.setCell ⟨g, j * 3 + 1, none⟩ (.int .i64 x9)).heap.size := by simp; omega
      have hq := p4.bx; obtain ⟨m0, m1, m2, m3⟩ := hq
      dsimp only at m0 m1 m2 m3
      clear hfin hap hcy hwy f0 f1 f2 f3 hp u hk k4
      generalize hgs : gs.set j _ = gs' at p5
      have hgl' : gs'.length = gs.length := by rw [← hgs]; simp
      rw [← hgl']
      have hgb9 : gs'.length ≤ 310 := by omega
      have hjn9 : j < gs'.length := by omega
      clear hgl' hgs
      have hr9 := hr0.alt k5 (by omega)
      have hF : Fz _ w.heap.size := Fz.alt hfz k5 (by omega) (by omega)
      have e0 := hF 0; have e1 := hF 1; have e2 := hF 2; have e3 := hF 3
      have hq := hr9; obtain ⟨r0, r1, r2, r3⟩ := hq
      have hq := PX.bx p5; obtain ⟨m0, m1, m2, m3⟩ := hq
      dsimp only at m0 m1 m2 m3
      go_wp2
      have hq9 := BxC.set4 (hr9) i0' i1' (some ⟨g, 0, none⟩) gs'.length ca O os.length co
      obtain ⟨q0, q1, q2, q3⟩ := hq9
      refine bodyPost_ret (v := .agg #[.int .i64 i0', .int .i64 i1', .slice (some ⟨g, 0, none⟩) gs'.length ca, .slice O os.length co]) (by simp [results, Tryz.results39, go_sem, q0, q1, q2, q3]) rfl ?_
      exact RetDa.of_ p5 (by omega) k5 hA1 hs0 c5 (by omega) hR hb (by first | (simp; omega) | (simp; done)) (by first | (simp; omega) | (simp; done)) (by first | (simp; omega) | (simp; done)) (by first | (simp; omega) | (simp; done))
    ·have g3 : ((v : Int) == 3) = false := by simp; omega
     by_cases hv4 : v = 4
     ·subst hv4
      by_cases hn0 : gs.length = 0
      ·obtain rfl : gs = [] := List.length_eq_zero_iff.1 hn0
       have hr9 := hr0.alt hk (by omega)
       have hF : Fz _ w.heap.size := Fz.alt hfz hk (by omega) (by omega)
       have e0 := hF 0; have e1 := hF 1; have e2 := hF 2; have e3 := hF 3
       have hq := hr9; obtain ⟨r0, r1, r2, r3⟩ := hq
       have hq := PX.bx hp; obtain ⟨m0, m1, m2, m3⟩ := hq
       dsimp only at m0 m1 m2 m3
       go_wp2
       have hq9 := BxC.set4 (hr9) i0' i1' A 0 ca O os.length co
       obtain ⟨q0, q1, q2, q3⟩ := hq9
       refine bodyPost_ret (v := .agg #[.int .i64 i0', .int .i64 i1', .slice A 0 ca, .slice O os.length co]) (by simp [results, Tryz.results39, go_sem, q0, q1, q2, q3]) rfl ?_
       exact RetDa.of_ hp (by omega) hk hA1 hs0 u (by omega) hR hb (by first | (simp; omega) | (simp; done)) (by first | (simp; omega) | (simp; done)) (by first | (simp; omega) | (simp; done)) (by first | (simp; omega) | (simp; done))
      ·obtain ⟨g, rfl⟩ : ∃ g, A = some ⟨g, 0, none⟩ := by
        obtain ⟨g, cap, hv9, _⟩ := hp.ox.1.1.1.form (Nat.pos_of_ne_zero hn0)
        simp only [Value.slice.injEq] at hv9
        exact ⟨g, hv9.1⟩
       have hgl := hp.ox.1.1.lt g rfl
       have hgK : g ≠ K := fun e => hp.ox.2.1 (by rw [e]; rfl)
       have hlo5 : w.heap.size + 1 ≤ a3.heap.size := by omega
       have hgn : (0 : Int) < gs.length := by omega
       go_wp2_with fail
       go_wp2_with fail
       refine Zau (8) ((fun i => i = b ∨ R i)) [(⟨K, 0, none⟩, .int .i64 i0'), (⟨K, 1, none⟩, .int .i64 i1'), (⟨K, 2, none⟩, .slice (some ⟨g, 0, none⟩) gs.length ca), (⟨K, 3, none⟩, .slice O os.length co)] [(4, [101], [101]), (6, [4], [4])] [101] [6] [(101, Res.curI a3 b R (T + 1000 + 2)), (4, Res.curN a3 b R ((T + 1000 + 2) + 2) (gs.length : Int)), (6, Res.curN a3 b R ((T + 1000 + 2) + 4) 6)] ((upd (fun _ => undef) 101 (.int .i64 0))) (by kernel_rfl) (by kernel_rfl) (by kernel_rfl) (by simp only [cD, cC, and_true]; repeat (any_goals (apply And.intro)); all_goals (first | assumption | go_simp)) (fun q9 hq9 => by simp only [List.mem_cons, List.not_mem_nil, or_false] at hq9; rcases hq9 with rfl | rfl | rfl | rfl <;> rintro (h | h) <;> first | exact hKb h | (have h' : K < w.heap.size := hR _ h; omega)) (⟨⟨⟨u.alt ((Alt.refl_ (fun _ => False) a3).drewN_ 1) (fun h => h) (fun _ _ h => h), fun i hi => ⟨by have := hR i hi; show i < a3.heap.size; omega, rfl⟩⟩, fun i hi => ⟨.inr hi, hi.elim (fun h => h ▸ u.lt) (fun h => by have := hR i h; show i < a3.heap.size; omega)⟩⟩, trivial⟩) (Zca) ?_
       simp only [List.take_succ_cons, List.take_zero, List.drop_succ_cons, List.drop_zero, List.take_nil, List.drop_nil, List.take, List.drop]
       repeat (first
        | ((first
         | ((with_reducible refine Zad ?_ ?_ ?_)
            ·exact rfl
            ·exact rfl)
         | ((with_reducible refine Zag ?_ ?_ ?_)
            ·exact rfl
            ·exact Zaa rfl rfl rfl rfl))
           intro K hK
           apply Exists.intro
           refine ⟨fun w3 hw3 => ?_, ?_⟩
           ·have hcs := hw3
            simp only [cD, cC, and_true] at hcs
            clear hw3
            go_simp
            first | done | exact ⟨rfl, rfl⟩ | rfl
           refine hK _ ?_
           clear hK K
           try simp only [pA, pB, sA, sB, sC])
        | ((with_reducible refine Zaf ?_ ?_ ?_)
           ·exact rfl
           ·exact Zab rfl rfl rfl rfl
           simp only [pA, pB, sA, sB, sC]))
       refine mem_cur 101 b R (T + 1000 + 2) ((T + 1000 + 2) + 2) Qi (Qn (gs.length : Int)) Qi.one (Qn.one _) a3 (.int .i64 0) hRb (by rfl) (by rfl) (by rfl) (by rfl) (by decide) (by rfl) (fun w3 hw3 hc3 hp3 hu3 => ?_) (fun v9 hv9 => ?_)
       ·go_simp
        refine (Zaj _ b R _ _ hu3 (by omega) (by omega)).mono ?_
        rintro e w4 ⟨x, hx, hx2, rfl, c4, k4, z4⟩
        exact retPost.mk_ ⟨⟨x, hx, rfl⟩, c4, k4⟩
       obtain ⟨j, hj, rfl⟩ := hv9
       have hjn : j < gs.length := by omega
       try simp only [pA, pB, sA, sB, sC]
       repeat (first
        | ((first
         | ((with_reducible refine Zad ?_ ?_ ?_)
            ·exact rfl
            ·exact rfl)
         | ((with_reducible refine Zag ?_ ?_ ?_)
            ·exact rfl
            ·exact Zaa rfl rfl rfl rfl))
           intro K hK
           apply Exists.intro
           refine ⟨fun w3 hw3 => ?_, ?_⟩
           ·have hcs := hw3
            simp only [cD, cC, and_true] at hcs
            clear hw3
            go_simp
            first | done | exact ⟨rfl, rfl⟩ | rfl
           refine hK _ ?_
           clear hK K
           try simp only [pA, pB, sA, sB, sC])
        | ((with_reducible refine Zaf ?_ ?_ ?_)
           ·exact rfl
           ·exact Zab rfl rfl rfl rfl
           simp only [pA, pB, sA, sB, sC]))
       refine mem_cur 4 b R ((T + 1000 + 2) + 2) ((T + 1000 + 2) + 4) (Qn (gs.length : Int)) (Qn 6) (Qn.one _) (Qn.one _) a3 (.int .i64 j) hRb (by rfl) (by rfl) (by rfl) (by rfl) (by decide) (by rfl) (fun w3 hw3 hc3 hp3 hu3 => ?_) (fun v9 hv9 => ?_)
       ·go_simp
        refine (Zaj _ b R _ _ hu3 (by omega) (by omega)).mono ?_
        rintro e w4 ⟨x, hx, hx2, rfl, c4, k4, z4⟩
        exact retPost.mk_ ⟨⟨x, hx, rfl⟩, c4, k4⟩
       obtain ⟨x8, hx8, rfl⟩ := hv9
       obtain ⟨x9, hx9⟩ : ∃ x9 : Int, IntKind.i64.wrap ((x8 : Int) - 1) = x9 := ⟨_, rfl⟩
       try simp only [pA, pB, sA, sB, sC]
       repeat (first
        | ((first
         | ((with_reducible refine Zad ?_ ?_ ?_)
            ·exact rfl
            ·exact rfl)
         | ((with_reducible refine Zag ?_ ?_ ?_)
            ·exact rfl
            ·exact Zaa rfl rfl rfl rfl))
           intro K hK
           apply Exists.intro
           refine ⟨fun w3 hw3 => ?_, ?_⟩
           ·have hcs := hw3
            simp only [cD, cC, and_true] at hcs
            clear hw3
            go_simp
            first | done | exact ⟨rfl, rfl⟩ | rfl
           refine hK _ ?_
           clear hK K
           try simp only [pA, pB, sA, sB, sC])
        | ((with_reducible refine Zaf ?_ ?_ ?_)
           ·exact rfl
           ·exact Zab rfl rfl rfl rfl
           simp only [pA, pB, sA, sB, sC]))
       refine Zat ?_
       intro wy hwy hcy hfin hap
       have hC4 : Cur wy b R ((T + 1000 + 2) + 4) ∧ ∀ i, R i → i < wy.heap.size ∧ wy.heap[i]? = a3.heap[i]? := hfin.1.1
       have k4 := alt_back (own := fun _ => False) hk (hwy.mono_ (fun i _ hi => hi.elim .inl (fun h => .inr (.inl h)))) (fun i hi => hi.elim) (fun i hi => (hC4.2 i hi).2)
       have hSn : ∀ i, w.heap.size + 1 ≤ i → i < a3.heap.size → ¬ okB a3 (fun i => i = b ∨ R i) i := fun i h1 h2 hc => by
        rcases hc with h | h | h
        ·omega
        ·have h' : i = b := h; omega
        ·have := hR _ h; omega
       have hSK := hSn K (by omega) (by omega)
       have p4 : PX wy (w.heap.size + 1) K ⟨i0', i1', gs, os⟩ (some ⟨g, 0, none⟩) ca O co := ⟨hp.bx.alt hwy hSK, hp.fz.alt hwy hp.lt hSK, ⟨⟨(hp.ox.1.1.alt hwy (fun q hq => hSn q (hp.ox.1.1.lt q hq).1 (hp.ox.1.1.lt q hq).2.2)).now, (hp.ox.1.2.1.alt hwy (fun q hq => hSn q (hp.ox.1.2.1.lt q hq).1 (hp.ox.1.2.1.lt q hq).2.2)).now, hp.ox.1.2.2⟩, hp.ox.2⟩⟩
       have hs4 : a3.heap.size ≤ wy.heap.size := hwy.size
       have p5 := p4.storeG (j * 3) x9 _ (OwnG.storeK p4.ox.1.1 (k := j) hjn x9)
       have k5 := k4.set_ ⟨g, j * 3, none⟩ (.int .i64 x9) (fun h => absurd h (by show ¬ g < _; omega))
       have c5 := hC4.1.alt ((Alt.refl_ (fun i => i = g) wy).set_ ⟨g, j * 3, none⟩ (.int .i64 x9) (fun _ => rfl)) (by omega) (fun i hi h => by have := hR i hi; omega)
       have hfg := p4.ox.1.1.1.frozenAt (j * 3)
       have hcg : ∃ u9, wy.cell? ⟨g, j * 3, none⟩ = some u9 := by
        obtain ⟨b9, o9, h1, h2, h3⟩ := p4.ox.1.1.reads.2 (Nat.pos_of_ne_zero hn0)
        simp only [Option.some.injEq, Addr.mk.injEq, and_true] at h1
        obtain ⟨rfl, rfl⟩ := h1
        have h4 := (h3 j hjn)
        simp only [Nat.zero_add] at h4
        exact ⟨_, h4.1⟩
       obtain ⟨u9, hcg⟩ := hcg
       have hs5 : K + 1 ≤ (wy.setCell ⟨g, j * 3, none⟩ (.int .i64 x9)).heap.size := by simp; omega
       have hq := p4.bx; obtain ⟨m0, m1, m2, m3⟩ := hq
       dsimp only at m0 m1 m2 m3
       clear hfin hap hcy hwy f0 f1 f2 f3 hp u hk k4
       generalize hgs : gs.set j _ = gs' at p5
       have hgl' : gs'.length = gs.length := by rw [← hgs]; simp
       rw [← hgl']
       have hgb9 : gs'.length ≤ 310 := by omega
       have hjn9 : j < gs'.length := by omega
       clear hgl' hgs
       have hr9 := hr0.alt k5 (by omega)
       have hF : Fz _ w.heap.size := Fz.alt hfz k5 (by omega) (by omega)
       have e0 := hF 0; have e1 := hF 1; have e2 := hF 2; have e3 := hF 3
       have hq := hr9; obtain ⟨r0, r1, r2, r3⟩ := hq
       have hq := PX.bx p5; obtain ⟨m0, m1, m2, m3⟩ := hq
       dsimp only at m0 m1 m2 m3
       go_wp2
       have hq9 := BxC.set4 (hr9) i0' i1' (some ⟨g, 0, none⟩) gs'.length ca O os.length co
       obtain ⟨q0, q1, q2, q3⟩ := hq9
       refine bodyPost_ret (v := .agg #[.int .i64 i0', .int .i64 i1', .slice (some ⟨g, 0, none⟩) gs'.length ca, .slice O os.length co]) (by simp [results, Tryz.results39, go_sem, q0, q1, q2, q3]) rfl ?_
       exact RetDa.of_ p5 (by omega) k5 hA1 hs0 c5 (by omega) hR hb (by first | (simp; omega) | (simp; done)) (by first | (simp; omega) | (simp; done)) (by first | (simp; omega) | (simp; done)) (by first | (simp; omega) | (simp; done))
     ·have g4 : ((v : Int) == 4) = false := by simp; omega
      by_cases hv5 : v = 5
      ·subst hv5
       go_wp2_with fail
       refine (Zaj 2 b R _ _ u (by omega) (by omega)).mono ?_
       rintro e a4 ⟨x, hx1, hx2, rfl, u4, k4, z4⟩
       have hp4 := hp.alt k4 hKb hgb
       have hk4 := hk.trans_ k4 (fun _ _ h => h)
       clear hp hk u k4 m0 m1 m2 m3 f0 f1 f2 f3
       have hq := hp4.bx; obtain ⟨m0, m1, m2, m3⟩ := hq
       have f3 := hp4.fz 3
       dsimp only at m0 m1 m2 m3
       have hs4 : K + 1 ≤ a4.heap.size := by omega
       clear z4
       obtain ⟨os', ho', hM⟩ : ∃ os' : List Int, os' = List.replicate (40 + x) 0 ∧ Hid (os'.length = 40 + x) := ⟨_, rfl, zH (by simp)⟩
       have hMb : os'.length ≤ 50 := by have := hM.out; omega
       have hMi : IntKind.i64.wrap (40 + (x : Int)) = (os'.length : Int) := by rw [hM.out, IntKind.wrap_i64]; omega
       go_wp2_with (at_make; go_loud (refine wpList_make_full _ rfl _ _ 25 rfl a4.heap.size 3 i0 (.int .i64 0) 1 Tryz.underlying25 hi hz0 hz1 _ _ _ _ os'.length rfl rfl (by have := hM.out; omega) (by have := hM.out; omega) (by rw [hz2]; omega) (by unfold maxLen; omega) lR ?_; intro w3 hown hgrow; have hb3 := below_of_grownBy hgrow; have ho3 := own_made hM.out ho' hown; have hp3 := hp4.below hb3 lR; have hk3 := hk4.new_ hb3; have u3 := u4.alt (Alt.of_new (S := fun _ => False) hb3) (fun h => h) (fun _ _ h => h); have hp5 := hp3.outs ho3 (by omega) (fun g hg => (hp4.ox.1.1.lt g hg).2.2) (by omega); have hk5 := hk3.set_ ⟨K, 3, none⟩ (.slice (some ⟨a4.heap.size, 0, none⟩) os'.length os'.length) (fun h => absurd h (by show ¬ K < _; omega)); have u5 := u3.alt ((Alt.refl_ (fun i => i = K) w3).set_ ⟨K, 3, none⟩ (.slice (some ⟨a4.heap.size, 0, none⟩) os'.length os'.length) (fun _ => rfl)) (fun e => hKb e.symm) (fun i hi h => by have := hR i hi; omega); have hq := hp3.bx; obtain ⟨j0, j1, j2, j3⟩ := hq; dsimp only at j0 j1 j2 j3; have g3 := hp3.fz 3; have hs5 : K + 1 ≤ (w3.setCell ⟨K, 3, none⟩ (.slice (some ⟨a4.heap.size, 0, none⟩) os'.length os'.length)).heap.size := (by have := hb3.size; simp; omega); clear hown hgrow ho'; have hr9 := hr0.alt hk5 (by omega); have hF := Fz.alt hfz hk5 (by omega) (by omega); have e0 := hF 0; have e1 := hF 1; have e2 := hF 2; have e3 := hF 3; have hq := hr9; obtain ⟨r0, r1, r2, r3⟩ := hq; have hq := PX.bx hp5; obtain ⟨m0, m1, m2, m3⟩ := hq; dsimp only at m0 m1 m2 m3))
       go_wp2
       have hq9 := BxC.set4 (hr9) i0' i1' A gs.length ca (some ⟨a4.heap.size, 0, none⟩) os'.length os'.length
       obtain ⟨q0, q1, q2, q3⟩ := hq9
       refine bodyPost_ret (v := .agg #[.int .i64 i0', .int .i64 i1', .slice A gs.length ca, .slice (some ⟨a4.heap.size, 0, none⟩) os'.length os'.length]) (by simp [results, Tryz.results39, go_sem, q0, q1, q2, q3]) rfl ?_
       exact RetDa.of_ hp5 (by omega) hk5 hA1 hs0 u5 (by omega) hR hb (by first | (simp; omega) | (simp; done)) (by first | (simp; omega) | (simp; done)) (by first | (simp; omega) | (simp; done)) (by first | (simp; omega) | (simp; done))
      ·have g5 : ((v : Int) == 5) = false := by simp; omega
       by_cases hv6 : v = 6
       ·subst hv6
        go_wp2_with fail
        refine (Zaj 2 b R _ _ u (by omega) (by omega)).mono ?_
        rintro e a4 ⟨x, hx1, hx2, rfl, u4, k4, z4⟩
        have hp4 := hp.alt k4 hKb hgb
        have hk4 := hk.trans_ k4 (fun _ _ h => h)
        have hs4 : K + 1 ≤ a4.heap.size := by omega
        clear z4
        clear hp hk u k4 m0 m1 m2 m3 f0 f1 f2 f3
        obtain ⟨N, hN⟩ := lT (300 + x)
        have hNb : 300 ≤ N ∧ N ≤ 301 := by have := hN.out; omega
        have hMi : IntKind.i64.wrap (300 + (x : Int)) = (N : Int) := by have := hN.out; rw [IntKind.wrap_i64] <;> omega
        go_wp2
        go_loopg [] (N - gs.length) (fun k wr => ∃ (gs' : List G3) (A' : Option Addr) (ca' : Nat), gs'.length + k = N ∧ PX wr (w.heap.size + 1) K ⟨i0', i1', gs', os⟩ A' ca' O co ∧ gs'.length ≤ 301 ∧ Cur wr b R (T + 1000 + 2 + 2) ∧ Alt (fun i => i = b) (w.alloc (.cells #[.int .i64 0, .int .i64 0, .slice none 0 0, .slice none 0 0] 27)) wr)
        case atStart => exact ⟨gs, A, ca, by omega, hp4, by omega, u4, hk4⟩
        case round =>
         obtain ⟨gs', A', ca', hgk, hp, hgl, hu, hk⟩ := hrel
         have hgk := zH hgk
         clear hp4 hk4 u4
         have hs9 : K + 1 ≤ wr.heap.size := hp.lt
         have hq := hp.bx; obtain ⟨m0, m1, m2, m3⟩ := hq
         have f2 := hp.fz 2
         dsimp only at m0 m1 m2 m3
         by_cases hlt : gs'.length < N
         ·have hlt' : (gs'.length : Int) < 300 + (x : Int) := by have := hN.out; omega
          have al : Below wr.heap.size wr (wr.alloc (.cells #[.int .i64 3, .int .i64 0, .int .i64 0] 49)) := bA
          have hpA := hp.below al lR
          have hownA := hp.ox.1.1.alloc (.cells #[.int .i64 3, .int .i64 0, .int .i64 0] 49)
          have hfA := hpA.fz 2
          have hqA := hpA.bx; obtain ⟨l0, l1, l2, l3⟩ := hqA
          dsimp only at l0 l1 l2 l3 hownA
          have hgA : ∀ g, (Value.slice A' gs'.length ca').ownBlock = some g → w.heap.size + 1 ≤ g ∧ g < wr.heap.size := fun g hg => ⟨(hp.ox.1.1.lt g hg).1, (hp.ox.1.1.lt g hg).2.2⟩
          have hsz : (wr.alloc (.cells #[.int .i64 3, .int .i64 0, .int .i64 0] 49)).heap.size = wr.heap.size + 1 := by simp
          go_wp2_with (at_builtin; refine Zbi _ rfl _ _ rfl rfl hownA rfl (RG_new1 _ _ _ _ _) (by omega) (by simp; omega) ?_; intro A5 c5 w5 hown5 hg5 hat5 hk5; have hA5 := Alt.of_grown (S := okB (wr.alloc (.cells #[.int .i64 3, .int .i64 0, .int .i64 0] 49)) (fun i => (Value.slice A' gs'.length ca').ownBlock = some i)) hg5 (fun i hi => .inr hi); have hp5 := hpA.gate (M := ⟨3, 0, 0⟩) hA5 hown5 (fun i hi => hat5.elim (fun h => .inr (h ▸ hi)) (fun h => .inl (by rw [h] at hi; injection hi with hi; omega))); have hbS : ¬ okB (wr.alloc (.cells #[.int .i64 3, .int .i64 0, .int .i64 0] 49)) (fun i => (Value.slice A' gs'.length ca').ownBlock = some i) K := (fun hc => hc.elim (fun h1 => by omega) (fun h1 => hp.ox.2.1 h1)); have hq5 := hpA.bx.alt hA5 hbS; obtain ⟨j0, j1, j2, j3⟩ := hq5; dsimp only at j0 j1 j2 j3; have hf5 := (hpA.fz.alt hA5 (by omega) hbS) 2)
          have hk6 : Alt (fun i => i = b) (w.alloc (.cells #[.int .i64 0, .int .i64 0, .slice none 0 0, .slice none 0 0] 27)) (w5.setCell ⟨K, 2, none⟩ (.slice A5 (gs'.length + 1) c5)) :=
           ((hk.alloc_ _).trans_ hA5 (fun i hi hT => hT.elim (fun h => by have := hk.size; omega) (fun h => by have := hgA i h; omega))).set_ ⟨K, 2, none⟩ _ (fun h => absurd h (by show ¬ K < _; omega))
          have hu6 : Cur (w5.setCell ⟨K, 2, none⟩ (.slice A5 (gs'.length + 1) c5)) b R (T + 1000 + 2 + 2) := by
           have q1 := hu.alt (Alt.of_new (S := fun _ => False) al) (fun h => h) (fun _ _ h => h)
           have q2 := q1.alt hA5 (fun h => h.elim (fun h => by have := q1.lt; omega) (fun h => by have := hgA b h; omega)) (fun i hi h => h.elim (fun h => by have := hR i hi; omega) (fun h => by have := hgA i h; have := hR i hi; omega))
           exact q2.alt ((Alt.refl_ (fun i => i = K) w5).set_ ⟨K, 2, none⟩ _ (fun _ => rfl)) (fun e => hKb e.symm) (fun i hi h => by have := hR i hi; omega)
          have hc6 : (w5.setCell ⟨K, 2, none⟩ (.slice A5 (gs'.length + 1) c5)).cell? ⟨K, 2, none⟩ = some (.slice A5 (gs'.length + 1) c5) := World.cell?_setCell_same _ _ _ j2
          clear hpA hownA l0 l1 l2 l3 hA5 hbS j0 j1 j2 j3 hf5
          go_wp2
          have hgk' := hgk.out
          go_roundg (gk - 1)
          case rel => exact ⟨gs' ++ [⟨3, 0, 0⟩], A5, c5, by simp; omega, hp5, by simp; omega, hu6, hk6⟩
          case measure => omega
         ·have hlt' : ¬ (gs'.length : Int) < 300 + (x : Int) := by have := hN.out; omega
          have hr9 := hr0.alt hk (by omega)
          have hF : Fz _ w.heap.size := Fz.alt hfz hk (by omega) (by omega)
          have e0 := hF 0; have e1 := hF 1; have e2 := hF 2; have e3 := hF 3
          have hq := hr9; obtain ⟨r0, r1, r2, r3⟩ := hq
          have hq := PX.bx hp; obtain ⟨m0, m1, m2, m3⟩ := hq
          dsimp only at m0 m1 m2 m3
          go_wp2
          have hq9 := BxC.set4 (hr9) i0' i1' A' gs'.length ca' O os.length co
          obtain ⟨q0, q1, q2, q3⟩ := hq9
          refine bodyPost_ret (v := .agg #[.int .i64 i0', .int .i64 i1', .slice A' gs'.length ca', .slice O os.length co]) (by simp [results, Tryz.results39, go_sem, q0, q1, q2, q3]) rfl ?_
          exact RetDa.of_ hp (by omega) hk hA1 hs0 hu (by omega) hR hb (by first | (simp; omega) | (simp; done)) (by first | (simp; omega) | (simp; done)) (by first | (simp; omega) | (simp; done)) (by first | (simp; omega) | (simp; done))
       ·have g6 : ((v : Int) == 6) = false := by simp; omega
        have hr9 := hr0.alt hk (by omega)
        have hF : Fz _ w.heap.size := Fz.alt hfz hk (by omega) (by omega)
        have e0 := hF 0; have e1 := hF 1; have e2 := hF 2; have e3 := hF 3
        have hq := hr9; obtain ⟨r0, r1, r2, r3⟩ := hq
        have hq := PX.bx hp; obtain ⟨m0, m1, m2, m3⟩ := hq
        dsimp only at m0 m1 m2 m3
        go_wp2
        have hq9 := BxC.set4 (hr9) i0' i1' A gs.length ca O os.length co
        obtain ⟨q0, q1, q2, q3⟩ := hq9
        refine bodyPost_ret (v := .agg #[.int .i64 i0', .int .i64 i1', .slice A gs.length ca, .slice O os.length co]) (by simp [results, Tryz.results39, go_sem, q0, q1, q2, q3]) rfl ?_
        exact RetDa.of_ hp (by omega) hk hA1 hs0 u (by omega) hR hb (by first | (simp; omega) | (simp; done)) (by first | (simp; omega) | (simp; done)) (by first | (simp; omega) | (simp; done)) (by first | (simp; omega) | (simp; done))
end Go.Proofs.YtnhmfedegfcflaaGreatDoor
