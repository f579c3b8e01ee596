/- Drawn circuits with constants, equal gates and dead gates: whatever the bytes are, a circuit comes back and the reader stays one. Drawn circuits handed on: DrawIsCircuit and its like return some circuit of the call's own, DrawBesideCircuit two. -/
import Derived.Test.YtikgagjoapggnaaQP13
import Derived.Test.YtikgagjoapggnaaQP08
namespace Go.Proofs.Ytikgagjoapggnaa
open Go.RowKit
set_option linter.unusedVariables false
set_option linter.unusedSimpArgs false
attribute [local go_sem] sepAt sepUpon pureAt pureUpon
def Res.anyQ (Q : Value → Prop) (hQ : ∃ v, Q v) : Res := ⟨fun _ v => Q v, fun _ _ _ => True, fun _ _ _ => False, fun _ => hQ, fun _ _ _ _ _ _ _ _ => trivial⟩
def Qg (v : Value) : Prop := ∃ k a b : Int, v = .agg #[.int .i64 k, .int .i64 a, .int .i64 b]
theorem Qg.one : ∃ v, Qg v := ⟨_, 0, 0, 0, rfl⟩
section
variable {P : Program} {W : World} {own : Nat → Prop} {cs : List (Addr × Value)} {sk : List (Nat × List Nat × List Nat)} {ini fi : List Nat} {rs : List (Nat × Res)} {ops : Array Oper} {L : Act → (Nat → Value) → Prop} {k : Nat} {o : Oper} {rest : List Oper} {a : Act} {ρ : Nat → Value}
theorem mem_any (Q : Value → Prop) (hQ : ∃ v, Q v) (hr : resAt rs k = Res.anyQ Q hQ) (he : effB sk k = true) (hx : ∀ w, Alt (okB W own) W w → CellsL w cs → (mkSep W own cs sk ini fi rs).pre k ρ w → sepAt P o a (fun v w' => Q v ∧ Below w.heap.size w w') w)
    (h : ∀ v, Q v → wpSep (mkSep W own cs sk ini fi rs) P ops L (k + 1) rest (a.put o.dst v) (upd ρ k v)) (hw : Region.wanted o (yielded ops a.tmps) = true := by first | exact wanted_none rfl | exact wanted_some rfl rfl rfl rfl) : wpSep (mkSep W own cs sk ini fi rs) P ops L k (o :: rest) a ρ :=
  mem_eff (hw := hw) _ hr he (fun w hw hc hp => sepAt_mono (hx w hw hc hp) fun v w' ⟨h1, h2⟩ => ⟨h1, trivial, Alt.of_new h2, fun b hb => hb.elim⟩) h
end
theorem out_cur {w1 w5 : World} {b M n co U : Nat} {R : Nat → Prop} {O : Option Addr} {v : Value} {o : Obj} {w : World} (hu : Cur w1 b R U) (al : Below w1.heap.size w1 (w1.alloc o)) (hA : Alt (okB (w1.alloc o) (fun i => (Value.slice O n co).ownBlock = some i)) (w1.alloc o) w5) (hO : ∀ g, (Value.slice O n co).ownBlock = some g → w.heap.size + 1 ≤ g ∧ g < w1.heap.size) (hR : ∀ i, R i → i < w.heap.size) (hMb : ¬ M = b) (hb : b < w.heap.size ∧ w.heap.size ≤ M ∧ w.heap.size ≤ w1.heap.size) :
    Cur (w5.setCell ⟨M, 3, none⟩ v) b R U := by
  have q1 := hu.alt (Alt.of_new (S := fun _ => False) al) (fun h => h) (fun _ _ h => h)
  have hz := al.size
  have q2 := q1.alt hA (fun h => h.elim (fun h => by have := q1.lt; omega) (fun h => by have := hO b h; omega)) (fun i hi h => h.elim (fun h => by have := hR i hi; omega) (fun h => by have := hO i h; have := hR i hi; omega))
  exact q2.alt ((Alt.refl_ (fun i => i = M) w5).set_ ⟨M, 3, none⟩ v (fun _ => rfl)) (fun e => hMb e.symm) (fun i hi h => by have := hR i hi; omega)
theorem PX.altB {S : Nat → Prop} {w w' : World} {lo b : Nat} {C : Ci} {A : Option Addr} {ca : Nat} {O : Option Addr} {co : Nat} (h : PX w lo b C A ca O co) (k : Alt S w w') (hb : ¬ S b) (hA : ∀ g, (Value.slice A C.gs.length ca).ownBlock = some g → ¬ S g) (hO : ∀ g, (Value.slice O C.os.length co).ownBlock = some g → ¬ S g) : PX w' lo b C A ca O co :=
  ⟨h.bx.alt k hb, h.fz.alt k h.lt hb, ⟨(h.ox.1.1.alt k hA).now, (h.ox.1.2.1.alt k hO).now, h.ox.1.2.2⟩, h.ox.2⟩
set_option maxRecDepth 100000 in
set_option maxHeartbeats 3000000 in
theorem wasteful_any (b : Nat) (R : Nat → Prop) (T : Nat) (w : World) (h : Cur w b R T) (hT : T < 600000000) (hR : ∀ i, R i → i < w.heap.size) (hRb : ¬ R b) :
    Calls Try.prog 28 #[.pointer (some ⟨b, 0, none⟩)] w (RetDa b R (T + 3000) w) := by
  have hA1 : Below w.heap.size w (w.alloc (.cells #[.int .i64 0, .int .i64 0, .slice none 0 0, .slice none 0 0] 26)) := (Below.refl _ _).alloc (Nat.le_refl _) _
  have hr0 : BxC (w.alloc (.cells #[.int .i64 0, .int .i64 0, .slice none 0 0, .slice none 0 0] 26)) w.heap.size 0 0 none 0 0 none 0 0 := BxC.new w _
  have hb := h.lt
  have hc0 := h.alt (Alt.of_new (S := fun _ => False) hA1) (fun h => h) (fun _ _ h => h)
  have hs0 : (w.alloc (.cells #[.int .i64 0, .int .i64 0, .slice none 0 0, .slice none 0 0] 26)).heap.size = w.heap.size + 1 := by simp
  have hfz : ∀ q, (w.alloc (.cells #[.int .i64 0, .int .i64 0, .slice none 0 0, .slice none 0 0] 26)).frozen? ⟨w.heap.size, q, none⟩ = false := Fz.new w _ _
  go_enter Try.func28, Try.ntmps28
  go_wp2_with fail
  refine (anyCircuit_any b R T _ hc0 (by omega) (fun i hi => by have := hR i hi; omega) hRb).mono ?_
  rintro e a1 ⟨⟨x, y, gs, os⟩, A, ca, O, co, rfl, ho1, hx, hy, hng, hno, c1, k1⟩
  dsimp only at ho1 hx hy hng hno ⊢
  have hz1' := k1.size
  rw [hs0] at ho1
  have kb := k1.alloc_ (.cells #[.int .i64 x, .int .i64 y, .slice A gs.length ca, .slice O os.length co] 26)
  have hp0 := PX.boxed (C := ⟨x, y, gs, os⟩) ho1 26
  dsimp only at hp0
  have hal := (Below.refl a1.heap.size a1).alloc (Nat.le_refl _) (.cells #[.int .i64 x, .int .i64 y, .slice A gs.length ca, .slice O os.length co] 26)
  have cb := c1.alt (Alt.of_new (S := fun _ => False) hal) (fun h => h) (fun _ _ h => h)
  have hrd := (ho1.below hal (.inl (Nat.le_refl _)))
  obtain ⟨K, hK⟩ : ∃ K, a1.heap.size = K := ⟨_, rfl⟩
  have hKs : (a1.alloc (.cells #[.int .i64 x, .int .i64 y, .slice A gs.length ca, .slice O os.length co] 26)).heap.size = K + 1 := by simp [hK]
  clear ho1 c1 k1 hal
  go_wp2_with fail
  rw [hK] at hp0 hrd
  have hKw : w.heap.size + 1 ≤ K := by omega
  clear hz1'
  generalize a1.alloc (.cells #[.int .i64 x, .int .i64 y, .slice A gs.length ca, .slice O os.length co] 26) = a2 at *
  clear hK
  have hKb : ¬ K = b := by omega
  have hgb : ∀ g, w.heap.size + 1 ≤ g → ¬ g = b := fun g hg => by omega
  have hq := hp0.bx; obtain ⟨m0, m1, m2, m3⟩ := hq
  dsimp only at m0 m1 m2 m3
  cases hcB : circB x y gs os with
  | false =>
    refine (ciGood_any x y A gs.length ca O os.length co gs os _ hrd.1.reads hrd.2.1.reads (by omega) (by omega)).mono ?_
    rintro e a3 ⟨rfl, hb3⟩
    have hp3 := hp0.below hb3 (Nat.le_refl _)
    have hk3 := kb.new_ hb3
    have u3 := cb.alt (Alt.of_new (S := fun _ => False) hb3) (fun h => h) (fun _ _ h => h)
    have hs3 : K + 1 ≤ a3.heap.size := by have := hb3.size; omega
    have HB := Lib.hid hcB; clear hcB m0 m1 m2 m3 hrd hb3
    rw [HB.out]
    have hr9 := hr0.alt hk3 (by omega)
    have hF := Fz.alt hfz hk3 (by omega) (by omega)
    have e0 := hF 0; have e1 := hF 1; have e2 := hF 2; have e3 := hF 3
    have hq := hr9; obtain ⟨r0, r1, r2, r3⟩ := hq
    have hq := PX.bx hp3; obtain ⟨n0, n1, n2, n3⟩ := hq
    dsimp only at n0 n1 n2 n3
    go_wp2
    have hq9 := BxC.set4 (hr9) x y A gs.length ca O os.length co
    obtain ⟨q0, q1, q2, q3⟩ := hq9
    refine bodyPost_ret (v := .agg #[.int .i64 x, .int .i64 y, .slice A gs.length ca, .slice O os.length co]) (by simp [results, Try.results28, go_sem, q0, q1, q2, q3]) rfl ?_
    exact RetDa.of_ hp3 (by omega) hk3 hA1 hs0 u3 (by omega) hR hb (by first | (simp; omega) | (simp; done)) (by first | (simp; omega) | (simp; done)) (by first | (simp; omega) | (simp; done)) (by first | (simp; omega) | (simp; done))
  | true =>
    obtain ⟨⟨x0, x1⟩, ⟨y0, y1⟩, g1, o1, gb, ob⟩ := circB_bd hcB
    refine (ciGood_any x y A gs.length ca O os.length co gs os _ hrd.1.reads hrd.2.1.reads (by omega) (by omega)).mono ?_
    rintro e a3 ⟨rfl, hb3⟩
    have hp3 := hp0.below hb3 (Nat.le_refl _)
    have hk3 := kb.new_ hb3
    have u3 := cb.alt (Alt.of_new (S := fun _ => False) hb3) (fun h => h) (fun _ _ h => h)
    have hs3 : K + 1 ≤ a3.heap.size := by have := hb3.size; omega
    have hrd3 := hrd.below hb3 (.inl (Nat.le_refl _))
    have HB := Lib.hid hcB; clear hcB m0 m1 m2 m3 hrd hb3 gb ob
    rw [HB.out]
    go_wp2_with fail
    refine (one_any 4 b R _ _ u3 (by omega) (by omega)).mono ?_
    rintro e a4 ⟨t4, rfl, u4, k4, z4⟩
    have hp4 := hp3.alt k4 hKb hgb
    have hk4 := hk3.trans_ k4 (fun _ _ h => h)
    have hrd4 : OwnC a4 (w.heap.size + 1) K A gs.length ca O os.length co gs os := ⟨hrd3.1.alt k4 (fun g hg => hgb g (hrd3.1.lt g hg).1), hrd3.2.1.alt k4 (fun g hg => hgb g (hrd3.2.1.lt g hg).1), hrd3.2.2⟩
    have hs4 : K + 1 ≤ a4.heap.size := by omega
    clear hp3 hk3 u3 k4 hrd3 z4
    cases t4 with
    | true =>
      have hr9 := hr0.alt hk4 (by omega)
      have hF := Fz.alt hfz hk4 (by omega) (by omega)
      have e0 := hF 0; have e1 := hF 1; have e2 := hF 2; have e3 := hF 3
      have hq := hr9; obtain ⟨r0, r1, r2, r3⟩ := hq
      have hq := PX.bx hp4; obtain ⟨n0, n1, n2, n3⟩ := hq
      dsimp only at n0 n1 n2 n3
      go_wp2
      have hq9 := BxC.set4 (hr9) x y A gs.length ca O os.length co
      obtain ⟨q0, q1, q2, q3⟩ := hq9
      refine bodyPost_ret (v := .agg #[.int .i64 x, .int .i64 y, .slice A gs.length ca, .slice O os.length co]) (by simp [results, Try.results28, go_sem, q0, q1, q2, q3]) rfl ?_
      exact RetDa.of_ hp4 (by omega) hk4 hA1 hs0 u4 (by omega) hR hb (by first | (simp; omega) | (simp; done)) (by first | (simp; omega) | (simp; done)) (by first | (simp; omega) | (simp; done)) (by first | (simp; omega) | (simp; done))
    | false =>
      have hq := hp4.bx; obtain ⟨m0, m1, m2, m3⟩ := hq
      dsimp only at m0 m1 m2 m3
      have hpM := PX.boxed (C := ⟨x, y, gs, os⟩) (hrd4.hi_ (by omega)) 85
      dsimp only at hpM
      have kM := hk4.alloc_ (.cells #[.int .i64 x, .int .i64 y, .slice A gs.length ca, .slice O os.length co] 85)
      have uM := u4.alt (Alt.of_new (S := fun _ => False) ((Below.refl _ _).alloc (Nat.le_refl _) (.cells #[.int .i64 x, .int .i64 y, .slice A gs.length ca, .slice O os.length co] 85))) (fun h => h) (fun _ _ h => h)
      obtain ⟨M, hM⟩ : ∃ M, a4.heap.size = M := ⟨_, rfl⟩
      have hMs : (a4.alloc (.cells #[.int .i64 x, .int .i64 y, .slice A gs.length ca, .slice O os.length co] 85)).heap.size = M + 1 := by simp [hM]
      clear u4 hk4 hp0 kb cb
      go_wp2_with fail
      rw [hM] at hpM
      have hMw : w.heap.size + 1 ≤ M := by omega
      generalize a4.alloc (.cells #[.int .i64 x, .int .i64 y, .slice A gs.length ca, .slice O os.length co] 85) = a5 at *
      clear hM m0 m1 m2 m3 hp4 hrd4 hs4 hKs
      have hMb : ¬ M = b := by omega
      refine (pick_any 6 b R _ _ uM (by omega) (by omega)).mono ?_
      rintro e a6 ⟨k, hk6, hk7, rfl, cu6, k6, z6⟩
      have hp6 := hpM.alt k6 hMb hgb
      have q6 := kM.trans_ k6 (fun _ _ h => h)
      clear hpM kM uM k6 z6 hMs
      go_wp2
      go_loopw [5] (fun i wr => ∃ (j : Nat) (gs' : List G3) (A' : Option Addr) (ca' U : Nat), j ≤ 5 ∧ i = .int .i64 j ∧ PX wr (w.heap.size + 1) M ⟨x, y, gs', os⟩ A' ca' O co ∧ gs'.length + j ≤ 305 ∧ Cur wr b R U ∧ U + 20 * j ≤ T + 2400 ∧ Alt (fun i => i = b) (w.alloc (.cells #[.int .i64 0, .int .i64 0, .slice none 0 0, .slice none 0 0] 26)) wr) (fun i _ => (intOf i).toNat)
      case atStart => exact ⟨k, gs, A, ca, _, by omega, rfl, hp6, by omega, cu6, by omega, q6⟩
      case round =>
        obtain ⟨j, gs', A', ca', U, hj, rfl, hp, hgl, hu, hU, hk⟩ := hrel
        clear hp6 cu6 q6
        have hs9 : M + 1 ≤ wr.heap.size := hp.lt
        have hq := hp.bx; obtain ⟨m0, m1, m2, m3⟩ := hq
        dsimp only at m0 m1 m2 m3
        obtain ⟨N, hN⟩ : ∃ N : Nat, Hid (x + y + (gs'.length : Int) = (N : Int)) := ⟨(x + y + (gs'.length : Int)).toNat, Lib.hid (by omega)⟩
        have hNb : N ≤ 400 := by have := hN.out; omega
        by_cases hj0 : j = 0
        · subst hj0
          go_wp2_with fail
          refine (ciWires_any x y A' gs'.length ca' O os.length co _ ⟨x0, x1⟩ ⟨y0, y1⟩ (by omega)).mono ?_
          rintro e w1 ⟨rfl, hb1⟩
          rw [hN.out]
          have hp1 := hp.below hb1 (Nat.le_refl _)
          have hk1 := hk.new_ hb1
          have u1 := hu.alt (Alt.of_new (S := fun _ => False) hb1) (fun h => h) (fun _ _ h => h)
          have hs1 : M + 1 ≤ w1.heap.size := by have := hb1.size; omega
          clear hp hk hu hb1 m0 m1 m2 m3
          have hq := hp1.bx; obtain ⟨m0, m1, m2, m3⟩ := hq
          dsimp only at m0 m1 m2 m3
          have f3 := hp1.fz 3
          by_cases hN0 : N = 0
          · subst hN0
            have hr9 := hr0.alt hk1 (by omega)
            have hF := Fz.alt hfz hk1 (by omega) (by omega)
            have e0 := hF 0; have e1 := hF 1; have e2 := hF 2; have e3 := hF 3
            have hq := hr9; obtain ⟨r0, r1, r2, r3⟩ := hq
            have hq := PX.bx hp1; obtain ⟨n0, n1, n2, n3⟩ := hq
            dsimp only at n0 n1 n2 n3
            go_wp2
            have hq9 := BxC.set4 (hr9) x y A' gs'.length ca' O os.length co
            obtain ⟨q0, q1, q2, q3⟩ := hq9
            refine bodyPost_ret (v := .agg #[.int .i64 x, .int .i64 y, .slice A' gs'.length ca', .slice O os.length co]) (by simp [results, Try.results28, go_sem, q0, q1, q2, q3]) rfl ?_
            exact RetDa.of_ hp1 (by omega) hk1 hA1 hs0 u1 (by omega) hR hb (by first | (simp; omega) | (simp; done)) (by first | (simp; omega) | (simp; done)) (by first | (simp; omega) | (simp; done)) (by first | (simp; omega) | (simp; done))
          · have hN1 : (0 : Int) < N := by omega
            by_cases ho40 : os.length < 40
            · have hoI : (os.length : Int) < 40 := by omega
              have al : Below w1.heap.size w1 (w1.alloc (.cells #[.int .i64 ((N : Int) - 1)] 3)) := (Below.refl _ _).alloc (Nat.le_refl _) _
              have hpA := hp1.below al (Nat.le_refl _)
              have hownA := hp1.ox.1.2.1.alloc (.cells #[.int .i64 ((N : Int) - 1)] 3)
              have hq := hpA.bx; obtain ⟨l0, l1, l2, l3⟩ := hq
              dsimp only at l0 l1 l2 l3 hownA
              have hOa : ∀ g, (Value.slice O os.length co).ownBlock = some g → w.heap.size + 1 ≤ g ∧ g < w1.heap.size := fun g hg => ⟨(hp1.ox.1.2.1.lt g hg).1, (hp1.ox.1.2.1.lt g hg).2.2⟩
              have hsz : (w1.alloc (.cells #[.int .i64 ((N : Int) - 1)] 3)).heap.size = w1.heap.size + 1 := by simp
              go_wp2_with (at_builtin; go_loud (refine wpList_appI _ rfl _ _ rfl rfl hownA rfl (RI_new1 _ _ _) (by omega) (by simp; omega) ?_; intro A5 c5 w5 hown5 hg5 hat5 hk5; have hA5 := Alt.of_grown (S := okB (w1.alloc (.cells #[.int .i64 ((N : Int) - 1)] 3)) (fun i => (Value.slice O os.length co).ownBlock = some i)) hg5 (fun i hi => .inr hi); have hp5 := hpA.out (z := (N : Int) - 1) hA5 hown5 (fun i hi => hat5.elim (fun h => .inr (h ▸ hi)) (fun h => .inl (by rw [h] at hi; injection hi with hi; omega))); have hbS : ¬ okB (w1.alloc (.cells #[.int .i64 ((N : Int) - 1)] 3)) (fun i => (Value.slice O os.length co).ownBlock = some i) M := (fun hc => hc.elim (fun h1 => by omega) (fun h1 => hp1.ox.2.2 h1)); have hq5 := hpA.bx.alt hA5 hbS; obtain ⟨j0, j1, j2, j3⟩ := hq5; dsimp only at j0 j1 j2 j3; have hf5 := (hpA.fz.alt hA5 (by omega) hbS) 3; have hk6 : Alt (fun i => i = b) (w.alloc (.cells #[.int .i64 0, .int .i64 0, .slice none 0 0, .slice none 0 0] 26)) (w5.setCell ⟨M, 3, none⟩ (.slice A5 (os.length + 1) c5)) := ((hk1.alloc_ _).trans_ hA5 (fun i hi hT => hT.elim (fun h => by have := hk1.size; omega) (fun h => by have := hOa i h; omega))).set_ ⟨M, 3, none⟩ _ (fun h => absurd h (by show ¬ M < _; omega)); have hu6 : Cur (w5.setCell ⟨M, 3, none⟩ (.slice A5 (os.length + 1) c5)) b R U := out_cur u1 al hA5 hOa hR hMb (by omega); have hs6 : M + 1 ≤ (w5.setCell ⟨M, 3, none⟩ (.slice A5 (os.length + 1) c5)).heap.size := (by have := hA5.size; simp; omega); have hr9 := hr0.alt hk6 (by omega); have hF := Fz.alt hfz hk6 (by omega) (by omega); have e0 := hF 0; have e1 := hF 1; have e2 := hF 2; have e3 := hF 3; have hq := hr9; obtain ⟨r0, r1, r2, r3⟩ := hq; have hq := PX.bx hp5; obtain ⟨n0, n1, n2, n3⟩ := hq; dsimp only at n0 n1 n2 n3))
              clear hown5 hA5 hbS j0 j1 j2 j3 hf5
              go_wp2
              have hq9 := BxC.set4 (hr9) x y A' gs'.length ca' A5 (os.length + 1) c5
              obtain ⟨q0, q1, q2, q3⟩ := hq9
              refine bodyPost_ret (v := .agg #[.int .i64 x, .int .i64 y, .slice A' gs'.length ca', .slice A5 (os.length + 1) c5]) (by simp [results, Try.results28, go_sem, q0, q1, q2, q3]) rfl ?_
              exact (by have hl9 : (os ++ [(N : Int) - 1]).length = os.length + 1 := (by simp); rw [← hl9] at hp5 hk6 hu6 ⊢; exact RetDa.of_ hp5 (by omega) hk6 hA1 hs0 hu6 (by omega) hR hb (by first | (simp; omega) | (simp; done)) (by first | (simp; omega) | (simp; done)) (by first | (simp; omega) | (simp; done)) (by first | (simp; omega) | (simp; done)))
            · have hoI : ¬ (os.length : Int) < 40 := by omega
              have hr9 := hr0.alt hk1 (by omega)
              have hF := Fz.alt hfz hk1 (by omega) (by omega)
              have e0 := hF 0; have e1 := hF 1; have e2 := hF 2; have e3 := hF 3
              have hq := hr9; obtain ⟨r0, r1, r2, r3⟩ := hq
              have hq := PX.bx hp1; obtain ⟨n0, n1, n2, n3⟩ := hq
              dsimp only at n0 n1 n2 n3
              go_wp2
              have hq9 := BxC.set4 (hr9) x y A' gs'.length ca' O os.length co
              obtain ⟨q0, q1, q2, q3⟩ := hq9
              refine bodyPost_ret (v := .agg #[.int .i64 x, .int .i64 y, .slice A' gs'.length ca', .slice O os.length co]) (by simp [results, Try.results28, go_sem, q0, q1, q2, q3]) rfl ?_
              exact RetDa.of_ hp1 (by omega) hk1 hA1 hs0 u1 (by omega) hR hb (by first | (simp; omega) | (simp; done)) (by first | (simp; omega) | (simp; done)) (by first | (simp; omega) | (simp; done)) (by first | (simp; omega) | (simp; done))
        · obtain ⟨j, rfl⟩ : ∃ m, j = m + 1 := ⟨j - 1, by omega⟩
          go_wp2_with fail
          refine (ciWires_any x y A' gs'.length ca' O os.length co _ ⟨x0, x1⟩ ⟨y0, y1⟩ (by omega)).mono ?_
          rintro e w1 ⟨rfl, hb1⟩
          rw [hN.out]
          have hp1 := hp.below hb1 (Nat.le_refl _)
          have q1 := hk.new_ hb1
          have u1 := hu.alt (Alt.of_new (S := fun _ => False) hb1) (fun h => h) (fun _ _ h => h)
          have hs1 : M + 1 ≤ w1.heap.size := by have := hb1.size; omega
          clear hp hk hu hb1 m0 m1 m2 m3 hs9
          have hgA : ∀ g, (Value.slice A' gs'.length ca').ownBlock = some g → w.heap.size + 1 ≤ g := fun g hg => (hp1.ox.1.1.lt g hg).1
          have hSb : ¬ (b = M ∨ (Value.slice A' gs'.length ca').ownBlock = some b) := fun h => h.elim (fun h => by omega) (fun h => by have := hgA b h; omega)
          have hSR : ∀ i, R i → ¬ (i = M ∨ (Value.slice A' gs'.length ca').ownBlock = some i) := fun i hi h => by have := hR i hi; exact h.elim (fun h => by omega) (fun h => by have := hgA i h; omega)
          by_cases hN0 : N = 0
          · subst hN0
            go_wp2_with fail
            refine (oneX_any (w.heap.size + 1) M ⟨x, y, gs', os⟩ A' ca' O co _ hp1 ⟨x0, x1⟩ ⟨y0, y1⟩ (by simp; omega) (by omega)).mono ?_
            rintro e wz ⟨A7, c7, rfl, hp7, k7, o7⟩
            have u7 := u1.alt k7 hSb hSR
            have q7 := q1.trans_ (S := fun i => i = b) k7 (fun i hi hT => hT.elim (fun h => by omega) (fun h => by have := hgA i h; omega))
            dsimp only at hp7
            clear k7 o7
            go_wp2
            go_roundw
            case rel => exact ⟨j, _, A7, c7, _, by omega, by go_num, hp7, by simp; omega, u7, by omega, q7⟩
            case measure => simp [intOf] <;> omega
          · have hN1 : ((N : Int) == 0) = false := by simp; omega
            go_wp2_with fail
            refine (one_any 5 b R _ _ u1 (by omega) (by omega)).mono ?_
            rintro e p2 ⟨t2, rfl, u2, k2, z2⟩
            have hp2 := hp1.alt k2 hMb hgb
            have q2 := q1.trans_ k2 (fun _ _ h => h)
            have l2 := k2.size
            cases t2 with
            | true =>
              go_wp2_with fail
              refine (oneX_any (w.heap.size + 1) M ⟨x, y, gs', os⟩ A' ca' O co _ hp2 ⟨x0, x1⟩ ⟨y0, y1⟩ (by simp; omega) (by omega)).mono ?_
              rintro e wz ⟨A7, c7, rfl, hp7, k7, o7⟩
              have u7 := u2.alt k7 hSb hSR
              have q7 := q2.trans_ (S := fun i => i = b) k7 (fun i hi hT => hT.elim (fun h => by omega) (fun h => by have := hgA i h; omega))
              dsimp only at hp7
              clear k7 o7
              go_wp2
              go_roundw
              case rel => exact ⟨j, _, A7, c7, _, by omega, by go_num, hp7, by simp; omega, u7, by omega, q7⟩
              case measure => simp [intOf] <;> omega
            | false =>
              have hq := hp2.bx; obtain ⟨m0, m1, m2, m3⟩ := hq
              dsimp only at m0 m1 m2 m3
              by_cases hg0 : gs'.length = 0
              · have hgI : ¬ (0 : Int) < gs'.length := by omega
                go_wp2_with fail
                refine (pick_any N b R _ _ u2 (by omega) (by omega)).mono ?_
                rintro e p8 ⟨v8, hv8, hw8, rfl, u8, k8, z8⟩
                have hp8 := hp2.alt k8 hMb hgb
                have q8 := q2.trans_ k8 (fun _ _ h => h)
                have l8 := k8.size
                go_wp2_with fail
                refine (pick_any 2 b R _ _ u8 (by omega) (by omega)).mono ?_
                rintro e p9 ⟨v9, hv9, hw9, rfl, u9, k9, z9⟩
                have hp9 := hp8.alt k9 hMb hgb
                have q9 := q8.trans_ k9 (fun _ _ h => h)
                have l9 := k9.size
                go_wp2_with fail
                refine (gateX_any (w.heap.size + 1) M ⟨x, y, gs', os⟩ A' ca' O co _ _ _ _ hp9 ⟨x0, x1⟩ ⟨y0, y1⟩ (by simp; omega) (by omega)).mono ?_
                rintro e wz ⟨A7, c7, rfl, hp7, k7, o7⟩
                have u7 := u9.alt k7 hSb hSR
                have q7 := q9.trans_ (S := fun i => i = b) k7 (fun i hi hT => hT.elim (fun h => by omega) (fun h => by have := hgA i h; omega))
                dsimp only at hp7
                clear k7 o7
                go_wp2
                go_roundw
                case rel => exact ⟨j, _, A7, c7, _, by omega, by go_num, hp7, by simp; omega, u7, by omega, q7⟩
                case measure => simp [intOf] <;> omega
              · have hgI : (0 : Int) < gs'.length := by omega
                go_wp2_with fail
                refine (one_any 2 b R _ _ u2 (by omega) (by omega)).mono ?_
                rintro e p3 ⟨t3, rfl, u3, k3, z3⟩
                have hp3 := hp2.alt k3 hMb hgb
                have q3 := q2.trans_ k3 (fun _ _ h => h)
                have l3 := k3.size
                clear m0 m1 m2 m3
                have hq := hp3.bx; obtain ⟨m0, m1, m2, m3⟩ := hq
                dsimp only at m0 m1 m2 m3
                cases t3 with
                | false =>
                  clear m0 m1 m2 m3
                  go_wp2_with fail
                  refine (pick_any N b R _ _ u3 (by omega) (by omega)).mono ?_
                  rintro e p8 ⟨v8, hv8, hw8, rfl, u8, k8, z8⟩
                  have hp8 := hp3.alt k8 hMb hgb
                  have q8 := q3.trans_ k8 (fun _ _ h => h)
                  have l8 := k8.size
                  go_wp2_with fail
                  refine (pick_any 2 b R _ _ u8 (by omega) (by omega)).mono ?_
                  rintro e p9 ⟨v9, hv9, hw9, rfl, u9, k9, z9⟩
                  have hp9 := hp8.alt k9 hMb hgb
                  have q9 := q8.trans_ k9 (fun _ _ h => h)
                  have l9 := k9.size
                  go_wp2_with fail
                  refine (gateX_any (w.heap.size + 1) M ⟨x, y, gs', os⟩ A' ca' O co _ _ _ _ hp9 ⟨x0, x1⟩ ⟨y0, y1⟩ (by simp; omega) (by omega)).mono ?_
                  rintro e wz ⟨A7, c7, rfl, hp7, k7, o7⟩
                  have u7 := u9.alt k7 hSb hSR
                  have q7 := q9.trans_ (S := fun i => i = b) k7 (fun i hi hT => hT.elim (fun h => by omega) (fun h => by have := hgA i h; omega))
                  dsimp only at hp7
                  clear k7 o7
                  go_wp2
                  go_roundw
                  case rel => exact ⟨j, _, A7, c7, _, by omega, by go_num, hp7, by simp; omega, u7, by omega, q7⟩
                  case measure => simp [intOf] <;> omega
                | true =>
                  obtain ⟨g, rfl⟩ : ∃ g, A' = some ⟨g, 0, none⟩ := by
                    obtain ⟨g, cap, hv9, _⟩ := hp3.ox.1.1.1.form (Nat.pos_of_ne_zero hg0)
                    simp only [Value.slice.injEq] at hv9
                    exact ⟨g, hv9.1⟩
                  have hgl3 := hp3.ox.1.1.lt g rfl
                  have hgM : g ≠ M := fun e => hp3.ox.2.1 (by rw [e]; rfl)
                  have hs3' : M + 1 ≤ p3.heap.size := by omega
                  clear hp1 hp2 q1 q2 u1 u2
                  go_wp2_with fail
                  go_wp2_with fail
                  refine wp_region_mem (16) ((fun i => (i = b ∨ R i) ∨ i = g)) [(⟨M, 0, none⟩, .int .i64 x), (⟨M, 1, none⟩, .int .i64 y), (⟨M, 2, none⟩, .slice (some ⟨g, 0, none⟩) gs'.length ca'), (⟨M, 3, none⟩, .slice O os.length co)] [(12, [101], [101]), (14, [100], []), (15, [], [])] [100, 101] [12, 15, 100] [(100, Res.rowG (w.heap.size + 1) gs'.length gs'), (101, Res.curI p3 b R (U + 2 + 2)), (12, Res.curN p3 b R (U + 2 + 2 + 2) (gs'.length : Int)), (14, Res.anyQ Qg Qg.one), (15, Res.box [.int .i64 0, .int .i64 0, .int .i64 0])] ((upd (upd (fun _ => undef) 100 (.slice (some ⟨g, 0, none⟩) gs'.length ca')) 101 (.int .i64 0))) (by kernel_rfl) (by kernel_rfl) (by kernel_rfl) (by simp only [CellsL, List.mem_cons, forall_eq_or_imp, List.not_mem_nil, false_implies, implies_true, and_true]; repeat (any_goals (apply And.intro)); all_goals (first | assumption | go_simp)) (fun q9 hq9 => by simp only [List.mem_cons, List.not_mem_nil, or_false] at hq9; rcases hq9 with rfl | rfl | rfl | rfl <;> rintro ((h | h) | h) <;> first | exact hMb h | exact hgM h.symm | (have h' : M < w.heap.size := hR _ h; omega)) (⟨⟨hp3.ox.1.1, fun i hi => ⟨.inr (.inr (by have h9 : (Value.slice (some ⟨g, 0, none⟩) gs'.length ca').ownBlock = some i := hi; simp only [Value.ownBlock, Option.some.injEq] at h9; exact h9.symm)), (hp3.ox.1.1.lt i hi).2.2⟩⟩, ⟨⟨u3.alt ((Alt.refl_ (fun _ => False) p3).drewN_ 1) (fun h => h) (fun _ _ h => h), fun i hi => ⟨by have := hR i hi; show i < p3.heap.size; omega, rfl⟩⟩, fun i hi => ⟨.inr (.inl hi), hi.elim (fun h => h ▸ u3.lt) (fun h => by have := hR i h; show i < p3.heap.size; omega)⟩⟩, trivial⟩) ((fun d hd d' hd' hn c hc hc' => by simp only [List.mem_cons, List.not_mem_nil, or_false] at hd hd'; rcases hd with rfl | rfl <;> rcases hd' with rfl | rfl <;> first | exact hn rfl | (have h1 := hgA c hc; rcases hc' with h2 | h2; (have h3 : c = b := h2; omega); (have h3 := hR c h2; omega)) | (have h1 := hgA c hc'; rcases hc with h2 | h2; (have h3 : c = b := h2; omega); (have h3 := hR c h2; omega)))) ?_
                  simp only [List.take_succ_cons, List.take_zero, List.drop_succ_cons, List.drop_zero, List.take_nil, List.drop_nil, List.take, List.drop]
                  repeat (first
                    | ((with_reducible refine mem_pure0 ?_ ?_ ?_)
                       · exact rfl
                       · exact rfl
                       intro K hK
                       apply Exists.intro
                       refine ⟨fun w3 hw3 => ?_, ?_⟩
                       · have hcs := hw3
                         simp only [CellsL, List.mem_cons, forall_eq_or_imp, List.not_mem_nil, false_implies, implies_true, and_true] at hcs
                         clear hw3
                         go_simp
                         first | done | exact ⟨rfl, rfl⟩ | rfl
                       refine hK _ ?_
                       clear hK K
                       try simp only [Act.put, List.setIfInBounds_toArray, List.set_cons_zero, List.set_cons_succ])
                    | ((with_reducible refine mem_skip ?_ ?_ ?_)
                       · exact rfl
                       · exact wanted_not rfl rfl rfl rfl
                       simp only [Act.put, List.setIfInBounds_toArray, List.set_cons_zero, List.set_cons_succ])
                    | ((with_reducible refine mem_pure ?_ ?_ ?_)
                       · exact rfl
                       · exact wanted_some rfl rfl rfl rfl
                       intro K hK
                       apply Exists.intro
                       refine ⟨fun w3 hw3 => ?_, ?_⟩
                       · have hcs := hw3
                         simp only [CellsL, List.mem_cons, forall_eq_or_imp, List.not_mem_nil, false_implies, implies_true, and_true] at hcs
                         clear hw3
                         go_simp
                         first | done | exact ⟨rfl, rfl⟩ | rfl
                       refine hK _ ?_
                       clear hK K
                       try simp only [Act.put, List.setIfInBounds_toArray, List.set_cons_zero, List.set_cons_succ]))
                  refine mem_cur 101 b R (U + 2 + 2) (U + 2 + 2 + 2) Qi (Qn (gs'.length : Int)) Qi.one (Qn.one _) p3 (.int .i64 0) hRb (by rfl) (by rfl) (by rfl) (by rfl) (by decide) (by rfl) (fun w3 hw3 hc3 hp3' hu3 => ?_) (fun v9 hv9 => ?_)
                  · go_simp
                    refine (pick_any _ b R _ _ hu3 (by omega) (by omega)).mono ?_
                    rintro e w4 ⟨v, hv, hv2, rfl, c4, k4, z4⟩
                    exact retPost.mk_ ⟨⟨v, hv, rfl⟩, c4, k4⟩
                  obtain ⟨i, hi, rfl⟩ := hv9
                  have hin : i < gs'.length := by omega
                  try simp only [Act.put, List.setIfInBounds_toArray, List.set_cons_zero, List.set_cons_succ]
                  repeat (first
                    | ((with_reducible refine mem_pure0 ?_ ?_ ?_)
                       · exact rfl
                       · exact rfl
                       intro K hK
                       apply Exists.intro
                       refine ⟨fun w3 hw3 => ?_, ?_⟩
                       · have hcs := hw3
                         simp only [CellsL, List.mem_cons, forall_eq_or_imp, List.not_mem_nil, false_implies, implies_true, and_true] at hcs
                         clear hw3
                         go_simp
                         first | done | exact ⟨rfl, rfl⟩ | rfl
                       refine hK _ ?_
                       clear hK K
                       try simp only [Act.put, List.setIfInBounds_toArray, List.set_cons_zero, List.set_cons_succ])
                    | ((with_reducible refine mem_skip ?_ ?_ ?_)
                       · exact rfl
                       · exact wanted_not rfl rfl rfl rfl
                       simp only [Act.put, List.setIfInBounds_toArray, List.set_cons_zero, List.set_cons_succ])
                    | ((with_reducible refine mem_pure ?_ ?_ ?_)
                       · exact rfl
                       · exact wanted_some rfl rfl rfl rfl
                       intro K hK
                       apply Exists.intro
                       refine ⟨fun w3 hw3 => ?_, ?_⟩
                       · have hcs := hw3
                         simp only [CellsL, List.mem_cons, forall_eq_or_imp, List.not_mem_nil, false_implies, implies_true, and_true] at hcs
                         clear hw3
                         go_simp
                         first | done | exact ⟨rfl, rfl⟩ | rfl
                       refine hK _ ?_
                       clear hK K
                       try simp only [Act.put, List.setIfInBounds_toArray, List.set_cons_zero, List.set_cons_succ]))
                  refine mem_any Qg Qg.one (by rfl) (by rfl) (fun w3 hw3 hc3 hp3' => ?_) (fun v9 hv9 => ?_)
                  · have h5 : OwnG w3 (w.heap.size + 1) w3.heap.size (.slice (some ⟨g, 0, none⟩) gs'.length ca') gs'.length gs' := (has_dep (d := 100) (by decide) hp3' (by rfl) (by rfl)).1
                    obtain ⟨b9, o9, h1, h2, h3⟩ := h5.reads.2 (Nat.pos_of_ne_zero hg0)
                    simp only [Option.some.injEq, Addr.mk.injEq, and_true] at h1
                    obtain ⟨rfl, rfl⟩ := h1
                    obtain ⟨d0, d1, d2⟩ := h3 i hin
                    simp only [Nat.zero_add] at d0 d1 d2
                    go_simp
                    exact ⟨⟨_, _, _, rfl⟩, Below.refl _ _⟩
                  obtain ⟨k9, a9, b9, rfl⟩ := hv9
                  try simp only [Act.put, List.setIfInBounds_toArray, List.set_cons_zero, List.set_cons_succ]
                  focus
                    (with_reducible refine mem_box [.int .i64 0, .int .i64 0, .int .i64 0] ?_ ?_ ?_ ?_ (hw := ?_))
                    · exact rfl
                    · exact rfl
                    · intro w3 hw3 hc3 hp3
                      have hcs := hc3
                      simp only [CellsL, List.mem_cons, forall_eq_or_imp, List.not_mem_nil, false_implies, implies_true, and_true] at hcs
                      (go_simp; exact postBox.new w3 [.int .i64 0, .int .i64 0, .int .i64 0] _ ⟨box_cell _ _ 0 _ rfl, box_cell _ _ 1 _ rfl, box_cell _ _ 2 _ rfl, trivial⟩)
                    rotate_left
                    · first | exact wanted_none rfl | exact wanted_some rfl rfl rfl rfl
                    intro B
                    try simp only [Act.put, List.setIfInBounds_toArray, List.set_cons_zero, List.set_cons_succ]
                  refine wpSep_end ?_
                  intro wy hwy hcy hfin hap
                  have hC4 : Cur wy b R (U + 2 + 2 + 2) ∧ ∀ i, R i → i < wy.heap.size ∧ wy.heap[i]? = p3.heap[i]? := hfin.1.1
                  have hBx := hfin.2.1.1 B rfl
                  have hG4 : OwnG wy (w.heap.size + 1) wy.heap.size (.slice (some ⟨g, 0, none⟩) gs'.length ca') gs'.length gs' := hfin.2.2.1.1
                  have hBok : okB p3 (fun i => (i = b ∨ R i) ∨ i = g) B := (hfin.2.1.2 B rfl).1
                  have hB1 : ¬ (B = b ∨ R B) := fun hc => hap 15 (by decide) 12 (by decide) (by decide) B rfl hc
                  have hB2 : B ≠ g := fun hc => hap 15 (by decide) 100 (by decide) (by decide) B rfl (by subst hc; rfl)
                  have hBl : p3.heap.size ≤ B := hBok.elim (fun h => h) (fun h => absurd h (fun hc => hc.elim hB1 hB2))
                  have k4 := alt_back (own := fun i => i = g) q3 hwy (fun i hi => by subst hi; omega) (fun i hi => (hC4.2 i hi).2)
                  have hSn : ∀ i, w.heap.size + 1 ≤ i → i < p3.heap.size → i ≠ g → ¬ okB p3 (fun i => (i = b ∨ R i) ∨ i = g) i := fun i h1 h2 h3 hc => by
                    rcases hc with h | (h | h) | h
                    · omega
                    · have h' : i = b := h; omega
                    · have := hR _ h; omega
                    · exact h3 h
                  have hSM := hSn M (by omega) (by omega) (fun e => hgM e.symm)
                  have p4 : PX wy (w.heap.size + 1) M ⟨x, y, gs', os⟩ (some ⟨g, 0, none⟩) ca' O co := ⟨hp3.bx.alt hwy hSM, hp3.fz.alt hwy hp3.lt hSM, ⟨⟨hG4, (hp3.ox.1.2.1.alt hwy (fun q hq => hSn q (hp3.ox.1.2.1.lt q hq).1 (hp3.ox.1.2.1.lt q hq).2.2 (fun e => hp3.ox.1.2.2 g rfl (e ▸ hq)))).now, hp3.ox.1.2.2⟩, hp3.ox.2⟩⟩
                  obtain ⟨hBlt, ⟨c0, c1, c2, _⟩, hBf⟩ := hBx
                  have fB0 := hBf 0; have fB1 := hBf 1; have fB2 := hBf 2
                  have hs4 : p3.heap.size ≤ wy.heap.size := hwy.size
                  have kB : Alt (fun i => i = B) wy (((wy.setCell ⟨B, 0, none⟩ (.int .i64 k9)).setCell ⟨B, 1, none⟩ (.int .i64 a9)).setCell ⟨B, 2, none⟩ (.int .i64 b9)) := (((Alt.refl_ (fun i => i = B) wy).set_ ⟨B, 0, none⟩ _ (fun _ => rfl)).set_ ⟨B, 1, none⟩ _ (fun _ => rfl)).set_ ⟨B, 2, none⟩ _ (fun _ => rfl)
                  have p5 := PX.altB p4 kB (by omega) (fun g hg => by have := hp3.ox.1.1.lt g hg; omega) (fun g hg => by have := hp3.ox.1.2.1.lt g hg; omega)
                  have u5 := hC4.1.alt kB (fun e => hB1 (.inl e.symm)) (fun i hi e => hB1 (.inr (e ▸ hi)))
                  have q5 := k4.trans_ (S := fun i => i = b) kB (fun i hi e => by omega)
                  have hs5 : M + 1 ≤ (((wy.setCell ⟨B, 0, none⟩ (.int .i64 k9)).setCell ⟨B, 1, none⟩ (.int .i64 a9)).setCell ⟨B, 2, none⟩ (.int .i64 b9)).heap.size := by simp; omega
                  clear hfin hap hcy hwy hp3 u3 q3 k4 p4 hC4 hG4 hBok kB m0 m1 m2 m3 hBf
                  go_wp2_with fail
                  refine (gateX_any (w.heap.size + 1) M ⟨x, y, gs', os⟩ (some ⟨g, 0, none⟩) ca' O co _ _ _ _ p5 ⟨x0, x1⟩ ⟨y0, y1⟩ (by simp; omega) (by omega)).mono ?_
                  rintro e wz ⟨A7, c7, rfl, hp7, k7, o7⟩
                  have u7 := u5.alt k7 hSb hSR
                  have q7 := q5.trans_ (S := fun i => i = b) k7 (fun i hi hT => hT.elim (fun h => by omega) (fun h => by have := hgA i h; omega))
                  dsimp only at hp7
                  clear k7 o7
                  go_wp2
                  go_roundw
                  case rel => exact ⟨j, _, A7, c7, _, by omega, by go_num, hp7, by simp; omega, u7, by omega, q7⟩
                  case measure => simp [intOf] <;> omega
end Go.Proofs.Ytikgagjoapggnaa
namespace Go.Proofs.Ytikgagjoapggnaa
open Go.RowKit
set_option linter.unusedVariables false
set_option linter.unusedSimpArgs false
attribute [local go_sem] sepAt sepUpon pureAt pureUpon
def tblk (Y : Option Addr) (n : Nat) : Nat → Prop := fun q => 0 < n ∧ ∃ o, Y = some ⟨q, o, none⟩
theorem Cur.new {w : World} {Y : Option Addr} {n c : Nat} (hY : RY w Y n) : Cur (w.alloc (.cells #[.slice Y n c, .int .i64 0, .int .u64 0] 59)) w.heap.size (tblk Y n) 0 :=
  ⟨Fz.new w _ _, by simp, Y, n, c, 0, 0, box_cell _ _ 0 _ rfl, box_cell _ _ 1 _ rfl, box_cell _ _ 2 _ rfl, Nat.le_refl _, hY.alt (Alt.of_new (S := fun _ => False) ((Below.refl _ _).alloc (Nat.le_refl _) _)) (fun _ _ _ _ h => h), fun hn q o hq => ⟨⟨hn, o, hq⟩, by
    obtain ⟨b, o', h1, h2, _⟩ := hY.2 hn
    rw [hq] at h1; injection h1 with h1; injection h1 with h3 h4; omega⟩⟩
theorem tblk_lt {w : World} {Y : Option Addr} {n : Nat} (hY : RY w Y n) : ∀ i, tblk Y n i → i < w.heap.size := by
  rintro i ⟨hn, o, hq⟩
  obtain ⟨b, o', h1, h2, _⟩ := hY.2 hn
  rw [hq] at h1; injection h1 with h1; injection h1 with h3 h4; omega
def RetDc (w : World) (e : Ending) (w' : World) : Prop :=
  ∃ (C : Ci) (A : Option Addr) (ca : Nat) (O : Option Addr) (co : Nat), e = .returned (.agg #[.int .i64 C.i0, .int .i64 C.i1, .slice A C.gs.length ca, .slice O C.os.length co]) ∧ OwnC w' w.heap.size w'.heap.size A C.gs.length ca O C.os.length co C.gs C.os ∧ C.gs.length ≤ 310 ∧ C.os.length ≤ 50 ∧ Below w.heap.size w w'
def RetDb (w : World) (e : Ending) (w' : World) : Prop :=
  ∃ (C D : Ci) (A : Option Addr) (ca : Nat) (O : Option Addr) (co : Nat) (A2 : Option Addr) (ca2 : Nat) (O2 : Option Addr) (co2 : Nat), e = .returned (.tuple #[.agg #[.int .i64 C.i0, .int .i64 C.i1, .slice A C.gs.length ca, .slice O C.os.length co], .agg #[.int .i64 D.i0, .int .i64 D.i1, .slice A2 D.gs.length ca2, .slice O2 D.os.length co2]]) ∧
    OwnC w' w.heap.size w'.heap.size A C.gs.length ca O C.os.length co C.gs C.os ∧ C.gs.length ≤ 310 ∧ C.os.length ≤ 50 ∧ OwnC w' w.heap.size w'.heap.size A2 D.gs.length ca2 O2 D.os.length co2 D.gs D.os ∧ D.gs.length ≤ 310 ∧ D.os.length ≤ 50 ∧ Below w.heap.size w w'
theorem RetDc.of_ {w a1 : World} {S : Nat → Prop} {x y : Int} {gs : List G3} {os : List Int} {A : Option Addr} {ca : Nat} {O : Option Addr} {co lo : Nat} (k : Alt S w a1) (hS : ∀ i, i < w.heap.size → ¬ S i) (ho : OwnC a1 lo a1.heap.size A gs.length ca O os.length co gs os) (hlo : w.heap.size < lo) (hng : gs.length ≤ 310) (hno : os.length ≤ 50) :
    RetDc w (.returned (.agg #[.int .i64 x, .int .i64 y, .slice A gs.length ca, .slice O os.length co])) ((((a1.setCell ⟨w.heap.size, 0, none⟩ (.int .i64 x)).setCell ⟨w.heap.size, 1, none⟩ (.int .i64 y)).setCell ⟨w.heap.size, 2, none⟩ (.slice A gs.length ca)).setCell ⟨w.heap.size, 3, none⟩ (.slice O os.length co)) := by
  refine ⟨⟨x, y, gs, os⟩, A, ca, O, co, rfl, ?_, hng, hno, below_set4 (k.below_ (Nat.le_refl _) hS) (Nat.le_refl _) _ _ _ _ _ _ _ _⟩
  rw [set4_size]
  exact (ho.set4 (.inl hlo) _ _ _ _ _ _ _ _).lo_ (by omega)
end Go.Proofs.Ytikgagjoapggnaa
