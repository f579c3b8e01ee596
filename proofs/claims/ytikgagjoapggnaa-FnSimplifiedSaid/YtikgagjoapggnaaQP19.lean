/- SimplifyCircuit, the reference: exclusive-or and and of what wires become. Lengths below 2^17. Words for the circuit in the making and the wires' new places, in two boxes with a row each. No condition. Words for the reference's MergeGates: the circuit in the making, the row of the wires' new places. No condition. -/
import Derived.Test.YtikgagjoapggnaaQP18
import Derived.Test.YtikgagjoapggnaaQP16
import Derived.Test.YtikgagjoapggnaaQP15
import Derived.Test.YtikgagjoapggnaaQP07
namespace Go.Proofs.Ytikgagjoapggnaa
open Go.RowKit
set_option linter.unusedVariables false
set_option linter.unusedSimpArgs false
theorem sT_bit (t : Tb) : sT t = if (t.c != t.t) then 1 else 0 := by
  obtain ⟨c, w, u⟩ := t; cases c <;> cases u <;> rfl
theorem sT_xor {t u : Tb} (z : Tb) {a d : Int} (ha : sT t = a) (hd : sT u = d) (h : (z.c != z.t) = ((t.c != t.t) != (u.c != u.t))) : sT z = bits .xor .i64 a d := by
  subst ha; subst hd
  rw [sT_bit, sT_bit, sT_bit, h]
  cases (t.c != t.t) <;> cases (u.c != u.t) <;> rfl
set_option maxRecDepth 100000 in
set_option maxHeartbeats 4000000 in
theorem siXor_any (lo b : Nat) (x y : Int) (Ao : Option Addr) (no co : Nat) (gs : List G3) (G : Option Nat) (X : Nat) (t u : Tb) (w : World) (hm : MkO w lo b x y Ao no co gs G) (hx : 0 ≤ x ∧ x ≤ 20) (hy : 0 ≤ y ∧ y ≤ 20) (hn : gs.length ≤ 80000) (hlo : lo ≤ w.heap.size) (hXe : Hid (x + y = (X : Int))) (hgs : GsOk X gs) (ht : TbOk ((X : Int) + gs.length) t) (hu : TbOk ((X : Int) + gs.length) u) :
    Calls Try.prog 54 #[.pointer (some ⟨b, 0, none⟩), .agg #[.int .i64 (sW t), .int .i64 (sT t)], .agg #[.int .i64 (sW u), .int .i64 (sT u)]] w (RetVO lo b x y Ao no co (xorT X gs t u).1 G (.agg #[.int .i64 (sW (xorT X gs t u).2), .int .i64 (sT (xorT X gs t u).2)]) w) := by
  obtain ⟨c1, w1, t1⟩ := t
  obtain ⟨c2, w2, t2⟩ := u
  obtain ⟨a, ha⟩ : ∃ a, Hid (sT ⟨c1, w1, t1⟩ = a) := ⟨_, Lib.hid rfl⟩
  obtain ⟨d, hd⟩ : ∃ a, Hid (sT ⟨c2, w2, t2⟩ = a) := ⟨_, Lib.hid rfl⟩
  have BX := fun (z : Tb) (h : (z.c != z.t) = ((c1 != t1) != (c2 != t2))) => Lib.hid (sT_xor z ha.out hd.out h)
  rw [ha.out, hd.out]
  cases c1 with
  | true =>
    obtain ⟨q, hq⟩ : ∃ a, Hid (sW ⟨c2, w2, t2⟩ = a) := ⟨_, Lib.hid rfl⟩
    have HG : Hid ((xorT X gs ⟨true, w1, t1⟩ ⟨c2, w2, t2⟩).1 = gs) := Lib.hid (by simp [xorT])
    have HV1 : Hid (sW (xorT X gs ⟨true, w1, t1⟩ ⟨c2, w2, t2⟩).2 = q) := Lib.hid (by rw [← hq.out]; simp [xorT, sW, Tb.by_])
    have HV2 : Hid (sT (xorT X gs ⟨true, w1, t1⟩ ⟨c2, w2, t2⟩).2 = bits .xor .i64 a d) := (BX _ (by cases c2 <;> cases t1 <;> cases t2 <;> simp [xorT, Tb.by_]))
    rw [show sW ⟨true, w1, t1⟩ = -1 from rfl, hq.out]
    clear ht hu
    go_enter Try.func54, Try.ntmps54
    go_wp2
    have q9 : Bx2 (((w.alloc (.cells #[.int .i64 (-1), .int .i64 a] 82)).alloc (.cells #[.int .i64 q, .int .i64 d] 82)).alloc (.cells #[.int .i64 q, .int .i64 (bits .xor .i64 a d)] 82)) (w.heap.size + 2) (.int .i64 q) (.int .i64 (bits .xor .i64 a d)) := by
      simpa using Bx2.new ((w.alloc (.cells #[.int .i64 (-1), .int .i64 a] 82)).alloc (.cells #[.int .i64 q, .int .i64 d] 82)) (.int .i64 q) (.int .i64 (bits .xor .i64 a d)) 82
    obtain ⟨q0, q1⟩ := q9
    refine bodyPost_ret (v := .agg #[.int .i64 q, .int .i64 (bits .xor .i64 a d)]) (by simp [results, Try.results54, go_sem, q0, q1]) rfl ?_
    exact ⟨G, by rw [HV1.out, HV2.out], by rw [HG.out]; exact ((hm.alloc_ _).alloc_ _).alloc_ _, (((Mv.refl_ b G w).alloc_ _).alloc_ _).alloc_ _⟩
  | false =>
    have hb1 := ht rfl
    dsimp only at hb1
    obtain ⟨p0, p1⟩ := hb1
    cases c2 with
    | true =>
      have HG : Hid ((xorT X gs ⟨false, w1, t1⟩ ⟨true, w2, t2⟩).1 = gs) := Lib.hid (by simp [xorT])
      have HV1 : Hid (sW (xorT X gs ⟨false, w1, t1⟩ ⟨true, w2, t2⟩).2 = w1) := Lib.hid (by simp [xorT, sW, Tb.by_])
      have HV2 : Hid (sT (xorT X gs ⟨false, w1, t1⟩ ⟨true, w2, t2⟩).2 = bits .xor .i64 a d) := (BX _ (by cases t1 <;> cases t2 <;> simp [xorT, Tb.by_]))
      rw [show sW ⟨true, w2, t2⟩ = -1 from rfl, show sW ⟨false, w1, t1⟩ = w1 from rfl]
      clear ht hu
      go_enter Try.func54, Try.ntmps54
      go_wp2
      have q9 : Bx2 (((w.alloc (.cells #[.int .i64 w1, .int .i64 a] 82)).alloc (.cells #[.int .i64 (-1), .int .i64 d] 82)).alloc (.cells #[.int .i64 w1, .int .i64 (bits .xor .i64 a d)] 82)) (w.heap.size + 2) (.int .i64 w1) (.int .i64 (bits .xor .i64 a d)) := by
        simpa using Bx2.new ((w.alloc (.cells #[.int .i64 w1, .int .i64 a] 82)).alloc (.cells #[.int .i64 (-1), .int .i64 d] 82)) (.int .i64 w1) (.int .i64 (bits .xor .i64 a d)) 82
      obtain ⟨q0, q1⟩ := q9
      refine bodyPost_ret (v := .agg #[.int .i64 w1, .int .i64 (bits .xor .i64 a d)]) (by simp [results, Try.results54, go_sem, q0, q1]) rfl ?_
      exact ⟨G, by rw [HV1.out, HV2.out], by rw [HG.out]; exact ((hm.alloc_ _).alloc_ _).alloc_ _, (((Mv.refl_ b G w).alloc_ _).alloc_ _).alloc_ _⟩
    | false =>
      have hb2 := hu rfl
      dsimp only at hb2
      obtain ⟨q0, q1⟩ := hb2
      rw [show sW ⟨false, w2, t2⟩ = w2 from rfl, show sW ⟨false, w1, t1⟩ = w1 from rfl]
      by_cases hw : w1 = w2
      · subst hw
        have HG : Hid ((xorT X gs ⟨false, w1, t1⟩ ⟨false, w1, t2⟩).1 = gs) := Lib.hid (by simp [xorT])
        have HV1 : Hid (sW (xorT X gs ⟨false, w1, t1⟩ ⟨false, w1, t2⟩).2 = -1) := Lib.hid (by simp [xorT, sW])
        have HV2 : Hid (sT (xorT X gs ⟨false, w1, t1⟩ ⟨false, w1, t2⟩).2 = bits .xor .i64 a d) := (BX _ (by cases t1 <;> cases t2 <;> simp [xorT]))
        clear ht hu
        go_enter Try.func54, Try.ntmps54
        go_wp2
        have q9 : Bx2 (((w.alloc (.cells #[.int .i64 w1, .int .i64 a] 82)).alloc (.cells #[.int .i64 w1, .int .i64 d] 82)).alloc (.cells #[.int .i64 (-1), .int .i64 (bits .xor .i64 a d)] 82)) (w.heap.size + 2) (.int .i64 (-1)) (.int .i64 (bits .xor .i64 a d)) := by
          simpa using Bx2.new ((w.alloc (.cells #[.int .i64 w1, .int .i64 a] 82)).alloc (.cells #[.int .i64 w1, .int .i64 d] 82)) (.int .i64 (-1)) (.int .i64 (bits .xor .i64 a d)) 82
        obtain ⟨q0, q1⟩ := q9
        refine bodyPost_ret (v := .agg #[.int .i64 (-1), .int .i64 (bits .xor .i64 a d)]) (by simp [results, Try.results54, go_sem, q0, q1]) rfl ?_
        exact ⟨G, by rw [HV1.out, HV2.out], by rw [HG.out]; exact ((hm.alloc_ _).alloc_ _).alloc_ _, (((Mv.refl_ b G w).alloc_ _).alloc_ _).alloc_ _⟩
      · have z1 : (w1 == w2) = false := by simpa using hw
        obtain ⟨Z, hZ⟩ : ∃ Z, Hid (onceG gs ⟨0, w1, w2⟩ = Z) := ⟨_, Lib.hid rfl⟩
        obtain ⟨V, hV⟩ : ∃ Z, Hid (onceW X gs ⟨0, w1, w2⟩ = Z) := ⟨_, Lib.hid rfl⟩
        have HG : Hid ((xorT X gs ⟨false, w1, t1⟩ ⟨false, w2, t2⟩).1 = Z) := Lib.hid (by rw [← hZ.out]; simp [xorT, hw])
        have HV1 : Hid (sW (xorT X gs ⟨false, w1, t1⟩ ⟨false, w2, t2⟩).2 = V) := Lib.hid (by rw [← hV.out]; simp [xorT, hw, sW])
        have HV2 : Hid (sT (xorT X gs ⟨false, w1, t1⟩ ⟨false, w2, t2⟩).2 = bits .xor .i64 a d) := (BX _ (by cases t1 <;> cases t2 <;> simp [xorT, hw]))
        clear ht hu hw
        obtain ⟨W3, hW3⟩ : ∃ W3, W3 = (((w.alloc (.cells #[.int .i64 w1, .int .i64 a] 82)).alloc (.cells #[.int .i64 w2, .int .i64 d] 82)).alloc (.cells #[.int .i64 0, .int .i64 0] 82)) := ⟨_, rfl⟩
        have hbA : Below w.heap.size w W3 := by subst hW3; exact (((Below.refl _ _).alloc (Nat.le_refl _) _).alloc (by simp) _).alloc (by first | (simp; done) | (simp; omega)) _
        have hsA : W3.heap.size = w.heap.size + 3 := by subst hW3; simp
        have x4 : Bx2 W3 w.heap.size (.int .i64 w1) (.int .i64 a) := by subst hW3; exact (Bx2.new w _ _ _).bel (B := w.heap.size + 1) (((Below.refl _ _).alloc (by simp) _).alloc (by first | (simp; done) | (simp; omega)) _) (by omega)
        have y4 : Bx2 W3 (w.heap.size + 1) (.int .i64 w2) (.int .i64 d) := by
          subst hW3
          have h := (Bx2.new (w.alloc (.cells #[.int .i64 w1, .int .i64 a] 82)) (.int .i64 w2) (.int .i64 d) 82).bel (B := w.heap.size + 2) ((Below.refl _ _).alloc (by simp) (.cells #[.int .i64 0, .int .i64 0] 82)) (by simp)
          simpa using h
        have r4 : Bx2 W3 (w.heap.size + 2) (.int .i64 0) (.int .i64 0) := by
          subst hW3
          simpa using Bx2.new ((w.alloc (.cells #[.int .i64 w1, .int .i64 a] 82)).alloc (.cells #[.int .i64 w2, .int .i64 d] 82)) (.int .i64 0) (.int .i64 0) 82
        have f4 : Fz W3 (w.heap.size + 2) := by
          subst hW3
          simpa using Fz.new ((w.alloc (.cells #[.int .i64 w1, .int .i64 a] 82)).alloc (.cells #[.int .i64 w2, .int .i64 d] 82)) #[.int .i64 0, .int .i64 0] 82
        have hmA := hm.below_ hbA (Nat.le_refl _)
        have hvA := (Mv.refl_ b G w).below_ hbA (Nat.le_refl _)
        have off : ∀ i, w.heap.size ≤ i → OffB b G i := fun i hi => ⟨by have := hm.1; omega, fun hc => by have := (hm.lt _ hc).2; omega⟩
        have hlA := Nat.le_trans hlo hvA.size
        have HWW := Lib.hid hW3; clear hW3
        go_enter Try.func54, Try.ntmps54
        go_wp2_with fail
        rw [← HWW.out]
        refine (siGate_any lo b x y Ao no co gs G X 0 w1 w2 _ _ hmA hx hy (by omega) hlA hXe hgs (gate_xor p0 p1 q0 q1)).mono ?_
        rintro e w5 ⟨G5, rfl, hm5, hv5⟩
        rw [hZ.out] at hm5
        rw [hV.out]
        clear q0 q1
        have hr9 := r4.mv hv5 (off _ (by omega)); obtain ⟨j0, j1⟩ := hr9
        have hf9 := f4.mvO hv5 (by omega) (off _ (by omega))
        have e0 := hf9 0; have e1 := hf9 1
        have q9 := (r4.mv hv5 (off _ (by omega))).set (.int .i64 V) (.int .i64 (bits .xor .i64 a d))
        go_wp2
        obtain ⟨q0, q1⟩ := q9
        refine bodyPost_ret (v := .agg #[.int .i64 V, .int .i64 (bits .xor .i64 a d)]) (by simp [results, Try.results54, go_sem, q0, q1]) rfl ?_
        exact ⟨G5, by rw [HV1.out, HV2.out], by rw [HG.out]; exact (hm5).set2 (hv5.offF (by omega) (off _ (by omega))) _ _, (hvA.trans_ hv5).set2 (by omega) _ _⟩
set_option maxRecDepth 100000 in
set_option maxHeartbeats 4000000 in
theorem siAnd_any (lo b : Nat) (x y : Int) (Ao : Option Addr) (no co : Nat) (gs : List G3) (G : Option Nat) (X : Nat) (t u : Tb) (w : World) (hm : MkO w lo b x y Ao no co gs G) (hx : 0 ≤ x ∧ x ≤ 20) (hy : 0 ≤ y ∧ y ≤ 20) (hn : gs.length ≤ 80000) (hlo : lo ≤ w.heap.size) (hXe : Hid (x + y = (X : Int))) (hgs : GsOk X gs) (ht : TbOk ((X : Int) + gs.length) t) (hu : TbOk ((X : Int) + gs.length) u) :
    Calls Try.prog 55 #[.pointer (some ⟨b, 0, none⟩), .agg #[.int .i64 (sW t), .int .i64 (sT t)], .agg #[.int .i64 (sW u), .int .i64 (sT u)]] w (RetVO lo b x y Ao no co (andT X gs t u).1 G (.agg #[.int .i64 (sW (andT X gs t u).2), .int .i64 (sT (andT X gs t u).2)]) w) := by
  obtain ⟨c1, w1, t1⟩ := t
  obtain ⟨c2, w2, t2⟩ := u
  cases c1 with
  | true =>
    cases t1 with
    | true =>
      obtain ⟨q, hq⟩ : ∃ a, Hid (sW ⟨c2, w2, t2⟩ = a) := ⟨_, Lib.hid rfl⟩
      obtain ⟨d, hd⟩ : ∃ a, Hid (sT ⟨c2, w2, t2⟩ = a) := ⟨_, Lib.hid rfl⟩
      rw [hq.out, hd.out]
      rw [show sW ⟨true, w1, true⟩ = -1 from rfl, show sT ⟨true, w1, true⟩ = 0 from rfl]
      clear ht hu
      have HG : Hid ((andT X gs ⟨true, w1, true⟩ ⟨c2, w2, t2⟩).1 = gs) := Lib.hid (by simp [andT, sW, sT])
      have HV1 : Hid (sW (andT X gs ⟨true, w1, true⟩ ⟨c2, w2, t2⟩).2 = -1) := Lib.hid (by simp [andT, sW, sT])
      have HV2 : Hid (sT (andT X gs ⟨true, w1, true⟩ ⟨c2, w2, t2⟩).2 = 0) := Lib.hid (by simp [andT, sW, sT])
      go_enter Try.func55, Try.ntmps55
      go_wp2
      have q9 : Bx2 (((w.alloc (.cells #[.int .i64 (-1), .int .i64 0] 82)).alloc (.cells #[.int .i64 q, .int .i64 d] 82)).alloc (.cells #[.int .i64 (-1), .int .i64 0] 82)) (w.heap.size + 2) (.int .i64 (-1)) (.int .i64 0) := by
        simpa using Bx2.new ((w.alloc (.cells #[.int .i64 (-1), .int .i64 0] 82)).alloc (.cells #[.int .i64 q, .int .i64 d] 82)) (.int .i64 (-1)) (.int .i64 0) 82
      obtain ⟨q0, q1⟩ := q9
      refine bodyPost_ret (v := .agg #[.int .i64 (-1), .int .i64 0]) (by simp [results, Try.results55, go_sem, q0, q1]) rfl ?_
      exact ⟨G, by rw [HV1.out, HV2.out], by rw [HG.out]; exact ((hm.alloc_ _).alloc_ _).alloc_ _, (((Mv.refl_ b G w).alloc_ _).alloc_ _).alloc_ _⟩
    | false =>
      cases c2 with
      | true =>
        cases t2 with
        | true =>
          rw [show sW ⟨true, w1, false⟩ = -1 from rfl, show sT ⟨true, w1, false⟩ = 1 from rfl, show sW ⟨true, w2, true⟩ = -1 from rfl, show sT ⟨true, w2, true⟩ = 0 from rfl]
          clear ht hu
          have HG : Hid ((andT X gs ⟨true, w1, false⟩ ⟨true, w2, true⟩).1 = gs) := Lib.hid (by simp [andT, sW, sT])
          have HV1 : Hid (sW (andT X gs ⟨true, w1, false⟩ ⟨true, w2, true⟩).2 = (-1)) := Lib.hid (by simp [andT, sW, sT])
          have HV2 : Hid (sT (andT X gs ⟨true, w1, false⟩ ⟨true, w2, true⟩).2 = 0) := Lib.hid (by simp [andT, sW, sT])
          go_enter Try.func55, Try.ntmps55
          go_wp2
          have q9 : Bx2 (((w.alloc (.cells #[.int .i64 (-1), .int .i64 1] 82)).alloc (.cells #[.int .i64 (-1), .int .i64 0] 82)).alloc (.cells #[.int .i64 (-1), .int .i64 0] 82)) (w.heap.size + 2) (.int .i64 (-1)) (.int .i64 0) := by
            simpa using Bx2.new ((w.alloc (.cells #[.int .i64 (-1), .int .i64 1] 82)).alloc (.cells #[.int .i64 (-1), .int .i64 0] 82)) (.int .i64 (-1)) (.int .i64 0) 82
          obtain ⟨q0, q1⟩ := q9
          refine bodyPost_ret (v := .agg #[.int .i64 (-1), .int .i64 0]) (by simp [results, Try.results55, go_sem, q0, q1]) rfl ?_
          exact ⟨G, by rw [HV1.out, HV2.out], by rw [HG.out]; exact ((hm.alloc_ _).alloc_ _).alloc_ _, (((Mv.refl_ b G w).alloc_ _).alloc_ _).alloc_ _⟩
        | false =>
          rw [show sW ⟨true, w1, false⟩ = -1 from rfl, show sT ⟨true, w1, false⟩ = 1 from rfl, show sW ⟨true, w2, false⟩ = -1 from rfl, show sT ⟨true, w2, false⟩ = 1 from rfl]
          clear ht hu
          have HG : Hid ((andT X gs ⟨true, w1, false⟩ ⟨true, w2, false⟩).1 = gs) := Lib.hid (by simp [andT, sW, sT])
          have HV1 : Hid (sW (andT X gs ⟨true, w1, false⟩ ⟨true, w2, false⟩).2 = (-1)) := Lib.hid (by simp [andT, sW, sT])
          have HV2 : Hid (sT (andT X gs ⟨true, w1, false⟩ ⟨true, w2, false⟩).2 = 1) := Lib.hid (by simp [andT, sW, sT])
          go_enter Try.func55, Try.ntmps55
          go_wp2
          have q9 : Bx2 (((w.alloc (.cells #[.int .i64 (-1), .int .i64 1] 82)).alloc (.cells #[.int .i64 (-1), .int .i64 1] 82)).alloc (.cells #[.int .i64 (-1), .int .i64 1] 82)) (w.heap.size + 2) (.int .i64 (-1)) (.int .i64 1) := by
            simpa using Bx2.new ((w.alloc (.cells #[.int .i64 (-1), .int .i64 1] 82)).alloc (.cells #[.int .i64 (-1), .int .i64 1] 82)) (.int .i64 (-1)) (.int .i64 1) 82
          obtain ⟨q0, q1⟩ := q9
          refine bodyPost_ret (v := .agg #[.int .i64 (-1), .int .i64 1]) (by simp [results, Try.results55, go_sem, q0, q1]) rfl ?_
          exact ⟨G, by rw [HV1.out, HV2.out], by rw [HG.out]; exact ((hm.alloc_ _).alloc_ _).alloc_ _, (((Mv.refl_ b G w).alloc_ _).alloc_ _).alloc_ _⟩
      | false =>
        rw [show sW ⟨true, w1, false⟩ = -1 from rfl, show sT ⟨true, w1, false⟩ = 1 from rfl]
        rw [show sW ⟨false, w2, t2⟩ = w2 from rfl]
        obtain ⟨d, hd⟩ : ∃ a, Hid (sT ⟨false, w2, t2⟩ = a) := ⟨_, Lib.hid rfl⟩
        rw [hd.out]
        have hb2 := hu rfl
        dsimp only at hb2
        obtain ⟨q0, q1⟩ := hb2
        clear ht hu
        have HG : Hid ((andT X gs ⟨true, w1, false⟩ ⟨false, w2, t2⟩).1 = gs) := Lib.hid (by first | (rw [← hd.out]; simp [andT]; done) | simp [andT, sW])
        have HV1 : Hid (sW (andT X gs ⟨true, w1, false⟩ ⟨false, w2, t2⟩).2 = w2) := Lib.hid (by first | (rw [← hd.out]; simp [andT]; done) | simp [andT, sW])
        have HV2 : Hid (sT (andT X gs ⟨true, w1, false⟩ ⟨false, w2, t2⟩).2 = d) := Lib.hid (by first | (rw [← hd.out]; simp [andT]; done) | simp [andT, sW])
        go_enter Try.func55, Try.ntmps55
        go_wp2
        have q9 : Bx2 (((w.alloc (.cells #[.int .i64 (-1), .int .i64 1] 82)).alloc (.cells #[.int .i64 w2, .int .i64 d] 82)).alloc (.cells #[.int .i64 w2, .int .i64 d] 82)) (w.heap.size + 2) (.int .i64 w2) (.int .i64 d) := by
          simpa using Bx2.new ((w.alloc (.cells #[.int .i64 (-1), .int .i64 1] 82)).alloc (.cells #[.int .i64 w2, .int .i64 d] 82)) (.int .i64 w2) (.int .i64 d) 82
        obtain ⟨q0, q1⟩ := q9
        refine bodyPost_ret (v := .agg #[.int .i64 w2, .int .i64 d]) (by simp [results, Try.results55, go_sem, q0, q1]) rfl ?_
        exact ⟨G, by rw [HV1.out, HV2.out], by rw [HG.out]; exact ((hm.alloc_ _).alloc_ _).alloc_ _, (((Mv.refl_ b G w).alloc_ _).alloc_ _).alloc_ _⟩
  | false =>
    have hb1 := ht rfl
    dsimp only at hb1
    obtain ⟨p0, p1⟩ := hb1
    obtain ⟨a, ha⟩ : ∃ a, Hid (sT ⟨false, w1, t1⟩ = a) := ⟨_, Lib.hid rfl⟩
    rw [ha.out]
    rw [show sW ⟨false, w1, t1⟩ = w1 from rfl]
    cases c2 with
    | true =>
      cases t2 with
      | true =>
        rw [show sW ⟨true, w2, true⟩ = -1 from rfl, show sT ⟨true, w2, true⟩ = 0 from rfl]
        clear ht hu
        have HG : Hid ((andT X gs ⟨false, w1, t1⟩ ⟨true, w2, true⟩).1 = gs) := Lib.hid (by simp [andT, sW, sT])
        have HV1 : Hid (sW (andT X gs ⟨false, w1, t1⟩ ⟨true, w2, true⟩).2 = -1) := Lib.hid (by simp [andT, sW, sT])
        have HV2 : Hid (sT (andT X gs ⟨false, w1, t1⟩ ⟨true, w2, true⟩).2 = 0) := Lib.hid (by simp [andT, sW, sT])
        go_enter Try.func55, Try.ntmps55
        go_wp2
        have q9 : Bx2 (((w.alloc (.cells #[.int .i64 w1, .int .i64 a] 82)).alloc (.cells #[.int .i64 (-1), .int .i64 0] 82)).alloc (.cells #[.int .i64 (-1), .int .i64 0] 82)) (w.heap.size + 2) (.int .i64 (-1)) (.int .i64 0) := by
          simpa using Bx2.new ((w.alloc (.cells #[.int .i64 w1, .int .i64 a] 82)).alloc (.cells #[.int .i64 (-1), .int .i64 0] 82)) (.int .i64 (-1)) (.int .i64 0) 82
        obtain ⟨q0, q1⟩ := q9
        refine bodyPost_ret (v := .agg #[.int .i64 (-1), .int .i64 0]) (by simp [results, Try.results55, go_sem, q0, q1]) rfl ?_
        exact ⟨G, by rw [HV1.out, HV2.out], by rw [HG.out]; exact ((hm.alloc_ _).alloc_ _).alloc_ _, (((Mv.refl_ b G w).alloc_ _).alloc_ _).alloc_ _⟩
      | false =>
        rw [show sW ⟨true, w2, false⟩ = -1 from rfl, show sT ⟨true, w2, false⟩ = 1 from rfl]
        clear ht hu
        have HG : Hid ((andT X gs ⟨false, w1, t1⟩ ⟨true, w2, false⟩).1 = gs) := Lib.hid (by first | (rw [← ha.out]; simp [andT]; done) | simp [andT, sW])
        have HV1 : Hid (sW (andT X gs ⟨false, w1, t1⟩ ⟨true, w2, false⟩).2 = w1) := Lib.hid (by first | (rw [← ha.out]; simp [andT]; done) | simp [andT, sW])
        have HV2 : Hid (sT (andT X gs ⟨false, w1, t1⟩ ⟨true, w2, false⟩).2 = a) := Lib.hid (by first | (rw [← ha.out]; simp [andT]; done) | simp [andT, sW])
        go_enter Try.func55, Try.ntmps55
        go_wp2
        have q9 : Bx2 (((w.alloc (.cells #[.int .i64 w1, .int .i64 a] 82)).alloc (.cells #[.int .i64 (-1), .int .i64 1] 82)).alloc (.cells #[.int .i64 w1, .int .i64 a] 82)) (w.heap.size + 2) (.int .i64 w1) (.int .i64 a) := by
          simpa using Bx2.new ((w.alloc (.cells #[.int .i64 w1, .int .i64 a] 82)).alloc (.cells #[.int .i64 (-1), .int .i64 1] 82)) (.int .i64 w1) (.int .i64 a) 82
        obtain ⟨q0, q1⟩ := q9
        refine bodyPost_ret (v := .agg #[.int .i64 w1, .int .i64 a]) (by simp [results, Try.results55, go_sem, q0, q1]) rfl ?_
        exact ⟨G, by rw [HV1.out, HV2.out], by rw [HG.out]; exact ((hm.alloc_ _).alloc_ _).alloc_ _, (((Mv.refl_ b G w).alloc_ _).alloc_ _).alloc_ _⟩
    | false =>
      have ht9 := ht; have hu9 := hu
      have hb2 := hu rfl
      dsimp only at hb2
      obtain ⟨q0, q1⟩ := hb2
      clear ht hu
      rw [show sW ⟨false, w2, t2⟩ = w2 from rfl]
      by_cases hw : w1 = w2
      · subst hw
        by_cases htt : t1 = t2
        · subst htt
          rw [ha.out]
          have HG : Hid ((andT X gs ⟨false, w1, t1⟩ ⟨false, w1, t1⟩).1 = gs) := Lib.hid (by first | (rw [← ha.out]; simp [andT]; done) | simp [andT, sW])
          have HV1 : Hid (sW (andT X gs ⟨false, w1, t1⟩ ⟨false, w1, t1⟩).2 = w1) := Lib.hid (by first | (rw [← ha.out]; simp [andT]; done) | simp [andT, sW])
          have HV2 : Hid (sT (andT X gs ⟨false, w1, t1⟩ ⟨false, w1, t1⟩).2 = a) := Lib.hid (by first | (rw [← ha.out]; simp [andT]; done) | simp [andT, sW])
          go_enter Try.func55, Try.ntmps55
          go_wp2
          have q9 : Bx2 (((w.alloc (.cells #[.int .i64 w1, .int .i64 a] 82)).alloc (.cells #[.int .i64 w1, .int .i64 a] 82)).alloc (.cells #[.int .i64 w1, .int .i64 a] 82)) (w.heap.size + 2) (.int .i64 w1) (.int .i64 a) := by
            simpa using Bx2.new ((w.alloc (.cells #[.int .i64 w1, .int .i64 a] 82)).alloc (.cells #[.int .i64 w1, .int .i64 a] 82)) (.int .i64 w1) (.int .i64 a) 82
          obtain ⟨q0, q1⟩ := q9
          refine bodyPost_ret (v := .agg #[.int .i64 w1, .int .i64 a]) (by simp [results, Try.results55, go_sem, q0, q1]) rfl ?_
          exact ⟨G, by rw [HV1.out, HV2.out], by rw [HG.out]; exact ((hm.alloc_ _).alloc_ _).alloc_ _, (((Mv.refl_ b G w).alloc_ _).alloc_ _).alloc_ _⟩
        · obtain ⟨d, hd⟩ : ∃ a, Hid (sT ⟨false, w1, t2⟩ = a) := ⟨_, Lib.hid rfl⟩
          rw [hd.out]
          have z2 : (a == d) = false := by rw [← ha.out, ← hd.out]; revert htt; cases t1 <;> cases t2 <;> simp [sT]
          have HG : Hid ((andT X gs ⟨false, w1, t1⟩ ⟨false, w1, t2⟩).1 = gs) := Lib.hid (by simp [andT, htt, sW, sT])
          have HV1 : Hid (sW (andT X gs ⟨false, w1, t1⟩ ⟨false, w1, t2⟩).2 = -1) := Lib.hid (by simp [andT, htt, sW, sT])
          have HV2 : Hid (sT (andT X gs ⟨false, w1, t1⟩ ⟨false, w1, t2⟩).2 = 0) := Lib.hid (by simp [andT, htt, sW, sT])
          go_enter Try.func55, Try.ntmps55
          go_wp2
          have q9 : Bx2 (((w.alloc (.cells #[.int .i64 w1, .int .i64 a] 82)).alloc (.cells #[.int .i64 w1, .int .i64 d] 82)).alloc (.cells #[.int .i64 (-1), .int .i64 0] 82)) (w.heap.size + 2) (.int .i64 (-1)) (.int .i64 0) := by
            simpa using Bx2.new ((w.alloc (.cells #[.int .i64 w1, .int .i64 a] 82)).alloc (.cells #[.int .i64 w1, .int .i64 d] 82)) (.int .i64 (-1)) (.int .i64 0) 82
          obtain ⟨q0, q1⟩ := q9
          refine bodyPost_ret (v := .agg #[.int .i64 (-1), .int .i64 0]) (by simp [results, Try.results55, go_sem, q0, q1]) rfl ?_
          exact ⟨G, by rw [HV1.out, HV2.out], by rw [HG.out]; exact ((hm.alloc_ _).alloc_ _).alloc_ _, (((Mv.refl_ b G w).alloc_ _).alloc_ _).alloc_ _⟩
      · have z1 : (w1 == w2) = false := by simpa using hw
        obtain ⟨d, hd⟩ : ∃ a, Hid (sT ⟨false, w2, t2⟩ = a) := ⟨_, Lib.hid rfl⟩
        rw [hd.out]
        obtain ⟨⟨a1, a2, a3⟩, a4, a5⟩ := made_ok hgs ht9
        have hu2 := hu9.mono (m := (X : Int) + (made X gs ⟨false, w1, t1⟩).1.length) (by omega)
        obtain ⟨⟨b1, b2, b3⟩, b4, b5⟩ := made_ok a1 hu2
        obtain ⟨Z1, hZ1⟩ : ∃ Z, Hid ((made X gs ⟨false, w1, t1⟩).1 = Z) := ⟨_, Lib.hid rfl⟩
        obtain ⟨V1, hV1⟩ : ∃ Z, Hid ((made X gs ⟨false, w1, t1⟩).2 = Z) := ⟨_, Lib.hid rfl⟩
        rw [hZ1.out] at a1 a3 a4 a5 hu2 b1 b2 b3 b4 b5
        rw [hV1.out] at a2 a3
        obtain ⟨Z2, hZ2⟩ : ∃ Z, Hid ((made X Z1 ⟨false, w2, t2⟩).1 = Z) := ⟨_, Lib.hid rfl⟩
        obtain ⟨V2, hV2⟩ : ∃ Z, Hid ((made X Z1 ⟨false, w2, t2⟩).2 = Z) := ⟨_, Lib.hid rfl⟩
        rw [hZ2.out] at b1 b3 b4 b5
        rw [hV2.out] at b2 b3
        have hgA : GateIs ⟨1, V1, V2⟩ ((X : Int) + Z2.length) := gate_and a2 (by omega) b2 b3
        obtain ⟨Z, hZ⟩ : ∃ Z, Hid (onceG Z2 ⟨1, V1, V2⟩ = Z) := ⟨_, Lib.hid rfl⟩
        obtain ⟨V, hV⟩ : ∃ Z, Hid (onceW X Z2 ⟨1, V1, V2⟩ = Z) := ⟨_, Lib.hid rfl⟩
        have HX : Hid (andT X gs ⟨false, w1, t1⟩ ⟨false, w2, t2⟩ = (Z, ⟨false, V, false⟩)) := Lib.hid (by rw [← hZ.out, ← hV.out, ← hZ2.out, ← hV2.out, ← hZ1.out, ← hV1.out]; simp [andT, hw, andG])
        have HG : Hid ((andT X gs ⟨false, w1, t1⟩ ⟨false, w2, t2⟩).1 = Z) := Lib.hid (by rw [HX.out])
        have HV1 : Hid (sW (andT X gs ⟨false, w1, t1⟩ ⟨false, w2, t2⟩).2 = V) := Lib.hid (by rw [HX.out]; rfl)
        have HV2 : Hid (sT (andT X gs ⟨false, w1, t1⟩ ⟨false, w2, t2⟩).2 = 0) := Lib.hid (by rw [HX.out]; rfl)
        have hl1 : Z1.length ≤ 90000 := by omega
        have hl2 : Z2.length ≤ 100000 := by omega
        have HA1 := Lib.hid (show sW ⟨false, w1, t1⟩ = w1 from rfl)
        have HA2 := Lib.hid (show sW ⟨false, w2, t2⟩ = w2 from rfl)
        have hA := fun W' h1 h2 => siPlain_any lo b x y Ao no co gs G X ⟨false, w1, t1⟩ W' h1 hx hy (by omega) h2 hXe hgs ht9
        rw [HA1.out, ha.out, hZ1.out, hV1.out] at hA
        have hB := fun G' W' h1 h2 => siPlain_any lo b x y Ao no co Z1 G' X ⟨false, w2, t2⟩ W' h1 hx hy hl1 h2 hXe a1 hu2
        rw [HA2.out, hd.out, hZ2.out, hV2.out] at hB
        have hC := fun G' W' h1 h2 => siGate_any lo b x y Ao no co Z2 G' X 1 V1 V2 _ W' h1 hx hy hl2 h2 hXe b1 hgA
        rw [hZ.out, hV.out] at hC
        have HA := Lib.hid hA; have HB := Lib.hid hB; have HC := Lib.hid hC
        clear hA hB hC hw ht9 hu9 hu2 a1 a2 a3 a4 a5 b1 b2 b3 b4 b5 hgA HX
        obtain ⟨W3, hW3⟩ : ∃ W3, W3 = (((w.alloc (.cells #[.int .i64 w1, .int .i64 a] 82)).alloc (.cells #[.int .i64 w2, .int .i64 d] 82)).alloc (.cells #[.int .i64 0, .int .i64 0] 82)) := ⟨_, rfl⟩
        have hbA : Below w.heap.size w W3 := by subst hW3; exact (((Below.refl _ _).alloc (Nat.le_refl _) _).alloc (by simp) _).alloc (by first | (simp; done) | (simp; omega)) _
        have hsA : W3.heap.size = w.heap.size + 3 := by subst hW3; simp
        have x4 : Bx2 W3 w.heap.size (.int .i64 w1) (.int .i64 a) := by subst hW3; exact (Bx2.new w _ _ _).bel (B := w.heap.size + 1) (((Below.refl _ _).alloc (by simp) _).alloc (by first | (simp; done) | (simp; omega)) _) (by omega)
        have y4 : Bx2 W3 (w.heap.size + 1) (.int .i64 w2) (.int .i64 d) := by
          subst hW3
          have h := (Bx2.new (w.alloc (.cells #[.int .i64 w1, .int .i64 a] 82)) (.int .i64 w2) (.int .i64 d) 82).bel (B := w.heap.size + 2) ((Below.refl _ _).alloc (by simp) (.cells #[.int .i64 0, .int .i64 0] 82)) (by simp)
          simpa using h
        have r4 : Bx2 W3 (w.heap.size + 2) (.int .i64 0) (.int .i64 0) := by
          subst hW3
          simpa using Bx2.new ((w.alloc (.cells #[.int .i64 w1, .int .i64 a] 82)).alloc (.cells #[.int .i64 w2, .int .i64 d] 82)) (.int .i64 0) (.int .i64 0) 82
        have f4 : Fz W3 (w.heap.size + 2) := by
          subst hW3
          simpa using Fz.new ((w.alloc (.cells #[.int .i64 w1, .int .i64 a] 82)).alloc (.cells #[.int .i64 w2, .int .i64 d] 82)) #[.int .i64 0, .int .i64 0] 82
        have hmA := hm.below_ hbA (Nat.le_refl _)
        have hvA := (Mv.refl_ b G w).below_ hbA (Nat.le_refl _)
        have off : ∀ i, w.heap.size ≤ i → OffB b G i := fun i hi => ⟨by have := hm.1; omega, fun hc => by have := (hm.lt _ hc).2; omega⟩
        have hlA := Nat.le_trans hlo hvA.size
        have HWW := Lib.hid hW3; clear hW3
        go_enter Try.func55, Try.ntmps55
        go_wp2_with fail
        rw [← HWW.out]
        refine (HA.out _ hmA hlA).mono ?_
        rintro e w5 ⟨G5, rfl, hm5, hv5⟩
        have y5 := y4.mv hv5 (off _ (by omega))
        have r5 := r4.mv hv5 (off _ (by omega))
        have f5 := f4.mvO hv5 (by omega) (off _ (by omega))
        have o5 := hv5.offF (k := w.heap.size + 2) (by omega) (off _ (by omega))
        have hz5 := hv5.size
        have hq9 := y5; obtain ⟨l0, l1⟩ := hq9
        go_wp2_with fail
        refine (HB.out _ _ hm5 (by omega)).mono ?_
        rintro e w6 ⟨G6, rfl, hm6, hv6⟩
        have r6 := r5.mv hv6 o5
        have f6 := f5.mvO hv6 (by omega) o5
        have o6 := hv6.offF (k := w.heap.size + 2) (by omega) o5
        have hz6 := hv6.size
        clear l0 l1 q0 q1
        go_wp2_with fail
        refine (HC.out _ _ hm6 (by omega)).mono ?_
        rintro e w7 ⟨G7, rfl, hm7, hv7⟩
        have o7 := hv7.offF (k := w.heap.size + 2) (by omega) o6
        have hr9 := r6.mv hv7 o6; obtain ⟨j0, j1⟩ := hr9
        have hf9 := f6.mvO hv7 (by omega) o6
        have e0 := hf9 0; have e1 := hf9 1
        have q9 := (r6.mv hv7 o6).set (.int .i64 V) (.int .i64 0)
        go_wp2
        obtain ⟨q0, q1⟩ := q9
        refine bodyPost_ret (v := .agg #[.int .i64 V, .int .i64 0]) (by simp [results, Try.results55, go_sem, q0, q1]) rfl ?_
        exact ⟨G7, by rw [HV1.out, HV2.out], by rw [HG.out]; exact (hm7).set2 o7 _ _, (((hvA.trans_ hv5).trans_ hv6).trans_ hv7).set2 (by omega) _ _⟩
theorem OwnG_new1 (w : World) (g : G3) (lo : Nat) (hl : lo ≤ w.heap.size) : OwnG (w.alloc (.cells #[.int .i64 g.k, .int .i64 g.a, .int .i64 g.b] 50)) lo (w.heap.size + 1) (.slice (some ⟨w.heap.size, 0, none⟩) 1 1) 1 [g] := by
  refine ⟨?_, fun q hq => by simp [Value.ownBlock] at hq; omega⟩
  have h := World.ownsRow_lit (base := lo) (e := 50) (size := 3) w #[.int .i64 g.k, .int .i64 g.a, .int .i64 g.b] 1 hl (by unfold maxLen; omega) (by simp)
  simpa [gcells] using h
theorem postRowG.new1 (w : World) (g : G3) : postRowG w 1 [g] (.slice (some ⟨w.heap.size, 0, none⟩) 1 1) (w.alloc (.cells #[.int .i64 g.k, .int .i64 g.a, .int .i64 g.b] 50)) :=
  ⟨_, _, rfl, (OwnG_new1 w g w.heap.size (Nat.le_refl _)).hi_ (by simp), (Below.refl _ _).alloc (Nat.le_refl _) _⟩
structure MgI (w : World) (lo b4 b5 : Nat) (x y : Int) (G : Option Addr) (k cG : Nat) (gs : List G3) (F : Option Addr) (n cF : Nat) (fs : List Int) : Prop where
  bx : BxC w b4 x y G k cG none 0 0
  f4 : Fz w b4
  c5 : w.cell? ⟨b5, 0, none⟩ = some (.slice F n cF)
  f5 : Fz w b5
  g : OwnG w lo w.heap.size (.slice G k cG) k gs
  f : Own w lo w.heap.size (.slice F n cF) n fs
  ap : Apart (.slice G k cG) (.slice F n cF)
  g4 : (Value.slice G k cG).ownBlock ≠ some b4
  g5 : (Value.slice G k cG).ownBlock ≠ some b5
  r4 : (Value.slice F n cF).ownBlock ≠ some b4
  r5 : (Value.slice F n cF).ownBlock ≠ some b5
  ne : b4 ≠ b5
  lo4 : lo ≤ b4
  lo5 : lo ≤ b5
  lt4 : b4 < w.heap.size
  lt5 : b5 < w.heap.size
section
variable {w w' : World} {lo b4 b5 : Nat} {x y : Int} {G : Option Addr} {k cG : Nat} {gs : List G3} {F : Option Addr} {n cF : Nat} {fs : List Int}
theorem MgI.below (h : MgI w lo b4 b5 x y G k cG gs F n cF fs) (hb : Below w.heap.size w w') : MgI w' lo b4 b5 x y G k cG gs F n cF fs :=
  ⟨h.bx.below hb, h.f4.below hb h.lt4, cell_bel h.c5 hb, h.f5.below hb h.lt5, (h.g.below hb (.inl (Nat.le_refl _))).now, (h.f.below hb (.inl (Nat.le_refl _))).now, h.ap, h.g4, h.g5, h.r4, h.r5, h.ne, h.lo4, h.lo5, Nat.lt_of_lt_of_le h.lt4 hb.size, Nat.lt_of_lt_of_le h.lt5 hb.size⟩
theorem MgI.stored {G0 : Option Addr} {k0 c0 : Nat} {v : Value} (hx : BxC w b4 x y G0 k0 c0 none 0 0) (f4 : Fz w b4) (h5 : w.cell? ⟨b5, 0, none⟩ = some v) (f5 : Fz w b5) (hg : OwnG w lo w.heap.size (.slice G k cG) k gs) (hf : Own w lo w.heap.size (.slice F n cF) n fs) (ap : Apart (.slice G k cG) (.slice F n cF))
    (g4 : (Value.slice G k cG).ownBlock ≠ some b4) (g5 : (Value.slice G k cG).ownBlock ≠ some b5) (r4 : (Value.slice F n cF).ownBlock ≠ some b4) (r5 : (Value.slice F n cF).ownBlock ≠ some b5) (ne : b4 ≠ b5) (lo4 : lo ≤ b4) (lo5 : lo ≤ b5) (lt4 : b4 < w.heap.size) (lt5 : b5 < w.heap.size) :
    MgI ((w.setCell ⟨b4, 2, none⟩ (.slice G k cG)).setCell ⟨b5, 0, none⟩ (.slice F n cF)) lo b4 b5 x y G k cG gs F n cF fs := by
  have k1 : Alt (fun i => i = b4) w (w.setCell ⟨b4, 2, none⟩ (.slice G k cG)) := (Alt.refl_ _ w).set_ _ _ (fun _ => rfl)
  have k2 : Alt (fun i => i = b5) (w.setCell ⟨b4, 2, none⟩ (.slice G k cG)) ((w.setCell ⟨b4, 2, none⟩ (.slice G k cG)).setCell ⟨b5, 0, none⟩ (.slice F n cF)) := (Alt.refl_ _ _).set_ _ _ (fun _ => rfl)
  have h51 := k1.cell_ h5 (fun h => ne h.symm)
  exact ⟨(hx.setG G k cG).alt k2 ne, (f4.set _ _).set _ _, World.cell?_setCell_same _ _ _ h51, (f5.set _ _).set _ _, ((hg.alt k1 (fun g hg hc => g4 (hc ▸ hg))).alt k2 (fun g hg hc => g5 (hc ▸ hg))).now, ((hf.alt k1 (fun g hg hc => r4 (hc ▸ hg))).alt k2 (fun g hg hc => r5 (hc ▸ hg))).now, ap, g4, g5, r4, r5, ne, lo4, lo5, by simpa using lt4, by simpa using lt5⟩
end
structure MsI (w : World) (lo b : Nat) (x y : Int) (G : Option Addr) (k cG : Nat) (gs : List G3) (F : Option Addr) (n cF : Nat) (fs : List Int) : Prop where
  bx : BxC w b x y G k cG none 0 0
  f4 : Fz w b
  g : OwnG w lo w.heap.size (.slice G k cG) k gs
  f : Own w lo w.heap.size (.slice F n cF) n fs
  ap : Apart (.slice G k cG) (.slice F n cF)
  g4 : (Value.slice G k cG).ownBlock ≠ some b
  r4 : (Value.slice F n cF).ownBlock ≠ some b
  lo4 : lo ≤ b
  lt4 : b < w.heap.size
section
variable {w w' W w6 : World} {lo b : Nat} {x y : Int} {G G' : Option Addr} {k cG c' : Nat} {gs : List G3} {F : Option Addr} {n cF : Nat} {fs : List Int}
theorem MsI.below (h : MsI w lo b x y G k cG gs F n cF fs) (hb : Below w.heap.size w w') : MsI w' lo b x y G k cG gs F n cF fs :=
  ⟨h.bx.below hb, h.f4.below hb h.lt4, (h.g.below hb (.inl (Nat.le_refl _))).now, (h.f.below hb (.inl (Nat.le_refl _))).now, h.ap, h.g4, h.r4, h.lo4, Nat.lt_of_lt_of_le h.lt4 hb.size⟩
theorem MsI.app {M : G3} (h : MsI W lo b x y G k cG gs F n cF fs) (ho : OwnG w6 lo w6.heap.size (.slice G' (k + 1) c') (k + 1) (gs ++ [M])) (hg : W.grownBy w6 (Value.slice G k cG).ownBlock)
    (hat : (Value.slice G' (k + 1) c').ownBlock = (Value.slice G k cG).ownBlock ∨ (Value.slice G' (k + 1) c').ownBlock = some W.heap.size) :
    BxC w6 b x y G k cG none 0 0 ∧ Fz w6 b ∧ MsI (w6.setCell ⟨b, 2, none⟩ (.slice G' (k + 1) c')) lo b x y G' (k + 1) c' (gs ++ [M]) F n cF fs := by
  have ka := Alt.of_grown (S := fun i => (Value.slice G k cG).ownBlock = some i) hg (fun _ h => h)
  have hx6 := h.bx.alt ka h.g4
  have f6 := h.f4.alt ka h.lt4 h.g4
  have hf6 := (h.f.alt ka (fun g hg hc => h.ap g hc hg)).now
  have k1 : Alt (fun i => i = b) w6 (w6.setCell ⟨b, 2, none⟩ (.slice G' (k + 1) c')) := (Alt.refl_ _ w6).set_ _ _ (fun _ => rfl)
  have hn : (Value.slice G' (k + 1) c').ownBlock ≠ some b := fun hc => by
    rcases hat with h1 | h1
    · exact h.g4 (h1.symm.trans hc)
    · rw [h1] at hc; injection hc with hc; have := h.lt4; omega
  refine ⟨hx6, f6, hx6.setG G' (k + 1) c', f6.set _ _, (ho.alt k1 (fun g hg hc => hn (hc ▸ hg))).now, (hf6.alt k1 (fun g hg hc => h.r4 (hc ▸ hg))).now, fun g h1 h2 => ?_, hn, h.r4, h.lo4, ?_⟩
  · rcases hat with h3 | h3
    · exact h.ap g (h3.symm.trans h1) h2
    · rw [h3] at h1; injection h1 with h1; have := h.f.lt g h2; omega
  · have := ka.size; have := h.lt4; simp; omega
end
end Go.Proofs.Ytikgagjoapggnaa
