/- Words of the law of merged circuits: qGates, qCircuit, qHas; WireValues and EvalCircuit where they succeed. Lengths below 2^21. SimplifyCircuit, the program: exclusive-or and and of what wires become. Lengths below 2^17. -/
import Derived.Test.YtikgagjoapggnaaQP07
import Derived.Test.YtikgagjoapggnaaQP15
import Derived.Test.YtikgagjoapggnaaQP26
import Derived.Test.YtikgagjoapggnaaQP27
import Derived.Test.YtikgagjoapggnaaQP18
namespace Go.Proofs.Ytikgagjoapggnaa
open Go.RowKit
set_option linter.unusedVariables false
set_option linter.unusedSimpArgs false
attribute [local go_sem] sepAt sepUpon pureAt pureUpon
set_option maxHeartbeats 1000000 in
theorem qGates_any (Ag Bg : Option Addr) (ng cg dg : Nat) (gs : List G3) (w : World) (hr : RG w Ag ng gs) (hs : RG w Bg ng gs) (hng : ng ≤ 2097152) :
    Calls Try.prog 34 #[.slice Ag ng cg, .slice Bg ng dg] w fun e w' => e = .returned (.bool true) ∧ ∃ j, w' = w.drewN j := by
  have n3 : ((ng : Int) != ng) = false := by simp
  go_enter Try.func34, Try.ntmps34
  go_wp2
  go_loopw [13] (fun i wr => ∃ k j : Nat, k ≤ ng ∧ i = .int .i64 k ∧ wr = w.drewN j) (fun i _ => ng - (intOf i).toNat)
  case atStart => exact ⟨0, 0, Nat.zero_le _, rfl, rfl⟩
  case round =>
    obtain ⟨k, j, hk, rfl, rfl⟩ := hrel
    by_cases hlt : k < ng
    · obtain ⟨kb, ob, rfl, hkb, d1, d2, d3⟩ := hr.at_ hlt
      obtain ⟨kc, oc, rfl, hkc, f1, f2, f3⟩ := hs.at_ hlt
      generalize gg gs k = GG at *
      go_wp2_with fail
      go_quiet (fail)
      go_wp2
      go_roundw
      case rel => exact ⟨k + 1, _, by omega, by go_num, by first | rfl | exact World.drewN_drewN _ _ _⟩
      case measure => simp [intOf]; omega
    · obtain rfl : ng = k := Nat.le_antisymm (Nat.le_of_not_lt hlt) hk
      go_wp2
      go_ret
      exact ⟨rfl, _, rfl⟩
theorem sameB_refl2 (xs : List Int) : sameB xs xs = true := sameB_all rfl fun _ _ => rfl
set_option maxHeartbeats 1000000 in
theorem qCircuit_any (x y : Int) (Ag Bg : Option Addr) (ng cg dg : Nat) (Ao Bo : Option Addr) (no co do_ : Nat) (gs : List G3) (os : List Int) (w : World) (hr : RG w Ag ng gs ∧ RI w Ao no os) (hs : RG w Bg ng gs ∧ RI w Bo no os) (hng : ng ≤ 2097152) (hno : no ≤ 2097152) :
    Calls Try.prog 12 #[.agg #[.int .i64 x, .int .i64 y, .slice Ag ng cg, .slice Ao no co], .agg #[.int .i64 x, .int .i64 y, .slice Bg ng dg, .slice Bo no do_]] w fun e w' => e = .returned (.bool true) ∧ Below w.heap.size w w' := by
  have hB : Below w.heap.size w ((w.alloc (.cells #[.int .i64 x, .int .i64 y, .slice Ag ng cg, .slice Ao no co] 26)).alloc (.cells #[.int .i64 x, .int .i64 y, .slice Bg ng dg, .slice Bo no do_] 26)) := ((Below.refl _ _).alloc (Nat.le_refl _) _).alloc (by simp) _
  have al1 : Below (w.alloc (.cells #[.int .i64 x, .int .i64 y, .slice Ag ng cg, .slice Ao no co] 26)).heap.size (w.alloc (.cells #[.int .i64 x, .int .i64 y, .slice Ag ng cg, .slice Ao no co] 26)) ((w.alloc (.cells #[.int .i64 x, .int .i64 y, .slice Ag ng cg, .slice Ao no co] 26)).alloc (.cells #[.int .i64 x, .int .i64 y, .slice Bg ng dg, .slice Bo no do_] 26)) := (Below.refl _ _).alloc (Nat.le_refl _) _
  have p0 : BxC ((w.alloc (.cells #[.int .i64 x, .int .i64 y, .slice Ag ng cg, .slice Ao no co] 26)).alloc (.cells #[.int .i64 x, .int .i64 y, .slice Bg ng dg, .slice Bo no do_] 26)) w.heap.size x y Ag ng cg Ao no co := (BxC.new w _).below al1
  have p1 : BxC ((w.alloc (.cells #[.int .i64 x, .int .i64 y, .slice Ag ng cg, .slice Ao no co] 26)).alloc (.cells #[.int .i64 x, .int .i64 y, .slice Bg ng dg, .slice Bo no do_] 26)) (w.heap.size + 1) x y Bg ng dg Bo no do_ := by simpa using BxC.new (x := x) (y := y) (Ag := Bg) (ng := ng) (cg := dg) (Ao := Bo) (no := no) (co := do_) (w.alloc (.cells #[.int .i64 x, .int .i64 y, .slice Ag ng cg, .slice Ao no co] 26)) 26
  have n1 : (x == x) = true := by simp
  have n2 : (y == y) = true := by simp
  have hq := p0; obtain ⟨k0, k1, k2, k3⟩ := hq
  have hq := p1; obtain ⟨m0, m1, m2, m3⟩ := hq
  go_enter Try.func12, Try.ntmps12
  go_wp2_with fail
  refine (qGates_any Ag Bg ng cg dg gs _ (hr.1.below hB (Nat.le_refl _)) (hs.1.below hB (Nat.le_refl _)) hng).mono ?_
  rintro e a1 ⟨rfl, j, rfl⟩
  have hB1 := below_drewN hB j
  have q0 : BxC (((w.alloc (.cells #[.int .i64 x, .int .i64 y, .slice Ag ng cg, .slice Ao no co] 26)).alloc (.cells #[.int .i64 x, .int .i64 y, .slice Bg ng dg, .slice Bo no do_] 26)).drewN j) w.heap.size x y Ag ng cg Ao no co := p0
  have q1 : BxC (((w.alloc (.cells #[.int .i64 x, .int .i64 y, .slice Ag ng cg, .slice Ao no co] 26)).alloc (.cells #[.int .i64 x, .int .i64 y, .slice Bg ng dg, .slice Bo no do_] 26)).drewN j) (w.heap.size + 1) x y Bg ng dg Bo no do_ := p1
  clear k0 k1 k2 k3 m0 m1 m2 m3 p0 p1 al1 hB
  generalize ((w.alloc (.cells #[.int .i64 x, .int .i64 y, .slice Ag ng cg, .slice Ao no co] 26)).alloc (.cells #[.int .i64 x, .int .i64 y, .slice Bg ng dg, .slice Bo no do_] 26)).drewN j = a1 at *
  have hq := q0; obtain ⟨k0, k1, k2, k3⟩ := hq
  have hq := q1; obtain ⟨m0, m1, m2, m3⟩ := hq
  go_wp2_with fail
  refine (qInts_any Ao Bo no co no do_ os os _ (hr.2.below hB1 (Nat.le_refl _)) (hs.2.below hB1 (Nat.le_refl _)) hno hno).mono ?_
  rintro e a2 ⟨rfl, j2, rfl⟩
  rw [sameB_refl2]
  go_wp2
  go_ret
  exact ⟨by simp, below_drewN hB1 j2⟩
end Go.Proofs.Ytikgagjoapggnaa
namespace Go.Proofs.Ytikgagjoapggnaa
open Go.RowKit
set_option linter.unusedVariables false
set_option linter.unusedSimpArgs false
theorem made_le (X : Nat) (gs : List G3) (x : Tb) : (made X gs x).1.length ≤ gs.length + 2 := by
  have h1 : (made1 X gs x).1.length ≤ gs.length + 1 := by
    unfold made1; split
    · exact (onceG_le gs _).2
    · simp
  unfold made made2; split
  · have := (onceG_le (made1 X gs x).1 ⟨2, (made1 X gs x).2, 0⟩).2
    dsimp only; omega
  · omega
set_option maxRecDepth 100000 in
set_option maxHeartbeats 4000000 in
theorem xorOf_any (lo b : Nat) (x y : Int) (Ao : Option Addr) (no co : Nat) (gs : List G3) (G : Option Nat) (X : Nat) (t u : Tb) (w : World) (hm : MkO w lo b x y Ao no co gs G) (hx : 0 ≤ x ∧ x ≤ 20) (hy : 0 ≤ y ∧ y ≤ 20) (hn : gs.length ≤ 80000) (hlo : lo ≤ w.heap.size) (hXe : Hid (x + y = (X : Int))) :
    Calls Try.prog 19 #[.pointer (some ⟨b, 0, none⟩), .agg #[.bool t.c, .int .i64 t.w, .bool t.t], .agg #[.bool u.c, .int .i64 u.w, .bool u.t]] w (RetVO lo b x y Ao no co (xorT X gs t u).1 G (.agg #[.bool (xorT X gs t u).2.c, .int .i64 (xorT X gs t u).2.w, .bool (xorT X gs t u).2.t]) w) := by
  obtain ⟨c1, w1, t1⟩ := t
  obtain ⟨c2, w2, t2⟩ := u
  obtain ⟨W4, hW4⟩ : ∃ W4, W4 = ((((w.alloc (.cells #[.bool c1, .int .i64 w1, .bool t1] 48)).alloc (.cells #[.bool c2, .int .i64 w2, .bool t2] 48)).alloc (.cells #[.bool false, .int .i64 0, .bool false] 48)).alloc (.cells #[.bool true, .int .i64 0, .bool false] 48)) := ⟨_, rfl⟩
  have hbA : Below w.heap.size w W4 := by subst hW4; exact ((((Below.refl _ _).alloc (Nat.le_refl _) _).alloc (by simp) _).alloc (by first | (simp; done) | (simp; omega)) _).alloc (by first | (simp; done) | (simp; omega)) _
  have hsA : W4.heap.size = w.heap.size + 4 := by subst hW4; simp
  have x4 : Bx3 W4 w.heap.size (.bool c1) (.int .i64 w1) (.bool t1) := by subst hW4; exact (Bx3.new w _ _ _ _).bel (B := w.heap.size + 1) ((((Below.refl _ _).alloc (by simp) _).alloc (by first | (simp; done) | (simp; omega)) _).alloc (by first | (simp; done) | (simp; omega)) _) (by omega)
  have y4 : Bx3 W4 (w.heap.size + 1) (.bool c2) (.int .i64 w2) (.bool t2) := by
    subst hW4
    have h := (Bx3.new (w.alloc (.cells #[.bool c1, .int .i64 w1, .bool t1] 48)) (.bool c2) (.int .i64 w2) (.bool t2) 48).bel (B := w.heap.size + 2) (((Below.refl _ _).alloc (by simp) (.cells #[.bool false, .int .i64 0, .bool false] 48)).alloc (by simp) (.cells #[.bool true, .int .i64 0, .bool false] 48)) (by simp)
    simpa using h
  have r4 : Bx3 W4 (w.heap.size + 2) (.bool false) (.int .i64 0) (.bool false) := by
    subst hW4
    have h := (Bx3.new ((w.alloc (.cells #[.bool c1, .int .i64 w1, .bool t1] 48)).alloc (.cells #[.bool c2, .int .i64 w2, .bool t2] 48)) (.bool false) (.int .i64 0) (.bool false) 48).bel (B := w.heap.size + 3) ((Below.refl _ _).alloc (by simp) (.cells #[.bool true, .int .i64 0, .bool false] 48)) (by simp)
    simpa using h
  have f4 : Fz W4 (w.heap.size + 2) := by
    subst hW4
    have h := (Fz.new ((w.alloc (.cells #[.bool c1, .int .i64 w1, .bool t1] 48)).alloc (.cells #[.bool c2, .int .i64 w2, .bool t2] 48)) #[.bool false, .int .i64 0, .bool false] 48).below ((Below.refl _ _).alloc (Nat.le_refl _) (.cells #[.bool true, .int .i64 0, .bool false] 48)) (by simp)
    simpa using h
  have hmA := hm.below_ hbA (Nat.le_refl _)
  have hvA := (Mv.refl_ b G w).below_ hbA (Nat.le_refl _)
  have off : ∀ i, w.heap.size ≤ i → OffB b G i := fun i hi => ⟨by have := hm.1; omega, fun hc => by have := (hm.lt _ hc).2; omega⟩
  have hlA := Nat.le_trans hlo hvA.size
  have HWW := Lib.hid hW4; clear hW4
  cases c1 with
  | true =>
    have HX : Hid (xorT X gs ⟨true, w1, t1⟩ ⟨c2, w2, t2⟩ = (gs, (Tb.by_ ⟨c2, w2, t2⟩ (!t1)))) := Lib.hid (by simp [xorT])
    go_enter Try.func19, Try.ntmps19
    go_wp2_with fail
    rw [← HWW.out]
    refine (turnedBy_any ⟨c2, w2, t2⟩ (!t1) _).mono ?_
    rintro e w5 ⟨rfl, hb5⟩
    have hr9 := r4.bel hb5 (by omega); obtain ⟨j0, j1, j2⟩ := hr9
    have hf9 := f4.below hb5 (by omega)
    have e0 := hf9 0; have e1 := hf9 1; have e2 := hf9 2
    have q9 := (r4.bel hb5 (by omega)).set (.bool (Tb.by_ ⟨c2, w2, t2⟩ (!t1)).c) (.int .i64 (Tb.by_ ⟨c2, w2, t2⟩ (!t1)).w) (.bool (Tb.by_ ⟨c2, w2, t2⟩ (!t1)).t)
    go_wp2
    obtain ⟨q0, q1, q2⟩ := q9
    refine bodyPost_ret (v := .agg #[.bool (Tb.by_ ⟨c2, w2, t2⟩ (!t1)).c, .int .i64 (Tb.by_ ⟨c2, w2, t2⟩ (!t1)).w, .bool (Tb.by_ ⟨c2, w2, t2⟩ (!t1)).t]) (by simp [results, Try.results19, go_sem, q0, q1, q2]) rfl ?_
    exact ⟨G, by rw [HX.out], by rw [HX.out]; exact (hmA.below_ hb5 (Nat.le_refl _)).set3 (off _ (by omega)) _ _ _, (hvA.below_ hb5 (Nat.le_refl _)).set3 (by omega) _ _ _⟩
  | false =>
    cases c2 with
    | true =>
      have HX : Hid (xorT X gs ⟨false, w1, t1⟩ ⟨true, w2, t2⟩ = (gs, (Tb.by_ ⟨false, w1, t1⟩ (!t2)))) := Lib.hid (by simp [xorT])
      go_enter Try.func19, Try.ntmps19
      go_wp2_with fail
      rw [← HWW.out]
      refine (turnedBy_any ⟨false, w1, t1⟩ (!t2) _).mono ?_
      rintro e w5 ⟨rfl, hb5⟩
      have hr9 := r4.bel hb5 (by omega); obtain ⟨j0, j1, j2⟩ := hr9
      have hf9 := f4.below hb5 (by omega)
      have e0 := hf9 0; have e1 := hf9 1; have e2 := hf9 2
      have q9 := (r4.bel hb5 (by omega)).set (.bool (Tb.by_ ⟨false, w1, t1⟩ (!t2)).c) (.int .i64 (Tb.by_ ⟨false, w1, t1⟩ (!t2)).w) (.bool (Tb.by_ ⟨false, w1, t1⟩ (!t2)).t)
      go_wp2
      obtain ⟨q0, q1, q2⟩ := q9
      refine bodyPost_ret (v := .agg #[.bool (Tb.by_ ⟨false, w1, t1⟩ (!t2)).c, .int .i64 (Tb.by_ ⟨false, w1, t1⟩ (!t2)).w, .bool (Tb.by_ ⟨false, w1, t1⟩ (!t2)).t]) (by simp [results, Try.results19, go_sem, q0, q1, q2]) rfl ?_
      exact ⟨G, by rw [HX.out], by rw [HX.out]; exact (hmA.below_ hb5 (Nat.le_refl _)).set3 (off _ (by omega)) _ _ _, (hvA.below_ hb5 (Nat.le_refl _)).set3 (by omega) _ _ _⟩
    | false =>
      by_cases hw : w1 = w2
      · subst hw
        have HX : Hid (xorT X gs ⟨false, w1, t1⟩ ⟨false, w1, t2⟩ = (gs, (Tb.by_ ⟨true, 0, false⟩ (t1 == t2)))) := Lib.hid (by simp [xorT, Tb.by_])
        go_enter Try.func19, Try.ntmps19
        go_wp2_with fail
        rw [← HWW.out]
        refine (turnedBy_any ⟨true, 0, false⟩ (t1 == t2) _).mono ?_
        rintro e w5 ⟨rfl, hb5⟩
        have hr9 := r4.bel hb5 (by omega); obtain ⟨j0, j1, j2⟩ := hr9
        have hf9 := f4.below hb5 (by omega)
        have e0 := hf9 0; have e1 := hf9 1; have e2 := hf9 2
        have q9 := (r4.bel hb5 (by omega)).set (.bool (Tb.by_ ⟨true, 0, false⟩ (t1 == t2)).c) (.int .i64 (Tb.by_ ⟨true, 0, false⟩ (t1 == t2)).w) (.bool (Tb.by_ ⟨true, 0, false⟩ (t1 == t2)).t)
        go_wp2
        obtain ⟨q0, q1, q2⟩ := q9
        refine bodyPost_ret (v := .agg #[.bool (Tb.by_ ⟨true, 0, false⟩ (t1 == t2)).c, .int .i64 (Tb.by_ ⟨true, 0, false⟩ (t1 == t2)).w, .bool (Tb.by_ ⟨true, 0, false⟩ (t1 == t2)).t]) (by simp [results, Try.results19, go_sem, q0, q1, q2]) rfl ?_
        exact ⟨G, by rw [HX.out], by rw [HX.out]; exact (hmA.below_ hb5 (Nat.le_refl _)).set3 (off _ (by omega)) _ _ _, (hvA.below_ hb5 (Nat.le_refl _)).set3 (by omega) _ _ _⟩
      · have z1 : (w1 == w2) = false := by simpa using hw
        obtain ⟨Z, hZ⟩ : ∃ Z, Hid (onceG gs ⟨0, w1, w2⟩ = Z) := ⟨_, Lib.hid rfl⟩
        obtain ⟨V, hV⟩ : ∃ Z, Hid (onceW X gs ⟨0, w1, w2⟩ = Z) := ⟨_, Lib.hid rfl⟩
        have HX : Hid (xorT X gs ⟨false, w1, t1⟩ ⟨false, w2, t2⟩ = (Z, ⟨false, V, !(t1 == t2)⟩)) := Lib.hid (by rw [← hZ.out, ← hV.out]; simp [xorT, hw, bne])
        have na := off w.heap.size (Nat.le_refl _)
        have nb := off (w.heap.size + 1) (by omega)
        clear hw
        go_enter Try.func19, Try.ntmps19
        go_wp2_with fail
        rw [← HWW.out]
        have hq := x4; obtain ⟨k0, k1, k2⟩ := hq
        have hq := y4; obtain ⟨l0, l1, l2⟩ := hq
        have hsD : (W4.drewN 1).heap.size = w.heap.size + 4 := hsA
        have r4d : Bx3 (W4.drewN 1) (w.heap.size + 2) (.bool false) (.int .i64 0) (.bool false) := r4
        have f4d : Fz (W4.drewN 1) (w.heap.size + 2) := f4
        go_wp2_with fail
        go_region_held3 (fun w' => w'.cell? ⟨w.heap.size, 1, none⟩ = some (.int .i64 w1) ∧ w'.cell? ⟨w.heap.size, 2, none⟩ = some (.bool t1) ∧ w'.cell? ⟨w.heap.size + 1, 1, none⟩ = some (.int .i64 w2) ∧ w'.cell? ⟨w.heap.size + 1, 2, none⟩ = some (.bool t2))
          (first | (go_keep; done) | (go_split_ands; exact ⟨hv5_.cellF (by assumption) na, hv5_.cellF (by assumption) na, hv5_.cellF (by assumption) nb, hv5_.cellF (by assumption) nb⟩) | (go_split_ands; (repeat' apply And.intro) <;> (repeat (refine (World.cell?_setCell_other _ _ _ _ (by first | (simp; done) | (simp; omega))).trans ?_)) <;> assumption))
          (first | (go_at_call 42; refine (once_any lo b x y Ao no co gs G X 0 w1 w2 _ (hmA.drewN_ 1) hx hy (by omega) hlA hXe).mono ?_; rintro e w5 ⟨G5, rfl, hm5, hv5_⟩; rw [hV.out]; have hv9 := hv5_; have r5 := Bx3.mv r4d hv5_ (off (w.heap.size + 2) (by omega)); have f5 := Fz.mvO f4d hv5_ (by show w.heap.size + 2 < W4.heap.size; omega) (off (w.heap.size + 2) (by omega)); have hq5 := r5; obtain ⟨j0, j1, j2⟩ := hq5; have e0 := f5 0; have e1 := f5 1; have e2 := f5 2))
        rw [hZ.out] at hm5
        have hq9 := r5.set (.bool false) (.int .i64 V) (.bool (!(t1 == t2)))
        go_wp2
        obtain ⟨q0, q1, q2⟩ := hq9
        refine bodyPost_ret (v := .agg #[.bool false, .int .i64 V, .bool (!(t1 == t2))]) (by simp [results, Try.results19, go_sem, q0, q1, q2]) rfl ?_
        exact ⟨G5, by rw [HX.out], by rw [HX.out]; exact hm5.set3 (hv9.offF (by omega) (off _ (by omega))) _ _ _, ((hvA.drewN_ 1).trans_ hv5_).set3 (by omega) _ _ _⟩
set_option maxRecDepth 100000 in
set_option maxHeartbeats 4000000 in
theorem andOf_any (lo b : Nat) (x y : Int) (Ao : Option Addr) (no co : Nat) (gs : List G3) (G : Option Nat) (X : Nat) (t u : Tb) (w : World) (hm : MkO w lo b x y Ao no co gs G) (hx : 0 ≤ x ∧ x ≤ 20) (hy : 0 ≤ y ∧ y ≤ 20) (hn : gs.length ≤ 80000) (hlo : lo ≤ w.heap.size) (hXe : Hid (x + y = (X : Int))) :
    Calls Try.prog 20 #[.pointer (some ⟨b, 0, none⟩), .agg #[.bool t.c, .int .i64 t.w, .bool t.t], .agg #[.bool u.c, .int .i64 u.w, .bool u.t]] w (RetVO lo b x y Ao no co (andT X gs t u).1 G (.agg #[.bool (andT X gs t u).2.c, .int .i64 (andT X gs t u).2.w, .bool (andT X gs t u).2.t]) w) := by
  obtain ⟨c1, w1, t1⟩ := t
  obtain ⟨c2, w2, t2⟩ := u
  obtain ⟨W4, hW4⟩ : ∃ W4, W4 = ((((w.alloc (.cells #[.bool c1, .int .i64 w1, .bool t1] 48)).alloc (.cells #[.bool c2, .int .i64 w2, .bool t2] 48)).alloc (.cells #[.bool false, .int .i64 0, .bool false] 48)).alloc (.cells #[.bool true, .int .i64 0, .bool true] 48)) := ⟨_, rfl⟩
  have hbA : Below w.heap.size w W4 := by subst hW4; exact ((((Below.refl _ _).alloc (Nat.le_refl _) _).alloc (by simp) _).alloc (by first | (simp; done) | (simp; omega)) _).alloc (by first | (simp; done) | (simp; omega)) _
  have hsA : W4.heap.size = w.heap.size + 4 := by subst hW4; simp
  have x4 : Bx3 W4 w.heap.size (.bool c1) (.int .i64 w1) (.bool t1) := by subst hW4; exact (Bx3.new w _ _ _ _).bel (B := w.heap.size + 1) ((((Below.refl _ _).alloc (by simp) _).alloc (by first | (simp; done) | (simp; omega)) _).alloc (by first | (simp; done) | (simp; omega)) _) (by omega)
  have y4 : Bx3 W4 (w.heap.size + 1) (.bool c2) (.int .i64 w2) (.bool t2) := by
    subst hW4
    have h := (Bx3.new (w.alloc (.cells #[.bool c1, .int .i64 w1, .bool t1] 48)) (.bool c2) (.int .i64 w2) (.bool t2) 48).bel (B := w.heap.size + 2) (((Below.refl _ _).alloc (by simp) (.cells #[.bool false, .int .i64 0, .bool false] 48)).alloc (by simp) (.cells #[.bool true, .int .i64 0, .bool true] 48)) (by simp)
    simpa using h
  have r4 : Bx3 W4 (w.heap.size + 2) (.bool false) (.int .i64 0) (.bool false) := by
    subst hW4
    have h := (Bx3.new ((w.alloc (.cells #[.bool c1, .int .i64 w1, .bool t1] 48)).alloc (.cells #[.bool c2, .int .i64 w2, .bool t2] 48)) (.bool false) (.int .i64 0) (.bool false) 48).bel (B := w.heap.size + 3) ((Below.refl _ _).alloc (by simp) (.cells #[.bool true, .int .i64 0, .bool true] 48)) (by simp)
    simpa using h
  have f4 : Fz W4 (w.heap.size + 2) := by
    subst hW4
    have h := (Fz.new ((w.alloc (.cells #[.bool c1, .int .i64 w1, .bool t1] 48)).alloc (.cells #[.bool c2, .int .i64 w2, .bool t2] 48)) #[.bool false, .int .i64 0, .bool false] 48).below ((Below.refl _ _).alloc (Nat.le_refl _) (.cells #[.bool true, .int .i64 0, .bool true] 48)) (by simp)
    simpa using h
  have hmA := hm.below_ hbA (Nat.le_refl _)
  have hvA := (Mv.refl_ b G w).below_ hbA (Nat.le_refl _)
  have off : ∀ i, w.heap.size ≤ i → OffB b G i := fun i hi => ⟨by have := hm.1; omega, fun hc => by have := (hm.lt _ hc).2; omega⟩
  have hlA := Nat.le_trans hlo hvA.size
  have HWW := Lib.hid hW4; clear hW4
  cases c1 with
  | true =>
    cases t1 with
    | true =>
      have HX : Hid (andT X gs ⟨true, w1, true⟩ ⟨c2, w2, t2⟩ = (gs, ⟨true, 0, true⟩)) := Lib.hid (by simp [andT])
      go_enter Try.func20, Try.ntmps20
      go_wp2
      have q9 : Bx3 ((((w.alloc (.cells #[.bool true, .int .i64 w1, .bool true] 48)).alloc (.cells #[.bool c2, .int .i64 w2, .bool t2] 48)).alloc (.cells #[.bool true, .int .i64 0, .bool true] 48)).alloc (.cells #[.bool true, .int .i64 0, .bool true] 48)) (w.heap.size + 2) (.bool true) (.int .i64 0) (.bool true) := by
        have h := (Bx3.new ((w.alloc (.cells #[.bool true, .int .i64 w1, .bool true] 48)).alloc (.cells #[.bool c2, .int .i64 w2, .bool t2] 48)) (.bool true) (.int .i64 0) (.bool true) 48).bel (B := w.heap.size + 3) ((Below.refl _ _).alloc (by simp) (.cells #[.bool true, .int .i64 0, .bool true] 48)) (by simp)
        simpa using h
      obtain ⟨q0, q1, q2⟩ := q9
      refine bodyPost_ret (v := .agg #[.bool true, .int .i64 0, .bool true]) (by simp [results, Try.results20, go_sem, q0, q1, q2]) rfl ?_
      exact ⟨G, by rw [HX.out], by rw [HX.out]; exact (((hm.alloc_ _).alloc_ _).alloc_ _).alloc_ _, ((((Mv.refl_ b G w).alloc_ _).alloc_ _).alloc_ _).alloc_ _⟩
    | false =>
      cases c2 with
      | true =>
        cases t2 with
        | true =>
          have HX : Hid (andT X gs ⟨true, w1, false⟩ ⟨true, w2, true⟩ = (gs, ⟨true, 0, true⟩)) := Lib.hid (by simp [andT])
          go_enter Try.func20, Try.ntmps20
          go_wp2
          have q9 : Bx3 ((((w.alloc (.cells #[.bool true, .int .i64 w1, .bool false] 48)).alloc (.cells #[.bool true, .int .i64 w2, .bool true] 48)).alloc (.cells #[.bool true, .int .i64 0, .bool true] 48)).alloc (.cells #[.bool true, .int .i64 0, .bool true] 48)) (w.heap.size + 2) (.bool true) (.int .i64 0) (.bool true) := by
            have h := (Bx3.new ((w.alloc (.cells #[.bool true, .int .i64 w1, .bool false] 48)).alloc (.cells #[.bool true, .int .i64 w2, .bool true] 48)) (.bool true) (.int .i64 0) (.bool true) 48).bel (B := w.heap.size + 3) ((Below.refl _ _).alloc (by simp) (.cells #[.bool true, .int .i64 0, .bool true] 48)) (by simp)
            simpa using h
          obtain ⟨q0, q1, q2⟩ := q9
          refine bodyPost_ret (v := .agg #[.bool true, .int .i64 0, .bool true]) (by simp [results, Try.results20, go_sem, q0, q1, q2]) rfl ?_
          exact ⟨G, by rw [HX.out], by rw [HX.out]; exact (((hm.alloc_ _).alloc_ _).alloc_ _).alloc_ _, ((((Mv.refl_ b G w).alloc_ _).alloc_ _).alloc_ _).alloc_ _⟩
        | false =>
          have HX : Hid (andT X gs ⟨true, w1, false⟩ ⟨true, w2, false⟩ = (gs, ⟨true, w2, false⟩)) := Lib.hid (by simp [andT])
          go_enter Try.func20, Try.ntmps20
          go_wp2
          have q9 : Bx3 ((((w.alloc (.cells #[.bool true, .int .i64 w1, .bool false] 48)).alloc (.cells #[.bool true, .int .i64 w2, .bool false] 48)).alloc (.cells #[.bool true, .int .i64 w2, .bool false] 48)).alloc (.cells #[.bool true, .int .i64 0, .bool true] 48)) (w.heap.size + 2) (.bool true) (.int .i64 w2) (.bool false) := by
            have h := (Bx3.new ((w.alloc (.cells #[.bool true, .int .i64 w1, .bool false] 48)).alloc (.cells #[.bool true, .int .i64 w2, .bool false] 48)) (.bool true) (.int .i64 w2) (.bool false) 48).bel (B := w.heap.size + 3) ((Below.refl _ _).alloc (by simp) (.cells #[.bool true, .int .i64 0, .bool true] 48)) (by simp)
            simpa using h
          obtain ⟨q0, q1, q2⟩ := q9
          refine bodyPost_ret (v := .agg #[.bool true, .int .i64 w2, .bool false]) (by simp [results, Try.results20, go_sem, q0, q1, q2]) rfl ?_
          exact ⟨G, by rw [HX.out], by rw [HX.out]; exact (((hm.alloc_ _).alloc_ _).alloc_ _).alloc_ _, ((((Mv.refl_ b G w).alloc_ _).alloc_ _).alloc_ _).alloc_ _⟩
      | false =>
        have HX : Hid (andT X gs ⟨true, w1, false⟩ ⟨false, w2, t2⟩ = (gs, ⟨false, w2, t2⟩)) := Lib.hid (by simp [andT])
        go_enter Try.func20, Try.ntmps20
        go_wp2
        have q9 : Bx3 ((((w.alloc (.cells #[.bool true, .int .i64 w1, .bool false] 48)).alloc (.cells #[.bool false, .int .i64 w2, .bool t2] 48)).alloc (.cells #[.bool false, .int .i64 w2, .bool t2] 48)).alloc (.cells #[.bool true, .int .i64 0, .bool true] 48)) (w.heap.size + 2) (.bool false) (.int .i64 w2) (.bool t2) := by
          have h := (Bx3.new ((w.alloc (.cells #[.bool true, .int .i64 w1, .bool false] 48)).alloc (.cells #[.bool false, .int .i64 w2, .bool t2] 48)) (.bool false) (.int .i64 w2) (.bool t2) 48).bel (B := w.heap.size + 3) ((Below.refl _ _).alloc (by simp) (.cells #[.bool true, .int .i64 0, .bool true] 48)) (by simp)
          simpa using h
        obtain ⟨q0, q1, q2⟩ := q9
        refine bodyPost_ret (v := .agg #[.bool false, .int .i64 w2, .bool t2]) (by simp [results, Try.results20, go_sem, q0, q1, q2]) rfl ?_
        exact ⟨G, by rw [HX.out], by rw [HX.out]; exact (((hm.alloc_ _).alloc_ _).alloc_ _).alloc_ _, ((((Mv.refl_ b G w).alloc_ _).alloc_ _).alloc_ _).alloc_ _⟩
  | false =>
    cases c2 with
    | true =>
      cases t2 with
      | true =>
        have HX : Hid (andT X gs ⟨false, w1, t1⟩ ⟨true, w2, true⟩ = (gs, ⟨true, 0, true⟩)) := Lib.hid (by simp [andT])
        go_enter Try.func20, Try.ntmps20
        go_wp2
        have q9 : Bx3 ((((w.alloc (.cells #[.bool false, .int .i64 w1, .bool t1] 48)).alloc (.cells #[.bool true, .int .i64 w2, .bool true] 48)).alloc (.cells #[.bool true, .int .i64 0, .bool true] 48)).alloc (.cells #[.bool true, .int .i64 0, .bool true] 48)) (w.heap.size + 2) (.bool true) (.int .i64 0) (.bool true) := by
          have h := (Bx3.new ((w.alloc (.cells #[.bool false, .int .i64 w1, .bool t1] 48)).alloc (.cells #[.bool true, .int .i64 w2, .bool true] 48)) (.bool true) (.int .i64 0) (.bool true) 48).bel (B := w.heap.size + 3) ((Below.refl _ _).alloc (by simp) (.cells #[.bool true, .int .i64 0, .bool true] 48)) (by simp)
          simpa using h
        obtain ⟨q0, q1, q2⟩ := q9
        refine bodyPost_ret (v := .agg #[.bool true, .int .i64 0, .bool true]) (by simp [results, Try.results20, go_sem, q0, q1, q2]) rfl ?_
        exact ⟨G, by rw [HX.out], by rw [HX.out]; exact (((hm.alloc_ _).alloc_ _).alloc_ _).alloc_ _, ((((Mv.refl_ b G w).alloc_ _).alloc_ _).alloc_ _).alloc_ _⟩
      | false =>
        have HX : Hid (andT X gs ⟨false, w1, t1⟩ ⟨true, w2, false⟩ = (gs, ⟨false, w1, t1⟩)) := Lib.hid (by simp [andT])
        go_enter Try.func20, Try.ntmps20
        go_wp2
        have q9 : Bx3 ((((w.alloc (.cells #[.bool false, .int .i64 w1, .bool t1] 48)).alloc (.cells #[.bool true, .int .i64 w2, .bool false] 48)).alloc (.cells #[.bool false, .int .i64 w1, .bool t1] 48)).alloc (.cells #[.bool true, .int .i64 0, .bool true] 48)) (w.heap.size + 2) (.bool false) (.int .i64 w1) (.bool t1) := by
          have h := (Bx3.new ((w.alloc (.cells #[.bool false, .int .i64 w1, .bool t1] 48)).alloc (.cells #[.bool true, .int .i64 w2, .bool false] 48)) (.bool false) (.int .i64 w1) (.bool t1) 48).bel (B := w.heap.size + 3) ((Below.refl _ _).alloc (by simp) (.cells #[.bool true, .int .i64 0, .bool true] 48)) (by simp)
          simpa using h
        obtain ⟨q0, q1, q2⟩ := q9
        refine bodyPost_ret (v := .agg #[.bool false, .int .i64 w1, .bool t1]) (by simp [results, Try.results20, go_sem, q0, q1, q2]) rfl ?_
        exact ⟨G, by rw [HX.out], by rw [HX.out]; exact (((hm.alloc_ _).alloc_ _).alloc_ _).alloc_ _, ((((Mv.refl_ b G w).alloc_ _).alloc_ _).alloc_ _).alloc_ _⟩
    | false =>
      by_cases hw : w1 = w2
      · subst hw
        by_cases ht : t1 = t2
        · subst ht
          have HX : Hid (andT X gs ⟨false, w1, t1⟩ ⟨false, w1, t1⟩ = (gs, ⟨false, w1, t1⟩)) := Lib.hid (by simp [andT])
          go_enter Try.func20, Try.ntmps20
          go_wp2
          have q9 : Bx3 ((((w.alloc (.cells #[.bool false, .int .i64 w1, .bool t1] 48)).alloc (.cells #[.bool false, .int .i64 w1, .bool t1] 48)).alloc (.cells #[.bool false, .int .i64 w1, .bool t1] 48)).alloc (.cells #[.bool true, .int .i64 0, .bool true] 48)) (w.heap.size + 2) (.bool false) (.int .i64 w1) (.bool t1) := by
            have h := (Bx3.new ((w.alloc (.cells #[.bool false, .int .i64 w1, .bool t1] 48)).alloc (.cells #[.bool false, .int .i64 w1, .bool t1] 48)) (.bool false) (.int .i64 w1) (.bool t1) 48).bel (B := w.heap.size + 3) ((Below.refl _ _).alloc (by simp) (.cells #[.bool true, .int .i64 0, .bool true] 48)) (by simp)
            simpa using h
          obtain ⟨q0, q1, q2⟩ := q9
          refine bodyPost_ret (v := .agg #[.bool false, .int .i64 w1, .bool t1]) (by simp [results, Try.results20, go_sem, q0, q1, q2]) rfl ?_
          exact ⟨G, by rw [HX.out], by rw [HX.out]; exact (((hm.alloc_ _).alloc_ _).alloc_ _).alloc_ _, ((((Mv.refl_ b G w).alloc_ _).alloc_ _).alloc_ _).alloc_ _⟩
        · have z2 : (t1 == t2) = false := by simpa using ht
          have HX : Hid (andT X gs ⟨false, w1, t1⟩ ⟨false, w1, t2⟩ = (gs, ⟨true, 0, true⟩)) := Lib.hid (by simp [andT, ht])
          go_enter Try.func20, Try.ntmps20
          go_wp2
          have q9 : Bx3 ((((w.alloc (.cells #[.bool false, .int .i64 w1, .bool t1] 48)).alloc (.cells #[.bool false, .int .i64 w1, .bool t2] 48)).alloc (.cells #[.bool true, .int .i64 0, .bool true] 48)).alloc (.cells #[.bool true, .int .i64 0, .bool true] 48)) (w.heap.size + 2) (.bool true) (.int .i64 0) (.bool true) := by
            have h := (Bx3.new ((w.alloc (.cells #[.bool false, .int .i64 w1, .bool t1] 48)).alloc (.cells #[.bool false, .int .i64 w1, .bool t2] 48)) (.bool true) (.int .i64 0) (.bool true) 48).bel (B := w.heap.size + 3) ((Below.refl _ _).alloc (by simp) (.cells #[.bool true, .int .i64 0, .bool true] 48)) (by simp)
            simpa using h
          obtain ⟨q0, q1, q2⟩ := q9
          refine bodyPost_ret (v := .agg #[.bool true, .int .i64 0, .bool true]) (by simp [results, Try.results20, go_sem, q0, q1, q2]) rfl ?_
          exact ⟨G, by rw [HX.out], by rw [HX.out]; exact (((hm.alloc_ _).alloc_ _).alloc_ _).alloc_ _, ((((Mv.refl_ b G w).alloc_ _).alloc_ _).alloc_ _).alloc_ _⟩
      · have z1 : (w1 == w2) = false := by simpa using hw
        have hl1 := made_le X gs ⟨false, w1, t1⟩
        have hl2 := made_le X (made X gs ⟨false, w1, t1⟩).1 ⟨false, w2, t2⟩
        obtain ⟨Z1, hZ1⟩ : ∃ Z, Hid ((made X gs ⟨false, w1, t1⟩).1 = Z) := ⟨_, Lib.hid rfl⟩
        obtain ⟨V1, hV1⟩ : ∃ Z, Hid ((made X gs ⟨false, w1, t1⟩).2 = Z) := ⟨_, Lib.hid rfl⟩
        rw [hZ1.out] at hl1 hl2
        obtain ⟨Z2, hZ2⟩ : ∃ Z, Hid ((made X Z1 ⟨false, w2, t2⟩).1 = Z) := ⟨_, Lib.hid rfl⟩
        obtain ⟨V2, hV2⟩ : ∃ Z, Hid ((made X Z1 ⟨false, w2, t2⟩).2 = Z) := ⟨_, Lib.hid rfl⟩
        rw [hZ2.out] at hl2
        obtain ⟨Z, hZ⟩ : ∃ Z, Hid (onceG Z2 ⟨1, V1, V2⟩ = Z) := ⟨_, Lib.hid rfl⟩
        obtain ⟨V, hV⟩ : ∃ Z, Hid (onceW X Z2 ⟨1, V1, V2⟩ = Z) := ⟨_, Lib.hid rfl⟩
        have HX : Hid (andT X gs ⟨false, w1, t1⟩ ⟨false, w2, t2⟩ = (Z, ⟨false, V, false⟩)) := Lib.hid (by rw [← hZ.out, ← hV.out, ← hZ2.out, ← hV2.out, ← hZ1.out, ← hV1.out]; simp [andT, hw, andG])
        clear hw
        go_enter Try.func20, Try.ntmps20
        go_wp2_with fail
        rw [← HWW.out]
        refine (made_any lo b x y Ao no co gs G X ⟨false, w1, t1⟩ _ hmA hx hy (by omega) hlA hXe).mono ?_
        rintro e w5 ⟨G5, rfl, hm5, hv5⟩
        rw [hZ1.out] at hm5
        rw [hV1.out]
        have y5 := y4.mv hv5 (off _ (by omega))
        have r5 := r4.mv hv5 (off _ (by omega))
        have f5 := f4.mvO hv5 (by omega) (off _ (by omega))
        have o5 := hv5.offF (k := w.heap.size + 2) (by omega) (off _ (by omega))
        have hz5 := hv5.size
        have hq := y5; obtain ⟨l0, l1, l2⟩ := hq
        go_wp2_with fail
        refine (made_any lo b x y Ao no co Z1 G5 X ⟨false, w2, t2⟩ _ hm5 hx hy (by omega) (by omega) hXe).mono ?_
        rintro e w6 ⟨G6, rfl, hm6, hv6⟩
        rw [hZ2.out] at hm6
        rw [hV2.out]
        have r6 := r5.mv hv6 o5
        have f6 := f5.mvO hv6 (by omega) o5
        have o6 := hv6.offF (k := w.heap.size + 2) (by omega) o5
        have hz6 := hv6.size
        clear l0 l1 l2
        go_wp2_with fail
        refine (once_any lo b x y Ao no co Z2 G6 X 1 V1 V2 _ hm6 hx hy (by omega) (by omega) hXe).mono ?_
        rintro e w7 ⟨G7, rfl, hm7, hv7⟩
        rw [hZ.out] at hm7
        rw [hV.out]
        have r7 := r6.mv hv7 o6
        have f7 := f6.mvO hv7 (by omega) o6
        have o7 := hv7.offF (k := w.heap.size + 2) (by omega) o6
        have hvv := ((hvA.trans_ hv5).trans_ hv6).trans_ hv7
        have hq := r7; obtain ⟨j0, j1, j2⟩ := hq
        have e0 := f7 0; have e1 := f7 1; have e2 := f7 2
        have q9 := r7.set (.bool false) (.int .i64 V) (.bool false)
        go_wp2
        obtain ⟨q0, q1, q2⟩ := q9
        refine bodyPost_ret (v := .agg #[.bool false, .int .i64 V, .bool false]) (by simp [results, Try.results20, go_sem, q0, q1, q2]) rfl ?_
        exact ⟨G7, by rw [HX.out], by rw [HX.out]; exact hm7.set3 o7 _ _ _, hvv.set3 (by omega) _ _ _⟩
end Go.Proofs.Ytikgagjoapggnaa
