/- The walk of the law FnExactThenCircuit: whatever its arguments read as, it returns true and leaves what was there. No condition. -/
import Derived.Test.YtadgmbkpbgcdjaaChg
import Derived.Test.YtadgmbkpbgcdjaaThn2
import Derived.Test.YtadgmbkpbgcdjaaRes2
import Derived.Test.YtadgmbkpbgcdjaaCLaw2
namespace Go.Proofs.Ytadgmbkpbgcdjaa.lawThenCircuit
open Go.RowKit
set_option linter.unusedVariables false
set_option linter.unusedSimpArgs false
attribute [local go_sem] sepAt sepUpon pureAt pureUpon

set_option maxRecDepth 100000 in
set_option maxHeartbeats 8000000 in
theorem walk (y0 u0 : Int) (A0 : Option Addr) (n0 c0 : Nat) (O0 : Option Addr) (m0 d0 : Nat) (g0 : List G3) (o0 : List Int) (y1 u1 : Int) (A1 : Option Addr) (n1 c1 : Nat) (O1 : Option Addr) (m1 d1 : Nat) (g1 : List G3) (o1 : List Int) (w : World) (h0 : (RG w A0 n0 g0 ∧ RI w O0 m0 o0) ∧ n0 ≤ maxLen ∧ m0 ≤ maxLen) (h1 : (RG w A1 n1 g1 ∧ RI w O1 m1 o1) ∧ n1 ≤ maxLen ∧ m1 ≤ maxLen) :
    Calls Try.prog 5 #[.agg #[.int .i64 y0, .int .i64 u0, .slice A0 n0 c0, .slice O0 m0 d0], .agg #[.int .i64 y1, .int .i64 u1, .slice A1 n1 c1, .slice O1 m1 d1]] w fun e w' => e = .returned (.bool true) ∧ Below w.heap.size w w' := by
  obtain ⟨h0, hN0, hM0⟩ := h0
  obtain ⟨h1, hN1, hM1⟩ := h1
  have al1 : Below w.heap.size w (w.alloc (.cells #[.int .i64 y0, .int .i64 u0, .slice A0 n0 c0, .slice O0 m0 d0] 37)) := (Below.refl _ _).alloc (Nat.le_refl _) _
  have xP0_al1 : BxC (w.alloc (.cells #[.int .i64 y0, .int .i64 u0, .slice A0 n0 c0, .slice O0 m0 d0] 37)) w.heap.size y0 u0 A0 n0 c0 O0 m0 d0 := BxC.new _ _
  have Bq1 := al1
  clear al1
  have al2 : Below (w.alloc (.cells #[.int .i64 y0, .int .i64 u0, .slice A0 n0 c0, .slice O0 m0 d0] 37)).heap.size (w.alloc (.cells #[.int .i64 y0, .int .i64 u0, .slice A0 n0 c0, .slice O0 m0 d0] 37)) ((w.alloc (.cells #[.int .i64 y0, .int .i64 u0, .slice A0 n0 c0, .slice O0 m0 d0] 37)).alloc (.cells #[.int .i64 y1, .int .i64 u1, .slice A1 n1 c1, .slice O1 m1 d1] 37)) := (Below.refl _ _).alloc (Nat.le_refl _) _
  have xP0_al2 := xP0_al1.below al2; clear xP0_al1
  have xP1_al2 : BxC ((w.alloc (.cells #[.int .i64 y0, .int .i64 u0, .slice A0 n0 c0, .slice O0 m0 d0] 37)).alloc (.cells #[.int .i64 y1, .int .i64 u1, .slice A1 n1 c1, .slice O1 m1 d1] 37)) (w.alloc (.cells #[.int .i64 y0, .int .i64 u0, .slice A0 n0 c0, .slice O0 m0 d0] 37)).heap.size y1 u1 A1 n1 c1 O1 m1 d1 := BxC.new _ _
  simp only [World.size_alloc] at xP1_al2
  have Bq2 := Bq1.trans (al2.mono Bq1.size); clear Bq1
  clear al2
  have l0 := h0.1.len; have k0 := h0.2.len
  have l1 := h1.1.len; have k1 := h1.2.len
  by_cases t0 : (szC 1048576 n0 m0) < 0
  · skip
    go_enter Try.func5, Try.ntmps5
    have qq := xP0_al2; obtain ⟨qP0_0, qP0_1, qP0_2, qP0_3⟩ := qq
    go_wp2_with fail
    refine (szCircuit_any y0 u0 A0 n0 c0 O0 m0 d0 1048576 _ (by omega) hN0 hM0).mono ?_
    rintro e w1 ⟨rfl, b1⟩
    clear qP0_0 qP0_1 qP0_2 qP0_3
    have xP0_1 := xP0_al2.below b1; clear xP0_al2
    have xP1_1 := xP1_al2.below b1; clear xP1_al2
    have z1 := b1.size
    simp only [World.size_alloc] at z1
    have B1 := Bq2.trans (b1.mono Bq2.size); clear b1 Bq2
    go_wp2
    go_ret
    exact ⟨rfl, B1⟩
  obtain ⟨ta0, tb0, tc0, td0⟩ := szC_pos (l := 1048576) (n := n0) (m := m0) t0
  by_cases t1 : (szC (szC 1048576 n0 m0) n1 m1) < 0
  · skip
    go_enter Try.func5, Try.ntmps5
    have qq := xP0_al2; obtain ⟨qP0_0, qP0_1, qP0_2, qP0_3⟩ := qq
    go_wp2_with fail
    refine (szCircuit_any y0 u0 A0 n0 c0 O0 m0 d0 1048576 _ (by omega) hN0 hM0).mono ?_
    rintro e w1 ⟨rfl, b1⟩
    clear qP0_0 qP0_1 qP0_2 qP0_3
    have xP0_1 := xP0_al2.below b1; clear xP0_al2
    have xP1_1 := xP1_al2.below b1; clear xP1_al2
    have z1 := b1.size
    simp only [World.size_alloc] at z1
    have B1 := Bq2.trans (b1.mono Bq2.size); clear b1 Bq2
    have qq := xP1_1; obtain ⟨qP1_0, qP1_1, qP1_2, qP1_3⟩ := qq
    go_wp2_with fail
    refine (szCircuit_any y1 u1 A1 n1 c1 O1 m1 d1 (szC 1048576 n0 m0) _ (by omega) hN1 hM1).mono ?_
    rintro e w2 ⟨rfl, b2⟩
    clear qP1_0 qP1_1 qP1_2 qP1_3
    have xP0_2 := xP0_1.below b2; clear xP0_1
    have xP1_2 := xP1_1.below b2; clear xP1_1
    have z2 := b2.size
    have B2 := B1.trans (b2.mono B1.size); clear b2 B1
    go_wp2
    go_ret
    exact ⟨rfl, B2⟩
  obtain ⟨ta1, tb1, tc1, td1⟩ := szC_pos (l := (szC 1048576 n0 m0)) (n := n1) (m := m1) t1
  have hzl0 := thenF_len y0 u0 g0 o0 y1 u1 g1 o1
  go_enter Try.func5, Try.ntmps5
  have qq := xP0_al2; obtain ⟨qP0_0, qP0_1, qP0_2, qP0_3⟩ := qq
  go_wp2_with fail
  refine (szCircuit_any y0 u0 A0 n0 c0 O0 m0 d0 1048576 _ (by omega) hN0 hM0).mono ?_
  rintro e w1 ⟨rfl, b1⟩
  clear qP0_0 qP0_1 qP0_2 qP0_3
  have xP0_1 := xP0_al2.below b1; clear xP0_al2
  have xP1_1 := xP1_al2.below b1; clear xP1_al2
  have z1 := b1.size
  simp only [World.size_alloc] at z1
  have B1 := Bq2.trans (b1.mono Bq2.size); clear b1 Bq2
  have qq := xP1_1; obtain ⟨qP1_0, qP1_1, qP1_2, qP1_3⟩ := qq
  go_wp2_with fail
  refine (szCircuit_any y1 u1 A1 n1 c1 O1 m1 d1 (szC 1048576 n0 m0) _ (by omega) hN1 hM1).mono ?_
  rintro e w2 ⟨rfl, b2⟩
  clear qP1_0 qP1_1 qP1_2 qP1_3
  have xP0_2 := xP0_1.below b2; clear xP0_1
  have xP1_2 := xP1_1.below b2; clear xP1_1
  have z2 := b2.size
  have B2 := B1.trans (b2.mono B1.size); clear b2 B1
  have qq := xP0_2; obtain ⟨qP0_0, qP0_1, qP0_2, qP0_3⟩ := qq
  have qq := xP1_2; obtain ⟨qP1_0, qP1_1, qP1_2, qP1_3⟩ := qq
  go_wp2_with fail
  refine wp_region_mem0 (11) [(⟨w.heap.size, 0, none⟩, .int .i64 y0), (⟨w.heap.size, 1, none⟩, .int .i64 u0), (⟨w.heap.size, 2, none⟩, .slice A0 n0 c0), (⟨w.heap.size, 3, none⟩, .slice O0 m0 d0), (⟨(w.heap.size + 1), 0, none⟩, .int .i64 y1), (⟨(w.heap.size + 1), 1, none⟩, .int .i64 u1), (⟨(w.heap.size + 1), 2, none⟩, .slice A1 n1 c1), (⟨(w.heap.size + 1), 3, none⟩, .slice O1 m1 d1)] [(1, [], []), (3, [], []), (4, [1, 3], []), (8, [], []), (9, [4, 8], [4, 8])] [9] [(1, Res.aggC (w2.heap.size) y0 u0 n0 m0 g0 o0), (3, Res.aggC (w2.heap.size) y1 u1 n1 m1 g1 o1), (4, Res.circ (w2.heap.size) ((thenF y0 u0 g0 o0 y1 u1 g1 o1).getD ⟨0, 0, [], []⟩).i0 ((thenF y0 u0 g0 o0 y1 u1 g1 o1).getD ⟨0, 0, [], []⟩).i1 ((thenF y0 u0 g0 o0 y1 u1 g1 o1).getD ⟨0, 0, [], []⟩).gs.length ((thenF y0 u0 g0 o0 y1 u1 g1 o1).getD ⟨0, 0, [], []⟩).os.length ((thenF y0 u0 g0 o0 y1 u1 g1 o1).getD ⟨0, 0, [], []⟩).gs ((thenF y0 u0 g0 o0 y1 u1 g1 o1).getD ⟨0, 0, [], []⟩).os (thenF y0 u0 g0 o0 y1 u1 g1 o1).isSome), (8, Res.box [.int .i64 0, .int .i64 0, .slice none 0 0, .slice none 0 0]), (9, Res.stC (w2.heap.size) ((thenF y0 u0 g0 o0 y1 u1 g1 o1).getD ⟨0, 0, [], []⟩).i0 ((thenF y0 u0 g0 o0 y1 u1 g1 o1).getD ⟨0, 0, [], []⟩).i1 ((thenF y0 u0 g0 o0 y1 u1 g1 o1).getD ⟨0, 0, [], []⟩).gs.length ((thenF y0 u0 g0 o0 y1 u1 g1 o1).getD ⟨0, 0, [], []⟩).os.length ((thenF y0 u0 g0 o0 y1 u1 g1 o1).getD ⟨0, 0, [], []⟩).gs ((thenF y0 u0 g0 o0 y1 u1 g1 o1).getD ⟨0, 0, [], []⟩).os (fun A c O d => circV ((thenF y0 u0 g0 o0 y1 u1 g1 o1).getD ⟨0, 0, [], []⟩).i0 ((thenF y0 u0 g0 o0 y1 u1 g1 o1).getD ⟨0, 0, [], []⟩).i1 A ((thenF y0 u0 g0 o0 y1 u1 g1 o1).getD ⟨0, 0, [], []⟩).gs.length c O ((thenF y0 u0 g0 o0 y1 u1 g1 o1).getD ⟨0, 0, [], []⟩).os.length d (thenF y0 u0 g0 o0 y1 u1 g1 o1).isSome))] (by kernel_rfl) (by kernel_rfl) (by kernel_rfl) (by simp only [CellsL, List.mem_cons, forall_eq_or_imp, List.not_mem_nil, false_implies, implies_true, and_true]; repeat (any_goals (apply And.intro)); all_goals (first | assumption | go_simp)) ?_
  simp only [List.take_succ_cons, List.take_zero, List.drop_succ_cons, List.drop_zero, List.take_nil, List.drop_nil, List.take, List.drop]
  repeat (first
    | (refine mem_skip (by rfl) (by rfl) ?_
       simp only [Act.put, List.setIfInBounds_toArray, List.set_cons_zero, List.set_cons_succ])
    | (refine mem_pure (by rfl) (by rfl) (fun K hK => ?_)
       apply Exists.intro
       refine ⟨fun w3 hw3 => ?_, ?_⟩
       · have hcs := hw3
         simp only [CellsL, List.mem_cons, forall_eq_or_imp, List.not_mem_nil, false_implies, implies_true, and_true] at hcs
         clear hw3
         go_simp
         first | done | exact ⟨rfl, rfl⟩ | rfl
       refine hK _ ?_
       clear hK K
       try simp only [Act.put, List.setIfInBounds_toArray, List.set_cons_zero, List.set_cons_succ]))
  refine mem_agg (w2.heap.size) y0 u0 n0 m0 g0 o0 (by rfl) (by rfl) (by omega) (fun w3 hw3 hc3 hp3 => ?_) (fun At0 Ct0 Ot0 Dt0 => ?_)
  · have hB3 := B2.trans ((alt_below hw3).mono B2.size)
    go_simp; refine (toCircuit_any y0 u0 A0 n0 c0 O0 m0 d0 _ _ _ ⟨h0.1.below hB3 (Nat.le_refl _), h0.2.below hB3 (Nat.le_refl _)⟩ (by omega) (by omega)).mono ?_; rintro e w4 ⟨S4, T4, rfl, f4, b4⟩; exact retPost.mk_ (postAgg.mk_ f4 b4)
  simp only [aggV, Act.put, List.setIfInBounds_toArray, List.set_cons_zero, List.set_cons_succ]
  repeat (first
    | (refine mem_skip (by rfl) (by rfl) ?_
       simp only [Act.put, List.setIfInBounds_toArray, List.set_cons_zero, List.set_cons_succ])
    | (refine mem_pure (by rfl) (by rfl) (fun K hK => ?_)
       apply Exists.intro
       refine ⟨fun w3 hw3 => ?_, ?_⟩
       · have hcs := hw3
         simp only [CellsL, List.mem_cons, forall_eq_or_imp, List.not_mem_nil, false_implies, implies_true, and_true] at hcs
         clear hw3
         go_simp
         first | done | exact ⟨rfl, rfl⟩ | rfl
       refine hK _ ?_
       clear hK K
       try simp only [Act.put, List.setIfInBounds_toArray, List.set_cons_zero, List.set_cons_succ]))
  refine mem_agg (w2.heap.size) y1 u1 n1 m1 g1 o1 (by rfl) (by rfl) (by omega) (fun w3 hw3 hc3 hp3 => ?_) (fun At1 Ct1 Ot1 Dt1 => ?_)
  · have hB3 := B2.trans ((alt_below hw3).mono B2.size)
    go_simp; refine (toCircuit_any y1 u1 A1 n1 c1 O1 m1 d1 _ _ _ ⟨h1.1.below hB3 (Nat.le_refl _), h1.2.below hB3 (Nat.le_refl _)⟩ (by omega) (by omega)).mono ?_; rintro e w4 ⟨S4, T4, rfl, f4, b4⟩; exact retPost.mk_ (postAgg.mk_ f4 b4)
  simp only [aggV, Act.put, List.setIfInBounds_toArray, List.set_cons_zero, List.set_cons_succ]
  repeat (first
    | (refine mem_skip (by rfl) (by rfl) ?_
       simp only [Act.put, List.setIfInBounds_toArray, List.set_cons_zero, List.set_cons_succ])
    | (refine mem_pure (by rfl) (by rfl) (fun K hK => ?_)
       apply Exists.intro
       refine ⟨fun w3 hw3 => ?_, ?_⟩
       · have hcs := hw3
         simp only [CellsL, List.mem_cons, forall_eq_or_imp, List.not_mem_nil, false_implies, implies_true, and_true] at hcs
         clear hw3
         go_simp
         first | done | exact ⟨rfl, rfl⟩ | rfl
       refine hK _ ?_
       clear hK K
       try simp only [Act.put, List.setIfInBounds_toArray, List.set_cons_zero, List.set_cons_succ]))
  refine mem_circN (w2.heap.size) ((thenF y0 u0 g0 o0 y1 u1 g1 o1).getD ⟨0, 0, [], []⟩).i0 ((thenF y0 u0 g0 o0 y1 u1 g1 o1).getD ⟨0, 0, [], []⟩).i1 ((thenF y0 u0 g0 o0 y1 u1 g1 o1).getD ⟨0, 0, [], []⟩).gs.length ((thenF y0 u0 g0 o0 y1 u1 g1 o1).getD ⟨0, 0, [], []⟩).os.length ((thenF y0 u0 g0 o0 y1 u1 g1 o1).getD ⟨0, 0, [], []⟩).gs ((thenF y0 u0 g0 o0 y1 u1 g1 o1).getD ⟨0, 0, [], []⟩).os (thenF y0 u0 g0 o0 y1 u1 g1 o1).isSome (by rfl) (by rfl) (by omega) (fun w3 hw3 hc3 hp3 => ?_) (fun Aw0 Cw0 Ew0 Dw0 => ?_)
  · have r0 : OwnC w3 (w2.heap.size) w3.heap.size At0 n0 Ct0 Ot0 m0 Dt0 g0 o0 := hp3.1.1.1 At0 Ct0 Ot0 Dt0 rfl
    have r1 : OwnC w3 (w2.heap.size) w3.heap.size At1 n1 Ct1 Ot1 m1 Dt1 g1 o1 := hp3.1.2.1.1 At1 Ct1 Ot1 Dt1 rfl
    go_simp; refine (spec_ThenCircuit_any _ _ _ _ _ _ _ _ _ _ _ _ _ _ _ _ _ _ _ _ _ r0.reads (by omega) (by omega) r1.reads (by omega) (by omega) ).mono ?_; rintro e w4 ⟨A4, C4, E4, D4, rfl, f4, b4⟩; exact retPost.mk_ (postCirc.mk_ f4 b4)
  simp only [circV, Act.put, List.setIfInBounds_toArray, List.set_cons_zero, List.set_cons_succ]
  repeat (first
    | (refine mem_skip (by rfl) (by rfl) ?_
       simp only [Act.put, List.setIfInBounds_toArray, List.set_cons_zero, List.set_cons_succ])
    | (refine mem_pure (by rfl) (by rfl) (fun K hK => ?_)
       apply Exists.intro
       refine ⟨fun w3 hw3 => ?_, ?_⟩
       · have hcs := hw3
         simp only [CellsL, List.mem_cons, forall_eq_or_imp, List.not_mem_nil, false_implies, implies_true, and_true] at hcs
         clear hw3
         go_simp
         first | done | exact ⟨rfl, rfl⟩ | rfl
       refine hK _ ?_
       clear hK K
       try simp only [Act.put, List.setIfInBounds_toArray, List.set_cons_zero, List.set_cons_succ]))
  refine mem_box [.int .i64 0, .int .i64 0, .slice none 0 0, .slice none 0 0] (by rfl) (by rfl) (fun w3 hw3 hc3 hp3 => ?_) (fun bxw0 => ?_)
  · have hcs := hc3
    simp only [CellsL, List.mem_cons, forall_eq_or_imp, List.not_mem_nil, false_implies, implies_true, and_true] at hcs
    (go_simp; exact postBox.circ _ _)
  try simp only [Act.put, List.setIfInBounds_toArray, List.set_cons_zero, List.set_cons_succ]
  refine mem_stC 4 8 (w2.heap.size) ((thenF y0 u0 g0 o0 y1 u1 g1 o1).getD ⟨0, 0, [], []⟩).i0 ((thenF y0 u0 g0 o0 y1 u1 g1 o1).getD ⟨0, 0, [], []⟩).i1 ((thenF y0 u0 g0 o0 y1 u1 g1 o1).getD ⟨0, 0, [], []⟩).gs.length ((thenF y0 u0 g0 o0 y1 u1 g1 o1).getD ⟨0, 0, [], []⟩).os.length ((thenF y0 u0 g0 o0 y1 u1 g1 o1).getD ⟨0, 0, [], []⟩).gs ((thenF y0 u0 g0 o0 y1 u1 g1 o1).getD ⟨0, 0, [], []⟩).os (fun A c O d => circV ((thenF y0 u0 g0 o0 y1 u1 g1 o1).getD ⟨0, 0, [], []⟩).i0 ((thenF y0 u0 g0 o0 y1 u1 g1 o1).getD ⟨0, 0, [], []⟩).i1 A ((thenF y0 u0 g0 o0 y1 u1 g1 o1).getD ⟨0, 0, [], []⟩).gs.length c O ((thenF y0 u0 g0 o0 y1 u1 g1 o1).getD ⟨0, 0, [], []⟩).os.length d (thenF y0 u0 g0 o0 y1 u1 g1 o1).isSome) (Res.circ (w2.heap.size) ((thenF y0 u0 g0 o0 y1 u1 g1 o1).getD ⟨0, 0, [], []⟩).i0 ((thenF y0 u0 g0 o0 y1 u1 g1 o1).getD ⟨0, 0, [], []⟩).i1 ((thenF y0 u0 g0 o0 y1 u1 g1 o1).getD ⟨0, 0, [], []⟩).gs.length ((thenF y0 u0 g0 o0 y1 u1 g1 o1).getD ⟨0, 0, [], []⟩).os.length ((thenF y0 u0 g0 o0 y1 u1 g1 o1).getD ⟨0, 0, [], []⟩).gs ((thenF y0 u0 g0 o0 y1 u1 g1 o1).getD ⟨0, 0, [], []⟩).os (thenF y0 u0 g0 o0 y1 u1 g1 o1).isSome) Aw0 Cw0 Ew0 Dw0 bxw0 (by rfl) (by rfl) (by rfl) (by rfl) (by rfl) (by rfl) (by rfl) (by decide) (by rfl) (by rfl) (fun h => circV_inj h) (fun ds w3 h3 => h3 _ _ _ _ rfl) (fun ds g hg => ⟨Aw0, Cw0, Ew0, Dw0, rfl, hg⟩) (fun w3 hw3 hc3 hz3 hf3 => ?_) ?_
  · obtain ⟨m0, m1, m2, m3⟩ := hz3
    have gz0 := hf3 0; have gz1 := hf3 1; have gz2 := hf3 2; have gz3 := hf3 3
    go_simp; exact postSet.mk_ _ _
  try simp only [Act.put, List.setIfInBounds_toArray, List.set_cons_zero, List.set_cons_succ]
  repeat (first
    | (refine mem_skip (by rfl) (by rfl) ?_
       simp only [Act.put, List.setIfInBounds_toArray, List.set_cons_zero, List.set_cons_succ])
    | (refine mem_pure (by rfl) (by rfl) (fun K hK => ?_)
       apply Exists.intro
       refine ⟨fun w3 hw3 => ?_, ?_⟩
       · have hcs := hw3
         simp only [CellsL, List.mem_cons, forall_eq_or_imp, List.not_mem_nil, false_implies, implies_true, and_true] at hcs
         clear hw3
         go_simp
         first | done | exact ⟨rfl, rfl⟩ | rfl
       refine hK _ ?_
       clear hK K
       try simp only [Act.put, List.setIfInBounds_toArray, List.set_cons_zero, List.set_cons_succ]))
  refine wpSep_end ?_
  intro w3 a3 c3 fin3 ap3
  have b3 := alt_below a3
  have hst : BxC w3 bxw0 ((thenF y0 u0 g0 o0 y1 u1 g1 o1).getD ⟨0, 0, [], []⟩).i0 ((thenF y0 u0 g0 o0 y1 u1 g1 o1).getD ⟨0, 0, [], []⟩).i1 Aw0 ((thenF y0 u0 g0 o0 y1 u1 g1 o1).getD ⟨0, 0, [], []⟩).gs.length Cw0 Ew0 ((thenF y0 u0 g0 o0 y1 u1 g1 o1).getD ⟨0, 0, [], []⟩).os.length Dw0 ∧ Fz w3 bxw0 ∧ bxw0 < w3.heap.size ∧ OwnC w3 (w2.heap.size) w3.heap.size Aw0 ((thenF y0 u0 g0 o0 y1 u1 g1 o1).getD ⟨0, 0, [], []⟩).gs.length Cw0 Ew0 ((thenF y0 u0 g0 o0 y1 u1 g1 o1).getD ⟨0, 0, [], []⟩).os.length Dw0 ((thenF y0 u0 g0 o0 y1 u1 g1 o1).getD ⟨0, 0, [], []⟩).gs ((thenF y0 u0 g0 o0 y1 u1 g1 o1).getD ⟨0, 0, [], []⟩).os := fin3.1.1 Aw0 Cw0 Ew0 Dw0 bxw0 rfl
  have lb3 : w2.heap.size ≤ bxw0 := ((fin3.1.2 bxw0 ⟨Aw0, Cw0, Ew0, Dw0, bxw0, rfl, .inl rfl⟩).1).elim id False.elim
  obtain ⟨xw0_3, fz3, ub3, fw0_3⟩ := hst
  clear qP0_0 qP0_1 qP0_2 qP0_3 qP1_0 qP1_1 qP1_2 qP1_3
  clear a3 c3 fin3 ap3 fz3
  have xP0_3 := xP0_2.below b3; clear xP0_2
  have xP1_3 := xP1_2.below b3; clear xP1_2
  have z3 := b3.size
  have B3 := B2.trans (b3.mono B2.size); clear b3 B2
  have qq := xP0_3; obtain ⟨qP0_0, qP0_1, qP0_2, qP0_3⟩ := qq
  go_wp2_with fail
  refine (toCircuit_any y0 u0 A0 n0 c0 O0 m0 d0 _ _ _ ⟨h0.1.below B3 (Nat.le_refl _), h0.2.below B3 (Nat.le_refl _)⟩ (by omega) (by omega)).mono ?_
  rintro e w4 ⟨Sx0, Tx0, rfl, fx0_4, b4⟩
  clear qP0_0 qP0_1 qP0_2 qP0_3
  have fw0_4 := fw0_3.below b4 (.inl (Nat.le_refl _)); clear fw0_3
  have xP0_4 := xP0_3.below b4; clear xP0_3
  have xP1_4 := xP1_3.below b4; clear xP1_3
  have xw0_4 := xw0_3.below b4; clear xw0_3
  have z4 := b4.size
  have B4 := B3.trans (b4.mono B3.size); clear b4 B3
  have al3 : Below w4.heap.size w4 (w4.alloc (.cells #[.int .i64 y0, .int .i64 u0, .slice (some Sx0) n0 n0, .slice (some Tx0) m0 m0] 40)) := (Below.refl _ _).alloc (Nat.le_refl _) _
  have fw0_al3 := fw0_4.below al3 (.inl (Nat.le_refl _)); clear fw0_4
  have fx0_al3 := fx0_4.below al3 (.inl (Nat.le_refl _)); clear fx0_4
  have xP0_al3 := xP0_4.below al3; clear xP0_4
  have xP1_al3 := xP1_4.below al3; clear xP1_4
  have xw0_al3 := xw0_4.below al3; clear xw0_4
  have xx0_al3 : BxC (w4.alloc (.cells #[.int .i64 y0, .int .i64 u0, .slice (some Sx0) n0 n0, .slice (some Tx0) m0 m0] 40)) w4.heap.size y0 u0 (some Sx0) n0 n0 (some Tx0) m0 m0 := BxC.new _ _
  have Bq3 := B4.trans (al3.mono B4.size); clear B4
  clear al3
  have qq := xP1_al3; obtain ⟨qP1_0, qP1_1, qP1_2, qP1_3⟩ := qq
  go_wp2_with fail
  refine (toCircuit_any y1 u1 A1 n1 c1 O1 m1 d1 _ _ _ ⟨h1.1.below Bq3 (Nat.le_refl _), h1.2.below Bq3 (Nat.le_refl _)⟩ (by omega) (by omega)).mono ?_
  rintro e w5 ⟨Sx1, Tx1, rfl, fx1_5, b5⟩
  clear qP1_0 qP1_1 qP1_2 qP1_3
  have fw0_5 := fw0_al3.below b5 (.inl (Nat.le_refl _)); clear fw0_al3
  have fx0_5 := fx0_al3.below b5 (.inl (Nat.le_refl _)); clear fx0_al3
  have xP0_5 := xP0_al3.below b5; clear xP0_al3
  have xP1_5 := xP1_al3.below b5; clear xP1_al3
  have xw0_5 := xw0_al3.below b5; clear xw0_al3
  have xx0_5 := xx0_al3.below b5; clear xx0_al3
  have z5 := b5.size
  simp only [World.size_alloc] at z5
  simp only [World.size_alloc] at fx1_5
  have B5 := Bq3.trans (b5.mono Bq3.size); clear b5 Bq3
  have al4 : Below w5.heap.size w5 (w5.alloc (.cells #[.int .i64 y1, .int .i64 u1, .slice (some Sx1) n1 n1, .slice (some Tx1) m1 m1] 40)) := (Below.refl _ _).alloc (Nat.le_refl _) _
  have fw0_al4 := fw0_5.below al4 (.inl (Nat.le_refl _)); clear fw0_5
  have fx0_al4 := fx0_5.below al4 (.inl (Nat.le_refl _)); clear fx0_5
  have fx1_al4 := fx1_5.below al4 (.inl (Nat.le_refl _)); clear fx1_5
  have xP0_al4 := xP0_5.below al4; clear xP0_5
  have xP1_al4 := xP1_5.below al4; clear xP1_5
  have xw0_al4 := xw0_5.below al4; clear xw0_5
  have xx0_al4 := xx0_5.below al4; clear xx0_5
  have xx1_al4 : BxC (w5.alloc (.cells #[.int .i64 y1, .int .i64 u1, .slice (some Sx1) n1 n1, .slice (some Tx1) m1 m1] 40)) w5.heap.size y1 u1 (some Sx1) n1 n1 (some Tx1) m1 m1 := BxC.new _ _
  have Bq4 := B5.trans (al4.mono B5.size); clear B5
  clear al4
  have qq := xx0_al4; obtain ⟨qx0_0, qx0_1, qx0_2, qx0_3⟩ := qq
  have qq := xx1_al4; obtain ⟨qx1_0, qx1_1, qx1_2, qx1_3⟩ := qq
  go_wp2_with fail
  refine (ThenCircuit_any _ _ _ _ _ _ _ _ _ _ _ _ _ _ _ _ _ _ _ _ _ fx0_al4.reads (by omega) (by omega) fx1_al4.reads (by omega) (by omega) ).mono ?_
  rintro e w6 ⟨Ag0, Cg0, Eg0, Dg0, rfl, fg0_6, b6⟩
  clear qx0_0 qx0_1 qx0_2 qx0_3 qx1_0 qx1_1 qx1_2 qx1_3
  have fw0_6 := fw0_al4.below b6 (.inl (Nat.le_refl _)); clear fw0_al4
  have fx0_6 := fx0_al4.below b6 (.inl (Nat.le_refl _)); clear fx0_al4
  have fx1_6 := fx1_al4.below b6 (.inl (Nat.le_refl _)); clear fx1_al4
  have xP0_6 := xP0_al4.below b6; clear xP0_al4
  have xP1_6 := xP1_al4.below b6; clear xP1_al4
  have xw0_6 := xw0_al4.below b6; clear xw0_al4
  have xx0_6 := xx0_al4.below b6; clear xx0_al4
  have xx1_6 := xx1_al4.below b6; clear xx1_al4
  have z6 := b6.size
  simp only [World.size_alloc] at z6
  simp only [World.size_alloc] at fg0_6
  have B6 := Bq4.trans (b6.mono Bq4.size); clear b6 Bq4
  have al5 : Below w6.heap.size w6 (w6.alloc (.cells #[.int .i64 ((thenF y0 u0 g0 o0 y1 u1 g1 o1).getD ⟨0, 0, [], []⟩).i0, .int .i64 ((thenF y0 u0 g0 o0 y1 u1 g1 o1).getD ⟨0, 0, [], []⟩).i1, .slice Ag0 ((thenF y0 u0 g0 o0 y1 u1 g1 o1).getD ⟨0, 0, [], []⟩).gs.length Cg0, .slice Eg0 ((thenF y0 u0 g0 o0 y1 u1 g1 o1).getD ⟨0, 0, [], []⟩).os.length Dg0] 40)) := (Below.refl _ _).alloc (Nat.le_refl _) _
  have fw0_al5 := fw0_6.below al5 (.inl (Nat.le_refl _)); clear fw0_6
  have fx0_al5 := fx0_6.below al5 (.inl (Nat.le_refl _)); clear fx0_6
  have fx1_al5 := fx1_6.below al5 (.inl (Nat.le_refl _)); clear fx1_6
  have fg0_al5 := fg0_6.below al5 (.inl (Nat.le_refl _)); clear fg0_6
  have xP0_al5 := xP0_6.below al5; clear xP0_6
  have xP1_al5 := xP1_6.below al5; clear xP1_6
  have xw0_al5 := xw0_6.below al5; clear xw0_6
  have xx0_al5 := xx0_6.below al5; clear xx0_6
  have xx1_al5 := xx1_6.below al5; clear xx1_6
  have xg0_al5 : BxC (w6.alloc (.cells #[.int .i64 ((thenF y0 u0 g0 o0 y1 u1 g1 o1).getD ⟨0, 0, [], []⟩).i0, .int .i64 ((thenF y0 u0 g0 o0 y1 u1 g1 o1).getD ⟨0, 0, [], []⟩).i1, .slice Ag0 ((thenF y0 u0 g0 o0 y1 u1 g1 o1).getD ⟨0, 0, [], []⟩).gs.length Cg0, .slice Eg0 ((thenF y0 u0 g0 o0 y1 u1 g1 o1).getD ⟨0, 0, [], []⟩).os.length Dg0] 40)) w6.heap.size ((thenF y0 u0 g0 o0 y1 u1 g1 o1).getD ⟨0, 0, [], []⟩).i0 ((thenF y0 u0 g0 o0 y1 u1 g1 o1).getD ⟨0, 0, [], []⟩).i1 Ag0 ((thenF y0 u0 g0 o0 y1 u1 g1 o1).getD ⟨0, 0, [], []⟩).gs.length Cg0 Eg0 ((thenF y0 u0 g0 o0 y1 u1 g1 o1).getD ⟨0, 0, [], []⟩).os.length Dg0 := BxC.new _ _
  have Bq5 := B6.trans (al5.mono B6.size); clear B6
  clear al5
  have qq := xg0_al5; obtain ⟨qg0_0, qg0_1, qg0_2, qg0_3⟩ := qq
  have qq := xw0_al5; obtain ⟨qw0_0, qw0_1, qw0_2, qw0_3⟩ := qq
  go_wp2_with fail
  refine (eqCircuit_any _ _ _ _ _ _ _ _ _ _ _ _ _ _ _ fg0_al5.reads fw0_al5.reads (by omega) (by omega)).mono ?_
  rintro e w7 ⟨rfl, b7⟩
  clear qg0_0 qg0_1 qg0_2 qg0_3 qw0_0 qw0_1 qw0_2 qw0_3
  have fw0_7 := fw0_al5.below b7 (.inl (Nat.le_refl _)); clear fw0_al5
  have fx0_7 := fx0_al5.below b7 (.inl (Nat.le_refl _)); clear fx0_al5
  have fx1_7 := fx1_al5.below b7 (.inl (Nat.le_refl _)); clear fx1_al5
  have fg0_7 := fg0_al5.below b7 (.inl (Nat.le_refl _)); clear fg0_al5
  have xP0_7 := xP0_al5.below b7; clear xP0_al5
  have xP1_7 := xP1_al5.below b7; clear xP1_al5
  have xw0_7 := xw0_al5.below b7; clear xw0_al5
  have xx0_7 := xx0_al5.below b7; clear xx0_al5
  have xx1_7 := xx1_al5.below b7; clear xx1_al5
  have xg0_7 := xg0_al5.below b7; clear xg0_al5
  have z7 := b7.size
  simp only [World.size_alloc] at z7
  have B7 := Bq5.trans (b7.mono Bq5.size); clear b7 Bq5
  have qq := xx0_7; obtain ⟨qx0_0, qx0_1, qx0_2, qx0_3⟩ := qq
  have qq := xP0_7; obtain ⟨qP0_0, qP0_1, qP0_2, qP0_3⟩ := qq
  have Bd8 := below_drewN B7 1
  go_wp2_with fail
  go_region_held3 (fun w' => w'.cell? ⟨w4.heap.size, 0, none⟩ = some (.int .i64 y0) ∧ w'.cell? ⟨w4.heap.size, 1, none⟩ = some (.int .i64 u0) ∧ w'.cell? ⟨w4.heap.size, 2, none⟩ = some (.slice (some Sx0) n0 n0) ∧ w'.cell? ⟨w4.heap.size, 3, none⟩ = some (.slice (some Tx0) m0 m0) ∧ w'.cell? ⟨w.heap.size, 0, none⟩ = some (.int .i64 y0) ∧ w'.cell? ⟨w.heap.size, 1, none⟩ = some (.int .i64 u0) ∧ w'.cell? ⟨w.heap.size, 2, none⟩ = some (.slice A0 n0 c0) ∧ w'.cell? ⟨w.heap.size, 3, none⟩ = some (.slice O0 m0 d0))
    (first | go_keep | (go_split_ands; exact ⟨cell_below (by assumption) b9, cell_below (by assumption) b9, cell_below (by assumption) b9, cell_below (by assumption) b9, cell_below (by assumption) b9, cell_below (by assumption) b9, cell_below (by assumption) b9, cell_below (by assumption) b9⟩) | (go_split_ands; exact ⟨cell_below (by assumption) b8, cell_below (by assumption) b8, cell_below (by assumption) b8, cell_below (by assumption) b8, cell_below (by assumption) b8, cell_below (by assumption) b8, cell_below (by assumption) b8, cell_below (by assumption) b8⟩) | ((try dsimp only); (repeat' apply And.intro) <;> go_keep))
    (first | (go_at_call 18; refine (toCircuit_any y0 u0 A0 n0 c0 O0 m0 d0 _ _ _ ⟨h0.1.below Bd8 (Nat.le_refl _), h0.2.below Bd8 (Nat.le_refl _)⟩ (by omega) (by omega)).mono ?_; rintro e w8 ⟨Sy7, Ty7, rfl, fy7_8, b8⟩) | (go_at_call 20; refine (eqCircuit_any _ _ _ _ _ _ _ _ _ _ _ _ _ _ _ (OwnC.reads (OwnC.below (w := World.drewN w7 1) fx0_7 b8 (.inl (Nat.le_refl _)))) fy7_8.reads (by omega) (by omega)).mono ?_; rintro e w9 ⟨rfl, b9⟩))
  clear qx0_0 qx0_1 qx0_2 qx0_3 qP0_0 qP0_1 qP0_2 qP0_3
  have b8_ : Below w7.heap.size w7 w8 := (below_drewN (Below.refl _ _) 1).trans (b8.mono (Nat.le_refl _)); clear b8; have b8 := b8_; clear b8_
  clear fy7_8 Bd8
  have fw0_8 := fw0_7.below b8 (.inl (Nat.le_refl _)); clear fw0_7
  have fx0_8 := fx0_7.below b8 (.inl (Nat.le_refl _)); clear fx0_7
  have fx1_8 := fx1_7.below b8 (.inl (Nat.le_refl _)); clear fx1_7
  have fg0_8 := fg0_7.below b8 (.inl (Nat.le_refl _)); clear fg0_7
  have xP0_8 := xP0_7.below b8; clear xP0_7
  have xP1_8 := xP1_7.below b8; clear xP1_7
  have xw0_8 := xw0_7.below b8; clear xw0_7
  have xx0_8 := xx0_7.below b8; clear xx0_7
  have xx1_8 := xx1_7.below b8; clear xx1_7
  have xg0_8 := xg0_7.below b8; clear xg0_7
  have z8 := b8.size
  have B8 := B7.trans (b8.mono B7.size); clear b8 B7
  have fw0_9 := fw0_8.below b9 (.inl (Nat.le_refl _)); clear fw0_8
  have fx0_9 := fx0_8.below b9 (.inl (Nat.le_refl _)); clear fx0_8
  have fx1_9 := fx1_8.below b9 (.inl (Nat.le_refl _)); clear fx1_8
  have fg0_9 := fg0_8.below b9 (.inl (Nat.le_refl _)); clear fg0_8
  have xP0_9 := xP0_8.below b9; clear xP0_8
  have xP1_9 := xP1_8.below b9; clear xP1_8
  have xw0_9 := xw0_8.below b9; clear xw0_8
  have xx0_9 := xx0_8.below b9; clear xx0_8
  have xx1_9 := xx1_8.below b9; clear xx1_8
  have xg0_9 := xg0_8.below b9; clear xg0_8
  have z9 := b9.size
  have B9 := B8.trans (b9.mono B8.size); clear b9 B8
  have qq := xx1_9; obtain ⟨qx1_0, qx1_1, qx1_2, qx1_3⟩ := qq
  have qq := xP1_9; obtain ⟨qP1_0, qP1_1, qP1_2, qP1_3⟩ := qq
  have Bd10 := below_drewN B9 1
  go_wp2_with fail
  go_region_held3 (fun w' => w'.cell? ⟨w5.heap.size, 0, none⟩ = some (.int .i64 y1) ∧ w'.cell? ⟨w5.heap.size, 1, none⟩ = some (.int .i64 u1) ∧ w'.cell? ⟨w5.heap.size, 2, none⟩ = some (.slice (some Sx1) n1 n1) ∧ w'.cell? ⟨w5.heap.size, 3, none⟩ = some (.slice (some Tx1) m1 m1) ∧ w'.cell? ⟨(w.heap.size + 1), 0, none⟩ = some (.int .i64 y1) ∧ w'.cell? ⟨(w.heap.size + 1), 1, none⟩ = some (.int .i64 u1) ∧ w'.cell? ⟨(w.heap.size + 1), 2, none⟩ = some (.slice A1 n1 c1) ∧ w'.cell? ⟨(w.heap.size + 1), 3, none⟩ = some (.slice O1 m1 d1))
    (first | go_keep | (go_split_ands; exact ⟨cell_below (by assumption) b11, cell_below (by assumption) b11, cell_below (by assumption) b11, cell_below (by assumption) b11, cell_below (by assumption) b11, cell_below (by assumption) b11, cell_below (by assumption) b11, cell_below (by assumption) b11⟩) | (go_split_ands; exact ⟨cell_below (by assumption) b10, cell_below (by assumption) b10, cell_below (by assumption) b10, cell_below (by assumption) b10, cell_below (by assumption) b10, cell_below (by assumption) b10, cell_below (by assumption) b10, cell_below (by assumption) b10⟩) | ((try dsimp only); (repeat' apply And.intro) <;> go_keep))
    (first | (go_at_call 18; refine (toCircuit_any y1 u1 A1 n1 c1 O1 m1 d1 _ _ _ ⟨h1.1.below Bd10 (Nat.le_refl _), h1.2.below Bd10 (Nat.le_refl _)⟩ (by omega) (by omega)).mono ?_; rintro e w10 ⟨Sy9, Ty9, rfl, fy9_10, b10⟩) | (go_at_call 20; refine (eqCircuit_any _ _ _ _ _ _ _ _ _ _ _ _ _ _ _ (OwnC.reads (OwnC.below (w := World.drewN w9 1) fx1_9 b10 (.inl (Nat.le_refl _)))) fy9_10.reads (by omega) (by omega)).mono ?_; rintro e w11 ⟨rfl, b11⟩))
  clear qx1_0 qx1_1 qx1_2 qx1_3 qP1_0 qP1_1 qP1_2 qP1_3
  have b10_ : Below w9.heap.size w9 w10 := (below_drewN (Below.refl _ _) 1).trans (b10.mono (Nat.le_refl _)); clear b10; have b10 := b10_; clear b10_
  clear fy9_10 Bd10
  have fw0_10 := fw0_9.below b10 (.inl (Nat.le_refl _)); clear fw0_9
  have fx0_10 := fx0_9.below b10 (.inl (Nat.le_refl _)); clear fx0_9
  have fx1_10 := fx1_9.below b10 (.inl (Nat.le_refl _)); clear fx1_9
  have fg0_10 := fg0_9.below b10 (.inl (Nat.le_refl _)); clear fg0_9
  have xP0_10 := xP0_9.below b10; clear xP0_9
  have xP1_10 := xP1_9.below b10; clear xP1_9
  have xw0_10 := xw0_9.below b10; clear xw0_9
  have xx0_10 := xx0_9.below b10; clear xx0_9
  have xx1_10 := xx1_9.below b10; clear xx1_9
  have xg0_10 := xg0_9.below b10; clear xg0_9
  have z10 := b10.size
  have B10 := B9.trans (b10.mono B9.size); clear b10 B9
  have fw0_11 := fw0_10.below b11 (.inl (Nat.le_refl _)); clear fw0_10
  have fx0_11 := fx0_10.below b11 (.inl (Nat.le_refl _)); clear fx0_10
  have fx1_11 := fx1_10.below b11 (.inl (Nat.le_refl _)); clear fx1_10
  have fg0_11 := fg0_10.below b11 (.inl (Nat.le_refl _)); clear fg0_10
  have xP0_11 := xP0_10.below b11; clear xP0_10
  have xP1_11 := xP1_10.below b11; clear xP1_10
  have xw0_11 := xw0_10.below b11; clear xw0_10
  have xx0_11 := xx0_10.below b11; clear xx0_10
  have xx1_11 := xx1_10.below b11; clear xx1_10
  have xg0_11 := xg0_10.below b11; clear xg0_10
  have z11 := b11.size
  have B11 := B10.trans (b11.mono B10.size); clear b11 B10
  have qq := xx0_11; obtain ⟨qx0_0, qx0_1, qx0_2, qx0_3⟩ := qq
  go_wp2_with fail
  refine (markCircuit_c _ _ _ _ _ _ _ _ _ _ _ _ _ _ fx0_11 (by omega) (by omega) (by omega) (by omega)).mono ?_
  rintro e w12 ⟨rfl, fx0_12, g12⟩
  clear qx0_0 qx0_1 qx0_2 qx0_3
  have xP0_12 := xP0_11.chg g12 (by omega); clear xP0_11
  have xP1_12 := xP1_11.chg g12 (by omega); clear xP1_11
  have xw0_12 := xw0_11.chg g12 (by omega); clear xw0_11
  have xx0_12 := xx0_11.chg g12 (by omega); clear xx0_11
  have xx1_12 := xx1_11.chg g12 (by omega); clear xx1_11
  have xg0_12 := xg0_11.chg g12 (by omega); clear xg0_11
  have fw0_12 := fw0_11.chg g12 (.inl (by omega)); clear fw0_11
  have fx1_12 := fx1_11.chg g12 (.inr (by omega)); clear fx1_11
  have fg0_12 := fg0_11.chg g12 (.inr (by omega)); clear fg0_11
  have z12 := g12.size
  have B12 := g12.below_ B11 (by omega) B11.size; clear B11 fx0_11 g12
  have qq := xx1_12; obtain ⟨qx1_0, qx1_1, qx1_2, qx1_3⟩ := qq
  go_wp2_with fail
  refine (markCircuit_c _ _ _ _ _ _ _ _ _ _ _ _ _ _ fx1_12 (by omega) (by omega) (by omega) (by omega)).mono ?_
  rintro e w13 ⟨rfl, fx1_13, g13⟩
  clear qx1_0 qx1_1 qx1_2 qx1_3
  have xP0_13 := xP0_12.chg g13 (by omega); clear xP0_12
  have xP1_13 := xP1_12.chg g13 (by omega); clear xP1_12
  have xw0_13 := xw0_12.chg g13 (by omega); clear xw0_12
  have xx0_13 := xx0_12.chg g13 (by omega); clear xx0_12
  have xx1_13 := xx1_12.chg g13 (by omega); clear xx1_12
  have xg0_13 := xg0_12.chg g13 (by omega); clear xg0_12
  have fw0_13 := fw0_12.chg g13 (.inl (by omega)); clear fw0_12
  have fx0_13 := fx0_12.chg g13 (.inl (by omega)); clear fx0_12
  have fg0_13 := fg0_12.chg g13 (.inr (by omega)); clear fg0_12
  have z13 := g13.size
  have B13 := g13.below_ B12 (by omega) B12.size; clear B12 fx1_12 g13
  have qq := xg0_13; obtain ⟨qg0_0, qg0_1, qg0_2, qg0_3⟩ := qq
  have qq := xw0_13; obtain ⟨qw0_0, qw0_1, qw0_2, qw0_3⟩ := qq
  go_wp2_with fail
  refine (eqCircuit_any _ _ _ _ _ _ _ _ _ _ _ _ _ _ _ fg0_13.reads fw0_13.reads (by omega) (by omega)).mono ?_
  rintro e w14 ⟨rfl, b14⟩
  clear qg0_0 qg0_1 qg0_2 qg0_3 qw0_0 qw0_1 qw0_2 qw0_3
  have fw0_14 := fw0_13.below b14 (.inl (Nat.le_refl _)); clear fw0_13
  have fx0_14 := fx0_13.below b14 (.inl (Nat.le_refl _)); clear fx0_13
  have fx1_14 := fx1_13.below b14 (.inl (Nat.le_refl _)); clear fx1_13
  have fg0_14 := fg0_13.below b14 (.inl (Nat.le_refl _)); clear fg0_13
  have xP0_14 := xP0_13.below b14; clear xP0_13
  have xP1_14 := xP1_13.below b14; clear xP1_13
  have xw0_14 := xw0_13.below b14; clear xw0_13
  have xx0_14 := xx0_13.below b14; clear xx0_13
  have xx1_14 := xx1_13.below b14; clear xx1_13
  have xg0_14 := xg0_13.below b14; clear xg0_13
  have z14 := b14.size
  have B14 := B13.trans (b14.mono B13.size); clear b14 B13
  have qq := xg0_14; obtain ⟨qg0_0, qg0_1, qg0_2, qg0_3⟩ := qq
  go_wp2_with fail
  refine (markCircuit_c _ _ _ _ _ _ _ _ _ _ _ _ _ _ fg0_14 (by omega) (by omega) (by omega) (by omega)).mono ?_
  rintro e w15 ⟨rfl, fg0_15, g15⟩
  clear qg0_0 qg0_1 qg0_2 qg0_3
  have xP0_15 := xP0_14.chg g15 (by omega); clear xP0_14
  have xP1_15 := xP1_14.chg g15 (by omega); clear xP1_14
  have xw0_15 := xw0_14.chg g15 (by omega); clear xw0_14
  have xx0_15 := xx0_14.chg g15 (by omega); clear xx0_14
  have xx1_15 := xx1_14.chg g15 (by omega); clear xx1_14
  have xg0_15 := xg0_14.chg g15 (by omega); clear xg0_14
  have fw0_15 := fw0_14.chg g15 (.inl (by omega)); clear fw0_14
  have fx0_15 := fx0_14.chg g15 (.inl (by omega)); clear fx0_14
  have fx1_15 := fx1_14.chg g15 (.inl (by omega)); clear fx1_14
  have z15 := g15.size
  have B15 := g15.below_ B14 (by omega) B14.size; clear B14 fg0_14 g15
  have qq := xg0_15; obtain ⟨qg0_0, qg0_1, qg0_2, qg0_3⟩ := qq
  go_wp2_with fail
  refine (heldCircuit_b _ _ _ _ _ _ _ _ _ _ fg0_15.reads (by omega) (by omega) (by omega) (by omega)).mono ?_
  rintro e w16 ⟨rfl, b16⟩
  clear qg0_0 qg0_1 qg0_2 qg0_3
  have fw0_16 := fw0_15.below b16 (.inl (Nat.le_refl _)); clear fw0_15
  have fx0_16 := fx0_15.below b16 (.inl (Nat.le_refl _)); clear fx0_15
  have fx1_16 := fx1_15.below b16 (.inl (Nat.le_refl _)); clear fx1_15
  have fg0_16 := fg0_15.below b16 (.inl (Nat.le_refl _)); clear fg0_15
  have xP0_16 := xP0_15.below b16; clear xP0_15
  have xP1_16 := xP1_15.below b16; clear xP1_15
  have xw0_16 := xw0_15.below b16; clear xw0_15
  have xx0_16 := xx0_15.below b16; clear xx0_15
  have xx1_16 := xx1_15.below b16; clear xx1_15
  have xg0_16 := xg0_15.below b16; clear xg0_15
  have z16 := b16.size
  have B16 := B15.trans (b16.mono B15.size); clear b16 B15
  have qq := xP0_16; obtain ⟨qP0_0, qP0_1, qP0_2, qP0_3⟩ := qq
  have qq := xP1_16; obtain ⟨qP1_0, qP1_1, qP1_2, qP1_3⟩ := qq
  go_wp2_with fail
  refine wp_region_mem0 (11) [(⟨w.heap.size, 0, none⟩, .int .i64 y0), (⟨w.heap.size, 1, none⟩, .int .i64 u0), (⟨w.heap.size, 2, none⟩, .slice A0 n0 c0), (⟨w.heap.size, 3, none⟩, .slice O0 m0 d0), (⟨(w.heap.size + 1), 0, none⟩, .int .i64 y1), (⟨(w.heap.size + 1), 1, none⟩, .int .i64 u1), (⟨(w.heap.size + 1), 2, none⟩, .slice A1 n1 c1), (⟨(w.heap.size + 1), 3, none⟩, .slice O1 m1 d1)] [(1, [], []), (3, [], []), (4, [1, 3], []), (8, [], []), (9, [4, 8], [4, 8])] [9] [(1, Res.aggC (w16.heap.size) y0 u0 n0 m0 g0 o0), (3, Res.aggC (w16.heap.size) y1 u1 n1 m1 g1 o1), (4, Res.circ (w16.heap.size) ((thenF y0 u0 g0 o0 y1 u1 g1 o1).getD ⟨0, 0, [], []⟩).i0 ((thenF y0 u0 g0 o0 y1 u1 g1 o1).getD ⟨0, 0, [], []⟩).i1 ((thenF y0 u0 g0 o0 y1 u1 g1 o1).getD ⟨0, 0, [], []⟩).gs.length ((thenF y0 u0 g0 o0 y1 u1 g1 o1).getD ⟨0, 0, [], []⟩).os.length ((thenF y0 u0 g0 o0 y1 u1 g1 o1).getD ⟨0, 0, [], []⟩).gs ((thenF y0 u0 g0 o0 y1 u1 g1 o1).getD ⟨0, 0, [], []⟩).os (thenF y0 u0 g0 o0 y1 u1 g1 o1).isSome), (8, Res.box [.int .i64 0, .int .i64 0, .slice none 0 0, .slice none 0 0]), (9, Res.stC (w16.heap.size) ((thenF y0 u0 g0 o0 y1 u1 g1 o1).getD ⟨0, 0, [], []⟩).i0 ((thenF y0 u0 g0 o0 y1 u1 g1 o1).getD ⟨0, 0, [], []⟩).i1 ((thenF y0 u0 g0 o0 y1 u1 g1 o1).getD ⟨0, 0, [], []⟩).gs.length ((thenF y0 u0 g0 o0 y1 u1 g1 o1).getD ⟨0, 0, [], []⟩).os.length ((thenF y0 u0 g0 o0 y1 u1 g1 o1).getD ⟨0, 0, [], []⟩).gs ((thenF y0 u0 g0 o0 y1 u1 g1 o1).getD ⟨0, 0, [], []⟩).os (fun A c O d => circV ((thenF y0 u0 g0 o0 y1 u1 g1 o1).getD ⟨0, 0, [], []⟩).i0 ((thenF y0 u0 g0 o0 y1 u1 g1 o1).getD ⟨0, 0, [], []⟩).i1 A ((thenF y0 u0 g0 o0 y1 u1 g1 o1).getD ⟨0, 0, [], []⟩).gs.length c O ((thenF y0 u0 g0 o0 y1 u1 g1 o1).getD ⟨0, 0, [], []⟩).os.length d (thenF y0 u0 g0 o0 y1 u1 g1 o1).isSome))] (by kernel_rfl) (by kernel_rfl) (by kernel_rfl) (by simp only [CellsL, List.mem_cons, forall_eq_or_imp, List.not_mem_nil, false_implies, implies_true, and_true]; repeat (any_goals (apply And.intro)); all_goals (first | assumption | go_simp)) ?_
  simp only [List.take_succ_cons, List.take_zero, List.drop_succ_cons, List.drop_zero, List.take_nil, List.drop_nil, List.take, List.drop]
  repeat (first
    | (refine mem_skip (by rfl) (by rfl) ?_
       simp only [Act.put, List.setIfInBounds_toArray, List.set_cons_zero, List.set_cons_succ])
    | (refine mem_pure (by rfl) (by rfl) (fun K hK => ?_)
       apply Exists.intro
       refine ⟨fun w3 hw3 => ?_, ?_⟩
       · have hcs := hw3
         simp only [CellsL, List.mem_cons, forall_eq_or_imp, List.not_mem_nil, false_implies, implies_true, and_true] at hcs
         clear hw3
         go_simp
         first | done | exact ⟨rfl, rfl⟩ | rfl
       refine hK _ ?_
       clear hK K
       try simp only [Act.put, List.setIfInBounds_toArray, List.set_cons_zero, List.set_cons_succ]))
  refine mem_agg (w16.heap.size) y0 u0 n0 m0 g0 o0 (by rfl) (by rfl) (by omega) (fun w3 hw3 hc3 hp3 => ?_) (fun At0 Ct0 Ot0 Dt0 => ?_)
  · have hB3 := B16.trans ((alt_below hw3).mono B16.size)
    go_simp; refine (toCircuit_any y0 u0 A0 n0 c0 O0 m0 d0 _ _ _ ⟨h0.1.below hB3 (Nat.le_refl _), h0.2.below hB3 (Nat.le_refl _)⟩ (by omega) (by omega)).mono ?_; rintro e w4 ⟨S4, T4, rfl, f4, b4⟩; exact retPost.mk_ (postAgg.mk_ f4 b4)
  simp only [aggV, Act.put, List.setIfInBounds_toArray, List.set_cons_zero, List.set_cons_succ]
  repeat (first
    | (refine mem_skip (by rfl) (by rfl) ?_
       simp only [Act.put, List.setIfInBounds_toArray, List.set_cons_zero, List.set_cons_succ])
    | (refine mem_pure (by rfl) (by rfl) (fun K hK => ?_)
       apply Exists.intro
       refine ⟨fun w3 hw3 => ?_, ?_⟩
       · have hcs := hw3
         simp only [CellsL, List.mem_cons, forall_eq_or_imp, List.not_mem_nil, false_implies, implies_true, and_true] at hcs
         clear hw3
         go_simp
         first | done | exact ⟨rfl, rfl⟩ | rfl
       refine hK _ ?_
       clear hK K
       try simp only [Act.put, List.setIfInBounds_toArray, List.set_cons_zero, List.set_cons_succ]))
  refine mem_agg (w16.heap.size) y1 u1 n1 m1 g1 o1 (by rfl) (by rfl) (by omega) (fun w3 hw3 hc3 hp3 => ?_) (fun At1 Ct1 Ot1 Dt1 => ?_)
  · have hB3 := B16.trans ((alt_below hw3).mono B16.size)
    go_simp; refine (toCircuit_any y1 u1 A1 n1 c1 O1 m1 d1 _ _ _ ⟨h1.1.below hB3 (Nat.le_refl _), h1.2.below hB3 (Nat.le_refl _)⟩ (by omega) (by omega)).mono ?_; rintro e w4 ⟨S4, T4, rfl, f4, b4⟩; exact retPost.mk_ (postAgg.mk_ f4 b4)
  simp only [aggV, Act.put, List.setIfInBounds_toArray, List.set_cons_zero, List.set_cons_succ]
  repeat (first
    | (refine mem_skip (by rfl) (by rfl) ?_
       simp only [Act.put, List.setIfInBounds_toArray, List.set_cons_zero, List.set_cons_succ])
    | (refine mem_pure (by rfl) (by rfl) (fun K hK => ?_)
       apply Exists.intro
       refine ⟨fun w3 hw3 => ?_, ?_⟩
       · have hcs := hw3
         simp only [CellsL, List.mem_cons, forall_eq_or_imp, List.not_mem_nil, false_implies, implies_true, and_true] at hcs
         clear hw3
         go_simp
         first | done | exact ⟨rfl, rfl⟩ | rfl
       refine hK _ ?_
       clear hK K
       try simp only [Act.put, List.setIfInBounds_toArray, List.set_cons_zero, List.set_cons_succ]))
  refine mem_circN (w16.heap.size) ((thenF y0 u0 g0 o0 y1 u1 g1 o1).getD ⟨0, 0, [], []⟩).i0 ((thenF y0 u0 g0 o0 y1 u1 g1 o1).getD ⟨0, 0, [], []⟩).i1 ((thenF y0 u0 g0 o0 y1 u1 g1 o1).getD ⟨0, 0, [], []⟩).gs.length ((thenF y0 u0 g0 o0 y1 u1 g1 o1).getD ⟨0, 0, [], []⟩).os.length ((thenF y0 u0 g0 o0 y1 u1 g1 o1).getD ⟨0, 0, [], []⟩).gs ((thenF y0 u0 g0 o0 y1 u1 g1 o1).getD ⟨0, 0, [], []⟩).os (thenF y0 u0 g0 o0 y1 u1 g1 o1).isSome (by rfl) (by rfl) (by omega) (fun w3 hw3 hc3 hp3 => ?_) (fun Ah0 Ch0 Eh0 Dh0 => ?_)
  · have r0 : OwnC w3 (w16.heap.size) w3.heap.size At0 n0 Ct0 Ot0 m0 Dt0 g0 o0 := hp3.1.1.1 At0 Ct0 Ot0 Dt0 rfl
    have r1 : OwnC w3 (w16.heap.size) w3.heap.size At1 n1 Ct1 Ot1 m1 Dt1 g1 o1 := hp3.1.2.1.1 At1 Ct1 Ot1 Dt1 rfl
    go_simp; refine (ThenCircuit_any _ _ _ _ _ _ _ _ _ _ _ _ _ _ _ _ _ _ _ _ _ r0.reads (by omega) (by omega) r1.reads (by omega) (by omega) ).mono ?_; rintro e w4 ⟨A4, C4, E4, D4, rfl, f4, b4⟩; exact retPost.mk_ (postCirc.mk_ f4 b4)
  simp only [circV, Act.put, List.setIfInBounds_toArray, List.set_cons_zero, List.set_cons_succ]
  repeat (first
    | (refine mem_skip (by rfl) (by rfl) ?_
       simp only [Act.put, List.setIfInBounds_toArray, List.set_cons_zero, List.set_cons_succ])
    | (refine mem_pure (by rfl) (by rfl) (fun K hK => ?_)
       apply Exists.intro
       refine ⟨fun w3 hw3 => ?_, ?_⟩
       · have hcs := hw3
         simp only [CellsL, List.mem_cons, forall_eq_or_imp, List.not_mem_nil, false_implies, implies_true, and_true] at hcs
         clear hw3
         go_simp
         first | done | exact ⟨rfl, rfl⟩ | rfl
       refine hK _ ?_
       clear hK K
       try simp only [Act.put, List.setIfInBounds_toArray, List.set_cons_zero, List.set_cons_succ]))
  refine mem_box [.int .i64 0, .int .i64 0, .slice none 0 0, .slice none 0 0] (by rfl) (by rfl) (fun w3 hw3 hc3 hp3 => ?_) (fun bxh0 => ?_)
  · have hcs := hc3
    simp only [CellsL, List.mem_cons, forall_eq_or_imp, List.not_mem_nil, false_implies, implies_true, and_true] at hcs
    (go_simp; exact postBox.circ _ _)
  try simp only [Act.put, List.setIfInBounds_toArray, List.set_cons_zero, List.set_cons_succ]
  refine mem_stC 4 8 (w16.heap.size) ((thenF y0 u0 g0 o0 y1 u1 g1 o1).getD ⟨0, 0, [], []⟩).i0 ((thenF y0 u0 g0 o0 y1 u1 g1 o1).getD ⟨0, 0, [], []⟩).i1 ((thenF y0 u0 g0 o0 y1 u1 g1 o1).getD ⟨0, 0, [], []⟩).gs.length ((thenF y0 u0 g0 o0 y1 u1 g1 o1).getD ⟨0, 0, [], []⟩).os.length ((thenF y0 u0 g0 o0 y1 u1 g1 o1).getD ⟨0, 0, [], []⟩).gs ((thenF y0 u0 g0 o0 y1 u1 g1 o1).getD ⟨0, 0, [], []⟩).os (fun A c O d => circV ((thenF y0 u0 g0 o0 y1 u1 g1 o1).getD ⟨0, 0, [], []⟩).i0 ((thenF y0 u0 g0 o0 y1 u1 g1 o1).getD ⟨0, 0, [], []⟩).i1 A ((thenF y0 u0 g0 o0 y1 u1 g1 o1).getD ⟨0, 0, [], []⟩).gs.length c O ((thenF y0 u0 g0 o0 y1 u1 g1 o1).getD ⟨0, 0, [], []⟩).os.length d (thenF y0 u0 g0 o0 y1 u1 g1 o1).isSome) (Res.circ (w16.heap.size) ((thenF y0 u0 g0 o0 y1 u1 g1 o1).getD ⟨0, 0, [], []⟩).i0 ((thenF y0 u0 g0 o0 y1 u1 g1 o1).getD ⟨0, 0, [], []⟩).i1 ((thenF y0 u0 g0 o0 y1 u1 g1 o1).getD ⟨0, 0, [], []⟩).gs.length ((thenF y0 u0 g0 o0 y1 u1 g1 o1).getD ⟨0, 0, [], []⟩).os.length ((thenF y0 u0 g0 o0 y1 u1 g1 o1).getD ⟨0, 0, [], []⟩).gs ((thenF y0 u0 g0 o0 y1 u1 g1 o1).getD ⟨0, 0, [], []⟩).os (thenF y0 u0 g0 o0 y1 u1 g1 o1).isSome) Ah0 Ch0 Eh0 Dh0 bxh0 (by rfl) (by rfl) (by rfl) (by rfl) (by rfl) (by rfl) (by rfl) (by decide) (by rfl) (by rfl) (fun h => circV_inj h) (fun ds w3 h3 => h3 _ _ _ _ rfl) (fun ds g hg => ⟨Ah0, Ch0, Eh0, Dh0, rfl, hg⟩) (fun w3 hw3 hc3 hz3 hf3 => ?_) ?_
  · obtain ⟨m0, m1, m2, m3⟩ := hz3
    have gz0 := hf3 0; have gz1 := hf3 1; have gz2 := hf3 2; have gz3 := hf3 3
    go_simp; exact postSet.mk_ _ _
  try simp only [Act.put, List.setIfInBounds_toArray, List.set_cons_zero, List.set_cons_succ]
  repeat (first
    | (refine mem_skip (by rfl) (by rfl) ?_
       simp only [Act.put, List.setIfInBounds_toArray, List.set_cons_zero, List.set_cons_succ])
    | (refine mem_pure (by rfl) (by rfl) (fun K hK => ?_)
       apply Exists.intro
       refine ⟨fun w3 hw3 => ?_, ?_⟩
       · have hcs := hw3
         simp only [CellsL, List.mem_cons, forall_eq_or_imp, List.not_mem_nil, false_implies, implies_true, and_true] at hcs
         clear hw3
         go_simp
         first | done | exact ⟨rfl, rfl⟩ | rfl
       refine hK _ ?_
       clear hK K
       try simp only [Act.put, List.setIfInBounds_toArray, List.set_cons_zero, List.set_cons_succ]))
  refine wpSep_end ?_
  intro w17 a17 c17 fin17 ap17
  have b17 := alt_below a17
  have hst : BxC w17 bxh0 ((thenF y0 u0 g0 o0 y1 u1 g1 o1).getD ⟨0, 0, [], []⟩).i0 ((thenF y0 u0 g0 o0 y1 u1 g1 o1).getD ⟨0, 0, [], []⟩).i1 Ah0 ((thenF y0 u0 g0 o0 y1 u1 g1 o1).getD ⟨0, 0, [], []⟩).gs.length Ch0 Eh0 ((thenF y0 u0 g0 o0 y1 u1 g1 o1).getD ⟨0, 0, [], []⟩).os.length Dh0 ∧ Fz w17 bxh0 ∧ bxh0 < w17.heap.size ∧ OwnC w17 (w16.heap.size) w17.heap.size Ah0 ((thenF y0 u0 g0 o0 y1 u1 g1 o1).getD ⟨0, 0, [], []⟩).gs.length Ch0 Eh0 ((thenF y0 u0 g0 o0 y1 u1 g1 o1).getD ⟨0, 0, [], []⟩).os.length Dh0 ((thenF y0 u0 g0 o0 y1 u1 g1 o1).getD ⟨0, 0, [], []⟩).gs ((thenF y0 u0 g0 o0 y1 u1 g1 o1).getD ⟨0, 0, [], []⟩).os := fin17.1.1 Ah0 Ch0 Eh0 Dh0 bxh0 rfl
  have lb17 : w16.heap.size ≤ bxh0 := ((fin17.1.2 bxh0 ⟨Ah0, Ch0, Eh0, Dh0, bxh0, rfl, .inl rfl⟩).1).elim id False.elim
  obtain ⟨xh0_17, fz17, ub17, fh0_17⟩ := hst
  clear qP0_0 qP0_1 qP0_2 qP0_3 qP1_0 qP1_1 qP1_2 qP1_3
  clear a17 c17 fin17 ap17 fz17
  have fw0_17 := fw0_16.below b17 (.inl (Nat.le_refl _)); clear fw0_16
  have fx0_17 := fx0_16.below b17 (.inl (Nat.le_refl _)); clear fx0_16
  have fx1_17 := fx1_16.below b17 (.inl (Nat.le_refl _)); clear fx1_16
  have fg0_17 := fg0_16.below b17 (.inl (Nat.le_refl _)); clear fg0_16
  have xP0_17 := xP0_16.below b17; clear xP0_16
  have xP1_17 := xP1_16.below b17; clear xP1_16
  have xw0_17 := xw0_16.below b17; clear xw0_16
  have xx0_17 := xx0_16.below b17; clear xx0_16
  have xx1_17 := xx1_16.below b17; clear xx1_16
  have xg0_17 := xg0_16.below b17; clear xg0_16
  have z17 := b17.size
  have B17 := B16.trans (b17.mono B16.size); clear b17 B16
  have qq := xh0_17; obtain ⟨qh0_0, qh0_1, qh0_2, qh0_3⟩ := qq
  have qq := xw0_17; obtain ⟨qw0_0, qw0_1, qw0_2, qw0_3⟩ := qq
  go_wp2_with fail
  refine (eqCircuit_any _ _ _ _ _ _ _ _ _ _ _ _ _ _ _ fh0_17.reads fw0_17.reads (by omega) (by omega)).mono ?_
  rintro e w18 ⟨rfl, b18⟩
  clear qh0_0 qh0_1 qh0_2 qh0_3 qw0_0 qw0_1 qw0_2 qw0_3
  have fw0_18 := fw0_17.below b18 (.inl (Nat.le_refl _)); clear fw0_17
  have fx0_18 := fx0_17.below b18 (.inl (Nat.le_refl _)); clear fx0_17
  have fx1_18 := fx1_17.below b18 (.inl (Nat.le_refl _)); clear fx1_17
  have fg0_18 := fg0_17.below b18 (.inl (Nat.le_refl _)); clear fg0_17
  have fh0_18 := fh0_17.below b18 (.inl (Nat.le_refl _)); clear fh0_17
  have xP0_18 := xP0_17.below b18; clear xP0_17
  have xP1_18 := xP1_17.below b18; clear xP1_17
  have xw0_18 := xw0_17.below b18; clear xw0_17
  have xx0_18 := xx0_17.below b18; clear xx0_17
  have xx1_18 := xx1_17.below b18; clear xx1_17
  have xg0_18 := xg0_17.below b18; clear xg0_17
  have xh0_18 := xh0_17.below b18; clear xh0_17
  have z18 := b18.size
  have B18 := B17.trans (b18.mono B17.size); clear b18 B17
  have qq := xg0_18; obtain ⟨qg0_0, qg0_1, qg0_2, qg0_3⟩ := qq
  go_wp2_with fail
  refine (heldCircuit_b _ _ _ _ _ _ _ _ _ _ fg0_18.reads (by omega) (by omega) (by omega) (by omega)).mono ?_
  rintro e w19 ⟨rfl, b19⟩
  clear qg0_0 qg0_1 qg0_2 qg0_3
  have fw0_19 := fw0_18.below b19 (.inl (Nat.le_refl _)); clear fw0_18
  have fx0_19 := fx0_18.below b19 (.inl (Nat.le_refl _)); clear fx0_18
  have fx1_19 := fx1_18.below b19 (.inl (Nat.le_refl _)); clear fx1_18
  have fg0_19 := fg0_18.below b19 (.inl (Nat.le_refl _)); clear fg0_18
  have fh0_19 := fh0_18.below b19 (.inl (Nat.le_refl _)); clear fh0_18
  have xP0_19 := xP0_18.below b19; clear xP0_18
  have xP1_19 := xP1_18.below b19; clear xP1_18
  have xw0_19 := xw0_18.below b19; clear xw0_18
  have xx0_19 := xx0_18.below b19; clear xx0_18
  have xx1_19 := xx1_18.below b19; clear xx1_18
  have xg0_19 := xg0_18.below b19; clear xg0_18
  have xh0_19 := xh0_18.below b19; clear xh0_18
  have z19 := b19.size
  have B19 := B18.trans (b19.mono B18.size); clear b19 B18
  go_wp2
  go_ret
  exact ⟨rfl, B19⟩

end Go.Proofs.Ytadgmbkpbgcdjaa.lawThenCircuit
