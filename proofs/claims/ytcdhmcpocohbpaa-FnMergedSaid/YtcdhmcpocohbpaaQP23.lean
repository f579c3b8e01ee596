/- MergeGates of the program. Lengths below 2^21. -/
import Derived.Test.YtcdhmcpocohbpaaQP22
import Derived.Test.YtcdhmcpocohbpaaQP16
namespace Go.Proofs.Ytcdhmcpocohbpaa
open Go.RowKit
set_option linter.unusedVariables false
set_option linter.unusedSimpArgs false
attribute [local go_sem] sepAt sepUpon pureAt pureUpon
theorem mg_apart {W : World} {own : Nat → Prop} {cs : List (Addr × Value)} {sk : List (Nat × List Nat × List Nat)} {fi : List Nat} {rs : List (Nat × Res)} {V1 V2 : Value} (ha : Apart V1 V2) {r1 r2 : Res} (h1 : resAt rs 100 = r1) (h2 : resAt rs 101 = r2) (e1 : ∀ ds v b, r1.blk ds v b → v.ownBlock = some b) (e2 : ∀ ds v b, r2.blk ds v b → v.ownBlock = some b) :
    (mkSep W own cs sk [100, 101] fi rs).apart (upd (upd (fun _ => undef) 100 V1) 101 V2) [100, 101] := by
  subst h1; subst h2
  intro d hd d' hd' hn b hb hb'
  simp only [List.mem_cons, List.not_mem_nil, or_false] at hd hd'
  rcases hd with rfl | rfl <;> rcases hd' with rfl | rfl
  · exact hn rfl
  · exact ha b (e1 _ _ b hb) (e2 _ _ b hb')
  · exact ha b (e1 _ _ b hb') (e2 _ _ b hb)
  · exact hn rfl
set_option maxRecDepth 100000 in
set_option maxHeartbeats 3000000 in
theorem MergeGates_any (x y : Int) (Ag : Option Addr) (ng cg : Nat) (Ao : Option Addr) (no co : Nat) (gs : List G3) (os : List Int) (w : World) (hr : RG w Ag ng gs ∧ RI w Ao no os) (hng : ng ≤ 2097152) (hno : no ≤ 2097152) :
    Calls Try.prog 5 #[.agg #[.int .i64 x, .int .i64 y, .slice Ag ng cg, .slice Ao no co]] w (RetC w (mergeF x y gs os)) := by
  have hlg := hr.1.len
  have hlo := hr.2.len
  have hB1 : Below w.heap.size w (w.alloc (.cells #[.int .i64 x, .int .i64 y, .slice Ag ng cg, .slice Ao no co] 26)) := (Below.refl _ _).alloc (Nat.le_refl _) _
  have hB : Below w.heap.size w ((w.alloc (.cells #[.int .i64 x, .int .i64 y, .slice Ag ng cg, .slice Ao no co] 26)).alloc (.cells #[.int .i64 0, .int .i64 0, .slice none 0 0, .slice none 0 0] 26)) := hB1.alloc (by simp) _
  have hx0 : BxC ((w.alloc (.cells #[.int .i64 x, .int .i64 y, .slice Ag ng cg, .slice Ao no co] 26)).alloc (.cells #[.int .i64 0, .int .i64 0, .slice none 0 0, .slice none 0 0] 26)) w.heap.size x y Ag ng cg Ao no co := (BxC.new w _).below ((Below.refl _ _).alloc (Nat.le_refl _) _)
  have hr0 : BxC ((w.alloc (.cells #[.int .i64 x, .int .i64 y, .slice Ag ng cg, .slice Ao no co] 26)).alloc (.cells #[.int .i64 0, .int .i64 0, .slice none 0 0, .slice none 0 0] 26)) (w.heap.size + 1) 0 0 none 0 0 none 0 0 := by simpa using BxC.new (x := 0) (y := 0) (Ag := none) (ng := 0) (cg := 0) (Ao := none) (no := 0) (co := 0) (w.alloc (.cells #[.int .i64 x, .int .i64 y, .slice Ag ng cg, .slice Ao no co] 26)) 26
  have f0 : Fz ((w.alloc (.cells #[.int .i64 x, .int .i64 y, .slice Ag ng cg, .slice Ao no co] 26)).alloc (.cells #[.int .i64 0, .int .i64 0, .slice none 0 0, .slice none 0 0] 26)) (w.heap.size + 1) := by simpa using Fz.new (w.alloc (.cells #[.int .i64 x, .int .i64 y, .slice Ag ng cg, .slice Ao no co] 26)) #[.int .i64 0, .int .i64 0, .slice none 0 0, .slice none 0 0] 26
  have hs0 : ((w.alloc (.cells #[.int .i64 x, .int .i64 y, .slice Ag ng cg, .slice Ao no co] 26)).alloc (.cells #[.int .i64 0, .int .i64 0, .slice none 0 0, .slice none 0 0] 26)).heap.size = w.heap.size + 2 := by simp
  cases h0 : circB x y gs os with
  | false =>
    have HR : Hid (mergeF x y gs os = none) := Lib.hid (by simp [mergeF, h0])
    have H0 := Lib.hid h0; clear h0
    go_enter Try.func5, Try.ntmps5
    have hq := hx0; obtain ⟨k0, k1, k2, k3⟩ := hq
    go_wp2_with fail
    refine (IsCircuit_any x y Ag ng cg Ao no co gs os _ (hr.1.below hB (Nat.le_refl _)) (hr.2.below hB (Nat.le_refl _)) hng hno).mono ?_
    rintro e v1 ⟨rfl, hb1⟩
    rw [H0.out]
    clear k0 k1 k2 k3
    have hx1 := hx0.below hb1
    have hr1 := hr0.below hb1
    have f1 := f0.below hb1 (by rw [hs0]; omega)
    have hBv := hB.trans (hb1.mono hB.size)
    have hz1 := hb1.size
    rw [hs0] at hz1
    clear hx0 hr0 f0 hb1 hB hB1 hs0
    have hq := hr1; obtain ⟨r0, r1, r2, r3⟩ := hq
    have g0 := f1 0; have g1 := f1 1; have g2 := f1 2; have g3 := f1 3
    go_wp2
    have hq9 := BxC.set4 (hr1) 0 0 none 0 0 none 0 0
    obtain ⟨q0, q1, q2, q3⟩ := hq9
    refine bodyPost_ret (v := .tuple #[.agg #[.int .i64 0, .int .i64 0, .slice none 0 0, .slice none 0 0], .bool false]) (by simp [results, Try.results5, go_sem, q0, q1, q2, q3]) rfl ?_
    exact RetC.none_ (below_set4 hBv (by omega) _ _ _ _ _ _ _ _) HR.out rfl
  | true =>
    obtain ⟨hx, hy, hg3, ho3, hgB, hao⟩ := circB_bd h0
    have hgt0 := circB_gate_at h0 hlg
    rw [hlg] at hg3 hao
    rw [hlo] at ho3
    have H0 := Lib.hid h0; clear h0 hgB
    obtain ⟨X, hX1, hX2⟩ : ∃ X : Nat, (X : Int) ≤ x + y ∧ x + y ≤ X := ⟨(x + y).toNat, by omega, by omega⟩
    have hXt : (x + y).toNat = X := by omega
    have hgt : ∀ k : Nat, k < ng → GateIs (gg gs k) ((X : Int) + k) := fun k hk => by
      have h := hgt0 k hk
      rwa [show x + y = (X : Int) by omega] at h
    have HF : Hid (mergeF x y gs os = some ⟨x, y, (mrg X gs ng).1, pick (mrg X gs ng).2 os⟩) := Lib.hid (by unfold mergeF; rw [H0.out, if_pos rfl, hXt, hlg])
    have HXe : Hid (x + y = (X : Int)) := Lib.hid (by omega)
    clear hgt0 hXt
    go_enter Try.func5, Try.ntmps5
    have hq := hx0; obtain ⟨k0, k1, k2, k3⟩ := hq
    go_wp2_with fail
    refine (IsCircuit_any x y Ag ng cg Ao no co gs os _ (hr.1.below hB (Nat.le_refl _)) (hr.2.below hB (Nat.le_refl _)) hng hno).mono ?_
    rintro e v1 ⟨rfl, hb1⟩
    rw [H0.out]
    clear k0 k1 k2 k3
    have hx1 := hx0.below hb1
    have hr1 := hr0.below hb1
    have f1 := f0.below hb1 (by rw [hs0]; omega)
    have hBv := hB.trans (hb1.mono hB.size)
    have hz1 := hb1.size
    rw [hs0] at hz1
    clear hx0 hr0 f0 hb1 hB hB1 hs0
    have hq := hx1; obtain ⟨k0, k1, k2, k3⟩ := hq
    go_wp2_with fail
    refine wp_region_mem0 (10) [(⟨w.heap.size, 0, none⟩, .int .i64 x), (⟨w.heap.size, 1, none⟩, .int .i64 y), (⟨w.heap.size, 2, none⟩, .slice Ag ng cg), (⟨w.heap.size, 3, none⟩, .slice Ao no co)] [(6, [], []), (7, [], []), (8, [], []), (9, [], [])] [7, 8, 9] [(6, Res.plain (.int .i64 (X : Int))), (7, Res.row v1.heap.size X (spn 0 X)), (8, Res.box [.int .i64 0, .int .i64 0, .slice none 0 0, .slice none 0 0]), (9, Res.box [.slice none 0 0])] (by kernel_rfl) (by kernel_rfl) (by kernel_rfl) (by simp only [CellsL, List.mem_cons, forall_eq_or_imp, List.not_mem_nil, false_implies, implies_true, and_true]; repeat (any_goals (apply And.intro)); all_goals (first | assumption | go_simp)) ?_
    simp only [List.take_succ_cons, List.take_zero, List.drop_succ_cons, List.drop_zero, List.take_nil, List.drop_nil, List.take, List.drop]
    repeat (first
      | ((with_reducible refine mem_pure0 ?_ ?_ ?_)
         · exact rfl
         · exact rfl
         intro K hK
         apply Exists.intro
         refine ⟨fun w3 hw3 => ?_, ?_⟩
         · have hcs := hw3
           simp only [CellsL, List.mem_cons, forall_eq_or_imp, List.not_mem_nil, false_implies, implies_true, and_true] at hcs
           clear hw3
           go_simp
           first | done | exact ⟨rfl, rfl⟩ | rfl
         refine hK _ ?_
         clear hK K
         try simp only [Act.put, List.setIfInBounds_toArray, List.set_cons_zero, List.set_cons_succ])
      | ((with_reducible refine mem_skip ?_ ?_ ?_)
         · exact rfl
         · exact wanted_not rfl rfl rfl rfl
         simp only [Act.put, List.setIfInBounds_toArray, List.set_cons_zero, List.set_cons_succ])
      | ((with_reducible refine mem_pure ?_ ?_ ?_)
         · exact rfl
         · exact wanted_some rfl rfl rfl rfl
         intro K hK
         apply Exists.intro
         refine ⟨fun w3 hw3 => ?_, ?_⟩
         · have hcs := hw3
           simp only [CellsL, List.mem_cons, forall_eq_or_imp, List.not_mem_nil, false_implies, implies_true, and_true] at hcs
           clear hw3
           go_simp
           first | done | exact ⟨rfl, rfl⟩ | rfl
         refine hK _ ?_
         clear hK K
         try simp only [Act.put, List.setIfInBounds_toArray, List.set_cons_zero, List.set_cons_succ]))
    focus
      (with_reducible refine mem_plain (.int .i64 (X : Int)) ?_ ?_ ?_ ?_ (hw := ?_))
      · exact rfl
      · exact rfl
      · intro w3 hw3 hc3 hp3
        have hcs := hc3
        simp only [CellsL, List.mem_cons, forall_eq_or_imp, List.not_mem_nil, false_implies, implies_true, and_true] at hcs
        (go_simp; refine (Circuit_inputs_any x y Ag ng cg Ao no co _ hx hy).mono ?_; rintro e w4 ⟨rfl, hb4⟩; rw [HXe.out]; exact retPost.mk_ (postPlain.mk_ hb4))
      rotate_left
      · first | exact wanted_none rfl | exact wanted_some rfl rfl rfl rfl
      try simp only [Act.put, List.setIfInBounds_toArray, List.set_cons_zero, List.set_cons_succ]
    repeat (first
      | ((with_reducible refine mem_pure0 ?_ ?_ ?_)
         · exact rfl
         · exact rfl
         intro K hK
         apply Exists.intro
         refine ⟨fun w3 hw3 => ?_, ?_⟩
         · have hcs := hw3
           simp only [CellsL, List.mem_cons, forall_eq_or_imp, List.not_mem_nil, false_implies, implies_true, and_true] at hcs
           clear hw3
           go_simp
           first | done | exact ⟨rfl, rfl⟩ | rfl
         refine hK _ ?_
         clear hK K
         try simp only [Act.put, List.setIfInBounds_toArray, List.set_cons_zero, List.set_cons_succ])
      | ((with_reducible refine mem_skip ?_ ?_ ?_)
         · exact rfl
         · exact wanted_not rfl rfl rfl rfl
         simp only [Act.put, List.setIfInBounds_toArray, List.set_cons_zero, List.set_cons_succ])
      | ((with_reducible refine mem_pure ?_ ?_ ?_)
         · exact rfl
         · exact wanted_some rfl rfl rfl rfl
         intro K hK
         apply Exists.intro
         refine ⟨fun w3 hw3 => ?_, ?_⟩
         · have hcs := hw3
           simp only [CellsL, List.mem_cons, forall_eq_or_imp, List.not_mem_nil, false_implies, implies_true, and_true] at hcs
           clear hw3
           go_simp
           first | done | exact ⟨rfl, rfl⟩ | rfl
         refine hK _ ?_
         clear hK K
         try simp only [Act.put, List.setIfInBounds_toArray, List.set_cons_zero, List.set_cons_succ]))
    focus
      (with_reducible refine mem_row v1.heap.size X (spn 0 X) ?_ ?_ ?_ ?_ ?_ (hw := ?_))
      · exact rfl
      · exact rfl
      · omega
      · intro w3 hw3 hc3 hp3
        have hcs := hc3
        simp only [CellsL, List.mem_cons, forall_eq_or_imp, List.not_mem_nil, false_implies, implies_true, and_true] at hcs
        (go_simp; refine (span_any 0 X _ (by omega) (by omega)).mono ?_; rintro e w4 hT; obtain ⟨A4, c4, rfl, ho4, hb4⟩ := hT.open_ (spn_len 0 X); exact retPost.mk_ (postRow.mk_ ho4 hb4))
      rotate_left
      · first | exact wanted_none rfl | exact wanted_some rfl rfl rfl rfl
      intro F0 c0
      try simp only [Act.put, List.setIfInBounds_toArray, List.set_cons_zero, List.set_cons_succ]
    repeat (first
      | ((with_reducible refine mem_pure0 ?_ ?_ ?_)
         · exact rfl
         · exact rfl
         intro K hK
         apply Exists.intro
         refine ⟨fun w3 hw3 => ?_, ?_⟩
         · have hcs := hw3
           simp only [CellsL, List.mem_cons, forall_eq_or_imp, List.not_mem_nil, false_implies, implies_true, and_true] at hcs
           clear hw3
           go_simp
           first | done | exact ⟨rfl, rfl⟩ | rfl
         refine hK _ ?_
         clear hK K
         try simp only [Act.put, List.setIfInBounds_toArray, List.set_cons_zero, List.set_cons_succ])
      | ((with_reducible refine mem_skip ?_ ?_ ?_)
         · exact rfl
         · exact wanted_not rfl rfl rfl rfl
         simp only [Act.put, List.setIfInBounds_toArray, List.set_cons_zero, List.set_cons_succ])
      | ((with_reducible refine mem_pure ?_ ?_ ?_)
         · exact rfl
         · exact wanted_some rfl rfl rfl rfl
         intro K hK
         apply Exists.intro
         refine ⟨fun w3 hw3 => ?_, ?_⟩
         · have hcs := hw3
           simp only [CellsL, List.mem_cons, forall_eq_or_imp, List.not_mem_nil, false_implies, implies_true, and_true] at hcs
           clear hw3
           go_simp
           first | done | exact ⟨rfl, rfl⟩ | rfl
         refine hK _ ?_
         clear hK K
         try simp only [Act.put, List.setIfInBounds_toArray, List.set_cons_zero, List.set_cons_succ]))
    focus
      (with_reducible refine mem_box [.int .i64 0, .int .i64 0, .slice none 0 0, .slice none 0 0] ?_ ?_ ?_ ?_ (hw := ?_))
      · exact rfl
      · exact rfl
      · intro w3 hw3 hc3 hp3
        have hcs := hc3
        simp only [CellsL, List.mem_cons, forall_eq_or_imp, List.not_mem_nil, false_implies, implies_true, and_true] at hcs
        (go_simp; exact postBox.circ _ _)
      rotate_left
      · first | exact wanted_none rfl | exact wanted_some rfl rfl rfl rfl
      intro b4
      try simp only [Act.put, List.setIfInBounds_toArray, List.set_cons_zero, List.set_cons_succ]
    repeat (first
      | ((with_reducible refine mem_pure0 ?_ ?_ ?_)
         · exact rfl
         · exact rfl
         intro K hK
         apply Exists.intro
         refine ⟨fun w3 hw3 => ?_, ?_⟩
         · have hcs := hw3
           simp only [CellsL, List.mem_cons, forall_eq_or_imp, List.not_mem_nil, false_implies, implies_true, and_true] at hcs
           clear hw3
           go_simp
           first | done | exact ⟨rfl, rfl⟩ | rfl
         refine hK _ ?_
         clear hK K
         try simp only [Act.put, List.setIfInBounds_toArray, List.set_cons_zero, List.set_cons_succ])
      | ((with_reducible refine mem_skip ?_ ?_ ?_)
         · exact rfl
         · exact wanted_not rfl rfl rfl rfl
         simp only [Act.put, List.setIfInBounds_toArray, List.set_cons_zero, List.set_cons_succ])
      | ((with_reducible refine mem_pure ?_ ?_ ?_)
         · exact rfl
         · exact wanted_some rfl rfl rfl rfl
         intro K hK
         apply Exists.intro
         refine ⟨fun w3 hw3 => ?_, ?_⟩
         · have hcs := hw3
           simp only [CellsL, List.mem_cons, forall_eq_or_imp, List.not_mem_nil, false_implies, implies_true, and_true] at hcs
           clear hw3
           go_simp
           first | done | exact ⟨rfl, rfl⟩ | rfl
         refine hK _ ?_
         clear hK K
         try simp only [Act.put, List.setIfInBounds_toArray, List.set_cons_zero, List.set_cons_succ]))
    focus
      (with_reducible refine mem_box [.slice none 0 0] ?_ ?_ ?_ ?_ (hw := ?_))
      · exact rfl
      · exact rfl
      · intro w3 hw3 hc3 hp3
        have hcs := hc3
        simp only [CellsL, List.mem_cons, forall_eq_or_imp, List.not_mem_nil, false_implies, implies_true, and_true] at hcs
        (go_simp; exact postBox.new w3 [.slice none 0 0] _ ⟨box_cell _ _ 0 _ rfl, trivial⟩)
      rotate_left
      · first | exact wanted_none rfl | exact wanted_some rfl rfl rfl rfl
      intro b5
      try simp only [Act.put, List.setIfInBounds_toArray, List.set_cons_zero, List.set_cons_succ]
    repeat (first
      | ((with_reducible refine mem_pure0 ?_ ?_ ?_)
         · exact rfl
         · exact rfl
         intro K hK
         apply Exists.intro
         refine ⟨fun w3 hw3 => ?_, ?_⟩
         · have hcs := hw3
           simp only [CellsL, List.mem_cons, forall_eq_or_imp, List.not_mem_nil, false_implies, implies_true, and_true] at hcs
           clear hw3
           go_simp
           first | done | exact ⟨rfl, rfl⟩ | rfl
         refine hK _ ?_
         clear hK K
         try simp only [Act.put, List.setIfInBounds_toArray, List.set_cons_zero, List.set_cons_succ])
      | ((with_reducible refine mem_skip ?_ ?_ ?_)
         · exact rfl
         · exact wanted_not rfl rfl rfl rfl
         simp only [Act.put, List.setIfInBounds_toArray, List.set_cons_zero, List.set_cons_succ])
      | ((with_reducible refine mem_pure ?_ ?_ ?_)
         · exact rfl
         · exact wanted_some rfl rfl rfl rfl
         intro K hK
         apply Exists.intro
         refine ⟨fun w3 hw3 => ?_, ?_⟩
         · have hcs := hw3
           simp only [CellsL, List.mem_cons, forall_eq_or_imp, List.not_mem_nil, false_implies, implies_true, and_true] at hcs
           clear hw3
           go_simp
           first | done | exact ⟨rfl, rfl⟩ | rfl
         refine hK _ ?_
         clear hK K
         try simp only [Act.put, List.setIfInBounds_toArray, List.set_cons_zero, List.set_cons_succ]))
    refine wpSep_end ?_
    intro wt hwt hct hfin hap
    have hbt := alt_below hwt
    have h7 : Own wt v1.heap.size wt.heap.size (.slice F0 X c0) X (spn 0 X) := hfin.1.1
    have h8 : b4 < wt.heap.size ∧ CellsAt wt b4 0 [.int .i64 0, .int .i64 0, .slice none 0 0, .slice none 0 0] ∧ Fz wt b4 := hfin.2.1.1 b4 rfl
    have h9 : b5 < wt.heap.size ∧ CellsAt wt b5 0 [.slice none 0 0] ∧ Fz wt b5 := hfin.2.2.1.1 b5 rfl
    have hb4l : v1.heap.size ≤ b4 := ((hfin.2.1.2 b4 rfl).1).elim id False.elim
    have hb5l : v1.heap.size ≤ b5 := ((hfin.2.2.1.2 b5 rfl).1).elim id False.elim
    have hne : b4 ≠ b5 := fun hc => hap 8 (by simp) 9 (by simp) (by decide) b4 rfl (by subst hc; rfl)
    obtain ⟨hl4, ⟨m0, m1, m2, m3, _⟩, fz4⟩ := h8
    obtain ⟨hl5, ⟨n0, _⟩, fz5⟩ := h9
    have hI0 := MgI.init (x := x) (y := y) (F := F0) (n := X) (fc := c0) (fs := spn 0 X) (show BxC wt b4 0 0 none 0 0 none 0 0 from ⟨m0, m1, m2, m3⟩) fz4 n0 fz5 h7 (fun hc => hap 7 (by simp) 8 (by simp) (by decide) b4 hc rfl) (fun hc => hap 7 (by simp) 9 (by simp) (by decide) b5 hc rfl) hne hb4l hb5l hl4 hl5
    have hzt := hbt.size
    have hb0 : Below v1.heap.size v1 (((((wt.setCell ⟨b4, 0, none⟩ (.int .i64 x)).setCell ⟨b4, 1, none⟩ (.int .i64 y)).setCell ⟨b4, 2, none⟩ (.slice none 0 0)).setCell ⟨b4, 3, none⟩ (.slice none 0 0)).setCell ⟨b5, 0, none⟩ (.slice F0 X c0)) := (below_set4 hbt (b := b4) hb4l x y none 0 0 none 0 0).setCell (p := ⟨b5, 0, none⟩) hb5l _
    have hx9 := hx1.below hb0
    have e0 := fz4 0; have e1 := fz4 1; have e2 := fz4 2; have e3 := fz4 3
    have d0 := fz5 0
    have hw9 := BxC.set4 (show BxC wt b4 0 0 none 0 0 none 0 0 from ⟨m0, m1, m2, m3⟩) x y none 0 0 none 0 0
    have hd9 : ((((wt.setCell ⟨b4, 0, none⟩ (.int .i64 x)).setCell ⟨b4, 1, none⟩ (.int .i64 y)).setCell ⟨b4, 2, none⟩ (.slice none 0 0)).setCell ⟨b4, 3, none⟩ (.slice none 0 0)).cell? ⟨b5, 0, none⟩ = some (.slice none 0 0) := (alt_set4 (Alt.refl_ (fun i => i = b4) wt) (fun _ => rfl) x y none 0 0 none 0 0).cell_ n0 (fun h => hne h.symm)
    have hq := hx9; obtain ⟨q0, q1, q2, q3⟩ := hq
    clear hfin hap hct hwt h7 k0 k1 k2 k3
    go_wp2
    clear hx9 q0 q1 q2 q3 hw9 hd9 e0 e1 e2 e3 d0 m0 m1 m2 m3 n0 fz4 fz5
    go_loopw [25] (fun i wr => ∃ (k : Nat) (G : Option Addr) (cG : Nat) (F : Option Addr) (cF : Nat), k ≤ ng ∧ i = .int .i64 k ∧ MgI wr v1.heap.size b4 b5 x y G k cG (mrg X gs k).1 F (X + k) cF (mrg X gs k).2 ∧ Below v1.heap.size v1 wr) (fun i _ => ng - (intOf i).toNat)
    case atStart => exact ⟨0, _, _, _, _, Nat.zero_le _, rfl, hI0, hb0⟩
    case round =>
      obtain ⟨k, G, cG, F, cF, hk, rfl, hI, hb⟩ := hrel
      clear hI0 hb0 hbt
      have hBr := hBv.trans (hb.mono hBv.size)
      have hml := mrg_len X gs k
      by_cases hlt : k < ng
      · obtain ⟨b, o, rfl, hbB, c1, c2, c3⟩ := (hr.1.below hBr (Nat.le_refl _)).at_ hlt
        have hgk := hgt k hlt
        obtain ⟨M, hM⟩ : ∃ M, Hid (mvG (fun z => gi (mrg X gs k).2 z.toNat) (gg gs k) = M) := ⟨_, Lib.hid rfl⟩
        obtain ⟨hs, hhs⟩ : ∃ hs, Hid ((mrg X gs k).1 = hs) := ⟨_, Lib.hid rfl⟩
        obtain ⟨fs, hfs⟩ : ∃ fs, Hid ((mrg X gs k).2 = fs) := ⟨_, Lib.hid rfl⟩
        rw [hhs.out, hfs.out] at hI
        rw [hfs.out] at hM
        rw [hhs.out] at hml
        rw [hfs.out] at hml
        obtain ⟨hml1, hml2⟩ := hml
        have HS1 : Hid ((mrg X gs (k + 1)).1 = hs ++ [M]) := Lib.hid (by simp only [mrg]; rw [hfs.out, hhs.out, hM.out])
        have HS2 : Hid ((mrg X gs (k + 1)).2 = fs ++ [(X : Int) + (same1 hs M : Nat)]) := Lib.hid (by simp only [mrg]; rw [hfs.out, hhs.out, hM.out])
        obtain ⟨S, hS⟩ : ∃ S, Hid (same1 hs M = S) := ⟨_, Lib.hid rfl⟩
        have hSle : S ≤ k := by have := same1_le hs M; rw [hS.out] at this; omega
        rw [hS.out] at HS2
        obtain ⟨I, hIx⟩ : ∃ I, Hid (fidx (fun o => sameG o M) hs = I) := ⟨_, Lib.hid rfl⟩
        have hfx := fidx_same (hs := hs) (g := M) hml1
        rw [hIx.out, hS.out] at hfx
        clear hml1
        have hml1 : hs.length = k := by rw [← hhs.out]; exact (mrg_len X gs k).1
        have hGb : ∀ g, (Value.slice G k cG).ownBlock = some g → g ≠ wr.heap.size := fun g hg hc => by have := hI.g.lt g hg; omega
        have hFb : ∀ g, (Value.slice F (X + k) cF).ownBlock = some g → g ≠ wr.heap.size := fun g hg hc => by have := hI.f.lt g hg; omega
        have hbA : Below wr.heap.size wr (wr.alloc (.cells #[.int .i64 (gg gs k).k, .int .i64 (gg gs k).a, .int .i64 (gg gs k).b] 41)) := (Below.refl _ _).alloc (Nat.le_refl _) _
        have hIA := hI.below hbA
        have hgA := BxG.new (k := (gg gs k).k) (a := (gg gs k).a) (c := (gg gs k).b) wr 41
        have fgA := Fz.new wr #[.int .i64 (gg gs k).k, .int .i64 (gg gs k).a, .int .i64 (gg gs k).b] 41
        have hsA : (wr.alloc (.cells #[.int .i64 (gg gs k).k, .int .i64 (gg gs k).a, .int .i64 (gg gs k).b] 41)).heap.size = wr.heap.size + 1 := by simp
        have hq := hgA; obtain ⟨q0, q1, q2⟩ := hq
        go_wp2_with fail
        refine (moved_any 25 Try.call25 #[.pointer (some ⟨b5, 0, none⟩)] (fun z => gi fs z.toNat) (gg gs k) ((X : Int) + k) _ hgk (Lib.hid fun z h0 h1 w1 hb1 => Merge_1_any b5 F (X + k) cF fs z w1 (cell_bel hIA.c5 hb1) ((hIA.f.below hb1 (.inl (Nat.le_refl _))).reads) ⟨h0, by omega⟩ (by omega))).mono ?_
        rintro e w2 ⟨rfl, hb2⟩
        rw [hM.out]
        have hg2 := hgA.below hb2
        have fg2 := fgA.below hb2 (by rw [hsA]; omega)
        have hz2 := hb2.size
        rw [hsA] at hz2
        have hg3 := hg2.set3 M.k M.a M.b
        have hbl3 : Below wr.heap.size wr (((w2.setCell ⟨wr.heap.size, 0, none⟩ (.int .i64 M.k)).setCell ⟨wr.heap.size, 1, none⟩ (.int .i64 M.a)).setCell ⟨wr.heap.size, 2, none⟩ (.int .i64 M.b)) := below_set3 (hbA.trans (hb2.mono (by rw [hsA]; omega))) (Nat.le_refl _) M.k M.a M.b
        have hI3 := hI.below hbl3
        have hs3 : (((w2.setCell ⟨wr.heap.size, 0, none⟩ (.int .i64 M.k)).setCell ⟨wr.heap.size, 1, none⟩ (.int .i64 M.a)).setCell ⟨wr.heap.size, 2, none⟩ (.int .i64 M.b)).heap.size = w2.heap.size := by simp
        clear q0 q1 q2
        have hq := hg2; obtain ⟨q0, q1, q2⟩ := hq
        have e0 := fg2 0; have e1 := fg2 1; have e2 := fg2 2
        have hq := hI3.bx; obtain ⟨p0, p1, p2, p3⟩ := hq
        clear hIA hgA fgA hb2 hgk hI c1 c2 c3
        go_wp2_with fail
        refine (Circuit_wires_any x y G k cG none 0 0 _ hx hy (by omega)).mono ?_
        rintro e w4 ⟨rfl, hb4⟩
        have hI4 := hI3.below hb4
        have hg4 := hg3.below hb4
        have hz4 := hb4.size
        rw [hs3] at hz4
        have hbl4 := hbl3.trans (hb4.mono (by rw [hs3]; omega))
        clear q0 q1 q2 e0 e1 e2 p0 p1 p2 p3 hI3 hg3 hb4 hbl3 hg2 fg2
        have hq := hI4.bx; obtain ⟨p0, p1, p2, p3⟩ := hq
        have hq := hg4; obtain ⟨q0, q1, q2⟩ := hq
        go_wp2_with fail
        refine (IndexFuncG_any 28 Try.call28 #[.pointer (some ⟨wr.heap.size, 0, none⟩)] (fun o => sameG o M) G k cG hs _ hI4.g.reads (by omega) (Lib.hid fun o w1 hb1 => Merge_2_any wr.heap.size o M w1 (hg4.below hb1))).mono ?_
        rintro e w5 ⟨rfl, hb5⟩
        rw [hIx.out]
        have hI5 := hI4.below hb5
        have hg5 := hg4.below hb5
        have hz5 := hb5.size
        have hbl5 := hbl4.trans (hb5.mono (by omega))
        clear p0 p1 p2 p3 q0 q1 q2 hI4 hg4 hb5 hbl4
        by_cases hpos : 0 ≤ I
        · obtain ⟨hIS, hSk⟩ := hfx.1 (by omega)
          have HIS := Lib.hid hIS
          clear hfx hIS
          have hIk : I ≤ 300 := by have := HIS.out; omega
          have hq := hI5.bx; obtain ⟨p0, p1, p2, p3⟩ := hq
          go_wp2_with fail
          refine (Circuit_inputs_any x y G k cG none 0 0 _ hx hy).mono ?_
          rintro e w6 ⟨rfl, hb6⟩
          have hI6 := hI5.below hb6
          have hg6 := hg5.below hb6
          have hbl6 := hbl5.trans (hb6.mono (by omega))
          have hz6 := hb6.size
          have HV : Hid ((X : Int) + (S : Nat) = x + y + I) := Lib.hid (by rw [HIS.out, HXe.out])
          have hwv : IntKind.i64.wrap (x + y + I) = x + y + I := IntWalk.i64_in _ (by omega)
          clear p0 p1 p2 p3 hI5 hg5 hb6 hbl5
          have hq := hI6.bx; obtain ⟨p0, p1, p2, p3⟩ := hq
          have hq := hg6; obtain ⟨q0, q1, q2⟩ := hq
          have h5 := hI6.c5
          have hlo1 : v1.heap.size ≤ w6.heap.size := by have := hI6.lo4; have := hI6.lt4; omega
          have hn4 : ¬ ((Value.slice G k cG).ownBlock = some b4 ∨ (Value.slice F (X + k) cF).ownBlock = some b4) := fun h => h.elim hI6.g4 hI6.r4
          have hn5 : ¬ ((Value.slice G k cG).ownBlock = some b5 ∨ (Value.slice F (X + k) cF).ownBlock = some b5) := fun h => h.elim hI6.g5 hI6.r5
          have hnb : ¬ ((Value.slice G k cG).ownBlock = some wr.heap.size ∨ (Value.slice F (X + k) cF).ownBlock = some wr.heap.size) := fun h => by
            rcases h with h | h
            · exact hGb _ h rfl
            · exact hFb _ h rfl
          go_wp2_with fail
          refine wp_region_mem (10) ((fun b => (Value.slice G k cG).ownBlock = some b ∨ (Value.slice F (X + k) cF).ownBlock = some b)) [(⟨b4, 2, none⟩, .slice G k cG), (⟨b5, 0, none⟩, .slice F (X + k) cF), (⟨wr.heap.size, 0, none⟩, .int .i64 M.k), (⟨wr.heap.size, 1, none⟩, .int .i64 M.a), (⟨wr.heap.size, 2, none⟩, .int .i64 M.b)] [(3, [], []), (4, [100, 3], [100]), (7, [], []), (8, [101, 7], [101])] [100, 101] [4, 8] [(100, Res.rowG v1.heap.size k hs), (101, Res.row v1.heap.size (X + k) fs), (3, Res.rowG v1.heap.size 1 [M]), (4, Res.rowG v1.heap.size (k + 1) (hs ++ [M])), (7, Res.row v1.heap.size 1 [(x + y + I)]), (8, Res.row v1.heap.size (X + k + 1) (fs ++ [(x + y + I)]))] ((upd (upd (fun _ => undef) 100 (.slice G k cG)) 101 (.slice F (X + k) cF))) (by kernel_rfl) (by kernel_rfl) (by kernel_rfl) (by simp only [CellsL, List.mem_cons, forall_eq_or_imp, List.not_mem_nil, false_implies, implies_true, and_true]; repeat (any_goals (apply And.intro)); all_goals (first | assumption | go_simp)) (fun q hq => by simp only [List.mem_cons, List.not_mem_nil, or_false] at hq; rcases hq with rfl | rfl | rfl | rfl | rfl <;> first | exact hn4 | exact hn5 | exact hnb) (⟨⟨hI6.g, fun b hb => ⟨.inr (.inl hb), (hI6.g.lt b hb).2.2⟩⟩, ⟨hI6.f, fun b hb => ⟨.inr (.inr hb), (hI6.f.lt b hb).2.2⟩⟩, trivial⟩) (mg_apart hI6.ap (by rfl) (by rfl) (fun _ _ _ h => h) (fun _ _ _ h => h)) ?_
          simp only [List.take_succ_cons, List.take_zero, List.drop_succ_cons, List.drop_zero, List.take_nil, List.drop_nil, List.take, List.drop]
          repeat (first
            | ((with_reducible refine mem_pure0 ?_ ?_ ?_)
               · exact rfl
               · exact rfl
               intro K hK
               apply Exists.intro
               refine ⟨fun w3 hw3 => ?_, ?_⟩
               · have hcs := hw3
                 simp only [CellsL, List.mem_cons, forall_eq_or_imp, List.not_mem_nil, false_implies, implies_true, and_true] at hcs
                 clear hw3
                 go_simp
                 first | done | exact ⟨rfl, rfl⟩ | rfl
               refine hK _ ?_
               clear hK K
               try simp only [Act.put, List.setIfInBounds_toArray, List.set_cons_zero, List.set_cons_succ])
            | ((with_reducible refine mem_skip ?_ ?_ ?_)
               · exact rfl
               · exact wanted_not rfl rfl rfl rfl
               simp only [Act.put, List.setIfInBounds_toArray, List.set_cons_zero, List.set_cons_succ])
            | ((with_reducible refine mem_pure ?_ ?_ ?_)
               · exact rfl
               · exact wanted_some rfl rfl rfl rfl
               intro K hK
               apply Exists.intro
               refine ⟨fun w3 hw3 => ?_, ?_⟩
               · have hcs := hw3
                 simp only [CellsL, List.mem_cons, forall_eq_or_imp, List.not_mem_nil, false_implies, implies_true, and_true] at hcs
                 clear hw3
                 go_simp
                 first | done | exact ⟨rfl, rfl⟩ | rfl
               refine hK _ ?_
               clear hK K
               try simp only [Act.put, List.setIfInBounds_toArray, List.set_cons_zero, List.set_cons_succ]))
          focus
            (with_reducible refine mem_rowG v1.heap.size 1 [M] ?_ ?_ ?_ ?_ ?_ (hw := ?_))
            · exact rfl
            · exact rfl
            · omega
            · intro w3 hw3 hc3 hp3
              have hcs := hc3
              simp only [CellsL, List.mem_cons, forall_eq_or_imp, List.not_mem_nil, false_implies, implies_true, and_true] at hcs
              (go_simp; exact postRowG.new1 _ _)
            rotate_left
            · first | exact wanted_none rfl | exact wanted_some rfl rfl rfl rfl
            intro A3 c3
            try simp only [Act.put, List.setIfInBounds_toArray, List.set_cons_zero, List.set_cons_succ]
          repeat (first
            | ((with_reducible refine mem_pure0 ?_ ?_ ?_)
               · exact rfl
               · exact rfl
               intro K hK
               apply Exists.intro
               refine ⟨fun w3 hw3 => ?_, ?_⟩
               · have hcs := hw3
                 simp only [CellsL, List.mem_cons, forall_eq_or_imp, List.not_mem_nil, false_implies, implies_true, and_true] at hcs
                 clear hw3
                 go_simp
                 first | done | exact ⟨rfl, rfl⟩ | rfl
               refine hK _ ?_
               clear hK K
               try simp only [Act.put, List.setIfInBounds_toArray, List.set_cons_zero, List.set_cons_succ])
            | ((with_reducible refine mem_skip ?_ ?_ ?_)
               · exact rfl
               · exact wanted_not rfl rfl rfl rfl
               simp only [Act.put, List.setIfInBounds_toArray, List.set_cons_zero, List.set_cons_succ])
            | ((with_reducible refine mem_pure ?_ ?_ ?_)
               · exact rfl
               · exact wanted_some rfl rfl rfl rfl
               intro K hK
               apply Exists.intro
               refine ⟨fun w3 hw3 => ?_, ?_⟩
               · have hcs := hw3
                 simp only [CellsL, List.mem_cons, forall_eq_or_imp, List.not_mem_nil, false_implies, implies_true, and_true] at hcs
                 clear hw3
                 go_simp
                 first | done | exact ⟨rfl, rfl⟩ | rfl
               refine hK _ ?_
               clear hK K
               try simp only [Act.put, List.setIfInBounds_toArray, List.set_cons_zero, List.set_cons_succ]))
          refine mem_appG 100 v1.heap.size k 1 hs [M] G cG A3 c3 (.tmp 45) (.tmp 47) (by rfl) (by rfl) (by omega) (by rfl) (by rfl) (by decide) (by rfl) (by rfl) (by rfl) (by rfl) (by omega) (fun w3 hw3 hc3 hp3 => ?_) (fun G' cG' => ?_)
          · have h3 : OwnG w3 v1.heap.size w3.heap.size (.slice A3 1 c3) 1 [M] := hp3.1.2.1.1
            exact h3.reads
          try simp only [Act.put, List.setIfInBounds_toArray, List.set_cons_zero, List.set_cons_succ]
          repeat (first
            | ((with_reducible refine mem_pure0 ?_ ?_ ?_)
               · exact rfl
               · exact rfl
               intro K hK
               apply Exists.intro
               refine ⟨fun w3 hw3 => ?_, ?_⟩
               · have hcs := hw3
                 simp only [CellsL, List.mem_cons, forall_eq_or_imp, List.not_mem_nil, false_implies, implies_true, and_true] at hcs
                 clear hw3
                 go_simp
                 first | done | exact ⟨rfl, rfl⟩ | rfl
               refine hK _ ?_
               clear hK K
               try simp only [Act.put, List.setIfInBounds_toArray, List.set_cons_zero, List.set_cons_succ])
            | ((with_reducible refine mem_skip ?_ ?_ ?_)
               · exact rfl
               · exact wanted_not rfl rfl rfl rfl
               simp only [Act.put, List.setIfInBounds_toArray, List.set_cons_zero, List.set_cons_succ])
            | ((with_reducible refine mem_pure ?_ ?_ ?_)
               · exact rfl
               · exact wanted_some rfl rfl rfl rfl
               intro K hK
               apply Exists.intro
               refine ⟨fun w3 hw3 => ?_, ?_⟩
               · have hcs := hw3
                 simp only [CellsL, List.mem_cons, forall_eq_or_imp, List.not_mem_nil, false_implies, implies_true, and_true] at hcs
                 clear hw3
                 go_simp
                 first | done | exact ⟨rfl, rfl⟩ | rfl
               refine hK _ ?_
               clear hK K
               try simp only [Act.put, List.setIfInBounds_toArray, List.set_cons_zero, List.set_cons_succ]))
          focus
            (with_reducible refine mem_row v1.heap.size 1 [(x + y + I)] ?_ ?_ ?_ ?_ ?_ (hw := ?_))
            · exact rfl
            · exact rfl
            · omega
            · intro w3 hw3 hc3 hp3
              have hcs := hc3
              simp only [CellsL, List.mem_cons, forall_eq_or_imp, List.not_mem_nil, false_implies, implies_true, and_true] at hcs
              (go_simp; exact postRow.new1 _ _)
            rotate_left
            · first | exact wanted_none rfl | exact wanted_some rfl rfl rfl rfl
            intro A7 c7
            try simp only [Act.put, List.setIfInBounds_toArray, List.set_cons_zero, List.set_cons_succ]
          repeat (first
            | ((with_reducible refine mem_pure0 ?_ ?_ ?_)
               · exact rfl
               · exact rfl
               intro K hK
               apply Exists.intro
               refine ⟨fun w3 hw3 => ?_, ?_⟩
               · have hcs := hw3
                 simp only [CellsL, List.mem_cons, forall_eq_or_imp, List.not_mem_nil, false_implies, implies_true, and_true] at hcs
                 clear hw3
                 go_simp
                 first | done | exact ⟨rfl, rfl⟩ | rfl
               refine hK _ ?_
               clear hK K
               try simp only [Act.put, List.setIfInBounds_toArray, List.set_cons_zero, List.set_cons_succ])
            | ((with_reducible refine mem_skip ?_ ?_ ?_)
               · exact rfl
               · exact wanted_not rfl rfl rfl rfl
               simp only [Act.put, List.setIfInBounds_toArray, List.set_cons_zero, List.set_cons_succ])
            | ((with_reducible refine mem_pure ?_ ?_ ?_)
               · exact rfl
               · exact wanted_some rfl rfl rfl rfl
               intro K hK
               apply Exists.intro
               refine ⟨fun w3 hw3 => ?_, ?_⟩
               · have hcs := hw3
                 simp only [CellsL, List.mem_cons, forall_eq_or_imp, List.not_mem_nil, false_implies, implies_true, and_true] at hcs
                 clear hw3
                 go_simp
                 first | done | exact ⟨rfl, rfl⟩ | rfl
               refine hK _ ?_
               clear hK K
               try simp only [Act.put, List.setIfInBounds_toArray, List.set_cons_zero, List.set_cons_succ]))
          refine mem_appI 101 v1.heap.size (X + k) 1 fs [(x + y + I)] F cF A7 c7 (.tmp 49) (.tmp 51) (by rfl) (by rfl) (by omega) (by rfl) (by rfl) (by decide) (by rfl) (by rfl) (by rfl) (by rfl) (by omega) (fun w3 hw3 hc3 hp3 => ?_) (fun F' cF' => ?_)
          · have h7 : Own w3 v1.heap.size w3.heap.size (.slice A7 1 c7) 1 [(x + y + I)] := hp3.1.2.1.1
            exact h7.reads
          try simp only [Act.put, List.setIfInBounds_toArray, List.set_cons_zero, List.set_cons_succ]
          repeat (first
            | ((with_reducible refine mem_pure0 ?_ ?_ ?_)
               · exact rfl
               · exact rfl
               intro K hK
               apply Exists.intro
               refine ⟨fun w3 hw3 => ?_, ?_⟩
               · have hcs := hw3
                 simp only [CellsL, List.mem_cons, forall_eq_or_imp, List.not_mem_nil, false_implies, implies_true, and_true] at hcs
                 clear hw3
                 go_simp
                 first | done | exact ⟨rfl, rfl⟩ | rfl
               refine hK _ ?_
               clear hK K
               try simp only [Act.put, List.setIfInBounds_toArray, List.set_cons_zero, List.set_cons_succ])
            | ((with_reducible refine mem_skip ?_ ?_ ?_)
               · exact rfl
               · exact wanted_not rfl rfl rfl rfl
               simp only [Act.put, List.setIfInBounds_toArray, List.set_cons_zero, List.set_cons_succ])
            | ((with_reducible refine mem_pure ?_ ?_ ?_)
               · exact rfl
               · exact wanted_some rfl rfl rfl rfl
               intro K hK
               apply Exists.intro
               refine ⟨fun w3 hw3 => ?_, ?_⟩
               · have hcs := hw3
                 simp only [CellsL, List.mem_cons, forall_eq_or_imp, List.not_mem_nil, false_implies, implies_true, and_true] at hcs
                 clear hw3
                 go_simp
                 first | done | exact ⟨rfl, rfl⟩ | rfl
               refine hK _ ?_
               clear hK K
               try simp only [Act.put, List.setIfInBounds_toArray, List.set_cons_zero, List.set_cons_succ]))
          refine wpSep_end ?_
          intro wz hwz hcz hfin hap
          have h4 : OwnG wz v1.heap.size wz.heap.size (.slice G' (k + 1) cG') (k + 1) (hs ++ [M]) := hfin.1.1
          have h8 : Own wz v1.heap.size wz.heap.size (.slice F' (X + k + 1) cF') (X + k + 1) (fs ++ [(x + y + I)]) := hfin.2.1.1
          have hap' : Apart (.slice G' (k + 1) cG') (.slice F' (X + k + 1) cF') := fun g e1 e2 => hap 4 (by simp) 8 (by simp) (by decide) g e1 e2
          have hok4 : ∀ b, (Value.slice G' (k + 1) cG').ownBlock = some b → okB w6 (fun b => (Value.slice G k cG).ownBlock = some b ∨ (Value.slice F (X + k) cF).ownBlock = some b) b := fun b hb => (hfin.1.2 b hb).1
          have hok8 : ∀ b, (Value.slice F' (X + k + 1) cF').ownBlock = some b → okB w6 (fun b => (Value.slice G k cG).ownBlock = some b ∨ (Value.slice F (X + k) cF).ownBlock = some b) b := fun b hb => (hfin.2.1.2 b hb).1
          have hx4 : ¬ okB w6 (fun b => (Value.slice G k cG).ownBlock = some b ∨ (Value.slice F (X + k) cF).ownBlock = some b) b4 := fun h => h.elim (fun h => by have := hI6.lt4; omega) hn4
          have hx5 : ¬ okB w6 (fun b => (Value.slice G k cG).ownBlock = some b ∨ (Value.slice F (X + k) cF).ownBlock = some b) b5 := fun h => h.elim (fun h => by have := hI6.lt5; omega) hn5
          have hzz := hwz.size
          have hIz := MgI.stored (hI6.bx.alt hwz hx4) (hI6.f4.alt hwz hI6.lt4 hx4) (hwz.cell_ h5 hx5) (hI6.f5.alt hwz hI6.lt5 hx5) h4 h8 hap' (fun hc => hx4 (hok4 _ hc)) (fun hc => hx5 (hok4 _ hc)) (fun hc => hx4 (hok8 _ hc)) (fun hc => hx5 (hok8 _ hc)) hI6.ne hI6.lo4 hI6.lo5 (by have := hI6.lt4; omega) (by have := hI6.lt5; omega)
          have hbz := (((hb.trans (hbl6.mono hb.size)).trans (hwz.below_ (B := v1.heap.size) hlo1 (fun i hi ho => ho.elim (fun h => by omega) (fun h => h.elim (fun h => by have := hI6.g.lt i h; omega) (fun h => by have := hI6.f.lt i h; omega))))).setCell (p := ⟨b4, 2, none⟩) hI6.lo4 (.slice G' (k + 1) cG')).setCell (p := ⟨b5, 0, none⟩) hI6.lo5 (.slice F' (X + k + 1) cF')
          have hq := hI6.bx.alt hwz hx4; obtain ⟨s0, s1, s2, s3⟩ := hq
          have e2 := hI6.f4.alt hwz hI6.lt4 hx4 2
          have d0 := hI6.f5.alt hwz hI6.lt5 hx5 0
          have t5 := hwz.cell_ h5 hx5
          have t5' : (wz.setCell ⟨b4, 2, none⟩ (.slice G' (k + 1) cG')).cell? ⟨b5, 0, none⟩ = some (.slice F (X + k) cF) := (World.cell?_setCell_other _ _ _ _ (by intro hc; first | exact hI6.ne (congrArg Addr.block hc) | exact hI6.ne (congrArg Addr.block hc).symm)).trans t5
          rw [← HV.out] at hIz
          rw [← HS1.out, ← HS2.out] at hIz
          clear hfin hap hcz hwz h4 h8 hok4 hok8 p0 p1 p2 p3 q0 q1 q2 h5 hn4 hn5 hnb
          go_wp2
          go_roundw
          case rel => exact ⟨k + 1, _, _, _, _, by omega, by go_num, hIz, hbz⟩
          case measure => simp [intOf]; omega
        · have hSk := hfx.2 (by omega)
          have HV : Hid ((X : Int) + (S : Nat) = x + y + k) := Lib.hid (by rw [hSk, HXe.out])
          clear hfx hSk
          have hz6 : w5.heap.size ≤ w5.heap.size := Nat.le_refl _
          have hq := hI5.bx; obtain ⟨p0, p1, p2, p3⟩ := hq
          have hq := hg5; obtain ⟨q0, q1, q2⟩ := hq
          have h5 := hI5.c5
          have hlo1 : v1.heap.size ≤ w5.heap.size := by have := hI5.lo4; have := hI5.lt4; omega
          have hn4 : ¬ ((Value.slice G k cG).ownBlock = some b4 ∨ (Value.slice F (X + k) cF).ownBlock = some b4) := fun h => h.elim hI5.g4 hI5.r4
          have hn5 : ¬ ((Value.slice G k cG).ownBlock = some b5 ∨ (Value.slice F (X + k) cF).ownBlock = some b5) := fun h => h.elim hI5.g5 hI5.r5
          have hnb : ¬ ((Value.slice G k cG).ownBlock = some wr.heap.size ∨ (Value.slice F (X + k) cF).ownBlock = some wr.heap.size) := fun h => by
            rcases h with h | h
            · exact hGb _ h rfl
            · exact hFb _ h rfl
          go_wp2_with fail
          refine wp_region_mem (10) ((fun b => (Value.slice G k cG).ownBlock = some b ∨ (Value.slice F (X + k) cF).ownBlock = some b)) [(⟨b4, 2, none⟩, .slice G k cG), (⟨b5, 0, none⟩, .slice F (X + k) cF), (⟨wr.heap.size, 0, none⟩, .int .i64 M.k), (⟨wr.heap.size, 1, none⟩, .int .i64 M.a), (⟨wr.heap.size, 2, none⟩, .int .i64 M.b)] [(3, [], []), (4, [100, 3], [100]), (7, [], []), (8, [101, 7], [101])] [100, 101] [4, 8] [(100, Res.rowG v1.heap.size k hs), (101, Res.row v1.heap.size (X + k) fs), (3, Res.rowG v1.heap.size 1 [M]), (4, Res.rowG v1.heap.size (k + 1) (hs ++ [M])), (7, Res.row v1.heap.size 1 [(x + y + k)]), (8, Res.row v1.heap.size (X + k + 1) (fs ++ [(x + y + k)]))] ((upd (upd (fun _ => undef) 100 (.slice G k cG)) 101 (.slice F (X + k) cF))) (by kernel_rfl) (by kernel_rfl) (by kernel_rfl) (by simp only [CellsL, List.mem_cons, forall_eq_or_imp, List.not_mem_nil, false_implies, implies_true, and_true]; repeat (any_goals (apply And.intro)); all_goals (first | assumption | go_simp)) (fun q hq => by simp only [List.mem_cons, List.not_mem_nil, or_false] at hq; rcases hq with rfl | rfl | rfl | rfl | rfl <;> first | exact hn4 | exact hn5 | exact hnb) (⟨⟨hI5.g, fun b hb => ⟨.inr (.inl hb), (hI5.g.lt b hb).2.2⟩⟩, ⟨hI5.f, fun b hb => ⟨.inr (.inr hb), (hI5.f.lt b hb).2.2⟩⟩, trivial⟩) (mg_apart hI5.ap (by rfl) (by rfl) (fun _ _ _ h => h) (fun _ _ _ h => h)) ?_
          simp only [List.take_succ_cons, List.take_zero, List.drop_succ_cons, List.drop_zero, List.take_nil, List.drop_nil, List.take, List.drop]
          repeat (first
            | ((with_reducible refine mem_pure0 ?_ ?_ ?_)
               · exact rfl
               · exact rfl
               intro K hK
               apply Exists.intro
               refine ⟨fun w3 hw3 => ?_, ?_⟩
               · have hcs := hw3
                 simp only [CellsL, List.mem_cons, forall_eq_or_imp, List.not_mem_nil, false_implies, implies_true, and_true] at hcs
                 clear hw3
                 go_simp
                 first | done | exact ⟨rfl, rfl⟩ | rfl
               refine hK _ ?_
               clear hK K
               try simp only [Act.put, List.setIfInBounds_toArray, List.set_cons_zero, List.set_cons_succ])
            | ((with_reducible refine mem_skip ?_ ?_ ?_)
               · exact rfl
               · exact wanted_not rfl rfl rfl rfl
               simp only [Act.put, List.setIfInBounds_toArray, List.set_cons_zero, List.set_cons_succ])
            | ((with_reducible refine mem_pure ?_ ?_ ?_)
               · exact rfl
               · exact wanted_some rfl rfl rfl rfl
               intro K hK
               apply Exists.intro
               refine ⟨fun w3 hw3 => ?_, ?_⟩
               · have hcs := hw3
                 simp only [CellsL, List.mem_cons, forall_eq_or_imp, List.not_mem_nil, false_implies, implies_true, and_true] at hcs
                 clear hw3
                 go_simp
                 first | done | exact ⟨rfl, rfl⟩ | rfl
               refine hK _ ?_
               clear hK K
               try simp only [Act.put, List.setIfInBounds_toArray, List.set_cons_zero, List.set_cons_succ]))
          focus
            (with_reducible refine mem_rowG v1.heap.size 1 [M] ?_ ?_ ?_ ?_ ?_ (hw := ?_))
            · exact rfl
            · exact rfl
            · omega
            · intro w3 hw3 hc3 hp3
              have hcs := hc3
              simp only [CellsL, List.mem_cons, forall_eq_or_imp, List.not_mem_nil, false_implies, implies_true, and_true] at hcs
              (go_simp; exact postRowG.new1 _ _)
            rotate_left
            · first | exact wanted_none rfl | exact wanted_some rfl rfl rfl rfl
            intro A3 c3
            try simp only [Act.put, List.setIfInBounds_toArray, List.set_cons_zero, List.set_cons_succ]
          repeat (first
            | ((with_reducible refine mem_pure0 ?_ ?_ ?_)
               · exact rfl
               · exact rfl
               intro K hK
               apply Exists.intro
               refine ⟨fun w3 hw3 => ?_, ?_⟩
               · have hcs := hw3
                 simp only [CellsL, List.mem_cons, forall_eq_or_imp, List.not_mem_nil, false_implies, implies_true, and_true] at hcs
                 clear hw3
                 go_simp
                 first | done | exact ⟨rfl, rfl⟩ | rfl
               refine hK _ ?_
               clear hK K
               try simp only [Act.put, List.setIfInBounds_toArray, List.set_cons_zero, List.set_cons_succ])
            | ((with_reducible refine mem_skip ?_ ?_ ?_)
               · exact rfl
               · exact wanted_not rfl rfl rfl rfl
               simp only [Act.put, List.setIfInBounds_toArray, List.set_cons_zero, List.set_cons_succ])
            | ((with_reducible refine mem_pure ?_ ?_ ?_)
               · exact rfl
               · exact wanted_some rfl rfl rfl rfl
               intro K hK
               apply Exists.intro
               refine ⟨fun w3 hw3 => ?_, ?_⟩
               · have hcs := hw3
                 simp only [CellsL, List.mem_cons, forall_eq_or_imp, List.not_mem_nil, false_implies, implies_true, and_true] at hcs
                 clear hw3
                 go_simp
                 first | done | exact ⟨rfl, rfl⟩ | rfl
               refine hK _ ?_
               clear hK K
               try simp only [Act.put, List.setIfInBounds_toArray, List.set_cons_zero, List.set_cons_succ]))
          refine mem_appG 100 v1.heap.size k 1 hs [M] G cG A3 c3 (.tmp 45) (.tmp 47) (by rfl) (by rfl) (by omega) (by rfl) (by rfl) (by decide) (by rfl) (by rfl) (by rfl) (by rfl) (by omega) (fun w3 hw3 hc3 hp3 => ?_) (fun G' cG' => ?_)
          · have h3 : OwnG w3 v1.heap.size w3.heap.size (.slice A3 1 c3) 1 [M] := hp3.1.2.1.1
            exact h3.reads
          try simp only [Act.put, List.setIfInBounds_toArray, List.set_cons_zero, List.set_cons_succ]
          repeat (first
            | ((with_reducible refine mem_pure0 ?_ ?_ ?_)
               · exact rfl
               · exact rfl
               intro K hK
               apply Exists.intro
               refine ⟨fun w3 hw3 => ?_, ?_⟩
               · have hcs := hw3
                 simp only [CellsL, List.mem_cons, forall_eq_or_imp, List.not_mem_nil, false_implies, implies_true, and_true] at hcs
                 clear hw3
                 go_simp
                 first | done | exact ⟨rfl, rfl⟩ | rfl
               refine hK _ ?_
               clear hK K
               try simp only [Act.put, List.setIfInBounds_toArray, List.set_cons_zero, List.set_cons_succ])
            | ((with_reducible refine mem_skip ?_ ?_ ?_)
               · exact rfl
               · exact wanted_not rfl rfl rfl rfl
               simp only [Act.put, List.setIfInBounds_toArray, List.set_cons_zero, List.set_cons_succ])
            | ((with_reducible refine mem_pure ?_ ?_ ?_)
               · exact rfl
               · exact wanted_some rfl rfl rfl rfl
               intro K hK
               apply Exists.intro
               refine ⟨fun w3 hw3 => ?_, ?_⟩
               · have hcs := hw3
                 simp only [CellsL, List.mem_cons, forall_eq_or_imp, List.not_mem_nil, false_implies, implies_true, and_true] at hcs
                 clear hw3
                 go_simp
                 first | done | exact ⟨rfl, rfl⟩ | rfl
               refine hK _ ?_
               clear hK K
               try simp only [Act.put, List.setIfInBounds_toArray, List.set_cons_zero, List.set_cons_succ]))
          focus
            (with_reducible refine mem_row v1.heap.size 1 [(x + y + k)] ?_ ?_ ?_ ?_ ?_ (hw := ?_))
            · exact rfl
            · exact rfl
            · omega
            · intro w3 hw3 hc3 hp3
              have hcs := hc3
              simp only [CellsL, List.mem_cons, forall_eq_or_imp, List.not_mem_nil, false_implies, implies_true, and_true] at hcs
              (go_simp; exact postRow.new1 _ _)
            rotate_left
            · first | exact wanted_none rfl | exact wanted_some rfl rfl rfl rfl
            intro A7 c7
            try simp only [Act.put, List.setIfInBounds_toArray, List.set_cons_zero, List.set_cons_succ]
          repeat (first
            | ((with_reducible refine mem_pure0 ?_ ?_ ?_)
               · exact rfl
               · exact rfl
               intro K hK
               apply Exists.intro
               refine ⟨fun w3 hw3 => ?_, ?_⟩
               · have hcs := hw3
                 simp only [CellsL, List.mem_cons, forall_eq_or_imp, List.not_mem_nil, false_implies, implies_true, and_true] at hcs
                 clear hw3
                 go_simp
                 first | done | exact ⟨rfl, rfl⟩ | rfl
               refine hK _ ?_
               clear hK K
               try simp only [Act.put, List.setIfInBounds_toArray, List.set_cons_zero, List.set_cons_succ])
            | ((with_reducible refine mem_skip ?_ ?_ ?_)
               · exact rfl
               · exact wanted_not rfl rfl rfl rfl
               simp only [Act.put, List.setIfInBounds_toArray, List.set_cons_zero, List.set_cons_succ])
            | ((with_reducible refine mem_pure ?_ ?_ ?_)
               · exact rfl
               · exact wanted_some rfl rfl rfl rfl
               intro K hK
               apply Exists.intro
               refine ⟨fun w3 hw3 => ?_, ?_⟩
               · have hcs := hw3
                 simp only [CellsL, List.mem_cons, forall_eq_or_imp, List.not_mem_nil, false_implies, implies_true, and_true] at hcs
                 clear hw3
                 go_simp
                 first | done | exact ⟨rfl, rfl⟩ | rfl
               refine hK _ ?_
               clear hK K
               try simp only [Act.put, List.setIfInBounds_toArray, List.set_cons_zero, List.set_cons_succ]))
          refine mem_appI 101 v1.heap.size (X + k) 1 fs [(x + y + k)] F cF A7 c7 (.tmp 49) (.tmp 51) (by rfl) (by rfl) (by omega) (by rfl) (by rfl) (by decide) (by rfl) (by rfl) (by rfl) (by rfl) (by omega) (fun w3 hw3 hc3 hp3 => ?_) (fun F' cF' => ?_)
          · have h7 : Own w3 v1.heap.size w3.heap.size (.slice A7 1 c7) 1 [(x + y + k)] := hp3.1.2.1.1
            exact h7.reads
          try simp only [Act.put, List.setIfInBounds_toArray, List.set_cons_zero, List.set_cons_succ]
          repeat (first
            | ((with_reducible refine mem_pure0 ?_ ?_ ?_)
               · exact rfl
               · exact rfl
               intro K hK
               apply Exists.intro
               refine ⟨fun w3 hw3 => ?_, ?_⟩
               · have hcs := hw3
                 simp only [CellsL, List.mem_cons, forall_eq_or_imp, List.not_mem_nil, false_implies, implies_true, and_true] at hcs
                 clear hw3
                 go_simp
                 first | done | exact ⟨rfl, rfl⟩ | rfl
               refine hK _ ?_
               clear hK K
               try simp only [Act.put, List.setIfInBounds_toArray, List.set_cons_zero, List.set_cons_succ])
            | ((with_reducible refine mem_skip ?_ ?_ ?_)
               · exact rfl
               · exact wanted_not rfl rfl rfl rfl
               simp only [Act.put, List.setIfInBounds_toArray, List.set_cons_zero, List.set_cons_succ])
            | ((with_reducible refine mem_pure ?_ ?_ ?_)
               · exact rfl
               · exact wanted_some rfl rfl rfl rfl
               intro K hK
               apply Exists.intro
               refine ⟨fun w3 hw3 => ?_, ?_⟩
               · have hcs := hw3
                 simp only [CellsL, List.mem_cons, forall_eq_or_imp, List.not_mem_nil, false_implies, implies_true, and_true] at hcs
                 clear hw3
                 go_simp
                 first | done | exact ⟨rfl, rfl⟩ | rfl
               refine hK _ ?_
               clear hK K
               try simp only [Act.put, List.setIfInBounds_toArray, List.set_cons_zero, List.set_cons_succ]))
          refine wpSep_end ?_
          intro wz hwz hcz hfin hap
          have h4 : OwnG wz v1.heap.size wz.heap.size (.slice G' (k + 1) cG') (k + 1) (hs ++ [M]) := hfin.1.1
          have h8 : Own wz v1.heap.size wz.heap.size (.slice F' (X + k + 1) cF') (X + k + 1) (fs ++ [(x + y + k)]) := hfin.2.1.1
          have hap' : Apart (.slice G' (k + 1) cG') (.slice F' (X + k + 1) cF') := fun g e1 e2 => hap 4 (by simp) 8 (by simp) (by decide) g e1 e2
          have hok4 : ∀ b, (Value.slice G' (k + 1) cG').ownBlock = some b → okB w5 (fun b => (Value.slice G k cG).ownBlock = some b ∨ (Value.slice F (X + k) cF).ownBlock = some b) b := fun b hb => (hfin.1.2 b hb).1
          have hok8 : ∀ b, (Value.slice F' (X + k + 1) cF').ownBlock = some b → okB w5 (fun b => (Value.slice G k cG).ownBlock = some b ∨ (Value.slice F (X + k) cF).ownBlock = some b) b := fun b hb => (hfin.2.1.2 b hb).1
          have hx4 : ¬ okB w5 (fun b => (Value.slice G k cG).ownBlock = some b ∨ (Value.slice F (X + k) cF).ownBlock = some b) b4 := fun h => h.elim (fun h => by have := hI5.lt4; omega) hn4
          have hx5 : ¬ okB w5 (fun b => (Value.slice G k cG).ownBlock = some b ∨ (Value.slice F (X + k) cF).ownBlock = some b) b5 := fun h => h.elim (fun h => by have := hI5.lt5; omega) hn5
          have hzz := hwz.size
          have hIz := MgI.stored (hI5.bx.alt hwz hx4) (hI5.f4.alt hwz hI5.lt4 hx4) (hwz.cell_ h5 hx5) (hI5.f5.alt hwz hI5.lt5 hx5) h4 h8 hap' (fun hc => hx4 (hok4 _ hc)) (fun hc => hx5 (hok4 _ hc)) (fun hc => hx4 (hok8 _ hc)) (fun hc => hx5 (hok8 _ hc)) hI5.ne hI5.lo4 hI5.lo5 (by have := hI5.lt4; omega) (by have := hI5.lt5; omega)
          have hbz := (((hb.trans (hbl5.mono hb.size)).trans (hwz.below_ (B := v1.heap.size) hlo1 (fun i hi ho => ho.elim (fun h => by omega) (fun h => h.elim (fun h => by have := hI5.g.lt i h; omega) (fun h => by have := hI5.f.lt i h; omega))))).setCell (p := ⟨b4, 2, none⟩) hI5.lo4 (.slice G' (k + 1) cG')).setCell (p := ⟨b5, 0, none⟩) hI5.lo5 (.slice F' (X + k + 1) cF')
          have hq := hI5.bx.alt hwz hx4; obtain ⟨s0, s1, s2, s3⟩ := hq
          have e2 := hI5.f4.alt hwz hI5.lt4 hx4 2
          have d0 := hI5.f5.alt hwz hI5.lt5 hx5 0
          have t5 := hwz.cell_ h5 hx5
          have t5' : (wz.setCell ⟨b4, 2, none⟩ (.slice G' (k + 1) cG')).cell? ⟨b5, 0, none⟩ = some (.slice F (X + k) cF) := (World.cell?_setCell_other _ _ _ _ (by intro hc; first | exact hI5.ne (congrArg Addr.block hc) | exact hI5.ne (congrArg Addr.block hc).symm)).trans t5
          rw [← HV.out] at hIz
          rw [← HS1.out, ← HS2.out] at hIz
          clear hfin hap hcz hwz h4 h8 hok4 hok8 p0 p1 p2 p3 q0 q1 q2 h5 hn4 hn5 hnb
          go_wp2
          go_roundw
          case rel => exact ⟨k + 1, _, _, _, _, by omega, by go_num, hIz, hbz⟩
          case measure => simp [intOf]; omega
      · obtain rfl : ng = k := Nat.le_antisymm (Nat.le_of_not_lt hlt) hk
        have hq := hI.bx; obtain ⟨p0, p1, p2, p3⟩ := hq
        have h5 := hI.c5
        have hxr := hx1.below hb
        have hq := hxr; obtain ⟨k0, k1, k2, k3⟩ := hq
        have hao' : allB 0 (((X + ng : Nat) : Int) - 1) os = true := by rw [show ((X + ng : Nat) : Int) - 1 = x + y + ng - 1 by omega]; exact hao
        go_wp2_with fail
        refine (at_any F Ao (X + ng) cF no co (mrg X gs ng).2 os _ hI.f.reads (hr.2.below hBr (Nat.le_refl _)) (by omega) (by omega) hao').mono ?_
        rintro e w5 hT
        have hpl : (pick (mrg X gs ng).2 os).length = no := by rw [pick_len]; exact hlo
        obtain ⟨A5, c5, rfl, ho5, hb5⟩ := hT.open_ hpl
        have hI5 := hI.below hb5
        have hz5 := hb5.size
        have hBl5 := hb.trans (hb5.mono hb.size)
        have hB5 := hBv.trans (hBl5.mono hBv.size)
        have hr5 := hr1.below hBl5
        have f5 := f1.below hBl5 hr1.lt
        clear p0 p1 p2 p3 h5 k0 k1 k2 k3 hxr
        have hq := hI5.bx; obtain ⟨p0, p1, p2, p3⟩ := hq
        have e3 := hI5.f4 3
        have hO7 := hI5.bx.setO A5 no c5
        have ka : Alt (fun i => i = b4) w5 (w5.setCell ⟨b4, 3, none⟩ (.slice A5 no c5)) := (Alt.refl_ _ w5).set_ _ _ (fun _ => rfl)
        have hB7 := hB5.setCell (p := ⟨b4, 3, none⟩) (by show w.heap.size ≤ b4; have := hI5.lo4; omega) (.slice A5 no c5)
        have hr7 := hr5.alt ka (by have := hI5.lo4; omega)
        have f7 := f5.alt ka hr5.lt (by have := hI5.lo4; omega)
        have hG7 := hI5.g.alt ka (fun g hg hc => hI5.g4 (hc ▸ hg))
        have hO57 := ho5.alt ka (fun g hg hc => by have := ho5.lt g hg; have := hI.lt4; omega)
        have hap7 : Apart (.slice G ng cG) (.slice A5 no c5) := fun g h1 h2 => by
          have h3 := hI.g.lt g h1
          have h4 := ho5.lt g h2
          omega
        have hC7 : OwnC (w5.setCell ⟨b4, 3, none⟩ (.slice A5 no c5)) v1.heap.size w5.heap.size G ng cG A5 no c5 (mrg X gs ng).1 (pick (mrg X gs ng).2 os) := ⟨hG7, hO57.lo_ (by have := hb.size; omega), hap7⟩
        have hgl := hG7.len
        have hol := hO57.len
        obtain ⟨n0, n1, n2, n3⟩ := hO7
        have hq := hr7; obtain ⟨r0, r1, r2, r3⟩ := hq
        have g0 := f7 0; have g1 := f7 1; have g2 := f7 2; have g3 := f7 3
        clear hI hI5 hG7 hO57 ka
        go_wp2
        have hq9 := BxC.set4 (hr7) x y G ng cG A5 no c5
        obtain ⟨q0, q1, q2, q3⟩ := hq9
        refine bodyPost_ret (v := .tuple #[.agg #[.int .i64 x, .int .i64 y, .slice G ng cG, .slice A5 no c5], .bool true]) (by simp [results, Try.results5, go_sem, q0, q1, q2, q3]) rfl ?_
        exact RetC.some_ (below_set4 hB7 (by omega) _ _ _ _ _ _ _ _) HF.out hgl hol rfl (by rw [set4_size]; exact ((hC7.set4 (.inl (by omega)) _ _ _ _ _ _ _ _).lo_ (by omega)) |> fun h => h.hi_ (by simp))
end Go.Proofs.Ytcdhmcpocohbpaa
