/- Contracts of LinearForm. -/
import Derived.Test.YtadgmbkpbgcdjaaLin
import Derived.Test.YtadgmbkpbgcdjaaDeg
import Derived.Test.YtadgmbkpbgcdjaaCount
import Derived.Test.YtadgmbkpbgcdjaaRepeat
import Derived.Test.YtadgmbkpbgcdjaaRes3
namespace Go.Proofs.Ytadgmbkpbgcdjaa
open Go.RowKit
set_option linter.unusedVariables false
set_option linter.unusedSimpArgs false
attribute [local go_sem] sepAt sepUpon pureAt pureUpon

theorem RI_cell {w : World} {k o n i : Nat} {v : Int} {xs : List Int} (h : RI w (some ⟨k, o, none⟩) n xs) (hi : i < n) (he : Hid (gi xs i = v)) : w.cell? ⟨k, o + i, none⟩ = some (.int .i64 v) := by
  obtain ⟨j, q, hA, hlt, hc⟩ := h.at_ hi
  simp only [Option.some.injEq, Addr.mk.injEq, and_true] at hA
  obtain ⟨rfl, rfl⟩ := hA
  rw [hc, he.out]

set_option maxRecDepth 100000 in
set_option maxHeartbeats 1500000 in
theorem spec_LinearForm_any (p x y : Int) (Ag : Option Addr) (ng cg : Nat) (Ao : Option Addr) (no co : Nat) (gs : List G3) (os : List Int) (k : Int) (w : World) (hr : RG w Ag ng gs ∧ RI w Ao no os) (hng : ng ≤ 2097152) (hno : no ≤ 2097152) :
    Calls Try.prog 29 #[.agg #[.int .i64 p, .int .i64 x, .int .i64 y, .slice Ag ng cg, .slice Ao no co], .int .i64 k] w (RetO w (linF p x y gs os k)) := by
  obtain ⟨i0, hi, hz0, hz1, hz2⟩ := info_parts info_int
  have hB : Below w.heap.size w (w.alloc (.cells #[.int .i64 p, .int .i64 x, .int .i64 y, .slice Ag ng cg, .slice Ao no co] 29)) := (Below.refl _ _).alloc (Nat.le_refl _) _
  have hlg := hr.1.len
  have hlo := hr.2.len
  have hw0 : IntKind.i64.wrap ((no : Int) - 1) = (no : Int) - 1 := IntWalk.i64_in _ (by omega)
  cases h0 : arB p x y gs os with
  | false =>
    have HR : Hid (linF p x y gs os k = none) := Lib.hid (by simp [linF, h0])
    have H0 := Lib.hid h0; clear h0
    go_enter Try.func29, Try.ntmps29
    have hq := BxA.new (p := p) (x := x) (y := y) (Ag := Ag) (ng := ng) (cg := cg) (Ao := Ao) (no := no) (co := co) w 29
    obtain ⟨k0, k1, k2, k3, k4⟩ := hq
    go_wp2_with fail
    refine wp_region_mem0 (24) [(⟨w.heap.size, 0, none⟩, .int .i64 p), (⟨w.heap.size, 1, none⟩, .int .i64 x), (⟨w.heap.size, 2, none⟩, .int .i64 y), (⟨w.heap.size, 3, none⟩, .slice Ag ng cg), (⟨w.heap.size, 4, none⟩, .slice Ao no co)] [(1, [], [])] [] [(1, Res.plain (.bool false))] (by kernel_rfl) (by kernel_rfl) (by kernel_rfl) (by simp only [CellsL, List.mem_cons, forall_eq_or_imp, List.not_mem_nil, false_implies, implies_true, and_true]; repeat (any_goals (apply And.intro)); all_goals (first | assumption | go_simp)) ?_
    simp only [List.take_succ_cons, List.take_zero, List.drop_succ_cons, List.drop_zero, List.take_nil, List.drop_nil, List.take, List.drop]
    repeat (first
      | ((with_reducible refine mem_pure0 ?_ ?_ ?_)
         · exact rfl
         · exact rfl
         intro K hK
         apply Exists.intro
         refine ⟨fun w3 hw3 => ?_, ?_⟩
         · have hcs := hw3
           simp only [CellsL, List.mem_cons, forall_eq_or_imp, List.not_mem_nil, false_implies, implies_true, and_true] at hcs
           clear hw3
           go_simp
           first | done | exact ⟨rfl, rfl⟩ | rfl
         refine hK _ ?_
         clear hK K
         try simp only [Act.put, List.setIfInBounds_toArray, List.set_cons_zero, List.set_cons_succ])
      | ((with_reducible refine mem_skip ?_ ?_ ?_)
         · exact rfl
         · exact wanted_not rfl rfl rfl rfl
         simp only [Act.put, List.setIfInBounds_toArray, List.set_cons_zero, List.set_cons_succ])
      | ((with_reducible refine mem_pure ?_ ?_ ?_)
         · exact rfl
         · exact wanted_some rfl rfl rfl rfl
         intro K hK
         apply Exists.intro
         refine ⟨fun w3 hw3 => ?_, ?_⟩
         · have hcs := hw3
           simp only [CellsL, List.mem_cons, forall_eq_or_imp, List.not_mem_nil, false_implies, implies_true, and_true] at hcs
           clear hw3
           go_simp
           first | done | exact ⟨rfl, rfl⟩ | rfl
         refine hK _ ?_
         clear hK K
         try simp only [Act.put, List.setIfInBounds_toArray, List.set_cons_zero, List.set_cons_succ]))
    focus
      (with_reducible refine mem_plain (.bool false) ?_ ?_ ?_ ?_ (hw := ?_))
      · exact rfl
      · exact rfl
      · intro w3 hw3 hc3 hp3
        have hcs := hc3
        simp only [CellsL, List.mem_cons, forall_eq_or_imp, List.not_mem_nil, false_implies, implies_true, and_true] at hcs
        (go_simp; have hb3 := hB.trans ((alt_below hw3).mono hB.size); refine (arGood_any p x y Ag ng cg Ao no co gs os _ (hr.1.below hb3 (Nat.le_refl _)) (hr.2.below hb3 (Nat.le_refl _)) hng hno).mono ?_; rintro e w4 ⟨he, hb4⟩; rw [H0.out] at he; obtain rfl := he; exact retPost.mk_ (postPlain.mk_ hb4))
      rotate_left
      · first | exact wanted_none rfl | exact wanted_some rfl rfl rfl rfl
      try simp only [Act.put, List.setIfInBounds_toArray, List.set_cons_zero, List.set_cons_succ]
    repeat (first
      | ((with_reducible refine mem_pure0 ?_ ?_ ?_)
         · exact rfl
         · exact rfl
         intro K hK
         apply Exists.intro
         refine ⟨fun w3 hw3 => ?_, ?_⟩
         · have hcs := hw3
           simp only [CellsL, List.mem_cons, forall_eq_or_imp, List.not_mem_nil, false_implies, implies_true, and_true] at hcs
           clear hw3
           go_simp
           first | done | exact ⟨rfl, rfl⟩ | rfl
         refine hK _ ?_
         clear hK K
         try simp only [Act.put, List.setIfInBounds_toArray, List.set_cons_zero, List.set_cons_succ])
      | ((with_reducible refine mem_skip ?_ ?_ ?_)
         · exact rfl
         · exact wanted_not rfl rfl rfl rfl
         simp only [Act.put, List.setIfInBounds_toArray, List.set_cons_zero, List.set_cons_succ])
      | ((with_reducible refine mem_pure ?_ ?_ ?_)
         · exact rfl
         · exact wanted_some rfl rfl rfl rfl
         intro K hK
         apply Exists.intro
         refine ⟨fun w3 hw3 => ?_, ?_⟩
         · have hcs := hw3
           simp only [CellsL, List.mem_cons, forall_eq_or_imp, List.not_mem_nil, false_implies, implies_true, and_true] at hcs
           clear hw3
           go_simp
           first | done | exact ⟨rfl, rfl⟩ | rfl
         refine hK _ ?_
         clear hK K
         try simp only [Act.put, List.setIfInBounds_toArray, List.set_cons_zero, List.set_cons_succ]))
    refine wpSep_end ?_
    intro wt hwt hct hfin hap
    go_wp2
    go_ret2
    exact RetO.none_ (hB.trans ((alt_below hwt).mono hB.size)) HR.out rfl
  | true =>
    cases hk : inB 0 ((no : Int) - 1) k with
    | false =>
      have HR : Hid (linF p x y gs os k = none) := Lib.hid (by simp [linF, hlo, hk])
      have H0 := Lib.hid h0; have HK := Lib.hid hk; clear h0 hk
      go_enter Try.func29, Try.ntmps29
      have hq := BxA.new (p := p) (x := x) (y := y) (Ag := Ag) (ng := ng) (cg := cg) (Ao := Ao) (no := no) (co := co) w 29
      obtain ⟨k0, k1, k2, k3, k4⟩ := hq
      go_wp2_with fail
      refine wp_region_mem0 (24) [(⟨w.heap.size, 0, none⟩, .int .i64 p), (⟨w.heap.size, 1, none⟩, .int .i64 x), (⟨w.heap.size, 2, none⟩, .int .i64 y), (⟨w.heap.size, 3, none⟩, .slice Ag ng cg), (⟨w.heap.size, 4, none⟩, .slice Ao no co)] [(1, [], []), (9, [], [])] [] [(1, Res.plain (.bool true)), (9, Res.plain (.bool false))] (by kernel_rfl) (by kernel_rfl) (by kernel_rfl) (by simp only [CellsL, List.mem_cons, forall_eq_or_imp, List.not_mem_nil, false_implies, implies_true, and_true]; repeat (any_goals (apply And.intro)); all_goals (first | assumption | go_simp)) ?_
      simp only [List.take_succ_cons, List.take_zero, List.drop_succ_cons, List.drop_zero, List.take_nil, List.drop_nil, List.take, List.drop]
      repeat (first
        | ((with_reducible refine mem_pure0 ?_ ?_ ?_)
           · exact rfl
           · exact rfl
           intro K hK
           apply Exists.intro
           refine ⟨fun w3 hw3 => ?_, ?_⟩
           · have hcs := hw3
             simp only [CellsL, List.mem_cons, forall_eq_or_imp, List.not_mem_nil, false_implies, implies_true, and_true] at hcs
             clear hw3
             go_simp
             first | done | exact ⟨rfl, rfl⟩ | rfl
           refine hK _ ?_
           clear hK K
           try simp only [Act.put, List.setIfInBounds_toArray, List.set_cons_zero, List.set_cons_succ])
        | ((with_reducible refine mem_skip ?_ ?_ ?_)
           · exact rfl
           · exact wanted_not rfl rfl rfl rfl
           simp only [Act.put, List.setIfInBounds_toArray, List.set_cons_zero, List.set_cons_succ])
        | ((with_reducible refine mem_pure ?_ ?_ ?_)
           · exact rfl
           · exact wanted_some rfl rfl rfl rfl
           intro K hK
           apply Exists.intro
           refine ⟨fun w3 hw3 => ?_, ?_⟩
           · have hcs := hw3
             simp only [CellsL, List.mem_cons, forall_eq_or_imp, List.not_mem_nil, false_implies, implies_true, and_true] at hcs
             clear hw3
             go_simp
             first | done | exact ⟨rfl, rfl⟩ | rfl
           refine hK _ ?_
           clear hK K
           try simp only [Act.put, List.setIfInBounds_toArray, List.set_cons_zero, List.set_cons_succ]))
      focus
        (with_reducible refine mem_plain (.bool true) ?_ ?_ ?_ ?_ (hw := ?_))
        · exact rfl
        · exact rfl
        · intro w3 hw3 hc3 hp3
          have hcs := hc3
          simp only [CellsL, List.mem_cons, forall_eq_or_imp, List.not_mem_nil, false_implies, implies_true, and_true] at hcs
          (go_simp; have hb3 := hB.trans ((alt_below hw3).mono hB.size); refine (arGood_any p x y Ag ng cg Ao no co gs os _ (hr.1.below hb3 (Nat.le_refl _)) (hr.2.below hb3 (Nat.le_refl _)) hng hno).mono ?_; rintro e w4 ⟨he, hb4⟩; rw [H0.out] at he; obtain rfl := he; exact retPost.mk_ (postPlain.mk_ hb4))
        rotate_left
        · first | exact wanted_none rfl | exact wanted_some rfl rfl rfl rfl
        try simp only [Act.put, List.setIfInBounds_toArray, List.set_cons_zero, List.set_cons_succ]
      repeat (first
        | ((with_reducible refine mem_pure0 ?_ ?_ ?_)
           · exact rfl
           · exact rfl
           intro K hK
           apply Exists.intro
           refine ⟨fun w3 hw3 => ?_, ?_⟩
           · have hcs := hw3
             simp only [CellsL, List.mem_cons, forall_eq_or_imp, List.not_mem_nil, false_implies, implies_true, and_true] at hcs
             clear hw3
             go_simp
             first | done | exact ⟨rfl, rfl⟩ | rfl
           refine hK _ ?_
           clear hK K
           try simp only [Act.put, List.setIfInBounds_toArray, List.set_cons_zero, List.set_cons_succ])
        | ((with_reducible refine mem_skip ?_ ?_ ?_)
           · exact rfl
           · exact wanted_not rfl rfl rfl rfl
           simp only [Act.put, List.setIfInBounds_toArray, List.set_cons_zero, List.set_cons_succ])
        | ((with_reducible refine mem_pure ?_ ?_ ?_)
           · exact rfl
           · exact wanted_some rfl rfl rfl rfl
           intro K hK
           apply Exists.intro
           refine ⟨fun w3 hw3 => ?_, ?_⟩
           · have hcs := hw3
             simp only [CellsL, List.mem_cons, forall_eq_or_imp, List.not_mem_nil, false_implies, implies_true, and_true] at hcs
             clear hw3
             go_simp
             first | done | exact ⟨rfl, rfl⟩ | rfl
           refine hK _ ?_
           clear hK K
           try simp only [Act.put, List.setIfInBounds_toArray, List.set_cons_zero, List.set_cons_succ]))
      focus
        (with_reducible refine mem_plain (.bool false) ?_ ?_ ?_ ?_ (hw := ?_))
        · exact rfl
        · exact rfl
        · intro w3 hw3 hc3 hp3
          have hcs := hc3
          simp only [CellsL, List.mem_cons, forall_eq_or_imp, List.not_mem_nil, false_implies, implies_true, and_true] at hcs
          (go_simp; refine (l1In_any k 0 ((no : Int) - 1) _ rfl _).mono ?_; rintro e w9 ⟨he, rfl⟩; rw [HK.out] at he; obtain rfl := he; exact retPost.mk_ (postPlain.mk_ (Below.refl _ _)))
        rotate_left
        · first | exact wanted_none rfl | exact wanted_some rfl rfl rfl rfl
        try simp only [Act.put, List.setIfInBounds_toArray, List.set_cons_zero, List.set_cons_succ]
      repeat (first
        | ((with_reducible refine mem_pure0 ?_ ?_ ?_)
           · exact rfl
           · exact rfl
           intro K hK
           apply Exists.intro
           refine ⟨fun w3 hw3 => ?_, ?_⟩
           · have hcs := hw3
             simp only [CellsL, List.mem_cons, forall_eq_or_imp, List.not_mem_nil, false_implies, implies_true, and_true] at hcs
             clear hw3
             go_simp
             first | done | exact ⟨rfl, rfl⟩ | rfl
           refine hK _ ?_
           clear hK K
           try simp only [Act.put, List.setIfInBounds_toArray, List.set_cons_zero, List.set_cons_succ])
        | ((with_reducible refine mem_skip ?_ ?_ ?_)
           · exact rfl
           · exact wanted_not rfl rfl rfl rfl
           simp only [Act.put, List.setIfInBounds_toArray, List.set_cons_zero, List.set_cons_succ])
        | ((with_reducible refine mem_pure ?_ ?_ ?_)
           · exact rfl
           · exact wanted_some rfl rfl rfl rfl
           intro K hK
           apply Exists.intro
           refine ⟨fun w3 hw3 => ?_, ?_⟩
           · have hcs := hw3
             simp only [CellsL, List.mem_cons, forall_eq_or_imp, List.not_mem_nil, false_implies, implies_true, and_true] at hcs
             clear hw3
             go_simp
             first | done | exact ⟨rfl, rfl⟩ | rfl
           refine hK _ ?_
           clear hK K
           try simp only [Act.put, List.setIfInBounds_toArray, List.set_cons_zero, List.set_cons_succ]))
      refine wpSep_end ?_
      intro wt hwt hct hfin hap
      go_wp2
      go_ret2
      exact RetO.none_ (hB.trans ((alt_below hwt).mono hB.size)) HR.out rfl
    | true =>
      obtain ⟨b1, b2, b3, b4, b5, b6, b7⟩ := arB_bd h0
      have hp := primeB_bd b1
      have hx : 0 ≤ x ∧ x ≤ 8 := b2
      have hy : 0 ≤ y ∧ y ≤ 8 := b3
      obtain ⟨X, hX⟩ : ∃ X : Nat, x + y = X := ⟨(x + y).toNat, by omega⟩
      have hXt : (x + y).toNat = X := by omega
      have hkb0 := inB_iff.1 hk
      obtain ⟨K, rfl⟩ : ∃ K : Nat, k = K := ⟨k.toNat, by omega⟩
      have hKn : K < no := by omega
      rw [hX, hlg] at b6 b7
      have hgat := b6
      have hob := allB_gi b7 (j := K) (by omega)
      obtain ⟨o, hoe⟩ : ∃ o : Nat, Hid (gi os K = o) := ⟨(gi os K).toNat, Lib.hid (by omega)⟩
      rw [hoe.out] at hob
      have hoX : o < X + ng := by omega
      have hX16 : X ≤ 16 := by omega
      obtain ⟨D, hDe⟩ : ∃ D, Hid (gi (degs 2000000 gs X ng) o = D) := ⟨_, Lib.hid rfl⟩
      have HF : Hid (linF p x y gs os K = if D ≤ 1 then some (linL p gs X o X) else none) := Lib.hid (by
        rw [← hDe.out]; unfold linF; rw [h0, hXt, hlg, hlo, hk]; simp only [Int.toNat_natCast, hoe.out, Bool.true_and]
        simp only [decide_eq_true_eq])
      have H0 := Lib.hid h0; have HK := Lib.hid hk
      have hll := degs_len 2000000 gs X ng
      clear h0 hk b1 b6 b7 hob hkb0
      obtain ⟨kb, ob, rfl, hkb, hcs⟩ := (hr.2.below hB (Nat.le_refl _)).2 (by omega)
      have ce := hcs K (by omega)
      rw [hoe.out] at ce
      clear hcs hkb
      by_cases hD : D ≤ 1
      rotate_left
      · have HR : Hid (linF p x y gs os K = none) := Lib.hid (by rw [HF.out, if_neg hD])
        go_enter Try.func29, Try.ntmps29
        have hq := BxA.new (p := p) (x := x) (y := y) (Ag := Ag) (ng := ng) (cg := cg) (Ao := some ⟨kb, ob, none⟩) (no := no) (co := co) w 29
        obtain ⟨k0, k1, k2, k3, k4⟩ := hq
        have hsA : (w.alloc (.cells #[.int .i64 p, .int .i64 x, .int .i64 y, .slice Ag ng cg, .slice (some ⟨kb, ob, none⟩) no co] 29)).heap.size = w.heap.size + 1 := by simp
        have hK0 : (0 : Int) ≤ K := by omega
        have hK1 : (K : Int) < no := by omega
        have ho0 : (0 : Int) ≤ o := by omega
        have ho1 : (o : Int) < ((X + ng : Nat) : Int) := by omega
        have ho2 : (o : Int) < (X : Int) + (ng : Int) := by omega
        go_wp2_with fail
        refine wp_region_mem0 (24) [(⟨w.heap.size, 0, none⟩, .int .i64 p), (⟨w.heap.size, 1, none⟩, .int .i64 x), (⟨w.heap.size, 2, none⟩, .int .i64 y), (⟨w.heap.size, 3, none⟩, .slice Ag ng cg), (⟨w.heap.size, 4, none⟩, .slice (some ⟨kb, ob, none⟩) no co), (⟨kb, ob + K, none⟩, .int .i64 o)] [(1, [], []), (9, [], []), (14, [], []), (21, [14], [])] [] [(1, Res.plain (.bool true)), (9, Res.plain (.bool true)), (14, Res.rowS (w.heap.size + 1) (X + ng) (degs 2000000 gs X ng)), (21, Res.plain (.int .i64 D))] (by kernel_rfl) (by kernel_rfl) (by kernel_rfl) (by simp only [CellsL, List.mem_cons, forall_eq_or_imp, List.not_mem_nil, false_implies, implies_true, and_true]; repeat (any_goals (apply And.intro)); all_goals (first | assumption | go_simp)) ?_
        simp only [List.take_succ_cons, List.take_zero, List.drop_succ_cons, List.drop_zero, List.take_nil, List.drop_nil, List.take, List.drop]
        repeat (first
          | ((with_reducible refine mem_pure0 ?_ ?_ ?_)
             · exact rfl
             · exact rfl
             intro K hK
             apply Exists.intro
             refine ⟨fun w3 hw3 => ?_, ?_⟩
             · have hcs := hw3
               simp only [CellsL, List.mem_cons, forall_eq_or_imp, List.not_mem_nil, false_implies, implies_true, and_true] at hcs
               clear hw3
               go_simp
               first | done | exact ⟨rfl, rfl⟩ | rfl
             refine hK _ ?_
             clear hK K
             try simp only [Act.put, List.setIfInBounds_toArray, List.set_cons_zero, List.set_cons_succ])
          | ((with_reducible refine mem_skip ?_ ?_ ?_)
             · exact rfl
             · exact wanted_not rfl rfl rfl rfl
             simp only [Act.put, List.setIfInBounds_toArray, List.set_cons_zero, List.set_cons_succ])
          | ((with_reducible refine mem_pure ?_ ?_ ?_)
             · exact rfl
             · exact wanted_some rfl rfl rfl rfl
             intro K hK
             apply Exists.intro
             refine ⟨fun w3 hw3 => ?_, ?_⟩
             · have hcs := hw3
               simp only [CellsL, List.mem_cons, forall_eq_or_imp, List.not_mem_nil, false_implies, implies_true, and_true] at hcs
               clear hw3
               go_simp
               first | done | exact ⟨rfl, rfl⟩ | rfl
             refine hK _ ?_
             clear hK K
             try simp only [Act.put, List.setIfInBounds_toArray, List.set_cons_zero, List.set_cons_succ]))
        focus
          (with_reducible refine mem_plain (.bool true) ?_ ?_ ?_ ?_ (hw := ?_))
          · exact rfl
          · exact rfl
          · intro w3 hw3 hc3 hp3
            have hcs := hc3
            simp only [CellsL, List.mem_cons, forall_eq_or_imp, List.not_mem_nil, false_implies, implies_true, and_true] at hcs
            (go_simp; have hb3 := hB.trans ((alt_below hw3).mono hB.size); refine (arGood_any p x y Ag ng cg (some ⟨kb, ob, none⟩) no co gs os _ (hr.1.below hb3 (Nat.le_refl _)) (hr.2.below hb3 (Nat.le_refl _)) hng hno).mono ?_; rintro e w4 ⟨he, hb4⟩; rw [H0.out] at he; obtain rfl := he; exact retPost.mk_ (postPlain.mk_ hb4))
          rotate_left
          · first | exact wanted_none rfl | exact wanted_some rfl rfl rfl rfl
          try simp only [Act.put, List.setIfInBounds_toArray, List.set_cons_zero, List.set_cons_succ]
        repeat (first
          | ((with_reducible refine mem_pure0 ?_ ?_ ?_)
             · exact rfl
             · exact rfl
             intro K hK
             apply Exists.intro
             refine ⟨fun w3 hw3 => ?_, ?_⟩
             · have hcs := hw3
               simp only [CellsL, List.mem_cons, forall_eq_or_imp, List.not_mem_nil, false_implies, implies_true, and_true] at hcs
               clear hw3
               go_simp
               first | done | exact ⟨rfl, rfl⟩ | rfl
             refine hK _ ?_
             clear hK K
             try simp only [Act.put, List.setIfInBounds_toArray, List.set_cons_zero, List.set_cons_succ])
          | ((with_reducible refine mem_skip ?_ ?_ ?_)
             · exact rfl
             · exact wanted_not rfl rfl rfl rfl
             simp only [Act.put, List.setIfInBounds_toArray, List.set_cons_zero, List.set_cons_succ])
          | ((with_reducible refine mem_pure ?_ ?_ ?_)
             · exact rfl
             · exact wanted_some rfl rfl rfl rfl
             intro K hK
             apply Exists.intro
             refine ⟨fun w3 hw3 => ?_, ?_⟩
             · have hcs := hw3
               simp only [CellsL, List.mem_cons, forall_eq_or_imp, List.not_mem_nil, false_implies, implies_true, and_true] at hcs
               clear hw3
               go_simp
               first | done | exact ⟨rfl, rfl⟩ | rfl
             refine hK _ ?_
             clear hK K
             try simp only [Act.put, List.setIfInBounds_toArray, List.set_cons_zero, List.set_cons_succ]))
        focus
          (with_reducible refine mem_plain (.bool true) ?_ ?_ ?_ ?_ (hw := ?_))
          · exact rfl
          · exact rfl
          · intro w3 hw3 hc3 hp3
            have hcs := hc3
            simp only [CellsL, List.mem_cons, forall_eq_or_imp, List.not_mem_nil, false_implies, implies_true, and_true] at hcs
            (go_simp; refine (l1In_any (K : Int) 0 ((no : Int) - 1) _ rfl _).mono ?_; rintro e w9 ⟨he, rfl⟩; rw [HK.out] at he; obtain rfl := he; exact retPost.mk_ (postPlain.mk_ (Below.refl _ _)))
          rotate_left
          · first | exact wanted_none rfl | exact wanted_some rfl rfl rfl rfl
          try simp only [Act.put, List.setIfInBounds_toArray, List.set_cons_zero, List.set_cons_succ]
        repeat (first
          | ((with_reducible refine mem_pure0 ?_ ?_ ?_)
             · exact rfl
             · exact rfl
             intro K hK
             apply Exists.intro
             refine ⟨fun w3 hw3 => ?_, ?_⟩
             · have hcs := hw3
               simp only [CellsL, List.mem_cons, forall_eq_or_imp, List.not_mem_nil, false_implies, implies_true, and_true] at hcs
               clear hw3
               go_simp
               first | done | exact ⟨rfl, rfl⟩ | rfl
             refine hK _ ?_
             clear hK K
             try simp only [Act.put, List.setIfInBounds_toArray, List.set_cons_zero, List.set_cons_succ])
          | ((with_reducible refine mem_skip ?_ ?_ ?_)
             · exact rfl
             · exact wanted_not rfl rfl rfl rfl
             simp only [Act.put, List.setIfInBounds_toArray, List.set_cons_zero, List.set_cons_succ])
          | ((with_reducible refine mem_pure ?_ ?_ ?_)
             · exact rfl
             · exact wanted_some rfl rfl rfl rfl
             intro K hK
             apply Exists.intro
             refine ⟨fun w3 hw3 => ?_, ?_⟩
             · have hcs := hw3
               simp only [CellsL, List.mem_cons, forall_eq_or_imp, List.not_mem_nil, false_implies, implies_true, and_true] at hcs
               clear hw3
               go_simp
               first | done | exact ⟨rfl, rfl⟩ | rfl
             refine hK _ ?_
             clear hK K
             try simp only [Act.put, List.setIfInBounds_toArray, List.set_cons_zero, List.set_cons_succ]))
        focus
          (with_reducible refine mem_rowS (w.heap.size + 1) (X + ng) (degs 2000000 gs X ng) ?_ ?_ ?_ ?_ ?_ ?_ (hw := ?_))
          · exact rfl
          · exact rfl
          · omega
          · omega
          · intro w3 hw3 hc3 hp3
            have hcs := hc3
            simp only [CellsL, List.mem_cons, forall_eq_or_imp, List.not_mem_nil, false_implies, implies_true, and_true] at hcs
            (go_simp; have hb3 := hB.trans ((alt_below hw3).mono hB.size); refine (arDegrees_any p x y Ag ng cg (some ⟨kb, ob, none⟩) no co X gs _ (hr.1.below hb3 (Nat.le_refl _)) hx hy hX hgat (by omega)).mono ?_; rintro e w4 hT; obtain ⟨A4, c4, rfl, ho4, hb4⟩ := hT.open_ hll; exact retPost.mk_ (postRow.mk_ ho4 hb4))
          rotate_left
          · first | exact wanted_none rfl | exact wanted_some rfl rfl rfl rfl
          intro g2 c2
          try simp only [Act.put, List.setIfInBounds_toArray, List.set_cons_zero, List.set_cons_succ]
        repeat (first
          | ((with_reducible refine mem_pure0 ?_ ?_ ?_)
             · exact rfl
             · exact rfl
             intro K hK
             apply Exists.intro
             refine ⟨fun w3 hw3 => ?_, ?_⟩
             · have hcs := hw3
               simp only [CellsL, List.mem_cons, forall_eq_or_imp, List.not_mem_nil, false_implies, implies_true, and_true] at hcs
               clear hw3
               go_simp
               first | done | exact ⟨rfl, rfl⟩ | rfl
             refine hK _ ?_
             clear hK K
             try simp only [Act.put, List.setIfInBounds_toArray, List.set_cons_zero, List.set_cons_succ])
          | ((with_reducible refine mem_skip ?_ ?_ ?_)
             · exact rfl
             · exact wanted_not rfl rfl rfl rfl
             simp only [Act.put, List.setIfInBounds_toArray, List.set_cons_zero, List.set_cons_succ])
          | ((with_reducible refine mem_pure ?_ ?_ ?_)
             · exact rfl
             · exact wanted_some rfl rfl rfl rfl
             intro K hK
             apply Exists.intro
             refine ⟨fun w3 hw3 => ?_, ?_⟩
             · have hcs := hw3
               simp only [CellsL, List.mem_cons, forall_eq_or_imp, List.not_mem_nil, false_implies, implies_true, and_true] at hcs
               clear hw3
               go_simp
               first | done | exact ⟨rfl, rfl⟩ | rfl
             refine hK _ ?_
             clear hK K
             try simp only [Act.put, List.setIfInBounds_toArray, List.set_cons_zero, List.set_cons_succ]))
        focus
          (with_reducible refine mem_plain (.int .i64 D) ?_ ?_ ?_ ?_ (hw := ?_))
          · exact rfl
          · exact rfl
          · intro w3 hw3 hc3 hp3
            have hcs := hc3
            simp only [CellsL, List.mem_cons, forall_eq_or_imp, List.not_mem_nil, false_implies, implies_true, and_true] at hcs
            (have h14 : Own w3 (w.heap.size + 1) w3.heap.size (.slice (some ⟨g2, 0, none⟩) (X + ng) c2) (X + ng) (degs 2000000 gs X ng) := hp3.1.1.1; obtain ⟨e2, _⟩ := h14.cellAt (k := o) (by omega); rw [hDe.out] at e2; go_simp; exact postPlain.mk_ (Below.refl _ _))
          rotate_left
          · first | exact wanted_none rfl | exact wanted_some rfl rfl rfl rfl
          try simp only [Act.put, List.setIfInBounds_toArray, List.set_cons_zero, List.set_cons_succ]
        repeat (first
          | ((with_reducible refine mem_pure0 ?_ ?_ ?_)
             · exact rfl
             · exact rfl
             intro K hK
             apply Exists.intro
             refine ⟨fun w3 hw3 => ?_, ?_⟩
             · have hcs := hw3
               simp only [CellsL, List.mem_cons, forall_eq_or_imp, List.not_mem_nil, false_implies, implies_true, and_true] at hcs
               clear hw3
               go_simp
               first | done | exact ⟨rfl, rfl⟩ | rfl
             refine hK _ ?_
             clear hK K
             try simp only [Act.put, List.setIfInBounds_toArray, List.set_cons_zero, List.set_cons_succ])
          | ((with_reducible refine mem_skip ?_ ?_ ?_)
             · exact rfl
             · exact wanted_not rfl rfl rfl rfl
             simp only [Act.put, List.setIfInBounds_toArray, List.set_cons_zero, List.set_cons_succ])
          | ((with_reducible refine mem_pure ?_ ?_ ?_)
             · exact rfl
             · exact wanted_some rfl rfl rfl rfl
             intro K hK
             apply Exists.intro
             refine ⟨fun w3 hw3 => ?_, ?_⟩
             · have hcs := hw3
               simp only [CellsL, List.mem_cons, forall_eq_or_imp, List.not_mem_nil, false_implies, implies_true, and_true] at hcs
               clear hw3
               go_simp
               first | done | exact ⟨rfl, rfl⟩ | rfl
             refine hK _ ?_
             clear hK K
             try simp only [Act.put, List.setIfInBounds_toArray, List.set_cons_zero, List.set_cons_succ]))
        refine wpSep_end ?_
        intro w2 hw2 hct hfin hap
        have hbx2 := alt_below hw2
        have hB2 := hB.trans (hbx2.mono hB.size)
        clear k0 k1 k2 k3 k4 ce hfin hap hct hw2
        go_wp2
        go_ret2
        exact RetO.none_ hB2 HR.out rfl
      · have HR : Hid (linF p x y gs os K = some (linL p gs X o X)) := Lib.hid (by rw [HF.out, if_pos hD])
        have hD' : ¬ 1 < D := by omega
        go_enter Try.func29, Try.ntmps29
        have hq := BxA.new (p := p) (x := x) (y := y) (Ag := Ag) (ng := ng) (cg := cg) (Ao := some ⟨kb, ob, none⟩) (no := no) (co := co) w 29
        obtain ⟨k0, k1, k2, k3, k4⟩ := hq
        have hsA : (w.alloc (.cells #[.int .i64 p, .int .i64 x, .int .i64 y, .slice Ag ng cg, .slice (some ⟨kb, ob, none⟩) no co] 29)).heap.size = w.heap.size + 1 := by simp
        have hK0 : (0 : Int) ≤ K := by omega
        have hK1 : (K : Int) < no := by omega
        have ho0 : (0 : Int) ≤ o := by omega
        have ho1 : (o : Int) < ((X + ng : Nat) : Int) := by omega
        have ho2 : (o : Int) < (X : Int) + (ng : Int) := by omega
        go_wp2_with fail
        refine wp_region_mem0 (24) [(⟨w.heap.size, 0, none⟩, .int .i64 p), (⟨w.heap.size, 1, none⟩, .int .i64 x), (⟨w.heap.size, 2, none⟩, .int .i64 y), (⟨w.heap.size, 3, none⟩, .slice Ag ng cg), (⟨w.heap.size, 4, none⟩, .slice (some ⟨kb, ob, none⟩) no co), (⟨kb, ob + K, none⟩, .int .i64 o)] [(1, [], []), (9, [], []), (14, [], []), (21, [14], [])] [] [(1, Res.plain (.bool true)), (9, Res.plain (.bool true)), (14, Res.rowS (w.heap.size + 1) (X + ng) (degs 2000000 gs X ng)), (21, Res.plain (.int .i64 D))] (by kernel_rfl) (by kernel_rfl) (by kernel_rfl) (by simp only [CellsL, List.mem_cons, forall_eq_or_imp, List.not_mem_nil, false_implies, implies_true, and_true]; repeat (any_goals (apply And.intro)); all_goals (first | assumption | go_simp)) ?_
        simp only [List.take_succ_cons, List.take_zero, List.drop_succ_cons, List.drop_zero, List.take_nil, List.drop_nil, List.take, List.drop]
        repeat (first
          | ((with_reducible refine mem_pure0 ?_ ?_ ?_)
             · exact rfl
             · exact rfl
             intro K hK
             apply Exists.intro
             refine ⟨fun w3 hw3 => ?_, ?_⟩
             · have hcs := hw3
               simp only [CellsL, List.mem_cons, forall_eq_or_imp, List.not_mem_nil, false_implies, implies_true, and_true] at hcs
               clear hw3
               go_simp
               first | done | exact ⟨rfl, rfl⟩ | rfl
             refine hK _ ?_
             clear hK K
             try simp only [Act.put, List.setIfInBounds_toArray, List.set_cons_zero, List.set_cons_succ])
          | ((with_reducible refine mem_skip ?_ ?_ ?_)
             · exact rfl
             · exact wanted_not rfl rfl rfl rfl
             simp only [Act.put, List.setIfInBounds_toArray, List.set_cons_zero, List.set_cons_succ])
          | ((with_reducible refine mem_pure ?_ ?_ ?_)
             · exact rfl
             · exact wanted_some rfl rfl rfl rfl
             intro K hK
             apply Exists.intro
             refine ⟨fun w3 hw3 => ?_, ?_⟩
             · have hcs := hw3
               simp only [CellsL, List.mem_cons, forall_eq_or_imp, List.not_mem_nil, false_implies, implies_true, and_true] at hcs
               clear hw3
               go_simp
               first | done | exact ⟨rfl, rfl⟩ | rfl
             refine hK _ ?_
             clear hK K
             try simp only [Act.put, List.setIfInBounds_toArray, List.set_cons_zero, List.set_cons_succ]))
        focus
          (with_reducible refine mem_plain (.bool true) ?_ ?_ ?_ ?_ (hw := ?_))
          · exact rfl
          · exact rfl
          · intro w3 hw3 hc3 hp3
            have hcs := hc3
            simp only [CellsL, List.mem_cons, forall_eq_or_imp, List.not_mem_nil, false_implies, implies_true, and_true] at hcs
            (go_simp; have hb3 := hB.trans ((alt_below hw3).mono hB.size); refine (arGood_any p x y Ag ng cg (some ⟨kb, ob, none⟩) no co gs os _ (hr.1.below hb3 (Nat.le_refl _)) (hr.2.below hb3 (Nat.le_refl _)) hng hno).mono ?_; rintro e w4 ⟨he, hb4⟩; rw [H0.out] at he; obtain rfl := he; exact retPost.mk_ (postPlain.mk_ hb4))
          rotate_left
          · first | exact wanted_none rfl | exact wanted_some rfl rfl rfl rfl
          try simp only [Act.put, List.setIfInBounds_toArray, List.set_cons_zero, List.set_cons_succ]
        repeat (first
          | ((with_reducible refine mem_pure0 ?_ ?_ ?_)
             · exact rfl
             · exact rfl
             intro K hK
             apply Exists.intro
             refine ⟨fun w3 hw3 => ?_, ?_⟩
             · have hcs := hw3
               simp only [CellsL, List.mem_cons, forall_eq_or_imp, List.not_mem_nil, false_implies, implies_true, and_true] at hcs
               clear hw3
               go_simp
               first | done | exact ⟨rfl, rfl⟩ | rfl
             refine hK _ ?_
             clear hK K
             try simp only [Act.put, List.setIfInBounds_toArray, List.set_cons_zero, List.set_cons_succ])
          | ((with_reducible refine mem_skip ?_ ?_ ?_)
             · exact rfl
             · exact wanted_not rfl rfl rfl rfl
             simp only [Act.put, List.setIfInBounds_toArray, List.set_cons_zero, List.set_cons_succ])
          | ((with_reducible refine mem_pure ?_ ?_ ?_)
             · exact rfl
             · exact wanted_some rfl rfl rfl rfl
             intro K hK
             apply Exists.intro
             refine ⟨fun w3 hw3 => ?_, ?_⟩
             · have hcs := hw3
               simp only [CellsL, List.mem_cons, forall_eq_or_imp, List.not_mem_nil, false_implies, implies_true, and_true] at hcs
               clear hw3
               go_simp
               first | done | exact ⟨rfl, rfl⟩ | rfl
             refine hK _ ?_
             clear hK K
             try simp only [Act.put, List.setIfInBounds_toArray, List.set_cons_zero, List.set_cons_succ]))
        focus
          (with_reducible refine mem_plain (.bool true) ?_ ?_ ?_ ?_ (hw := ?_))
          · exact rfl
          · exact rfl
          · intro w3 hw3 hc3 hp3
            have hcs := hc3
            simp only [CellsL, List.mem_cons, forall_eq_or_imp, List.not_mem_nil, false_implies, implies_true, and_true] at hcs
            (go_simp; refine (l1In_any (K : Int) 0 ((no : Int) - 1) _ rfl _).mono ?_; rintro e w9 ⟨he, rfl⟩; rw [HK.out] at he; obtain rfl := he; exact retPost.mk_ (postPlain.mk_ (Below.refl _ _)))
          rotate_left
          · first | exact wanted_none rfl | exact wanted_some rfl rfl rfl rfl
          try simp only [Act.put, List.setIfInBounds_toArray, List.set_cons_zero, List.set_cons_succ]
        repeat (first
          | ((with_reducible refine mem_pure0 ?_ ?_ ?_)
             · exact rfl
             · exact rfl
             intro K hK
             apply Exists.intro
             refine ⟨fun w3 hw3 => ?_, ?_⟩
             · have hcs := hw3
               simp only [CellsL, List.mem_cons, forall_eq_or_imp, List.not_mem_nil, false_implies, implies_true, and_true] at hcs
               clear hw3
               go_simp
               first | done | exact ⟨rfl, rfl⟩ | rfl
             refine hK _ ?_
             clear hK K
             try simp only [Act.put, List.setIfInBounds_toArray, List.set_cons_zero, List.set_cons_succ])
          | ((with_reducible refine mem_skip ?_ ?_ ?_)
             · exact rfl
             · exact wanted_not rfl rfl rfl rfl
             simp only [Act.put, List.setIfInBounds_toArray, List.set_cons_zero, List.set_cons_succ])
          | ((with_reducible refine mem_pure ?_ ?_ ?_)
             · exact rfl
             · exact wanted_some rfl rfl rfl rfl
             intro K hK
             apply Exists.intro
             refine ⟨fun w3 hw3 => ?_, ?_⟩
             · have hcs := hw3
               simp only [CellsL, List.mem_cons, forall_eq_or_imp, List.not_mem_nil, false_implies, implies_true, and_true] at hcs
               clear hw3
               go_simp
               first | done | exact ⟨rfl, rfl⟩ | rfl
             refine hK _ ?_
             clear hK K
             try simp only [Act.put, List.setIfInBounds_toArray, List.set_cons_zero, List.set_cons_succ]))
        focus
          (with_reducible refine mem_rowS (w.heap.size + 1) (X + ng) (degs 2000000 gs X ng) ?_ ?_ ?_ ?_ ?_ ?_ (hw := ?_))
          · exact rfl
          · exact rfl
          · omega
          · omega
          · intro w3 hw3 hc3 hp3
            have hcs := hc3
            simp only [CellsL, List.mem_cons, forall_eq_or_imp, List.not_mem_nil, false_implies, implies_true, and_true] at hcs
            (go_simp; have hb3 := hB.trans ((alt_below hw3).mono hB.size); refine (arDegrees_any p x y Ag ng cg (some ⟨kb, ob, none⟩) no co X gs _ (hr.1.below hb3 (Nat.le_refl _)) hx hy hX hgat (by omega)).mono ?_; rintro e w4 hT; obtain ⟨A4, c4, rfl, ho4, hb4⟩ := hT.open_ hll; exact retPost.mk_ (postRow.mk_ ho4 hb4))
          rotate_left
          · first | exact wanted_none rfl | exact wanted_some rfl rfl rfl rfl
          intro g2 c2
          try simp only [Act.put, List.setIfInBounds_toArray, List.set_cons_zero, List.set_cons_succ]
        repeat (first
          | ((with_reducible refine mem_pure0 ?_ ?_ ?_)
             · exact rfl
             · exact rfl
             intro K hK
             apply Exists.intro
             refine ⟨fun w3 hw3 => ?_, ?_⟩
             · have hcs := hw3
               simp only [CellsL, List.mem_cons, forall_eq_or_imp, List.not_mem_nil, false_implies, implies_true, and_true] at hcs
               clear hw3
               go_simp
               first | done | exact ⟨rfl, rfl⟩ | rfl
             refine hK _ ?_
             clear hK K
             try simp only [Act.put, List.setIfInBounds_toArray, List.set_cons_zero, List.set_cons_succ])
          | ((with_reducible refine mem_skip ?_ ?_ ?_)
             · exact rfl
             · exact wanted_not rfl rfl rfl rfl
             simp only [Act.put, List.setIfInBounds_toArray, List.set_cons_zero, List.set_cons_succ])
          | ((with_reducible refine mem_pure ?_ ?_ ?_)
             · exact rfl
             · exact wanted_some rfl rfl rfl rfl
             intro K hK
             apply Exists.intro
             refine ⟨fun w3 hw3 => ?_, ?_⟩
             · have hcs := hw3
               simp only [CellsL, List.mem_cons, forall_eq_or_imp, List.not_mem_nil, false_implies, implies_true, and_true] at hcs
               clear hw3
               go_simp
               first | done | exact ⟨rfl, rfl⟩ | rfl
             refine hK _ ?_
             clear hK K
             try simp only [Act.put, List.setIfInBounds_toArray, List.set_cons_zero, List.set_cons_succ]))
        focus
          (with_reducible refine mem_plain (.int .i64 D) ?_ ?_ ?_ ?_ (hw := ?_))
          · exact rfl
          · exact rfl
          · intro w3 hw3 hc3 hp3
            have hcs := hc3
            simp only [CellsL, List.mem_cons, forall_eq_or_imp, List.not_mem_nil, false_implies, implies_true, and_true] at hcs
            (have h14 : Own w3 (w.heap.size + 1) w3.heap.size (.slice (some ⟨g2, 0, none⟩) (X + ng) c2) (X + ng) (degs 2000000 gs X ng) := hp3.1.1.1; obtain ⟨e2, _⟩ := h14.cellAt (k := o) (by omega); rw [hDe.out] at e2; go_simp; exact postPlain.mk_ (Below.refl _ _))
          rotate_left
          · first | exact wanted_none rfl | exact wanted_some rfl rfl rfl rfl
          try simp only [Act.put, List.setIfInBounds_toArray, List.set_cons_zero, List.set_cons_succ]
        repeat (first
          | ((with_reducible refine mem_pure0 ?_ ?_ ?_)
             · exact rfl
             · exact rfl
             intro K hK
             apply Exists.intro
             refine ⟨fun w3 hw3 => ?_, ?_⟩
             · have hcs := hw3
               simp only [CellsL, List.mem_cons, forall_eq_or_imp, List.not_mem_nil, false_implies, implies_true, and_true] at hcs
               clear hw3
               go_simp
               first | done | exact ⟨rfl, rfl⟩ | rfl
             refine hK _ ?_
             clear hK K
             try simp only [Act.put, List.setIfInBounds_toArray, List.set_cons_zero, List.set_cons_succ])
          | ((with_reducible refine mem_skip ?_ ?_ ?_)
             · exact rfl
             · exact wanted_not rfl rfl rfl rfl
             simp only [Act.put, List.setIfInBounds_toArray, List.set_cons_zero, List.set_cons_succ])
          | ((with_reducible refine mem_pure ?_ ?_ ?_)
             · exact rfl
             · exact wanted_some rfl rfl rfl rfl
             intro K hK
             apply Exists.intro
             refine ⟨fun w3 hw3 => ?_, ?_⟩
             · have hcs := hw3
               simp only [CellsL, List.mem_cons, forall_eq_or_imp, List.not_mem_nil, false_implies, implies_true, and_true] at hcs
               clear hw3
               go_simp
               first | done | exact ⟨rfl, rfl⟩ | rfl
             refine hK _ ?_
             clear hK K
             try simp only [Act.put, List.setIfInBounds_toArray, List.set_cons_zero, List.set_cons_succ]))
        refine wpSep_end ?_
        intro w2 hw2 hct hfin hap
        have hbx2 := alt_below hw2
        have hB2 := hB.trans (hbx2.mono hB.size)
        clear k0 k1 k2 k3 k4 ce hfin hap hct hw2
        have hx2 : BxA w2 w.heap.size p x y Ag ng cg (some ⟨kb, ob, none⟩) no co := (BxA.new _ _).below hbx2
        clear hsA
        have hq := hx2; obtain ⟨k0, k1, k2, k3, k4⟩ := hq
        go_wp2_with fail
        refine (arInputs_any p x y Ag ng cg (some ⟨kb, ob, none⟩) no co _ hx hy).mono ?_
        rintro e u3 ⟨rfl, hb3⟩
        rw [hX]
        have hB3 := hB2.trans (hb3.mono hB2.size)
        have hz3 := hB3.size
        have hbx3 := hbx2.trans (hb3.mono hbx2.size)
        have hzx3 := hbx3.size
        simp only [World.size_alloc] at hzx3
        clear k0 k1 k2 k3 k4 hx2 hB2 hbx2 hb3
        go_wp2_with (at_make; refine wpList_make_full _ rfl _ _ 23 rfl (w.heap.size + 1) 3 i0 (.int .i64 0) 1 Try.underlying23 hi hz0 hz1 _ _ _ _ X rfl rfl rfl rfl (by rw [hz2]; omega) (by unfold maxLen; omega) hzx3 ?_; intro w4 hown hgrow)
        have hrep : w4.ownsRow (w.heap.size + 1) 3 1 (.slice (some ⟨u3.heap.size, 0, none⟩) X X) X ((List.replicate X 0).map (Value.int .i64)) := by
          have h : (madeCells (Value.int .i64 0).cells (X * 1)).toList = (List.replicate X 0).map (Value.int .i64) := by
            simp [Value.cells, toList_madeCells_one]
          rw [← h]; exact hown
        have hown4 := Own.mk_ hrep
        have hb4 := below_of_grownBy hgrow
        have hB4 := hB3.trans (hb4.mono hB3.size)
        have hbx4 := hbx3.trans (hb4.mono hbx3.size)
        have hz4 := hb4.size
        clear hrep hown hgrow hB3 hbx3
        have hx4 : BxA w4 w.heap.size p x y Ag ng cg (some ⟨kb, ob, none⟩) no co := (BxA.new _ _).below hbx4
        have ce := RI_cell (hr.2.below hB4 (Nat.le_refl _)) hKn hoe
        obtain ⟨k0, k1, k2, k3, k4⟩ := hx4
        obtain ⟨z, hze⟩ : ∃ z, Hid (linV p gs (List.replicate X 0) o = z) := ⟨_, Lib.hid rfl⟩
        have hzb := linV_bd (p := p) hp.1 (gs := gs) (zeros_bd hp.1 X) (o := o) (by simp; omega)
        have hvl : (avals p gs (List.replicate X 0) ng).length = X + ng := by rw [avals_len]; simp
        have hze' : Hid (gi (avals p gs (List.replicate X 0) ng) o = z) := Lib.hid (by rw [← hze.out, linV, hlg])
        rw [hze.out] at hzb
        have hvx : ((X + ng : Nat) : Int) = X + ng := by omega
        go_wp2_with fail
        refine wp_region_mem0 (11) [(⟨w.heap.size, 0, none⟩, .int .i64 p), (⟨w.heap.size, 1, none⟩, .int .i64 x), (⟨w.heap.size, 2, none⟩, .int .i64 y), (⟨w.heap.size, 3, none⟩, .slice Ag ng cg), (⟨w.heap.size, 4, none⟩, .slice (some ⟨kb, ob, none⟩) no co), (⟨kb, ob + K, none⟩, .int .i64 o)] [(2, [], []), (9, [2], [])] [] [(2, Res.rowS w4.heap.size (X + ng) (avals p gs (List.replicate X 0) ng)), (9, Res.plain (.int .i64 z))] (by kernel_rfl) (by kernel_rfl) (by kernel_rfl) (by simp only [CellsL, List.mem_cons, forall_eq_or_imp, List.not_mem_nil, false_implies, implies_true, and_true]; repeat (any_goals (apply And.intro)); all_goals (first | assumption | go_simp)) ?_
        simp only [List.take_succ_cons, List.take_zero, List.drop_succ_cons, List.drop_zero, List.take_nil, List.drop_nil, List.take, List.drop]
        repeat (first
          | ((with_reducible refine mem_pure0 ?_ ?_ ?_)
             · exact rfl
             · exact rfl
             intro K hK
             apply Exists.intro
             refine ⟨fun w3 hw3 => ?_, ?_⟩
             · have hcs := hw3
               simp only [CellsL, List.mem_cons, forall_eq_or_imp, List.not_mem_nil, false_implies, implies_true, and_true] at hcs
               clear hw3
               go_simp
               first | done | exact ⟨rfl, rfl⟩ | rfl
             refine hK _ ?_
             clear hK K
             try simp only [Act.put, List.setIfInBounds_toArray, List.set_cons_zero, List.set_cons_succ])
          | ((with_reducible refine mem_skip ?_ ?_ ?_)
             · exact rfl
             · exact wanted_not rfl rfl rfl rfl
             simp only [Act.put, List.setIfInBounds_toArray, List.set_cons_zero, List.set_cons_succ])
          | ((with_reducible refine mem_pure ?_ ?_ ?_)
             · exact rfl
             · exact wanted_some rfl rfl rfl rfl
             intro K hK
             apply Exists.intro
             refine ⟨fun w3 hw3 => ?_, ?_⟩
             · have hcs := hw3
               simp only [CellsL, List.mem_cons, forall_eq_or_imp, List.not_mem_nil, false_implies, implies_true, and_true] at hcs
               clear hw3
               go_simp
               first | done | exact ⟨rfl, rfl⟩ | rfl
             refine hK _ ?_
             clear hK K
             try simp only [Act.put, List.setIfInBounds_toArray, List.set_cons_zero, List.set_cons_succ]))
        focus
          (with_reducible refine mem_rowS w4.heap.size (X + ng) (avals p gs (List.replicate X 0) ng) ?_ ?_ ?_ ?_ ?_ ?_ (hw := ?_))
          · exact rfl
          · exact rfl
          · omega
          · omega
          · intro w3 hw3 hc3 hp3
            have hcs := hc3
            simp only [CellsL, List.mem_cons, forall_eq_or_imp, List.not_mem_nil, false_implies, implies_true, and_true] at hcs
            (go_simp; have hb6 := alt_below hw3; refine (arValues_any p x y Ag ng cg (some ⟨kb, ob, none⟩) no co (some ⟨u3.heap.size, 0, none⟩) X X gs (List.replicate X 0) _ (hr.1.below (hB4.trans (hb6.mono hB4.size)) (Nat.le_refl _)) (hown4.below hb6 (.inl (Nat.le_refl _))).reads ⟨hp.1, hp.2⟩ (zeros_bd hp.1 X) hgat (by omega) (by omega)).mono ?_; rintro e w7 hT; obtain ⟨A7, c7, rfl, ho7, hb7⟩ := hT.open_ hvl; exact retPost.mk_ (postRow.mk_ ho7 hb7))
          rotate_left
          · first | exact wanted_none rfl | exact wanted_some rfl rfl rfl rfl
          intro g5 c5
          try simp only [Act.put, List.setIfInBounds_toArray, List.set_cons_zero, List.set_cons_succ]
        repeat (first
          | ((with_reducible refine mem_pure0 ?_ ?_ ?_)
             · exact rfl
             · exact rfl
             intro K hK
             apply Exists.intro
             refine ⟨fun w3 hw3 => ?_, ?_⟩
             · have hcs := hw3
               simp only [CellsL, List.mem_cons, forall_eq_or_imp, List.not_mem_nil, false_implies, implies_true, and_true] at hcs
               clear hw3
               go_simp
               first | done | exact ⟨rfl, rfl⟩ | rfl
             refine hK _ ?_
             clear hK K
             try simp only [Act.put, List.setIfInBounds_toArray, List.set_cons_zero, List.set_cons_succ])
          | ((with_reducible refine mem_skip ?_ ?_ ?_)
             · exact rfl
             · exact wanted_not rfl rfl rfl rfl
             simp only [Act.put, List.setIfInBounds_toArray, List.set_cons_zero, List.set_cons_succ])
          | ((with_reducible refine mem_pure ?_ ?_ ?_)
             · exact rfl
             · exact wanted_some rfl rfl rfl rfl
             intro K hK
             apply Exists.intro
             refine ⟨fun w3 hw3 => ?_, ?_⟩
             · have hcs := hw3
               simp only [CellsL, List.mem_cons, forall_eq_or_imp, List.not_mem_nil, false_implies, implies_true, and_true] at hcs
               clear hw3
               go_simp
               first | done | exact ⟨rfl, rfl⟩ | rfl
             refine hK _ ?_
             clear hK K
             try simp only [Act.put, List.setIfInBounds_toArray, List.set_cons_zero, List.set_cons_succ]))
        focus
          (with_reducible refine mem_plain (.int .i64 z) ?_ ?_ ?_ ?_ (hw := ?_))
          · exact rfl
          · exact rfl
          · intro w3 hw3 hc3 hp3
            have hcs := hc3
            simp only [CellsL, List.mem_cons, forall_eq_or_imp, List.not_mem_nil, false_implies, implies_true, and_true] at hcs
            (have h2 : Own w3 w4.heap.size w3.heap.size (.slice (some ⟨g5, 0, none⟩) (X + ng) c5) (X + ng) (avals p gs (List.replicate X 0) ng) := hp3.1.1.1; obtain ⟨e5, _⟩ := h2.cellAt (k := o) (by omega); rw [hze'.out] at e5; go_simp; exact postPlain.mk_ (Below.refl _ _))
          rotate_left
          · first | exact wanted_none rfl | exact wanted_some rfl rfl rfl rfl
          try simp only [Act.put, List.setIfInBounds_toArray, List.set_cons_zero, List.set_cons_succ]
        repeat (first
          | ((with_reducible refine mem_pure0 ?_ ?_ ?_)
             · exact rfl
             · exact rfl
             intro K hK
             apply Exists.intro
             refine ⟨fun w3 hw3 => ?_, ?_⟩
             · have hcs := hw3
               simp only [CellsL, List.mem_cons, forall_eq_or_imp, List.not_mem_nil, false_implies, implies_true, and_true] at hcs
               clear hw3
               go_simp
               first | done | exact ⟨rfl, rfl⟩ | rfl
             refine hK _ ?_
             clear hK K
             try simp only [Act.put, List.setIfInBounds_toArray, List.set_cons_zero, List.set_cons_succ])
          | ((with_reducible refine mem_skip ?_ ?_ ?_)
             · exact rfl
             · exact wanted_not rfl rfl rfl rfl
             simp only [Act.put, List.setIfInBounds_toArray, List.set_cons_zero, List.set_cons_succ])
          | ((with_reducible refine mem_pure ?_ ?_ ?_)
             · exact rfl
             · exact wanted_some rfl rfl rfl rfl
             intro K hK
             apply Exists.intro
             refine ⟨fun w3 hw3 => ?_, ?_⟩
             · have hcs := hw3
               simp only [CellsL, List.mem_cons, forall_eq_or_imp, List.not_mem_nil, false_implies, implies_true, and_true] at hcs
               clear hw3
               go_simp
               first | done | exact ⟨rfl, rfl⟩ | rfl
             refine hK _ ?_
             clear hK K
             try simp only [Act.put, List.setIfInBounds_toArray, List.set_cons_zero, List.set_cons_succ]))
        refine wpSep_end ?_
        intro w5 hw5 hct5 hfin5 hap5
        have hb5 := alt_below hw5
        all_goals
          have hz5 : w4.heap.size ≤ w5.heap.size := hb5.size
          have hbx5 := hbx4.trans (hb5.mono hbx4.size)
          have hI5 : Own w5 (w.heap.size + 1) w5.heap.size (.slice (some ⟨u3.heap.size, 0, none⟩) X X) X (List.replicate X 0) := (hown4.below hb5 (.inl (Nat.le_refl _))).hi_ hz5
          have hI6 := hI5.alloc (.cells #[.int .i64 z] 3)
          have hO6 := (Own_new1 w5 z w5.heap.size (Nat.le_refl _)).now
          have hbx6 : Below (w.heap.size + 1) (w.alloc (.cells #[.int .i64 p, .int .i64 x, .int .i64 y, .slice Ag ng cg, .slice (some ⟨kb, ob, none⟩) no co] 29)) (w5.alloc (.cells #[.int .i64 z] 3)) := by simpa using hbx5.alloc (by simp; omega) (.cells #[.int .i64 z] 3)
          have HL0 : Hid (linL p gs X o 0 = [z]) := Lib.hid (by rw [linL_zero, hze.out])
          rw [← HL0.out] at hO6
          have hg3 : u3.heap.size < w5.heap.size := by have := hI5.lt u3.heap.size (by simp [Value.ownBlock]); omega
          clear hI5 hbx5 hb5 k0 k1 k2 k3 k4 ce hown4 hbx4 hB4 hb4 hfin5 hap5 hct5 hw5
          go_wp2
          go_loopw [8, 51] (fun O i wr => ∃ (j : Nat) (A : Option Addr) (c : Nat), j ≤ X ∧ i = .int .i64 j ∧ O = .slice A (j + 1 : Nat) c ∧ Own wr (w.heap.size + 1) w5.heap.size (.slice (some ⟨u3.heap.size, 0, none⟩) X X) X (List.replicate X 0) ∧ Own wr w5.heap.size wr.heap.size (.slice A (j + 1) c) (j + 1) (linL p gs X o j) ∧ Below (w.heap.size + 1) (w.alloc (.cells #[.int .i64 p, .int .i64 x, .int .i64 y, .slice Ag ng cg, .slice (some ⟨kb, ob, none⟩) no co] 29)) wr) (fun _ i _ => X - (intOf i).toNat)
          case atStart => exact ⟨0, _, _, Nat.zero_le _, rfl, rfl, hI6, hO6, hbx6⟩
          case round =>
            obtain ⟨j, A, c, hj, rfl, rfl, hIn, hOut, hbx⟩ := hrel
            clear hI6 hO6 hbx6
            have hzx := hbx.size
            simp only [World.size_alloc] at hzx
            by_cases hlt : j < X
            · obtain ⟨hc, hf⟩ := hIn.cellAt hlt
              obtain ⟨hs1, hs2⟩ := hIn.stored j 1
              have hs1' : Own (wr.setCell ⟨u3.heap.size, j, none⟩ (.int .i64 1)) (w.heap.size + 1) w5.heap.size (.slice (some ⟨u3.heap.size, 0, none⟩) X X) X (unitL X j) := hs1
              have hOut1 := hOut.far ⟨u3.heap.size, j, none⟩ (.int .i64 1) (.inl hg3)
              have hbx1 := hbx.setCell (p := ⟨u3.heap.size, j, none⟩) (by show w.heap.size + 1 ≤ u3.heap.size; omega) (.int .i64 1)
              have hB1 := hB.trans (hbx1.mono (by omega))
              have hx1 : BxA _ w.heap.size p x y Ag ng cg (some ⟨kb, ob, none⟩) no co := (BxA.new _ _).below (by simpa using hbx1)
              have ce := RI_cell (hr.2.below hB1 (Nat.le_refl _)) hKn hoe
              obtain ⟨k0, k1, k2, k3, k4⟩ := hx1
              obtain ⟨u, hue⟩ : ∃ u, Hid (linV p gs (unitL X j) o = u) := ⟨_, Lib.hid rfl⟩
              have hub := linV_bd (p := p) hp.1 (gs := gs) (unitL_bd hp.1 X j) (o := o) (by rw [unitL_len]; omega)
              have hul : (avals p gs (unitL X j) ng).length = X + ng := by rw [avals_len, unitL_len]
              have hue' : Hid (gi (avals p gs (unitL X j) ng) o = u) := Lib.hid (by rw [← hue.out, linV, hlg])
              rw [hue.out] at hub
              have hsn : Hid (linL p gs X o (j + 1) = linL p gs X o j ++ [(u - z) % p]) := Lib.hid (by rw [linL_snoc, hue.out, hze.out])
              have hpz : ¬ p = 0 := by omega
              have hwz : IntKind.i64.wrap (u - z) = u - z := IntWalk.i64_in _ (by omega)
              have hwp : IntKind.i64.wrap (u - z + p) = u - z + p := IntWalk.i64_in _ (by omega)
              skip
              have hsW : (wr.setCell ⟨u3.heap.size, j, none⟩ (.int .i64 1)).heap.size = wr.heap.size := by simp
              have hno1 : ∀ i, i < w5.heap.size → ¬ (Value.slice A (j + 1) c).ownBlock = some i := fun i hi hc => by have := hOut1.lt i hc; omega
              have hle5 : w5.heap.size ≤ wr.heap.size := by obtain ⟨g9, _, h1, h2, _⟩ := hOut.some_ (by omega); omega
              have hnk : ∀ i, i < w5.heap.size → ¬ okB (wr.setCell ⟨u3.heap.size, j, none⟩ (.int .i64 1)) (fun b => (Value.slice A (j + 1) c).ownBlock = some b) i := fun i hi ho => by
                rcases ho with ho | ho
                · rw [hsW] at ho; omega
                · exact hno1 i hi ho
              have hk5 : kb < w5.heap.size := by have := hr.2.lt (Nat.le_refl _) (by omega) kb ob rfl; omega
              clear hIn hOut hbx hs1 hs2
              go_wp2_with fail
              refine wp_region_mem (19) ((fun b => (Value.slice A (j + 1) c).ownBlock = some b)) [(⟨w.heap.size, 0, none⟩, .int .i64 p), (⟨w.heap.size, 1, none⟩, .int .i64 x), (⟨w.heap.size, 2, none⟩, .int .i64 y), (⟨w.heap.size, 3, none⟩, .slice Ag ng cg), (⟨w.heap.size, 4, none⟩, .slice (some ⟨kb, ob, none⟩) no co), (⟨kb, ob + K, none⟩, .int .i64 o)] [(3, [], []), (10, [3], []), (15, [], []), (16, [], []), (17, [100, 16], [100])] [100] [17] [(100, Res.row w5.heap.size (j + 1) (linL p gs X o j)), (3, Res.rowS w5.heap.size (X + ng) (avals p gs (unitL X j) ng)), (10, Res.plain (.int .i64 u)), (15, Res.plain (.int .i64 ((u - z) % p))), (16, Res.row w5.heap.size 1 [(u - z) % p]), (17, Res.row w5.heap.size (j + 1 + 1) (linL p gs X o j ++ [(u - z) % p]))] ((upd (fun _ => undef) 100 (.slice A (j + 1) c))) (by kernel_rfl) (by kernel_rfl) (by kernel_rfl) (by simp only [CellsL, List.mem_cons, forall_eq_or_imp, List.not_mem_nil, false_implies, implies_true, and_true]; repeat (any_goals (apply And.intro)); all_goals (first | assumption | go_simp)) (fun q9 hq9 => hno1 q9.1.block (by revert q9; simp only [List.mem_cons, forall_eq_or_imp, List.not_mem_nil, false_implies, implies_true, and_true]; omega)) (⟨⟨hOut1.now, fun b hb => ⟨.inr hb, (hOut1.lt b hb).2.2⟩⟩, trivial⟩) (fun d hd d' hd' hn => by simp at hd hd'; omega) ?_
              simp only [List.take_succ_cons, List.take_zero, List.drop_succ_cons, List.drop_zero, List.take_nil, List.drop_nil, List.take, List.drop]
              repeat (first
                | ((with_reducible refine mem_pure0 ?_ ?_ ?_)
                   · exact rfl
                   · exact rfl
                   intro K hK
                   apply Exists.intro
                   refine ⟨fun w3 hw3 => ?_, ?_⟩
                   · have hcs := hw3
                     simp only [CellsL, List.mem_cons, forall_eq_or_imp, List.not_mem_nil, false_implies, implies_true, and_true] at hcs
                     clear hw3
                     go_simp
                     first | done | exact ⟨rfl, rfl⟩ | rfl
                   refine hK _ ?_
                   clear hK K
                   try simp only [Act.put, List.setIfInBounds_toArray, List.set_cons_zero, List.set_cons_succ])
                | ((with_reducible refine mem_skip ?_ ?_ ?_)
                   · exact rfl
                   · exact wanted_not rfl rfl rfl rfl
                   simp only [Act.put, List.setIfInBounds_toArray, List.set_cons_zero, List.set_cons_succ])
                | ((with_reducible refine mem_pure ?_ ?_ ?_)
                   · exact rfl
                   · exact wanted_some rfl rfl rfl rfl
                   intro K hK
                   apply Exists.intro
                   refine ⟨fun w3 hw3 => ?_, ?_⟩
                   · have hcs := hw3
                     simp only [CellsL, List.mem_cons, forall_eq_or_imp, List.not_mem_nil, false_implies, implies_true, and_true] at hcs
                     clear hw3
                     go_simp
                     first | done | exact ⟨rfl, rfl⟩ | rfl
                   refine hK _ ?_
                   clear hK K
                   try simp only [Act.put, List.setIfInBounds_toArray, List.set_cons_zero, List.set_cons_succ]))
              focus
                (with_reducible refine mem_rowS w5.heap.size (X + ng) (avals p gs (unitL X j) ng) ?_ ?_ ?_ ?_ ?_ ?_ (hw := ?_))
                · exact rfl
                · exact rfl
                · omega
                · omega
                · intro w3 hw3 hc3 hp3
                  have hcs := hc3
                  simp only [CellsL, List.mem_cons, forall_eq_or_imp, List.not_mem_nil, false_implies, implies_true, and_true] at hcs
                  (go_simp; refine (arValues_any p x y Ag ng cg (some ⟨kb, ob, none⟩) no co (some ⟨u3.heap.size, 0, none⟩) X X gs (unitL X j) _ (hr.1.below (hB1.trans (hw3.below_ (B := w.heap.size) (by rw [hsW]; omega) (fun i hi => hnk i (by omega)))) (Nat.le_refl _)) (hs1'.alt hw3 (fun g hg => hnk g (by have := hs1'.lt g hg; omega))).reads ⟨hp.1, hp.2⟩ (unitL_bd hp.1 X j) hgat (by omega) (by omega)).mono ?_; rintro e w7 hT; obtain ⟨A7, c7, rfl, ho7, hb7⟩ := hT.open_ hul; exact retPost.mk_ (postRow.mk_ ho7 hb7))
                rotate_left
                · first | exact wanted_none rfl | exact wanted_some rfl rfl rfl rfl
                intro g7 c7
                try simp only [Act.put, List.setIfInBounds_toArray, List.set_cons_zero, List.set_cons_succ]
              repeat (first
                | ((with_reducible refine mem_pure0 ?_ ?_ ?_)
                   · exact rfl
                   · exact rfl
                   intro K hK
                   apply Exists.intro
                   refine ⟨fun w3 hw3 => ?_, ?_⟩
                   · have hcs := hw3
                     simp only [CellsL, List.mem_cons, forall_eq_or_imp, List.not_mem_nil, false_implies, implies_true, and_true] at hcs
                     clear hw3
                     go_simp
                     first | done | exact ⟨rfl, rfl⟩ | rfl
                   refine hK _ ?_
                   clear hK K
                   try simp only [Act.put, List.setIfInBounds_toArray, List.set_cons_zero, List.set_cons_succ])
                | ((with_reducible refine mem_skip ?_ ?_ ?_)
                   · exact rfl
                   · exact wanted_not rfl rfl rfl rfl
                   simp only [Act.put, List.setIfInBounds_toArray, List.set_cons_zero, List.set_cons_succ])
                | ((with_reducible refine mem_pure ?_ ?_ ?_)
                   · exact rfl
                   · exact wanted_some rfl rfl rfl rfl
                   intro K hK
                   apply Exists.intro
                   refine ⟨fun w3 hw3 => ?_, ?_⟩
                   · have hcs := hw3
                     simp only [CellsL, List.mem_cons, forall_eq_or_imp, List.not_mem_nil, false_implies, implies_true, and_true] at hcs
                     clear hw3
                     go_simp
                     first | done | exact ⟨rfl, rfl⟩ | rfl
                   refine hK _ ?_
                   clear hK K
                   try simp only [Act.put, List.setIfInBounds_toArray, List.set_cons_zero, List.set_cons_succ]))
              focus
                (with_reducible refine mem_plain (.int .i64 u) ?_ ?_ ?_ ?_ (hw := ?_))
                · exact rfl
                · exact rfl
                · intro w3 hw3 hc3 hp3
                  have hcs := hc3
                  simp only [CellsL, List.mem_cons, forall_eq_or_imp, List.not_mem_nil, false_implies, implies_true, and_true] at hcs
                  (have h3 : Own w3 w5.heap.size w3.heap.size (.slice (some ⟨g7, 0, none⟩) (X + ng) c7) (X + ng) (avals p gs (unitL X j) ng) := hp3.1.1.1; obtain ⟨e7, _⟩ := h3.cellAt (k := o) (by omega); rw [hue'.out] at e7; go_simp; exact postPlain.mk_ (Below.refl _ _))
                rotate_left
                · first | exact wanted_none rfl | exact wanted_some rfl rfl rfl rfl
                try simp only [Act.put, List.setIfInBounds_toArray, List.set_cons_zero, List.set_cons_succ]
              repeat (first
                | ((with_reducible refine mem_pure0 ?_ ?_ ?_)
                   · exact rfl
                   · exact rfl
                   intro K hK
                   apply Exists.intro
                   refine ⟨fun w3 hw3 => ?_, ?_⟩
                   · have hcs := hw3
                     simp only [CellsL, List.mem_cons, forall_eq_or_imp, List.not_mem_nil, false_implies, implies_true, and_true] at hcs
                     clear hw3
                     go_simp
                     first | done | exact ⟨rfl, rfl⟩ | rfl
                   refine hK _ ?_
                   clear hK K
                   try simp only [Act.put, List.setIfInBounds_toArray, List.set_cons_zero, List.set_cons_succ])
                | ((with_reducible refine mem_skip ?_ ?_ ?_)
                   · exact rfl
                   · exact wanted_not rfl rfl rfl rfl
                   simp only [Act.put, List.setIfInBounds_toArray, List.set_cons_zero, List.set_cons_succ])
                | ((with_reducible refine mem_pure ?_ ?_ ?_)
                   · exact rfl
                   · exact wanted_some rfl rfl rfl rfl
                   intro K hK
                   apply Exists.intro
                   refine ⟨fun w3 hw3 => ?_, ?_⟩
                   · have hcs := hw3
                     simp only [CellsL, List.mem_cons, forall_eq_or_imp, List.not_mem_nil, false_implies, implies_true, and_true] at hcs
                     clear hw3
                     go_simp
                     first | done | exact ⟨rfl, rfl⟩ | rfl
                   refine hK _ ?_
                   clear hK K
                   try simp only [Act.put, List.setIfInBounds_toArray, List.set_cons_zero, List.set_cons_succ]))
              focus
                (with_reducible refine mem_plain (.int .i64 ((u - z) % p)) ?_ ?_ ?_ ?_ (hw := ?_))
                · exact rfl
                · exact rfl
                · intro w3 hw3 hc3 hp3
                  have hcs := hc3
                  simp only [CellsL, List.mem_cons, forall_eq_or_imp, List.not_mem_nil, false_implies, implies_true, and_true] at hcs
                  (go_simp; refine (btMod_any (u - z) p _ (by omega) (by omega) (by omega) (by omega)).mono ?_; rintro e w9 ⟨rfl, rfl⟩; exact retPost.mk_ (postPlain.mk_ (Below.refl _ _)))
                rotate_left
                · first | exact wanted_none rfl | exact wanted_some rfl rfl rfl rfl
                try simp only [Act.put, List.setIfInBounds_toArray, List.set_cons_zero, List.set_cons_succ]
              repeat (first
                | ((with_reducible refine mem_pure0 ?_ ?_ ?_)
                   · exact rfl
                   · exact rfl
                   intro K hK
                   apply Exists.intro
                   refine ⟨fun w3 hw3 => ?_, ?_⟩
                   · have hcs := hw3
                     simp only [CellsL, List.mem_cons, forall_eq_or_imp, List.not_mem_nil, false_implies, implies_true, and_true] at hcs
                     clear hw3
                     go_simp
                     first | done | exact ⟨rfl, rfl⟩ | rfl
                   refine hK _ ?_
                   clear hK K
                   try simp only [Act.put, List.setIfInBounds_toArray, List.set_cons_zero, List.set_cons_succ])
                | ((with_reducible refine mem_skip ?_ ?_ ?_)
                   · exact rfl
                   · exact wanted_not rfl rfl rfl rfl
                   simp only [Act.put, List.setIfInBounds_toArray, List.set_cons_zero, List.set_cons_succ])
                | ((with_reducible refine mem_pure ?_ ?_ ?_)
                   · exact rfl
                   · exact wanted_some rfl rfl rfl rfl
                   intro K hK
                   apply Exists.intro
                   refine ⟨fun w3 hw3 => ?_, ?_⟩
                   · have hcs := hw3
                     simp only [CellsL, List.mem_cons, forall_eq_or_imp, List.not_mem_nil, false_implies, implies_true, and_true] at hcs
                     clear hw3
                     go_simp
                     first | done | exact ⟨rfl, rfl⟩ | rfl
                   refine hK _ ?_
                   clear hK K
                   try simp only [Act.put, List.setIfInBounds_toArray, List.set_cons_zero, List.set_cons_succ]))
              focus
                (with_reducible refine mem_row w5.heap.size 1 [(u - z) % p] ?_ ?_ ?_ ?_ ?_ (hw := ?_))
                · exact rfl
                · exact rfl
                · omega
                · intro w3 hw3 hc3 hp3
                  have hcs := hc3
                  simp only [CellsL, List.mem_cons, forall_eq_or_imp, List.not_mem_nil, false_implies, implies_true, and_true] at hcs
                  (go_simp; exact postRow.new1 _ _)
                rotate_left
                · first | exact wanted_none rfl | exact wanted_some rfl rfl rfl rfl
                intro A9 c9
                try simp only [Act.put, List.setIfInBounds_toArray, List.set_cons_zero, List.set_cons_succ]
              repeat (first
                | ((with_reducible refine mem_pure0 ?_ ?_ ?_)
                   · exact rfl
                   · exact rfl
                   intro K hK
                   apply Exists.intro
                   refine ⟨fun w3 hw3 => ?_, ?_⟩
                   · have hcs := hw3
                     simp only [CellsL, List.mem_cons, forall_eq_or_imp, List.not_mem_nil, false_implies, implies_true, and_true] at hcs
                     clear hw3
                     go_simp
                     first | done | exact ⟨rfl, rfl⟩ | rfl
                   refine hK _ ?_
                   clear hK K
                   try simp only [Act.put, List.setIfInBounds_toArray, List.set_cons_zero, List.set_cons_succ])
                | ((with_reducible refine mem_skip ?_ ?_ ?_)
                   · exact rfl
                   · exact wanted_not rfl rfl rfl rfl
                   simp only [Act.put, List.setIfInBounds_toArray, List.set_cons_zero, List.set_cons_succ])
                | ((with_reducible refine mem_pure ?_ ?_ ?_)
                   · exact rfl
                   · exact wanted_some rfl rfl rfl rfl
                   intro K hK
                   apply Exists.intro
                   refine ⟨fun w3 hw3 => ?_, ?_⟩
                   · have hcs := hw3
                     simp only [CellsL, List.mem_cons, forall_eq_or_imp, List.not_mem_nil, false_implies, implies_true, and_true] at hcs
                     clear hw3
                     go_simp
                     first | done | exact ⟨rfl, rfl⟩ | rfl
                   refine hK _ ?_
                   clear hK K
                   try simp only [Act.put, List.setIfInBounds_toArray, List.set_cons_zero, List.set_cons_succ]))
              refine mem_appI 100 w5.heap.size (j + 1) 1 (linL p gs X o j) [(u - z) % p] A c A9 c9 (.tmp 57) (.tmp 73) (by rfl) (by rfl) (by rw [hsW]; omega) (by rfl) (by rfl) (by decide) (by rfl) (by rfl) (by rfl) (by rfl) (by omega) (fun w6 hw6 hc6 hp6 => ?_) (fun A8 c8 => ?_)
              · have h19 : Own w6 w5.heap.size w6.heap.size (.slice A9 1 c9) 1 [(u - z) % p] := hp6.1.2.1.1
                exact h19.reads
              try simp only [Act.put, List.setIfInBounds_toArray, List.set_cons_zero, List.set_cons_succ]
              repeat (first
                | ((with_reducible refine mem_pure0 ?_ ?_ ?_)
                   · exact rfl
                   · exact rfl
                   intro K hK
                   apply Exists.intro
                   refine ⟨fun w3 hw3 => ?_, ?_⟩
                   · have hcs := hw3
                     simp only [CellsL, List.mem_cons, forall_eq_or_imp, List.not_mem_nil, false_implies, implies_true, and_true] at hcs
                     clear hw3
                     go_simp
                     first | done | exact ⟨rfl, rfl⟩ | rfl
                   refine hK _ ?_
                   clear hK K
                   try simp only [Act.put, List.setIfInBounds_toArray, List.set_cons_zero, List.set_cons_succ])
                | ((with_reducible refine mem_skip ?_ ?_ ?_)
                   · exact rfl
                   · exact wanted_not rfl rfl rfl rfl
                   simp only [Act.put, List.setIfInBounds_toArray, List.set_cons_zero, List.set_cons_succ])
                | ((with_reducible refine mem_pure ?_ ?_ ?_)
                   · exact rfl
                   · exact wanted_some rfl rfl rfl rfl
                   intro K hK
                   apply Exists.intro
                   refine ⟨fun w3 hw3 => ?_, ?_⟩
                   · have hcs := hw3
                     simp only [CellsL, List.mem_cons, forall_eq_or_imp, List.not_mem_nil, false_implies, implies_true, and_true] at hcs
                     clear hw3
                     go_simp
                     first | done | exact ⟨rfl, rfl⟩ | rfl
                   refine hK _ ?_
                   clear hK K
                   try simp only [Act.put, List.setIfInBounds_toArray, List.set_cons_zero, List.set_cons_succ]))
              refine wpSep_end ?_
              intro wt hwt hct hfin hap
              have hown8 : Own wt w5.heap.size wt.heap.size (.slice A8 (j + 1 + 1) c8) (j + 1 + 1) (linL p gs X o j ++ [(u - z) % p]) := hfin.1.1
              all_goals
                have hI8 := (hs1'.alt hwt (fun g hg => hnk g (by have := hs1'.lt g hg; omega)))
                have hbx8 := hbx1.trans (hwt.below_ (B := w.heap.size + 1) (by rw [hsW]; omega) (fun i hi => hnk i (by omega)))
                obtain ⟨hc8, hf8⟩ := hI8.cellAt hlt
                obtain ⟨ht1, _⟩ := hI8.stored j 0
                rw [unitL_back] at ht1
                rw [← hsn.out] at hown8
                have ho9 := hown8.far ⟨u3.heap.size, j, none⟩ (.int .i64 0) (.inl hg3)
                have hbx9 := hbx8.setCell (p := ⟨u3.heap.size, j, none⟩) (by show w.heap.size + 1 ≤ u3.heap.size; omega) (.int .i64 0)
                clear hI8 hown8 hbx8 hs1' hOut1 hbx1 k0 k1 k2 k3 k4 ce hwt hct hap
                go_wp2
                go_roundw
                case rel => exact ⟨j + 1, _, _, by omega, by go_num, rfl, ht1, by simpa using ho9, hbx9⟩
                case measure => simp [intOf]; omega
            · obtain rfl : X = j := Nat.le_antisymm (Nat.le_of_not_lt hlt) hj
              have hl9 : (linL p gs X o X).length = X + 1 := linL_len _ _ _ _ _
              go_wp2
              go_ret2
              exact RetO.some_ (hB.trans (hbx.mono (by omega))) HR.out hl9 rfl (hOut.lo_ (by omega))

set_option maxRecDepth 100000 in
set_option maxHeartbeats 1500000 in
theorem LinearForm_any (p x y : Int) (Ag : Option Addr) (ng cg : Nat) (Ao : Option Addr) (no co : Nat) (gs : List G3) (os : List Int) (k : Int) (w : World) (hr : RG w Ag ng gs ∧ RI w Ao no os) (hng : ng ≤ 2097152) (hno : no ≤ 2097152) :
    Calls Try.prog 30 #[.agg #[.int .i64 p, .int .i64 x, .int .i64 y, .slice Ag ng cg, .slice Ao no co], .int .i64 k] w (RetO w (linF p x y gs os k)) := by
  obtain ⟨i0, hi, hz0, hz1, hz2⟩ := info_parts info_int
  have hB : Below w.heap.size w (w.alloc (.cells #[.int .i64 p, .int .i64 x, .int .i64 y, .slice Ag ng cg, .slice Ao no co] 29)) := (Below.refl _ _).alloc (Nat.le_refl _) _
  have hlg := hr.1.len
  have hlo := hr.2.len
  have hw0 : IntKind.i64.wrap ((no : Int) - 1) = (no : Int) - 1 := IntWalk.i64_in _ (by omega)
  cases h0 : arB p x y gs os with
  | false =>
    have HR : Hid (linF p x y gs os k = none) := Lib.hid (by simp [linF, h0])
    have H0 := Lib.hid h0; clear h0
    go_enter Try.func30, Try.ntmps30
    have hq := BxA.new (p := p) (x := x) (y := y) (Ag := Ag) (ng := ng) (cg := cg) (Ao := Ao) (no := no) (co := co) w 29
    obtain ⟨k0, k1, k2, k3, k4⟩ := hq
    go_wp2_with fail
    refine wp_region_mem0 (24) [(⟨w.heap.size, 0, none⟩, .int .i64 p), (⟨w.heap.size, 1, none⟩, .int .i64 x), (⟨w.heap.size, 2, none⟩, .int .i64 y), (⟨w.heap.size, 3, none⟩, .slice Ag ng cg), (⟨w.heap.size, 4, none⟩, .slice Ao no co)] [(1, [], [])] [] [(1, Res.plain (.bool false))] (by kernel_rfl) (by kernel_rfl) (by kernel_rfl) (by simp only [CellsL, List.mem_cons, forall_eq_or_imp, List.not_mem_nil, false_implies, implies_true, and_true]; repeat (any_goals (apply And.intro)); all_goals (first | assumption | go_simp)) ?_
    simp only [List.take_succ_cons, List.take_zero, List.drop_succ_cons, List.drop_zero, List.take_nil, List.drop_nil, List.take, List.drop]
    repeat (first
      | ((with_reducible refine mem_pure0 ?_ ?_ ?_)
         · exact rfl
         · exact rfl
         intro K hK
         apply Exists.intro
         refine ⟨fun w3 hw3 => ?_, ?_⟩
         · have hcs := hw3
           simp only [CellsL, List.mem_cons, forall_eq_or_imp, List.not_mem_nil, false_implies, implies_true, and_true] at hcs
           clear hw3
           go_simp
           first | done | exact ⟨rfl, rfl⟩ | rfl
         refine hK _ ?_
         clear hK K
         try simp only [Act.put, List.setIfInBounds_toArray, List.set_cons_zero, List.set_cons_succ])
      | ((with_reducible refine mem_skip ?_ ?_ ?_)
         · exact rfl
         · exact wanted_not rfl rfl rfl rfl
         simp only [Act.put, List.setIfInBounds_toArray, List.set_cons_zero, List.set_cons_succ])
      | ((with_reducible refine mem_pure ?_ ?_ ?_)
         · exact rfl
         · exact wanted_some rfl rfl rfl rfl
         intro K hK
         apply Exists.intro
         refine ⟨fun w3 hw3 => ?_, ?_⟩
         · have hcs := hw3
           simp only [CellsL, List.mem_cons, forall_eq_or_imp, List.not_mem_nil, false_implies, implies_true, and_true] at hcs
           clear hw3
           go_simp
           first | done | exact ⟨rfl, rfl⟩ | rfl
         refine hK _ ?_
         clear hK K
         try simp only [Act.put, List.setIfInBounds_toArray, List.set_cons_zero, List.set_cons_succ]))
    focus
      (with_reducible refine mem_plain (.bool false) ?_ ?_ ?_ ?_ (hw := ?_))
      · exact rfl
      · exact rfl
      · intro w3 hw3 hc3 hp3
        have hcs := hc3
        simp only [CellsL, List.mem_cons, forall_eq_or_imp, List.not_mem_nil, false_implies, implies_true, and_true] at hcs
        (go_simp; have hb3 := hB.trans ((alt_below hw3).mono hB.size); refine (IsArith_any p x y Ag ng cg Ao no co gs os _ (hr.1.below hb3 (Nat.le_refl _)) (hr.2.below hb3 (Nat.le_refl _)) hng hno).mono ?_; rintro e w4 ⟨he, hb4⟩; rw [H0.out] at he; obtain rfl := he; exact retPost.mk_ (postPlain.mk_ hb4))
      rotate_left
      · first | exact wanted_none rfl | exact wanted_some rfl rfl rfl rfl
      try simp only [Act.put, List.setIfInBounds_toArray, List.set_cons_zero, List.set_cons_succ]
    repeat (first
      | ((with_reducible refine mem_pure0 ?_ ?_ ?_)
         · exact rfl
         · exact rfl
         intro K hK
         apply Exists.intro
         refine ⟨fun w3 hw3 => ?_, ?_⟩
         · have hcs := hw3
           simp only [CellsL, List.mem_cons, forall_eq_or_imp, List.not_mem_nil, false_implies, implies_true, and_true] at hcs
           clear hw3
           go_simp
           first | done | exact ⟨rfl, rfl⟩ | rfl
         refine hK _ ?_
         clear hK K
         try simp only [Act.put, List.setIfInBounds_toArray, List.set_cons_zero, List.set_cons_succ])
      | ((with_reducible refine mem_skip ?_ ?_ ?_)
         · exact rfl
         · exact wanted_not rfl rfl rfl rfl
         simp only [Act.put, List.setIfInBounds_toArray, List.set_cons_zero, List.set_cons_succ])
      | ((with_reducible refine mem_pure ?_ ?_ ?_)
         · exact rfl
         · exact wanted_some rfl rfl rfl rfl
         intro K hK
         apply Exists.intro
         refine ⟨fun w3 hw3 => ?_, ?_⟩
         · have hcs := hw3
           simp only [CellsL, List.mem_cons, forall_eq_or_imp, List.not_mem_nil, false_implies, implies_true, and_true] at hcs
           clear hw3
           go_simp
           first | done | exact ⟨rfl, rfl⟩ | rfl
         refine hK _ ?_
         clear hK K
         try simp only [Act.put, List.setIfInBounds_toArray, List.set_cons_zero, List.set_cons_succ]))
    refine wpSep_end ?_
    intro wt hwt hct hfin hap
    go_wp2
    go_ret2
    exact RetO.none_ (hB.trans ((alt_below hwt).mono hB.size)) HR.out rfl
  | true =>
    cases hk : inB 0 ((no : Int) - 1) k with
    | false =>
      have HR : Hid (linF p x y gs os k = none) := Lib.hid (by simp [linF, hlo, hk])
      have H0 := Lib.hid h0; have HK := Lib.hid hk; clear h0 hk
      go_enter Try.func30, Try.ntmps30
      have hq := BxA.new (p := p) (x := x) (y := y) (Ag := Ag) (ng := ng) (cg := cg) (Ao := Ao) (no := no) (co := co) w 29
      obtain ⟨k0, k1, k2, k3, k4⟩ := hq
      go_wp2_with fail
      refine wp_region_mem0 (24) [(⟨w.heap.size, 0, none⟩, .int .i64 p), (⟨w.heap.size, 1, none⟩, .int .i64 x), (⟨w.heap.size, 2, none⟩, .int .i64 y), (⟨w.heap.size, 3, none⟩, .slice Ag ng cg), (⟨w.heap.size, 4, none⟩, .slice Ao no co)] [(1, [], []), (9, [], [])] [] [(1, Res.plain (.bool true)), (9, Res.plain (.bool false))] (by kernel_rfl) (by kernel_rfl) (by kernel_rfl) (by simp only [CellsL, List.mem_cons, forall_eq_or_imp, List.not_mem_nil, false_implies, implies_true, and_true]; repeat (any_goals (apply And.intro)); all_goals (first | assumption | go_simp)) ?_
      simp only [List.take_succ_cons, List.take_zero, List.drop_succ_cons, List.drop_zero, List.take_nil, List.drop_nil, List.take, List.drop]
      repeat (first
        | ((with_reducible refine mem_pure0 ?_ ?_ ?_)
           · exact rfl
           · exact rfl
           intro K hK
           apply Exists.intro
           refine ⟨fun w3 hw3 => ?_, ?_⟩
           · have hcs := hw3
             simp only [CellsL, List.mem_cons, forall_eq_or_imp, List.not_mem_nil, false_implies, implies_true, and_true] at hcs
             clear hw3
             go_simp
             first | done | exact ⟨rfl, rfl⟩ | rfl
           refine hK _ ?_
           clear hK K
           try simp only [Act.put, List.setIfInBounds_toArray, List.set_cons_zero, List.set_cons_succ])
        | ((with_reducible refine mem_skip ?_ ?_ ?_)
           · exact rfl
           · exact wanted_not rfl rfl rfl rfl
           simp only [Act.put, List.setIfInBounds_toArray, List.set_cons_zero, List.set_cons_succ])
        | ((with_reducible refine mem_pure ?_ ?_ ?_)
           · exact rfl
           · exact wanted_some rfl rfl rfl rfl
           intro K hK
           apply Exists.intro
           refine ⟨fun w3 hw3 => ?_, ?_⟩
           · have hcs := hw3
             simp only [CellsL, List.mem_cons, forall_eq_or_imp, List.not_mem_nil, false_implies, implies_true, and_true] at hcs
             clear hw3
             go_simp
             first | done | exact ⟨rfl, rfl⟩ | rfl
           refine hK _ ?_
           clear hK K
           try simp only [Act.put, List.setIfInBounds_toArray, List.set_cons_zero, List.set_cons_succ]))
      focus
        (with_reducible refine mem_plain (.bool true) ?_ ?_ ?_ ?_ (hw := ?_))
        · exact rfl
        · exact rfl
        · intro w3 hw3 hc3 hp3
          have hcs := hc3
          simp only [CellsL, List.mem_cons, forall_eq_or_imp, List.not_mem_nil, false_implies, implies_true, and_true] at hcs
          (go_simp; have hb3 := hB.trans ((alt_below hw3).mono hB.size); refine (IsArith_any p x y Ag ng cg Ao no co gs os _ (hr.1.below hb3 (Nat.le_refl _)) (hr.2.below hb3 (Nat.le_refl _)) hng hno).mono ?_; rintro e w4 ⟨he, hb4⟩; rw [H0.out] at he; obtain rfl := he; exact retPost.mk_ (postPlain.mk_ hb4))
        rotate_left
        · first | exact wanted_none rfl | exact wanted_some rfl rfl rfl rfl
        try simp only [Act.put, List.setIfInBounds_toArray, List.set_cons_zero, List.set_cons_succ]
      repeat (first
        | ((with_reducible refine mem_pure0 ?_ ?_ ?_)
           · exact rfl
           · exact rfl
           intro K hK
           apply Exists.intro
           refine ⟨fun w3 hw3 => ?_, ?_⟩
           · have hcs := hw3
             simp only [CellsL, List.mem_cons, forall_eq_or_imp, List.not_mem_nil, false_implies, implies_true, and_true] at hcs
             clear hw3
             go_simp
             first | done | exact ⟨rfl, rfl⟩ | rfl
           refine hK _ ?_
           clear hK K
           try simp only [Act.put, List.setIfInBounds_toArray, List.set_cons_zero, List.set_cons_succ])
        | ((with_reducible refine mem_skip ?_ ?_ ?_)
           · exact rfl
           · exact wanted_not rfl rfl rfl rfl
           simp only [Act.put, List.setIfInBounds_toArray, List.set_cons_zero, List.set_cons_succ])
        | ((with_reducible refine mem_pure ?_ ?_ ?_)
           · exact rfl
           · exact wanted_some rfl rfl rfl rfl
           intro K hK
           apply Exists.intro
           refine ⟨fun w3 hw3 => ?_, ?_⟩
           · have hcs := hw3
             simp only [CellsL, List.mem_cons, forall_eq_or_imp, List.not_mem_nil, false_implies, implies_true, and_true] at hcs
             clear hw3
             go_simp
             first | done | exact ⟨rfl, rfl⟩ | rfl
           refine hK _ ?_
           clear hK K
           try simp only [Act.put, List.setIfInBounds_toArray, List.set_cons_zero, List.set_cons_succ]))
      focus
        (with_reducible refine mem_plain (.bool false) ?_ ?_ ?_ ?_ (hw := ?_))
        · exact rfl
        · exact rfl
        · intro w3 hw3 hc3 hp3
          have hcs := hc3
          simp only [CellsL, List.mem_cons, forall_eq_or_imp, List.not_mem_nil, false_implies, implies_true, and_true] at hcs
          (go_simp; refine (within_any k 0 ((no : Int) - 1) _ rfl _).mono ?_; rintro e w9 ⟨he, rfl⟩; rw [HK.out] at he; obtain rfl := he; exact retPost.mk_ (postPlain.mk_ (Below.refl _ _)))
        rotate_left
        · first | exact wanted_none rfl | exact wanted_some rfl rfl rfl rfl
        try simp only [Act.put, List.setIfInBounds_toArray, List.set_cons_zero, List.set_cons_succ]
      repeat (first
        | ((with_reducible refine mem_pure0 ?_ ?_ ?_)
           · exact rfl
           · exact rfl
           intro K hK
           apply Exists.intro
           refine ⟨fun w3 hw3 => ?_, ?_⟩
           · have hcs := hw3
             simp only [CellsL, List.mem_cons, forall_eq_or_imp, List.not_mem_nil, false_implies, implies_true, and_true] at hcs
             clear hw3
             go_simp
             first | done | exact ⟨rfl, rfl⟩ | rfl
           refine hK _ ?_
           clear hK K
           try simp only [Act.put, List.setIfInBounds_toArray, List.set_cons_zero, List.set_cons_succ])
        | ((with_reducible refine mem_skip ?_ ?_ ?_)
           · exact rfl
           · exact wanted_not rfl rfl rfl rfl
           simp only [Act.put, List.setIfInBounds_toArray, List.set_cons_zero, List.set_cons_succ])
        | ((with_reducible refine mem_pure ?_ ?_ ?_)
           · exact rfl
           · exact wanted_some rfl rfl rfl rfl
           intro K hK
           apply Exists.intro
           refine ⟨fun w3 hw3 => ?_, ?_⟩
           · have hcs := hw3
             simp only [CellsL, List.mem_cons, forall_eq_or_imp, List.not_mem_nil, false_implies, implies_true, and_true] at hcs
             clear hw3
             go_simp
             first | done | exact ⟨rfl, rfl⟩ | rfl
           refine hK _ ?_
           clear hK K
           try simp only [Act.put, List.setIfInBounds_toArray, List.set_cons_zero, List.set_cons_succ]))
      refine wpSep_end ?_
      intro wt hwt hct hfin hap
      go_wp2
      go_ret2
      exact RetO.none_ (hB.trans ((alt_below hwt).mono hB.size)) HR.out rfl
    | true =>
      obtain ⟨b1, b2, b3, b4, b5, b6, b7⟩ := arB_bd h0
      have hp := primeB_bd b1
      have hx : 0 ≤ x ∧ x ≤ 8 := b2
      have hy : 0 ≤ y ∧ y ≤ 8 := b3
      obtain ⟨X, hX⟩ : ∃ X : Nat, x + y = X := ⟨(x + y).toNat, by omega⟩
      have hXt : (x + y).toNat = X := by omega
      have hkb0 := inB_iff.1 hk
      obtain ⟨K, rfl⟩ : ∃ K : Nat, k = K := ⟨k.toNat, by omega⟩
      have hKn : K < no := by omega
      rw [hX, hlg] at b6 b7
      have hgat := b6
      have hob := allB_gi b7 (j := K) (by omega)
      obtain ⟨o, hoe⟩ : ∃ o : Nat, Hid (gi os K = o) := ⟨(gi os K).toNat, Lib.hid (by omega)⟩
      rw [hoe.out] at hob
      have hoX : o < X + ng := by omega
      have hX16 : X ≤ 16 := by omega
      obtain ⟨D, hDe⟩ : ∃ D, Hid (gi (degs 1000001 gs X ng) o = D) := ⟨_, Lib.hid rfl⟩
      have HF : Hid (linF p x y gs os K = if D ≤ 1 then some (linL p gs X o X) else none) := Lib.hid (by
        rw [← hDe.out]; unfold linF; rw [h0, hXt, hlg, hlo, hk]; simp only [Int.toNat_natCast, hoe.out, Bool.true_and]
        rw [← deg_cap1]; simp only [decide_eq_true_eq])
      have H0 := Lib.hid h0; have HK := Lib.hid hk
      have hll := degs_len 1000001 gs X ng
      clear h0 hk b1 b6 b7 hob hkb0
      obtain ⟨kb, ob, rfl, hkb, hcs⟩ := (hr.2.below hB (Nat.le_refl _)).2 (by omega)
      have ce := hcs K (by omega)
      rw [hoe.out] at ce
      clear hcs hkb
      by_cases hD : D ≤ 1
      rotate_left
      · have HR : Hid (linF p x y gs os K = none) := Lib.hid (by rw [HF.out, if_neg hD])
        go_enter Try.func30, Try.ntmps30
        have hq := BxA.new (p := p) (x := x) (y := y) (Ag := Ag) (ng := ng) (cg := cg) (Ao := some ⟨kb, ob, none⟩) (no := no) (co := co) w 29
        obtain ⟨k0, k1, k2, k3, k4⟩ := hq
        have hsA : (w.alloc (.cells #[.int .i64 p, .int .i64 x, .int .i64 y, .slice Ag ng cg, .slice (some ⟨kb, ob, none⟩) no co] 29)).heap.size = w.heap.size + 1 := by simp
        have hK0 : (0 : Int) ≤ K := by omega
        have hK1 : (K : Int) < no := by omega
        have ho0 : (0 : Int) ≤ o := by omega
        have ho1 : (o : Int) < ((X + ng : Nat) : Int) := by omega
        have ho2 : (o : Int) < (X : Int) + (ng : Int) := by omega
        go_wp2_with fail
        refine wp_region_mem0 (24) [(⟨w.heap.size, 0, none⟩, .int .i64 p), (⟨w.heap.size, 1, none⟩, .int .i64 x), (⟨w.heap.size, 2, none⟩, .int .i64 y), (⟨w.heap.size, 3, none⟩, .slice Ag ng cg), (⟨w.heap.size, 4, none⟩, .slice (some ⟨kb, ob, none⟩) no co), (⟨kb, ob + K, none⟩, .int .i64 o)] [(1, [], []), (9, [], []), (14, [], []), (21, [14], [])] [] [(1, Res.plain (.bool true)), (9, Res.plain (.bool true)), (14, Res.rowS (w.heap.size + 1) (X + ng) (degs 1000001 gs X ng)), (21, Res.plain (.int .i64 D))] (by kernel_rfl) (by kernel_rfl) (by kernel_rfl) (by simp only [CellsL, List.mem_cons, forall_eq_or_imp, List.not_mem_nil, false_implies, implies_true, and_true]; repeat (any_goals (apply And.intro)); all_goals (first | assumption | go_simp)) ?_
        simp only [List.take_succ_cons, List.take_zero, List.drop_succ_cons, List.drop_zero, List.take_nil, List.drop_nil, List.take, List.drop]
        repeat (first
          | ((with_reducible refine mem_pure0 ?_ ?_ ?_)
             · exact rfl
             · exact rfl
             intro K hK
             apply Exists.intro
             refine ⟨fun w3 hw3 => ?_, ?_⟩
             · have hcs := hw3
               simp only [CellsL, List.mem_cons, forall_eq_or_imp, List.not_mem_nil, false_implies, implies_true, and_true] at hcs
               clear hw3
               go_simp
               first | done | exact ⟨rfl, rfl⟩ | rfl
             refine hK _ ?_
             clear hK K
             try simp only [Act.put, List.setIfInBounds_toArray, List.set_cons_zero, List.set_cons_succ])
          | ((with_reducible refine mem_skip ?_ ?_ ?_)
             · exact rfl
             · exact wanted_not rfl rfl rfl rfl
             simp only [Act.put, List.setIfInBounds_toArray, List.set_cons_zero, List.set_cons_succ])
          | ((with_reducible refine mem_pure ?_ ?_ ?_)
             · exact rfl
             · exact wanted_some rfl rfl rfl rfl
             intro K hK
             apply Exists.intro
             refine ⟨fun w3 hw3 => ?_, ?_⟩
             · have hcs := hw3
               simp only [CellsL, List.mem_cons, forall_eq_or_imp, List.not_mem_nil, false_implies, implies_true, and_true] at hcs
               clear hw3
               go_simp
               first | done | exact ⟨rfl, rfl⟩ | rfl
             refine hK _ ?_
             clear hK K
             try simp only [Act.put, List.setIfInBounds_toArray, List.set_cons_zero, List.set_cons_succ]))
        focus
          (with_reducible refine mem_plain (.bool true) ?_ ?_ ?_ ?_ (hw := ?_))
          · exact rfl
          · exact rfl
          · intro w3 hw3 hc3 hp3
            have hcs := hc3
            simp only [CellsL, List.mem_cons, forall_eq_or_imp, List.not_mem_nil, false_implies, implies_true, and_true] at hcs
            (go_simp; have hb3 := hB.trans ((alt_below hw3).mono hB.size); refine (IsArith_any p x y Ag ng cg (some ⟨kb, ob, none⟩) no co gs os _ (hr.1.below hb3 (Nat.le_refl _)) (hr.2.below hb3 (Nat.le_refl _)) hng hno).mono ?_; rintro e w4 ⟨he, hb4⟩; rw [H0.out] at he; obtain rfl := he; exact retPost.mk_ (postPlain.mk_ hb4))
          rotate_left
          · first | exact wanted_none rfl | exact wanted_some rfl rfl rfl rfl
          try simp only [Act.put, List.setIfInBounds_toArray, List.set_cons_zero, List.set_cons_succ]
        repeat (first
          | ((with_reducible refine mem_pure0 ?_ ?_ ?_)
             · exact rfl
             · exact rfl
             intro K hK
             apply Exists.intro
             refine ⟨fun w3 hw3 => ?_, ?_⟩
             · have hcs := hw3
               simp only [CellsL, List.mem_cons, forall_eq_or_imp, List.not_mem_nil, false_implies, implies_true, and_true] at hcs
               clear hw3
               go_simp
               first | done | exact ⟨rfl, rfl⟩ | rfl
             refine hK _ ?_
             clear hK K
             try simp only [Act.put, List.setIfInBounds_toArray, List.set_cons_zero, List.set_cons_succ])
          | ((with_reducible refine mem_skip ?_ ?_ ?_)
             · exact rfl
             · exact wanted_not rfl rfl rfl rfl
             simp only [Act.put, List.setIfInBounds_toArray, List.set_cons_zero, List.set_cons_succ])
          | ((with_reducible refine mem_pure ?_ ?_ ?_)
             · exact rfl
             · exact wanted_some rfl rfl rfl rfl
             intro K hK
             apply Exists.intro
             refine ⟨fun w3 hw3 => ?_, ?_⟩
             · have hcs := hw3
               simp only [CellsL, List.mem_cons, forall_eq_or_imp, List.not_mem_nil, false_implies, implies_true, and_true] at hcs
               clear hw3
               go_simp
               first | done | exact ⟨rfl, rfl⟩ | rfl
             refine hK _ ?_
             clear hK K
             try simp only [Act.put, List.setIfInBounds_toArray, List.set_cons_zero, List.set_cons_succ]))
        focus
          (with_reducible refine mem_plain (.bool true) ?_ ?_ ?_ ?_ (hw := ?_))
          · exact rfl
          · exact rfl
          · intro w3 hw3 hc3 hp3
            have hcs := hc3
            simp only [CellsL, List.mem_cons, forall_eq_or_imp, List.not_mem_nil, false_implies, implies_true, and_true] at hcs
            (go_simp; refine (within_any (K : Int) 0 ((no : Int) - 1) _ rfl _).mono ?_; rintro e w9 ⟨he, rfl⟩; rw [HK.out] at he; obtain rfl := he; exact retPost.mk_ (postPlain.mk_ (Below.refl _ _)))
          rotate_left
          · first | exact wanted_none rfl | exact wanted_some rfl rfl rfl rfl
          try simp only [Act.put, List.setIfInBounds_toArray, List.set_cons_zero, List.set_cons_succ]
        repeat (first
          | ((with_reducible refine mem_pure0 ?_ ?_ ?_)
             · exact rfl
             · exact rfl
             intro K hK
             apply Exists.intro
             refine ⟨fun w3 hw3 => ?_, ?_⟩
             · have hcs := hw3
               simp only [CellsL, List.mem_cons, forall_eq_or_imp, List.not_mem_nil, false_implies, implies_true, and_true] at hcs
               clear hw3
               go_simp
               first | done | exact ⟨rfl, rfl⟩ | rfl
             refine hK _ ?_
             clear hK K
             try simp only [Act.put, List.setIfInBounds_toArray, List.set_cons_zero, List.set_cons_succ])
          | ((with_reducible refine mem_skip ?_ ?_ ?_)
             · exact rfl
             · exact wanted_not rfl rfl rfl rfl
             simp only [Act.put, List.setIfInBounds_toArray, List.set_cons_zero, List.set_cons_succ])
          | ((with_reducible refine mem_pure ?_ ?_ ?_)
             · exact rfl
             · exact wanted_some rfl rfl rfl rfl
             intro K hK
             apply Exists.intro
             refine ⟨fun w3 hw3 => ?_, ?_⟩
             · have hcs := hw3
               simp only [CellsL, List.mem_cons, forall_eq_or_imp, List.not_mem_nil, false_implies, implies_true, and_true] at hcs
               clear hw3
               go_simp
               first | done | exact ⟨rfl, rfl⟩ | rfl
             refine hK _ ?_
             clear hK K
             try simp only [Act.put, List.setIfInBounds_toArray, List.set_cons_zero, List.set_cons_succ]))
        focus
          (with_reducible refine mem_rowS (w.heap.size + 1) (X + ng) (degs 1000001 gs X ng) ?_ ?_ ?_ ?_ ?_ ?_ (hw := ?_))
          · exact rfl
          · exact rfl
          · omega
          · omega
          · intro w3 hw3 hc3 hp3
            have hcs := hc3
            simp only [CellsL, List.mem_cons, forall_eq_or_imp, List.not_mem_nil, false_implies, implies_true, and_true] at hcs
            (go_simp; have hb3 := hB.trans ((alt_below hw3).mono hB.size); refine (Arith_degrees_any p x y Ag ng cg (some ⟨kb, ob, none⟩) no co X gs _ (hr.1.below hb3 (Nat.le_refl _)) hx hy hX hgat (by omega)).mono ?_; rintro e w4 hT; obtain ⟨A4, c4, rfl, ho4, hb4⟩ := hT.open_ hll; exact retPost.mk_ (postRow.mk_ ho4 hb4))
          rotate_left
          · first | exact wanted_none rfl | exact wanted_some rfl rfl rfl rfl
          intro g2 c2
          try simp only [Act.put, List.setIfInBounds_toArray, List.set_cons_zero, List.set_cons_succ]
        repeat (first
          | ((with_reducible refine mem_pure0 ?_ ?_ ?_)
             · exact rfl
             · exact rfl
             intro K hK
             apply Exists.intro
             refine ⟨fun w3 hw3 => ?_, ?_⟩
             · have hcs := hw3
               simp only [CellsL, List.mem_cons, forall_eq_or_imp, List.not_mem_nil, false_implies, implies_true, and_true] at hcs
               clear hw3
               go_simp
               first | done | exact ⟨rfl, rfl⟩ | rfl
             refine hK _ ?_
             clear hK K
             try simp only [Act.put, List.setIfInBounds_toArray, List.set_cons_zero, List.set_cons_succ])
          | ((with_reducible refine mem_skip ?_ ?_ ?_)
             · exact rfl
             · exact wanted_not rfl rfl rfl rfl
             simp only [Act.put, List.setIfInBounds_toArray, List.set_cons_zero, List.set_cons_succ])
          | ((with_reducible refine mem_pure ?_ ?_ ?_)
             · exact rfl
             · exact wanted_some rfl rfl rfl rfl
             intro K hK
             apply Exists.intro
             refine ⟨fun w3 hw3 => ?_, ?_⟩
             · have hcs := hw3
               simp only [CellsL, List.mem_cons, forall_eq_or_imp, List.not_mem_nil, false_implies, implies_true, and_true] at hcs
               clear hw3
               go_simp
               first | done | exact ⟨rfl, rfl⟩ | rfl
             refine hK _ ?_
             clear hK K
             try simp only [Act.put, List.setIfInBounds_toArray, List.set_cons_zero, List.set_cons_succ]))
        focus
          (with_reducible refine mem_plain (.int .i64 D) ?_ ?_ ?_ ?_ (hw := ?_))
          · exact rfl
          · exact rfl
          · intro w3 hw3 hc3 hp3
            have hcs := hc3
            simp only [CellsL, List.mem_cons, forall_eq_or_imp, List.not_mem_nil, false_implies, implies_true, and_true] at hcs
            (have h14 : Own w3 (w.heap.size + 1) w3.heap.size (.slice (some ⟨g2, 0, none⟩) (X + ng) c2) (X + ng) (degs 1000001 gs X ng) := hp3.1.1.1; obtain ⟨e2, _⟩ := h14.cellAt (k := o) (by omega); rw [hDe.out] at e2; go_simp; exact postPlain.mk_ (Below.refl _ _))
          rotate_left
          · first | exact wanted_none rfl | exact wanted_some rfl rfl rfl rfl
          try simp only [Act.put, List.setIfInBounds_toArray, List.set_cons_zero, List.set_cons_succ]
        repeat (first
          | ((with_reducible refine mem_pure0 ?_ ?_ ?_)
             · exact rfl
             · exact rfl
             intro K hK
             apply Exists.intro
             refine ⟨fun w3 hw3 => ?_, ?_⟩
             · have hcs := hw3
               simp only [CellsL, List.mem_cons, forall_eq_or_imp, List.not_mem_nil, false_implies, implies_true, and_true] at hcs
               clear hw3
               go_simp
               first | done | exact ⟨rfl, rfl⟩ | rfl
             refine hK _ ?_
             clear hK K
             try simp only [Act.put, List.setIfInBounds_toArray, List.set_cons_zero, List.set_cons_succ])
          | ((with_reducible refine mem_skip ?_ ?_ ?_)
             · exact rfl
             · exact wanted_not rfl rfl rfl rfl
             simp only [Act.put, List.setIfInBounds_toArray, List.set_cons_zero, List.set_cons_succ])
          | ((with_reducible refine mem_pure ?_ ?_ ?_)
             · exact rfl
             · exact wanted_some rfl rfl rfl rfl
             intro K hK
             apply Exists.intro
             refine ⟨fun w3 hw3 => ?_, ?_⟩
             · have hcs := hw3
               simp only [CellsL, List.mem_cons, forall_eq_or_imp, List.not_mem_nil, false_implies, implies_true, and_true] at hcs
               clear hw3
               go_simp
               first | done | exact ⟨rfl, rfl⟩ | rfl
             refine hK _ ?_
             clear hK K
             try simp only [Act.put, List.setIfInBounds_toArray, List.set_cons_zero, List.set_cons_succ]))
        refine wpSep_end ?_
        intro w2 hw2 hct hfin hap
        have hbx2 := alt_below hw2
        have hB2 := hB.trans (hbx2.mono hB.size)
        clear k0 k1 k2 k3 k4 ce hfin hap hct hw2
        go_wp2
        go_ret2
        exact RetO.none_ hB2 HR.out rfl
      · have HR : Hid (linF p x y gs os K = some (linL p gs X o X)) := Lib.hid (by rw [HF.out, if_pos hD])
        have hD' : ¬ 1 < D := by omega
        go_enter Try.func30, Try.ntmps30
        have hq := BxA.new (p := p) (x := x) (y := y) (Ag := Ag) (ng := ng) (cg := cg) (Ao := some ⟨kb, ob, none⟩) (no := no) (co := co) w 29
        obtain ⟨k0, k1, k2, k3, k4⟩ := hq
        have hsA : (w.alloc (.cells #[.int .i64 p, .int .i64 x, .int .i64 y, .slice Ag ng cg, .slice (some ⟨kb, ob, none⟩) no co] 29)).heap.size = w.heap.size + 1 := by simp
        have hK0 : (0 : Int) ≤ K := by omega
        have hK1 : (K : Int) < no := by omega
        have ho0 : (0 : Int) ≤ o := by omega
        have ho1 : (o : Int) < ((X + ng : Nat) : Int) := by omega
        have ho2 : (o : Int) < (X : Int) + (ng : Int) := by omega
        go_wp2_with fail
        refine wp_region_mem0 (24) [(⟨w.heap.size, 0, none⟩, .int .i64 p), (⟨w.heap.size, 1, none⟩, .int .i64 x), (⟨w.heap.size, 2, none⟩, .int .i64 y), (⟨w.heap.size, 3, none⟩, .slice Ag ng cg), (⟨w.heap.size, 4, none⟩, .slice (some ⟨kb, ob, none⟩) no co), (⟨kb, ob + K, none⟩, .int .i64 o)] [(1, [], []), (9, [], []), (14, [], []), (21, [14], [])] [] [(1, Res.plain (.bool true)), (9, Res.plain (.bool true)), (14, Res.rowS (w.heap.size + 1) (X + ng) (degs 1000001 gs X ng)), (21, Res.plain (.int .i64 D))] (by kernel_rfl) (by kernel_rfl) (by kernel_rfl) (by simp only [CellsL, List.mem_cons, forall_eq_or_imp, List.not_mem_nil, false_implies, implies_true, and_true]; repeat (any_goals (apply And.intro)); all_goals (first | assumption | go_simp)) ?_
        simp only [List.take_succ_cons, List.take_zero, List.drop_succ_cons, List.drop_zero, List.take_nil, List.drop_nil, List.take, List.drop]
        repeat (first
          | ((with_reducible refine mem_pure0 ?_ ?_ ?_)
             · exact rfl
             · exact rfl
             intro K hK
             apply Exists.intro
             refine ⟨fun w3 hw3 => ?_, ?_⟩
             · have hcs := hw3
               simp only [CellsL, List.mem_cons, forall_eq_or_imp, List.not_mem_nil, false_implies, implies_true, and_true] at hcs
               clear hw3
               go_simp
               first | done | exact ⟨rfl, rfl⟩ | rfl
             refine hK _ ?_
             clear hK K
             try simp only [Act.put, List.setIfInBounds_toArray, List.set_cons_zero, List.set_cons_succ])
          | ((with_reducible refine mem_skip ?_ ?_ ?_)
             · exact rfl
             · exact wanted_not rfl rfl rfl rfl
             simp only [Act.put, List.setIfInBounds_toArray, List.set_cons_zero, List.set_cons_succ])
          | ((with_reducible refine mem_pure ?_ ?_ ?_)
             · exact rfl
             · exact wanted_some rfl rfl rfl rfl
             intro K hK
             apply Exists.intro
             refine ⟨fun w3 hw3 => ?_, ?_⟩
             · have hcs := hw3
               simp only [CellsL, List.mem_cons, forall_eq_or_imp, List.not_mem_nil, false_implies, implies_true, and_true] at hcs
               clear hw3
               go_simp
               first | done | exact ⟨rfl, rfl⟩ | rfl
             refine hK _ ?_
             clear hK K
             try simp only [Act.put, List.setIfInBounds_toArray, List.set_cons_zero, List.set_cons_succ]))
        focus
          (with_reducible refine mem_plain (.bool true) ?_ ?_ ?_ ?_ (hw := ?_))
          · exact rfl
          · exact rfl
          · intro w3 hw3 hc3 hp3
            have hcs := hc3
            simp only [CellsL, List.mem_cons, forall_eq_or_imp, List.not_mem_nil, false_implies, implies_true, and_true] at hcs
            (go_simp; have hb3 := hB.trans ((alt_below hw3).mono hB.size); refine (IsArith_any p x y Ag ng cg (some ⟨kb, ob, none⟩) no co gs os _ (hr.1.below hb3 (Nat.le_refl _)) (hr.2.below hb3 (Nat.le_refl _)) hng hno).mono ?_; rintro e w4 ⟨he, hb4⟩; rw [H0.out] at he; obtain rfl := he; exact retPost.mk_ (postPlain.mk_ hb4))
          rotate_left
          · first | exact wanted_none rfl | exact wanted_some rfl rfl rfl rfl
          try simp only [Act.put, List.setIfInBounds_toArray, List.set_cons_zero, List.set_cons_succ]
        repeat (first
          | ((with_reducible refine mem_pure0 ?_ ?_ ?_)
             · exact rfl
             · exact rfl
             intro K hK
             apply Exists.intro
             refine ⟨fun w3 hw3 => ?_, ?_⟩
             · have hcs := hw3
               simp only [CellsL, List.mem_cons, forall_eq_or_imp, List.not_mem_nil, false_implies, implies_true, and_true] at hcs
               clear hw3
               go_simp
               first | done | exact ⟨rfl, rfl⟩ | rfl
             refine hK _ ?_
             clear hK K
             try simp only [Act.put, List.setIfInBounds_toArray, List.set_cons_zero, List.set_cons_succ])
          | ((with_reducible refine mem_skip ?_ ?_ ?_)
             · exact rfl
             · exact wanted_not rfl rfl rfl rfl
             simp only [Act.put, List.setIfInBounds_toArray, List.set_cons_zero, List.set_cons_succ])
          | ((with_reducible refine mem_pure ?_ ?_ ?_)
             · exact rfl
             · exact wanted_some rfl rfl rfl rfl
             intro K hK
             apply Exists.intro
             refine ⟨fun w3 hw3 => ?_, ?_⟩
             · have hcs := hw3
               simp only [CellsL, List.mem_cons, forall_eq_or_imp, List.not_mem_nil, false_implies, implies_true, and_true] at hcs
               clear hw3
               go_simp
               first | done | exact ⟨rfl, rfl⟩ | rfl
             refine hK _ ?_
             clear hK K
             try simp only [Act.put, List.setIfInBounds_toArray, List.set_cons_zero, List.set_cons_succ]))
        focus
          (with_reducible refine mem_plain (.bool true) ?_ ?_ ?_ ?_ (hw := ?_))
          · exact rfl
          · exact rfl
          · intro w3 hw3 hc3 hp3
            have hcs := hc3
            simp only [CellsL, List.mem_cons, forall_eq_or_imp, List.not_mem_nil, false_implies, implies_true, and_true] at hcs
            (go_simp; refine (within_any (K : Int) 0 ((no : Int) - 1) _ rfl _).mono ?_; rintro e w9 ⟨he, rfl⟩; rw [HK.out] at he; obtain rfl := he; exact retPost.mk_ (postPlain.mk_ (Below.refl _ _)))
          rotate_left
          · first | exact wanted_none rfl | exact wanted_some rfl rfl rfl rfl
          try simp only [Act.put, List.setIfInBounds_toArray, List.set_cons_zero, List.set_cons_succ]
        repeat (first
          | ((with_reducible refine mem_pure0 ?_ ?_ ?_)
             · exact rfl
             · exact rfl
             intro K hK
             apply Exists.intro
             refine ⟨fun w3 hw3 => ?_, ?_⟩
             · have hcs := hw3
               simp only [CellsL, List.mem_cons, forall_eq_or_imp, List.not_mem_nil, false_implies, implies_true, and_true] at hcs
               clear hw3
               go_simp
               first | done | exact ⟨rfl, rfl⟩ | rfl
             refine hK _ ?_
             clear hK K
             try simp only [Act.put, List.setIfInBounds_toArray, List.set_cons_zero, List.set_cons_succ])
          | ((with_reducible refine mem_skip ?_ ?_ ?_)
             · exact rfl
             · exact wanted_not rfl rfl rfl rfl
             simp only [Act.put, List.setIfInBounds_toArray, List.set_cons_zero, List.set_cons_succ])
          | ((with_reducible refine mem_pure ?_ ?_ ?_)
             · exact rfl
             · exact wanted_some rfl rfl rfl rfl
             intro K hK
             apply Exists.intro
             refine ⟨fun w3 hw3 => ?_, ?_⟩
             · have hcs := hw3
               simp only [CellsL, List.mem_cons, forall_eq_or_imp, List.not_mem_nil, false_implies, implies_true, and_true] at hcs
               clear hw3
               go_simp
               first | done | exact ⟨rfl, rfl⟩ | rfl
             refine hK _ ?_
             clear hK K
             try simp only [Act.put, List.setIfInBounds_toArray, List.set_cons_zero, List.set_cons_succ]))
        focus
          (with_reducible refine mem_rowS (w.heap.size + 1) (X + ng) (degs 1000001 gs X ng) ?_ ?_ ?_ ?_ ?_ ?_ (hw := ?_))
          · exact rfl
          · exact rfl
          · omega
          · omega
          · intro w3 hw3 hc3 hp3
            have hcs := hc3
            simp only [CellsL, List.mem_cons, forall_eq_or_imp, List.not_mem_nil, false_implies, implies_true, and_true] at hcs
            (go_simp; have hb3 := hB.trans ((alt_below hw3).mono hB.size); refine (Arith_degrees_any p x y Ag ng cg (some ⟨kb, ob, none⟩) no co X gs _ (hr.1.below hb3 (Nat.le_refl _)) hx hy hX hgat (by omega)).mono ?_; rintro e w4 hT; obtain ⟨A4, c4, rfl, ho4, hb4⟩ := hT.open_ hll; exact retPost.mk_ (postRow.mk_ ho4 hb4))
          rotate_left
          · first | exact wanted_none rfl | exact wanted_some rfl rfl rfl rfl
          intro g2 c2
          try simp only [Act.put, List.setIfInBounds_toArray, List.set_cons_zero, List.set_cons_succ]
        repeat (first
          | ((with_reducible refine mem_pure0 ?_ ?_ ?_)
             · exact rfl
             · exact rfl
             intro K hK
             apply Exists.intro
             refine ⟨fun w3 hw3 => ?_, ?_⟩
             · have hcs := hw3
               simp only [CellsL, List.mem_cons, forall_eq_or_imp, List.not_mem_nil, false_implies, implies_true, and_true] at hcs
               clear hw3
               go_simp
               first | done | exact ⟨rfl, rfl⟩ | rfl
             refine hK _ ?_
             clear hK K
             try simp only [Act.put, List.setIfInBounds_toArray, List.set_cons_zero, List.set_cons_succ])
          | ((with_reducible refine mem_skip ?_ ?_ ?_)
             · exact rfl
             · exact wanted_not rfl rfl rfl rfl
             simp only [Act.put, List.setIfInBounds_toArray, List.set_cons_zero, List.set_cons_succ])
          | ((with_reducible refine mem_pure ?_ ?_ ?_)
             · exact rfl
             · exact wanted_some rfl rfl rfl rfl
             intro K hK
             apply Exists.intro
             refine ⟨fun w3 hw3 => ?_, ?_⟩
             · have hcs := hw3
               simp only [CellsL, List.mem_cons, forall_eq_or_imp, List.not_mem_nil, false_implies, implies_true, and_true] at hcs
               clear hw3
               go_simp
               first | done | exact ⟨rfl, rfl⟩ | rfl
             refine hK _ ?_
             clear hK K
             try simp only [Act.put, List.setIfInBounds_toArray, List.set_cons_zero, List.set_cons_succ]))
        focus
          (with_reducible refine mem_plain (.int .i64 D) ?_ ?_ ?_ ?_ (hw := ?_))
          · exact rfl
          · exact rfl
          · intro w3 hw3 hc3 hp3
            have hcs := hc3
            simp only [CellsL, List.mem_cons, forall_eq_or_imp, List.not_mem_nil, false_implies, implies_true, and_true] at hcs
            (have h14 : Own w3 (w.heap.size + 1) w3.heap.size (.slice (some ⟨g2, 0, none⟩) (X + ng) c2) (X + ng) (degs 1000001 gs X ng) := hp3.1.1.1; obtain ⟨e2, _⟩ := h14.cellAt (k := o) (by omega); rw [hDe.out] at e2; go_simp; exact postPlain.mk_ (Below.refl _ _))
          rotate_left
          · first | exact wanted_none rfl | exact wanted_some rfl rfl rfl rfl
          try simp only [Act.put, List.setIfInBounds_toArray, List.set_cons_zero, List.set_cons_succ]
        repeat (first
          | ((with_reducible refine mem_pure0 ?_ ?_ ?_)
             · exact rfl
             · exact rfl
             intro K hK
             apply Exists.intro
             refine ⟨fun w3 hw3 => ?_, ?_⟩
             · have hcs := hw3
               simp only [CellsL, List.mem_cons, forall_eq_or_imp, List.not_mem_nil, false_implies, implies_true, and_true] at hcs
               clear hw3
               go_simp
               first | done | exact ⟨rfl, rfl⟩ | rfl
             refine hK _ ?_
             clear hK K
             try simp only [Act.put, List.setIfInBounds_toArray, List.set_cons_zero, List.set_cons_succ])
          | ((with_reducible refine mem_skip ?_ ?_ ?_)
             · exact rfl
             · exact wanted_not rfl rfl rfl rfl
             simp only [Act.put, List.setIfInBounds_toArray, List.set_cons_zero, List.set_cons_succ])
          | ((with_reducible refine mem_pure ?_ ?_ ?_)
             · exact rfl
             · exact wanted_some rfl rfl rfl rfl
             intro K hK
             apply Exists.intro
             refine ⟨fun w3 hw3 => ?_, ?_⟩
             · have hcs := hw3
               simp only [CellsL, List.mem_cons, forall_eq_or_imp, List.not_mem_nil, false_implies, implies_true, and_true] at hcs
               clear hw3
               go_simp
               first | done | exact ⟨rfl, rfl⟩ | rfl
             refine hK _ ?_
             clear hK K
             try simp only [Act.put, List.setIfInBounds_toArray, List.set_cons_zero, List.set_cons_succ]))
        refine wpSep_end ?_
        intro w2 hw2 hct hfin hap
        have hbx2 := alt_below hw2
        have hB2 := hB.trans (hbx2.mono hB.size)
        clear k0 k1 k2 k3 k4 ce hfin hap hct hw2
        have hx2 : BxA w2 w.heap.size p x y Ag ng cg (some ⟨kb, ob, none⟩) no co := (BxA.new _ _).below hbx2
        clear hsA
        have hq := hx2; obtain ⟨k0, k1, k2, k3, k4⟩ := hq
        go_wp2_with fail
        refine (Arith_inputs_any p x y Ag ng cg (some ⟨kb, ob, none⟩) no co _ hx hy).mono ?_
        rintro e u3 ⟨rfl, hb3⟩
        rw [hX]
        have hB3 := hB2.trans (hb3.mono hB2.size)
        have hz3 := hB3.size
        have hbx3 := hbx2.trans (hb3.mono hbx2.size)
        have hzx3 := hbx3.size
        simp only [World.size_alloc] at hzx3
        clear k0 k1 k2 k3 k4 hx2 hB2 hbx2 hb3
        go_wp2_with (at_make; refine wpList_make_full _ rfl _ _ 23 rfl (w.heap.size + 1) 3 i0 (.int .i64 0) 1 Try.underlying23 hi hz0 hz1 _ _ _ _ X rfl rfl rfl rfl (by rw [hz2]; omega) (by unfold maxLen; omega) hzx3 ?_; intro w4 hown hgrow)
        have hrep : w4.ownsRow (w.heap.size + 1) 3 1 (.slice (some ⟨u3.heap.size, 0, none⟩) X X) X ((List.replicate X 0).map (Value.int .i64)) := by
          have h : (madeCells (Value.int .i64 0).cells (X * 1)).toList = (List.replicate X 0).map (Value.int .i64) := by
            simp [Value.cells, toList_madeCells_one]
          rw [← h]; exact hown
        have hown4 := Own.mk_ hrep
        have hb4 := below_of_grownBy hgrow
        have hB4 := hB3.trans (hb4.mono hB3.size)
        have hbx4 := hbx3.trans (hb4.mono hbx3.size)
        have hz4 := hb4.size
        clear hrep hown hgrow hB3 hbx3
        have hx4 : BxA w4 w.heap.size p x y Ag ng cg (some ⟨kb, ob, none⟩) no co := (BxA.new _ _).below hbx4
        have ce := RI_cell (hr.2.below hB4 (Nat.le_refl _)) hKn hoe
        obtain ⟨k0, k1, k2, k3, k4⟩ := hx4
        obtain ⟨z, hze⟩ : ∃ z, Hid (linV p gs (List.replicate X 0) o = z) := ⟨_, Lib.hid rfl⟩
        have hzb := linV_bd (p := p) hp.1 (gs := gs) (zeros_bd hp.1 X) (o := o) (by simp; omega)
        have hvl : (avals p gs (List.replicate X 0) ng).length = X + ng := by rw [avals_len]; simp
        have hze' : Hid (gi (avals p gs (List.replicate X 0) ng) o = z) := Lib.hid (by rw [← hze.out, linV, hlg])
        rw [hze.out] at hzb
        have hvx : ((X + ng : Nat) : Int) = X + ng := by omega
        go_wp2_with fail
        refine wp_region_mem0 (11) [(⟨w.heap.size, 0, none⟩, .int .i64 p), (⟨w.heap.size, 1, none⟩, .int .i64 x), (⟨w.heap.size, 2, none⟩, .int .i64 y), (⟨w.heap.size, 3, none⟩, .slice Ag ng cg), (⟨w.heap.size, 4, none⟩, .slice (some ⟨kb, ob, none⟩) no co), (⟨kb, ob + K, none⟩, .int .i64 o)] [(2, [], []), (9, [2], [])] [] [(2, Res.rowS w4.heap.size (X + ng) (avals p gs (List.replicate X 0) ng)), (9, Res.plain (.int .i64 z))] (by kernel_rfl) (by kernel_rfl) (by kernel_rfl) (by simp only [CellsL, List.mem_cons, forall_eq_or_imp, List.not_mem_nil, false_implies, implies_true, and_true]; repeat (any_goals (apply And.intro)); all_goals (first | assumption | go_simp)) ?_
        simp only [List.take_succ_cons, List.take_zero, List.drop_succ_cons, List.drop_zero, List.take_nil, List.drop_nil, List.take, List.drop]
        repeat (first
          | ((with_reducible refine mem_pure0 ?_ ?_ ?_)
             · exact rfl
             · exact rfl
             intro K hK
             apply Exists.intro
             refine ⟨fun w3 hw3 => ?_, ?_⟩
             · have hcs := hw3
               simp only [CellsL, List.mem_cons, forall_eq_or_imp, List.not_mem_nil, false_implies, implies_true, and_true] at hcs
               clear hw3
               go_simp
               first | done | exact ⟨rfl, rfl⟩ | rfl
             refine hK _ ?_
             clear hK K
             try simp only [Act.put, List.setIfInBounds_toArray, List.set_cons_zero, List.set_cons_succ])
          | ((with_reducible refine mem_skip ?_ ?_ ?_)
             · exact rfl
             · exact wanted_not rfl rfl rfl rfl
             simp only [Act.put, List.setIfInBounds_toArray, List.set_cons_zero, List.set_cons_succ])
          | ((with_reducible refine mem_pure ?_ ?_ ?_)
             · exact rfl
             · exact wanted_some rfl rfl rfl rfl
             intro K hK
             apply Exists.intro
             refine ⟨fun w3 hw3 => ?_, ?_⟩
             · have hcs := hw3
               simp only [CellsL, List.mem_cons, forall_eq_or_imp, List.not_mem_nil, false_implies, implies_true, and_true] at hcs
               clear hw3
               go_simp
               first | done | exact ⟨rfl, rfl⟩ | rfl
             refine hK _ ?_
             clear hK K
             try simp only [Act.put, List.setIfInBounds_toArray, List.set_cons_zero, List.set_cons_succ]))
        focus
          (with_reducible refine mem_rowS w4.heap.size (X + ng) (avals p gs (List.replicate X 0) ng) ?_ ?_ ?_ ?_ ?_ ?_ (hw := ?_))
          · exact rfl
          · exact rfl
          · omega
          · omega
          · intro w3 hw3 hc3 hp3
            have hcs := hc3
            simp only [CellsL, List.mem_cons, forall_eq_or_imp, List.not_mem_nil, false_implies, implies_true, and_true] at hcs
            (go_simp; have hb6 := alt_below hw3; refine (Arith_values_any p x y Ag ng cg (some ⟨kb, ob, none⟩) no co (some ⟨u3.heap.size, 0, none⟩) X X gs (List.replicate X 0) _ (hr.1.below (hB4.trans (hb6.mono hB4.size)) (Nat.le_refl _)) (hown4.below hb6 (.inl (Nat.le_refl _))).reads ⟨hp.1, hp.2⟩ (zeros_bd hp.1 X) hgat (by omega) (by omega)).mono ?_; rintro e w7 hT; obtain ⟨A7, c7, rfl, ho7, hb7⟩ := hT.open_ hvl; exact retPost.mk_ (postRow.mk_ ho7 hb7))
          rotate_left
          · first | exact wanted_none rfl | exact wanted_some rfl rfl rfl rfl
          intro g5 c5
          try simp only [Act.put, List.setIfInBounds_toArray, List.set_cons_zero, List.set_cons_succ]
        repeat (first
          | ((with_reducible refine mem_pure0 ?_ ?_ ?_)
             · exact rfl
             · exact rfl
             intro K hK
             apply Exists.intro
             refine ⟨fun w3 hw3 => ?_, ?_⟩
             · have hcs := hw3
               simp only [CellsL, List.mem_cons, forall_eq_or_imp, List.not_mem_nil, false_implies, implies_true, and_true] at hcs
               clear hw3
               go_simp
               first | done | exact ⟨rfl, rfl⟩ | rfl
             refine hK _ ?_
             clear hK K
             try simp only [Act.put, List.setIfInBounds_toArray, List.set_cons_zero, List.set_cons_succ])
          | ((with_reducible refine mem_skip ?_ ?_ ?_)
             · exact rfl
             · exact wanted_not rfl rfl rfl rfl
             simp only [Act.put, List.setIfInBounds_toArray, List.set_cons_zero, List.set_cons_succ])
          | ((with_reducible refine mem_pure ?_ ?_ ?_)
             · exact rfl
             · exact wanted_some rfl rfl rfl rfl
             intro K hK
             apply Exists.intro
             refine ⟨fun w3 hw3 => ?_, ?_⟩
             · have hcs := hw3
               simp only [CellsL, List.mem_cons, forall_eq_or_imp, List.not_mem_nil, false_implies, implies_true, and_true] at hcs
               clear hw3
               go_simp
               first | done | exact ⟨rfl, rfl⟩ | rfl
             refine hK _ ?_
             clear hK K
             try simp only [Act.put, List.setIfInBounds_toArray, List.set_cons_zero, List.set_cons_succ]))
        focus
          (with_reducible refine mem_plain (.int .i64 z) ?_ ?_ ?_ ?_ (hw := ?_))
          · exact rfl
          · exact rfl
          · intro w3 hw3 hc3 hp3
            have hcs := hc3
            simp only [CellsL, List.mem_cons, forall_eq_or_imp, List.not_mem_nil, false_implies, implies_true, and_true] at hcs
            (have h2 : Own w3 w4.heap.size w3.heap.size (.slice (some ⟨g5, 0, none⟩) (X + ng) c5) (X + ng) (avals p gs (List.replicate X 0) ng) := hp3.1.1.1; obtain ⟨e5, _⟩ := h2.cellAt (k := o) (by omega); rw [hze'.out] at e5; go_simp; exact postPlain.mk_ (Below.refl _ _))
          rotate_left
          · first | exact wanted_none rfl | exact wanted_some rfl rfl rfl rfl
          try simp only [Act.put, List.setIfInBounds_toArray, List.set_cons_zero, List.set_cons_succ]
        repeat (first
          | ((with_reducible refine mem_pure0 ?_ ?_ ?_)
             · exact rfl
             · exact rfl
             intro K hK
             apply Exists.intro
             refine ⟨fun w3 hw3 => ?_, ?_⟩
             · have hcs := hw3
               simp only [CellsL, List.mem_cons, forall_eq_or_imp, List.not_mem_nil, false_implies, implies_true, and_true] at hcs
               clear hw3
               go_simp
               first | done | exact ⟨rfl, rfl⟩ | rfl
             refine hK _ ?_
             clear hK K
             try simp only [Act.put, List.setIfInBounds_toArray, List.set_cons_zero, List.set_cons_succ])
          | ((with_reducible refine mem_skip ?_ ?_ ?_)
             · exact rfl
             · exact wanted_not rfl rfl rfl rfl
             simp only [Act.put, List.setIfInBounds_toArray, List.set_cons_zero, List.set_cons_succ])
          | ((with_reducible refine mem_pure ?_ ?_ ?_)
             · exact rfl
             · exact wanted_some rfl rfl rfl rfl
             intro K hK
             apply Exists.intro
             refine ⟨fun w3 hw3 => ?_, ?_⟩
             · have hcs := hw3
               simp only [CellsL, List.mem_cons, forall_eq_or_imp, List.not_mem_nil, false_implies, implies_true, and_true] at hcs
               clear hw3
               go_simp
               first | done | exact ⟨rfl, rfl⟩ | rfl
             refine hK _ ?_
             clear hK K
             try simp only [Act.put, List.setIfInBounds_toArray, List.set_cons_zero, List.set_cons_succ]))
        refine wpSep_end ?_
        intro w5 hw5 hct5 hfin5 hap5
        have hb5 := alt_below hw5
        all_goals
          have hz5 : w4.heap.size ≤ w5.heap.size := hb5.size
          have hbx5 := hbx4.trans (hb5.mono hbx4.size)
          have hI5 : Own w5 (w.heap.size + 1) w5.heap.size (.slice (some ⟨u3.heap.size, 0, none⟩) X X) X (List.replicate X 0) := (hown4.below hb5 (.inl (Nat.le_refl _))).hi_ hz5
          have hI6 := hI5.alloc (.cells #[.int .i64 z] 3)
          have hO6 := (Own_new1 w5 z w5.heap.size (Nat.le_refl _)).now
          have hbx6 : Below (w.heap.size + 1) (w.alloc (.cells #[.int .i64 p, .int .i64 x, .int .i64 y, .slice Ag ng cg, .slice (some ⟨kb, ob, none⟩) no co] 29)) (w5.alloc (.cells #[.int .i64 z] 3)) := by simpa using hbx5.alloc (by simp; omega) (.cells #[.int .i64 z] 3)
          have HL0 : Hid (linL p gs X o 0 = [z]) := Lib.hid (by rw [linL_zero, hze.out])
          rw [← HL0.out] at hO6
          have hg3 : u3.heap.size < w5.heap.size := by have := hI5.lt u3.heap.size (by simp [Value.ownBlock]); omega
          clear hI5 hbx5 hb5 k0 k1 k2 k3 k4 ce hown4 hbx4 hB4 hb4 hfin5 hap5 hct5 hw5
          go_wp2
          go_loopw [8, 51] (fun O i wr => ∃ (j : Nat) (A : Option Addr) (c : Nat), j ≤ X ∧ i = .int .i64 j ∧ O = .slice A (j + 1 : Nat) c ∧ Own wr (w.heap.size + 1) w5.heap.size (.slice (some ⟨u3.heap.size, 0, none⟩) X X) X (List.replicate X 0) ∧ Own wr w5.heap.size wr.heap.size (.slice A (j + 1) c) (j + 1) (linL p gs X o j) ∧ Below (w.heap.size + 1) (w.alloc (.cells #[.int .i64 p, .int .i64 x, .int .i64 y, .slice Ag ng cg, .slice (some ⟨kb, ob, none⟩) no co] 29)) wr) (fun _ i _ => X - (intOf i).toNat)
          case atStart => exact ⟨0, _, _, Nat.zero_le _, rfl, rfl, hI6, hO6, hbx6⟩
          case round =>
            obtain ⟨j, A, c, hj, rfl, rfl, hIn, hOut, hbx⟩ := hrel
            clear hI6 hO6 hbx6
            have hzx := hbx.size
            simp only [World.size_alloc] at hzx
            by_cases hlt : j < X
            · obtain ⟨hc, hf⟩ := hIn.cellAt hlt
              obtain ⟨hs1, hs2⟩ := hIn.stored j 1
              have hs1' : Own (wr.setCell ⟨u3.heap.size, j, none⟩ (.int .i64 1)) (w.heap.size + 1) w5.heap.size (.slice (some ⟨u3.heap.size, 0, none⟩) X X) X (unitL X j) := hs1
              have hOut1 := hOut.far ⟨u3.heap.size, j, none⟩ (.int .i64 1) (.inl hg3)
              have hbx1 := hbx.setCell (p := ⟨u3.heap.size, j, none⟩) (by show w.heap.size + 1 ≤ u3.heap.size; omega) (.int .i64 1)
              have hB1 := hB.trans (hbx1.mono (by omega))
              have hx1 : BxA _ w.heap.size p x y Ag ng cg (some ⟨kb, ob, none⟩) no co := (BxA.new _ _).below (by simpa using hbx1)
              have ce := RI_cell (hr.2.below hB1 (Nat.le_refl _)) hKn hoe
              obtain ⟨k0, k1, k2, k3, k4⟩ := hx1
              obtain ⟨u, hue⟩ : ∃ u, Hid (linV p gs (unitL X j) o = u) := ⟨_, Lib.hid rfl⟩
              have hub := linV_bd (p := p) hp.1 (gs := gs) (unitL_bd hp.1 X j) (o := o) (by rw [unitL_len]; omega)
              have hul : (avals p gs (unitL X j) ng).length = X + ng := by rw [avals_len, unitL_len]
              have hue' : Hid (gi (avals p gs (unitL X j) ng) o = u) := Lib.hid (by rw [← hue.out, linV, hlg])
              rw [hue.out] at hub
              have hsn : Hid (linL p gs X o (j + 1) = linL p gs X o j ++ [(u - z) % p]) := Lib.hid (by rw [linL_snoc, hue.out, hze.out])
              have hpz : ¬ p = 0 := by omega
              have hwz : IntKind.i64.wrap (u - z) = u - z := IntWalk.i64_in _ (by omega)
              have hwp : IntKind.i64.wrap (u - z + p) = u - z + p := IntWalk.i64_in _ (by omega)
              have htm : (u - z + p).tmod p = (u - z) % p := by rw [Int.tmod_eq_emod_of_nonneg (by omega), lin_mod hp.1]
              have hsW : (wr.setCell ⟨u3.heap.size, j, none⟩ (.int .i64 1)).heap.size = wr.heap.size := by simp
              have hno1 : ∀ i, i < w5.heap.size → ¬ (Value.slice A (j + 1) c).ownBlock = some i := fun i hi hc => by have := hOut1.lt i hc; omega
              have hle5 : w5.heap.size ≤ wr.heap.size := by obtain ⟨g9, _, h1, h2, _⟩ := hOut.some_ (by omega); omega
              have hnk : ∀ i, i < w5.heap.size → ¬ okB (wr.setCell ⟨u3.heap.size, j, none⟩ (.int .i64 1)) (fun b => (Value.slice A (j + 1) c).ownBlock = some b) i := fun i hi ho => by
                rcases ho with ho | ho
                · rw [hsW] at ho; omega
                · exact hno1 i hi ho
              have hk5 : kb < w5.heap.size := by have := hr.2.lt (Nat.le_refl _) (by omega) kb ob rfl; omega
              clear hIn hOut hbx hs1 hs2
              go_wp2_with fail
              refine wp_region_mem (22) ((fun b => (Value.slice A (j + 1) c).ownBlock = some b)) [(⟨w.heap.size, 0, none⟩, .int .i64 p), (⟨w.heap.size, 1, none⟩, .int .i64 x), (⟨w.heap.size, 2, none⟩, .int .i64 y), (⟨w.heap.size, 3, none⟩, .slice Ag ng cg), (⟨w.heap.size, 4, none⟩, .slice (some ⟨kb, ob, none⟩) no co), (⟨kb, ob + K, none⟩, .int .i64 o)] [(3, [], []), (10, [3], []), (19, [], []), (20, [100, 19], [100])] [100] [20] [(100, Res.row w5.heap.size (j + 1) (linL p gs X o j)), (3, Res.rowS w5.heap.size (X + ng) (avals p gs (unitL X j) ng)), (10, Res.plain (.int .i64 u)), (19, Res.row w5.heap.size 1 [(u - z) % p]), (20, Res.row w5.heap.size (j + 1 + 1) (linL p gs X o j ++ [(u - z) % p]))] ((upd (fun _ => undef) 100 (.slice A (j + 1) c))) (by kernel_rfl) (by kernel_rfl) (by kernel_rfl) (by simp only [CellsL, List.mem_cons, forall_eq_or_imp, List.not_mem_nil, false_implies, implies_true, and_true]; repeat (any_goals (apply And.intro)); all_goals (first | assumption | go_simp)) (fun q9 hq9 => hno1 q9.1.block (by revert q9; simp only [List.mem_cons, forall_eq_or_imp, List.not_mem_nil, false_implies, implies_true, and_true]; omega)) (⟨⟨hOut1.now, fun b hb => ⟨.inr hb, (hOut1.lt b hb).2.2⟩⟩, trivial⟩) (fun d hd d' hd' hn => by simp at hd hd'; omega) ?_
              simp only [List.take_succ_cons, List.take_zero, List.drop_succ_cons, List.drop_zero, List.take_nil, List.drop_nil, List.take, List.drop]
              repeat (first
                | ((with_reducible refine mem_pure0 ?_ ?_ ?_)
                   · exact rfl
                   · exact rfl
                   intro K hK
                   apply Exists.intro
                   refine ⟨fun w3 hw3 => ?_, ?_⟩
                   · have hcs := hw3
                     simp only [CellsL, List.mem_cons, forall_eq_or_imp, List.not_mem_nil, false_implies, implies_true, and_true] at hcs
                     clear hw3
                     go_simp
                     first | done | exact ⟨rfl, rfl⟩ | rfl
                   refine hK _ ?_
                   clear hK K
                   try simp only [Act.put, List.setIfInBounds_toArray, List.set_cons_zero, List.set_cons_succ])
                | ((with_reducible refine mem_skip ?_ ?_ ?_)
                   · exact rfl
                   · exact wanted_not rfl rfl rfl rfl
                   simp only [Act.put, List.setIfInBounds_toArray, List.set_cons_zero, List.set_cons_succ])
                | ((with_reducible refine mem_pure ?_ ?_ ?_)
                   · exact rfl
                   · exact wanted_some rfl rfl rfl rfl
                   intro K hK
                   apply Exists.intro
                   refine ⟨fun w3 hw3 => ?_, ?_⟩
                   · have hcs := hw3
                     simp only [CellsL, List.mem_cons, forall_eq_or_imp, List.not_mem_nil, false_implies, implies_true, and_true] at hcs
                     clear hw3
                     go_simp
                     first | done | exact ⟨rfl, rfl⟩ | rfl
                   refine hK _ ?_
                   clear hK K
                   try simp only [Act.put, List.setIfInBounds_toArray, List.set_cons_zero, List.set_cons_succ]))
              focus
                (with_reducible refine mem_rowS w5.heap.size (X + ng) (avals p gs (unitL X j) ng) ?_ ?_ ?_ ?_ ?_ ?_ (hw := ?_))
                · exact rfl
                · exact rfl
                · omega
                · omega
                · intro w3 hw3 hc3 hp3
                  have hcs := hc3
                  simp only [CellsL, List.mem_cons, forall_eq_or_imp, List.not_mem_nil, false_implies, implies_true, and_true] at hcs
                  (go_simp; refine (Arith_values_any p x y Ag ng cg (some ⟨kb, ob, none⟩) no co (some ⟨u3.heap.size, 0, none⟩) X X gs (unitL X j) _ (hr.1.below (hB1.trans (hw3.below_ (B := w.heap.size) (by rw [hsW]; omega) (fun i hi => hnk i (by omega)))) (Nat.le_refl _)) (hs1'.alt hw3 (fun g hg => hnk g (by have := hs1'.lt g hg; omega))).reads ⟨hp.1, hp.2⟩ (unitL_bd hp.1 X j) hgat (by omega) (by omega)).mono ?_; rintro e w7 hT; obtain ⟨A7, c7, rfl, ho7, hb7⟩ := hT.open_ hul; exact retPost.mk_ (postRow.mk_ ho7 hb7))
                rotate_left
                · first | exact wanted_none rfl | exact wanted_some rfl rfl rfl rfl
                intro g7 c7
                try simp only [Act.put, List.setIfInBounds_toArray, List.set_cons_zero, List.set_cons_succ]
              repeat (first
                | ((with_reducible refine mem_pure0 ?_ ?_ ?_)
                   · exact rfl
                   · exact rfl
                   intro K hK
                   apply Exists.intro
                   refine ⟨fun w3 hw3 => ?_, ?_⟩
                   · have hcs := hw3
                     simp only [CellsL, List.mem_cons, forall_eq_or_imp, List.not_mem_nil, false_implies, implies_true, and_true] at hcs
                     clear hw3
                     go_simp
                     first | done | exact ⟨rfl, rfl⟩ | rfl
                   refine hK _ ?_
                   clear hK K
                   try simp only [Act.put, List.setIfInBounds_toArray, List.set_cons_zero, List.set_cons_succ])
                | ((with_reducible refine mem_skip ?_ ?_ ?_)
                   · exact rfl
                   · exact wanted_not rfl rfl rfl rfl
                   simp only [Act.put, List.setIfInBounds_toArray, List.set_cons_zero, List.set_cons_succ])
                | ((with_reducible refine mem_pure ?_ ?_ ?_)
                   · exact rfl
                   · exact wanted_some rfl rfl rfl rfl
                   intro K hK
                   apply Exists.intro
                   refine ⟨fun w3 hw3 => ?_, ?_⟩
                   · have hcs := hw3
                     simp only [CellsL, List.mem_cons, forall_eq_or_imp, List.not_mem_nil, false_implies, implies_true, and_true] at hcs
                     clear hw3
                     go_simp
                     first | done | exact ⟨rfl, rfl⟩ | rfl
                   refine hK _ ?_
                   clear hK K
                   try simp only [Act.put, List.setIfInBounds_toArray, List.set_cons_zero, List.set_cons_succ]))
              focus
                (with_reducible refine mem_plain (.int .i64 u) ?_ ?_ ?_ ?_ (hw := ?_))
                · exact rfl
                · exact rfl
                · intro w3 hw3 hc3 hp3
                  have hcs := hc3
                  simp only [CellsL, List.mem_cons, forall_eq_or_imp, List.not_mem_nil, false_implies, implies_true, and_true] at hcs
                  (have h3 : Own w3 w5.heap.size w3.heap.size (.slice (some ⟨g7, 0, none⟩) (X + ng) c7) (X + ng) (avals p gs (unitL X j) ng) := hp3.1.1.1; obtain ⟨e7, _⟩ := h3.cellAt (k := o) (by omega); rw [hue'.out] at e7; go_simp; exact postPlain.mk_ (Below.refl _ _))
                rotate_left
                · first | exact wanted_none rfl | exact wanted_some rfl rfl rfl rfl
                try simp only [Act.put, List.setIfInBounds_toArray, List.set_cons_zero, List.set_cons_succ]
              repeat (first
                | ((with_reducible refine mem_pure0 ?_ ?_ ?_)
                   · exact rfl
                   · exact rfl
                   intro K hK
                   apply Exists.intro
                   refine ⟨fun w3 hw3 => ?_, ?_⟩
                   · have hcs := hw3
                     simp only [CellsL, List.mem_cons, forall_eq_or_imp, List.not_mem_nil, false_implies, implies_true, and_true] at hcs
                     clear hw3
                     go_simp
                     first | done | exact ⟨rfl, rfl⟩ | rfl
                   refine hK _ ?_
                   clear hK K
                   try simp only [Act.put, List.setIfInBounds_toArray, List.set_cons_zero, List.set_cons_succ])
                | ((with_reducible refine mem_skip ?_ ?_ ?_)
                   · exact rfl
                   · exact wanted_not rfl rfl rfl rfl
                   simp only [Act.put, List.setIfInBounds_toArray, List.set_cons_zero, List.set_cons_succ])
                | ((with_reducible refine mem_pure ?_ ?_ ?_)
                   · exact rfl
                   · exact wanted_some rfl rfl rfl rfl
                   intro K hK
                   apply Exists.intro
                   refine ⟨fun w3 hw3 => ?_, ?_⟩
                   · have hcs := hw3
                     simp only [CellsL, List.mem_cons, forall_eq_or_imp, List.not_mem_nil, false_implies, implies_true, and_true] at hcs
                     clear hw3
                     go_simp
                     first | done | exact ⟨rfl, rfl⟩ | rfl
                   refine hK _ ?_
                   clear hK K
                   try simp only [Act.put, List.setIfInBounds_toArray, List.set_cons_zero, List.set_cons_succ]))
              focus
                (with_reducible refine mem_row w5.heap.size 1 [(u - z) % p] ?_ ?_ ?_ ?_ ?_ (hw := ?_))
                · exact rfl
                · exact rfl
                · omega
                · intro w3 hw3 hc3 hp3
                  have hcs := hc3
                  simp only [CellsL, List.mem_cons, forall_eq_or_imp, List.not_mem_nil, false_implies, implies_true, and_true] at hcs
                  (go_simp; exact postRow.new1 _ _)
                rotate_left
                · first | exact wanted_none rfl | exact wanted_some rfl rfl rfl rfl
                intro A9 c9
                try simp only [Act.put, List.setIfInBounds_toArray, List.set_cons_zero, List.set_cons_succ]
              repeat (first
                | ((with_reducible refine mem_pure0 ?_ ?_ ?_)
                   · exact rfl
                   · exact rfl
                   intro K hK
                   apply Exists.intro
                   refine ⟨fun w3 hw3 => ?_, ?_⟩
                   · have hcs := hw3
                     simp only [CellsL, List.mem_cons, forall_eq_or_imp, List.not_mem_nil, false_implies, implies_true, and_true] at hcs
                     clear hw3
                     go_simp
                     first | done | exact ⟨rfl, rfl⟩ | rfl
                   refine hK _ ?_
                   clear hK K
                   try simp only [Act.put, List.setIfInBounds_toArray, List.set_cons_zero, List.set_cons_succ])
                | ((with_reducible refine mem_skip ?_ ?_ ?_)
                   · exact rfl
                   · exact wanted_not rfl rfl rfl rfl
                   simp only [Act.put, List.setIfInBounds_toArray, List.set_cons_zero, List.set_cons_succ])
                | ((with_reducible refine mem_pure ?_ ?_ ?_)
                   · exact rfl
                   · exact wanted_some rfl rfl rfl rfl
                   intro K hK
                   apply Exists.intro
                   refine ⟨fun w3 hw3 => ?_, ?_⟩
                   · have hcs := hw3
                     simp only [CellsL, List.mem_cons, forall_eq_or_imp, List.not_mem_nil, false_implies, implies_true, and_true] at hcs
                     clear hw3
                     go_simp
                     first | done | exact ⟨rfl, rfl⟩ | rfl
                   refine hK _ ?_
                   clear hK K
                   try simp only [Act.put, List.setIfInBounds_toArray, List.set_cons_zero, List.set_cons_succ]))
              refine mem_appI 100 w5.heap.size (j + 1) 1 (linL p gs X o j) [(u - z) % p] A c A9 c9 (.tmp 57) (.tmp 76) (by rfl) (by rfl) (by rw [hsW]; omega) (by rfl) (by rfl) (by decide) (by rfl) (by rfl) (by rfl) (by rfl) (by omega) (fun w6 hw6 hc6 hp6 => ?_) (fun A8 c8 => ?_)
              · have h19 : Own w6 w5.heap.size w6.heap.size (.slice A9 1 c9) 1 [(u - z) % p] := hp6.1.2.1.1
                exact h19.reads
              try simp only [Act.put, List.setIfInBounds_toArray, List.set_cons_zero, List.set_cons_succ]
              repeat (first
                | ((with_reducible refine mem_pure0 ?_ ?_ ?_)
                   · exact rfl
                   · exact rfl
                   intro K hK
                   apply Exists.intro
                   refine ⟨fun w3 hw3 => ?_, ?_⟩
                   · have hcs := hw3
                     simp only [CellsL, List.mem_cons, forall_eq_or_imp, List.not_mem_nil, false_implies, implies_true, and_true] at hcs
                     clear hw3
                     go_simp
                     first | done | exact ⟨rfl, rfl⟩ | rfl
                   refine hK _ ?_
                   clear hK K
                   try simp only [Act.put, List.setIfInBounds_toArray, List.set_cons_zero, List.set_cons_succ])
                | ((with_reducible refine mem_skip ?_ ?_ ?_)
                   · exact rfl
                   · exact wanted_not rfl rfl rfl rfl
                   simp only [Act.put, List.setIfInBounds_toArray, List.set_cons_zero, List.set_cons_succ])
                | ((with_reducible refine mem_pure ?_ ?_ ?_)
                   · exact rfl
                   · exact wanted_some rfl rfl rfl rfl
                   intro K hK
                   apply Exists.intro
                   refine ⟨fun w3 hw3 => ?_, ?_⟩
                   · have hcs := hw3
                     simp only [CellsL, List.mem_cons, forall_eq_or_imp, List.not_mem_nil, false_implies, implies_true, and_true] at hcs
                     clear hw3
                     go_simp
                     first | done | exact ⟨rfl, rfl⟩ | rfl
                   refine hK _ ?_
                   clear hK K
                   try simp only [Act.put, List.setIfInBounds_toArray, List.set_cons_zero, List.set_cons_succ]))
              refine wpSep_end ?_
              intro wt hwt hct hfin hap
              have hown8 : Own wt w5.heap.size wt.heap.size (.slice A8 (j + 1 + 1) c8) (j + 1 + 1) (linL p gs X o j ++ [(u - z) % p]) := hfin.1.1
              all_goals
                have hI8 := (hs1'.alt hwt (fun g hg => hnk g (by have := hs1'.lt g hg; omega)))
                have hbx8 := hbx1.trans (hwt.below_ (B := w.heap.size + 1) (by rw [hsW]; omega) (fun i hi => hnk i (by omega)))
                obtain ⟨hc8, hf8⟩ := hI8.cellAt hlt
                obtain ⟨ht1, _⟩ := hI8.stored j 0
                rw [unitL_back] at ht1
                rw [← hsn.out] at hown8
                have ho9 := hown8.far ⟨u3.heap.size, j, none⟩ (.int .i64 0) (.inl hg3)
                have hbx9 := hbx8.setCell (p := ⟨u3.heap.size, j, none⟩) (by show w.heap.size + 1 ≤ u3.heap.size; omega) (.int .i64 0)
                clear hI8 hown8 hbx8 hs1' hOut1 hbx1 k0 k1 k2 k3 k4 ce hwt hct hap
                go_wp2
                go_roundw
                case rel => exact ⟨j + 1, _, _, by omega, by go_num, rfl, ht1, by simpa using ho9, hbx9⟩
                case measure => simp [intOf]; omega
            · obtain rfl : X = j := Nat.le_antisymm (Nat.le_of_not_lt hlt) hj
              have hl9 : (linL p gs X o X).length = X + 1 := linL_len _ _ _ _ _
              go_wp2
              go_ret2
              exact RetO.some_ (hB.trans (hbx.mono (by omega))) HR.out hl9 rfl (hOut.lo_ (by omega))

end Go.Proofs.Ytadgmbkpbgcdjaa
