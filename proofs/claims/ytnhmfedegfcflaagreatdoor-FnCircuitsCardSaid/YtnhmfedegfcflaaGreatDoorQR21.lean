/- ThenCircuit of the reference. Lengths below 2^21. -/
import Derived.Test.YtnhmfedegfcflaaGreatDoorQR20
namespace Go.Proofs.YtnhmfedegfcflaaGreatDoor
open Go.RowKit
set_option linter.unusedVariables false
set_option linter.unusedSimpArgs false
attribute [local go_sem] sepAt sepUpon pureAt pureUpon
set_option maxRecDepth 100000 in
set_option maxHeartbeats 3000000 in
theorem spec_ThenCircuit_any (x y : Int) (Ag : Option Addr) (ng cg : Nat) (Ao : Option Addr) (no co : Nat) (u v : Int) (Dg : Option Addr) (mg dg : Nat) (Do : Option Addr) (mo do_ : Nat) (gs : List G3) (os : List Int) (hs : List G3) (ps : List Int) (w : World) (hr : RG w Ag ng gs ∧ RI w Ao no os) (hng : ng ≤ 2097152) (hno : no ≤ 2097152) (hr2 : RG w Dg mg hs ∧ RI w Do mo ps) (hmg : mg ≤ 2097152) (hmo : mo ≤ 2097152) :
 Calls Tryz.prog 15 #[.agg #[.int .i64 x, .int .i64 y, .slice Ag ng cg, .slice Ao no co], .agg #[.int .i64 u, .int .i64 v, .slice Dg mg dg, .slice Do mo do_]] w (RetC w (thenF x y gs os u v hs ps)) := by
 have hlg := hr.1.len
 have hlo := hr.2.len
 have hlh := hr2.1.len
 have hlp := hr2.2.len
 have hB : Below w.heap.size w (((w.alloc (.cells #[.int .i64 x, .int .i64 y, .slice Ag ng cg, .slice Ao no co] 27)).alloc (.cells #[.int .i64 u, .int .i64 v, .slice Dg mg dg, .slice Do mo do_] 27)).alloc (.cells #[.int .i64 0, .int .i64 0, .slice none 0 0, .slice none 0 0] 27)) := ((bA).alloc (by simp) _).alloc (by simp; omega) _
 have hc0 : BxC (((w.alloc (.cells #[.int .i64 x, .int .i64 y, .slice Ag ng cg, .slice Ao no co] 27)).alloc (.cells #[.int .i64 u, .int .i64 v, .slice Dg mg dg, .slice Do mo do_] 27)).alloc (.cells #[.int .i64 0, .int .i64 0, .slice none 0 0, .slice none 0 0] 27)) w.heap.size x y Ag ng cg Ao no co := ((BxC.new w _).below (bA)).below (bA)
 have hd0 : BxC (((w.alloc (.cells #[.int .i64 x, .int .i64 y, .slice Ag ng cg, .slice Ao no co] 27)).alloc (.cells #[.int .i64 u, .int .i64 v, .slice Dg mg dg, .slice Do mo do_] 27)).alloc (.cells #[.int .i64 0, .int .i64 0, .slice none 0 0, .slice none 0 0] 27)) (w.heap.size + 1) u v Dg mg dg Do mo do_ := by
  have h := (BxC.new (x := u) (y := v) (Ag := Dg) (ng := mg) (cg := dg) (Ao := Do) (no := mo) (co := do_) (w.alloc (.cells #[.int .i64 x, .int .i64 y, .slice Ag ng cg, .slice Ao no co] 27)) 27).below ((Below.refl _ _).alloc lR (.cells #[.int .i64 0, .int .i64 0, .slice none 0 0, .slice none 0 0] 27))
  simpa using h
 have hz0 : BxC (((w.alloc (.cells #[.int .i64 x, .int .i64 y, .slice Ag ng cg, .slice Ao no co] 27)).alloc (.cells #[.int .i64 u, .int .i64 v, .slice Dg mg dg, .slice Do mo do_] 27)).alloc (.cells #[.int .i64 0, .int .i64 0, .slice none 0 0, .slice none 0 0] 27)) (w.heap.size + 2) 0 0 none 0 0 none 0 0 := by
  have h := BxC.new (x := 0) (y := 0) (Ag := none) (ng := 0) (cg := 0) (Ao := none) (no := 0) (co := 0) ((w.alloc (.cells #[.int .i64 x, .int .i64 y, .slice Ag ng cg, .slice Ao no co] 27)).alloc (.cells #[.int .i64 u, .int .i64 v, .slice Dg mg dg, .slice Do mo do_] 27)) 27
  simpa using h
 have fz0 : Fz (((w.alloc (.cells #[.int .i64 x, .int .i64 y, .slice Ag ng cg, .slice Ao no co] 27)).alloc (.cells #[.int .i64 u, .int .i64 v, .slice Dg mg dg, .slice Do mo do_] 27)).alloc (.cells #[.int .i64 0, .int .i64 0, .slice none 0 0, .slice none 0 0] 27)) (w.heap.size + 2) := by
  have h := Fz.new ((w.alloc (.cells #[.int .i64 x, .int .i64 y, .slice Ag ng cg, .slice Ao no co] 27)).alloc (.cells #[.int .i64 u, .int .i64 v, .slice Dg mg dg, .slice Do mo do_] 27)) #[.int .i64 0, .int .i64 0, .slice none 0 0, .slice none 0 0] 27
  simpa using h
 have hs0 : (((w.alloc (.cells #[.int .i64 x, .int .i64 y, .slice Ag ng cg, .slice Ao no co] 27)).alloc (.cells #[.int .i64 u, .int .i64 v, .slice Dg mg dg, .slice Do mo do_] 27)).alloc (.cells #[.int .i64 0, .int .i64 0, .slice none 0 0, .slice none 0 0] 27)).heap.size = w.heap.size + 3 := by simp
 have ht0 : (((w.alloc (.cells #[.int .i64 x, .int .i64 y, .slice Ag ng cg, .slice Ao no co] 27)).alloc (.cells #[.int .i64 u, .int .i64 v, .slice Dg mg dg, .slice Do mo do_] 27)).alloc (.cells #[.int .i64 0, .int .i64 0, .slice none 0 0, .slice none 0 0] 27)).heap.size = (((w.alloc (.cells #[.int .i64 x, .int .i64 y, .slice Ag ng cg, .slice Ao no co] 27)).alloc (.cells #[.int .i64 u, .int .i64 v, .slice Dg mg dg, .slice Do mo do_] 27)).alloc (.cells #[.int .i64 0, .int .i64 0, .slice none 0 0, .slice none 0 0] 27)).heap.size := rfl
 obtain ⟨V0, hV0⟩ : ∃ V0, V0 = (((w.alloc (.cells #[.int .i64 x, .int .i64 y, .slice Ag ng cg, .slice Ao no co] 27)).alloc (.cells #[.int .i64 u, .int .i64 v, .slice Dg mg dg, .slice Do mo do_] 27)).alloc (.cells #[.int .i64 0, .int .i64 0, .slice none 0 0, .slice none 0 0] 27)) := ⟨_, rfl⟩
 have hB0 : Below w.heap.size w V0 := by rw [hV0]; exact hB
 have hcV : BxC V0 w.heap.size x y Ag ng cg Ao no co := by rw [hV0]; exact hc0
 have hdV : BxC V0 (w.heap.size + 1) u v Dg mg dg Do mo do_ := by rw [hV0]; exact hd0
 have hzV : BxC V0 (w.heap.size + 2) 0 0 none 0 0 none 0 0 := by rw [hV0]; exact hz0
 have fzV : Fz V0 (w.heap.size + 2) := by rw [hV0]; exact fz0
 have hsV : V0.heap.size = w.heap.size + 3 := by rw [hV0]; exact hs0
 clear hV0 ht0 hB0 hcV hdV hzV fzV hsV V0
 cases h0 : circB x y gs os with
 | false =>
  have HR := zH (thenF_1 (u := u) (v := v) (hs := hs) (ps := ps) h0)
  have H0 := zH h0; clear h0
  go_enter Tryz.func15, Tryz.ntmps15
  have hq := hc0; obtain ⟨k0, k1, k2, k3⟩ := hq
  have hq := hd0; obtain ⟨l0, l1, l2, l3⟩ := hq
  go_wp2_with fail
  refine Zai ((w.heap.size + 3)) ((((w.alloc (.cells #[.int .i64 x, .int .i64 y, .slice Ag ng cg, .slice Ao no co] 27)).alloc (.cells #[.int .i64 u, .int .i64 v, .slice Dg mg dg, .slice Do mo do_] 27)).alloc (.cells #[.int .i64 0, .int .i64 0, .slice none 0 0, .slice none 0 0] 27))) [(⟨w.heap.size, 0, none⟩, .int .i64 x), (⟨w.heap.size, 1, none⟩, .int .i64 y), (⟨w.heap.size, 2, none⟩, .slice Ag ng cg), (⟨w.heap.size, 3, none⟩, .slice Ao no co), (⟨w.heap.size + 1, 0, none⟩, .int .i64 u), (⟨w.heap.size + 1, 1, none⟩, .int .i64 v), (⟨w.heap.size + 1, 2, none⟩, .slice Dg mg dg), (⟨w.heap.size + 1, 3, none⟩, .slice Do mo do_)] (by kernel_rfl) (by kernel_rfl) (by simp only [List.mem_cons, forall_eq_or_imp, List.not_mem_nil, false_implies, implies_true, and_true]; repeat (any_goals (apply And.intro)); all_goals (first | assumption | go_simp)) ?_
  repeat (first
   | go_big_quiet_skip
   | (go_big_quiet_want
      apply Exists.intro
      refine ⟨fun w3 hw3 => ?_, ?_⟩
      ·have hcs := hw3.2
       simp only [List.mem_cons, forall_eq_or_imp, List.not_mem_nil, false_implies, implies_true, and_true] at hcs
       simp only [Oper.quietAt]
       go_simp
       first | done | exact ⟨rfl, rfl⟩ | rfl | (go_at_call_of 34 (Value.agg #[.int .i64 x, .int .i64 y, .slice Ag ng cg, .slice Ao no co]); refine (Zap x y Ag ng cg Ao no co gs os _ (hr.1.below (hB.trans (hw3.1.mono (by omega))) lR) (hr.2.below (hB.trans (hw3.1.mono (by omega))) lR) hng hno).mono ?_; rintro e w4 ⟨he, hb4⟩; rw [H0.out] at he; obtain rfl := he; exact ⟨rfl, hw3.next hb4 (by simp)⟩)
      go_big_quiet_on
      try simp only [pA, pB, sA, sB, sC]))
  refine wpQuiet_nil ?_
  intro wq hwq
  have hb1 : Below (((w.alloc (.cells #[.int .i64 x, .int .i64 y, .slice Ag ng cg, .slice Ao no co] 27)).alloc (.cells #[.int .i64 u, .int .i64 v, .slice Dg mg dg, .slice Do mo do_] 27)).alloc (.cells #[.int .i64 0, .int .i64 0, .slice none 0 0, .slice none 0 0] 27)).heap.size (((w.alloc (.cells #[.int .i64 x, .int .i64 y, .slice Ag ng cg, .slice Ao no co] 27)).alloc (.cells #[.int .i64 u, .int .i64 v, .slice Dg mg dg, .slice Do mo do_] 27)).alloc (.cells #[.int .i64 0, .int .i64 0, .slice none 0 0, .slice none 0 0] 27)) wq := by rw [hs0]; exact hwq.1
  have hBq := hB.trans (hb1.mono hB.size)
  have hcq := hc0.below hb1
  have hdq := hd0.below hb1
  have hzq := hz0.below hb1
  have fzq := fz0.below hb1 (by rw [hs0]; omega)
  have hsq := hb1.size
  rw [hs0] at hsq
  clear hwq hb1 k0 k1 k2 k3 l0 l1 l2 l3 hc0 hd0 hz0 fz0 hB hs0
  have hq := hzq; obtain ⟨r0, r1, r2, r3⟩ := hq
  have g0 := fzq 0; have g1 := fzq 1; have g2 := fzq 2; have g3 := fzq 3
  go_wp2
  have hq9 := BxC.set4 (hzq) 0 0 none 0 0 none 0 0
  obtain ⟨q0, q1, q2, q3⟩ := hq9
  refine bodyPost_ret (v := .tuple #[.agg #[.int .i64 0, .int .i64 0, .slice none 0 0, .slice none 0 0], .bool false]) (by simp [results, Tryz.results15, go_sem, q0, q1, q2, q3]) rfl ?_
  exact RetC.none_ (Zan hBq (by omega) _ _ _ _ _ _ _ _) HR.out rfl
 | true =>
  cases h1 : circB u v hs ps with
  | false =>
   have HR := zH (thenF_2 (x := x) (y := y) (gs := gs) (os := os) h1)
   have H0 := zH h0; have H1 := zH h1; clear h0 h1
   go_enter Tryz.func15, Tryz.ntmps15
   have hq := hc0; obtain ⟨k0, k1, k2, k3⟩ := hq
   have hq := hd0; obtain ⟨l0, l1, l2, l3⟩ := hq
   go_wp2_with fail
   refine Zai ((w.heap.size + 3)) ((((w.alloc (.cells #[.int .i64 x, .int .i64 y, .slice Ag ng cg, .slice Ao no co] 27)).alloc (.cells #[.int .i64 u, .int .i64 v, .slice Dg mg dg, .slice Do mo do_] 27)).alloc (.cells #[.int .i64 0, .int .i64 0, .slice none 0 0, .slice none 0 0] 27))) [(⟨w.heap.size, 0, none⟩, .int .i64 x), (⟨w.heap.size, 1, none⟩, .int .i64 y), (⟨w.heap.size, 2, none⟩, .slice Ag ng cg), (⟨w.heap.size, 3, none⟩, .slice Ao no co), (⟨w.heap.size + 1, 0, none⟩, .int .i64 u), (⟨w.heap.size + 1, 1, none⟩, .int .i64 v), (⟨w.heap.size + 1, 2, none⟩, .slice Dg mg dg), (⟨w.heap.size + 1, 3, none⟩, .slice Do mo do_)] (by kernel_rfl) (by kernel_rfl) (by simp only [List.mem_cons, forall_eq_or_imp, List.not_mem_nil, false_implies, implies_true, and_true]; repeat (any_goals (apply And.intro)); all_goals (first | assumption | go_simp)) ?_
   repeat (first
    | go_big_quiet_skip
    | (go_big_quiet_want
       apply Exists.intro
       refine ⟨fun w3 hw3 => ?_, ?_⟩
       ·have hcs := hw3.2
        simp only [List.mem_cons, forall_eq_or_imp, List.not_mem_nil, false_implies, implies_true, and_true] at hcs
        simp only [Oper.quietAt]
        go_simp
        first | done | exact ⟨rfl, rfl⟩ | rfl | (go_at_call_of 34 (Value.agg #[.int .i64 x, .int .i64 y, .slice Ag ng cg, .slice Ao no co]); refine (Zap x y Ag ng cg Ao no co gs os _ (hr.1.below (hB.trans (hw3.1.mono (by omega))) lR) (hr.2.below (hB.trans (hw3.1.mono (by omega))) lR) hng hno).mono ?_; rintro e w4 ⟨he, hb4⟩; rw [H0.out] at he; obtain rfl := he; exact ⟨rfl, hw3.next hb4 (by simp)⟩) | (go_at_call_of 34 (Value.agg #[.int .i64 u, .int .i64 v, .slice Dg mg dg, .slice Do mo do_]); refine (Zap u v Dg mg dg Do mo do_ hs ps _ (hr2.1.below (hB.trans (hw3.1.mono (by omega))) lR) (hr2.2.below (hB.trans (hw3.1.mono (by omega))) lR) hmg hmo).mono ?_; rintro e w4 ⟨he, hb4⟩; rw [H1.out] at he; obtain rfl := he; exact ⟨rfl, hw3.next hb4 (by simp)⟩)
       go_big_quiet_on
       try simp only [pA, pB, sA, sB, sC]))
   refine wpQuiet_nil ?_
   intro wq hwq
   have hb1 : Below (((w.alloc (.cells #[.int .i64 x, .int .i64 y, .slice Ag ng cg, .slice Ao no co] 27)).alloc (.cells #[.int .i64 u, .int .i64 v, .slice Dg mg dg, .slice Do mo do_] 27)).alloc (.cells #[.int .i64 0, .int .i64 0, .slice none 0 0, .slice none 0 0] 27)).heap.size (((w.alloc (.cells #[.int .i64 x, .int .i64 y, .slice Ag ng cg, .slice Ao no co] 27)).alloc (.cells #[.int .i64 u, .int .i64 v, .slice Dg mg dg, .slice Do mo do_] 27)).alloc (.cells #[.int .i64 0, .int .i64 0, .slice none 0 0, .slice none 0 0] 27)) wq := by rw [hs0]; exact hwq.1
   have hBq := hB.trans (hb1.mono hB.size)
   have hcq := hc0.below hb1
   have hdq := hd0.below hb1
   have hzq := hz0.below hb1
   have fzq := fz0.below hb1 (by rw [hs0]; omega)
   have hsq := hb1.size
   rw [hs0] at hsq
   clear hwq hb1 k0 k1 k2 k3 l0 l1 l2 l3 hc0 hd0 hz0 fz0 hB hs0
   have hq := hzq; obtain ⟨r0, r1, r2, r3⟩ := hq
   have g0 := fzq 0; have g1 := fzq 1; have g2 := fzq 2; have g3 := fzq 3
   go_wp2
   have hq9 := BxC.set4 (hzq) 0 0 none 0 0 none 0 0
   obtain ⟨q0, q1, q2, q3⟩ := hq9
   refine bodyPost_ret (v := .tuple #[.agg #[.int .i64 0, .int .i64 0, .slice none 0 0, .slice none 0 0], .bool false]) (by simp [results, Tryz.results15, go_sem, q0, q1, q2, q3]) rfl ?_
   exact RetC.none_ (Zan hBq (by omega) _ _ _ _ _ _ _ _) HR.out rfl
  | true =>
   have hbx := Zao h0
   have hbu := Zao h1
   have hgs := Zcs h0 hlg
   have hgh := Zcs h1 hlh
   have hps := circB_outs h1 hlh hlp
   have hgt : ∀ k : Nat, k < mg → GateIs (gg hs k) ((u + v) + k) := circB_gate_at h1 hlh
   have hx := hbx.1; have hy := hbx.2.1; have hu := hbu.1; have hv := hbu.2.1
   have hng3 : ng ≤ 300 := by have := hbx.2.2.1; omega
   have hmg3 : mg ≤ 300 := by have := hbu.2.2.1; omega
   have hno3 : no ≤ 40 := by have := hbx.2.2.2.1; omega
   have hmo3 : mo ≤ 40 := by have := hbu.2.2.2.1; omega
   have hao := hbu.2.2.2.2.2
   rw [hlh] at hao
   have H0 := zH h0; have H1 := zH h1; clear h0 h1 hbx hbu
   cases hE : ((no : Int) == u + v) with
   | false =>
    have hne : ¬ (no : Int) = u + v := by simpa using hE
    have hE2 : ((no : Int) != u + v) = true := by simpa using hE
    have hE3 : (!((no : Int) == u + v)) = true := by simpa using hE
    have HR := zH (thenF_3 (x := x) (y := y) (gs := gs) (hs := hs) (ps := ps) (u := u) (v := v) hlo hne); clear hne
    go_enter Tryz.func15, Tryz.ntmps15
    have hq := hc0; obtain ⟨k0, k1, k2, k3⟩ := hq
    have hq := hd0; obtain ⟨l0, l1, l2, l3⟩ := hq
    go_wp2_with fail
    refine Zai ((w.heap.size + 3)) ((((w.alloc (.cells #[.int .i64 x, .int .i64 y, .slice Ag ng cg, .slice Ao no co] 27)).alloc (.cells #[.int .i64 u, .int .i64 v, .slice Dg mg dg, .slice Do mo do_] 27)).alloc (.cells #[.int .i64 0, .int .i64 0, .slice none 0 0, .slice none 0 0] 27))) [(⟨w.heap.size, 0, none⟩, .int .i64 x), (⟨w.heap.size, 1, none⟩, .int .i64 y), (⟨w.heap.size, 2, none⟩, .slice Ag ng cg), (⟨w.heap.size, 3, none⟩, .slice Ao no co), (⟨w.heap.size + 1, 0, none⟩, .int .i64 u), (⟨w.heap.size + 1, 1, none⟩, .int .i64 v), (⟨w.heap.size + 1, 2, none⟩, .slice Dg mg dg), (⟨w.heap.size + 1, 3, none⟩, .slice Do mo do_)] (by kernel_rfl) (by kernel_rfl) (by simp only [List.mem_cons, forall_eq_or_imp, List.not_mem_nil, false_implies, implies_true, and_true]; repeat (any_goals (apply And.intro)); all_goals (first | assumption | go_simp)) ?_
    repeat (first
     | go_big_quiet_skip
     | (go_big_quiet_want
        apply Exists.intro
        refine ⟨fun w3 hw3 => ?_, ?_⟩
        ·have hcs := hw3.2
         simp only [List.mem_cons, forall_eq_or_imp, List.not_mem_nil, false_implies, implies_true, and_true] at hcs
         simp only [Oper.quietAt]
         go_simp
         first | done | exact ⟨rfl, rfl⟩ | rfl | (go_at_call_of 34 (Value.agg #[.int .i64 x, .int .i64 y, .slice Ag ng cg, .slice Ao no co]); refine (Zap x y Ag ng cg Ao no co gs os _ (hr.1.below (hB.trans (hw3.1.mono (by omega))) lR) (hr.2.below (hB.trans (hw3.1.mono (by omega))) lR) hng hno).mono ?_; rintro e w4 ⟨he, hb4⟩; rw [H0.out] at he; obtain rfl := he; exact ⟨rfl, hw3.next hb4 (by simp)⟩) | (go_at_call_of 34 (Value.agg #[.int .i64 u, .int .i64 v, .slice Dg mg dg, .slice Do mo do_]); refine (Zap u v Dg mg dg Do mo do_ hs ps _ (hr2.1.below (hB.trans (hw3.1.mono (by omega))) lR) (hr2.2.below (hB.trans (hw3.1.mono (by omega))) lR) hmg hmo).mono ?_; rintro e w4 ⟨he, hb4⟩; rw [H1.out] at he; obtain rfl := he; exact ⟨rfl, hw3.next hb4 (by simp)⟩) | (go_at_call 44; refine (Zbe u v Dg mg dg Do mo do_ _ hu hv).mono ?_; rintro e w4 ⟨rfl, hb4⟩; exact ⟨rfl, hw3.next hb4 (by simp)⟩)
        go_big_quiet_on
        try simp only [pA, pB, sA, sB, sC]))
    refine wpQuiet_nil ?_
    intro wq hwq
    have hb1 : Below (((w.alloc (.cells #[.int .i64 x, .int .i64 y, .slice Ag ng cg, .slice Ao no co] 27)).alloc (.cells #[.int .i64 u, .int .i64 v, .slice Dg mg dg, .slice Do mo do_] 27)).alloc (.cells #[.int .i64 0, .int .i64 0, .slice none 0 0, .slice none 0 0] 27)).heap.size (((w.alloc (.cells #[.int .i64 x, .int .i64 y, .slice Ag ng cg, .slice Ao no co] 27)).alloc (.cells #[.int .i64 u, .int .i64 v, .slice Dg mg dg, .slice Do mo do_] 27)).alloc (.cells #[.int .i64 0, .int .i64 0, .slice none 0 0, .slice none 0 0] 27)) wq := by rw [hs0]; exact hwq.1
    have hBq := hB.trans (hb1.mono hB.size)
    have hcq := hc0.below hb1
    have hdq := hd0.below hb1
    have hzq := hz0.below hb1
    have fzq := fz0.below hb1 (by rw [hs0]; omega)
    have hsq := hb1.size
    rw [hs0] at hsq
    clear hwq hb1 k0 k1 k2 k3 l0 l1 l2 l3 hc0 hd0 hz0 fz0 hB hs0
    have hq := hzq; obtain ⟨r0, r1, r2, r3⟩ := hq
    have g0 := fzq 0; have g1 := fzq 1; have g2 := fzq 2; have g3 := fzq 3
    go_wp2
    have hq9 := BxC.set4 (hzq) 0 0 none 0 0 none 0 0
    obtain ⟨q0, q1, q2, q3⟩ := hq9
    refine bodyPost_ret (v := .tuple #[.agg #[.int .i64 0, .int .i64 0, .slice none 0 0, .slice none 0 0], .bool false]) (by simp [results, Tryz.results15, go_sem, q0, q1, q2, q3]) rfl ?_
    exact RetC.none_ (Zan hBq (by omega) _ _ _ _ _ _ _ _) HR.out rfl
   | true =>
    have hE2 : ((no : Int) != u + v) = false := by simpa using hE
    have hE3 : (!((no : Int) == u + v)) = false := by simpa using hE
    have HE : Hid ((no : Int) = u + v) := zH (by simpa using hE)
    have hEa : (no : Int) ≤ u + v := by rw [HE.out]; omega
    have hEb : u + v ≤ (no : Int) := by rw [HE.out]; omega
    have HT := zH (thenF_t (x := x) (y := y) (gs := gs) (os := os) (hs := hs) (ps := ps) (u := u) (v := v) hlg hlo hlh hlp H0.out H1.out HE.out)
    go_enter Tryz.func15, Tryz.ntmps15
    have hq := hc0; obtain ⟨k0, k1, k2, k3⟩ := hq
    have hq := hd0; obtain ⟨l0, l1, l2, l3⟩ := hq
    go_wp2_with fail
    refine Zai ((w.heap.size + 3)) ((((w.alloc (.cells #[.int .i64 x, .int .i64 y, .slice Ag ng cg, .slice Ao no co] 27)).alloc (.cells #[.int .i64 u, .int .i64 v, .slice Dg mg dg, .slice Do mo do_] 27)).alloc (.cells #[.int .i64 0, .int .i64 0, .slice none 0 0, .slice none 0 0] 27))) [(⟨w.heap.size, 0, none⟩, .int .i64 x), (⟨w.heap.size, 1, none⟩, .int .i64 y), (⟨w.heap.size, 2, none⟩, .slice Ag ng cg), (⟨w.heap.size, 3, none⟩, .slice Ao no co), (⟨w.heap.size + 1, 0, none⟩, .int .i64 u), (⟨w.heap.size + 1, 1, none⟩, .int .i64 v), (⟨w.heap.size + 1, 2, none⟩, .slice Dg mg dg), (⟨w.heap.size + 1, 3, none⟩, .slice Do mo do_)] (by kernel_rfl) (by kernel_rfl) (by simp only [List.mem_cons, forall_eq_or_imp, List.not_mem_nil, false_implies, implies_true, and_true]; repeat (any_goals (apply And.intro)); all_goals (first | assumption | go_simp)) ?_
    repeat (first
     | go_big_quiet_skip
     | (go_big_quiet_want
        apply Exists.intro
        refine ⟨fun w3 hw3 => ?_, ?_⟩
        ·have hcs := hw3.2
         simp only [List.mem_cons, forall_eq_or_imp, List.not_mem_nil, false_implies, implies_true, and_true] at hcs
         simp only [Oper.quietAt]
         go_simp
         first | done | exact ⟨rfl, rfl⟩ | rfl | (go_at_call_of 34 (Value.agg #[.int .i64 x, .int .i64 y, .slice Ag ng cg, .slice Ao no co]); refine (Zap x y Ag ng cg Ao no co gs os _ (hr.1.below (hB.trans (hw3.1.mono (by omega))) lR) (hr.2.below (hB.trans (hw3.1.mono (by omega))) lR) hng hno).mono ?_; rintro e w4 ⟨he, hb4⟩; rw [H0.out] at he; obtain rfl := he; exact ⟨rfl, hw3.next hb4 (by simp)⟩) | (go_at_call_of 34 (Value.agg #[.int .i64 u, .int .i64 v, .slice Dg mg dg, .slice Do mo do_]); refine (Zap u v Dg mg dg Do mo do_ hs ps _ (hr2.1.below (hB.trans (hw3.1.mono (by omega))) lR) (hr2.2.below (hB.trans (hw3.1.mono (by omega))) lR) hmg hmo).mono ?_; rintro e w4 ⟨he, hb4⟩; rw [H1.out] at he; obtain rfl := he; exact ⟨rfl, hw3.next hb4 (by simp)⟩) | (go_at_call 44; refine (Zbe u v Dg mg dg Do mo do_ _ hu hv).mono ?_; rintro e w4 ⟨rfl, hb4⟩; exact ⟨rfl, hw3.next hb4 (by simp)⟩)
        go_big_quiet_on
        try simp only [pA, pB, sA, sB, sC]))
    refine wpQuiet_nil ?_
    intro wq hwq
    have hb1 : Below (((w.alloc (.cells #[.int .i64 x, .int .i64 y, .slice Ag ng cg, .slice Ao no co] 27)).alloc (.cells #[.int .i64 u, .int .i64 v, .slice Dg mg dg, .slice Do mo do_] 27)).alloc (.cells #[.int .i64 0, .int .i64 0, .slice none 0 0, .slice none 0 0] 27)).heap.size (((w.alloc (.cells #[.int .i64 x, .int .i64 y, .slice Ag ng cg, .slice Ao no co] 27)).alloc (.cells #[.int .i64 u, .int .i64 v, .slice Dg mg dg, .slice Do mo do_] 27)).alloc (.cells #[.int .i64 0, .int .i64 0, .slice none 0 0, .slice none 0 0] 27)) wq := by rw [hs0]; exact hwq.1
    have hBq := hB.trans (hb1.mono hB.size)
    have hcq := hc0.below hb1
    have hdq := hd0.below hb1
    have hzq := hz0.below hb1
    have fzq := fz0.below hb1 (by rw [hs0]; omega)
    have hsq := hb1.size
    rw [hs0] at hsq
    clear hwq hb1 k0 k1 k2 k3 l0 l1 l2 l3 hc0 hd0 hz0 fz0 hB hs0
    clear hE hE2 hE3
    have hq := hcq; obtain ⟨k0, k1, k2, k3⟩ := hq
    have hq := hdq; obtain ⟨l0, l1, l2, l3⟩ := hq
    have hgt' : ∀ k : Nat, k < mg → GateIs (gg hs k) ((no : Int) + k) := fun k hk => by have h := hgt k hk; rwa [HE.out]
    go_wp2_with fail
    refine Zav (12) [(⟨w.heap.size, 0, none⟩, .int .i64 x), (⟨w.heap.size, 1, none⟩, .int .i64 y), (⟨w.heap.size, 2, none⟩, .slice Ag ng cg), (⟨w.heap.size, 3, none⟩, .slice Ao no co), (⟨w.heap.size + 1, 0, none⟩, .int .i64 u), (⟨w.heap.size + 1, 1, none⟩, .int .i64 v), (⟨w.heap.size + 1, 2, none⟩, .slice Dg mg dg), (⟨w.heap.size + 1, 3, none⟩, .slice Do mo do_)] [(5, [], []), (6, [], [])] [6] [(5, Res.plain (.int .i64 (x + y + ng))), (6, Res.two wq.heap.size mg (no + mg) (mvs (wmap os (x + y + ng)) hs mg) (mws os (x + y + ng) mg) (tupV mg (no + mg)))] (by kernel_rfl) (by kernel_rfl) (by kernel_rfl) (by simp only [cD, cC, and_true]; repeat (any_goals (apply And.intro)); all_goals (first | assumption | go_simp)) ?_
    simp only [List.take_succ_cons, List.take_zero, List.drop_succ_cons, List.drop_zero, List.take_nil, List.drop_nil, List.take, List.drop]
    repeat (first
     | ((first
      | ((with_reducible refine Zad ?_ ?_ ?_)
         ·exact rfl
         ·exact rfl)
      | ((with_reducible refine Zag ?_ ?_ ?_)
         ·exact rfl
         ·exact Zaa rfl rfl rfl rfl))
        intro K hK
        apply Exists.intro
        refine ⟨fun w3 hw3 => ?_, ?_⟩
        ·have hcs := hw3
         simp only [cD, cC, and_true] at hcs
         clear hw3
         go_simp
         first | done | exact ⟨rfl, rfl⟩ | rfl
        refine hK _ ?_
        clear hK K
        try simp only [pA, pB, sA, sB, sC])
     | ((with_reducible refine Zaf ?_ ?_ ?_)
        ·exact rfl
        ·exact Zab rfl rfl rfl rfl
        simp only [pA, pB, sA, sB, sC]))
    focus
     (with_reducible refine Zbc (.int .i64 (x + y + ng)) ?_ ?_ ?_ ?_ (hw := ?_))
     ·exact rfl
     ·exact rfl
     ·intro w3 hw3 hc3 hp3
      have hcs := hc3
      simp only [cD, cC, and_true] at hcs
      (go_simp; refine (Zba x y Ag ng cg Ao no co _ hx hy (by omega)).mono ?_; rintro e w4 ⟨rfl, hb4⟩; exact retPost.mk_ (postPlain.mk_ hb4))
     rotate_left
     ·first | exact Zac rfl | exact Zaa rfl rfl rfl rfl
     try simp only [pA, pB, sA, sB, sC]
    refine mem_two wq.heap.size mg (no + mg) (mvs (wmap os (x + y + ng)) hs mg) (mws os (x + y + ng) mg) (tupV mg (no + mg)) (fun h => tupV_inj h) (by rfl) (by rfl) (by omega) (fun w3 hw3 hc3 hp3 => ?_) (fun A2 c2 O2 d2 => ?_)
    ·have hb3 := hBq.trans ((Zam hw3).mono hBq.size)
     go_simp
     refine (ciMoved_any Dg mg dg Ao no co hs os (x + y + ng) _ (hr2.1.below hb3 lR) (hr.2.below hb3 lR) hgt' (by omega) (by omega) (by omega)).mono ?_
     rintro e w4 ⟨A4, c4, O4, d4, rfl, hC4, hb4⟩
     exact retPost.mk_ (postTwo.mk_ A4 c4 O4 d4 rfl hC4 hb4)
    simp only [tupV, Act.put, List.setIfInBounds_toArray, List.set_cons_zero, List.set_cons_succ]
    repeat (first
     | ((first
      | ((with_reducible refine Zad ?_ ?_ ?_)
         ·exact rfl
         ·exact rfl)
      | ((with_reducible refine Zag ?_ ?_ ?_)
         ·exact rfl
         ·exact Zaa rfl rfl rfl rfl))
        intro K hK
        apply Exists.intro
        refine ⟨fun w3 hw3 => ?_, ?_⟩
        ·have hcs := hw3
         simp only [cD, cC, and_true] at hcs
         clear hw3
         go_simp
         first | done | exact ⟨rfl, rfl⟩ | rfl
        refine hK _ ?_
        clear hK K
        try simp only [pA, pB, sA, sB, sC])
     | ((with_reducible refine Zaf ?_ ?_ ?_)
        ·exact rfl
        ·exact Zab rfl rfl rfl rfl
        simp only [pA, pB, sA, sB, sC]))
    refine Zat ?_
    intro wt hwt hct hfin hap
    have hC : OwnC wt wq.heap.size wt.heap.size A2 mg c2 O2 (no + mg) d2 (mvs (wmap os (x + y + ng)) hs mg) (mws os (x + y + ng) mg) := hfin.1.1 A2 c2 O2 d2 rfl
    have hbt := Zam hwt
    have hzt := hbt.size
    have hBt := hBq.trans (hbt.mono hBq.size)
    have hct' := hcq.below hbt
    have hdt := hdq.below hbt
    have hzzt := hzq.below hbt
    have fzt := fzq.below hbt hzq.lt
    clear hfin hap hct hwt hcq hdq hzq fzq hBq k0 k1 k2 k3 l0 l1 l2 l3 hbt
    have hq := hct'; obtain ⟨k0, k1, k2, k3⟩ := hq
    have hq := hdt; obtain ⟨l0, l1, l2, l3⟩ := hq
    have HP : Hid (pick (mws os (x + y + ng) mg) ps = (mvo (wmap os (x + y + ng)) ps mo)) := zH (pick_mws hlp (fun j hj => by have := hps j hj; omega) (fun z h0 h1 => rfl))
    have hpl : (pick (mws os (x + y + ng) mg) ps).length = mo := by rw [Zbs]; exact hlp
    have hao' : allB 0 (((no + mg : Nat) : Int) - 1) ps = true := by rw [show ((no + mg : Nat) : Int) - 1 = u + v + mg - 1 by omega]; exact hao
    cases h2 : circB x y (gs ++ mvs (wmap os (x + y + ng)) hs mg) (mvo (wmap os (x + y + ng)) ps mo) with
    | false =>
     have HR : Hid (thenF x y gs os u v hs ps = none) := zH (by rw [HT.out, h2]; rfl)
     have H2 := zH h2; clear h2
     go_wp2_with fail
     refine Zav (18) [(⟨w.heap.size, 0, none⟩, .int .i64 x), (⟨w.heap.size, 1, none⟩, .int .i64 y), (⟨w.heap.size, 2, none⟩, .slice Ag ng cg), (⟨w.heap.size, 3, none⟩, .slice Ao no co), (⟨w.heap.size + 1, 0, none⟩, .int .i64 u), (⟨w.heap.size + 1, 1, none⟩, .int .i64 v), (⟨w.heap.size + 1, 2, none⟩, .slice Dg mg dg), (⟨w.heap.size + 1, 3, none⟩, .slice Do mo do_)] [(4, [], []), (7, [4], [4]), (9, [7], [7]), (13, [], []), (15, [9, 13], [])] [] [(4, Res.rowG wt.heap.size 0 []), (7, Res.rowG wt.heap.size ng gs), (9, Res.rowG wt.heap.size (ng + mg) (gs ++ mvs (wmap os (x + y + ng)) hs mg)), (13, Res.row wt.heap.size mo (mvo (wmap os (x + y + ng)) ps mo)), (15, Res.plain (.tuple #[.agg #[.int .i64 0, .int .i64 0, .slice none 0 0, .slice none 0 0], .bool false]))] (by kernel_rfl) (by kernel_rfl) (by kernel_rfl) (by simp only [cD, cC, and_true]; repeat (any_goals (apply And.intro)); all_goals (first | assumption | go_simp)) ?_
     simp only [List.take_succ_cons, List.take_zero, List.drop_succ_cons, List.drop_zero, List.take_nil, List.drop_nil, List.take, List.drop]
     repeat (first
      | ((first
       | ((with_reducible refine Zad ?_ ?_ ?_)
          ·exact rfl
          ·exact rfl)
       | ((with_reducible refine Zag ?_ ?_ ?_)
          ·exact rfl
          ·exact Zaa rfl rfl rfl rfl))
         intro K hK
         apply Exists.intro
         refine ⟨fun w3 hw3 => ?_, ?_⟩
         ·have hcs := hw3
          simp only [cD, cC, and_true] at hcs
          clear hw3
          go_simp
          first | done | exact ⟨rfl, rfl⟩ | rfl
         refine hK _ ?_
         clear hK K
         try simp only [pA, pB, sA, sB, sC])
      | ((with_reducible refine Zaf ?_ ?_ ?_)
         ·exact rfl
         ·exact Zab rfl rfl rfl rfl
         simp only [pA, pB, sA, sB, sC]))
     focus
      (with_reducible refine mem_rowG wt.heap.size 0 [] ?_ ?_ ?_ ?_ ?_ (hw := ?_))
      ·exact rfl
      ·exact rfl
      ·omega
      ·intro w3 hw3 hc3 hp3
       have hcs := hc3
       simp only [cD, cC, and_true] at hcs
       (go_simp; exact postRowG.new0 _)
      rotate_left
      ·first | exact Zac rfl | exact Zaa rfl rfl rfl rfl
      intro A3 c3
      try simp only [pA, pB, sA, sB, sC]
     repeat (first
      | ((first
       | ((with_reducible refine Zad ?_ ?_ ?_)
          ·exact rfl
          ·exact rfl)
       | ((with_reducible refine Zag ?_ ?_ ?_)
          ·exact rfl
          ·exact Zaa rfl rfl rfl rfl))
         intro K hK
         apply Exists.intro
         refine ⟨fun w3 hw3 => ?_, ?_⟩
         ·have hcs := hw3
          simp only [cD, cC, and_true] at hcs
          clear hw3
          go_simp
          first | done | exact ⟨rfl, rfl⟩ | rfl
         refine hK _ ?_
         clear hK K
         try simp only [pA, pB, sA, sB, sC])
      | ((with_reducible refine Zaf ?_ ?_ ?_)
         ·exact rfl
         ·exact Zab rfl rfl rfl rfl
         simp only [pA, pB, sA, sB, sC]))
     refine mem_appG0 4 wt.heap.size ng gs A3 c3 Ag cg (.tmp 39) (.tmp 41) (by rfl) (by rfl) (by omega) (by rfl) (by rfl) (by decide) (by rfl) (by rfl) (by rfl) (by rfl) (by omega) (fun w3 hw3 hc3 hp3 => hr.1.below (hBt.trans ((Zam hw3).mono hBt.size)) lR) (fun A4 c4 => ?_)
     try simp only [pA, pB, sA, sB, sC]
     repeat (first
      | ((first
       | ((with_reducible refine Zad ?_ ?_ ?_)
          ·exact rfl
          ·exact rfl)
       | ((with_reducible refine Zag ?_ ?_ ?_)
          ·exact rfl
          ·exact Zaa rfl rfl rfl rfl))
         intro K hK
         apply Exists.intro
         refine ⟨fun w3 hw3 => ?_, ?_⟩
         ·have hcs := hw3
          simp only [cD, cC, and_true] at hcs
          clear hw3
          go_simp
          first | done | exact ⟨rfl, rfl⟩ | rfl
         refine hK _ ?_
         clear hK K
         try simp only [pA, pB, sA, sB, sC])
      | ((with_reducible refine Zaf ?_ ?_ ?_)
         ·exact rfl
         ·exact Zab rfl rfl rfl rfl
         simp only [pA, pB, sA, sB, sC]))
     refine mem_appG 7 wt.heap.size ng mg gs (mvs (wmap os (x + y + ng)) hs mg) A4 c4 A2 c2 (.tmp 42) (.tmp 43) (by rfl) (by rfl) (by omega) (by rfl) (by rfl) (by decide) (by rfl) (by rfl) (by rfl) (by rfl) (by omega) (fun w3 hw3 hc3 hp3 => (hC.1.below (Zam hw3) (.inl lR)).reads) (fun A5 c5 => ?_)
     try simp only [pA, pB, sA, sB, sC]
     repeat (first
      | ((first
       | ((with_reducible refine Zad ?_ ?_ ?_)
          ·exact rfl
          ·exact rfl)
       | ((with_reducible refine Zag ?_ ?_ ?_)
          ·exact rfl
          ·exact Zaa rfl rfl rfl rfl))
         intro K hK
         apply Exists.intro
         refine ⟨fun w3 hw3 => ?_, ?_⟩
         ·have hcs := hw3
          simp only [cD, cC, and_true] at hcs
          clear hw3
          go_simp
          first | done | exact ⟨rfl, rfl⟩ | rfl
         refine hK _ ?_
         clear hK K
         try simp only [pA, pB, sA, sB, sC])
      | ((with_reducible refine Zaf ?_ ?_ ?_)
         ·exact rfl
         ·exact Zab rfl rfl rfl rfl
         simp only [pA, pB, sA, sB, sC]))
     focus
      (with_reducible refine Zbt wt.heap.size mo (mvo (wmap os (x + y + ng)) ps mo) ?_ ?_ ?_ ?_ ?_ (hw := ?_))
      ·exact rfl
      ·exact rfl
      ·omega
      ·intro w3 hw3 hc3 hp3
       have hcs := hc3
       simp only [cD, cC, and_true] at hcs
       (have hxr := (hC.2.1.below (Zam hw3) (.inl lR)).reads; have hor := hr2.2.below (hBt.trans ((Zam hw3).mono hBt.size)) lR; go_simp; refine (ciPick_any O2 Do (no + mg) d2 mo do_ _ ps _ hxr hor (by omega) (by omega) hao').mono ?_; rintro e w4 hT; obtain ⟨A7, c7, rfl, ho4, hb4⟩ := hT.open_ hpl; rw [HP.out] at ho4; exact retPost.mk_ (postRow.mk_ ho4 hb4))
      rotate_left
      ·first | exact Zac rfl | exact Zaa rfl rfl rfl rfl
      intro A6 c6
      try simp only [pA, pB, sA, sB, sC]
     repeat (first
      | ((first
       | ((with_reducible refine Zad ?_ ?_ ?_)
          ·exact rfl
          ·exact rfl)
       | ((with_reducible refine Zag ?_ ?_ ?_)
          ·exact rfl
          ·exact Zaa rfl rfl rfl rfl))
         intro K hK
         apply Exists.intro
         refine ⟨fun w3 hw3 => ?_, ?_⟩
         ·have hcs := hw3
          simp only [cD, cC, and_true] at hcs
          clear hw3
          go_simp
          first | done | exact ⟨rfl, rfl⟩ | rfl
         refine hK _ ?_
         clear hK K
         try simp only [pA, pB, sA, sB, sC])
      | ((with_reducible refine Zaf ?_ ?_ ?_)
         ·exact rfl
         ·exact Zab rfl rfl rfl rfl
         simp only [pA, pB, sA, sB, sC]))
     focus
      (with_reducible refine Zbc (.tuple #[.agg #[.int .i64 0, .int .i64 0, .slice none 0 0, .slice none 0 0], .bool false]) ?_ ?_ ?_ ?_ (hw := ?_))
      ·exact rfl
      ·exact rfl
      ·intro w3 hw3 hc3 hp3
       have hcs := hc3
       simp only [cD, cC, and_true] at hcs
       (have h9 : OwnG w3 wt.heap.size w3.heap.size (.slice A5 (ng + mg) c5) (ng + mg) (gs ++ mvs (wmap os (x + y + ng)) hs mg) := hp3.1.1.1; have h13 : Own w3 wt.heap.size w3.heap.size (.slice A6 mo c6) mo (mvo (wmap os (x + y + ng)) ps mo) := hp3.1.2.1.1; go_simp; refine (ciIf_f x y A5 (ng + mg) c5 A6 mo c6 (gs ++ mvs (wmap os (x + y + ng)) hs mg) (mvo (wmap os (x + y + ng)) ps mo) _ h9.reads h13.reads (by omega) (by omega) H2.out).mono ?_; rintro e w4 ⟨rfl, hb4⟩; exact retPost.mk_ (postPlain.mk_ hb4))
      rotate_left
      ·first | exact Zac rfl | exact Zaa rfl rfl rfl rfl
      try simp only [pA, pB, sA, sB, sC]
     repeat (first
      | ((first
       | ((with_reducible refine Zad ?_ ?_ ?_)
          ·exact rfl
          ·exact rfl)
       | ((with_reducible refine Zag ?_ ?_ ?_)
          ·exact rfl
          ·exact Zaa rfl rfl rfl rfl))
         intro K hK
         apply Exists.intro
         refine ⟨fun w3 hw3 => ?_, ?_⟩
         ·have hcs := hw3
          simp only [cD, cC, and_true] at hcs
          clear hw3
          go_simp
          first | done | exact ⟨rfl, rfl⟩ | rfl
         refine hK _ ?_
         clear hK K
         try simp only [pA, pB, sA, sB, sC])
      | ((with_reducible refine Zaf ?_ ?_ ?_)
         ·exact rfl
         ·exact Zab rfl rfl rfl rfl
         simp only [pA, pB, sA, sB, sC]))
     refine Zat ?_
     intro wz hwz hcz hfin hap
     have hbz := Zam hwz
     have hrz9 := hzzt.below hbz
     have fz9 := fzt.below hbz hzzt.lt
     have hB9 := hBt.trans (hbz.mono hBt.size)
     have hq := hrz9; obtain ⟨r0, r1, r2, r3⟩ := hq
     have j0 := fz9 0; have j1 := fz9 1; have j2 := fz9 2; have j3 := fz9 3
     go_wp2
     have hq9 := BxC.set4 (hrz9) 0 0 none 0 0 none 0 0
     obtain ⟨q0, q1, q2, q3⟩ := hq9
     refine bodyPost_ret (v := .tuple #[.agg #[.int .i64 0, .int .i64 0, .slice none 0 0, .slice none 0 0], .bool false]) (by simp [results, Tryz.results15, go_sem, q0, q1, q2, q3]) rfl ?_
     exact RetC.none_ (Zan hB9 (by omega) _ _ _ _ _ _ _ _) HR.out rfl
    | true =>
     have HR : Hid (thenF x y gs os u v hs ps = some ⟨x, y, (gs ++ mvs (wmap os (x + y + ng)) hs mg), (mvo (wmap os (x + y + ng)) ps mo)⟩) := zH (by rw [HT.out, h2]; rfl)
     have H2 := zH h2; clear h2
     go_wp2_with fail
     refine Zav (18) [(⟨w.heap.size, 0, none⟩, .int .i64 x), (⟨w.heap.size, 1, none⟩, .int .i64 y), (⟨w.heap.size, 2, none⟩, .slice Ag ng cg), (⟨w.heap.size, 3, none⟩, .slice Ao no co), (⟨w.heap.size + 1, 0, none⟩, .int .i64 u), (⟨w.heap.size + 1, 1, none⟩, .int .i64 v), (⟨w.heap.size + 1, 2, none⟩, .slice Dg mg dg), (⟨w.heap.size + 1, 3, none⟩, .slice Do mo do_)] [(4, [], []), (7, [4], [4]), (9, [7], [7]), (13, [], []), (15, [9, 13], [9, 13])] [15] [(4, Res.rowG wt.heap.size 0 []), (7, Res.rowG wt.heap.size ng gs), (9, Res.rowG wt.heap.size (ng + mg) (gs ++ mvs (wmap os (x + y + ng)) hs mg)), (13, Res.row wt.heap.size mo (mvo (wmap os (x + y + ng)) ps mo)), (15, Res.circ wt.heap.size x y (ng + mg) mo (gs ++ mvs (wmap os (x + y + ng)) hs mg) (mvo (wmap os (x + y + ng)) ps mo) true)] (by kernel_rfl) (by kernel_rfl) (by kernel_rfl) (by simp only [cD, cC, and_true]; repeat (any_goals (apply And.intro)); all_goals (first | assumption | go_simp)) ?_
     simp only [List.take_succ_cons, List.take_zero, List.drop_succ_cons, List.drop_zero, List.take_nil, List.drop_nil, List.take, List.drop]
     repeat (first
      | ((first
       | ((with_reducible refine Zad ?_ ?_ ?_)
          ·exact rfl
          ·exact rfl)
       | ((with_reducible refine Zag ?_ ?_ ?_)
          ·exact rfl
          ·exact Zaa rfl rfl rfl rfl))
         intro K hK
         apply Exists.intro
         refine ⟨fun w3 hw3 => ?_, ?_⟩
         ·have hcs := hw3
          simp only [cD, cC, and_true] at hcs
          clear hw3
          go_simp
          first | done | exact ⟨rfl, rfl⟩ | rfl
         refine hK _ ?_
         clear hK K
         try simp only [pA, pB, sA, sB, sC])
      | ((with_reducible refine Zaf ?_ ?_ ?_)
         ·exact rfl
         ·exact Zab rfl rfl rfl rfl
         simp only [pA, pB, sA, sB, sC]))
     focus
      (with_reducible refine mem_rowG wt.heap.size 0 [] ?_ ?_ ?_ ?_ ?_ (hw := ?_))
      ·exact rfl
      ·exact rfl
      ·omega
      ·intro w3 hw3 hc3 hp3
       have hcs := hc3
       simp only [cD, cC, and_true] at hcs
       (go_simp; exact postRowG.new0 _)
      rotate_left
      ·first | exact Zac rfl | exact Zaa rfl rfl rfl rfl
      intro A3 c3
      try simp only [pA, pB, sA, sB, sC]
     repeat (first
      | ((first
       | ((with_reducible refine Zad ?_ ?_ ?_)
          ·exact rfl
          ·exact rfl)
       | ((with_reducible refine Zag ?_ ?_ ?_)
          ·exact rfl
          ·exact Zaa rfl rfl rfl rfl))
         intro K hK
         apply Exists.intro
         refine ⟨fun w3 hw3 => ?_, ?_⟩
         ·have hcs := hw3
          simp only [cD, cC, and_true] at hcs
          clear hw3
          go_simp
          first | done | exact ⟨rfl, rfl⟩ | rfl
         refine hK _ ?_
         clear hK K
         try simp only [pA, pB, sA, sB, sC])
      | ((with_reducible refine Zaf ?_ ?_ ?_)
         ·exact rfl
         ·exact Zab rfl rfl rfl rfl
         simp only [pA, pB, sA, sB, sC]))
     refine mem_appG0 4 wt.heap.size ng gs A3 c3 Ag cg (.tmp 39) (.tmp 41) (by rfl) (by rfl) (by omega) (by rfl) (by rfl) (by decide) (by rfl) (by rfl) (by rfl) (by rfl) (by omega) (fun w3 hw3 hc3 hp3 => hr.1.below (hBt.trans ((Zam hw3).mono hBt.size)) lR) (fun A4 c4 => ?_)
     try simp only [pA, pB, sA, sB, sC]
     repeat (first
      | ((first
       | ((with_reducible refine Zad ?_ ?_ ?_)
          ·exact rfl
          ·exact rfl)
       | ((with_reducible refine Zag ?_ ?_ ?_)
          ·exact rfl
          ·exact Zaa rfl rfl rfl rfl))
         intro K hK
         apply Exists.intro
         refine ⟨fun w3 hw3 => ?_, ?_⟩
         ·have hcs := hw3
          simp only [cD, cC, and_true] at hcs
          clear hw3
          go_simp
          first | done | exact ⟨rfl, rfl⟩ | rfl
         refine hK _ ?_
         clear hK K
         try simp only [pA, pB, sA, sB, sC])
      | ((with_reducible refine Zaf ?_ ?_ ?_)
         ·exact rfl
         ·exact Zab rfl rfl rfl rfl
         simp only [pA, pB, sA, sB, sC]))
     refine mem_appG 7 wt.heap.size ng mg gs (mvs (wmap os (x + y + ng)) hs mg) A4 c4 A2 c2 (.tmp 42) (.tmp 43) (by rfl) (by rfl) (by omega) (by rfl) (by rfl) (by decide) (by rfl) (by rfl) (by rfl) (by rfl) (by omega) (fun w3 hw3 hc3 hp3 => (hC.1.below (Zam hw3) (.inl lR)).reads) (fun A5 c5 => ?_)
     try simp only [pA, pB, sA, sB, sC]
     repeat (first
      | ((first
       | ((with_reducible refine Zad ?_ ?_ ?_)
          ·exact rfl
          ·exact rfl)
       | ((with_reducible refine Zag ?_ ?_ ?_)
          ·exact rfl
          ·exact Zaa rfl rfl rfl rfl))
         intro K hK
         apply Exists.intro
         refine ⟨fun w3 hw3 => ?_, ?_⟩
         ·have hcs := hw3
          simp only [cD, cC, and_true] at hcs
          clear hw3
          go_simp
          first | done | exact ⟨rfl, rfl⟩ | rfl
         refine hK _ ?_
         clear hK K
         try simp only [pA, pB, sA, sB, sC])
      | ((with_reducible refine Zaf ?_ ?_ ?_)
         ·exact rfl
         ·exact Zab rfl rfl rfl rfl
         simp only [pA, pB, sA, sB, sC]))
     focus
      (with_reducible refine Zbt wt.heap.size mo (mvo (wmap os (x + y + ng)) ps mo) ?_ ?_ ?_ ?_ ?_ (hw := ?_))
      ·exact rfl
      ·exact rfl
      ·omega
      ·intro w3 hw3 hc3 hp3
       have hcs := hc3
       simp only [cD, cC, and_true] at hcs
       (have hxr := (hC.2.1.below (Zam hw3) (.inl lR)).reads; have hor := hr2.2.below (hBt.trans ((Zam hw3).mono hBt.size)) lR; go_simp; refine (ciPick_any O2 Do (no + mg) d2 mo do_ _ ps _ hxr hor (by omega) (by omega) hao').mono ?_; rintro e w4 hT; obtain ⟨A7, c7, rfl, ho4, hb4⟩ := hT.open_ hpl; rw [HP.out] at ho4; exact retPost.mk_ (postRow.mk_ ho4 hb4))
      rotate_left
      ·first | exact Zac rfl | exact Zaa rfl rfl rfl rfl
      intro A6 c6
      try simp only [pA, pB, sA, sB, sC]
     repeat (first
      | ((first
       | ((with_reducible refine Zad ?_ ?_ ?_)
          ·exact rfl
          ·exact rfl)
       | ((with_reducible refine Zag ?_ ?_ ?_)
          ·exact rfl
          ·exact Zaa rfl rfl rfl rfl))
         intro K hK
         apply Exists.intro
         refine ⟨fun w3 hw3 => ?_, ?_⟩
         ·have hcs := hw3
          simp only [cD, cC, and_true] at hcs
          clear hw3
          go_simp
          first | done | exact ⟨rfl, rfl⟩ | rfl
         refine hK _ ?_
         clear hK K
         try simp only [pA, pB, sA, sB, sC])
      | ((with_reducible refine Zaf ?_ ?_ ?_)
         ·exact rfl
         ·exact Zab rfl rfl rfl rfl
         simp only [pA, pB, sA, sB, sC]))
     refine mem_circ 9 13 wt.heap.size x y (ng + mg) mo (gs ++ mvs (wmap os (x + y + ng)) hs mg) (mvo (wmap os (x + y + ng)) ps mo) true A5 c5 A6 c6 (by rfl) (by rfl) (by rfl) (by rfl) (by rfl) (by decide) (by decide) (by decide) (by rfl) (by rfl) (fun w3 hw3 hc3 hp3 hO3 => ?_) (fun A9 c9 O9 d9 => ?_)
     ·go_simp
      refine (ciIf_t x y A5 (ng + mg) c5 A6 mo c6 (gs ++ mvs (wmap os (x + y + ng)) hs mg) (mvo (wmap os (x + y + ng)) ps mo) _ hO3.reads.1 hO3.reads.2 (by omega) (by omega) H2.out).mono ?_
      rintro e w4 ⟨rfl, hb4⟩
      exact retPost.mk_ (postIs.mk_ hb4)
     simp only [circV, Act.put, List.setIfInBounds_toArray, List.set_cons_zero, List.set_cons_succ]
     repeat (first
      | ((first
       | ((with_reducible refine Zad ?_ ?_ ?_)
          ·exact rfl
          ·exact rfl)
       | ((with_reducible refine Zag ?_ ?_ ?_)
          ·exact rfl
          ·exact Zaa rfl rfl rfl rfl))
         intro K hK
         apply Exists.intro
         refine ⟨fun w3 hw3 => ?_, ?_⟩
         ·have hcs := hw3
          simp only [cD, cC, and_true] at hcs
          clear hw3
          go_simp
          first | done | exact ⟨rfl, rfl⟩ | rfl
         refine hK _ ?_
         clear hK K
         try simp only [pA, pB, sA, sB, sC])
      | ((with_reducible refine Zaf ?_ ?_ ?_)
         ·exact rfl
         ·exact Zab rfl rfl rfl rfl
         simp only [pA, pB, sA, sB, sC]))
     refine Zat ?_
     intro wz hwz hcz hfin hap
     have hC9 : OwnC wz wt.heap.size wz.heap.size A9 (ng + mg) c9 O9 mo d9 (gs ++ mvs (wmap os (x + y + ng)) hs mg) (mvo (wmap os (x + y + ng)) ps mo) := hfin.1.1 A9 c9 O9 d9 rfl
     clear hfin hap
     have hbz := Zam hwz
     have hrz9 := hzzt.below hbz
     have fz9 := fzt.below hbz hzzt.lt
     have hB9 := hBt.trans (hbz.mono hBt.size)
     have hgl := hC9.1.len
     have hol := hC9.2.1.len
     have hq := hrz9; obtain ⟨r0, r1, r2, r3⟩ := hq
     have j0 := fz9 0; have j1 := fz9 1; have j2 := fz9 2; have j3 := fz9 3
     go_wp2
     have hq9 := BxC.set4 (hrz9) x y A9 (ng + mg) c9 O9 mo d9
     obtain ⟨q0, q1, q2, q3⟩ := hq9
     refine bodyPost_ret (v := .tuple #[.agg #[.int .i64 x, .int .i64 y, .slice A9 (ng + mg) c9, .slice O9 mo d9], .bool true]) (by simp [results, Tryz.results15, go_sem, q0, q1, q2, q3]) rfl ?_
     exact RetC.some_ (Zan hB9 (by omega) _ _ _ _ _ _ _ _) HR.out hgl hol rfl (by rw [Zbr]; exact ((hC9.set4 (.inl (by omega)) _ _ _ _ _ _ _ _).lo_ (by omega)))
end Go.Proofs.YtnhmfedegfcflaaGreatDoor
